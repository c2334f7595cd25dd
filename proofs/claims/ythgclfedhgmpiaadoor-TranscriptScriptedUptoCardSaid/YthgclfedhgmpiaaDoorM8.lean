/- TranscriptScripted: the challenges that a transcript has drawn, given to a Script as an Oracle, come out of it again in the same order, and it hears what the transcript was told. For labels and steps that are not more than the second form's bound. The tables lie as the program's text lays them. -/
import Derived.Test.YthgclfedhgmpiaaDoorM7
import Derived.Test.YthgclfedhgmpiaaDoorM4
import Derived.Test.YthgclfedhgmpiaaDoorCards
import Derived.Test.YthgclfedhgmpiaaDoorTie
import Derived.WalkKit
import Derived.ProofKit
import Derived.OpenShut
import Derived.Carry
import Derived.Deep.DeepHandedRow
import Derived.Lib.LaidTab
import Derived.Test.YthgclfedhgmpiaaDoorM5
import Derived.ChangeSlices
import Derived.SizedLaws
import Derived.Stop.LaidErr
import Derived.Test.YthgclfedhgmpiaaDoorM6
import Derived.Test.YthgclfedhgmpiaaDoorRows

/- The same calls on an Oracle that is a Script. -/
namespace Go.Sp
open Go.Gx
def bothJ (S : Scr) (d : RO) : Nat → Scr × List (List Int) × Nat
 | 0 => (S, [], 0)
 | j + 1 =>
  if roZ (roN (roN d j) 0) = 1 then (⟨(bothJ S d j).1.l, (bothJ S d j).1.off, (bothJ S d j).1.len, (bothJ S d j).1.ds ++ [heardA (roS (roN (roN d j) 2)) (roN (roN d j) 3)], (bothJ S d j).1.b⟩, (bothJ S d j).2.1, (bothJ S d j).2.2 + ((roX (roN (roN d j) 3)).length + 1))
  else if roZ (roN (roN d j) 0) = 2 then (⟨(bothJ S d j).1.l, offD (bothJ S d j).1.off (bothJ S d j).1.len, lenD (bothJ S d j).1.len, (bothJ S d j).1.ds ++ [heardD (roS (roN (roN d j) 2))], (bothJ S d j).1.b⟩, (bothJ S d j).2.1 ++ [ansD (bothJ S d j).1.l (bothJ S d j).1.off (bothJ S d j).1.len], (bothJ S d j).2.2)
  else bothJ S d j
end Go.Sp
namespace Go.Gx
open Go.Proofs Go.Sp
set_option linter.unusedVariables false
set_option maxRecDepth 100000

def Γb : Tab := ⟨tys, [(11, scrCtr [.v, .d (.l (.ints .u8))] scAbsG), (15, scrCtr [.v] scDrawG)], [3, 0, 4, 2, 1], gh5⟩
def scrT (k1 k2 : Nat) : Heap := [(600, .segs false [.one (.sl k1 0 4 ⟨false, 0⟩ ⟨false, 0⟩), .one (.sl k2 0 3 ⟨true, .ofNat 0⟩ ⟨false, 0⟩), .one (.b false false)]), (603, .pool .z []), (k1, .segs false [.rowA .u64 4 []]), (k2, .segs false [.rowD 603 shSt []])]
def t30 (o : SV) (h : Heap) : St := ⟨[.ifc none 28 600, .ro 490 (.l shSay) (.r []), .any, .any, .any, o, .i .i64 ⟨false, 0⟩] ++ reps .any 50, gh5 ++ (490, .world) :: h, 3000⟩
def L30 : Loops := [(3, t30 .nsl (scrT 601 602)), (1003, t30 .nsl (scrT 1001 1002 ++ [(601, .gone), (602, .gone)])),
 (2003, t30 (.sl 1000 0 4 ⟨true, .ofNat 0⟩ ⟨false, 0⟩) (scrT 1001 1002 ++ [(601, .gone), (602, .gone), (1000, .segs false [.rowA .u64 4 []])]))]
def kv30 (K1 : List (List Int) → Prop) (K : Scr → List (List Int) → Prop → Prop) (x : SV) (h : Heap) : Prop := kvScr x h fun x1 S1 zs1 => K S1 zs1 (canR h x1 K1)
def vc30 (d : RO) (l : List (List Int)) (off len : Int) (ds : List RO) (b : Bool) (zs : List (List Int)) (K1 : List (List Int) → Prop) (K : Scr → List (List Int) → Prop → Prop) (Q : Nat → List Pv → Prop) : Prop := fnVcX Γb Tryd.f30 L30 [.ifc none 28 600, .ro 490 (.l shSay) d] (gh5 ++ (490, .world) :: scriptH ⟨l, off, len, ds, b⟩ zs) (kv30 K1 K) Q
def lc30a (d : RO) (i off len n : Int) (b : Bool) (zs l : List (List Int)) (ds : List RO) (K1 : List (List Int) → Prop) (K : Scr → List (List Int) → Prop → Prop) (Q : Nat → List Pv → Prop) : Prop := loopVcX Γb Tryd.f30 L30 3 [.ro d, .z i, .l K80, .l K80, .z off, .z len, .z n, .b b, .ll zs, .ll l, .ro (.r ds)] (kv30 K1 K) Q
def lc30b (d : RO) (i off len n : Int) (b : Bool) (zs l : List (List Int)) (ds : List RO) (K1 : List (List Int) → Prop) (K : Scr → List (List Int) → Prop → Prop) (Q : Nat → List Pv → Prop) : Prop := loopVcX Γb Tryd.f30 L30 1003 [.ro d, .z i, .l K80, .l K80, .z off, .z len, .z n, .b b, .ll zs, .ll l, .ro (.r ds)] (kv30 K1 K) Q
def lc30c (d : RO) (y i off len n : Int) (b : Bool) (zs l : List (List Int)) (ds : List RO) (o : List (List Int)) (K1 : List (List Int) → Prop) (K : Scr → List (List Int) → Prop → Prop) (Q : Nat → List Pv → Prop) : Prop := loopVcX Γb Tryd.f30 L30 2003 [.ro d, .z y, .z i, .l K80, .l K80, .z off, .z len, .z n, .b b, .ll zs, .ll l, .ro (.r ds), .ll o] (kv30 K1 K) Q
theorem Γb_ok : TabOk Tryd.prog Γb := ((TabOk.more (gl' := [3, 0, 4, 2, 1]) Γe_ok sub5).cons scDraw_ok).cons (CallOk.mono sub5 scAbs_ok)
theorem vc30_eq : ∀ (d : RO) (l : List (List Int)) (off len : Int) (ds : List RO) (b : Bool) (zs : List (List Int)) (K1 : List (List Int) → Prop) (K : Scr → List (List Int) → Prop → Prop) (Q : Nat → List Pv → Prop), vc30 d l off len ds b zs K1 K Q = (Same Tryd.f30 3 (itemsOf Tryd.f30 3) ∧ Q 3 [Pv.ro d, Pv.z 0, Pv.l K80, Pv.l K80, Pv.z off, Pv.z len, Pv.z ((ds.length : Nat) : Int), Pv.b b, Pv.ll zs, Pv.ll l, Pv.ro (RO.r ds)]) := by
 intros
 kernel_rfl
def F30 (kk : Nat) (d : RO) (i off len n : Int) (b : Bool) (zs l : List (List Int)) (ds : List RO) (K1 : List (List Int) → Prop) (K : Scr → List (List Int) → Prop → Prop) (Q : Nat → List Pv → Prop) : Prop := ((decide (i < (((roX d).length : Nat) : Int)) = true → Need ((0 : Int) ≤ i ∧ i < (((roX d).length : Nat) : Int)) ∧ ∀ (x1 : Int), x1 = roZ (roN (roN d i.toNat) (0 : Nat)) → InR IntKind.i64 x1 → ((x1 == (1 : Int)) = true → Need ((0 : Int) ≤ i ∧ i < (((roX d).length : Nat) : Int)) ∧ Need ((0 : Int) ≤ i ∧ i < (((roX d).length : Nat) : Int)) ∧ Need (n = (((roX (RO.r ds)).length : Nat) : Int)) ∧ Need (b = true) ∧ Need ((((roX (roN (roN d i.toNat) (3 : Nat))).length : Nat) : Int) * (24 : Int) ≤ (70368744177664 : Int) ∧ (∀ (i_1 : Nat), i_1 < (roX (roN (roN d i.toNat) (3 : Nat))).length → (((roL (roN (roN (roN d i.toNat) (3 : Nat)) i_1)).length : Nat) : Int) ≤ (70368744177664 : Int)) ∧ True) ∧ Need (((((roX (RO.r ds)).length + (1 : Nat)) : Nat) : Int) * (48 : Int) ≤ (70368744177664 : Int)) ∧ ∀ (x2 : List (List Int)), x2 = l → AllA IntKind.u64 (4 : Nat) x2 → ∀ (x3 : List (List Int)), x3 = zs ++ List.replicate ((roX (roN (roN d i.toNat) (3 : Nat))).length + (1 : Nat)) [] → ∀ (x4 : Int), x4 = IntKind.i64.wrap (i + (1 : Int)) → InR IntKind.i64 x4 → Same Tryd.f30 (3 : Nat) (itemsOf Tryd.f30 (3 : Nat)) ∧ Q (1003 : Nat) [Pv.ro d, Pv.z x4, Pv.l K80, Pv.l K80, Pv.z off, Pv.z len, Pv.z (((roX (RO.r ds) ++ [heardA (roS (roN (roN d i.toNat) (2 : Nat))) (roN (roN d i.toNat) (3 : Nat))]).length : Nat) : Int), Pv.b b, Pv.ll x3, Pv.ll x2, Pv.ro (RO.r (roX (RO.r ds) ++ [heardA (roS (roN (roN d i.toNat) (2 : Nat))) (roN (roN d i.toNat) (3 : Nat))]))]) ∧ ((x1 == (1 : Int)) = false → ((x1 == (2 : Int)) = true → Need ((0 : Int) ≤ i ∧ i < (((roX d).length : Nat) : Int)) ∧ Need (n = (((roX (RO.r ds)).length : Nat) : Int)) ∧ Need (b = true) ∧ Need (((((roX (RO.r ds)).length + (1 : Nat)) : Nat) : Int) * (48 : Int) ≤ (70368744177664 : Int)) ∧ Need (off + len ≤ ((l.length : Nat) : Int)) ∧ ∀ (x5 : List (List Int)), x5 = l → AllA IntKind.u64 (4 : Nat) x5 → ∀ (x6 : List (List Int)), x6 = zs ++ List.replicate (0 : Nat) [] → ∀ (x7 : List Int), x7 = ansD l off len → x7.length = (4 : Nat) → AllR IntKind.u64 x7 → ∀ (x8 : Int), x8 = errD l off len → InR IntKind.i64 x8 → Need (((([] ++ List.take (1 : Nat) (List.drop (0 : Nat) [x7])).length : Nat) : Int) * (32 : Int) ≤ (70368744177664 : Int)) ∧ Need ((1 : Int) ≤ (([x7].length : Nat) : Int)) ∧ ∀ (x9 : List (List Int)), x9 = [] ++ List.take (1 : Nat) (List.drop (0 : Nat) [x7]) → AllA IntKind.u64 (4 : Nat) x9 → ∀ (x10 : Int), x10 = ((([] ++ List.take (1 : Nat) (List.drop (0 : Nat) [x7])).length : Nat) : Int) → (0 : Int) ≤ x10 → InR IntKind.i64 x10 → ∀ (x11 : Int), x11 = IntKind.i64.wrap (i + (1 : Int)) → InR IntKind.i64 x11 → Same Tryd.f30 (3 : Nat) (itemsOf Tryd.f30 (3 : Nat)) ∧ Q (2003 : Nat) [Pv.ro d, Pv.z x10, Pv.z x11, Pv.l K80, Pv.l K80, Pv.z (offD off len), Pv.z (lenD len), Pv.z (((roX (RO.r ds) ++ [heardD (roS (roN (roN d i.toNat) (2 : Nat)))]).length : Nat) : Int), Pv.b b, Pv.ll x6, Pv.ll x5, Pv.ro (RO.r (roX (RO.r ds) ++ [heardD (roS (roN (roN d i.toNat) (2 : Nat)))])), Pv.ll x9]) ∧ ((x1 == (2 : Int)) = false → ∀ (x12 : Int), x12 = IntKind.i64.wrap (i + (1 : Int)) → InR IntKind.i64 x12 → Same Tryd.f30 (3 : Nat) (itemsOf Tryd.f30 (3 : Nat)) ∧ Q kk [Pv.ro d, Pv.z x12, Pv.l K80, Pv.l K80, Pv.z off, Pv.z len, Pv.z n, Pv.b b, Pv.ll zs, Pv.ll l, Pv.ro (RO.r (roX (RO.r ds)))]))) ∧ (decide (i < (((roX d).length : Nat) : Int)) = false → Need (n = (((roX (RO.r ds)).length : Nat) : Int)) ∧ K ⟨l, off, len, roX (RO.r ds), b⟩ zs (K1 [])))
theorem lc30a_eq : ∀ (d : RO) (i off len n : Int) (b : Bool) (zs l : List (List Int)) (ds : List RO) (K1 : List (List Int) → Prop) (K : Scr → List (List Int) → Prop → Prop) (Q : Nat → List Pv → Prop), lc30a d i off len n b zs l ds K1 K Q = F30 3 d i off len n b zs l ds K1 K Q := by
 intros
 kernel_rfl
theorem lc30b_eq : ∀ (d : RO) (i off len n : Int) (b : Bool) (zs l : List (List Int)) (ds : List RO) (K1 : List (List Int) → Prop) (K : Scr → List (List Int) → Prop → Prop) (Q : Nat → List Pv → Prop), lc30b d i off len n b zs l ds K1 K Q = F30 1003 d i off len n b zs l ds K1 K Q := by
 intros
 kernel_rfl
theorem lc30c_eq : ∀ (d : RO) (y i off len n : Int) (b : Bool) (zs l : List (List Int)) (ds : List RO) (o : List (List Int)) (K1 : List (List Int) → Prop) (K : Scr → List (List Int) → Prop → Prop) (Q : Nat → List Pv → Prop), lc30c d y i off len n b zs l ds o K1 K Q = ((decide (i < (((roX d).length : Nat) : Int)) = true → Need (0 ≤ i ∧ i < (((roX d).length : Nat) : Int)) ∧ ForI .i64 (roZ (roN (roN d i.toNat) 0)) fun x1 => ((x1 == 1) = true → Need (0 ≤ i ∧ i < (((roX d).length : Nat) : Int)) ∧ Need (0 ≤ i ∧ i < (((roX d).length : Nat) : Int)) ∧ Need (n = (((roX (RO.r ds)).length : Nat) : Int)) ∧ Need (b = true) ∧ Need ((((roX (roN (roN d i.toNat) 3)).length : Nat) : Int) * 24 ≤ (70368744177664 : Int) ∧ (∀ (i_1 : Nat), i_1 < (roX (roN (roN d i.toNat) 3)).length → (((roL (roN (roN (roN d i.toNat) 3) i_1)).length : Nat) : Int) ≤ 70368744177664) ∧ True) ∧ Need (((((roX (RO.r ds)).length + (1 : Nat)) : Nat) : Int) * 48 ≤ (70368744177664 : Int)) ∧ ∀ (x2 : List (List Int)), x2 = l → AllA .u64 (4 : Nat) x2 → ∀ (x3 : List (List Int)), x3 = zs ++ List.replicate ((roX (roN (roN d i.toNat) 3)).length + (1 : Nat)) [] → ForI .i64 (IntKind.i64.wrap (i + 1)) fun x4 => Same Tryd.f30 3 (itemsOf Tryd.f30 3) ∧ Q 2003 [Pv.ro d, Pv.z y, Pv.z x4, Pv.l K80, Pv.l K80, Pv.z off, Pv.z len, Pv.z (((roX (RO.r ds) ++ [heardA (roS (roN (roN d i.toNat) 2)) (roN (roN d i.toNat) 3)]).length : Nat) : Int), Pv.b b, Pv.ll x3, Pv.ll x2, Pv.ro (RO.r (roX (RO.r ds) ++ [heardA (roS (roN (roN d i.toNat) 2)) (roN (roN d i.toNat) 3)])), Pv.ll o]) ∧ ((x1 == 1) = false → ((x1 == 2) = true → Need (0 ≤ i ∧ i < (((roX d).length : Nat) : Int)) ∧ Need (n = (((roX (RO.r ds)).length : Nat) : Int)) ∧ Need (b = true) ∧ Need (((((roX (RO.r ds)).length + (1 : Nat)) : Nat) : Int) * 48 ≤ (70368744177664 : Int)) ∧ Need (off + len ≤ ((l.length : Nat) : Int)) ∧ ∀ (x5 : List (List Int)), x5 = l → AllA .u64 (4 : Nat) x5 → ∀ (x6 : List (List Int)), x6 = zs ++ List.replicate 0 [] → ForA .u64 4 (ansD l off len) fun x7 => ForI .i64 (errD l off len) fun x8 => Need ((((o ++ List.take 1 (List.drop 0 [x7])).length : Nat) : Int) * 32 ≤ (70368744177664 : Int)) ∧ Need (y = ((o.length : Nat) : Int)) ∧ Need ((1 : Int) ≤ (([x7].length : Nat) : Int)) ∧ ∀ (x9 : List (List Int)), x9 = o ++ List.take 1 (List.drop 0 [x7]) → AllA .u64 (4 : Nat) x9 → ForN (((o ++ List.take 1 (List.drop 0 [x7])).length : Nat) : Int) fun x10 => ForI .i64 (IntKind.i64.wrap (i + 1)) fun x11 => Same Tryd.f30 3 (itemsOf Tryd.f30 3) ∧ Q 2003 [Pv.ro d, Pv.z x10, Pv.z x11, Pv.l K80, Pv.l K80, Pv.z (offD off len), Pv.z (lenD len), Pv.z (((roX (RO.r ds) ++ [heardD (roS (roN (roN d i.toNat) 2))]).length : Nat) : Int), Pv.b b, Pv.ll x6, Pv.ll x5, Pv.ro (RO.r (roX (RO.r ds) ++ [heardD (roS (roN (roN d i.toNat) 2))])), Pv.ll x9]) ∧ ((x1 == 2) = false → ForI .i64 (IntKind.i64.wrap (i + 1)) fun x12 => Same Tryd.f30 3 (itemsOf Tryd.f30 3) ∧ Q 2003 [Pv.ro d, Pv.z y, Pv.z x12, Pv.l K80, Pv.l K80, Pv.z off, Pv.z len, Pv.z n, Pv.b b, Pv.ll zs, Pv.ll l, Pv.ro (RO.r (roX (RO.r ds))), Pv.ll o]))) ∧ (decide (i < (((roX d).length : Nat) : Int)) = false → Need (n = (((roX (RO.r ds)).length : Nat) : Int)) ∧ K ⟨l, off, len, roX (RO.r ds), b⟩ zs (Need (y = ((o.length : Nat) : Int)) ∧ K1 o))) := by
 intros
 kernel_rfl
theorem offlen (off len : Int) : offD off len + lenD len = off + len := by
 unfold offD lenD
 split <;> omega
theorem both_inv (S : Scr) (d : RO) : ∀ j, (bothJ S d j).1.l = S.l ∧ (bothJ S d j).1.b = S.b ∧ (bothJ S d j).1.off + (bothJ S d j).1.len = S.off + S.len ∧ (bothJ S d j).1.ds.length ≤ S.ds.length + j ∧ (bothJ S d j).2.1.length ≤ j
 | 0 => ⟨rfl, rfl, rfl, Nat.le_refl _, Nat.le_refl _⟩
 | j + 1 => by
  obtain ⟨h1, h2, h3, h4, h5⟩ := both_inv S d j
  simp only [bothJ]
  split
  ·exact ⟨h1, h2, h3, by simp only [List.length_append, List.length_singleton]; omega, by simp only; omega⟩
  ·split
   ·refine ⟨h1, h2, by rw [← h3]; exact offlen _ _, by simp only [List.length_append, List.length_singleton]; omega, by simp only [List.length_append, List.length_singleton]; omega⟩
   ·exact ⟨h1, h2, h3, by omega, by omega⟩
theorem both_1 {S : Scr} {d : RO} {j : Nat} (h : roZ (roN (roN d j) 0) = 1) : bothJ S d (j + 1) = (⟨(bothJ S d j).1.l, (bothJ S d j).1.off, (bothJ S d j).1.len, (bothJ S d j).1.ds ++ [heardA (roS (roN (roN d j) 2)) (roN (roN d j) 3)], (bothJ S d j).1.b⟩, (bothJ S d j).2.1, (bothJ S d j).2.2 + ((roX (roN (roN d j) 3)).length + 1)) := by
 rw [bothJ, if_pos h]
theorem both_2 {S : Scr} {d : RO} {j : Nat} (h1 : ¬ roZ (roN (roN d j) 0) = 1) (h : roZ (roN (roN d j) 0) = 2) : bothJ S d (j + 1) = (⟨(bothJ S d j).1.l, offD (bothJ S d j).1.off (bothJ S d j).1.len, lenD (bothJ S d j).1.len, (bothJ S d j).1.ds ++ [heardD (roS (roN (roN d j) 2))], (bothJ S d j).1.b⟩, (bothJ S d j).2.1 ++ [ansD (bothJ S d j).1.l (bothJ S d j).1.off (bothJ S d j).1.len], (bothJ S d j).2.2) := by
 rw [bothJ, if_neg h1, if_pos h]
theorem both_3 {S : Scr} {d : RO} {j : Nat} (h1 : ¬ roZ (roN (roN d j) 0) = 1) (h : ¬ roZ (roN (roN d j) 0) = 2) : bothJ S d (j + 1) = bothJ S d j := by
 rw [bothJ, if_neg h1, if_neg h]
def bothG : Scr → List AV → Option (List Prop × Scr × RS × Nat)
 | S, [.d (.l (.r [.i .i64, .i .i64, .ts, .l (.ints .u8)])) d] => some ([S.b = true, S.off + S.len ≤ (S.l.length : Int), (((S.ds.length + (roX d).length : Nat) : Int)) * 48 ≤ 70368744177664, ∀ i, i < (roX d).length → AllP (copP (roN (roN d i) 3))], (bothJ S d (roX d).length).1, .rowS (bothJ S d (roX d).length).2.1, (bothJ S d (roX d).length).2.2)
 | _, _ => none
def pv30 (S : Scr) (zs : List (List Int)) (d : RO) (j : Nat) : List Pv := [.l K80, .l K80, .z (bothJ S d j).1.off, .z (bothJ S d j).1.len, .z ((bothJ S d j).1.ds.length : Int), .b (bothJ S d j).1.b, .ll (zs ++ List.replicate (bothJ S d j).2.2 []), .ll (bothJ S d j).1.l, .ro (.r (bothJ S d j).1.ds)]
def inv30 (S : Scr) (zs : List (List Int)) (d : RO) (key : Nat) (ps : List Pv) (mm : Nat) : Prop :=
 ∃ j : Nat, j ≤ (roX d).length ∧ mm = (roX d).length - j ∧ (((key = 3 ∨ key = 1003) ∧ (bothJ S d j).2.1 = [] ∧ ps = .ro d :: .z (j : Int) :: pv30 S zs d j) ∨
  (key = 2003 ∧ ps = .ro d :: .z ((bothJ S d j).2.1.length : Int) :: .z (j : Int) :: (pv30 S zs d j ++ [.ll (bothJ S d j).2.1])))
theorem step30 {S : Scr} {zs : List (List Int)} {d : RO} {j : Nat} (kk : Nat) (hk : kk = 3 ∨ kk = 1003) (hj : j ≤ (roX d).length) (ho : (bothJ S d j).2.1 = []) (hb : S.b = true) (hol : S.off + S.len ≤ (S.l.length : Int)) (hl : (((S.ds.length + (roX d).length : Nat) : Int)) * 48 ≤ 70368744177664) (hc : ∀ i, i < (roX d).length → AllP (copP (roN (roN d i) 3))) :
  F30 kk d j (bothJ S d j).1.off (bothJ S d j).1.len (bothJ S d j).1.ds.length (bothJ S d j).1.b (zs ++ List.replicate (bothJ S d j).2.2 []) (bothJ S d j).1.l (bothJ S d j).1.ds (fun o => o = (bothJ S d (roX d).length).2.1) (fun S1 zs1 P => S1 = (bothJ S d (roX d).length).1 ∧ P ∧ zs1 = zs ++ List.replicate (bothJ S d (roX d).length).2.2 []) fun key' ps' => ∃ m', m' < (roX d).length - j ∧ inv30 S zs d key' ps' m' := by
 obtain ⟨q1, q2, q3, q4, q5⟩ := both_inv S d j
 unfold F30
 have er : ∀ l, roX (.r l) = l := fun _ => rfl
 rw [er, Int.toNat_natCast]
 refine ⟨fun hlt => ?_, fun hge => ?_⟩
 ·have hlt := of_decide_eq_true hlt
  have hjl : j < (roX d).length := by omega
  have hcc := hc j hjl
  refine ⟨need_of (by omega), ?_⟩
  intro x1 e1 _
  refine ⟨fun c => ⟨need_of (by omega), need_of (by omega), need_of rfl, need_of (by rw [q2]; exact hb), need_of hcc, need_of (by omega), ?_⟩, fun c => ⟨fun c2 => ⟨need_of (by omega), need_of rfl, need_of (by rw [q2]; exact hb), need_of (by omega), need_of (by rw [q3, q1]; exact hol), ?_⟩, fun c2 => ?_⟩⟩
  ·have c : roZ (roN (roN d j) 0) = 1 := by rw [← e1]; simpa using c
   intro x2 e2 _ x3 e3 x4 e4 _
   rw [wrap_i64 (by omega)] at e4
   rw [List.append_assoc, repl_add] at e3
   refine ⟨rfl, (roX d).length - (j + 1), by omega, j + 1, by omega, rfl, .inl ⟨.inr rfl, by rw [both_1 c]; exact ho, ?_⟩⟩
   rw [e2, e3, e4]
   unfold pv30
   rw [both_1 c]
   rfl
  ·have c : ¬ roZ (roN (roN d j) 0) = 1 := by rw [← e1]; simpa using c
   have c2 : roZ (roN (roN d j) 0) = 2 := by rw [← e1]; simpa using c2
   intro x2 e2 _ x3 e3 x4 e4 _ _ x5 _ _
   refine ⟨need_of (by simp), need_of (by simp), ?_⟩
   intro x6 e6 _ x7 e7 _ _ x8 e8 _
   rw [wrap_i64 (by omega)] at e8
   have e6 : x6 = [x4] := e6
   have e7 : x7 = 1 := by rw [e7]; simp
   have e3 : x3 = zs ++ List.replicate (bothJ S d j).2.2 [] := by rw [e3]; simp
   refine ⟨rfl, (roX d).length - (j + 1), by omega, j + 1, by omega, rfl, .inr ⟨rfl, ?_⟩⟩
   rw [e2, e3, e6, e4, e7, e8]
   unfold pv30
   rw [both_2 c c2, ho]
   rfl
  ·have c : ¬ roZ (roN (roN d j) 0) = 1 := by rw [← e1]; simpa using c
   have c2 : ¬ roZ (roN (roN d j) 0) = 2 := by rw [← e1]; simpa using c2
   intro x5 e5 _
   rw [wrap_i64 (by omega)] at e5
   refine ⟨rfl, (roX d).length - (j + 1), by omega, j + 1, by omega, rfl, .inl ⟨hk, by rw [both_3 c c2]; exact ho, ?_⟩⟩
   rw [e5]
   unfold pv30
   rw [both_3 c c2]
   rfl
 ·have hge := of_decide_eq_false hge
  obtain rfl : j = (roX d).length := by omega
  exact ⟨need_of rfl, rfl, ho.symm, rfl⟩
theorem both_ok : CallOk Tryd.prog gh5 30 (scqCtr (some 28) [.d (.l shSay)] bothG) := by
 refine call_scq (Γ := Γb) (fn := Tryd.f30) Γb_ok rfl glow5 rfl (by kernel_rfl) (by kernel_rfl) (some 28) false _ rfl bothG fun S avs p S' r g zs hs hp hf h0 h1 h2 h3 h4 => ?_
 unfold bothG at hs
 split at hs
 ·rename_i d
  simp only [Option.some.injEq, Prod.mk.injEq] at hs
  obtain ⟨rfl, rfl, rfl, rfl⟩ := hs
  obtain ⟨hb, hol, hl, hc, _⟩ := hp
  refine ⟨[.ro 490 (.l shSay) d], L30, inv30 S zs d, ⟨rfl, trivial⟩, Nat.le_of_ble_eq_true (by kernel_rfl), ?_, ?_, ?_⟩
  ·intro kk t ht g hg
   have hg : g ∈ [3, 0, 4, 2, 1, 490, 600, 601, 602, 603] := hg
   simp only [L30, List.mem_cons, List.not_mem_nil, or_false, Prod.mk.injEq] at ht hg
   obtain ⟨rfl, rfl⟩ | ⟨rfl, rfl⟩ | ⟨rfl, rfl⟩ := ht <;> rcases hg with rfl | rfl | rfl | rfl | rfl | rfl | rfl | rfl | rfl | rfl <;> exact ⟨by omega, by kernel_rfl⟩
  ·rintro vk t ps mm ht ⟨j, hj, rfl, (⟨rfl | rfl, ho, rfl⟩ | ⟨rfl, rfl⟩)⟩
   all_goals simp only [L30, List.mem_cons, List.not_mem_nil, or_false, Prod.mk.injEq, Nat.reduceEqDiff, false_and, true_and, false_or, or_false] at ht
   ·subst ht
    show lc30a d j (bothJ S d j).1.off (bothJ S d j).1.len (bothJ S d j).1.ds.length (bothJ S d j).1.b (zs ++ List.replicate (bothJ S d j).2.2 []) (bothJ S d j).1.l (bothJ S d j).1.ds (fun o => o = (bothJ S d (roX d).length).2.1) (fun S1 zs1 P => S1 = (bothJ S d (roX d).length).1 ∧ P ∧ zs1 = zs ++ List.replicate (bothJ S d (roX d).length).2.2 []) _
    rw [lc30a_eq]
    exact step30 3 (.inl rfl) hj ho hb hol hl hc
   ·subst ht
    show lc30b d j (bothJ S d j).1.off (bothJ S d j).1.len (bothJ S d j).1.ds.length (bothJ S d j).1.b (zs ++ List.replicate (bothJ S d j).2.2 []) (bothJ S d j).1.l (bothJ S d j).1.ds (fun o => o = (bothJ S d (roX d).length).2.1) (fun S1 zs1 P => S1 = (bothJ S d (roX d).length).1 ∧ P ∧ zs1 = zs ++ List.replicate (bothJ S d (roX d).length).2.2 []) _
    rw [lc30b_eq]
    exact step30 1003 (.inr rfl) hj ho hb hol hl hc
   ·subst ht
    show lc30c d (bothJ S d j).2.1.length j (bothJ S d j).1.off (bothJ S d j).1.len (bothJ S d j).1.ds.length (bothJ S d j).1.b (zs ++ List.replicate (bothJ S d j).2.2 []) (bothJ S d j).1.l (bothJ S d j).1.ds (bothJ S d j).2.1 (fun o => o = (bothJ S d (roX d).length).2.1) (fun S1 zs1 P => S1 = (bothJ S d (roX d).length).1 ∧ P ∧ zs1 = zs ++ List.replicate (bothJ S d (roX d).length).2.2 []) _
    rw [lc30c_eq]
    obtain ⟨q1, q2, q3, q4, q5⟩ := both_inv S d j
    have er : ∀ l, roX (.r l) = l := fun _ => rfl
    rw [er, Int.toNat_natCast]
    refine ⟨fun hlt => ?_, fun hge => ?_⟩
    ·have hlt := of_decide_eq_true hlt
     have hjl : j < (roX d).length := by omega
     have hcc := hc j hjl
     refine ⟨need_of (by omega), ?_⟩
     intro x1 e1 _
     refine ⟨fun c => ⟨need_of (by omega), need_of (by omega), need_of rfl, need_of (by rw [q2]; exact hb), need_of hcc, need_of (by omega), ?_⟩, fun c => ⟨fun c2 => ⟨need_of (by omega), need_of rfl, need_of (by rw [q2]; exact hb), need_of (by omega), need_of (by rw [q3, q1]; exact hol), ?_⟩, fun c2 => ?_⟩⟩
     ·have c : roZ (roN (roN d j) 0) = 1 := by rw [← e1]; simpa using c
      intro x2 e2 _ x3 e3 x4 e4 _
      rw [wrap_i64 (by omega)] at e4
      rw [List.append_assoc, repl_add] at e3
      refine ⟨rfl, (roX d).length - (j + 1), by omega, j + 1, by omega, rfl, .inr ⟨rfl, ?_⟩⟩
      rw [e2, e3, e4]
      unfold pv30
      rw [both_1 c]
      rfl
     ·have c : ¬ roZ (roN (roN d j) 0) = 1 := by rw [← e1]; simpa using c
      have c2 : roZ (roN (roN d j) 0) = 2 := by rw [← e1]; simpa using c2
      intro x2 e2 _ x3 e3 x4 e4 _ _ x5 _ _
      refine ⟨need_of (by simp; omega), need_of rfl, need_of (by simp), ?_⟩
      intro x6 e6 _ x7 e7 _ _ x8 e8 _
      rw [wrap_i64 (by omega)] at e8
      have e6 : x6 = (bothJ S d j).2.1 ++ [x4] := e6
      have e7 : x7 = (((bothJ S d j).2.1 ++ [x4]).length : Int) := e7
      have e3 : x3 = zs ++ List.replicate (bothJ S d j).2.2 [] := by rw [e3]; simp
      refine ⟨rfl, (roX d).length - (j + 1), by omega, j + 1, by omega, rfl, .inr ⟨rfl, ?_⟩⟩
      rw [e2, e3, e7, e6, e4, e8]
      unfold pv30
      rw [both_2 c c2]
      rfl
     ·have c : ¬ roZ (roN (roN d j) 0) = 1 := by rw [← e1]; simpa using c
      have c2 : ¬ roZ (roN (roN d j) 0) = 2 := by rw [← e1]; simpa using c2
      intro x5 e5 _
      rw [wrap_i64 (by omega)] at e5
      refine ⟨rfl, (roX d).length - (j + 1), by omega, j + 1, by omega, rfl, .inr ⟨rfl, ?_⟩⟩
      rw [e5]
      unfold pv30
      rw [both_3 c c2]
      rfl
    ·have hge := of_decide_eq_false hge
     obtain rfl : j = (roX d).length := by omega
     exact ⟨need_of rfl, rfl, ⟨need_of rfl, rfl⟩, rfl⟩
  ·show vc30 d S.l S.off S.len S.ds S.b zs (fun o => o = (bothJ S d (roX d).length).2.1) (fun S1 zs1 P => S1 = (bothJ S d (roX d).length).1 ∧ P ∧ zs1 = zs ++ List.replicate (bothJ S d (roX d).length).2.2 []) _
   rw [vc30_eq]
   refine ⟨rfl, _, 0, Nat.zero_le _, rfl, .inl ⟨.inl rfl, rfl, ?_⟩⟩
   unfold pv30 bothJ
   simp
 ·cases hs
end Go.Gx

/- What is drawn of a transcript, given to a Script: the plain law, and the first loop's shape. -/
namespace Go.Sp
open Go.Gx
def opX (x1 x2 : Int) (w : RO) : RO := .r [.i x1, .i x2, .s (roS (roN w 2)), roN w 3]
def opN (w : RO) : RO := opX (roZ (roN w 0)) (roZ (roN w 1)) w
def stJ (s : ByteArray) (d : RO) : Nat → List Int
 | 0 => seedL (bytesI s)
 | j + 1 => saysL (stJ s d j) (roZ (roN (roN d j) 0)) (bytesI (roS (roN (roN d j) 2))) ((roX (roN (roN d j) 3)).map roL)
def wantJ (d : RO) : Nat → List RO
 | 0 => []
 | j + 1 => if roZ (roN (roN d j) 0) = 1 ∨ roZ (roN (roN d j) 0) = 2 then wantJ d j ++ [opN (roN d j)] else wantJ d j
def drawnJ (s : ByteArray) (d : RO) : Nat → List (List Int)
 | 0 => []
 | j + 1 => if roZ (roN (roN d j) 0) = 2 then drawnJ s d j ++ [Sc.words4 (drawN (stJ s d j) (bytesI (roS (roN (roN d j) 2))))] else drawnJ s d j
def hrdJ (d : RO) : Nat → List RO
 | 0 => []
 | j + 1 => if roZ (roN (roN d j) 0) = 1 then hrdJ d j ++ [heardA (roS (roN (roN d j) 2)) (roN (roN d j) 3)] else if roZ (roN (roN d j) 0) = 2 then hrdJ d j ++ [heardD (roS (roN (roN d j) 2))] else hrdJ d j
end Go.Sp
namespace Go.Gx
open Go.Proofs Go.Sp
set_option linter.unusedVariables false
set_option maxRecDepth 100000

theorem want_y {d : RO} {j : Nat} (h : roZ (roN (roN d j) 0) = 1 ∨ roZ (roN (roN d j) 0) = 2) : wantJ d (j + 1) = wantJ d j ++ [opN (roN d j)] := by rw [wantJ, if_pos h]
theorem want_n {d : RO} {j : Nat} (h1 : ¬ roZ (roN (roN d j) 0) = 1) (h2 : ¬ roZ (roN (roN d j) 0) = 2) : wantJ d (j + 1) = wantJ d j := by rw [wantJ, if_neg (fun h => h.elim h1 h2)]
theorem drawn_y {s : ByteArray} {d : RO} {j : Nat} (h : roZ (roN (roN d j) 0) = 2) : drawnJ s d (j + 1) = drawnJ s d j ++ [Sc.words4 (drawN (stJ s d j) (bytesI (roS (roN (roN d j) 2))))] := by rw [drawnJ, if_pos h]
theorem drawn_n {s : ByteArray} {d : RO} {j : Nat} (h : ¬ roZ (roN (roN d j) 0) = 2) : drawnJ s d (j + 1) = drawnJ s d j := by rw [drawnJ, if_neg h]
theorem want_len (d : RO) : ∀ j, (wantJ d j).length ≤ j
 | 0 => Nat.le_refl _
 | j + 1 => by
  have := want_len d j
  rw [wantJ]; split
  ·simp only [List.length_append, List.length_singleton]; omega
  ·omega
theorem drawn_len (s : ByteArray) (d : RO) : ∀ j, (drawnJ s d j).length ≤ j
 | 0 => Nat.le_refl _
 | j + 1 => by
  have := drawn_len s d j
  rw [drawnJ]; split
  ·simp only [List.length_append, List.length_singleton]; omega
  ·omega
theorem drawn_pre (s : ByteArray) (d : RO) (j : Nat) : ∀ k, ∃ r, drawnJ s d (j + k) = drawnJ s d j ++ r
 | 0 => ⟨[], by simp⟩
 | k + 1 => by
  obtain ⟨r, hr⟩ := drawn_pre s d j k
  rw [← Nat.add_assoc]
  by_cases h : roZ (roN (roN d (j + k)) 0) = 2
  ·exact ⟨r ++ [Sc.words4 (drawN (stJ s d (j + k)) (bytesI (roS (roN (roN d (j + k)) 2))))], by rw [drawn_y h, hr, List.append_assoc]⟩
  ·exact ⟨r, by rw [drawn_n h, hr]⟩
theorem words_least (x : Int) : Sc.words4 (Sc.val4 (Sc.words4 (x % Sc.ell)) % Sc.ell) = Sc.words4 (x % Sc.ell) := by
 rw [show Sc.val4 (Sc.words4 (x % Sc.ell)) = x % Sc.ell from Sc.val_ell rfl rfl rfl rfl, Int.emod_emod_of_dvd _ (Int.dvd_refl _)]
theorem both_law (s : ByteArray) (d : RO) (n : Nat) : ∀ j, j ≤ n →
  (bothJ ⟨drawnJ s d n, 0, ((drawnJ s d n).length : Int), [], true⟩ d j).1 = ⟨drawnJ s d n, ((drawnJ s d j).length : Int), ((drawnJ s d n).length : Int) - ((drawnJ s d j).length : Int), hrdJ d j, true⟩ ∧
  (bothJ ⟨drawnJ s d n, 0, ((drawnJ s d n).length : Int), [], true⟩ d j).2.1 = drawnJ s d j
 | 0, _ => ⟨by simp [bothJ, drawnJ, hrdJ], rfl⟩
 | j + 1, hj => by
  obtain ⟨h1, h2⟩ := both_law s d n j (by omega)
  by_cases c : roZ (roN (roN d j) 0) = 1
  ·have c2 : ¬ roZ (roN (roN d j) 0) = 2 := by omega
   rw [both_1 c, h1, h2, drawn_n c2]
   exact ⟨by simp only [hrdJ, if_pos c], rfl⟩
  ·by_cases c2 : roZ (roN (roN d j) 0) = 2
   ·rw [both_2 c c2, h1, h2]
    obtain ⟨r, hr⟩ := drawn_pre s d (j + 1) (n - (j + 1))
    rw [show j + 1 + (n - (j + 1)) = n by omega, drawn_y c2, List.append_assoc] at hr
    have hlen : (drawnJ s d n).length = (drawnJ s d j).length + 1 + r.length := by rw [hr]; simp; omega
    have hne : ¬ ((drawnJ s d n).length : Int) - ((drawnJ s d j).length : Int) = 0 := by omega
    have hat : (drawnJ s d n).getD ((drawnJ s d j).length : Int).toNat [] = Sc.words4 (drawN (stJ s d j) (bytesI (roS (roN (roN d j) 2)))) := by
     rw [hr, Int.toNat_natCast]
     simp [List.getD]
    have hans : ansD (drawnJ s d n) ((drawnJ s d j).length : Int) (((drawnJ s d n).length : Int) - ((drawnJ s d j).length : Int)) = Sc.words4 (drawN (stJ s d j) (bytesI (roS (roN (roN d j) 2)))) := by
     unfold ansD
     rw [if_neg hne, hat]
     exact words_least _
    simp only [hans]
    rw [drawn_y c2]
    refine ⟨?_, rfl⟩
    unfold offD lenD
    rw [if_neg hne, if_neg hne]
    simp only [hrdJ, if_neg c, if_pos c2, List.length_append, List.length_singleton]
    congr 1
    omega
   ·rw [both_3 c c2, h1, h2, drawn_n c2]
    exact ⟨by simp only [hrdJ, if_neg c, if_neg c2], rfl⟩

theorem gD_app {α : Type} (l m : List α) (z : α) (i : Nat) (h : i < l.length) : (l ++ m).getD i z = l.getD i z := by
 rw [List.getD_eq_getElem?_getD, List.getD_eq_getElem?_getD, List.getElem?_append_left h]
theorem gD_app_r {α : Type} (l m : List α) (z : α) (i : Nat) (h : l.length ≤ i) : (l ++ m).getD i z = m.getD (i - l.length) z := by
 rw [List.getD_eq_getElem?_getD, List.getD_eq_getElem?_getD, List.getElem?_append_right h]
theorem sameB_self (x : ByteArray) (l : List (List Int)) : sameB x l x l = true := decide_eq_true ⟨rfl, rfl⟩
theorem eqH_1 (w : RO) (h : roZ (roN w 0) = 1) : eqH (recN (heardA (roS (roN w 2)) (roN w 3))) (opN w) = true := by
 show ((false == (roZ (roN w 0) == 2)) && sameB (roS (roN w 2)) ((roX (roN w 3)).map roL) (roS (roN w 2)) (if roZ (roN w 0) = 2 then [] else (roX (roN w 3)).map roL)) = true
 rw [h, if_neg (by decide), sameB_self]; rfl
theorem eqH_2 (w : RO) (h : roZ (roN w 0) = 2) : eqH (recN (heardD (roS (roN w 2)))) (opN w) = true := by
 show ((true == (roZ (roN w 0) == 2)) && sameB (roS (roN w 2)) (([] : List RO).map roL) (roS (roN w 2)) (if roZ (roN w 0) = 2 then [] else (roX (roN w 3)).map roL)) = true
 rw [h, if_pos rfl]
 exact sameB_self _ _
theorem all_snoc {l m : List RO} {x y : RO} (hl : l.length = m.length) (h : ∀ i, i < m.length → eqH (roN (.r l) i) (roN (.r m) i) = true) (hx : eqH x y = true) :
  (l ++ [x]).length = (m ++ [y]).length ∧ ∀ i, i < (m ++ [y]).length → eqH (roN (.r (l ++ [x])) i) (roN (.r (m ++ [y])) i) = true := by
 refine ⟨by simp [hl], fun i hi => ?_⟩
 have er : ∀ l : List RO, roN (.r l) i = l.getD i (.r []) := fun _ => rfl
 rw [er, er]
 rcases Nat.lt_trichotomy i m.length with h' | h' | h'
 ·have := h i h'
  rw [er, er] at this
  rw [gD_app _ _ _ _ (by omega), gD_app _ _ _ _ h']
  exact this
 ·subst h'
  rw [gD_app_r _ _ _ _ (by omega), gD_app_r _ _ _ _ (Nat.le_refl _), hl, Nat.sub_self]
  exact hx
 ·simp at hi; omega
theorem heard_all (d : RO) : ∀ j, ((hrdJ d j).map recN).length = (wantJ d j).length ∧ ∀ i, i < (wantJ d j).length → eqH (roN (.r ((hrdJ d j).map recN)) i) (roN (.r (wantJ d j)) i) = true
 | 0 => ⟨rfl, fun i hi => absurd hi (Nat.not_lt_zero i)⟩
 | j + 1 => by
  obtain ⟨h1, h2⟩ := heard_all d j
  by_cases c : roZ (roN (roN d j) 0) = 1
  ·rw [want_y (.inl c), show hrdJ d (j + 1) = hrdJ d j ++ [heardA (roS (roN (roN d j) 2)) (roN (roN d j) 3)] by rw [hrdJ, if_pos c], List.map_append]
   exact all_snoc h1 h2 (eqH_1 _ c)
  ·by_cases c2 : roZ (roN (roN d j) 0) = 2
   ·rw [want_y (.inr c2), show hrdJ d (j + 1) = hrdJ d j ++ [heardD (roS (roN (roN d j) 2))] by rw [hrdJ, if_neg c, if_pos c2], List.map_append]
    exact all_snoc h1 h2 (eqH_2 _ c2)
   ·rw [want_n c c2, show hrdJ d (j + 1) = hrdJ d j by rw [hrdJ, if_neg c, if_neg c2]]
    exact ⟨h1, h2⟩
theorem heard_law (d : RO) (j : Nat) : heardB (.r ((hrdJ d j).map recN)) (.r (wantJ d j)) = true := decide_eq_true (heard_all d j)

theorem endJ_app (s : ByteArray) (l m : List RO) : ∀ j, j ≤ l.length → endJ s (.r (l ++ m)) j = endJ s (.r l) j
 | 0, _ => rfl
 | j + 1, hj => by
  have h := endJ_app s l m j (by omega)
  have e : roN (.r (l ++ m)) j = roN (.r l) j := by
   show (l ++ m).getD j (.r []) = l.getD j (.r [])
   exact gD_app _ _ _ _ hj
  unfold endJ
  rw [e, h]
theorem end_law (s : ByteArray) (d : RO) : ∀ j, endJ s (.r (wantJ d j)) (wantJ d j).length = stJ s d j
 | 0 => rfl
 | j + 1 => by
  have h := end_law s d j
  by_cases c : roZ (roN (roN d j) 0) = 1 ∨ roZ (roN (roN d j) 0) = 2
  ·rw [want_y c, List.length_append, List.length_singleton]
   have e : roN (.r (wantJ d j ++ [opN (roN d j)])) (wantJ d j).length = opN (roN d j) := by
    show (wantJ d j ++ [opN (roN d j)]).getD (wantJ d j).length (.r []) = _
    rw [gD_app_r _ _ _ _ (Nat.le_refl _), Nat.sub_self]; rfl
   have e0 : roZ (roN (opN (roN d j)) 0) = roZ (roN (roN d j) 0) := rfl
   have e2 : roS (roN (opN (roN d j)) 2) = roS (roN (roN d j) 2) := rfl
   have e3 : roN (opN (roN d j)) 3 = roN (roN d j) 3 := rfl
   unfold endJ
   rw [e, e0, e2, e3, endJ_app s _ _ _ (Nat.le_refl _), h]
   show _ = saysL _ _ _ _
   unfold saysL
   by_cases c1 : roZ (roN (roN d j) 0) = 1
   ·rw [if_pos c1, if_pos c1]
   ·rw [if_neg c1, if_neg c1, if_pos (c.resolve_left c1)]
  ·have c1 : ¬ roZ (roN (roN d j) 0) = 1 := fun h => c (.inl h)
   have c2 : ¬ roZ (roN (roN d j) 0) = 2 := fun h => c (.inr h)
   rw [want_n c1 c2, h]
   show _ = saysL _ _ _ _
   unfold saysL
   rw [if_neg c1, if_neg c2]
end Go.Gx

/- TranscriptScripted: the loops' shape. -/
namespace Go.Gx
open Go.Proofs Go.Sp
set_option linter.unusedVariables false
set_option maxRecDepth 100000
namespace TranscriptScripted
def Γ7 : Tab := ⟨tys, (30, scqCtr (some 28) [.d (.l shSay)] bothG) :: (18, scqCtr none [] heardG) :: (19, genCtr [.d (.l shSt), .d (.l shSay)] hrdG) :: (9, newCtr) :: (31, genCtr [.v, .d (.l shSay)] endG) :: Ψ4.ctr, [3, 0, 4, 2, 1], gh5⟩
def t7 (a w : SV) (h : Heap) : St := ⟨[.s ByteArray.empty, .ro 490 (.l shSay) (.r []), .any, .any, .any, .p 1000 0, a, w, .i .i64 ⟨false, 0⟩] ++ reps .any 90, gh5 ++ (490, .world) :: (1000, .segs false [.arr .u8 64 false [], .one (.b false false)]) :: h, 5000⟩
def t24 (a w : SV) (h : Heap) : St := ⟨[.s ByteArray.empty, .any, .any, .any, .any, .p 1000 0, a, w, .any, .any, .any, .any, .any, .sl 1003 0 4 ⟨true, .ofNat 0⟩ ⟨false, 0⟩, .i .i64 ⟨false, 0⟩] ++ reps .any 84, gh5 ++ (490, .world) :: (1000, .segs false [.arr .u8 64 false [], .one (.b false false)]) :: (1003, .segs false [.rowA .u64 4 []]) :: h, 5000⟩
def wSl : SV := .sl 1001 0 4 ⟨true, .ofNat 0⟩ ⟨false, 0⟩
def aSl : SV := .sl 1002 0 4 ⟨true, .ofNat 0⟩ ⟨false, 0⟩
def hw7 : Heap := [(1001, .segs false [.rowD 490 shSay []])]
def ha7 : Heap := [(1001, .segs false [.rowD 490 shSay []]), (1002, .segs false [.rowA .u64 4 []])]
def L7 : Loops := [(7, t7 .nsl .nsl []), (1007, t7 .nsl wSl hw7), (2007, t7 aSl wSl ha7), (24, t24 .nsl .nsl []), (1024, t24 .nsl wSl hw7), (2024, t24 aSl wSl ha7)]
def vc7 (s : ByteArray) (d : RO) (K : List RV → List (Option (List Seg)) → Prop) (Q : Nat → List Pv → Prop) : Prop := fnVcG 0 Γ7 Tryd.f7 L7 [.s s, .ro 490 (.l shSay) d] (gh5 ++ [(490, .world)]) K Q
def lc7a (s : ByteArray) (d : RO) (i : Int) (st : List Int) (b : Bool) (K : List RV → List (Option (List Seg)) → Prop) (Q : Nat → List Pv → Prop) : Prop := loopVcG 0 Γ7 Tryd.f7 L7 7 [.s s, .ro d, .z i, .l K80, .l K80, .l st, .b b] K Q
def lc7b (s : ByteArray) (d : RO) (nw i : Int) (st : List Int) (b : Bool) (ws : List RO) (K : List RV → List (Option (List Seg)) → Prop) (Q : Nat → List Pv → Prop) : Prop := loopVcG 0 Γ7 Tryd.f7 L7 1007 [.s s, .ro d, .z nw, .z i, .l K80, .l K80, .l st, .b b, .ro (.r ws)] K Q
def lc7c (s : ByteArray) (d : RO) (na nw i : Int) (st : List Int) (b : Bool) (ws : List RO) (al : List (List Int)) (K : List RV → List (Option (List Seg)) → Prop) (Q : Nat → List Pv → Prop) : Prop := loopVcG 0 Γ7 Tryd.f7 L7 2007 [.s s, .ro d, .z na, .z nw, .z i, .l K80, .l K80, .l st, .b b, .ro (.r ws), .ll al] K Q
def lc24a (s : ByteArray) (ng i : Int) (st : List Int) (b : Bool) (gl : List (List Int)) (K : List RV → List (Option (List Seg)) → Prop) (Q : Nat → List Pv → Prop) : Prop := loopVcG 0 Γ7 Tryd.f7 L7 24 [.s s, .z ng, .z i, .l K80, .l K80, .l st, .b b, .ll gl] K Q
def lc24b (s : ByteArray) (nw ng i : Int) (st : List Int) (b : Bool) (gl : List (List Int)) (ws : List RO) (K : List RV → List (Option (List Seg)) → Prop) (Q : Nat → List Pv → Prop) : Prop := loopVcG 0 Γ7 Tryd.f7 L7 1024 [.s s, .z nw, .z ng, .z i, .l K80, .l K80, .l st, .b b, .ll gl, .ro (.r ws)] K Q
def lc24c (s : ByteArray) (na nw ng i : Int) (st : List Int) (b : Bool) (gl : List (List Int)) (ws : List RO) (al : List (List Int)) (K : List RV → List (Option (List Seg)) → Prop) (Q : Nat → List Pv → Prop) : Prop := loopVcG 0 Γ7 Tryd.f7 L7 2024 [.s s, .z na, .z nw, .z ng, .z i, .l K80, .l K80, .l st, .b b, .ll gl, .ro (.r ws), .ll al] K Q
theorem Γ7_ok : TabOk Tryd.prog Γ7 := ((((Ψ4_ok.cons endG_ok).cons (CallOk.mono sub5 newScr_ok)).cons (CallOk.mono sub5 hrdG_ok)).cons (CallOk.mono sub5 heard18_ok)).cons both_ok
theorem vc7_eq : ∀ (s : ByteArray) (d : RO) (K : List RV → List (Option (List Seg)) → Prop) (Q : Nat → List Pv → Prop), vc7 s d K Q = (Need ((((frL tagT [bytesI s]).length : Nat) : Int) ≤ 70368744177664) ∧ ForA .u8 64 (seedL (bytesI s)) fun x1 => Same Tryd.f7 7 (itemsOf Tryd.f7 7) ∧ Q 7 [Pv.s s, Pv.ro d, Pv.z 0, Pv.l K80, Pv.l K80, Pv.l x1, Pv.b true]) := by
 intros
 kernel_rfl
def BD (i : Int) (st : List Int) (b : Bool) (al : List (List Int)) (NA : Prop → Prop) (NW : (Int → Prop) → Prop) (R1 : Int → Int → List Int → RO → Prop) (R2 : Int → Int → Int → List Int → RO → List (List Int) → Prop) (K : List RV → List (Option (List Seg)) → Prop) (x1 : Int) (o : RO) : Prop :=
 Need (b = true) ∧ Need ((((frL (bytesI (roS (roN o 2))) (List.map roL (roX (roN o 3)))).length : Nat) : Int) + (1000 : Int) ≤ (70368744177664 : Int)) ∧ ∀ (x3 : List Int), x3 = saysL st (roZ (roN o 0)) (bytesI (roS (roN o 2))) (List.map roL (roX (roN o 3))) → x3.length = (64 : Nat) → AllR IntKind.u8 x3 →
  ∀ (x4 : Int), x4 = Sc.w0 (saysN st (roZ (roN o 0)) (bytesI (roS (roN o 2)))) → InR IntKind.u64 x4 → ∀ (x5 : Int), x5 = Sc.w1 (saysN st (roZ (roN o 0)) (bytesI (roS (roN o 2)))) → InR IntKind.u64 x5 → ∀ (x6 : Int), x6 = Sc.w2 (saysN st (roZ (roN o 0)) (bytesI (roS (roN o 2)))) → InR IntKind.u64 x6 → ∀ (x7 : Int), x7 = Sc.w3 (saysN st (roZ (roN o 0)) (bytesI (roS (roN o 2)))) → InR IntKind.u64 x7 →
  ∀ (x8 : Int), x8 = saysE st (roZ (roN o 0)) (bytesI (roS (roN o 2))) → InR IntKind.i64 x8 → ((x8 != (0 : Int)) = true → K [RV.v (SV.b false (x8 == (4 : Int)))] []) ∧ ((x8 != (0 : Int)) = false →
   ((x1 == (2 : Int)) = true → Need ((((al ++ List.take (1 : Nat) (List.drop (0 : Nat) [[x4, x5, x6, x7]])).length : Nat) : Int) * (32 : Int) ≤ (70368744177664 : Int)) ∧ NA (Need ((1 : Int) ≤ (([[x4, x5, x6, x7]].length : Nat) : Int)) ∧ ∀ (x9 : List (List Int)), x9 = al ++ List.take (1 : Nat) (List.drop (0 : Nat) [[x4, x5, x6, x7]]) → AllA IntKind.u64 (4 : Nat) x9 →
    ∀ (x10 : Int), x10 = (((al ++ List.take (1 : Nat) (List.drop (0 : Nat) [[x4, x5, x6, x7]])).length : Nat) : Int) → (0 : Int) ≤ x10 → InR IntKind.i64 x10 → NW fun x11 => ∀ (x12 : Int), x12 = IntKind.i64.wrap (i + (1 : Int)) → InR IntKind.i64 x12 → R2 x10 x11 x12 x3 o x9)) ∧
   ((x1 == (2 : Int)) = false → NW fun x13 => ∀ (x14 : Int), x14 = IntKind.i64.wrap (i + (1 : Int)) → InR IntKind.i64 x14 → R1 x13 x14 x3 o))
def FX (d : RO) (L W : RO) (na : Int) (NH : Prop → Prop) (RX : Int → List (List Int) → Prop) (K : List RV → List (Option (List Seg)) → Prop) : Prop :=
 ∀ (x28 : List (List Int)), x28 = [] → ∀ (x29 : List (List Int)), x29 = List.map roL (roX L) → AllA IntKind.u64 (4 : Nat) x29 → Need (((([] : List RO).length : Nat) : Int) = (0 : Int)) ∧ Need (true = true) ∧ Need ((0 : Int) + (((roX L).length : Nat) : Int) ≤ ((x29.length : Nat) : Int)) ∧ Need ((((([] : List RO).length + (roX d).length) : Nat) : Int) * (48 : Int) ≤ (70368744177664 : Int)) ∧
  Need (∀ (i : Nat), i < (roX d).length → (((roX (roN (roN d i) (3 : Nat))).length : Nat) : Int) * (24 : Int) ≤ (70368744177664 : Int) ∧ (∀ (i_1 : Nat), i_1 < (roX (roN (roN d i) (3 : Nat))).length → (((roL (roN (roN (roN d i) (3 : Nat)) i_1)).length : Nat) : Int) ≤ (70368744177664 : Int)) ∧ True) ∧
  ∀ (x30 : List (List Int)), x30 = (bothJ ⟨x29, (0 : Int), (((roX L).length : Nat) : Int), [], true⟩ d (roX d).length).1.l → AllA IntKind.u64 (4 : Nat) x30 → ∀ (x31 : List (List Int)), x31 = x28 ++ List.replicate (bothJ ⟨x29, (0 : Int), (((roX L).length : Nat) : Int), [], true⟩ d (roX d).length).2.2 [] → ∀ (x32 : List (List Int)), x32 = (bothJ ⟨x29, (0 : Int), (((roX L).length : Nat) : Int), [], true⟩ d (roX d).length).2.1 → AllA IntKind.u64 (4 : Nat) x32 → ∀ (x33 : Int), x33 = (((bothJ ⟨x29, (0 : Int), (((roX L).length : Nat) : Int), [], true⟩ d (roX d).length).2.1.length : Nat) : Int) → (0 : Int) ≤ x33 → InR IntKind.i64 x33 →
  ((x33 != na) = true → K [RV.v (SV.b true false)] []) ∧ ((x33 != na) = false → Need ((((bothJ ⟨x29, (0 : Int), (((roX L).length : Nat) : Int), [], true⟩ d (roX d).length).1.ds.length : Nat) : Int) = (((bothJ ⟨x29, (0 : Int), (((roX L).length : Nat) : Int), [], true⟩ d (roX d).length).1.ds.length : Nat) : Int)) ∧ Need ((bothJ ⟨x29, (0 : Int), (((roX L).length : Nat) : Int), [], true⟩ d (roX d).length).1.b = true) ∧ Need ((((bothJ ⟨x29, (0 : Int), (((roX L).length : Nat) : Int), [], true⟩ d (roX d).length).1.ds.length : Nat) : Int) * (48 : Int) ≤ (70368744177664 : Int)) ∧
   Need (∀ (i : Nat), i < (bothJ ⟨x29, (0 : Int), (((roX L).length : Nat) : Int), [], true⟩ d (roX d).length).1.ds.length → (((roX (roN ((bothJ ⟨x29, (0 : Int), (((roX L).length : Nat) : Int), [], true⟩ d (roX d).length).1.ds.getD i (RO.r [])) (2 : Nat))).length : Nat) : Int) * (24 : Int) ≤ (70368744177664 : Int) ∧ (∀ (i_1 : Nat), i_1 < (roX (roN ((bothJ ⟨x29, (0 : Int), (((roX L).length : Nat) : Int), [], true⟩ d (roX d).length).1.ds.getD i (RO.r [])) (2 : Nat))).length → (((roL (roN (roN ((bothJ ⟨x29, (0 : Int), (((roX L).length : Nat) : Int), [], true⟩ d (roX d).length).1.ds.getD i (RO.r [])) (2 : Nat)) i_1)).length : Nat) : Int) ≤ (70368744177664 : Int)) ∧ True) ∧
   ∀ (x34 : List (List Int)), x34 = x30 → AllA IntKind.u64 (4 : Nat) x34 → ∀ (x35 : List (List Int)), x35 = x31 ++ List.replicate (0 : Nat) [] → ∀ (x36 : List (List Int)), x36 = List.replicate (cntN (bothJ ⟨x29, (0 : Int), (((roX L).length : Nat) : Int), [], true⟩ d (roX d).length).1.ds (bothJ ⟨x29, (0 : Int), (((roX L).length : Nat) : Int), [], true⟩ d (roX d).length).1.ds.length) [] → ∀ (x37 : Int), x37 = (((List.map recN (bothJ ⟨x29, (0 : Int), (((roX L).length : Nat) : Int), [], true⟩ d (roX d).length).1.ds).length : Nat) : Int) → (0 : Int) ≤ x37 → InR IntKind.i64 x37 →
   Need ((0 : Int) = (0 : Int)) ∧ Need (x37 = (((List.map recN (bothJ ⟨x29, (0 : Int), (((roX L).length : Nat) : Int), [], true⟩ d (roX d).length).1.ds).length : Nat) : Int)) ∧ NH (∀ (x38 : Bool), x38 = heardB (RO.r (List.map recN (bothJ ⟨x29, (0 : Int), (((roX L).length : Nat) : Int), [], true⟩ d (roX d).length).1.ds)) W → ((!x38) = true → K [RV.v (SV.b true false)] []) ∧ ((!x38) = false → RX x33 x32)))
def BX (d : RO) (i : Int) (st : List Int) (b : Bool) (al : List (List Int)) (L W : RO) (na : Int) (NA : Prop → Prop) (NW : (Int → Prop) → Prop) (NL NH : Prop → Prop) (R0 : Int → Prop) (R1 : Int → Int → List Int → RO → Prop) (R2 : Int → Int → Int → List Int → RO → List (List Int) → Prop) (RX : Int → List (List Int) → Prop) (K : List RV → List (Option (List Seg)) → Prop) : Prop :=
 (decide (i < (((roX d).length : Nat) : Int)) = true → Need ((0 : Int) ≤ i ∧ i < (((roX d).length : Nat) : Int)) ∧ ∀ (x1 : Int), x1 = roZ (roN (roN d i.toNat) (0 : Nat)) → InR IntKind.i64 x1 → ∀ (x2 : Int), x2 = roZ (roN (roN d i.toNat) (1 : Nat)) → InR IntKind.i64 x2 →
  ((x1 == (1 : Int)) = true → BD i st b al NA NW R1 R2 K x1 (opX x1 x2 (roN d i.toNat))) ∧ ((x1 == (1 : Int)) = false → ((x1 == (2 : Int)) = true → BD i st b al NA NW R1 R2 K x1 (opX x1 x2 (roN d i.toNat))) ∧ ((x1 == (2 : Int)) = false → ∀ (x27 : Int), x27 = IntKind.i64.wrap (i + (1 : Int)) → InR IntKind.i64 x27 → R0 x27))) ∧
 (decide (i < (((roX d).length : Nat) : Int)) = false → NL (FX d L W na NH RX K))
theorem lc7a_eq : ∀ (s : ByteArray) (d : RO) (i : Int) (st : List Int) (b : Bool) (K : List RV → List (Option (List Seg)) → Prop) (Q : Nat → List Pv → Prop), lc7a s d i st b K Q = BX d i st b [] (RO.r []) (RO.r []) (0 : Int) (fun P => P) (fun f => Need ((56 : Int) ≤ (70368744177664 : Int)) ∧ ∀ (x : Int), x = (1 : Int) → (0 : Int) ≤ x → InR IntKind.i64 x → f x) (fun P => Need ((0 : Int) ≤ (70368744177664 : Int)) ∧ P) (fun P => P)
  (fun x27 => Same Tryd.f7 (7 : Nat) (itemsOf Tryd.f7 (7 : Nat)) ∧ Q (7 : Nat) [Pv.s s, Pv.ro d, Pv.z x27, Pv.l K80, Pv.l K80, Pv.l st, Pv.b b])
  (fun x13 x14 x3 o => Same Tryd.f7 (7 : Nat) (itemsOf Tryd.f7 (7 : Nat)) ∧ Q (1007 : Nat) [Pv.s s, Pv.ro d, Pv.z x13, Pv.z x14, Pv.l K80, Pv.l K80, Pv.l x3, Pv.b b, Pv.ro (RO.r ([] ++ [o]))])
  (fun x10 x11 x12 x3 o x9 => Same Tryd.f7 (7 : Nat) (itemsOf Tryd.f7 (7 : Nat)) ∧ Q (2007 : Nat) [Pv.s s, Pv.ro d, Pv.z x10, Pv.z x11, Pv.z x12, Pv.l K80, Pv.l K80, Pv.l x3, Pv.b b, Pv.ro (RO.r ([] ++ [o])), Pv.ll x9])
  (fun x33 x32 => Same Tryd.f7 (24 : Nat) (itemsOf Tryd.f7 (24 : Nat)) ∧ Q (24 : Nat) [Pv.s s, Pv.z x33, Pv.z (0 : Int), Pv.l K80, Pv.l K80, Pv.l st, Pv.b b, Pv.ll x32]) K := by
 intros
 kernel_rfl
theorem lc7b_eq : ∀ (s : ByteArray) (d : RO) (nw i : Int) (st : List Int) (b : Bool) (ws : List RO) (K : List RV → List (Option (List Seg)) → Prop) (Q : Nat → List Pv → Prop), lc7b s d nw i st b ws K Q = BX d i st b [] (RO.r []) (RO.r (roX (RO.r ws))) (0 : Int) (fun P => P) (fun f => Need (((((roX (RO.r ws)).length + (1 : Nat)) : Nat) : Int) * (56 : Int) ≤ (70368744177664 : Int)) ∧ Need (nw = (((roX (RO.r ws)).length : Nat) : Int)) ∧ ∀ (x : Int), x = ((((roX (RO.r ws)).length + (1 : Nat)) : Nat) : Int) → (0 : Int) ≤ x → InR IntKind.i64 x → f x) (fun P => Need ((0 : Int) ≤ (70368744177664 : Int)) ∧ P) (fun P => Need ((0 : Int) = (0 : Int)) ∧ Need (nw = (((roX (RO.r ws)).length : Nat) : Int)) ∧ P)
  (fun x27 => Same Tryd.f7 (7 : Nat) (itemsOf Tryd.f7 (7 : Nat)) ∧ Q (1007 : Nat) [Pv.s s, Pv.ro d, Pv.z nw, Pv.z x27, Pv.l K80, Pv.l K80, Pv.l st, Pv.b b, Pv.ro (RO.r (roX (RO.r ws)))])
  (fun x13 x14 x3 o => Same Tryd.f7 (7 : Nat) (itemsOf Tryd.f7 (7 : Nat)) ∧ Q (1007 : Nat) [Pv.s s, Pv.ro d, Pv.z x13, Pv.z x14, Pv.l K80, Pv.l K80, Pv.l x3, Pv.b b, Pv.ro (RO.r (roX (RO.r ws) ++ [o]))])
  (fun x10 x11 x12 x3 o x9 => Same Tryd.f7 (7 : Nat) (itemsOf Tryd.f7 (7 : Nat)) ∧ Q (2007 : Nat) [Pv.s s, Pv.ro d, Pv.z x10, Pv.z x11, Pv.z x12, Pv.l K80, Pv.l K80, Pv.l x3, Pv.b b, Pv.ro (RO.r (roX (RO.r ws) ++ [o])), Pv.ll x9])
  (fun x33 x32 => Same Tryd.f7 (24 : Nat) (itemsOf Tryd.f7 (24 : Nat)) ∧ Q (1024 : Nat) [Pv.s s, Pv.z nw, Pv.z x33, Pv.z (0 : Int), Pv.l K80, Pv.l K80, Pv.l st, Pv.b b, Pv.ll x32, Pv.ro (RO.r (roX (RO.r ws)))]) K := by
 intros
 kernel_rfl
theorem lc7c_eq : ∀ (s : ByteArray) (d : RO) (na nw i : Int) (st : List Int) (b : Bool) (ws : List RO) (al : List (List Int)) (K : List RV → List (Option (List Seg)) → Prop) (Q : Nat → List Pv → Prop), lc7c s d na nw i st b ws al K Q = BX d i st b al (RO.r (List.map RO.l (List.take na.toNat (List.drop (0 : Nat) al)))) (RO.r (roX (RO.r ws))) na (fun P => Need (na = ((al.length : Nat) : Int)) ∧ P) (fun f => Need (((((roX (RO.r ws)).length + (1 : Nat)) : Nat) : Int) * (56 : Int) ≤ (70368744177664 : Int)) ∧ Need (nw = (((roX (RO.r ws)).length : Nat) : Int)) ∧ ∀ (x : Int), x = ((((roX (RO.r ws)).length + (1 : Nat)) : Nat) : Int) → (0 : Int) ≤ x → InR IntKind.i64 x → f x) (fun P => Need ((0 : Int) + na ≤ ((al.length : Nat) : Int)) ∧ Need ((((roX (RO.r (List.map RO.l (List.take na.toNat (List.drop (0 : Nat) al))))).length : Nat) : Int) * (32 : Int) ≤ (70368744177664 : Int)) ∧ P) (fun P => Need ((0 : Int) = (0 : Int)) ∧ Need (nw = (((roX (RO.r ws)).length : Nat) : Int)) ∧ P)
  (fun x27 => Same Tryd.f7 (7 : Nat) (itemsOf Tryd.f7 (7 : Nat)) ∧ Q (2007 : Nat) [Pv.s s, Pv.ro d, Pv.z na, Pv.z nw, Pv.z x27, Pv.l K80, Pv.l K80, Pv.l st, Pv.b b, Pv.ro (RO.r (roX (RO.r ws))), Pv.ll al])
  (fun x13 x14 x3 o => Same Tryd.f7 (7 : Nat) (itemsOf Tryd.f7 (7 : Nat)) ∧ Q (2007 : Nat) [Pv.s s, Pv.ro d, Pv.z na, Pv.z x13, Pv.z x14, Pv.l K80, Pv.l K80, Pv.l x3, Pv.b b, Pv.ro (RO.r (roX (RO.r ws) ++ [o])), Pv.ll al])
  (fun x10 x11 x12 x3 o x9 => Same Tryd.f7 (7 : Nat) (itemsOf Tryd.f7 (7 : Nat)) ∧ Q (2007 : Nat) [Pv.s s, Pv.ro d, Pv.z x10, Pv.z x11, Pv.z x12, Pv.l K80, Pv.l K80, Pv.l x3, Pv.b b, Pv.ro (RO.r (roX (RO.r ws) ++ [o])), Pv.ll x9])
  (fun x33 x32 => Same Tryd.f7 (24 : Nat) (itemsOf Tryd.f7 (24 : Nat)) ∧ Q (2024 : Nat) [Pv.s s, Pv.z na, Pv.z nw, Pv.z x33, Pv.z (0 : Int), Pv.l K80, Pv.l K80, Pv.l st, Pv.b b, Pv.ll x32, Pv.ro (RO.r (roX (RO.r ws))), Pv.ll al]) K := by
 intros
 kernel_rfl
theorem lc24a_eq : ∀ (s : ByteArray) (ng i : Int) (st : List Int) (b : Bool) (gl : List (List Int)) (K : List RV → List (Option (List Seg)) → Prop) (Q : Nat → List Pv → Prop), lc24a s ng i st b gl K Q = ((decide (i < 0) = true → Need (0 ≤ i ∧ i < ng) ∧ Need (0 ≤ i ∧ i < ((gl.length : Nat) : Int)) ∧ ForI .u64 ((gl.getD i.toNat []).getD 0 0) fun x1 => ForI .u64 ((gl.getD i.toNat []).getD 1 0) fun x2 => ForI .u64 ((gl.getD i.toNat []).getD 2 0) fun x3 => ForI .u64 ((gl.getD i.toNat []).getD 3 0) fun x4 => False) ∧ (decide (i < 0) = false → ForA .u8 64 st fun x5 => ForA .u8 64 (stateL b st) fun x6 => Need ((((frL tagT [bytesI s]).length : Nat) : Int) ≤ 70368744170000) ∧ Need (∀ (i : Nat), i < 0 → (((frL (bytesI (roS (roN (roN (RO.r []) i) (2 : Nat)))) (List.map roL (roX (roN (roN (RO.r []) i) (3 : Nat))))).length : Nat) : Int) + 1000 ≤ (70368744170000 : Int)) ∧ ForA .u8 64 (endJ s (RO.r []) (0 : Nat)) fun x7 => K [RV.v (SV.b false (x6 == x7))] [])) := by
 intros
 kernel_rfl
theorem lc24b_eq : ∀ (s : ByteArray) (nw ng i : Int) (st : List Int) (b : Bool) (gl : List (List Int)) (ws : List RO) (K : List RV → List (Option (List Seg)) → Prop) (Q : Nat → List Pv → Prop), lc24b s nw ng i st b gl ws K Q = ((decide (i < 0) = true → Need (0 ≤ i ∧ i < ng) ∧ Need (0 ≤ i ∧ i < ((gl.length : Nat) : Int)) ∧ ForI .u64 ((gl.getD i.toNat []).getD 0 0) fun x1 => ForI .u64 ((gl.getD i.toNat []).getD 1 0) fun x2 => ForI .u64 ((gl.getD i.toNat []).getD 2 0) fun x3 => ForI .u64 ((gl.getD i.toNat []).getD 3 0) fun x4 => False) ∧ (decide (i < 0) = false → ForA .u8 64 st fun x5 => ForA .u8 64 (stateL b st) fun x6 => Need ((0 : Int) = (0 : Int)) ∧ Need (nw = (((roX (RO.r ws)).length : Nat) : Int)) ∧ Need ((((frL tagT [bytesI s]).length : Nat) : Int) ≤ 70368744170000) ∧ Need (∀ (i : Nat), i < (roX (RO.r (roX (RO.r ws)))).length → (((frL (bytesI (roS (roN (roN (RO.r (roX (RO.r ws))) i) (2 : Nat)))) (List.map roL (roX (roN (roN (RO.r (roX (RO.r ws))) i) (3 : Nat))))).length : Nat) : Int) + 1000 ≤ (70368744170000 : Int)) ∧ ForA .u8 64 (endJ s (RO.r (roX (RO.r ws))) (roX (RO.r (roX (RO.r ws)))).length) fun x7 => K [RV.v (SV.b false (x6 == x7))] [])) := by
 intros
 kernel_rfl
theorem lc24c_eq : ∀ (s : ByteArray) (na nw ng i : Int) (st : List Int) (b : Bool) (gl : List (List Int)) (ws : List RO) (al : List (List Int)) (K : List RV → List (Option (List Seg)) → Prop) (Q : Nat → List Pv → Prop), lc24c s na nw ng i st b gl ws al K Q = ((decide (i < na) = true → Need (0 ≤ i ∧ i < ng) ∧ Need (0 ≤ i ∧ i < ((gl.length : Nat) : Int)) ∧ ForI .u64 ((gl.getD i.toNat []).getD 0 0) fun x1 => ForI .u64 ((gl.getD i.toNat []).getD 1 0) fun x2 => ForI .u64 ((gl.getD i.toNat []).getD 2 0) fun x3 => ForI .u64 ((gl.getD i.toNat []).getD 3 0) fun x4 => Need (0 ≤ i ∧ i < na) ∧ Need (0 ≤ i ∧ i < ((al.length : Nat) : Int)) ∧ ForI .u64 ((al.getD i.toNat []).getD 0 0) fun x5 => ForI .u64 ((al.getD i.toNat []).getD 1 0) fun x6 => ForI .u64 ((al.getD i.toNat []).getD 2 0) fun x7 => ForI .u64 ((al.getD i.toNat []).getD 3 0) fun x8 => ((![x1, x2, x3, x4] == [x5, x6, x7, x8]) = true → K [RV.v (SV.b true false)] []) ∧ ((![x1, x2, x3, x4] == [x5, x6, x7, x8]) = false → ForI .i64 (IntKind.i64.wrap (i + 1)) fun x9 => Same Tryd.f7 24 (itemsOf Tryd.f7 24) ∧ Q 2024 [Pv.s s, Pv.z na, Pv.z nw, Pv.z ng, Pv.z x9, Pv.l K80, Pv.l K80, Pv.l st, Pv.b b, Pv.ll gl, Pv.ro (RO.r (roX (RO.r ws))), Pv.ll al])) ∧ (decide (i < na) = false → ForA .u8 64 st fun x10 => ForA .u8 64 (stateL b st) fun x11 => Need ((0 : Int) = (0 : Int)) ∧ Need (nw = (((roX (RO.r ws)).length : Nat) : Int)) ∧ Need ((((frL tagT [bytesI s]).length : Nat) : Int) ≤ 70368744170000) ∧ Need (∀ (i : Nat), i < (roX (RO.r (roX (RO.r ws)))).length → (((frL (bytesI (roS (roN (roN (RO.r (roX (RO.r ws))) i) (2 : Nat)))) (List.map roL (roX (roN (roN (RO.r (roX (RO.r ws))) i) (3 : Nat))))).length : Nat) : Int) + 1000 ≤ (70368744170000 : Int)) ∧ ForA .u8 64 (endJ s (RO.r (roX (RO.r ws))) (roX (RO.r (roX (RO.r ws)))).length) fun x12 => K [RV.v (SV.b false (x11 == x12))] [])) := by
 intros
 kernel_rfl
end TranscriptScripted
end Go.Gx

/- From a law's call to what its row asks, for laws that only read. -/
namespace Go.Gx
open Go.ChangeShapes Go.WideShapes Go.ChangeAt Go.RowKit
set_option linter.unusedVariables false

section
variable {P : Program}

theorem below_trodAll {H : Type} {enc : TypeId × Value → H} {W W' : World} (hl : laidOutB P = true) (hB : Below W.heap.size W W') {sp : Nat → Bool} : ∀ {ts : List TypeId} {vs : List Value} {ds : List (DataW H)} {ps : List MemPlace},
  (∀ t ∈ ts, P.readableRec t = true ∧ t < P.types.size) → DataW.TrodAll enc P W 0 (fun _ => true) true ts vs ds ps → (∀ p ∈ ps, p.block < W.heap.size) → (∀ p ∈ ps, sp p.block = true) → DataW.TrodAll enc P W' 0 sp true ts vs ds ps
 | [], _, _, _, _, h, _, _ => by
  obtain ⟨rfl, rfl, rfl⟩ := trodAll_nil h
  exact trodAll_mk0
 | t :: ts, _, _, _, ht, h, hlt, hs => by
  obtain ⟨v, vs1, d, ds1, p, q, rfl, rfl, rfl, h1, h2⟩ := trodAll_cons h
  have := ht t (by simp)
  exact trodAll_cons_mk (WideElems.Trod_stays hl this.1 this.2 h1 (fun x hx => hB.same (hlt x (by simp [hx]))) fun x hx => hs x (by simp [hx]))
   (below_trodAll hl hB (fun t h => ht t (by simp [h])) h2 (fun x hx => hlt x (by simp [hx])) fun x hx => hs x (by simp [hx]))

theorem post_true {H : Type} {enc : TypeId × Value → H} {f : Func} {s : ChangeSpec} {tb : TypeId} {W W' : World} {args : Array Value} {ds gs : List (DataW H)} {before : List MemPlace}
  (hl : laidOutB P = true) (hv : s.vars = []) (hr : f.resultTypes = #[tb]) (hb : P.underlying tb = some .bool) (hread : ∀ t ∈ f.params.toList, P.readableRec t = true ∧ t < P.types.size)
  (hfn : ∀ ds : List (DataW H), ds.length = f.params.size → (s.fn H ds).results = [.lit (.bool true)] ∧ (s.fn H ds).args = ds ∧ (s.fn H ds).vars = [])
  (hW : DataW.Whole enc P f.params.toList s.vars false W args.toList ds gs before) (hB : Below W.heap.size W W') : s.post enc P f false true false false W args (.bool true) W' := by
 have hW' := hW
 obtain ⟨p, q, hA0, hV, rfl, hz, hn⟩ := hW
 have hA : DataW.TrodAll enc P W 0 (fun _ => true) true f.params.toList args.toList ds p := hA0
 rw [hv] at hV
 obtain ⟨rfl, rfl⟩ := trodVars_none hV
 have hlen : ds.length = f.params.size := by
  have : ∀ {ts : List TypeId} {vs : List Value} {ds : List (DataW H)} {ps : List MemPlace}, DataW.TrodAll enc P W 0 (fun _ => true) true ts vs ds ps → ds.length = ts.length := by
   intro ts
   induction ts with
   | nil => intro vs ds ps h; obtain ⟨_, rfl, _⟩ := trodAll_nil h; rfl
   | cons t ts ih => intro vs ds ps h; obtain ⟨_, _, _, _, _, _, rfl, rfl, rfl, _, h2⟩ := trodAll_cons h; simp [ih h2]
  simpa using this hA
 obtain ⟨k1, k2, k3⟩ := hfn ds hlen
 have hlt : ∀ x ∈ p, x.block < W.heap.size := fun x hx => hW'.lt x (by simp [hx])
 have hres : ∀ (b : Nat) (sp : Nat → Bool) (hd : Bool), DataW.TrodAll enc P W' b sp hd f.resultTypes.toList ((Value.bool true).resultList f.resultTypes.size) (s.fn H (ds ++ [])).results [] := fun b sp hd => by
  rw [List.append_nil, k1, hr]
  exact trodAll_cons_mk (shut_bool hb _) trodAll_mk0
 have hargs : ∀ sp : Nat → Bool, (∀ x ∈ p, sp x.block = true) → DataW.TrodAll enc P W' 0 sp true f.params.toList args.toList (s.fn H (ds ++ [])).args p := fun sp hs => by
  rw [List.append_nil, k2]
  exact below_trodAll hl hB hread hA hlt hs
 have hvars : ∀ sp : Nat → Bool, DataW.TrodVars enc P W' sp s.vars (s.fn H (ds ++ [])).vars [] := fun sp => by
  rw [List.append_nil, k3, hv]; rfl
 refine ⟨ds, [], p ++ [], [], p, [], hW', hres _ _ _, hargs _ (fun x hx => by simpa using hlt x hx), hvars _, hB.frame _, fun _ => ?_⟩
 refine ⟨ok_one hr rfl (okWide_bool_mk hb _), _, _, ([] ++ p) ++ [], ⟨[] ++ p, [], trodAll_append (hargs _ (fun _ _ => rfl)) (hres _ _ _), hvars _, rfl, ?_, ?_⟩, ?_⟩
 ·intro b off hp
  have hp' : MemPlace.cell b off ∈ p := by simpa using hp
  rw [hB.frozen (hlt _ hp')]
  exact hz b off (by simpa using hp')
 ·intro ha
  have := hn ha
  simpa using this
 ·intro x hx _
  simpa using hx

theorem chunks {α : Type} {n : Nat} : ∀ (m : Nat) (cs : List α) (f : Nat → List α), cs.length = m * n → (∀ i, i < m → (cs.drop (i * n)).take n = f i) → cs = ((List.range m).map f).flatten
 | 0, cs, f, hl, _ => by
  have : cs = [] := List.length_eq_zero_iff.1 (by simpa using hl)
  simp [this]
 | m + 1, cs, f, hl, h => by
  have ih := chunks (n := n) m (cs.drop n) (fun i => f (i + 1)) (by rw [List.length_drop, hl, Nat.succ_mul]; omega) fun i hi => by
   rw [List.drop_drop, ← h (i + 1) (by omega), Nat.succ_mul, Nat.add_comm n]
  have h0 := h 0 (by omega)
  rw [Nat.zero_mul, List.drop_zero] at h0
  rw [List.range_succ_eq_map, List.map_cons, List.flatten_cons, List.map_map]
  conv => lhs; rw [← List.take_append_drop n cs]
  rw [h0, ih]
  rfl

theorem tab2_of_head {W : World} {name : String} {k : IntKind} {rows : List (List Int)} {rest : List (String × DataW Unit)} {g : Nat} {t e1 e : TypeId} {m n : Nat}
  (hg : P.globalNamed name = some g) (hty : (P.globals[g]?).map (·.type) = some t) (ht : P.underlying t = some (.array m e1)) (ht1 : P.underlying e1 = some (.array n e)) (he : P.underlying e = some (.int k)) (hce : P.cellsOf e = 1) (hc1 : P.cellsOf e1 = n) (hct : P.cellsOf t = m * n)
  (h : laidMet P ((name, .agg (rows.map (Lib.tabData k))) :: rest) W) : W.rangeAt g 0 ((List.range m).map fun i => (rows.getD i []).map (Value.int k)).flatten ∧ g < W.heap.size := by
 obtain ⟨ps, ⟨g', t', cs, fuel, p, q, hg', ht', hvar, hd, _, _⟩, _⟩ := h
 obtain rfl := Option.some.inj (hg.symm.trans hg')
 obtain rfl := Option.some.inj (hty.symm.trans ht')
 have hcs : cs.toList = ((List.range m).map fun i => (rows.getD i []).map (Value.int k)).flatten := by
  cases fuel with
  | zero => simp [DataW.trod] at hd
  | succ fuel =>
   simp only [DataW.trod, ht, hc1, hct] at hd
   split at hd
   ·rename_i hl
    obtain ⟨xs, hm, hx⟩ := Option.map_eq_some_iff.1 hd
    have hxs : xs.map (·.1) = rows.map (Lib.tabData k) := by
     have := congrArg Prod.fst hx
     simpa using this
    have hxl : xs.length = m := by simpa using Lib.mapM_length hm
    have hrl : rows.length = m := by
     have := congrArg List.length hxs
     simp at this
     omega
    refine chunks m _ _ hl fun i hi => ?_
    obtain ⟨b, hb, hf⟩ := Lib.mapM_at hm i i (by simp [hi])
    have h2 : (xs.map (·.1))[i]? = some b.1 := by simp [hb]
    rw [hxs] at h2
    simp only [List.getElem?_map, Option.map_eq_some_iff] at h2
    obtain ⟨r, hr, hrb⟩ := h2
    have hf' : DataW.trod (fun _ => ()) P W 0 (fun _ => true) false fuel e1 ((cs.toList.drop (i * n)).take n) = some (Lib.tabData k r, b.2) := by
     rw [hrb]; exact hf
    rw [Lib.cells_of_tab ht1 he hce hc1 hf']
    simp [List.getD, hr]
   ·cases hd
 constructor
 ·rw [← hcs]
  intro j v hj
  have := World.var?_cell hg hvar j
  rw [Nat.zero_add, this]
  simpa using hj
 ·unfold World.var? at hvar
  rw [hg] at hvar
  simp only [Option.bind_some] at hvar
  split at hvar
  ·rename_i hh
   exact (Array.getElem?_eq_some_iff.1 hh).1
  ·cases hvar

theorem mem_start (W : World) (ρ : Nat → Pl) : Mem W (fun _ => False) ρ (fun _ => none) W :=
 ⟨by constructor <;> (intros; contradiction), FrameW.refl _ _, by intros; contradiction, by intros; contradiction, by intros; contradiction, .none (fun _ _ _ h => by cases h)⟩

end
end Go.Gx

/- The tables of both packages, and their cells in a row's world. -/
namespace Go.Gx
open Go.Proofs Go.Sp Go.Proofs.YthgclfedhgmpiaaDoor
open Go.ChangeShapes Go.WideShapes Go.ChangeAt Go.RowKit
set_option linter.unusedVariables false

theorem glob_of {W : World} {name : String} {k : IntKind} {zs : List Int} {g : Nat} (hg : Tryd.prog.globalNamed name = some g) (h : Lib.TabIs Tryd.prog W name k zs) : W.rangeAt g 0 (zs.map (Value.int k)) ∧ g < W.heap.size := by
 have hv : W.var? Tryd.prog name = some (zs.map fun z => Value.int k z).toArray := h
 constructor
 ·intro j v hj
  have := World.var?_cell hg hv j
  rw [Nat.zero_add, this]
  simpa using hj
 ·unfold World.var? at hv
  rw [hg] at hv
  simp only [Option.bind_some] at hv
  split at hv
  ·rename_i hh
   exact (Array.getElem?_eq_some_iff.1 hh).1
  ·cases hv

theorem all_u64 {l : List Int} (h : (l.all fun z => decide (0 ≤ z) && decide (z < 18446744073709551616)) = true) : AllR .u64 l := fun z hz => by
 have := List.all_eq_true.1 h z hz
 simpa [InR] using this
theorem start_ok : start8.length = 8 ∧ AllR .u64 start8 := ⟨rfl, all_u64 (by decide +kernel)⟩
theorem rounds_ok : K80.length = 80 ∧ AllR .u64 K80 := ⟨by decide +kernel, all_u64 (by decide +kernel)⟩

def layC (cs : Array Value) : Obj → Obj
 | .cells _ t frozen => .cells cs t frozen
 | o => o
theorem own : ownKnob Tryd.prog.godebug = none := by kernel_rfl
theorem laidOut : laidOutB Tryd.prog = true := by kernel_rfl

theorem tab_glob5 {W : World} (h : laidMetH Tryd.prog [("veil/veilref03.round", Rows.laid_veil_veilref03_round), ("veil/veilref03.first", Rows.laid_veil_veilref03_first), ("veil/hash.rounds", Rows.laid_veil_hash_rounds), ("veil/hash.start", Rows.laid_veil_hash_start), ("veil/scalar.table", Rows.laid_veil_scalar_table)] W) : Glob gh4 W fun _ => False := by
 have h' : laidMet Tryd.prog (("veil/veilref03.round", Lib.tabData .u64 K80) :: ("veil/veilref03.first", Lib.tabData .u64 start8) :: ("veil/hash.rounds", Lib.tabData .u64 K80) :: ("veil/hash.start", Lib.tabData .u64 start8) :: [("veil/scalar.table", Rows.laid_veil_scalar_table)]) W := h
 obtain ⟨c1, c2⟩ := glob_of (g := 2) (by kernel_rfl) (Lib.tabIs_of_head (n := 80) (g := 2) (t := 109) (e := 25) (by kernel_rfl) (by kernel_rfl) (by kernel_rfl) (by kernel_rfl) (by kernel_rfl) (by kernel_rfl) h')
 have h' := laidMet.tail h'
 obtain ⟨d1, d2⟩ := glob_of (g := 0) (by kernel_rfl) (Lib.tabIs_of_head (n := 8) (g := 0) (t := 90) (e := 25) (by kernel_rfl) (by kernel_rfl) (by kernel_rfl) (by kernel_rfl) (by kernel_rfl) (by kernel_rfl) h')
 have h' := laidMet.tail h'
 obtain ⟨a1, a2⟩ := glob_of (g := 4) (by kernel_rfl) (Lib.tabIs_of_head (n := 80) (g := 4) (t := 109) (e := 25) (by kernel_rfl) (by kernel_rfl) (by kernel_rfl) (by kernel_rfl) (by kernel_rfl) (by kernel_rfl) h')
 obtain ⟨b1, b2⟩ := glob_of (g := 3) (by kernel_rfl) (Lib.tabIs_of_head (n := 8) (g := 3) (t := 90) (e := 25) (by kernel_rfl) (by kernel_rfl) (by kernel_rfl) (by kernel_rfl) (by kernel_rfl) (by kernel_rfl) (laidMet.tail h'))
 intro g b hb
 have hb : (g, b) ∈ [(3, SB.segs true [.arr .u64 8 true start8]), (0, .segs true [.arr .u64 8 true start8]), (4, .segs true [.arr .u64 80 false K80]), (2, .segs true [.arr .u64 80 false K80])] := hb
 simp only [List.mem_cons, List.not_mem_nil, or_false, Prod.mk.injEq] at hb
 rcases hb with ⟨rfl, rfl⟩ | ⟨rfl, rfl⟩ | ⟨rfl, rfl⟩ | ⟨rfl, rfl⟩
 ·exact ⟨_, _, rfl, ⟨_, _, ⟨start_ok.1, start_ok.2, rfl⟩, (List.append_nil _).symm, rfl⟩, b1, fun x => x, b2⟩
 ·exact ⟨_, _, rfl, ⟨_, _, ⟨start_ok.1, start_ok.2, rfl⟩, (List.append_nil _).symm, rfl⟩, d1, fun x => x, d2⟩
 ·exact ⟨_, _, rfl, ⟨_, _, ⟨rounds_ok.1, rounds_ok.2, rfl⟩, (List.append_nil _).symm, rfl⟩, a1, fun x => x, a2⟩
 ·exact ⟨_, _, rfl, ⟨_, _, ⟨rounds_ok.1, rounds_ok.2, rfl⟩, (List.append_nil _).symm, rfl⟩, c1, fun x => x, c2⟩

noncomputable def laidWorld4 (os : Os) : World :=
 { World.holding Tryd.prog os ⟨#[], #[], []⟩ with heap := ((((World.holding Tryd.prog os ⟨#[], #[], []⟩).heap.modify 3 (layC #[.int .u64 7640891576956012808, .int .u64 13503953896175478587, .int .u64 4354685564936845355, .int .u64 11912009170470909681, .int .u64 5840696475078001361, .int .u64 11170449401992604703, .int .u64 2270897969802886507, .int .u64 6620516959819538809])).modify 0 (layC #[.int .u64 7640891576956012808, .int .u64 13503953896175478587, .int .u64 4354685564936845355, .int .u64 11912009170470909681, .int .u64 5840696475078001361, .int .u64 11170449401992604703, .int .u64 2270897969802886507, .int .u64 6620516959819538809])).modify 4 (layC #[.int .u64 4794697086780616226, .int .u64 8158064640168781261, .int .u64 13096744586834688815, .int .u64 16840607885511220156, .int .u64 4131703408338449720, .int .u64 6480981068601479193, .int .u64 10538285296894168987, .int .u64 12329834152419229976, .int .u64 15566598209576043074, .int .u64 1334009975649890238, .int .u64 2608012711638119052, .int .u64 6128411473006802146, .int .u64 8268148722764581231, .int .u64 9286055187155687089, .int .u64 11230858885718282805, .int .u64 13951009754708518548, .int .u64 16472876342353939154, .int .u64 17275323862435702243, .int .u64 1135362057144423861, .int .u64 2597628984639134821, .int .u64 3308224258029322869, .int .u64 5365058923640841347, .int .u64 6679025012923562964, .int .u64 8573033837759648693, .int .u64 10970295158949994411, .int .u64 12119686244451234320, .int .u64 12683024718118986047, .int .u64 13788192230050041572, .int .u64 14330467153632333762, .int .u64 15395433587784984357, .int .u64 489312712824947311, .int .u64 1452737877330783856, .int .u64 2861767655752347644, .int .u64 3322285676063803686, .int .u64 5560940570517711597, .int .u64 5996557281743188959, .int .u64 7280758554555802590, .int .u64 8532644243296465576, .int .u64 9350256976987008742, .int .u64 10552545826968843579, .int .u64 11727347734174303076, .int .u64 12113106623233404929, .int .u64 14000437183269869457, .int .u64 14369950271660146224, .int .u64 15101387698204529176, .int .u64 15463397548674623760, .int .u64 17586052441742319658, .int .u64 1182934255886127544, .int .u64 1847814050463011016, .int .u64 2177327727835720531, .int .u64 2830643537854262169, .int .u64 3796741975233480872, .int .u64 4115178125766777443, .int .u64 5681478168544905931, .int .u64 6601373596472566643, .int .u64 7507060721942968483, .int .u64 8399075790359081724, .int .u64 8693463985226723168, .int .u64 9568029438360202098, .int .u64 10144078919501101548, .int .u64 10430055236837252648, .int .u64 11840083180663258601, .int .u64 13761210420658862357, .int .u64 14299343276471374635, .int .u64 14566680578165727644, .int .u64 15097957966210449927, .int .u64 16922976911328602910, .int .u64 17689382322260857208, .int .u64 500013540394364858, .int .u64 748580250866718886, .int .u64 1242879168328830382, .int .u64 1977374033974150939, .int .u64 2944078676154940804, .int .u64 3659926193048069267, .int .u64 4368137639120453308, .int .u64 4836135668995329356, .int .u64 5532061633213252278, .int .u64 6448918945643986474, .int .u64 6902733635092675308, .int .u64 7801388544844847127])).modify 2 (layC #[.int .u64 4794697086780616226, .int .u64 8158064640168781261, .int .u64 13096744586834688815, .int .u64 16840607885511220156, .int .u64 4131703408338449720, .int .u64 6480981068601479193, .int .u64 10538285296894168987, .int .u64 12329834152419229976, .int .u64 15566598209576043074, .int .u64 1334009975649890238, .int .u64 2608012711638119052, .int .u64 6128411473006802146, .int .u64 8268148722764581231, .int .u64 9286055187155687089, .int .u64 11230858885718282805, .int .u64 13951009754708518548, .int .u64 16472876342353939154, .int .u64 17275323862435702243, .int .u64 1135362057144423861, .int .u64 2597628984639134821, .int .u64 3308224258029322869, .int .u64 5365058923640841347, .int .u64 6679025012923562964, .int .u64 8573033837759648693, .int .u64 10970295158949994411, .int .u64 12119686244451234320, .int .u64 12683024718118986047, .int .u64 13788192230050041572, .int .u64 14330467153632333762, .int .u64 15395433587784984357, .int .u64 489312712824947311, .int .u64 1452737877330783856, .int .u64 2861767655752347644, .int .u64 3322285676063803686, .int .u64 5560940570517711597, .int .u64 5996557281743188959, .int .u64 7280758554555802590, .int .u64 8532644243296465576, .int .u64 9350256976987008742, .int .u64 10552545826968843579, .int .u64 11727347734174303076, .int .u64 12113106623233404929, .int .u64 14000437183269869457, .int .u64 14369950271660146224, .int .u64 15101387698204529176, .int .u64 15463397548674623760, .int .u64 17586052441742319658, .int .u64 1182934255886127544, .int .u64 1847814050463011016, .int .u64 2177327727835720531, .int .u64 2830643537854262169, .int .u64 3796741975233480872, .int .u64 4115178125766777443, .int .u64 5681478168544905931, .int .u64 6601373596472566643, .int .u64 7507060721942968483, .int .u64 8399075790359081724, .int .u64 8693463985226723168, .int .u64 9568029438360202098, .int .u64 10144078919501101548, .int .u64 10430055236837252648, .int .u64 11840083180663258601, .int .u64 13761210420658862357, .int .u64 14299343276471374635, .int .u64 14566680578165727644, .int .u64 15097957966210449927, .int .u64 16922976911328602910, .int .u64 17689382322260857208, .int .u64 500013540394364858, .int .u64 748580250866718886, .int .u64 1242879168328830382, .int .u64 1977374033974150939, .int .u64 2944078676154940804, .int .u64 3659926193048069267, .int .u64 4368137639120453308, .int .u64 4836135668995329356, .int .u64 5532061633213252278, .int .u64 6448918945643986474, .int .u64 6902733635092675308, .int .u64 7801388544844847127]) }
noncomputable def laidWorld5 (os : Os) : World :=
 { laidWorld4 os with heap := (laidWorld4 os).heap.modify 1 (layC #[.int .u64 6346243789798364141, .int .u64 1503914060200516822, .int .u64 0, .int .u64 1152921504606846976, .int .u64 15486807595281847581, .int .u64 14334777244411350896, .int .u64 18446744073709551614, .int .u64 1152921504606846975, .int .u64 11819153939886771969, .int .u64 14991950615390032711, .int .u64 14910419812499177061, .int .u64 259310039853996605, .int .u64 6346243789798364139, .int .u64 1503914060200516822, .int .u64 0, .int .u64 1152921504606846976]) }
end Go.Gx

/- The tables of all, and their cells in a row's world. -/
namespace Go.Gx
open Go.Proofs Go.Sp Go.Proofs.YthgclfedhgmpiaaDoor
open Go.ChangeShapes Go.WideShapes Go.ChangeAt Go.RowKit
set_option linter.unusedVariables false

theorem gTab : Tryd.prog.globalNamed "veil/scalar.table" = some 1 := by kernel_rfl
theorem gTabType : (Tryd.prog.globals[1]?).map (·.type) = some 102 := by kernel_rfl
def tabRows : List (List Int) := [[6346243789798364141, 1503914060200516822, 0, 1152921504606846976], [15486807595281847581, 14334777244411350896, 18446744073709551614, 1152921504606846975], [11819153939886771969, 14991950615390032711, 14910419812499177061, 259310039853996605], [6346243789798364139, 1503914060200516822, 0, 1152921504606846976]]

theorem tab_glob6 {W : World} (h : laidMetH Tryd.prog [("veil/veilref03.round", Rows.laid_veil_veilref03_round), ("veil/veilref03.first", Rows.laid_veil_veilref03_first), ("veil/hash.rounds", Rows.laid_veil_hash_rounds), ("veil/hash.start", Rows.laid_veil_hash_start), ("veil/scalar.table", Rows.laid_veil_scalar_table)] W) : Glob gh5 W fun _ => False := by
 intro g b hb
 rcases List.mem_append.1 hb with hb | hb
 ·exact tab_glob5 h g b hb
 have h' : laidMet Tryd.prog (("veil/veilref03.round", Lib.tabData .u64 K80) :: ("veil/veilref03.first", Lib.tabData .u64 start8) :: ("veil/hash.rounds", Lib.tabData .u64 K80) :: ("veil/hash.start", Lib.tabData .u64 start8) :: ("veil/scalar.table", .agg (tabRows.map (Lib.tabData .u64))) :: []) W := h
 have h' := laidMet.tail (laidMet.tail (laidMet.tail (laidMet.tail h')))
 obtain ⟨h1, h2⟩ := tab2_of_head (m := 4) (n := 4) gTab gTabType (e1 := 27) (e := 25) (by kernel_rfl) (by kernel_rfl) (by kernel_rfl) (by kernel_rfl) (by kernel_rfl) (by kernel_rfl) h'
 simp only [Sc.gh, List.mem_singleton, Prod.mk.injEq] at hb
 obtain ⟨rfl, rfl⟩ := hb
 refine ⟨_, _, rfl, ?_, h1, fun x => x, h2⟩
 have ok : ∀ r ∈ tabRows, r.length = 4 ∧ AllR .u64 r := by
  intro r hr
  simp only [tabRows, List.mem_cons, List.not_mem_nil, or_false] at hr
  rcases hr with rfl | rfl | rfl | rfl <;> refine ⟨rfl, fun z hz => ?_⟩ <;> simp only [List.mem_cons, List.not_mem_nil, or_false] at hz <;> rcases hz with rfl | rfl | rfl | rfl <;> exact ⟨by decide, by decide⟩
 have o0 := ok _ (List.mem_of_getElem? (show tabRows[0]? = some _ from rfl))
 have o1 := ok _ (List.mem_of_getElem? (show tabRows[1]? = some _ from rfl))
 have o2 := ok _ (List.mem_of_getElem? (show tabRows[2]? = some _ from rfl))
 have o3 := ok _ (List.mem_of_getElem? (show tabRows[3]? = some _ from rfl))
 exact ⟨_, _, ⟨o0.1, o0.2, rfl⟩, rfl, _, _, ⟨o1.1, o1.2, rfl⟩, rfl, _, _, ⟨o2.1, o2.2, rfl⟩, rfl, _, _, ⟨o3.1, o3.2, rfl⟩, rfl, rfl⟩

end Go.Gx

/- A law off a world that holds the globals: its arguments as data that is only read. -/
namespace Go.Gx
open Go.RowKit Go.ChangeShapes Go.WideShapes Go.ChangeAt
open Go.Proofs.YthgclfedhgmpiaaDoor.Rows (uptoBulk uptoBulkAll uptoSmall)
set_option linter.unusedVariables false

mutual
def shTyB (P : Program) : Sh → TypeId → Bool
 | .i k, t => (match P.underlying t with | some (.int k') => keq k k' | _ => false)
 | .tb, t => (match P.underlying t with | some .bool => true | _ => false)
 | .ts, t => (match P.underlying t with | some .string => true | _ => false)
 | .ints k, t => (match P.underlying t with
  | some (.slice e) => (match P.underlying e with | some (.int k') => keq k k' && (Nat.beq (P.cellsOf e) 1 && Nat.blt 0 (P.bytesOf e)) | _ => false)
  | _ => false)
 | .l sh, t => (match P.underlying t with
  | some (.slice e) => shTyB P sh e && (Nat.beq (P.cellsOf e) (shSize sh) && (Nat.blt 0 (shSize sh) && Nat.blt 0 (P.bytesOf e)))
  | _ => false)
 | .r fs, t => (match P.underlying t with
  | some (.struct ff) => shTysB P fs ff.toList 0 && Nat.beq (P.cellsOf t) (shSizes fs)
  | _ => false)
 | .arr n k, t => (match P.underlying t with
  | some (.array m e) => Nat.beq m n && (Nat.beq (P.cellsOf t) n && (Nat.beq (P.cellsOf e) 1 && (match P.underlying e with | some (.int k') => keq k k' | _ => false)))
  | _ => false)
def shTysB (P : Program) : List Sh → List Field → Nat → Bool
 | [], ff, _ => (match ff with | [] => true | _ => false)
 | s :: r, ff, o => (match ff with
  | f :: ff => Nat.beq f.offset o && (shTyB P s f.type && (Nat.beq (P.cellsOf f.type) (shSize s) && shTysB P r ff (o + shSize s)))
  | [] => false)
end

mutual
def roM : Sh → RO → Nat
 | .ts, d => (roS d).size
 | .ints _, d => (roL d).length
 | .l e, d => (roX d).length + ((roX d).map (roM e)).sum
 | .r fs, d => roMs fs d 0
 | .i _, _ => 0
 | .tb, _ => 0
 | .arr _ _, _ => 0
def roMs : List Sh → RO → Nat → Nat
 | [], _, _ => 0
 | s :: r, d, i => roM s (roN d i) + roMs r d (i + 1)
end

mutual
def roMx (N : Nat) : Sh → RO → Prop
 | .ts, d => (roS d).size ≤ N
 | .ints _, d => (roL d).length ≤ N
 | .l e, d => (roX d).length ≤ N ∧ ∀ x ∈ roX d, roMx N e x
 | .r fs, d => roMxs N fs d 0
 | .i _, _ => True
 | .tb, _ => True
 | .arr _ _, _ => True
def roMxs (N : Nat) : List Sh → RO → Nat → Prop
 | [], _, _ => True
 | s :: r, d, i => roMx N s (roN d i) ∧ roMxs N r d (i + 1)
end

section
variable {P : Program}

theorem weightsAll_mem {H : Type} {e : TypeId} {d : DataW H} : ∀ {l : List (DataW H)}, d ∈ l → ∀ n ∈ d.weights P e, n ∈ DataW.weightsAll P e l
 | y :: r, h, n, hn => by
  simp only [DataW.weightsAll, List.mem_append]
  rcases List.mem_cons.1 h with rfl | h
  ·exact .inl hn
  ·exact .inr (weightsAll_mem h n hn)

theorem bulk_pos {H : Type} (d : DataW H) : 1 ≤ uptoBulk d := by unfold uptoBulk; split <;> omega
theorem bulkAll_len {H : Type} : ∀ (l : List (DataW H)), l.length ≤ uptoBulkAll l
 | [] => by simp [uptoBulkAll]
 | d :: r => by have := bulk_pos d; have := bulkAll_len r; simp only [uptoBulkAll, List.length_cons]; omega
theorem bulkAll_app {H : Type} : ∀ (a b : List (DataW H)), uptoBulkAll (a ++ b) = uptoBulkAll a + uptoBulkAll b
 | [], b => by simp [uptoBulkAll]
 | d :: r, b => by simp only [List.cons_append, uptoBulkAll, bulkAll_app r b]; omega

theorem ChainR.snoc {R : RO → Value → Prop} {x : RO} {v : Value} (hx : R x v) : ∀ (xs : List RO) (cs : List Value), ChainR R xs cs → ChainR R (xs ++ [x]) (cs ++ v.cells.toList)
 | [], cs, h => by rw [show cs = [] from h]; exact ⟨v, [], hx, by simp, rfl⟩
 | y :: r, cs, h => by
  obtain ⟨u, c, h1, rfl, h3⟩ := h
  exact ⟨u, c ++ v.cells.toList, h1, by simp [List.append_assoc], ChainR.snoc hx r c h3⟩

theorem addr_of_cell {W : World} {a : Addr} {v : Value} (h : W.cell? a = some v) : a = ⟨a.block, a.off, none⟩ ∧ a.block < W.heap.size := by
 obtain ⟨bk, of, sp⟩ := a
 unfold World.cell? at h
 split at h
 ·rename_i hb
  have hb : W.heap[bk]? = _ := hb
  refine ⟨?_, (Array.getElem?_eq_some_iff.1 hb).1⟩
  split at h
  ·cases h
  ·rename_i hs
   have hs : ¬ sp.isSome = true := hs
   have : sp = none := by simpa using hs
   rw [this]
 ·cases h

theorem add_add_addr (a : Addr) (i j : Nat) : (a.add i).add j = a.add (i + j) := by
 unfold Addr.add
 by_cases h1 : i = 0 <;> by_cases h2 : j = 0 <;> simp [h1, h2, Nat.add_assoc]
theorem add_zero_addr (a : Addr) : a.add 0 = a := by simp [Addr.add]

mutual
theorem trod_ro {H : Type} {enc : TypeId × Value → H} {W : World} (N : Nat) : ∀ (sh : Sh) (t : TypeId) (fuel : Nat) (cs : List Value) (x : DataW H × List MemPlace), shTyB P sh t = true → DataW.trod enc P W 0 (fun _ => true) true fuel t cs = some x →
  ∃ ro v, cs = v.cells.toList ∧ RoD W (OutB W fun _ => False) sh ro v ∧ roM sh ro + 1 ≤ uptoBulk x.1 ∧ ((∀ n ∈ x.1.weights P t, n ≤ N) → roMx N sh ro)
 | .i k, t, fuel, cs, x, hs, h => by
  simp only [shTyB] at hs
  split at hs
  ·rename_i k' hu
   have hk := keq_eq hs
   subst hk
   cases fuel with
   | zero => simp [DataW.trod] at h
   | succ n =>
    unfold DataW.trod at h
    rw [hu] at h
    rcases cs with _ | ⟨c, _ | ⟨c2, r⟩⟩
    ·simp at h
    ·cases c <;> simp at h
     rename_i k2 z
     obtain ⟨⟨rfl, hz⟩, rfl⟩ := h
     refine ⟨.i z, .int k2 z, rfl, ?_, by simp [roM, uptoBulk], fun _ => trivial⟩
     simp only [RoD, roZ]
     refine ⟨trivial, ?_⟩
     simp only [Lit.wf, Bool.and_eq_true, decide_eq_true_eq] at hz
     cases k2 <;> simp [InR, IntKind.min, IntKind.max, IntKind.bits, IntKind.signed] at hz ⊢ <;> omega
    ·simp at h
  ·cases hs
 | .tb, t, fuel, cs, x, hs, h => by
  simp only [shTyB] at hs
  split at hs
  ·rename_i hu
   cases fuel with
   | zero => simp [DataW.trod] at h
   | succ n =>
    unfold DataW.trod at h
    rw [hu] at h
    rcases cs with _ | ⟨c, _ | ⟨c2, r⟩⟩
    ·simp at h
    ·cases c <;> simp at h
     rename_i b
     subst h
     exact ⟨.b b, .bool b, rfl, by simp only [RoD, roB], by simp [roM, uptoBulk], fun _ => trivial⟩
    ·simp at h
  ·cases hs
 | .ts, t, fuel, cs, x, hs, h => by
  simp only [shTyB] at hs
  split at hs
  ·rename_i hu
   cases fuel with
   | zero => simp [DataW.trod] at h
   | succ n =>
    unfold DataW.trod at h
    rw [hu] at h
    rcases cs with _ | ⟨c, _ | ⟨c2, r⟩⟩
    ·simp at h
    ·cases c <;> simp at h
     rename_i s
     obtain ⟨hz, rfl⟩ := h
     refine ⟨.s s, .string s, rfl, ?_, ?_, fun hw => ?_⟩
     ·simp only [RoD, roS]
      refine ⟨trivial, ?_⟩
      have : s.size ≤ maxLen := hz
      simp only [maxLen] at this
      omega
     ·simp only [roM, roS, uptoBulk]
      have : s.data.toList.length = s.size := by simp
      omega
     ·have := hw s.data.toList.length (by simp [DataW.weights])
      have e : s.data.toList.length = s.size := by simp
      simp only [roMx, roS]
      omega
    ·simp at h
  ·cases hs
 | .ints k, t, fuel, cs, x, hs, h => by
  simp only [shTyB] at hs
  split at hs
  ·rename_i e hu
   split at hs
   ·rename_i k' hue
    simp only [Bool.and_eq_true] at hs
    have hk := keq_eq hs.1
    subst hk
    have hbs : 0 < P.bytesOf e := by have := hs.2.2; simp [Nat.blt] at this; omega
    rcases open_ints hu hue (Nat.eq_of_beq_eq_true hs.2.1) h with ⟨rfl, rfl⟩ | ⟨a, len, cap, zs, rfl, h2, h3, h4, h5, h6, h7, h8⟩
    ·refine ⟨.l [], .slice none 0 0, rfl, ?_, by simp [roM, roL, uptoBulk], fun _ => Nat.zero_le _⟩
     simp only [RoD]
     exact ⟨none, 0, rfl, Nat.le_refl _, by simp [roL], (fun z hz => by cases hz), .inr ⟨rfl, rfl⟩⟩
    ·have hzl : zs.length = cap := by simpa using h5
     have hR : AllR k zs := fun z hz => by
      have := h8 z hz
      simp only [Lit.wf, Bool.and_eq_true, decide_eq_true_eq] at this
      cases k <;> simp [InR, IntKind.min, IntKind.max, IntKind.bits, IntKind.signed] at this ⊢ <;> omega
     have hlen : (zs.take len).length = len := by rw [List.length_take]; omega
     have hmax : cap ≤ 140737488355328 ∨ True := .inr trivial
     refine ⟨.l (zs.take len), .slice (some a) len cap, rfl, ?_, ?_, fun hw => ?_⟩
     ·simp only [RoD]
      have er : roL (.l (zs.take len)) = zs.take len := rfl
      rw [er]
      refine ⟨some a, cap, by rw [hlen], by omega, ?_, fun z hz => hR z (List.mem_of_mem_take hz), ?_⟩
      ·rw [hlen]; simp only [maxLen] at h4; omega
      ·rcases Nat.eq_zero_or_pos cap with h0 | h0
       ·exact .inr ⟨by omega, h0⟩
       ·have h00 := h7 0 (by omega)
        rw [add_zero_addr] at h00
        obtain ⟨ha, hb⟩ := addr_of_cell h00
        refine .inl ⟨a.block, a.off, by rw [← ha], ⟨hb, fun h => h⟩, fun i u hu => ?_⟩
        rw [List.getElem?_map, Option.map_eq_some_iff] at hu
        obtain ⟨z, hz, rfl⟩ := hu
        rw [List.getElem?_take] at hz
        split at hz
        ·rename_i hi
         have := h7 i (by omega)
         have ea : a.add i = ⟨a.block, a.off + i, none⟩ := by rw [ha]; exact Addr.add_mid _ _ _
         rw [ea] at this
         rw [this]
         simp [List.getD, hz]
        ·cases hz
     ·rw [h6]
      simp only [roM, roL, uptoBulk]
      have := bulkAll_len (lits (H := H) k (zs.take len))
      have e : (lits (H := H) k (zs.take len)).length = (zs.take len).length := by simp [lits]
      omega
     ·rw [h6] at hw
      have elen : ∀ l : List Int, (lits (H := H) k l).length = l.length := fun l => by simp [lits]
      have := hw (((lits (H := H) k (zs.take len)).length + (lits (H := H) k (zs.drop len)).length) * P.bytesOf e) (by simp [DataW.weights, hu])
      rw [elen, elen] at this
      have h9 : ((zs.take len).length + (zs.drop len).length) * 1 ≤ ((zs.take len).length + (zs.drop len).length) * P.bytesOf e := Nat.mul_le_mul_left _ hbs
      show (zs.take len).length ≤ N
      omega
   ·cases hs
  ·cases hs
 | .l sh, t, fuel, cs, x, hs, h => by
  simp only [shTyB] at hs
  split at hs
  ·rename_i e hu
   simp only [Bool.and_eq_true] at hs
   obtain ⟨hs1, hs2, hs3, hs4⟩ := hs
   have hbs : 0 < P.bytesOf e := by simp [Nat.blt] at hs4; omega
   have hc := Nat.eq_of_beq_eq_true hs2
   have hpos : 0 < shSize sh := by simp [Nat.blt] at hs3; omega
   rcases DataW.trod_slice hu h with ⟨rfl, rfl⟩ | ⟨a, len, cap, elems, rest, n, rfl, rfl, rfl, hb, hl, hm, hlen, hel, hsp, hns⟩
   ·refine ⟨.r [], .slice none 0 0, rfl, ?_, by simp [roM, roX, uptoBulk], fun _ => ⟨Nat.zero_le _, fun x hx => by cases hx⟩⟩
    simp only [RoD]
    exact ⟨none, 0, [], rfl, Nat.le_refl _, by simp [roX], rfl, .inr ⟨rfl, rfl⟩⟩
   ·obtain ⟨hrl, hrest⟩ := hsp rfl
    have hall : ∀ i, i < cap → ∃ ccs y, W.cells? 0 (a.add (i * P.cellsOf e)) (P.cellsOf e) = some ccs ∧ DataW.trod enc P W 0 (fun _ => true) true n e ccs = some y ∧ (i < len → elems[i]? = some y) := fun i hi => by
     by_cases hil : i < len
     ·have h1 := hel i hil
      have h2 : elems[i]? = some elems[i] := List.getElem?_eq_getElem (by omega)
      rw [h2, Option.bind_eq_some_iff] at h1
      obtain ⟨ccs, q1, q2⟩ := h1
      exact ⟨ccs, _, q1, q2, fun _ => h2⟩
     ·have h1 := hrest (i - len) (by omega)
      have h2 : rest[i - len]? = some rest[i - len] := List.getElem?_eq_getElem (by omega)
      rw [h2, Option.bind_eq_some_iff, show len + (i - len) = i by omega] at h1
      obtain ⟨ccs, q1, q2⟩ := h1
      exact ⟨ccs, _, q1, q2, fun h => absurd h hil⟩
    have hblk : 0 < cap → a = ⟨a.block, a.off, none⟩ ∧ a.block < W.heap.size := fun h0 => by
     obtain ⟨ccs, y, q1, q2, _⟩ := hall 0 h0
     obtain ⟨_, q3, q4⟩ := World.cells?_some q1
     have := q4 0 (by omega)
     rw [Nat.zero_mul, add_zero_addr, add_zero_addr] at this
     obtain ⟨v, hv⟩ : ∃ v, ccs[0]? = some v := ⟨ccs[0]'(by omega), List.getElem?_eq_getElem _⟩
     rw [hv] at this
     exact addr_of_cell this
    have hchain : ∀ m, m ≤ len → ∃ ros cs', ros.length = m ∧ ChainR (RoD W (OutB W fun _ => False) sh) ros cs' ∧ cs'.length = shSize sh * m ∧ (∀ i u, cs'[i]? = some u → W.cell? (a.add i) = some u) ∧ ros.length + (ros.map (roM sh)).sum ≤ uptoBulkAll ((elems.take m).map (·.1)) ∧ ((∀ y ∈ elems, ∀ n ∈ y.1.weights P e, n ≤ N) → ∀ ro ∈ ros, roMx N sh ro) := by
     intro m
     induction m with
     | zero => intro _; exact ⟨[], [], rfl, rfl, by simp, (fun i u h => by simp at h), by simp, fun _ x hx => by cases hx⟩
     | succ m ih =>
      intro hm'
      obtain ⟨ros, cs', r1, r2, r3, r4, r5, r6⟩ := ih (by omega)
      obtain ⟨ccs, y, q1, q2, q3⟩ := hall m (by omega)
      have q3 := q3 (by omega)
      obtain ⟨ro, v, rfl, s2, s3, s4⟩ := trod_ro N sh e n ccs y hs1 q2
      obtain ⟨_, q5, q6⟩ := World.cells?_some q1
      have hvl := RoD_cells sh ro v s2
      refine ⟨ros ++ [ro], cs' ++ v.cells.toList, by simp [r1], ChainR.snoc s2 ros cs' r2, by rw [List.length_append, r3, hvl, Nat.mul_add]; omega, fun i u hu => ?_, ?_, fun hy ro' hr => ?_⟩
      ·rcases Nat.lt_or_ge i cs'.length with hi | hi
       ·rw [List.getElem?_append_left hi] at hu; exact r4 i u hu
       ·rw [List.getElem?_append_right hi] at hu
        have hi2 : i - cs'.length < v.cells.toList.length := (List.getElem?_eq_some_iff.1 hu).1
        have := q6 (i - cs'.length) (by omega)
        rw [hu] at this
        have e1 : m * P.cellsOf e = cs'.length := by rw [hc, r3, Nat.mul_comm]
        rw [← this, add_add_addr, e1, Nat.add_sub_cancel' hi]
      ·rw [List.map_append, List.sum_append, List.length_append, List.take_add_one, q3, List.map_append, bulkAll_app]
       simp only [List.map_cons, List.map_nil, List.sum_cons, List.sum_nil, List.length_cons, List.length_nil, Option.toList_some, uptoBulkAll]
       omega
      ·rcases List.mem_append.1 hr with hr | hr
       ·exact r6 hy ro' hr
       ·simp only [List.mem_cons, List.not_mem_nil, or_false] at hr
        subst hr
        exact s4 fun k hk => hy y (List.mem_of_getElem? q3) k hk
    obtain ⟨ros, cs', r1, r2, r3, r4, r5, r6⟩ := hchain len (Nat.le_refl _)
    refine ⟨.r ros, .slice (some a) len cap, rfl, ?_, ?_, fun hw => ⟨?_, ?_⟩⟩
    ·simp only [RoD]
     have er : roX (.r ros) = ros := rfl
     rw [er]
     refine ⟨some a, cap, cs', by rw [r1], by omega, ?_, r2, ?_⟩
     ·rw [r1]; simp only [maxLen] at hm; omega
     ·rcases Nat.eq_zero_or_pos cap with h0 | h0
      ·exact .inr ⟨by omega, h0⟩
      ·obtain ⟨ha, hb⟩ := hblk h0
       refine .inl ⟨a.block, a.off, by rw [← ha], ⟨hb, fun h => h⟩, fun i u hu => ?_⟩
       have := r4 i u hu
       have ea : a.add i = ⟨a.block, a.off + i, none⟩ := by rw [ha]; exact Addr.add_mid _ _ _
       rwa [ea] at this
    ·simp only [roM, roX, uptoBulk]
     rw [List.take_of_length_le (by omega)] at r5
     have := bulkAll_len (elems.map (·.1))
     rw [List.length_map] at this
     omega
    ·have := hw (((elems.map (·.1)).length + (rest.map (·.1)).length) * P.bytesOf e) (by simp [DataW.weights, hu])
     rw [List.length_map, List.length_map] at this
     have h9 : (elems.length + rest.length) * 1 ≤ (elems.length + rest.length) * P.bytesOf e := Nat.mul_le_mul_left _ hbs
     show ros.length ≤ N
     omega
    ·refine r6 fun y hy k hk => hw k ?_
     simp only [DataW.weights, hu, List.mem_cons, List.mem_append]
     exact .inr (.inl (weightsAll_mem (List.mem_map.2 ⟨y, hy, rfl⟩) k hk))
  ·cases hs
 | .arr n k, t, fuel, cs, x, hs, h => by
  simp only [shTyB] at hs
  split at hs
  ·rename_i m e hu
   simp only [Bool.and_eq_true] at hs
   obtain ⟨h1, h2, h3, h4⟩ := hs
   have h1 := Nat.eq_of_beq_eq_true h1
   have h2 := Nat.eq_of_beq_eq_true h2
   have h3 := Nat.eq_of_beq_eq_true h3
   subst h1
   split at h4
   ·rename_i k' hue
    have hk := keq_eq h4
    subst hk
    obtain ⟨xs, q, rfl, rfl, hl, hxl, hel⟩ := DataW.trod_array hu h
    have hcell : ∀ i, i < cs.length → ∃ z, cs[i]? = some (.int k z) ∧ InR k z := fun i hi => by
     have := hel i (by omega)
     rw [h3, Nat.mul_one, List.drop_eq_getElem_cons hi, List.take_succ_cons, List.take_zero, List.getElem?_eq_getElem (by omega)] at this
     cases q with
     | zero => simp [DataW.trod] at this
     | succ q =>
      unfold DataW.trod at this
      rw [hue] at this
      rw [List.getElem?_eq_getElem hi]
      generalize cs[i] = c at *
      cases c <;> simp at this
      rename_i k2 z
      obtain ⟨⟨rfl, hz⟩, _⟩ := this
      refine ⟨z, rfl, ?_⟩
      simp only [Lit.wf, Bool.and_eq_true, decide_eq_true_eq] at hz
      cases k2 <;> simp [InR, IntKind.min, IntKind.max, IntKind.bits, IntKind.signed] at hz ⊢ <;> omega
    have hall : ∀ (cs : List Value), (∀ i, i < cs.length → ∃ z, cs[i]? = some (.int k z) ∧ InR k z) → ∃ l : List Int, cs = l.map (Value.int k) ∧ AllR k l := by
     intro cs
     induction cs with
     | nil => intro _; exact ⟨[], rfl, fun z hz => by cases hz⟩
     | cons c r ih =>
      intro hc
      obtain ⟨l, e1, e2⟩ := ih fun i hi => by
       have := hc (i + 1) (by simpa using hi)
       simpa using this
      obtain ⟨z, z1, z2⟩ := hc 0 (by simp)
      simp only [List.getElem?_cons_zero, Option.some.injEq] at z1
      refine ⟨z :: l, by rw [List.map_cons, ← e1, z1], fun y hy => ?_⟩
      rcases List.mem_cons.1 hy with rfl | hy
      ·exact z2
      ·exact e2 y hy
    obtain ⟨l, e1, e2⟩ := hall cs hcell
    refine ⟨.l l, .agg (l.map (Value.int k)).toArray, by rw [e1]; simp [Value.cells], ?_, by simp [roM, uptoBulk], fun _ => trivial⟩
    simp only [RoD]
    have er : roL (.l l) = l := rfl
    rw [er]
    refine ⟨?_, e2, rfl⟩
    have : cs.length = l.length := by rw [e1, List.length_map]
    omega
   ·cases h4
  ·cases hs
 | .r fs, t, fuel, cs, x, hs, h => by
  simp only [shTyB] at hs
  split at hs
  ·rename_i ff hu
   simp only [Bool.and_eq_true] at hs
   obtain ⟨xs, n, rfl, rfl, hl, hxl, hel⟩ := DataW.trod_struct hu h
   have hsz := Nat.eq_of_beq_eq_true hs.2
   obtain ⟨ros, r1, r2, r3, r4⟩ := trods_ro N fs ff.toList 0 n cs xs hs.1 (by simpa using hxl) (fun i f hf => hel i f (by simpa using hf)) (by omega)
   have r2 := r2 []
   have r3 := r3 []
   rw [List.drop_zero] at r2
   refine ⟨.r ros, .agg cs.toArray, by simp [Value.cells], ?_, ?_, fun hw => ?_⟩
   ·simp only [RoD]
    exact ⟨cs, r2, rfl⟩
   ·simp only [roM, uptoBulk]
    have : roMs fs (.r ros) 0 + fs.length ≤ uptoBulkAll (xs.map (·.1)) := r3
    omega
   ·simp only [roMx]
    refine r4 (fun k hk => hw k ?_) []
    simp only [DataW.weights, hu]
    exact hk
  ·cases hs
theorem trods_ro {H : Type} {enc : TypeId × Value → H} {W : World} (N : Nat) : ∀ (fs : List Sh) (ff : List Field) (o n : Nat) (cs : List Value) (xs : List (DataW H × List MemPlace)), shTysB P fs ff o = true → xs.length = ff.length →
  (∀ (i : Nat) (f : Field), ff[i]? = some f → DataW.trod enc P W 0 (fun _ => true) true n f.type ((cs.drop f.offset).take (P.cellsOf f.type)) = xs[i]?) → cs.length = o + shSizes fs →
  ∃ ros : List RO, ros.length = fs.length ∧ (∀ pre : List RO, RoCs W (OutB W fun _ => False) fs (.r (pre ++ ros)) pre.length (cs.drop o)) ∧ (∀ pre : List RO, roMs fs (.r (pre ++ ros)) pre.length + fs.length ≤ uptoBulkAll (xs.map (·.1))) ∧
   ((∀ k ∈ DataW.weightsEach P (ff.map (·.type)) (xs.map (·.1)), k ≤ N) → ∀ pre : List RO, roMxs N fs (.r (pre ++ ros)) pre.length)
 | [], ff, o, n, cs, xs, hs, hx, hel, hl => by
  refine ⟨[], rfl, fun pre => ?_, fun pre => by simp [roMs], fun _ pre => by simp only [roMxs]⟩
  simp only [RoCs]
  exact List.drop_eq_nil_of_le (by simp only [shSizes] at hl; omega)
 | s :: r, ff, o, n, cs, xs, hs, hx, hel, hl => by
  simp only [shTysB] at hs
  split at hs
  ·rename_i f ff
   simp only [Bool.and_eq_true] at hs
   obtain ⟨h1, h2, h3, h4⟩ := hs
   have h1 := Nat.eq_of_beq_eq_true h1
   have h3 := Nat.eq_of_beq_eq_true h3
   rcases xs with _ | ⟨x, xt⟩
   ·simp at hx
   simp only [shSizes] at hl
   have e0 := hel 0 f rfl
   rw [h1, h3] at e0
   obtain ⟨ro, v, q1, q2, q3, q4⟩ := trod_ro N s f.type n _ x h2 e0
   obtain ⟨ros, r1, r2, r3, r4⟩ := trods_ro N r ff (o + shSize s) n cs xt h4 (by simpa using hx) (fun i f' hf => by have := hel (i + 1) f' (by simpa using hf); simpa using this) (by omega)
   have hro : ∀ pre : List RO, roN (.r (pre ++ ro :: ros)) pre.length = ro := fun pre => by simp [roN, roX, List.getD_eq_getElem?_getD]
   have hpre : ∀ pre : List RO, (pre ++ [ro]) ++ ros = pre ++ ro :: ros := fun pre => by simp
   refine ⟨ro :: ros, by simp [r1], fun pre => ?_, fun pre => ?_, fun hw pre => ?_⟩
   ·simp only [RoCs]
    refine ⟨v, cs.drop (o + shSize s), by rw [hro]; exact q2, ?_, ?_⟩
    ·rw [← q1, ← List.drop_drop, List.take_append_drop]
    ·have := r2 (pre ++ [ro])
     rw [hpre, List.length_append] at this
     exact this
   ·have := r3 (pre ++ [ro])
    rw [hpre, List.length_append] at this
    have h5 : roMs r (.r (pre ++ ro :: ros)) (pre.length + 1) + r.length ≤ uptoBulkAll (xt.map (·.1)) := this
    simp only [roMs, hro, List.map_cons, uptoBulkAll, List.length_cons]
    omega
   ·simp only [List.map_cons, DataW.weightsEach, List.mem_append] at hw
    have := r4 (fun k hk => hw k (.inr hk)) (pre ++ [ro])
    rw [hpre, List.length_append] at this
    simp only [roMxs, hro]
    exact ⟨q4 fun k hk => hw k (.inl hk), this⟩
  ·cases hs
end

def slSh : Sh → Bool
 | .ints _ => true
 | .l _ => true
 | _ => false

theorem arg_ro {H : Type} {enc : TypeId × Value → H} {W : World} (N : Nat) (sh : Sh) {t : TypeId} {v : Value} {d : DataW H} {ps : List MemPlace} (hs : shTyB P sh t = true) (hsl : slSh sh = true) (hv : v.cells.toList = [v]) (h : DataW.Trod enc P W 0 (fun _ => true) true t v d ps) :
  ∃ ro, RoD W (OutB W fun _ => False) sh ro v ∧ (∃ ad n cap, v = .slice ad n cap) ∧ roM sh ro + 1 ≤ uptoBulk d ∧ ((∀ n ∈ d.weights P t, n ≤ N) → roMx N sh ro) := by
 obtain ⟨fuel, h⟩ := h
 obtain ⟨ro, u, e, q1, q2, q3⟩ := trod_ro N sh t fuel _ _ hs h
 have hu : ∃ ad n cap, u = .slice ad n cap := by
  cases sh <;> simp only [slSh, Bool.false_eq_true] at hsl <;> simp only [RoD] at q1
  ·obtain ⟨a, cap, rfl, _⟩ := q1; exact ⟨_, _, _, rfl⟩
  ·obtain ⟨a, cap, cs, rfl, _⟩ := q1; exact ⟨_, _, _, rfl⟩
 have huv : v = u := by
  obtain ⟨ad, n, cap, rfl⟩ := hu
  rw [hv] at e
  simpa [Value.cells] using e
 subst huv
 exact ⟨ro, q1, hu, q2, q3⟩

theorem law_gen {Γ : Tab} (hΓ : TabOk P Γ) (hgl : Γ.gl = keysOf Γ.gh) (hlow : ∀ g ∈ keysOf Γ.gh, g < 490) {f : FuncId} {fn : Func} (hf : P.funcs[f]? = some fn) {av : List AV} {args' : List SV} {L : Loops} {K : List RV → List (Option (List Seg)) → Prop} {inv : Nat → List Pv → Nat → Prop}
  (k1 : okA 600 av args' []) (k2 : args'.length ≤ fn.ntmps) (k3 : VcG 0 Γ fn L (Γ.gh ++ (490, .world) :: []) args' K inv) (hK : ∀ rvs fin, K rvs fin → ∃ e, rvs = [.v (.b e true)])
  {W : World} {vs : List Value} (hG : Glob Γ.gh W fun _ => False) (hA : AsD W (OutB W fun _ => False) (fun _ => none) (fun _ => { blk := 0, off := 0, cap := 0 }) av vs []) :
  Calls P f vs.toArray W fun e w' => e = .returned (.bool true) ∧ Below W.heap.size W w' := by
 have hm := mem_start W fun _ => { blk := 0, off := 0, cap := 0 }
 obtain ⟨hh1, hh2⟩ := okA_heap av vs [] 600 args' [] hA k1
 obtain ⟨ρ1, m1, m2, m3, m4, m5⟩ := gen_mem hG hgl hlow hm (ks := []) (fun k hk => by cases hk) List.nodup_nil (M' := fun _ => False) (fun b => ⟨fun h => h.elim, fun ⟨k, hk, _⟩ => by cases hk⟩) hh1 hh2
 have hargs := okA_args m3 m4 av vs [] 600 args' [] hA k1 (fun i hi => by simp at hi)
 refine (vcG_calls hΓ hf k3 k2 m2 m1 hargs).mono fun e w' he => ?_
 obtain ⟨x, v, h', ρ', rfl, r1, r2, r3, r4⟩ := he
 obtain ⟨rvs', fin', t1, t3, t4, t5⟩ := kvG_sound r3 r2 r1
 obtain ⟨e, rfl⟩ := hK _ _ t1
 rcases t3 with ⟨r, hr, hd⟩ | ⟨hn, _⟩
 ·simp only [List.cons.injEq, and_true] at hr
  subst hr
  simp only [RvD, D] at hd
  exact ⟨by rw [hd], r3.frame.below fun _ h => h⟩
 ·exact absurd rfl hn

end
end Go.Gx

/- TranscriptScripted: the challenges that a transcript has drawn, given to a Script as an Oracle, come out of it again in the same order, and it hears what the transcript was told. For labels and steps that are not more than the second form's bound. The tables lie as the program's text lays them. -/
namespace Go.Gx
open Go.Proofs Go.Sp Go.RowKit
set_option linter.unusedVariables false
set_option maxRecDepth 100000
namespace TranscriptScripted
theorem flat_sum : ∀ xs : List RO, ((xs.map roL).flatten).length ≤ (xs.map (roM (.ints .u8))).sum
 | [] => by simp
 | x :: xs => by
   have := flat_sum xs
   have h : roM (.ints .u8) x = (roL x).length := rfl
   simp only [List.map_cons, List.flatten_cons, List.length_append, List.sum_cons]
   omega
theorem parts_len : ∀ ps : List (List Int), ((ps.map fun p => le8 (p.length : Int) ++ p).flatten).length = 8 * ps.length + ps.flatten.length
 | [] => rfl
 | p :: ps => by
   have := parts_len ps
   simp only [List.map_cons, List.flatten_cons, List.length_append, List.length_cons, le8_len]
   omega
theorem mem_sum : ∀ {l : List Nat} {x : Nat}, x ∈ l → x ≤ l.sum
 | y :: r, x, h => by
  rw [List.sum_cons]
  rcases List.mem_cons.1 h with rfl | h
  ·omega
  ·have := mem_sum h; omega
theorem roN_mem {d : RO} {j : Nat} (h : j < (roX d).length) : roN d j ∈ roX d := by
 rw [show roN d j = (roX d)[j] by simp [roN, List.getD_eq_getElem?_getD, h]]; exact List.getElem_mem h
def okW (w : RO) : Prop := ((frL (bytesI (roS (roN w 2))) ((roX (roN w 3)).map roL)).length : Int) + 1000 ≤ 70368744170000 ∧ ((roX (roN w 3)).length : Int) * 24 ≤ 70368744177664 ∧ ∀ i, i < (roX (roN w 3)).length → ((roL (roN (roN w 3) i)).length : Int) ≤ 70368744177664
theorem ok_of {d : RO} (h : roM (.l (.r [.i .i64, .i .i64, .ts, .l (.ints .u8)])) d ≤ 1048576) : ∀ j, j < (roX d).length → okW (roN d j) := fun j hj => by
 have h : (roX d).length + ((roX d).map (roM (.r [.i .i64, .i .i64, .ts, .l (.ints .u8)]))).sum ≤ 1048576 := h
 have hm : roM (.r [.i .i64, .i .i64, .ts, .l (.ints .u8)]) (roN d j) ∈ (roX d).map (roM (.r [.i .i64, .i .i64, .ts, .l (.ints .u8)])) := List.mem_map.2 ⟨roN d j, roN_mem hj, rfl⟩
 have hle := mem_sum hm
 have e : roM (.r [.i .i64, .i .i64, .ts, .l (.ints .u8)]) (roN d j) = 0 + (0 + ((roS (roN (roN d j) 2)).size + ((roX (roN (roN d j) 3)).length + ((roX (roN (roN d j) 3)).map (roM (.ints .u8))).sum + 0))) := rfl
 have hf := flat_sum (roX (roN (roN d j) 3))
 have hp : (frL (bytesI (roS (roN (roN d j) 2))) ((roX (roN (roN d j) 3)).map roL)).length = 8 + (roS (roN (roN d j) 2)).size + 8 + (8 * (roX (roN (roN d j) 3)).length + ((roX (roN (roN d j) 3)).map roL).flatten.length) := by
  unfold frL partsL
  simp only [List.length_append, le8_len, bytesI_len]
  rw [parts_len, List.length_map]
 refine ⟨by omega, by omega, fun i hi => ?_⟩
 have hmi : roM (.ints .u8) (roN (roN (roN d j) 3) i) ∈ (roX (roN (roN d j) 3)).map (roM (.ints .u8)) := List.mem_map.2 ⟨roN (roN (roN d j) 3) i, roN_mem hi, rfl⟩
 have h1 := mem_sum hmi
 have h2 : roM (.ints .u8) (roN (roN (roN d j) 3) i) = (roL (roN (roN (roN d j) 3) i)).length := rfl
 omega
theorem hrd_ok {d : RO} (h : ∀ j, j < (roX d).length → okW (roN d j)) : ∀ j, j ≤ (roX d).length → ∀ x ∈ hrdJ d j, ((roX (roN x 2)).length : Int) * 24 ≤ 70368744177664 ∧ (∀ i, i < (roX (roN x 2)).length → ((roL (roN (roN x 2) i)).length : Int) ≤ 70368744177664) ∧ True
 | 0, _, x, hx => by cases hx
 | j + 1, hj, x, hx => by
  have ih := hrd_ok h j (by omega)
  rw [hrdJ] at hx
  split at hx
  ·rcases List.mem_append.1 hx with hx | hx
   ·exact ih x hx
   ·rw [List.mem_singleton.1 hx]
    exact ⟨(h j (by omega)).2.1, (h j (by omega)).2.2, trivial⟩
  ·split at hx
   ·rcases List.mem_append.1 hx with hx | hx
    ·exact ih x hx
    ·rw [List.mem_singleton.1 hx]
     exact ⟨(show ((0 : Nat) : Int) * 24 ≤ 70368744177664 by decide), fun i hi => absurd hi (Nat.not_lt_zero i), trivial⟩
   ·exact ih x hx
theorem want_ok {d : RO} (h : ∀ j, j < (roX d).length → okW (roN d j)) : ∀ j, j ≤ (roX d).length → ∀ x ∈ wantJ d j, ((frL (bytesI (roS (roN x 2))) ((roX (roN x 3)).map roL)).length : Int) + 1000 ≤ 70368744170000
 | 0, _, x, hx => by cases hx
 | j + 1, hj, x, hx => by
  have ih := want_ok h j (by omega)
  rw [wantJ] at hx
  split at hx
  ·rcases List.mem_append.1 hx with hx | hx
   ·exact ih x hx
   ·rw [List.mem_singleton.1 hx]
    exact (h j (by omega)).1
  ·exact ih x hx
theorem hrd_len (d : RO) (j : Nat) : (hrdJ d j).length ≤ j := by
 have := (heard_all d j).1
 rw [List.length_map] at this
 rw [this]
 exact want_len d j

abbrev KK : List RV → List (Option (List Seg)) → Prop := fun rvs fin => ∃ e, rvs = [.v (.b e true)]
theorem kk_no {x : Bool} (h : x = true) : KK [.v (.b false x)] [] := ⟨false, by rw [h]⟩

section
variable {s : ByteArray} {d : RO} {j : Nat}
theorem bd_ok (hj : j < (roX d).length) (hn : (roX d).length ≤ 1048576) (hw : okW (roN d j)) {NA : Prop → Prop} {NW : (Int → Prop) → Prop} {R1 : Int → Int → List Int → RO → Prop} {R2 : Int → Int → Int → List Int → RO → List (List Int) → Prop} {al : List (List Int)} (hal : al = drawnJ s d j)
  (hk : roZ (roN (roN d j) 0) = 1 ∨ roZ (roN (roN d j) 0) = 2) (hNA : ∀ P, P → NA P) (hNW : ∀ f : Int → Prop, f (((wantJ d j).length + 1 : Nat) : Int) → NW f)
  (h1 : ¬ roZ (roN (roN d j) 0) = 2 → R1 (((wantJ d j).length + 1 : Nat) : Int) ((j + 1 : Nat) : Int) (stJ s d (j + 1)) (opN (roN d j)))
  (h2 : roZ (roN (roN d j) 0) = 2 → R2 ((drawnJ s d (j + 1)).length : Int) (((wantJ d j).length + 1 : Nat) : Int) ((j + 1 : Nat) : Int) (stJ s d (j + 1)) (opN (roN d j)) (drawnJ s d (j + 1))) :
  BD j (stJ s d j) true al NA NW R1 R2 KK (roZ (roN (roN d j) 0)) (opN (roN d j)) := by
 have hdl := drawn_len s d j
 have e0 : roZ (roN (opN (roN d j)) 0) = roZ (roN (roN d j) 0) := rfl
 have e2' : roS (roN (opN (roN d j)) 2) = roS (roN (roN d j) 2) := rfl
 have e3' : roN (opN (roN d j)) 3 = roN (roN d j) 3 := rfl
 unfold BD
 rw [e0, e2', e3']
 have hw1 := hw.1
 refine ⟨need_of rfl, need_of (by omega), ?_⟩
 intro x3 e3 _ _ x4 e4 _ x5 e5 _ x6 e6 _ x7 e7 _ x8 e8 _
 have e3 : x3 = stJ s d (j + 1) := e3
 have hj1 : (j : Int) + 1 = ((j + 1 : Nat) : Int) := rfl
 refine ⟨fun c => kk_no ?_, fun c => ⟨fun c2 => ?_, fun c2 => ?_⟩⟩
 ·have c : ¬ x8 = 0 := by simpa using c
  rw [e8] at c ⊢
  unfold saysE drawE at c ⊢
  rcases hk with hk | hk
  ·rw [hk] at c; exact absurd rfl c
  ·rw [if_pos hk] at c ⊢
   split at c
   ·rename_i hz
    rw [if_pos hz]; rfl
   ·exact absurd rfl c
 ·have c2 : roZ (roN (roN d j) 0) = 2 := by simpa using c2
  have hl : (al ++ List.take 1 (List.drop 0 [[x4, x5, x6, x7]])).length = (drawnJ s d j).length + 1 := by rw [hal]; simp
  have hx : al ++ List.take 1 (List.drop 0 [[x4, x5, x6, x7]]) = drawnJ s d (j + 1) := by
   rw [drawn_y c2, hal]
   unfold saysN at e4 e5 e6 e7
   rw [if_pos c2] at e4 e5 e6 e7
   rw [e4, e5, e6, e7]; rfl
  refine ⟨need_of (by rw [hl]; omega), hNA _ ⟨need_of (by simp), ?_⟩⟩
  intro x9 e9 _ x10 e10 _ _
  refine hNW _ ?_
  intro x12 e12 _
  rw [wrap_i64 (by omega), hj1] at e12
  rw [hx] at e9 e10
  rw [e3, e9, e10, e12]
  exact h2 c2
 ·have c2 : ¬ roZ (roN (roN d j) 0) = 2 := by simpa using c2
  refine hNW _ ?_
  intro x12 e12 _
  rw [wrap_i64 (by omega), hj1] at e12
  rw [e3, e12]
  exact h1 c2

theorem fx_ok (hn : (roX d).length ≤ 1048576) (hw : ∀ j, j < (roX d).length → okW (roN d j)) {L W : RO} {na : Int} {NH : Prop → Prop} {RX : Int → List (List Int) → Prop} (hL : (roX L).map roL = drawnJ s d (roX d).length) (hna : na = ((drawnJ s d (roX d).length).length : Int)) (hW : W = .r (wantJ d (roX d).length)) (hNH : ∀ P, P → NH P)
  (hX : RX ((drawnJ s d (roX d).length).length : Int) (drawnJ s d (roX d).length)) : FX d L W na NH RX KK := by
 have hM : (roX L).length = (drawnJ s d (roX d).length).length := by rw [← hL, List.length_map]
 have hdl := drawn_len s d (roX d).length
 have hhl := hrd_len d (roX d).length
 obtain ⟨h1, h2⟩ := both_law s d (roX d).length (roX d).length (Nat.le_refl _)
 unfold FX
 rw [hM]
 rintro x28 rfl x29 e29 _
 rw [hL] at e29
 subst e29
 rw [h1, h2]
 refine ⟨need_of rfl, need_of rfl, need_of (by omega), need_of (by simp; omega), need_of fun i hi => ⟨(hw i hi).2.1, (hw i hi).2.2, trivial⟩, ?_⟩
 intro x30 _ _ x31 _ x32 e32 _ x33 e33 _ _
 refine ⟨fun c => ?_, fun _ => ⟨need_of rfl, need_of rfl, need_of (by simp only; omega), need_of fun i hi => hrd_ok hw _ (Nat.le_refl _) _ ?_, ?_⟩⟩
 ·rw [e33, hna] at c
  simp at c
 ·have hi : i < (hrdJ d (roX d).length).length := hi
  show (hrdJ d (roX d).length).getD i (.r []) ∈ _
  rw [List.getD_eq_getElem?_getD, List.getElem?_eq_getElem hi]
  exact List.getElem_mem hi
 ·intro x34 _ _ x35 _ x36 _ x37 e37 _ _
  refine ⟨need_of rfl, need_of e37, hNH _ ?_⟩
  intro x38 e38
  rw [hW, heard_law] at e38
  subst e38
  exact ⟨fun c => (by cases c), fun _ => by rw [e33, e32]; exact hX⟩

theorem bx_ok (hj : j ≤ (roX d).length) (hn : (roX d).length ≤ 1048576) (hw : ∀ j, j < (roX d).length → okW (roN d j)) {L W : RO} {na : Int} {NA NL NH : Prop → Prop} {NW : (Int → Prop) → Prop} {R0 : Int → Prop} {R1 : Int → Int → List Int → RO → Prop} {R2 : Int → Int → Int → List Int → RO → List (List Int) → Prop} {RX : Int → List (List Int) → Prop} {al : List (List Int)} (hal : al = drawnJ s d j)
  (hNA : ∀ P, P → NA P) (hNW : ∀ f : Int → Prop, f (((wantJ d j).length + 1 : Nat) : Int) → NW f) (hNL : ∀ P, P → NL P) (hNH : ∀ P, P → NH P)
  (hL : (roX L).map roL = drawnJ s d j) (hna : na = ((drawnJ s d j).length : Int)) (hW : W = .r (wantJ d j))
  (h0 : j < (roX d).length → ¬ roZ (roN (roN d j) 0) = 1 → ¬ roZ (roN (roN d j) 0) = 2 → R0 ((j + 1 : Nat) : Int))
  (h1 : j < (roX d).length → roZ (roN (roN d j) 0) = 1 → R1 (((wantJ d j).length + 1 : Nat) : Int) ((j + 1 : Nat) : Int) (stJ s d (j + 1)) (opN (roN d j)))
  (h2 : j < (roX d).length → roZ (roN (roN d j) 0) = 2 → R2 ((drawnJ s d (j + 1)).length : Int) (((wantJ d j).length + 1 : Nat) : Int) ((j + 1 : Nat) : Int) (stJ s d (j + 1)) (opN (roN d j)) (drawnJ s d (j + 1)))
  (hX : j = (roX d).length → RX ((drawnJ s d j).length : Int) (drawnJ s d j)) :
  BX d j (stJ s d j) true al L W na NA NW NL NH R0 R1 R2 RX KK := by
 unfold BX
 rw [Int.toNat_natCast]
 refine ⟨fun hlt => ?_, fun hge => ?_⟩
 ·have hlt := of_decide_eq_true hlt
  have hjl : j < (roX d).length := by omega
  refine ⟨need_of (by omega), ?_⟩
  intro x1 e1 _ x2 e2 _
  have hb : (roZ (roN (roN d j) 0) = 1 ∨ roZ (roN (roN d j) 0) = 2) → BD j (stJ s d j) true al NA NW R1 R2 KK x1 (opX x1 x2 (roN d j)) := fun hk => by
   rw [e1, e2]
   exact bd_ok hjl hn (hw j hjl) hal hk hNA hNW (fun c => h1 hjl (hk.resolve_right c)) (h2 hjl)
  refine ⟨fun c => hb (.inl ?_), fun c => ⟨fun c2 => hb (.inr ?_), fun c2 => ?_⟩⟩
  ·rw [← e1]; simpa using c
  ·rw [← e1]; simpa using c2
  ·intro x27 e27 _
   rw [wrap_i64 (by omega)] at e27
   rw [e27]
   exact h0 hjl (by rw [← e1]; simpa using c) (by rw [← e1]; simpa using c2)
 ·have hge := of_decide_eq_false hge
  obtain rfl : j = (roX d).length := by omega
  exact hNL _ (fx_ok hn hw hL hna hW hNH (hX rfl))
end
def inv7 (s : ByteArray) (d : RO) (key : Nat) (ps : List Pv) (m : Nat) : Prop :=
  (∃ j : Nat, j ≤ (roX d).length ∧ m = 2 * (roX d).length + 1 - j ∧
    ((key = 7 ∧ wantJ d j = [] ∧ drawnJ s d j = [] ∧ ps = [.s s, .ro d, .z (j : Int), .l K80, .l K80, .l (stJ s d j), .b true]) ∨
     (key = 1007 ∧ drawnJ s d j = [] ∧ ps = [.s s, .ro d, .z ((wantJ d j).length : Int), .z (j : Int), .l K80, .l K80, .l (stJ s d j), .b true, .ro (.r (wantJ d j))]) ∨
     (key = 2007 ∧ ps = [.s s, .ro d, .z ((drawnJ s d j).length : Int), .z ((wantJ d j).length : Int), .z (j : Int), .l K80, .l K80, .l (stJ s d j), .b true, .ro (.r (wantJ d j)), .ll (drawnJ s d j)]))) ∨
  (∃ i : Nat, i ≤ (drawnJ s d (roX d).length).length ∧ m = (drawnJ s d (roX d).length).length - i ∧
    ((key = 24 ∧ wantJ d (roX d).length = [] ∧ drawnJ s d (roX d).length = [] ∧ ps = [.s s, .z 0, .z (i : Int), .l K80, .l K80, .l (stJ s d (roX d).length), .b true, .ll []]) ∨
     (key = 1024 ∧ drawnJ s d (roX d).length = [] ∧ ps = [.s s, .z ((wantJ d (roX d).length).length : Int), .z 0, .z (i : Int), .l K80, .l K80, .l (stJ s d (roX d).length), .b true, .ll [], .ro (.r (wantJ d (roX d).length))]) ∨
     (key = 2024 ∧ ps = [.s s, .z ((drawnJ s d (roX d).length).length : Int), .z ((wantJ d (roX d).length).length : Int), .z ((drawnJ s d (roX d).length).length : Int), .z (i : Int), .l K80, .l K80, .l (stJ s d (roX d).length), .b true, .ll (drawnJ s d (roX d).length), .ro (.r (wantJ d (roX d).length)), .ll (drawnJ s d (roX d).length)])))

theorem end_ok {s : ByteArray} {d : RO} (hn : (roX d).length ≤ 1048576) (hw : ∀ j, j < (roX d).length → okW (roN d j)) {ws : List RO} (hws : ws = wantJ d (roX d).length) : Need (∀ (i : Nat), i < ws.length → (((frL (bytesI (roS (roN (roN (RO.r ws) i) (2 : Nat)))) (List.map roL (roX (roN (roN (RO.r ws) i) (3 : Nat))))).length : Nat) : Int) + (1000 : Int) ≤ (70368744170000 : Int)) ∧
  endJ s (RO.r ws) ws.length = stJ s d (roX d).length := by
 subst hws
 exact ⟨need_of fun i hi => want_ok hw _ (Nat.le_refl _) _ (roN_mem (d := .r (wantJ d (roX d).length)) hi), end_law s d _⟩

theorem str_arg {P : Program} {H : Type} {enc : TypeId × Value → H} {W : World} (N : Nat) {t : TypeId} {s : ByteArray} {d : DataW H} {ps : List MemPlace} (hs : shTyB P .ts t = true) (h : DataW.Trod enc P W 0 (fun _ => true) true t (.string s) d ps) :
  s.size + 1 ≤ Go.Proofs.YthgclfedhgmpiaaDoor.Rows.uptoBulk d ∧ ((∀ n ∈ d.weights P t, n ≤ N) → s.size ≤ N) := by
 obtain ⟨fuel, h⟩ := h
 obtain ⟨ro, u, e, q1, q2, q3⟩ := trod_ro N .ts t fuel _ _ hs h
 simp only [RoD] at q1
 obtain ⟨rfl, _⟩ := q1
 have e : s = roS ro := by simpa [Value.cells] using e
 rw [e]
 exact ⟨q2, q3⟩

theorem law (W : World) (hG : Glob gh5 W fun _ => False) (s : ByteArray) (hx : s.size ≤ reachBytes)
  (d : RO) (v : Value) (hv : RoD W (OutB W fun _ => False) (.l (.r [.i .i64, .i .i64, .ts, .l (.ints .u8)])) d v) (hs : ∃ ad n cap, v = .slice ad n cap) (hx1 : roMx reachBytes (.l (.r [.i .i64, .i .i64, .ts, .l (.ints .u8)])) d)
  (hM : s.size + roM (.l (.r [.i .i64, .i .i64, .ts, .l (.ints .u8)])) d ≤ 1048576) :
  Calls Tryd.prog 7 #[.string s, v] W fun e w' => e = .returned (.bool true) ∧ Below W.heap.size W w' := by
 have hw := ok_of (d := d) (by omega)
 have hn : (roX d).length ≤ 1048576 := by
  have : roM (.l (.r [.i .i64, .i .i64, .ts, .l (.ints .u8)])) d = (roX d).length + ((roX d).map (roM (.r [.i .i64, .i .i64, .ts, .l (.ints .u8)]))).sum := rfl
  omega
 have hl : (frL tagT [bytesI s]).length = 39 + s.size := by
  rw [frL_len1, bytesI_len, show tagT.length = 15 from rfl]
  omega
 refine law_gen Γ7_ok rfl glow5 rfl (fn := Tryd.f7) (L := L7) (inv := inv7 s d) (av := [.v (.s s), .d (.l (.r [.i .i64, .i .i64, .ts, .l (.ints .u8)])) d]) (args' := [.s s, .ro 490 (.l shSay) d]) (K := KK) ⟨rfl, rfl, trivial⟩ (Nat.le_of_ble_eq_true (by kernel_rfl)) ⟨?_, ?_, ?_⟩ (fun _ _ h => h) hG
  ⟨_, _, rfl, ⟨rfl, by omega⟩, v, _, rfl, hv, rfl, rfl⟩
 ·intro kk t ht g hg
  have hg : g ∈ [3, 0, 4, 2, 1, 490] := hg
  simp only [List.mem_cons, List.not_mem_nil, or_false] at hg
  simp only [L7, List.mem_cons, List.not_mem_nil, or_false, Prod.mk.injEq] at ht
  rcases ht with ⟨rfl, rfl⟩ | ⟨rfl, rfl⟩ | ⟨rfl, rfl⟩ | ⟨rfl, rfl⟩ | ⟨rfl, rfl⟩ | ⟨rfl, rfl⟩ <;> rcases hg with rfl | rfl | rfl | rfl | rfl | rfl <;> exact ⟨by omega, rfl⟩
 ·have hC : ∀ (f : Int → Prop) (j : Nat), j ≤ (roX d).length → f (((wantJ d j).length + 1 : Nat) : Int) → Need ((((((roX (RO.r (wantJ d j))).length + (1 : Nat)) : Nat) : Int) * (56 : Int) ≤ (70368744177664 : Int))) ∧ Need (((wantJ d j).length : Int) = (((roX (RO.r (wantJ d j))).length : Nat) : Int)) ∧ ∀ (x : Int), x = ((((roX (RO.r (wantJ d j))).length + (1 : Nat)) : Nat) : Int) → (0 : Int) ≤ x → InR IntKind.i64 x → f x := fun f j hj hf => by
   have := want_len d j
   have er : (roX (RO.r (wantJ d j))) = wantJ d j := rfl
   rw [er]
   refine ⟨need_of (by omega), need_of rfl, fun x e _ _ => by rw [e]; exact hf⟩
  rintro vk t ps mm ht (⟨j, hj, rfl, ⟨rfl, hw0, hd0, rfl⟩ | ⟨rfl, hd0, rfl⟩ | ⟨rfl, rfl⟩⟩ | ⟨i, hi, rfl, ⟨rfl, hw0, hd0, rfl⟩ | ⟨rfl, hd0, rfl⟩ | ⟨rfl, rfl⟩⟩)
  all_goals simp only [L7, List.mem_cons, List.not_mem_nil, or_false, Prod.mk.injEq, Nat.reduceEqDiff, false_and, true_and, false_or, or_false] at ht
  all_goals subst ht
  ·show lc7a s d (j : Int) (stJ s d j) true KK _
   rw [lc7a_eq]
   refine bx_ok hj hn hw hd0.symm (fun P h => h) (fun f hf => ⟨need_of (by decide), fun x e _ _ => by rw [e]; rw [hw0] at hf; exact hf⟩) (fun P h => ⟨need_of (by decide), h⟩) (fun P h => h) hd0.symm (by rw [hd0]; rfl) (by rw [hw0]) ?_ ?_ ?_ ?_
   ·intro hlt c c2
    exact ⟨rfl, 2 * (roX d).length + 1 - (j + 1), by omega, .inl ⟨j + 1, by omega, rfl, .inl ⟨rfl, by rw [want_n c c2]; exact hw0, by rw [drawn_n c2]; exact hd0, by rw [show stJ s d (j + 1) = stJ s d j by show saysL _ _ _ _ = _; unfold saysL; rw [if_neg c, if_neg c2]]⟩⟩⟩
   ·intro hlt c
    have c2 : ¬ roZ (roN (roN d j) 0) = 2 := by omega
    refine ⟨rfl, 2 * (roX d).length + 1 - (j + 1), by omega, .inl ⟨j + 1, by omega, rfl, .inr (.inl ⟨rfl, by rw [drawn_n c2]; exact hd0, ?_⟩)⟩⟩
    rw [want_y (.inl c), hw0]; rfl
   ·intro hlt c
    refine ⟨rfl, 2 * (roX d).length + 1 - (j + 1), by omega, .inl ⟨j + 1, by omega, rfl, .inr (.inr ⟨rfl, ?_⟩)⟩⟩
    rw [want_y (.inr c), hw0]; rfl
   ·rintro rfl
    refine ⟨rfl, (drawnJ s d (roX d).length).length - 0, by rw [hd0]; simp; omega, .inr ⟨0, Nat.zero_le _, rfl, .inl ⟨rfl, hw0, hd0, ?_⟩⟩⟩
    rw [hd0]; rfl
  ·show lc7b s d ((wantJ d j).length : Int) (j : Int) (stJ s d j) true (wantJ d j) KK _
   rw [lc7b_eq]
   refine bx_ok hj hn hw hd0.symm (fun P h => h) (fun f hf => hC f j hj hf) (fun P h => ⟨need_of (by decide), h⟩) (fun P h => ⟨need_of rfl, need_of rfl, h⟩) hd0.symm (by rw [hd0]; rfl) rfl ?_ ?_ ?_ ?_
   ·intro hlt c c2
    exact ⟨rfl, 2 * (roX d).length + 1 - (j + 1), by omega, .inl ⟨j + 1, by omega, rfl, .inr (.inl ⟨rfl, by rw [drawn_n c2]; exact hd0, by rw [want_n c c2, show stJ s d (j + 1) = stJ s d j by show saysL _ _ _ _ = _; unfold saysL; rw [if_neg c, if_neg c2]]; rfl⟩)⟩⟩
   ·intro hlt c
    have c2 : ¬ roZ (roN (roN d j) 0) = 2 := by omega
    refine ⟨rfl, 2 * (roX d).length + 1 - (j + 1), by omega, .inl ⟨j + 1, by omega, rfl, .inr (.inl ⟨rfl, by rw [drawn_n c2]; exact hd0, ?_⟩)⟩⟩
    rw [want_y (.inl c), List.length_append]; rfl
   ·intro hlt c
    refine ⟨rfl, 2 * (roX d).length + 1 - (j + 1), by omega, .inl ⟨j + 1, by omega, rfl, .inr (.inr ⟨rfl, ?_⟩)⟩⟩
    rw [want_y (.inr c), List.length_append]; rfl
   ·rintro rfl
    refine ⟨rfl, (drawnJ s d (roX d).length).length - 0, by rw [hd0]; simp; omega, .inr ⟨0, Nat.zero_le _, rfl, .inr (.inl ⟨rfl, hd0, ?_⟩)⟩⟩
    rw [hd0]; rfl
  ·show lc7c s d ((drawnJ s d j).length : Int) ((wantJ d j).length : Int) (j : Int) (stJ s d j) true (wantJ d j) (drawnJ s d j) KK _
   rw [lc7c_eq]
   have ht : List.take ((drawnJ s d j).length : Int).toNat (List.drop 0 (drawnJ s d j)) = drawnJ s d j := by rw [Int.toNat_natCast]; simp
   have hdl := drawn_len s d j
   rw [ht]
   have er : roX (.r ((drawnJ s d j).map RO.l)) = (drawnJ s d j).map RO.l := rfl
   refine bx_ok hj hn hw rfl (fun P h => ⟨need_of rfl, h⟩) (fun f hf => hC f j hj hf) (fun P h => ⟨need_of (by omega), need_of (by rw [er, List.length_map]; omega), h⟩) (fun P h => ⟨need_of rfl, need_of rfl, h⟩) (by rw [er, List.map_map]; exact List.map_id _) rfl rfl ?_ ?_ ?_ ?_
   ·intro hlt c c2
    exact ⟨rfl, 2 * (roX d).length + 1 - (j + 1), by omega, .inl ⟨j + 1, by omega, rfl, .inr (.inr ⟨rfl, by rw [want_n c c2, drawn_n c2, show stJ s d (j + 1) = stJ s d j by show saysL _ _ _ _ = _; unfold saysL; rw [if_neg c, if_neg c2]]; rfl⟩)⟩⟩
   ·intro hlt c
    have c2 : ¬ roZ (roN (roN d j) 0) = 2 := by omega
    refine ⟨rfl, 2 * (roX d).length + 1 - (j + 1), by omega, .inl ⟨j + 1, by omega, rfl, .inr (.inr ⟨rfl, ?_⟩)⟩⟩
    rw [want_y (.inl c), drawn_n c2, List.length_append]; rfl
   ·intro hlt c
    refine ⟨rfl, 2 * (roX d).length + 1 - (j + 1), by omega, .inl ⟨j + 1, by omega, rfl, .inr (.inr ⟨rfl, ?_⟩)⟩⟩
    rw [want_y (.inr c), List.length_append]; rfl
   ·rintro rfl
    exact ⟨rfl, (drawnJ s d (roX d).length).length - 0, by omega, .inr ⟨0, Nat.zero_le _, rfl, .inr (.inr ⟨rfl, rfl⟩)⟩⟩
  ·show lc24a s 0 (i : Int) (stJ s d (roX d).length) true [] KK _
   rw [lc24a_eq]
   refine ⟨fun h => absurd (of_decide_eq_true h) (by omega), fun _ => ?_⟩
   intro x5 _ _ _ x6 e6 _ _
   obtain ⟨u1, u2⟩ := end_ok (s := s) hn hw hw0.symm
   refine ⟨need_of (by omega), u1, ?_⟩
   intro x7 e7 _ _
   refine kk_no ?_
   rw [e6, e7, stateL_t]
   exact beq_iff_eq.2 u2.symm
  ·show lc24b s ((wantJ d (roX d).length).length : Int) 0 (i : Int) (stJ s d (roX d).length) true [] (wantJ d (roX d).length) KK _
   rw [lc24b_eq]
   refine ⟨fun h => absurd (of_decide_eq_true h) (by omega), fun _ => ?_⟩
   intro x5 _ _ _ x6 e6 _ _
   obtain ⟨u1, u2⟩ := end_ok (s := s) hn hw rfl
   refine ⟨need_of rfl, need_of rfl, need_of (by omega), u1, ?_⟩
   intro x7 e7 _ _
   refine kk_no ?_
   rw [e6, e7, stateL_t]
   exact beq_iff_eq.2 u2.symm
  ·show lc24c s ((drawnJ s d (roX d).length).length : Int) ((wantJ d (roX d).length).length : Int) ((drawnJ s d (roX d).length).length : Int) (i : Int) (stJ s d (roX d).length) true (drawnJ s d (roX d).length) (wantJ d (roX d).length) (drawnJ s d (roX d).length) KK _
   rw [lc24c_eq]
   refine ⟨fun h => ?_, fun _ => ?_⟩
   ·have h := of_decide_eq_true h
    refine ⟨need_of (by omega), need_of (by omega), ?_⟩
    intro x1 e1 _ x2 e2 _ x3 e3 _ x4 e4 _
    refine ⟨need_of (by omega), need_of (by omega), ?_⟩
    intro x5 e5 _ x6 e6 _ x7 e7 _ x8 e8 _
    refine ⟨fun c => ?_, fun _ => ?_⟩
    ·rw [e1, e2, e3, e4, e5, e6, e7, e8] at c
     simp at c
    ·intro x9 e9 _
     have := drawn_len s d (roX d).length
     rw [wrap_i64 (by omega)] at e9
     refine ⟨rfl, (drawnJ s d (roX d).length).length - (i + 1), by omega, .inr ⟨i + 1, by omega, rfl, .inr (.inr ⟨rfl, ?_⟩)⟩⟩
     rw [e9]; rfl
   ·intro x5 _ _ _ x6 e6 _ _
    obtain ⟨u1, u2⟩ := end_ok (s := s) hn hw rfl
    refine ⟨need_of rfl, need_of rfl, need_of (by omega), u1, ?_⟩
    intro x7 e7 _ _
    refine kk_no ?_
    rw [e6, e7, stateL_t]
    exact beq_iff_eq.2 u2.symm
 ·show vc7 s d KK _
  rw [vc7_eq]
  refine ⟨need_of (by omega), ?_⟩
  intro x1 e1 _ _
  refine ⟨rfl, 2 * (roX d).length + 1 - 0, .inl ⟨0, Nat.zero_le _, rfl, .inl ⟨rfl, rfl, rfl, ?_⟩⟩⟩
  rw [e1]; rfl
end TranscriptScripted

namespace TranscriptScripted
open Go.Proofs.YthgclfedhgmpiaaDoor
open Go.ChangeShapes Go.WideShapes Go.ChangeAt Go.RowKit
theorem reads (t : Nat) (h : t ∈ Tryd.f7.params.toList) : Tryd.prog.readableRec t = true ∧ t < Tryd.prog.types.size := by
 have hp : Tryd.f7.params.toList = [9, 23] := by kernel_rfl
 rw [hp] at h
 simp only [List.mem_cons, List.not_mem_nil, or_false] at h
 rcases h with rfl | rfl <;> exact ⟨by kernel_rfl, Nat.le_of_ble_eq_true (by kernel_rfl)⟩

set_option maxRecDepth 100000 in
/-- What the call gives, for every argument and every world that holds the tables. -/
theorem contract (H : Type) (enc : TypeId × Value → H) (W : World) (base : Nat) (args : Array Value) (ds gs : List (DataW H)) (before : List MemPlace)
  (hval : ∀ (j : Nat) t v, Tryd.f7.params[j]? = some t → args[j]? = some v → Value.okWide Tryd.prog W .any base t v)
  (hW : DataW.Whole enc Tryd.prog Tryd.f7.params.toList Rows.transcriptScriptedSpec.vars false W args.toList ds gs before)
  (hw : (DataW.weightsEach Tryd.prog (Tryd.f7.params.toList ++ (Rows.OpenSpec.upto Rows.transcriptScriptedSpec).bare.plain.varTypes Tryd.prog) (ds ++ gs)).all (· ≤ reachBytes) = true) (hL : laidMetH Tryd.prog Rows.transcriptScriptedUptoRow.laid W) (hC : Rows.uptoSmall H (ds ++ gs) = true) :
  Calls Tryd.prog 7 args W fun e W' => ∃ v, e = .returned v ∧ Rows.transcriptScriptedSpec.post enc Tryd.prog Tryd.f7 false true false false W args v W' := by
 have hA : DataW.TrodAll enc Tryd.prog W 0 (fun _ => true) true [9, 23] args.toList ds _ := hW.choose_spec.choose_spec.1
 obtain ⟨v0, vs0, d0, ds0, p0, q0, hargs, hds, _, h0, r0⟩ := trodAll_cons hA
 obtain ⟨v1, vs1, d1, ds1, p1, q1, rfl, hds1, _, h1, r1⟩ := trodAll_cons r0
 obtain ⟨rfl, hdsn, _⟩ := trodAll_nil r1
 obtain rfl : args = #[v0, v1] := by cases args; simp_all
 have hds : ds = [d0, d1] := by rw [hds, hds1, hdsn]
 have hp : Tryd.f7.params = #[9, 23] := by kernel_rfl
 rw [hp] at hval
 have hp2 : Tryd.f7.params.toList = [9, 23] := by kernel_rfl
 rw [hds, hp2] at hw
 have hC : Rows.uptoBulkAll (ds ++ gs) ≤ 1048576 := of_decide_eq_true hC
 rw [hds, bulkAll_app] at hC
 simp only [Rows.uptoBulkAll] at hC
 obtain ⟨s0, rfl⟩ := okWide_string (by kernel_rfl) (hval 0 9 v0 rfl rfl)
 obtain ⟨b0, x0⟩ := str_arg reachBytes (by kernel_rfl) h0
 have x0 := x0 fun n hn => by simpa using List.all_eq_true.1 hw n (DataW.weights_mem_each (j := 0) rfl rfl n hn)
 have hc1 : v1.cells.toList = [v1] := by
  obtain ⟨a, len, cap, e⟩ := okWide_slice (e := 32) (by kernel_rfl) (hval 1 23 v1 rfl rfl)
  rw [e]; rfl
 obtain ⟨o1, e1, s1, b1, x1⟩ := arg_ro reachBytes (.l (.r [.i .i64, .i .i64, .ts, .l (.ints .u8)])) (by kernel_rfl) rfl hc1 h1
 have x1 := x1 fun n hn => by simpa using List.all_eq_true.1 hw n (DataW.weights_mem_each (j := 1) rfl rfl n hn)
 refine (law W (tab_glob6 hL) s0 x0 o1 v1 e1 s1 x1 (by omega)).mono fun e W' ⟨he, hB⟩ => ?_
 subst he
 refine ⟨_, rfl, post_true (tb := 4) laidOut rfl (by kernel_rfl) (by kernel_rfl) reads ?_ hW hB⟩
 intro ds hds
 have hds : ds.length = 2 := hds
 match ds, hds with
 | [a0, a1], _ => exact ⟨rfl, rfl, rfl⟩

def wargs : Array Value := #[.string ByteArray.empty, .slice none 0 0]
theorem laid_met (os : Os) : laidMet Tryd.prog Rows.transcriptScriptedUptoRow.laid ((laidWorld5 os).forCall (fun _ _ => 0) ⟨#[], wargs, []⟩).memory :=
 laidMet_of_run' 8 (by kernel_rfl) (by kernel_rfl)
theorem reads0 (os : Os) {H : Type} (enc : TypeId × Value → H) : ∃ places, DataW.whole enc Tryd.prog ((laidWorld5 os).forCall (fun _ _ => 0) ⟨#[], wargs, []⟩).memory Tryd.f7.params.toList Rows.transcriptScriptedSpec.vars false wargs.toList 8 = some ([.lit (.string []), .nil], [], places) :=
 ⟨[], by kernel_rfl⟩

set_option maxRecDepth 100000 in
theorem lifted (os : Os) (started : os.Started) (H : Type) (enc : TypeId × Value → H) (F : Stop.Interp) :
  ReturnsInHanded {} Tryd.checked os 7 .any ((Rows.OpenSpec.upto Rows.transcriptScriptedSpec).preRow enc Tryd.prog Tryd.f7 Rows.transcriptScriptedUptoRow.domain false Rows.transcriptScriptedUptoRow.laid) (((Rows.OpenSpec.upto Rows.transcriptScriptedSpec).at F).post enc Tryd.prog Tryd.f7 false true false false) := by
 obtain ⟨places, hx⟩ := reads0 os enc
 refine returnsInHanded_of_row (C := Tryd.checked) (s := (Rows.OpenSpec.upto Rows.transcriptScriptedSpec)) own started (by kernel_rfl) Tryd.func7
  (witness_row_at (enc := enc) (C := Tryd.checked) false (laidWorld5 os) wargs rfl (by kernel_rfl) (by kernel_rfl) (by kernel_rfl)
   (OpenSpec.preRow_of_cond 8 hx (by kernel_rfl) (fun k hk => by cases hk; kernel_rfl) (by kernel_rfl) (laid_met os))) ?_
 intro W base args ds gs before hval hW _ hcond hw hL _ _
 exact contract H enc W base args ds gs before hval hW hw hL (hcond _ rfl)

theorem said : Rows.TranscriptScriptedUptoSaid :=
 OpenClaim.holds_of_cond 7 Tryd.f7 rfl rfl rfl rfl rfl rfl rfl ⟨rfl, rfl, rfl, rfl, rfl⟩ rfl rfl rfl rfl rfl (by kernel_rfl) Tryd.func7 (by kernel_rfl)
  (of_decide_eq_true (by kernel_rfl)) (by unfold Func.isWrapper; first | (rw [if_pos (by decide +kernel)]; kernel_rfl) | (rw [if_neg (by decide +kernel)]; exact ⟨rfl, rfl⟩))
  (fun os started H enc _ F => by rw [OpenClaim.pre_eq_preRow]; exact lifted os started H enc F)

theorem plain (f : FuncId) (fn : Func) (hf : Tryd.pinned.checked.prog.funcNamed "veil/veillaw08.TranscriptScripted" = some f) (hfn : Tryd.pinned.checked.prog.funcs[f]? = some fn) :
  false = Tryd.pinned.checked.prog.looks [] ∧ ∀ (j : Nat) t, fn.params[j]? = some t → Tryd.pinned.checked.prog.wantsStandIn t = false := by
 obtain rfl : f = 7 := Option.some.inj ((show Tryd.prog.funcNamed "veil/veillaw08.TranscriptScripted" = some 7 by kernel_rfl).symm.trans hf) |>.symm
 obtain rfl : fn = Tryd.f7 := (Option.some.inj (Tryd.func7.symm.trans hfn)).symm
 refine ⟨by kernel_rfl, fun j t ht => ?_⟩
 have hp : Tryd.f7.params = #[9, 23] := by kernel_rfl
 rw [hp] at ht
 have := Array.mem_of_getElem? ht
 simp only [List.mem_toArray, List.mem_cons, List.not_mem_nil, or_false] at this
 rcases this with rfl | rfl <;> exact (show Tryd.prog.wantsStandIn _ = false by kernel_rfl)

theorem card : Rows.TranscriptScriptedUptoCardSaid :=
 Claim7.holds_tied_plain_at .later [] _ _ _ _ said (fun _ h => by cases h) (by kernel_rfl) (fun _ h => by cases h) transcriptScriptedUpto_row_tie rfl ⟨rfl, rfl⟩ (by kernel_rfl) rfl plain (by kernel_rfl)
end TranscriptScripted
end Go.Gx

namespace Go.Proofs.YthgclfedhgmpiaaDoor
theorem transcriptScriptedProved : Rows.TranscriptScriptedUptoCardSaid := Go.Gx.TranscriptScripted.card
end Go.Proofs.YthgclfedhgmpiaaDoor
#print axioms Go.Proofs.YthgclfedhgmpiaaDoor.transcriptScriptedProved
