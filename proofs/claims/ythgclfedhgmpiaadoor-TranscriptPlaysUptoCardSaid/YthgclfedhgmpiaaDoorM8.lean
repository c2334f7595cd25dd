/- TranscriptPlays: transcripts played by a list of steps, with forks and new ones, hold what their document holds. For labels and steps that are not more than the second form's bound. The tables lie as the program's text lays them. -/
import Derived.Test.YthgclfedhgmpiaaDoorM7
import Derived.Test.YthgclfedhgmpiaaDoorM4
import Derived.Test.YthgclfedhgmpiaaDoorCards
import Derived.Test.YthgclfedhgmpiaaDoorTie
import Derived.WalkKit
import Derived.ProofKit
import Derived.OpenShut
import Derived.Carry
import Derived.Deep.DeepHandedRow
import Derived.Lib.LaidTab
import Derived.Test.YthgclfedhgmpiaaDoorM5
import Derived.ChangeSlices
import Derived.SizedLaws
import Derived.Stop.LaidErr
import Derived.Test.YthgclfedhgmpiaaDoorRows

/- A step of the document's state. -/
namespace Go.Gx
open Go.Proofs Go.Sp
set_option linter.unusedVariables false
set_option maxRecDepth 100000

def g5W : Heap := gh5 ++ (490, .world) :: []
def LNx : Loops := [(3, ⟨[.any, .s ByteArray.empty, .ro 490 (.l (.ints .u8)) (.r []), .p 1000 0, .any, .any, .p 1001 0, .sl 1002 0 1 ⟨true, .ofNat 0⟩ ⟨true, .ofNat 64⟩, .i .i64 ⟨false, 0⟩] ++ reps .any 20, g5W ++ [(1000, .segs false [.arr .u8 64 false []]), (1001, .segs false [.arr .u8 64 false []]), (1002, .segs false [.rowI .u8 []])], 2000⟩)]
def vcNx (s : List Int) (x : ByteArray) (p : RO) (K : List RV → List (Option (List Seg)) → Prop) (Q : Nat → List Pv → Prop) : Prop := fnVcG 0 Ψ5 Tryd.f46 LNx [.arr .u8 64 false s, .s x, .ro 490 (.l (.ints .u8)) (.r [p])] g5W K Q
def lcNx (s o b : List Int) (x : ByteArray) (p : RO) (i : Int) (K : List RV → List (Option (List Seg)) → Prop) (Q : Nat → List Pv → Prop) : Prop := loopVcG 0 Ψ5 Tryd.f46 LNx 3 [.s x, .ro (.r [p]), .z i, .l K80, .l K80, .l s, .l o, .l b] K Q
theorem vcNx_eq : ∀ (s : List Int) (x : ByteArray) (p : RO) (K : List RV → List (Option (List Seg)) → Prop) (Q : Nat → List Pv → Prop), vcNx s x p K Q = (Need ((0 : Int) ≤ 64 ∧ (64 : Int) ≤ 64 ∧ (64 : Int) ≤ 70368744177664) ∧ ForL .u8 (List.replicate 64 (0 : Int)) fun x1 => Same Tryd.f46 3 (itemsOf Tryd.f46 3) ∧ Q 3 [Pv.s x, Pv.ro (RO.r [p]), Pv.z 0, Pv.l K80, Pv.l K80, Pv.l s, Pv.l (List.replicate 64 (0 : Int)), Pv.l x1]) := by
 intros
 kernel_rfl

theorem lcNx_eq : ∀ (s o b : List Int) (x : ByteArray) (p : RO) (i : Int) (K : List RV → List (Option (List Seg)) → Prop) (Q : Nat → List Pv → Prop), lcNx s o b x p i K Q = ((decide (i < 64) = true → Need (0 ≤ i ∧ i < 64) ∧ Need (0 ≤ i ∧ i < 64) ∧ ForI .u8 (s.getD i.toNat 0) fun x1 => Need (0 ≤ i ∧ i < 64) ∧ Need (0 ≤ i ∧ i < ↑b.length) ∧ ForL .u8 (b.set i.toNat x1) fun x2 => ForI .i64 (IntKind.i64.wrap (i + 1)) fun x3 => Same Tryd.f46 3 (itemsOf Tryd.f46 3) ∧ Q 3 [Pv.s x, Pv.ro (RO.r [p]), Pv.z x3, Pv.l K80, Pv.l K80, Pv.l s, Pv.l o, Pv.l x2]) ∧ (decide (i < 64) = false → Need ((64 : Int) ≤ ↑b.length) ∧ Need ((((frL (bytesI x) (List.map roL (roX (RO.r [RO.l (List.take 64 (List.drop 0 b)), p])))).length : Nat) : Int) ≤ 70368744177664) ∧ ForL .u8 (frL (bytesI x) (List.map roL (roX (RO.r [RO.l (List.take 64 (List.drop 0 b)), p])))) fun x4 => ForN (((frL (bytesI x) (List.map roL (roX (RO.r [RO.l (List.take 64 (List.drop 0 b)), p])))).length : Nat) : Int) fun x5 => Need (0 + x5 ≤ ↑x4.length) ∧ Need ((((roL (RO.l (List.take x5.toNat (List.drop 0 x4)))).length : Nat) : Int) ≤ 70368744177000) ∧ ForA .u8 64 (sha (roL (RO.l (List.take x5.toNat (List.drop 0 x4))))) fun x6 => K [RV.v (SV.arr .u8 64 false x6)] [])) := by
 intros
 kernel_rfl

theorem low5 {L : Loops} (h6 : Heap) (hL : ∀ k t, (k, t) ∈ L → ∀ g, g ∈ [3, 0, 4, 2, 1, 490] → (assoc t.heap g).isSome = true) : ∀ k t, (k, t) ∈ L → ∀ g, g ∈ keysOf (gh5 ++ (490, .world) :: []) → g < 1000 ∧ (assoc t.heap g).isSome = true := fun k t ht g hg => by
 have hg : g ∈ [3, 0, 4, 2, 1, 490] := hg
 refine ⟨?_, hL k t ht g hg⟩
 simp only [List.mem_cons, List.not_mem_nil, or_false] at hg
 omega
theorem put_at {b st : List Int} {k : Nat} {x : Int} (hb : b.length = 64) (hs : st.length = 64) (hk : k < 64) (h : ∀ t, t < k → b[t]? = st[t]?) (hx : x = st.getD k 0) : (b.set k x).length = 64 ∧ ∀ t, t < k + 1 → (b.set k x)[t]? = st[t]? := by
 refine ⟨by rw [List.length_set]; exact hb, fun t ht => ?_⟩
 by_cases e : t = k
 ·subst e
  rw [List.getElem?_set_self (by omega), hx, List.getD_eq_getElem?_getD, List.getElem?_eq_getElem (by omega)]; rfl
 ·rw [List.getElem?_set_ne (fun e' => e e'.symm)]; exact h t (by omega)
theorem put_all {b st : List Int} (hb : b.length = 64) (hs : st.length = 64) (h : ∀ t, t < 64 → b[t]? = st[t]?) : b = st := by
 refine List.ext_getElem? fun t => ?_
 by_cases ht : t < 64
 ·exact h t ht
 ·rw [List.getElem?_eq_none (by omega), List.getElem?_eq_none (by omega)]
def invNx (st : List Int) (x : ByteArray) (p : RO) (key : Nat) (ps : List Pv) (mm : Nat) : Prop := key = 3 ∧ ∃ (k : Nat) (o b : List Int), k ≤ 64 ∧ b.length = 64 ∧ (∀ t, t < k → b[t]? = st[t]?) ∧ ps = [.s x, .ro (.r [p]), .z (k : Int), .l K80, .l K80, .l st, .l o, .l b] ∧ mm = 64 - k
def nxG : List AV → Option (List Prop × List RV × List (Option (List Seg)))
 | [.v (.arr .u8 64 _ st), .v (.s s), .d (.l (.ints .u8)) (.r [p])] => some ([((frL (bytesI s) [st, roL p]).length : Int) ≤ 70368744170000], [.v (.arr .u8 64 false (nextL (bytesI s) st (roL p)))], [])
 | _ => none
theorem nxG_ok : CallOk Tryd.prog gh5 46 (genCtr [.v, .v, .d (.l (.ints .u8))] nxG) := by
 refine call_gen (fn := Tryd.f46) Ψ5_ok rfl glow5 rfl (by kernel_rfl) (by kernel_rfl) _ nxG fun av p rvs fin hs hp hf => ?_
 unfold nxG at hs
 split at hs
 ·rename_i e1 st s p
  simp only [Option.some.injEq, Prod.mk.injEq] at hs
  obtain ⟨rfl, rfl, rfl⟩ := hs
  have hd : ((frL (bytesI s) [st, roL p]).length : Int) ≤ 70368744170000 := hp.1
  obtain ⟨⟨hst, hsr⟩, _⟩ := hf
  refine ⟨[.arr .u8 64 false st, .s s, .ro 490 (.l (.ints .u8)) (.r [p])], [], LNx, invNx st s p, ⟨rfl, rfl, rfl, trivial⟩, Nat.le_of_ble_eq_true (by kernel_rfl), low5 [] ?_, ?_, ?_⟩
  ·intro k t ht g hg
   simp only [LNx, List.mem_cons, List.not_mem_nil, or_false, Prod.mk.injEq] at ht hg
   obtain ⟨rfl, rfl⟩ := ht
   rcases hg with rfl | rfl | rfl | rfl | rfl | rfl <;> rfl
  ·rintro vk t ps mm ht ⟨rfl, k, o, b, hk, hb, hpre, rfl, rfl⟩
   simp only [LNx, List.mem_cons, List.not_mem_nil, or_false, Prod.mk.injEq, true_and] at ht
   subst ht
   show lcNx st o b s p (k : Int) _ _
   rw [lcNx_eq]
   refine ⟨fun h => ?_, fun h => ?_⟩
   ·have h := of_decide_eq_true h
    refine ⟨need_of (by omega), need_of (by omega), fun x1 e1 _ => ⟨need_of (by omega), need_of (by omega), fun x2 e2 _ x3 e3 _ => ?_⟩⟩
    rw [wrap_i64 (by omega)] at e3
    rw [Int.toNat_natCast] at e1 e2
    obtain ⟨q1, q2⟩ := put_at hb hst (by omega) hpre e1
    refine ⟨rfl, 64 - (k + 1), by omega, rfl, k + 1, o, x2, by omega, by rw [e2]; exact q1, by rw [e2]; exact q2, ?_, rfl⟩
    rw [e3]; rfl
   ·have h := of_decide_eq_false h
    have hbs : b = st := put_all hb hst fun t ht => hpre t (by omega)
    subst hbs
    have hx : List.map roL (roX (.r [.l (List.take 64 (List.drop 0 b)), p])) = [b, roL p] := by
     rw [List.drop_zero, List.take_of_length_le (by omega)]; rfl
    rw [hx]
    refine ⟨need_of (by omega), need_of (by omega), ?_⟩
    intro x4 e4 _ x5 e5 _ _
    rw [← e4] at e5 hd
    have hj : roL (.l (List.take x5.toNat (List.drop 0 x4))) = x4 := by
     rw [roL_l, List.drop_zero, e5, Int.toNat_natCast, List.take_of_length_le (Nat.le_refl _)]
    rw [hj]
    refine ⟨need_of (by omega), need_of (by omega), ?_⟩
    intro x6 e6 _ _
    rw [e4] at e6
    exact ⟨⟨e6, trivial⟩, trivial⟩
  ·show vcNx st s p _ _
   rw [vcNx_eq]
   refine ⟨need_of (by omega), ?_⟩
   intro x1 e1 _
   exact ⟨rfl, _, rfl, 0, _, x1, by omega, by rw [e1]; simp, fun t ht => by omega, rfl, rfl⟩
 ·cases hs
def Ψ6 : Tab := ⟨tys, (46, genCtr [.v, .v, .d (.l (.ints .u8))] nxG) :: Ψ5.ctr, [3, 0, 4, 2, 1], gh5⟩
theorem Ψ6_ok : TabOk Tryd.prog Ψ6 := Ψ5_ok.cons nxG_ok
end Go.Gx

/- The document's forks, sayings and draws. -/
namespace Go.Gx
open Go.Proofs Go.Sp
set_option linter.unusedVariables false
set_option maxRecDepth 100000

def vcQf (s : List Int) (x : ByteArray) (K : List RV → List (Option (List Seg)) → Prop) (Q : Nat → List Pv → Prop) : Prop := fnVcG 0 Ψ6 Tryd.f27 [] [.arr .u8 64 false s, .s x] g5W K Q
def vcQa (s : List Int) (x : ByteArray) (d : RO) (K : List RV → List (Option (List Seg)) → Prop) (Q : Nat → List Pv → Prop) : Prop := fnVcG 0 Ψ6 Tryd.f48 [] [.arr .u8 64 false s, .s x, .ro 490 (.l (.ints .u8)) d] g5W K Q
def LQd : Loops := [(4, ⟨[.any, .any, .p 1000 0, .any, .p 1001 0, .p 1002 0, .any, .p 1003 0, .sl 1004 0 1 ⟨true, .ofNat 0⟩ ⟨true, .ofNat 64⟩, .i .i64 ⟨false, 0⟩] ++ reps .any 31, g5W ++ [(1000, .segs false [.arr .u8 64 false []]), (1001, .segs false [.arr .u8 64 false []]), (1002, .segs false [.arr .u64 4 false []]), (1003, .segs false [.arr .u8 64 false []]), (1004, .segs false [.rowI .u8 []])], 2000⟩)]
def vcQd (s : List Int) (x : ByteArray) (K : List RV → List (Option (List Seg)) → Prop) (Q : Nat → List Pv → Prop) : Prop := fnVcG 0 Ψ6 Tryd.f50 LQd [.arr .u8 64 false s, .s x] g5W K Q
def lcQd (s o c d b : List Int) (i : Int) (K : List RV → List (Option (List Seg)) → Prop) (Q : Nat → List Pv → Prop) : Prop := loopVcG 0 Ψ6 Tryd.f50 LQd 4 [.z i, .l K80, .l K80, .l s, .l o, .l c, .l d, .l b] K Q
theorem vcQf_eq : ∀ (s : List Int) (x : ByteArray) (K : List RV → List (Option (List Seg)) → Prop) (Q : Nat → List Pv → Prop), vcQf s x K Q = ForL .u8 (bytesI x) fun x1 => ForN (↑x.size) fun x2 => Need (0 + x2 ≤ ↑x1.length) ∧ Need ((((frL (bytesI { data := #[102, 111, 114, 107] }) [s, roL (RO.l (List.take x2.toNat (List.drop 0 x1)))]).length : Nat) : Int) ≤ 70368744170000) ∧ ForA .u8 64 (nextL (bytesI { data := #[102, 111, 114, 107] }) s (roL (RO.l (List.take x2.toNat (List.drop 0 x1))))) fun x3 => K [RV.v (SV.arr .u8 64 false x3)] [] := by
 intros
 kernel_rfl

theorem vcQa_eq : ∀ (s : List Int) (x : ByteArray) (d : RO) (K : List RV → List (Option (List Seg)) → Prop) (Q : Nat → List Pv → Prop), vcQa s x d K Q = (Need ((((frL (bytesI x) (List.map roL (roX d))).length : Nat) : Int) ≤ 70368744177664) ∧ ForL .u8 (frL (bytesI x) (List.map roL (roX d))) fun x1 => ForN (((frL (bytesI x) (List.map roL (roX d))).length : Nat) : Int) fun x2 => Need (0 + x2 ≤ ↑x1.length) ∧ Need ((((frL (bytesI { data := #[97, 98, 115, 111, 114, 98] }) [s, roL (RO.l (List.take x2.toNat (List.drop 0 x1)))]).length : Nat) : Int) ≤ 70368744170000) ∧ ForA .u8 64 (nextL (bytesI { data := #[97, 98, 115, 111, 114, 98] }) s (roL (RO.l (List.take x2.toNat (List.drop 0 x1))))) fun x3 => K [RV.v (SV.arr .u8 64 false x3)] []) := by
 intros
 kernel_rfl

theorem vcQd_eq : ∀ (s : List Int) (x : ByteArray) (K : List RV → List (Option (List Seg)) → Prop) (Q : Nat → List Pv → Prop), vcQd s x K Q = ForL .u8 (bytesI x) fun x1 => ForN (↑x.size) fun x2 => Need (0 + x2 ≤ ↑x1.length) ∧ Need ((((frL (bytesI { data := #[100, 114, 97, 119] }) [s, roL (RO.l (List.take x2.toNat (List.drop 0 x1)))]).length : Nat) : Int) ≤ 70368744170000) ∧ ForA .u8 64 (nextL (bytesI { data := #[100, 114, 97, 119] }) s (roL (RO.l (List.take x2.toNat (List.drop 0 x1))))) fun x3 => Need ((0 : Int) ≤ 64 ∧ (64 : Int) ≤ 64 ∧ (64 : Int) ≤ 70368744177664) ∧ ForL .u8 (List.replicate 64 (0 : Int)) fun x4 => Same Tryd.f50 4 (itemsOf Tryd.f50 4) ∧ Q 4 [Pv.z 0, Pv.l K80, Pv.l K80, Pv.l s, Pv.l (List.replicate 64 (0 : Int)), Pv.l [(0 : Int), (0 : Int), (0 : Int), (0 : Int)], Pv.l x3, Pv.l x4] := by
 intros
 kernel_rfl

theorem lcQd_eq : ∀ (s o c d b : List Int) (i : Int) (K : List RV → List (Option (List Seg)) → Prop) (Q : Nat → List Pv → Prop), lcQd s o c d b i K Q = ((decide (i < 64) = true → Need (0 ≤ i ∧ i < 64) ∧ Need (0 ≤ i ∧ i < 64) ∧ ForI .u8 (d.getD i.toNat 0) fun x1 => Need (0 ≤ i ∧ i < 64) ∧ Need (0 ≤ i ∧ i < ↑b.length) ∧ ForL .u8 (b.set i.toNat x1) fun x2 => ForI .i64 (IntKind.i64.wrap (i + 1)) fun x3 => Same Tryd.f50 4 (itemsOf Tryd.f50 4) ∧ Q 4 [Pv.z x3, Pv.l K80, Pv.l K80, Pv.l s, Pv.l o, Pv.l c, Pv.l d, Pv.l x2]) ∧ (decide (i < 64) = false → Need ((64 : Int) ≤ ↑b.length) ∧ Need ((((frL (bytesI { data := #[100, 114, 97, 119, 110] }) [s, roL (RO.l (List.take 64 (List.drop 0 b)))]).length : Nat) : Int) ≤ 70368744170000) ∧ ForA .u8 64 (nextL (bytesI { data := #[100, 114, 97, 119, 110] }) s (roL (RO.l (List.take 64 (List.drop 0 b))))) fun x4 => ForI .u64 (Sc.w0 (Sc.bval d % 7237005577332262213973186563042994240857116359379907606001950938285454250989)) fun x5 => ForI .u64 (Sc.w1 (Sc.bval d % 7237005577332262213973186563042994240857116359379907606001950938285454250989)) fun x6 => ForI .u64 (Sc.w2 (Sc.bval d % 7237005577332262213973186563042994240857116359379907606001950938285454250989)) fun x7 => ForI .u64 (Sc.w3 (Sc.bval d % 7237005577332262213973186563042994240857116359379907606001950938285454250989)) fun x8 => (([x5, x6, x7, x8] == [(0 : Int), (0 : Int), (0 : Int), (0 : Int)]) = true → K [RV.v (SV.arr .u8 64 false x4), RV.v (SV.arr .u64 4 true [x5, x6, x7, x8]), RV.v (SV.i .i64 { st := true, z := (4 : Int) })] []) ∧ (([x5, x6, x7, x8] == [(0 : Int), (0 : Int), (0 : Int), (0 : Int)]) = false → K [RV.v (SV.arr .u8 64 false x4), RV.v (SV.arr .u64 4 true [x5, x6, x7, x8]), RV.v (SV.i .i64 { st := true, z := (0 : Int) })] []))) := by
 intros
 kernel_rfl

def qfG : List AV → Option (List Prop × List RV × List (Option (List Seg)))
 | [.v (.arr .u8 64 _ st), .v (.s s)] => some ([(s.size : Int) + 1000 ≤ 70368744170000], [.v (.arr .u8 64 false (nextL tagF st (bytesI s)))], [])
 | _ => none
theorem qfG_ok : CallOk Tryd.prog gh5 27 (genCtr [.v, .v] qfG) := by
 refine call_gen (fn := Tryd.f27) Ψ6_ok rfl glow5 rfl (by kernel_rfl) (by kernel_rfl) _ qfG fun av p rvs fin hs hp hf => ?_
 unfold qfG at hs
 split at hs
 ·rename_i e1 st s
  simp only [Option.some.injEq, Prod.mk.injEq] at hs
  obtain ⟨rfl, rfl, rfl⟩ := hs
  have hd : (s.size : Int) + 1000 ≤ 70368744170000 := hp.1
  obtain ⟨⟨hst, hsr⟩, _⟩ := hf
  refine ⟨[.arr .u8 64 false st, .s s], [], [], _, ⟨rfl, rfl, trivial⟩, Nat.le_of_ble_eq_true (by kernel_rfl), vcG_noloops ?_⟩
  show vcQf st s _ _
  rw [vcQf_eq, tagF_eq]
  intro x1 e1 _ x2 e2 _ _
  have h3 : x1.length = s.size := by rw [e1, bytesI_len]
  rw [e2, Int.toNat_natCast, List.drop_zero, List.take_of_length_le (by omega)]
  refine ⟨need_of (by omega), need_of (by rw [frL_len2, show tagF.length = 4 from rfl, roL_l, h3]; omega), ?_⟩
  intro x3 e3 _ _
  rw [roL_l, e1] at e3
  exact ⟨⟨e3, trivial⟩, trivial⟩
 ·cases hs
def qaG : List AV → Option (List Prop × List RV × List (Option (List Seg)))
 | [.v (.arr .u8 64 _ st), .v (.s s), .d (.l (.ints .u8)) d] => some ([((frL (bytesI s) ((roX d).map roL)).length : Int) + 1000 ≤ 70368744170000], [.v (.arr .u8 64 false (absL st (bytesI s) ((roX d).map roL)))], [])
 | _ => none
theorem qaG_ok : CallOk Tryd.prog gh5 48 (genCtr [.v, .v, .d (.l (.ints .u8))] qaG) := by
 refine call_gen (fn := Tryd.f48) Ψ6_ok rfl glow5 rfl (by kernel_rfl) (by kernel_rfl) _ qaG fun av p rvs fin hs hp hf => ?_
 unfold qaG at hs
 split at hs
 ·rename_i e1 st s d
  simp only [Option.some.injEq, Prod.mk.injEq] at hs
  obtain ⟨rfl, rfl, rfl⟩ := hs
  have hd : ((frL (bytesI s) ((roX d).map roL)).length : Int) + 1000 ≤ 70368744170000 := hp.1
  obtain ⟨⟨hst, hsr⟩, _⟩ := hf
  refine ⟨[.arr .u8 64 false st, .s s, .ro 490 (.l (.ints .u8)) d], [], [], _, ⟨rfl, rfl, rfl, trivial⟩, Nat.le_of_ble_eq_true (by kernel_rfl), vcG_noloops ?_⟩
  show vcQa st s d _ _
  rw [vcQa_eq, tagA_eq]
  refine ⟨need_of (by omega), ?_⟩
  intro x1 e1 _ x2 e2 _ _
  rw [← e1] at e2 hd
  rw [e2, Int.toNat_natCast, List.drop_zero, List.take_of_length_le (Nat.le_refl _)]
  refine ⟨need_of (by omega), need_of (by rw [frL_len2, show tagA.length = 6 from rfl, roL_l, hst]; omega), ?_⟩
  intro x3 e3 _ _
  rw [roL_l, e1] at e3
  exact ⟨⟨e3, trivial⟩, trivial⟩
 ·cases hs
def qdG : List AV → Option (List Prop × List RV × List (Option (List Seg)))
 | [.v (.arr .u8 64 _ st), .v (.s s)] => some ([(s.size : Int) + 1000 ≤ 70368744170000], [.v (.arr .u8 64 false (drawL st (bytesI s))), .v (.arr .u64 4 true (drawW st (bytesI s))), .v (.i .i64 ⟨false, drawE st (bytesI s)⟩)], [])
 | _ => none
def invQd (st D : List Int) (key : Nat) (ps : List Pv) (mm : Nat) : Prop := key = 4 ∧ ∃ (k : Nat) (o c b : List Int), k ≤ 64 ∧ b.length = 64 ∧ (∀ t, t < k → b[t]? = D[t]?) ∧ ps = [.z (k : Int), .l K80, .l K80, .l st, .l o, .l c, .l D, .l b] ∧ mm = 64 - k
theorem sha_64 (l : List Int) : (sha l).length = 64 := sha_len l
theorem eq_drawQ {l l' X Y : List Int} {z z' : Int} {b1 b2 : Bool} (h1 : l = l') (h2 : z = z') (h3 : X = Y) : eqRVs [.v (.arr .u8 64 false X), .v (.arr .u64 4 true l), .v (.i .i64 ⟨b1, z⟩)] [.v (.arr .u8 64 false Y), .v (.arr .u64 4 true l'), .v (.i .i64 ⟨b2, z'⟩)] ∧ eqFin [] [] := by
 subst h1 h2 h3
 exact ⟨⟨rfl, rfl, rfl, trivial⟩, trivial⟩
theorem draw_of (st lab : List Int) : ∃ D : List Int, nextL tagD st lab = D ∧ D.length = 64 ∧ drawL st lab = nextL tagN st D ∧ drawN st lab = Sc.bval D % Sc.ell := ⟨_, rfl, sha_64 _, rfl, rfl⟩
theorem words_0 {N x5 x6 x7 x8 : Int} (e5 : x5 = Sc.w0 N) (e6 : x6 = Sc.w1 N) (e7 : x7 = Sc.w2 N) (e8 : x8 = Sc.w3 N) : [x5, x6, x7, x8] = Sc.words4 N := by
 rw [e5, e6, e7, e8]; rfl
set_option maxHeartbeats 1000000 in
theorem qdG_ok : CallOk Tryd.prog gh5 50 (genCtr [.v, .v] qdG) := by
 refine call_gen (fn := Tryd.f50) Ψ6_ok rfl glow5 rfl (by kernel_rfl) (by kernel_rfl) _ qdG fun av p rvs fin hs hp hf => ?_
 unfold qdG at hs
 split at hs
 ·rename_i e1 st s
  simp only [Option.some.injEq, Prod.mk.injEq] at hs
  obtain ⟨rfl, rfl, rfl⟩ := hs
  have hd : (s.size : Int) + 1000 ≤ 70368744170000 := hp.1
  obtain ⟨⟨hst, hsr⟩, _⟩ := hf
  obtain ⟨D, hD, hDl, hdL, hdN⟩ := draw_of st (bytesI s)
  refine ⟨[.arr .u8 64 false st, .s s], [], LQd, invQd st D, ⟨rfl, rfl, trivial⟩, Nat.le_of_ble_eq_true (by kernel_rfl), low5 [] ?_, ?_, ?_⟩
  ·intro k t ht g hg
   simp only [LQd, List.mem_cons, List.not_mem_nil, or_false, Prod.mk.injEq] at ht hg
   obtain ⟨rfl, rfl⟩ := ht
   rcases hg with rfl | rfl | rfl | rfl | rfl | rfl <;> rfl
  ·rintro vk t ps mm ht ⟨rfl, k, o, c, b, hk, hb, hpre, rfl, rfl⟩
   simp only [LQd, List.mem_cons, List.not_mem_nil, or_false, Prod.mk.injEq, true_and] at ht
   subst ht
   show lcQd st o c D b (k : Int) _ _
   rw [lcQd_eq, tagN_eq, ← Sc.ell_lit]
   refine ⟨fun h => ?_, fun h => ?_⟩
   ·have h := of_decide_eq_true h
    refine ⟨need_of (by omega), need_of (by omega), fun x1 e1 _ => ⟨need_of (by omega), need_of (by omega), fun x2 e2 _ x3 e3 _ => ?_⟩⟩
    rw [wrap_i64 (by omega)] at e3
    rw [Int.toNat_natCast] at e1 e2
    obtain ⟨q1, q2⟩ := put_at hb hDl (by omega) hpre e1
    refine ⟨rfl, 64 - (k + 1), by omega, rfl, k + 1, o, c, x2, by omega, by rw [e2]; exact q1, by rw [e2]; exact q2, ?_, rfl⟩
    rw [e3]; rfl
   ·have h := of_decide_eq_false h
    have hbs : b = D := put_all hb hDl fun t ht => hpre t (by omega)
    rw [hbs]
    have ht : List.take 64 (List.drop 0 D) = D := by rw [List.drop_zero, List.take_of_length_le (by omega)]
    rw [ht, hDl]
    refine ⟨need_of (by omega), need_of (by rw [frL_len2, show tagN.length = 5 from rfl, roL_l, hDl, hst]; omega), ?_⟩
    intro x4 e4 _ _
    rw [roL_l, ← hdL] at e4
    intro x5 e5 _ x6 e6 _ x7 e7 _ x8 e8 _
    have hv := Sc.val_ell e5 e6 e7 e8
    rw [← hdN] at hv e5 e6 e7 e8
    have hw := words_0 e5 e6 e7 e8
    refine ⟨fun h => ?_, fun h => ?_⟩
    ·have h := eq_of_beq h
     rw [h] at hv
     have h0 : drawN st (bytesI s) = 0 := hv.symm
     exact eq_drawQ hw (by unfold drawE; rw [if_pos h0]) e4
    ·have h0 : ¬ drawN st (bytesI s) = 0 := fun h0 => by
      rw [hw, h0] at h
      exact Bool.noConfusion h
     exact eq_drawQ hw (by unfold drawE; rw [if_neg h0]) e4
  ·show vcQd st s _ _
   rw [vcQd_eq, tagD_eq]
   intro x1 e1 _ x2 e2 _ _
   have h3 : x1.length = s.size := by rw [e1, bytesI_len]
   rw [e2, Int.toNat_natCast, List.drop_zero, List.take_of_length_le (by omega)]
   refine ⟨need_of (by omega), need_of (by rw [frL_len2, show tagD.length = 4 from rfl, roL_l, h3]; omega), ?_⟩
   intro x3 e3 _ _
   rw [roL_l, e1, hD] at e3
   refine ⟨need_of (by omega), ?_⟩
   intro x4 e4 _
   refine ⟨rfl, _, rfl, 0, List.replicate 64 0, [0, 0, 0, 0], x4, by omega, by rw [e4, List.length_replicate], fun t ht => absurd ht (Nat.not_lt_zero t), ?_, rfl⟩
   rw [e3]; rfl
 ·cases hs
def Ψ7 : Tab := ⟨tys, (27, genCtr [.v, .v] qfG) :: (48, genCtr [.v, .v, .d (.l (.ints .u8))] qaG) :: (50, genCtr [.v, .v] qdG) :: Ψ6.ctr, [3, 0, 4, 2, 1], gh5⟩
theorem Ψ7_ok : TabOk Tryd.prog Ψ7 := ((Ψ6_ok.cons qdG_ok).cons qaG_ok).cons qfG_ok
end Go.Gx

/- A step of a transcript is played, and its document answers. -/
namespace Go.Gx
open Go.Proofs Go.Sp
set_option linter.unusedVariables false
set_option maxRecDepth 100000

def vcPl (st s2 : List Int) (b : Bool) (d : RO) (K : List RV → List (Option (List Seg)) → Prop) (Q : Nat → List Pv → Prop) : Prop := fnVcG 1 Ψ7 Tryd.f28 [] [.p 600 0, .arr .u8 64 false s2, svOf 490 shSay d] (gh5 ++ (490, .world) :: [(600, .segs false [.arr .u8 64 false st, .one (.b false b)])]) K Q
theorem vcPl_eq : ∀ (st s2 : List Int) (b : Bool) (d : RO) (K : List RV → List (Option (List Seg)) → Prop) (Q : Nat → List Pv → Prop), vcPl st s2 b d K Q = (((roZ (roN d 0) == (1 : Int)) = true → Need (∀ (i : Nat), i < (roX (roN d 3)).length → (((roL (roN (roN d 3) i)).length : Nat) : Int) + 8 ≤ (70368744177664 : Int)) ∧ Need (((((roX (roN d 3)).length + (1 : Nat)) : Nat) : Int) * 24 ≤ (70368744177664 : Int)) ∧ ∀ (x1 : List (List Int)), x1 = rowsT (roN d 3) (roX (roN d 3)).length ++ [marksL] → ForN (((List.length (fullT (roN d 3) (roX (roN d 3)).length)) : Nat) : Int) fun x2 => ForN (((List.length (headT (roN d 3) (roX (roN d 3)).length ++ [((roX (roN d 3)).length, (8 : Nat))])) : Nat) : Int) fun x3 => Need (x2 ≤ x3) ∧ Need (0 + x2 ≤ (((List.length (headT (roN d 3) (roX (roN d 3)).length ++ [((roX (roN d 3)).length, (8 : Nat))])) : Nat) : Int)) ∧ Need (∀ (h : Nat × Nat), h ∈ List.take x2.toNat (List.drop 0 (headT (roN d 3) (roX (roN d 3)).length ++ [((roX (roN d 3)).length, (8 : Nat))])) → h.snd ≤ (x1.getD h.fst []).length) ∧ Need (b = true) ∧ Need ((((frL (bytesI (roS (roN d 2))) (List.map roL (roX (RO.r (List.map (fun h => RO.l (List.take h.snd (x1.getD h.fst []))) (List.take x2.toNat (List.drop 0 (headT (roN d 3) (roX (roN d 3)).length ++ [((roX (roN d 3)).length, (8 : Nat))])))))))).length : Nat) : Int) + 1000 ≤ (70368744177664 : Int)) ∧ ForA .u8 64 (absL st (bytesI (roS (roN d 2))) (List.map roL (roX (RO.r (List.map (fun h => RO.l (List.take h.snd (x1.getD h.fst []))) (List.take x2.toNat (List.drop 0 (headT (roN d 3) (roX (roN d 3)).length ++ [((roX (roN d 3)).length, (8 : Nat))])))))))) fun x4 => Need (0 + x2 ≤ (((List.length (fullT (roN d 3) (roX (roN d 3)).length)) : Nat) : Int)) ∧ Need (∀ (h : Nat × Nat), h ∈ List.take x2.toNat (List.drop 0 (fullT (roN d 3) (roX (roN d 3)).length)) → h.snd ≤ (x1.getD h.fst []).length) ∧ Need (0 + x3 ≤ (((List.length (headT (roN d 3) (roX (roN d 3)).length ++ [((roX (roN d 3)).length, (8 : Nat))])) : Nat) : Int)) ∧ Need (∀ (h : Nat × Nat), h ∈ List.take x3.toNat (List.drop 0 (headT (roN d 3) (roX (roN d 3)).length ++ [((roX (roN d 3)).length, (8 : Nat))])) → h.snd ≤ (x1.getD h.fst []).length) ∧ Need ((roX (roN (RO.r [RO.r (List.map (fun h => RO.l (List.take h.snd (x1.getD h.fst []))) (List.take x2.toNat (List.drop 0 (fullT (roN d 3) (roX (roN d 3)).length)))), RO.r (List.map (fun h => RO.l (List.take h.snd (x1.getD h.fst []))) (List.take x3.toNat (List.drop 0 (headT (roN d 3) (roX (roN d 3)).length ++ [((roX (roN d 3)).length, (8 : Nat))]))))]) (1 : Nat))).length = (roX (roN d 3)).length + (1 : Nat) ∧ (roX (roN (RO.r [RO.r (List.map (fun h => RO.l (List.take h.snd (x1.getD h.fst []))) (List.take x2.toNat (List.drop 0 (fullT (roN d 3) (roX (roN d 3)).length)))), RO.r (List.map (fun h => RO.l (List.take h.snd (x1.getD h.fst []))) (List.take x3.toNat (List.drop 0 (headT (roN d 3) (roX (roN d 3)).length ++ [((roX (roN d 3)).length, (8 : Nat))]))))]) (0 : Nat))).length = (roX (roN d 3)).length ∧ roL (roN (roN (RO.r [RO.r (List.map (fun h => RO.l (List.take h.snd (x1.getD h.fst []))) (List.take x2.toNat (List.drop 0 (fullT (roN d 3) (roX (roN d 3)).length)))), RO.r (List.map (fun h => RO.l (List.take h.snd (x1.getD h.fst []))) (List.take x3.toNat (List.drop 0 (headT (roN d 3) (roX (roN d 3)).length ++ [((roX (roN d 3)).length, (8 : Nat))]))))]) (1 : Nat)) (roX (roN d 3)).length) = marksL) ∧ Need (∀ (i : Nat), i < (roX (roN d 3)).length → roL (roN (roN (RO.r [RO.r (List.map (fun h => RO.l (List.take h.snd (x1.getD h.fst []))) (List.take x2.toNat (List.drop 0 (fullT (roN d 3) (roX (roN d 3)).length)))), RO.r (List.map (fun h => RO.l (List.take h.snd (x1.getD h.fst []))) (List.take x3.toNat (List.drop 0 (headT (roN d 3) (roX (roN d 3)).length ++ [((roX (roN d 3)).length, (8 : Nat))]))))]) (0 : Nat)) i) = roL (roN (roN d 3) i) ++ marksL ∧ roL (roN (roN (RO.r [RO.r (List.map (fun h => RO.l (List.take h.snd (x1.getD h.fst []))) (List.take x2.toNat (List.drop 0 (fullT (roN d 3) (roX (roN d 3)).length)))), RO.r (List.map (fun h => RO.l (List.take h.snd (x1.getD h.fst []))) (List.take x3.toNat (List.drop 0 (headT (roN d 3) (roX (roN d 3)).length ++ [((roX (roN d 3)).length, (8 : Nat))]))))]) (1 : Nat)) i) = roL (roN (roN d 3) i) ∧ (((roL (roN (roN d 3) i)).length : Nat) : Int) + 8 < (9223372036854775808 : Int)) ∧ ∀ (x5 : Bool), x5 = true → Need (x2 ≤ x3) ∧ Need (0 ≤ x2 ∧ x2 ≤ (((List.length (headT (roN d 3) (roX (roN d 3)).length ++ [((roX (roN d 3)).length, (8 : Nat))])) : Nat) : Int) ∧ List.length (headT (roN d 3) (roX (roN d 3)).length ++ [((roX (roN d 3)).length, (8 : Nat))]) ≤ (70368744177664 : Nat) ∧ ∀ (i : Nat), ↑i < x2 → (List.getD (headT (roN d 3) (roX (roN d 3)).length ++ [((roX (roN d 3)).length, (8 : Nat))]) i ((0 : Nat), (0 : Nat))).snd ≤ (x1.getD (List.getD (headT (roN d 3) (roX (roN d 3)).length ++ [((roX (roN d 3)).length, (8 : Nat))]) i ((0 : Nat), (0 : Nat))).fst []).length ∧ (List.getD (headT (roN d 3) (roX (roN d 3)).length ++ [((roX (roN d 3)).length, (8 : Nat))]) i ((0 : Nat), (0 : Nat))).snd ≤ (70368744177664 : Nat)) ∧ Need ((((frL (bytesI (roS (roN d 2))) (List.map roL (roX (roN d 3)))).length : Nat) : Int) + 1000 ≤ (70368744170000 : Int)) ∧ ForA .u8 64 (absL s2 (bytesI (roS (roN d 2))) (List.map roL (roX (roN d 3)))) fun x6 => K [RV.v (SV.arr .u8 64 false x6), RV.v (SV.b false x5)] [some [Seg.arr .u8 64 false x4, Seg.one (SV.b false b)]]) ∧ ((roZ (roN d 0) == (1 : Int)) = false → ((roZ (roN d 0) == (2 : Int)) = true → Need (b = true) ∧ Need ((((roS (roN d 2)).size : Nat) : Int) + 1000 ≤ (70368744177664 : Int)) ∧ ForA .u8 64 (drawL st (bytesI (roS (roN d 2)))) fun x7 => ForI .u64 (Sc.w0 (drawN st (bytesI (roS (roN d 2))))) fun x8 => ForI .u64 (Sc.w1 (drawN st (bytesI (roS (roN d 2))))) fun x9 => ForI .u64 (Sc.w2 (drawN st (bytesI (roS (roN d 2))))) fun x10 => ForI .u64 (Sc.w3 (drawN st (bytesI (roS (roN d 2))))) fun x11 => ForI .i64 (drawE st (bytesI (roS (roN d 2)))) fun x12 => Need ((((roS (roN d 2)).size : Nat) : Int) + 1000 ≤ (70368744170000 : Int)) ∧ ForA .u8 64 (drawL s2 (bytesI (roS (roN d 2)))) fun x13 => ForI .u64 (Sc.w0 (drawN s2 (bytesI (roS (roN d 2))))) fun x14 => ForI .u64 (Sc.w1 (drawN s2 (bytesI (roS (roN d 2))))) fun x15 => ForI .u64 (Sc.w2 (drawN s2 (bytesI (roS (roN d 2))))) fun x16 => ForI .u64 (Sc.w3 (drawN s2 (bytesI (roS (roN d 2))))) fun x17 => ForI .i64 (drawE s2 (bytesI (roS (roN d 2)))) fun x18 => (([x8, x9, x10, x11] == [x14, x15, x16, x17]) = true → ForI .i64 x12 fun x19 => K [RV.v (SV.arr .u8 64 false x13), RV.v (SV.b false (x19 == x18))] [some [Seg.arr .u8 64 false x7, Seg.one (SV.b false b)]]) ∧ (([x8, x9, x10, x11] == [x14, x15, x16, x17]) = false → K [RV.v (SV.arr .u8 64 false x13), RV.v (SV.b true false)] [some [Seg.arr .u8 64 false x7, Seg.one (SV.b false b)]])) ∧ ((roZ (roN d 0) == (2 : Int)) = false → ((roZ (roN d 0) == (4 : Int)) = true → ForA .u8 64 st fun x20 => ForA .u8 64 (stateL b st) fun x21 => K [RV.v (SV.arr .u8 64 false s2), RV.v (SV.b false (x21 == s2))] [some [Seg.arr .u8 64 false x20, Seg.one (SV.b false b)]]) ∧ ((roZ (roN d 0) == (4 : Int)) = false → K [RV.v (SV.arr .u8 64 false s2), RV.v (SV.b true true)] [some [Seg.arr .u8 64 false st, Seg.one (SV.b false b)]])))) := by
 intros
 kernel_rfl

def playOk (d : RO) : Prop := ((frL (bytesI (roS (roN d 2))) ((roX (roN d 3)).map roL)).length : Int) + 1000 ≤ 70368744170000 ∧ (∀ i, i < (roX (roN d 3)).length → ((roL (roN (roN d 3) i)).length : Int) + 8 ≤ 70368744177664) ∧ (((roX (roN d 3)).length + 1 : Nat) : Int) * 24 ≤ 70368744177664
def playL (st : List Int) (d : RO) : List Int := saysL st (roZ (roN d 0)) (bytesI (roS (roN d 2))) ((roX (roN d 3)).map roL)
def playsG : List AV → Option (List Prop × List RV × List (Option (List Seg)))
 | [.m [.arr .u8 64 _ st, .one (.b _ b)], .v (.arr .u8 64 _ s2), .d (.r [.i .i64, .i .i64, .ts, .l (.ints .u8)]) d] => some ([b = true, s2 = st, playOk d],
   [.v (.arr .u8 64 false (playL st d)), .v (.b true true)],
   [some [.arr .u8 64 false (playL st d), .one (.b false b)]])
 | _ => none
theorem eq_play {X Y Z : List Int} {b1 b2 c1 c2 b b' : Bool} (h1 : X = Z) (h2 : b = b') (h3 : Y = Z) : eqRVs [.v (.arr .u8 64 false X), .v (.b c1 b)] [.v (.arr .u8 64 false Z), .v (.b c2 b')] ∧ eqFin [some [.arr .u8 64 false Y, .one (.b b1 b2)]] [some [.arr .u8 64 false Z, .one (.b b1 b2)]] := by
 subst h1 h2 h3
 exact ⟨⟨rfl, rfl, trivial⟩, ⟨⟨⟨rfl, rfl, rfl⟩, ⟨rfl, rfl⟩, trivial⟩, trivial⟩⟩
theorem play_1 {st : List Int} {d : RO} (h : roZ (roN d 0) = 1) : playL st d = absL st (bytesI (roS (roN d 2))) ((roX (roN d 3)).map roL) := by
 unfold playL saysL; rw [if_pos h]
theorem play_2 {st : List Int} {d : RO} (h1 : ¬ roZ (roN d 0) = 1) (h : roZ (roN d 0) = 2) : playL st d = drawL st (bytesI (roS (roN d 2))) := by
 unfold playL saysL; rw [if_neg h1, if_pos h]
theorem play_3 {st : List Int} {d : RO} (h1 : ¬ roZ (roN d 0) = 1) (h : ¬ roZ (roN d 0) = 2) : playL st d = st := by
 unfold playL saysL; rw [if_neg h1, if_neg h]
theorem stateL_t (st : List Int) : stateL true st = st := rfl
set_option maxHeartbeats 1000000 in
theorem plays_ok : CallOk Tryd.prog gh5 28 (recCtr tsT [.v, .d (.r [.i .i64, .i .i64, .ts, .l (.ints .u8)])] playsG) := by
 refine call_rec (fn := Tryd.f28) Ψ7_ok rfl glow5 rfl (by kernel_rfl) (by kernel_rfl) tsT _ playsG fun av p rvs fin hs hp hf => ?_
 unfold playsG at hs
 split at hs
 ·rename_i e1 st e2 b e3 s2 d
  simp only [Option.some.injEq, Prod.mk.injEq] at hs
  obtain ⟨rfl, rfl, rfl⟩ := hs
  have hb : b = true := hp.1
  have h12 : s2 = st := hp.2.1
  obtain ⟨hd, hp1, hp2⟩ : playOk d := hp.2.2.1
  have hle := frL_lab (bytesI (roS (roN d 2))) ((roX (roN d 3)).map roL)
  rw [bytesI_len] at hle
  subst h12
  refine ⟨[.p 600 0, .arr .u8 64 false s2, svOf 490 shSay d], [(600, .segs false [.arr .u8 64 false s2, .one (.b false b)])], [], _, ⟨rfl, rfl, ⟨_, rfl, ⟨⟨rfl, rfl, rfl⟩, ⟨rfl, rfl⟩, trivial⟩⟩, rfl, rfl, trivial⟩, Nat.le_of_ble_eq_true (by kernel_rfl), vcG_noloops ?_⟩
  show vcPl s2 s2 b d _ _
  rw [vcPl_eq]
  refine ⟨fun h => ?_, fun h => ⟨fun h2 => ?_, fun h2 => ⟨fun _ => ?_, fun _ => ?_⟩⟩⟩
  ·have h : roZ (roN d 0) = 1 := by simpa using h
   rw [play_1 h]
   generalize roN d 3 = q at *
   refine ⟨need_of hp1, need_of hp2, ?_⟩
   intro x1 e1 x2 e2 _ _ x3 e3 _ _
   rw [fullT_len] at e2
   rw [heads_length] at e3
   have e2' : x2.toNat = (roX q).length := by omega
   have e3' : x3.toNat = (roX q).length + 1 := by omega
   rw [e1, e2', e3', heads_take, full_all, heads_all, v_head, v_full, v_all]
   refine ⟨need_of (by omega), need_of (by rw [heads_length]; omega), need_of (b_head q), need_of hb, need_of ?_, ?_⟩
   ·show ((frL _ ((hx q).map roL)).length : Int) + 1000 ≤ _
    rw [hx_map]; omega
   intro x4 e4 _ _
   have e4' : x4 = absL s2 (bytesI (roS (roN d 2))) ((roX q).map roL) := by rw [← hx_map]; exact e4
   refine ⟨need_of (by rw [fullT_len]; omega), need_of (b_full q), need_of (by rw [heads_length]; omega), need_of (b_all q), need_of (l_1 q), need_of (l_2 q hp1), ?_⟩
   intro x5 e5
   refine ⟨need_of (by omega), need_of ⟨by omega, by rw [heads_length]; omega, by rw [heads_length]; omega, fun i hi => ?_⟩, need_of hd, ?_⟩
   ·have hi' : i < (roX q).length := by omega
    have h8 := hp1 i hi'
    show ((headT q (roX q).length ++ [((roX q).length, 8)]).getD i (0, 0)).2 ≤ ((rowsT q (roX q).length ++ [marksL]).getD ((headT q (roX q).length ++ [((roX q).length, 8)]).getD i (0, 0)).1 []).length ∧ ((headT q (roX q).length ++ [((roX q).length, 8)]).getD i (0, 0)).2 ≤ 70368744177664
    rw [heads_at q i hi']
    refine ⟨?_, by show (roL (roN q i)).length ≤ _; omega⟩
    show (roL (roN q i)).length ≤ ((rowsT q (roX q).length ++ [marksL]).getD i []).length
    rw [rows_at q i hi', List.length_append]; exact Nat.le_add_right _ _
   intro x6 e6 _ _
   exact eq_play e6 e5 e4'
  ·have h : ¬ roZ (roN d 0) = 1 := by simpa using h
   have h2 : roZ (roN d 0) = 2 := by simpa using h2
   rw [play_2 h h2]
   refine ⟨need_of hb, need_of (by omega), ?_⟩
   intro x7 e7 _ _ x8 e8 _ x9 e9 _ x10 e10 _ x11 e11 _ x12 e12 _
   refine ⟨need_of (by omega), ?_⟩
   intro x13 e13 _ _ x14 e14 _ x15 e15 _ x16 e16 _ x17 e17 _ x18 e18 _
   refine ⟨fun _ => ?_, fun hf => ?_⟩
   ·intro x19 e19 _
    exact eq_play e13 (by rw [e19, e12, e18]; exact beq_self_eq_true _) e7
   ·rw [e8, e9, e10, e11, e14, e15, e16, e17, beq_self_eq_true] at hf
    exact Bool.noConfusion hf
  ·have h : ¬ roZ (roN d 0) = 1 := by simpa using h
   have h2 : ¬ roZ (roN d 0) = 2 := by simpa using h2
   rw [play_3 h h2]
   intro x20 e20 _ _ x21 e21 _ _
   exact eq_play rfl (by rw [e21, hb, stateL_t]; exact beq_self_eq_true _) e20
  ·have h : ¬ roZ (roN d 0) = 1 := by simpa using h
   have h2 : ¬ roZ (roN d 0) = 2 := by simpa using h2
   rw [play_3 h h2]
   exact eq_play rfl rfl rfl
 ·cases hs
def Ψ8 : Tab := ⟨tys, (28, recCtr tsT [.v, .d (.r [.i .i64, .i .i64, .ts, .l (.ints .u8)])] playsG) :: (26, recCtr tsT [.v] forkG) :: (24, recCtr tsT [] stG) :: Ψ7.ctr, [3, 0, 4, 2, 1], gh5⟩
theorem Ψ8_ok : TabOk Tryd.prog Ψ8 := ((Ψ7_ok.cons (CallOk.mono sub45 stR_ok)).cons forkR_ok).cons plays_ok
end Go.Gx

/- The plays: one turn of each loop. -/
namespace Go.Gx
open Go.Proofs Go.Sp
set_option linter.unusedVariables false
set_option maxRecDepth 100000
namespace TranscriptPlays

def shL : Sh := .l (.r [.i .i64, .i .i64, .ts, .l (.ints .u8)])
def h5T : Heap := gh5 ++ [(490, .world), (1000, .segs false [.rowP 1001 0]), (1001, .pool (.r tsT) []), (1002, .segs false [.rowA .u8 64 []])]
def L5 : Loops := [(7, ⟨[.any, .ro 490 shL (.r []), .any, .any, .any, .any, .sl 1000 0 1 ⟨true, .ofNat 0⟩ ⟨false, 0⟩, .sl 1002 0 64 ⟨true, .ofNat 0⟩ ⟨false, 0⟩, .i .i64 ⟨false, 0⟩] ++ reps .any 110, h5T, 2000⟩), (31, ⟨[.any, .any, .any, .any, .any, .any, .sl 1000 0 1 ⟨true, .ofNat 0⟩ ⟨false, 0⟩, .sl 1002 0 64 ⟨true, .ofNat 0⟩ ⟨false, 0⟩, .any, .any, .any, .any, .any, .any, .i .i64 ⟨false, 0⟩] ++ reps .any 104, h5T, 2000⟩)]
def vc5 (s : ByteArray) (d : RO) (K : List RV → List (Option (List Seg)) → Prop) (Q : Nat → List Pv → Prop) : Prop := fnVcG 0 Ψ8 Tryd.f5 L5 [.s s, .ro 490 shL d] g5W K Q
def lc5a (d : RO) (n m i : Int) (k : Nat) (ms ds : List (List Int)) (K : List RV → List (Option (List Seg)) → Prop) (Q : Nat → List Pv → Prop) : Prop := loopVcG 0 Ψ8 Tryd.f5 L5 7 [.ro d, .z n, .z m, .z i, .l K80, .l K80, .n k, .ll ms, .ll ds] K Q
def lc5b (n m i : Int) (k : Nat) (ms ds : List (List Int)) (K : List RV → List (Option (List Seg)) → Prop) (Q : Nat → List Pv → Prop) : Prop := loopVcG 0 Ψ8 Tryd.f5 L5 31 [.z n, .z m, .z i, .l K80, .l K80, .n k, .ll ms, .ll ds] K Q
theorem vc5_eq : ∀ (s : ByteArray) (d : RO) (K : List RV → List (Option (List Seg)) → Prop) (Q : Nat → List Pv → Prop), vc5 s d K Q = (Need ((((frL tagT [bytesI s]).length : Nat) : Int) ≤ 70368744177664) ∧ ForA .u8 64 (seedL (bytesI s)) fun x1 => Need ((((frL tagT [bytesI s]).length : Nat) : Int) ≤ 70368744170000) ∧ ForA .u8 64 (seedL (bytesI s)) fun x2 => Same Tryd.f5 7 (itemsOf Tryd.f5 7) ∧ Q 7 [Pv.ro d, Pv.z 1, Pv.z 1, Pv.z 0, Pv.l K80, Pv.l K80, Pv.n (1 : Nat), Pv.ll [x1 ++ [(1 : Int)]], Pv.ll [x2]]) := by
 intros
 kernel_rfl

theorem lc5a_eq : ∀ (d : RO) (n m i : Int) (k : Nat) (ms ds : List (List Int)) (K : List RV → List (Option (List Seg)) → Prop) (Q : Nat → List Pv → Prop), lc5a d n m i k ms ds K Q = ((decide (i < (((roX d).length : Nat) : Int)) = true → Need (0 ≤ i ∧ i < (((roX d).length : Nat) : Int)) ∧ ForI .i64 (roZ (roN (roN d i.toNat) 0)) fun x1 => ForI .i64 (roZ (roN (roN d i.toNat) 1)) fun x2 => Need (n ≠ 0) ∧ ForI .i64 (x2.tmod n) fun x3 => (decide (x3 < 0) = true → ((x1 == 3) = true → Need ((0 : Int) ≤ 0 ∧ 0 < n) ∧ Need (0 < k) ∧ Need (0 < ms.length) ∧ Need (((List.drop 64 (ms.getD 0 [])).headD (0 : Int) != (0 : Int)) = true) ∧ Need ((((roS (roN (roN d i.toNat) 2)).size : Nat) : Int) + 1000 ≤ (70368744177664 : Int)) ∧ ∀ (x4 : List (List Int)), x4 = ms.set (0 : Nat) (List.take 64 (ms.getD 0 []) ++ [match (List.drop 64 (ms.getD 0 [])).headD (0 : Int) != (0 : Int) with | true => (1 : Int) | false => (0 : Int)]) → ForA .u8 64 (nextL tagF (List.take 64 (ms.getD 0 [])) (bytesI (roS (roN (roN d i.toNat) 2)))) fun x5 => Need (n = ((k : Nat) : Int)) ∧ Need (k = x4.length) ∧ Need ((((k + 1) : Nat) : Int) * 8 ≤ (70368744177664 : Int)) ∧ ∀ (x6 : List (List Int)), x6 = x4 ++ [x5 ++ [(1 : Int)]] → ForN (((k + 1) : Nat) : Int) fun x7 => Need ((0 : Int) ≤ 0 ∧ 0 < m) ∧ Need (0 < ds.length) ∧ Need ((((roS (roN (roN d i.toNat) 2)).size : Nat) : Int) + 1000 ≤ (70368744170000 : Int)) ∧ ForA .u8 64 (nextL tagF [(ds.getD 0 []).getD 0 0, (ds.getD 0 []).getD 1 0, (ds.getD 0 []).getD 2 0, (ds.getD 0 []).getD 3 0, (ds.getD 0 []).getD 4 0, (ds.getD 0 []).getD 5 0, (ds.getD 0 []).getD 6 0, (ds.getD 0 []).getD 7 0, (ds.getD 0 []).getD 8 0, (ds.getD 0 []).getD 9 0, (ds.getD 0 []).getD 10 0, (ds.getD 0 []).getD 11 0, (ds.getD 0 []).getD 12 0, (ds.getD 0 []).getD 13 0, (ds.getD 0 []).getD 14 0, (ds.getD 0 []).getD 15 0, (ds.getD 0 []).getD 16 0, (ds.getD 0 []).getD 17 0, (ds.getD 0 []).getD 18 0, (ds.getD 0 []).getD 19 0, (ds.getD 0 []).getD 20 0, (ds.getD 0 []).getD 21 0, (ds.getD 0 []).getD 22 0, (ds.getD 0 []).getD 23 0, (ds.getD 0 []).getD 24 0, (ds.getD 0 []).getD 25 0, (ds.getD 0 []).getD 26 0, (ds.getD 0 []).getD 27 0, (ds.getD 0 []).getD 28 0, (ds.getD 0 []).getD 29 0, (ds.getD 0 []).getD 30 0, (ds.getD 0 []).getD 31 0, (ds.getD 0 []).getD 32 0, (ds.getD 0 []).getD 33 0, (ds.getD 0 []).getD 34 0, (ds.getD 0 []).getD 35 0, (ds.getD 0 []).getD 36 0, (ds.getD 0 []).getD 37 0, (ds.getD 0 []).getD 38 0, (ds.getD 0 []).getD 39 0, (ds.getD 0 []).getD 40 0, (ds.getD 0 []).getD 41 0, (ds.getD 0 []).getD 42 0, (ds.getD 0 []).getD 43 0, (ds.getD 0 []).getD 44 0, (ds.getD 0 []).getD 45 0, (ds.getD 0 []).getD 46 0, (ds.getD 0 []).getD 47 0, (ds.getD 0 []).getD 48 0, (ds.getD 0 []).getD 49 0, (ds.getD 0 []).getD 50 0, (ds.getD 0 []).getD 51 0, (ds.getD 0 []).getD 52 0, (ds.getD 0 []).getD 53 0, (ds.getD 0 []).getD 54 0, (ds.getD 0 []).getD 55 0, (ds.getD 0 []).getD 56 0, (ds.getD 0 []).getD 57 0, (ds.getD 0 []).getD 58 0, (ds.getD 0 []).getD 59 0, (ds.getD 0 []).getD 60 0, (ds.getD 0 []).getD 61 0, (ds.getD 0 []).getD 62 0, (ds.getD 0 []).getD 63 0] (bytesI (roS (roN (roN d i.toNat) 2)))) fun x8 => Need ((((ds ++ List.take 1 (List.drop 0 [x8])).length : Nat) : Int) * 64 ≤ (70368744177664 : Int)) ∧ Need (m = ((ds.length : Nat) : Int)) ∧ Need ((1 : Int) ≤ (([x8].length : Nat) : Int)) ∧ ∀ (x9 : List (List Int)), x9 = ds ++ List.take 1 (List.drop 0 [x8]) → AllA .u8 (64 : Nat) x9 → ForN (((ds ++ List.take 1 (List.drop 0 [x8])).length : Nat) : Int) fun x10 => ForI .i64 (IntKind.i64.wrap (i + 1)) fun x11 => Same Tryd.f5 7 (itemsOf Tryd.f5 7) ∧ Q 7 [Pv.ro d, Pv.z x7, Pv.z x10, Pv.z x11, Pv.l K80, Pv.l K80, Pv.n (k + 1), Pv.ll x6, Pv.ll x9]) ∧ ((x1 == 3) = false → ((x1 == 5) = true → Need ((((frL tagT [bytesI (roS (roN (roN d i.toNat) 2))]).length : Nat) : Int) ≤ 70368744177664) ∧ ForA .u8 64 (seedL (bytesI (roS (roN (roN d i.toNat) 2)))) fun x12 => Need (n = ((k : Nat) : Int)) ∧ Need (k = ms.length) ∧ Need ((((k + 1) : Nat) : Int) * 8 ≤ (70368744177664 : Int)) ∧ ∀ (x13 : List (List Int)), x13 = ms ++ [x12 ++ [(1 : Int)]] → ForN (((k + 1) : Nat) : Int) fun x14 => Need ((((frL tagT [bytesI (roS (roN (roN d i.toNat) 2))]).length : Nat) : Int) ≤ 70368744170000) ∧ ForA .u8 64 (seedL (bytesI (roS (roN (roN d i.toNat) 2)))) fun x15 => Need ((((ds ++ List.take 1 (List.drop 0 [x15])).length : Nat) : Int) * 64 ≤ (70368744177664 : Int)) ∧ Need (m = ((ds.length : Nat) : Int)) ∧ Need ((1 : Int) ≤ (([x15].length : Nat) : Int)) ∧ ∀ (x16 : List (List Int)), x16 = ds ++ List.take 1 (List.drop 0 [x15]) → AllA .u8 (64 : Nat) x16 → ForN (((ds ++ List.take 1 (List.drop 0 [x15])).length : Nat) : Int) fun x17 => ForI .i64 (IntKind.i64.wrap (i + 1)) fun x18 => Same Tryd.f5 7 (itemsOf Tryd.f5 7) ∧ Q 7 [Pv.ro d, Pv.z x14, Pv.z x17, Pv.z x18, Pv.l K80, Pv.l K80, Pv.n (k + 1), Pv.ll x13, Pv.ll x16]) ∧ ((x1 == 5) = false → Need ((0 : Int) ≤ 0 ∧ 0 < n) ∧ Need (0 < k) ∧ Need ((0 : Int) ≤ 0 ∧ 0 < m) ∧ Need (0 < ds.length) ∧ Need (0 < ms.length) ∧ Need (((List.drop 64 (ms.getD 0 [])).headD (0 : Int) != (0 : Int)) = true) ∧ Need ([(ds.getD 0 []).getD 0 0, (ds.getD 0 []).getD 1 0, (ds.getD 0 []).getD 2 0, (ds.getD 0 []).getD 3 0, (ds.getD 0 []).getD 4 0, (ds.getD 0 []).getD 5 0, (ds.getD 0 []).getD 6 0, (ds.getD 0 []).getD 7 0, (ds.getD 0 []).getD 8 0, (ds.getD 0 []).getD 9 0, (ds.getD 0 []).getD 10 0, (ds.getD 0 []).getD 11 0, (ds.getD 0 []).getD 12 0, (ds.getD 0 []).getD 13 0, (ds.getD 0 []).getD 14 0, (ds.getD 0 []).getD 15 0, (ds.getD 0 []).getD 16 0, (ds.getD 0 []).getD 17 0, (ds.getD 0 []).getD 18 0, (ds.getD 0 []).getD 19 0, (ds.getD 0 []).getD 20 0, (ds.getD 0 []).getD 21 0, (ds.getD 0 []).getD 22 0, (ds.getD 0 []).getD 23 0, (ds.getD 0 []).getD 24 0, (ds.getD 0 []).getD 25 0, (ds.getD 0 []).getD 26 0, (ds.getD 0 []).getD 27 0, (ds.getD 0 []).getD 28 0, (ds.getD 0 []).getD 29 0, (ds.getD 0 []).getD 30 0, (ds.getD 0 []).getD 31 0, (ds.getD 0 []).getD 32 0, (ds.getD 0 []).getD 33 0, (ds.getD 0 []).getD 34 0, (ds.getD 0 []).getD 35 0, (ds.getD 0 []).getD 36 0, (ds.getD 0 []).getD 37 0, (ds.getD 0 []).getD 38 0, (ds.getD 0 []).getD 39 0, (ds.getD 0 []).getD 40 0, (ds.getD 0 []).getD 41 0, (ds.getD 0 []).getD 42 0, (ds.getD 0 []).getD 43 0, (ds.getD 0 []).getD 44 0, (ds.getD 0 []).getD 45 0, (ds.getD 0 []).getD 46 0, (ds.getD 0 []).getD 47 0, (ds.getD 0 []).getD 48 0, (ds.getD 0 []).getD 49 0, (ds.getD 0 []).getD 50 0, (ds.getD 0 []).getD 51 0, (ds.getD 0 []).getD 52 0, (ds.getD 0 []).getD 53 0, (ds.getD 0 []).getD 54 0, (ds.getD 0 []).getD 55 0, (ds.getD 0 []).getD 56 0, (ds.getD 0 []).getD 57 0, (ds.getD 0 []).getD 58 0, (ds.getD 0 []).getD 59 0, (ds.getD 0 []).getD 60 0, (ds.getD 0 []).getD 61 0, (ds.getD 0 []).getD 62 0, (ds.getD 0 []).getD 63 0] = List.take 64 (ms.getD 0 [])) ∧ Need ((((frL (bytesI (roS (roN (RO.r [RO.i x1, RO.i x2, RO.s (roS (roN (roN d i.toNat) 2)), roN (roN d i.toNat) 3]) (2 : Nat)))) (List.map roL (roX (roN (RO.r [RO.i x1, RO.i x2, RO.s (roS (roN (roN d i.toNat) 2)), roN (roN d i.toNat) 3]) (3 : Nat))))).length : Nat) : Int) + 1000 ≤ (70368744170000 : Int) ∧ (∀ (i_1 : Nat), i_1 < (roX (roN (RO.r [RO.i x1, RO.i x2, RO.s (roS (roN (roN d i.toNat) 2)), roN (roN d i.toNat) 3]) (3 : Nat))).length → (((roL (roN (roN (RO.r [RO.i x1, RO.i x2, RO.s (roS (roN (roN d i.toNat) 2)), roN (roN d i.toNat) 3]) (3 : Nat)) i_1)).length : Nat) : Int) + 8 ≤ (70368744177664 : Int)) ∧ ((((roX (roN (RO.r [RO.i x1, RO.i x2, RO.s (roS (roN (roN d i.toNat) 2)), roN (roN d i.toNat) 3]) (3 : Nat))).length + (1 : Nat)) : Nat) : Int) * 24 ≤ (70368744177664 : Int)) ∧ ∀ (x19 : List (List Int)), x19 = ms.set (0 : Nat) (saysL (List.take 64 (ms.getD 0 [])) (roZ (roN (RO.r [RO.i x1, RO.i x2, RO.s (roS (roN (roN d i.toNat) 2)), roN (roN d i.toNat) 3]) (0 : Nat))) (bytesI (roS (roN (RO.r [RO.i x1, RO.i x2, RO.s (roS (roN (roN d i.toNat) 2)), roN (roN d i.toNat) 3]) (2 : Nat)))) (List.map roL (roX (roN (RO.r [RO.i x1, RO.i x2, RO.s (roS (roN (roN d i.toNat) 2)), roN (roN d i.toNat) 3]) (3 : Nat)))) ++ [match (List.drop 64 (ms.getD 0 [])).headD (0 : Int) != (0 : Int) with | true => (1 : Int) | false => (0 : Int)]) → ForA .u8 64 (saysL (List.take 64 (ms.getD 0 [])) (roZ (roN (RO.r [RO.i x1, RO.i x2, RO.s (roS (roN (roN d i.toNat) 2)), roN (roN d i.toNat) 3]) (0 : Nat))) (bytesI (roS (roN (RO.r [RO.i x1, RO.i x2, RO.s (roS (roN (roN d i.toNat) 2)), roN (roN d i.toNat) 3]) (2 : Nat)))) (List.map roL (roX (roN (RO.r [RO.i x1, RO.i x2, RO.s (roS (roN (roN d i.toNat) 2)), roN (roN d i.toNat) 3]) (3 : Nat))))) fun x20 => Need ((0 : Int) ≤ 0 ∧ 0 < m) ∧ Need (0 < ds.length) ∧ ForI .i64 (IntKind.i64.wrap (i + 1)) fun x21 => Same Tryd.f5 7 (itemsOf Tryd.f5 7) ∧ Q 7 [Pv.ro d, Pv.z n, Pv.z m, Pv.z x21, Pv.l K80, Pv.l K80, Pv.n k, Pv.ll x19, Pv.ll (ds.set (0 : Nat) x20)]))) ∧ (decide (x3 < 0) = false → ((x1 == 3) = true → Need (0 ≤ x3 ∧ x3 < n) ∧ Need (0 ≤ x3 ∧ x3 < ((k : Nat) : Int)) ∧ Need (x3.toNat < ms.length) ∧ Need (((List.drop 64 (ms.getD x3.toNat [])).headD (0 : Int) != (0 : Int)) = true) ∧ Need ((((roS (roN (roN d i.toNat) 2)).size : Nat) : Int) + 1000 ≤ (70368744177664 : Int)) ∧ ∀ (x22 : List (List Int)), x22 = ms.set x3.toNat (List.take 64 (ms.getD x3.toNat []) ++ [match (List.drop 64 (ms.getD x3.toNat [])).headD (0 : Int) != (0 : Int) with | true => (1 : Int) | false => (0 : Int)]) → ForA .u8 64 (nextL tagF (List.take 64 (ms.getD x3.toNat [])) (bytesI (roS (roN (roN d i.toNat) 2)))) fun x23 => Need (n = ((k : Nat) : Int)) ∧ Need (k = x22.length) ∧ Need ((((k + 1) : Nat) : Int) * 8 ≤ (70368744177664 : Int)) ∧ ∀ (x24 : List (List Int)), x24 = x22 ++ [x23 ++ [(1 : Int)]] → ForN (((k + 1) : Nat) : Int) fun x25 => Need (0 ≤ x3 ∧ x3 < m) ∧ Need (0 ≤ x3 ∧ x3 < ((ds.length : Nat) : Int)) ∧ ForI .u8 ((ds.getD x3.toNat []).getD 0 0) fun x26 => ForI .u8 ((ds.getD x3.toNat []).getD 1 0) fun x27 => ForI .u8 ((ds.getD x3.toNat []).getD 2 0) fun x28 => ForI .u8 ((ds.getD x3.toNat []).getD 3 0) fun x29 => ForI .u8 ((ds.getD x3.toNat []).getD 4 0) fun x30 => ForI .u8 ((ds.getD x3.toNat []).getD 5 0) fun x31 => ForI .u8 ((ds.getD x3.toNat []).getD 6 0) fun x32 => ForI .u8 ((ds.getD x3.toNat []).getD 7 0) fun x33 => ForI .u8 ((ds.getD x3.toNat []).getD 8 0) fun x34 => ForI .u8 ((ds.getD x3.toNat []).getD 9 0) fun x35 => ForI .u8 ((ds.getD x3.toNat []).getD 10 0) fun x36 => ForI .u8 ((ds.getD x3.toNat []).getD 11 0) fun x37 => ForI .u8 ((ds.getD x3.toNat []).getD 12 0) fun x38 => ForI .u8 ((ds.getD x3.toNat []).getD 13 0) fun x39 => ForI .u8 ((ds.getD x3.toNat []).getD 14 0) fun x40 => ForI .u8 ((ds.getD x3.toNat []).getD 15 0) fun x41 => ForI .u8 ((ds.getD x3.toNat []).getD 16 0) fun x42 => ForI .u8 ((ds.getD x3.toNat []).getD 17 0) fun x43 => ForI .u8 ((ds.getD x3.toNat []).getD 18 0) fun x44 => ForI .u8 ((ds.getD x3.toNat []).getD 19 0) fun x45 => ForI .u8 ((ds.getD x3.toNat []).getD 20 0) fun x46 => ForI .u8 ((ds.getD x3.toNat []).getD 21 0) fun x47 => ForI .u8 ((ds.getD x3.toNat []).getD 22 0) fun x48 => ForI .u8 ((ds.getD x3.toNat []).getD 23 0) fun x49 => ForI .u8 ((ds.getD x3.toNat []).getD 24 0) fun x50 => ForI .u8 ((ds.getD x3.toNat []).getD 25 0) fun x51 => ForI .u8 ((ds.getD x3.toNat []).getD 26 0) fun x52 => ForI .u8 ((ds.getD x3.toNat []).getD 27 0) fun x53 => ForI .u8 ((ds.getD x3.toNat []).getD 28 0) fun x54 => ForI .u8 ((ds.getD x3.toNat []).getD 29 0) fun x55 => ForI .u8 ((ds.getD x3.toNat []).getD 30 0) fun x56 => ForI .u8 ((ds.getD x3.toNat []).getD 31 0) fun x57 => ForI .u8 ((ds.getD x3.toNat []).getD 32 0) fun x58 => ForI .u8 ((ds.getD x3.toNat []).getD 33 0) fun x59 => ForI .u8 ((ds.getD x3.toNat []).getD 34 0) fun x60 => ForI .u8 ((ds.getD x3.toNat []).getD 35 0) fun x61 => ForI .u8 ((ds.getD x3.toNat []).getD 36 0) fun x62 => ForI .u8 ((ds.getD x3.toNat []).getD 37 0) fun x63 => ForI .u8 ((ds.getD x3.toNat []).getD 38 0) fun x64 => ForI .u8 ((ds.getD x3.toNat []).getD 39 0) fun x65 => ForI .u8 ((ds.getD x3.toNat []).getD 40 0) fun x66 => ForI .u8 ((ds.getD x3.toNat []).getD 41 0) fun x67 => ForI .u8 ((ds.getD x3.toNat []).getD 42 0) fun x68 => ForI .u8 ((ds.getD x3.toNat []).getD 43 0) fun x69 => ForI .u8 ((ds.getD x3.toNat []).getD 44 0) fun x70 => ForI .u8 ((ds.getD x3.toNat []).getD 45 0) fun x71 => ForI .u8 ((ds.getD x3.toNat []).getD 46 0) fun x72 => ForI .u8 ((ds.getD x3.toNat []).getD 47 0) fun x73 => ForI .u8 ((ds.getD x3.toNat []).getD 48 0) fun x74 => ForI .u8 ((ds.getD x3.toNat []).getD 49 0) fun x75 => ForI .u8 ((ds.getD x3.toNat []).getD 50 0) fun x76 => ForI .u8 ((ds.getD x3.toNat []).getD 51 0) fun x77 => ForI .u8 ((ds.getD x3.toNat []).getD 52 0) fun x78 => ForI .u8 ((ds.getD x3.toNat []).getD 53 0) fun x79 => ForI .u8 ((ds.getD x3.toNat []).getD 54 0) fun x80 => ForI .u8 ((ds.getD x3.toNat []).getD 55 0) fun x81 => ForI .u8 ((ds.getD x3.toNat []).getD 56 0) fun x82 => ForI .u8 ((ds.getD x3.toNat []).getD 57 0) fun x83 => ForI .u8 ((ds.getD x3.toNat []).getD 58 0) fun x84 => ForI .u8 ((ds.getD x3.toNat []).getD 59 0) fun x85 => ForI .u8 ((ds.getD x3.toNat []).getD 60 0) fun x86 => ForI .u8 ((ds.getD x3.toNat []).getD 61 0) fun x87 => ForI .u8 ((ds.getD x3.toNat []).getD 62 0) fun x88 => ForI .u8 ((ds.getD x3.toNat []).getD 63 0) fun x89 => Need ((((roS (roN (roN d i.toNat) 2)).size : Nat) : Int) + 1000 ≤ (70368744170000 : Int)) ∧ ForA .u8 64 (nextL tagF [x26, x27, x28, x29, x30, x31, x32, x33, x34, x35, x36, x37, x38, x39, x40, x41, x42, x43, x44, x45, x46, x47, x48, x49, x50, x51, x52, x53, x54, x55, x56, x57, x58, x59, x60, x61, x62, x63, x64, x65, x66, x67, x68, x69, x70, x71, x72, x73, x74, x75, x76, x77, x78, x79, x80, x81, x82, x83, x84, x85, x86, x87, x88, x89] (bytesI (roS (roN (roN d i.toNat) 2)))) fun x90 => Need ((((ds ++ List.take 1 (List.drop 0 [x90])).length : Nat) : Int) * 64 ≤ (70368744177664 : Int)) ∧ Need (m = ((ds.length : Nat) : Int)) ∧ Need ((1 : Int) ≤ (([x90].length : Nat) : Int)) ∧ ∀ (x91 : List (List Int)), x91 = ds ++ List.take 1 (List.drop 0 [x90]) → AllA .u8 (64 : Nat) x91 → ForN (((ds ++ List.take 1 (List.drop 0 [x90])).length : Nat) : Int) fun x92 => ForI .i64 (IntKind.i64.wrap (i + 1)) fun x93 => Same Tryd.f5 7 (itemsOf Tryd.f5 7) ∧ Q 7 [Pv.ro d, Pv.z x25, Pv.z x92, Pv.z x93, Pv.l K80, Pv.l K80, Pv.n (k + 1), Pv.ll x24, Pv.ll x91]) ∧ ((x1 == 3) = false → ((x1 == 5) = true → Need ((((frL tagT [bytesI (roS (roN (roN d i.toNat) 2))]).length : Nat) : Int) ≤ 70368744177664) ∧ ForA .u8 64 (seedL (bytesI (roS (roN (roN d i.toNat) 2)))) fun x94 => Need (n = ((k : Nat) : Int)) ∧ Need (k = ms.length) ∧ Need ((((k + 1) : Nat) : Int) * 8 ≤ (70368744177664 : Int)) ∧ ∀ (x95 : List (List Int)), x95 = ms ++ [x94 ++ [(1 : Int)]] → ForN (((k + 1) : Nat) : Int) fun x96 => Need ((((frL tagT [bytesI (roS (roN (roN d i.toNat) 2))]).length : Nat) : Int) ≤ 70368744170000) ∧ ForA .u8 64 (seedL (bytesI (roS (roN (roN d i.toNat) 2)))) fun x97 => Need ((((ds ++ List.take 1 (List.drop 0 [x97])).length : Nat) : Int) * 64 ≤ (70368744177664 : Int)) ∧ Need (m = ((ds.length : Nat) : Int)) ∧ Need ((1 : Int) ≤ (([x97].length : Nat) : Int)) ∧ ∀ (x98 : List (List Int)), x98 = ds ++ List.take 1 (List.drop 0 [x97]) → AllA .u8 (64 : Nat) x98 → ForN (((ds ++ List.take 1 (List.drop 0 [x97])).length : Nat) : Int) fun x99 => ForI .i64 (IntKind.i64.wrap (i + 1)) fun x100 => Same Tryd.f5 7 (itemsOf Tryd.f5 7) ∧ Q 7 [Pv.ro d, Pv.z x96, Pv.z x99, Pv.z x100, Pv.l K80, Pv.l K80, Pv.n (k + 1), Pv.ll x95, Pv.ll x98]) ∧ ((x1 == 5) = false → Need (0 ≤ x3 ∧ x3 < n) ∧ Need (0 ≤ x3 ∧ x3 < ((k : Nat) : Int)) ∧ Need (0 ≤ x3 ∧ x3 < m) ∧ Need (0 ≤ x3 ∧ x3 < ((ds.length : Nat) : Int)) ∧ ForI .u8 ((ds.getD x3.toNat []).getD 0 0) fun x101 => ForI .u8 ((ds.getD x3.toNat []).getD 1 0) fun x102 => ForI .u8 ((ds.getD x3.toNat []).getD 2 0) fun x103 => ForI .u8 ((ds.getD x3.toNat []).getD 3 0) fun x104 => ForI .u8 ((ds.getD x3.toNat []).getD 4 0) fun x105 => ForI .u8 ((ds.getD x3.toNat []).getD 5 0) fun x106 => ForI .u8 ((ds.getD x3.toNat []).getD 6 0) fun x107 => ForI .u8 ((ds.getD x3.toNat []).getD 7 0) fun x108 => ForI .u8 ((ds.getD x3.toNat []).getD 8 0) fun x109 => ForI .u8 ((ds.getD x3.toNat []).getD 9 0) fun x110 => ForI .u8 ((ds.getD x3.toNat []).getD 10 0) fun x111 => ForI .u8 ((ds.getD x3.toNat []).getD 11 0) fun x112 => ForI .u8 ((ds.getD x3.toNat []).getD 12 0) fun x113 => ForI .u8 ((ds.getD x3.toNat []).getD 13 0) fun x114 => ForI .u8 ((ds.getD x3.toNat []).getD 14 0) fun x115 => ForI .u8 ((ds.getD x3.toNat []).getD 15 0) fun x116 => ForI .u8 ((ds.getD x3.toNat []).getD 16 0) fun x117 => ForI .u8 ((ds.getD x3.toNat []).getD 17 0) fun x118 => ForI .u8 ((ds.getD x3.toNat []).getD 18 0) fun x119 => ForI .u8 ((ds.getD x3.toNat []).getD 19 0) fun x120 => ForI .u8 ((ds.getD x3.toNat []).getD 20 0) fun x121 => ForI .u8 ((ds.getD x3.toNat []).getD 21 0) fun x122 => ForI .u8 ((ds.getD x3.toNat []).getD 22 0) fun x123 => ForI .u8 ((ds.getD x3.toNat []).getD 23 0) fun x124 => ForI .u8 ((ds.getD x3.toNat []).getD 24 0) fun x125 => ForI .u8 ((ds.getD x3.toNat []).getD 25 0) fun x126 => ForI .u8 ((ds.getD x3.toNat []).getD 26 0) fun x127 => ForI .u8 ((ds.getD x3.toNat []).getD 27 0) fun x128 => ForI .u8 ((ds.getD x3.toNat []).getD 28 0) fun x129 => ForI .u8 ((ds.getD x3.toNat []).getD 29 0) fun x130 => ForI .u8 ((ds.getD x3.toNat []).getD 30 0) fun x131 => ForI .u8 ((ds.getD x3.toNat []).getD 31 0) fun x132 => ForI .u8 ((ds.getD x3.toNat []).getD 32 0) fun x133 => ForI .u8 ((ds.getD x3.toNat []).getD 33 0) fun x134 => ForI .u8 ((ds.getD x3.toNat []).getD 34 0) fun x135 => ForI .u8 ((ds.getD x3.toNat []).getD 35 0) fun x136 => ForI .u8 ((ds.getD x3.toNat []).getD 36 0) fun x137 => ForI .u8 ((ds.getD x3.toNat []).getD 37 0) fun x138 => ForI .u8 ((ds.getD x3.toNat []).getD 38 0) fun x139 => ForI .u8 ((ds.getD x3.toNat []).getD 39 0) fun x140 => ForI .u8 ((ds.getD x3.toNat []).getD 40 0) fun x141 => ForI .u8 ((ds.getD x3.toNat []).getD 41 0) fun x142 => ForI .u8 ((ds.getD x3.toNat []).getD 42 0) fun x143 => ForI .u8 ((ds.getD x3.toNat []).getD 43 0) fun x144 => ForI .u8 ((ds.getD x3.toNat []).getD 44 0) fun x145 => ForI .u8 ((ds.getD x3.toNat []).getD 45 0) fun x146 => ForI .u8 ((ds.getD x3.toNat []).getD 46 0) fun x147 => ForI .u8 ((ds.getD x3.toNat []).getD 47 0) fun x148 => ForI .u8 ((ds.getD x3.toNat []).getD 48 0) fun x149 => ForI .u8 ((ds.getD x3.toNat []).getD 49 0) fun x150 => ForI .u8 ((ds.getD x3.toNat []).getD 50 0) fun x151 => ForI .u8 ((ds.getD x3.toNat []).getD 51 0) fun x152 => ForI .u8 ((ds.getD x3.toNat []).getD 52 0) fun x153 => ForI .u8 ((ds.getD x3.toNat []).getD 53 0) fun x154 => ForI .u8 ((ds.getD x3.toNat []).getD 54 0) fun x155 => ForI .u8 ((ds.getD x3.toNat []).getD 55 0) fun x156 => ForI .u8 ((ds.getD x3.toNat []).getD 56 0) fun x157 => ForI .u8 ((ds.getD x3.toNat []).getD 57 0) fun x158 => ForI .u8 ((ds.getD x3.toNat []).getD 58 0) fun x159 => ForI .u8 ((ds.getD x3.toNat []).getD 59 0) fun x160 => ForI .u8 ((ds.getD x3.toNat []).getD 60 0) fun x161 => ForI .u8 ((ds.getD x3.toNat []).getD 61 0) fun x162 => ForI .u8 ((ds.getD x3.toNat []).getD 62 0) fun x163 => ForI .u8 ((ds.getD x3.toNat []).getD 63 0) fun x164 => Need (x3.toNat < ms.length) ∧ Need (((List.drop 64 (ms.getD x3.toNat [])).headD (0 : Int) != (0 : Int)) = true) ∧ Need ([x101, x102, x103, x104, x105, x106, x107, x108, x109, x110, x111, x112, x113, x114, x115, x116, x117, x118, x119, x120, x121, x122, x123, x124, x125, x126, x127, x128, x129, x130, x131, x132, x133, x134, x135, x136, x137, x138, x139, x140, x141, x142, x143, x144, x145, x146, x147, x148, x149, x150, x151, x152, x153, x154, x155, x156, x157, x158, x159, x160, x161, x162, x163, x164] = List.take 64 (ms.getD x3.toNat [])) ∧ Need ((((frL (bytesI (roS (roN (RO.r [RO.i x1, RO.i x2, RO.s (roS (roN (roN d i.toNat) 2)), roN (roN d i.toNat) 3]) (2 : Nat)))) (List.map roL (roX (roN (RO.r [RO.i x1, RO.i x2, RO.s (roS (roN (roN d i.toNat) 2)), roN (roN d i.toNat) 3]) (3 : Nat))))).length : Nat) : Int) + 1000 ≤ (70368744170000 : Int) ∧ (∀ (i_1 : Nat), i_1 < (roX (roN (RO.r [RO.i x1, RO.i x2, RO.s (roS (roN (roN d i.toNat) 2)), roN (roN d i.toNat) 3]) (3 : Nat))).length → (((roL (roN (roN (RO.r [RO.i x1, RO.i x2, RO.s (roS (roN (roN d i.toNat) 2)), roN (roN d i.toNat) 3]) (3 : Nat)) i_1)).length : Nat) : Int) + 8 ≤ (70368744177664 : Int)) ∧ ((((roX (roN (RO.r [RO.i x1, RO.i x2, RO.s (roS (roN (roN d i.toNat) 2)), roN (roN d i.toNat) 3]) (3 : Nat))).length + (1 : Nat)) : Nat) : Int) * 24 ≤ (70368744177664 : Int)) ∧ ∀ (x165 : List (List Int)), x165 = ms.set x3.toNat (saysL (List.take 64 (ms.getD x3.toNat [])) (roZ (roN (RO.r [RO.i x1, RO.i x2, RO.s (roS (roN (roN d i.toNat) 2)), roN (roN d i.toNat) 3]) (0 : Nat))) (bytesI (roS (roN (RO.r [RO.i x1, RO.i x2, RO.s (roS (roN (roN d i.toNat) 2)), roN (roN d i.toNat) 3]) (2 : Nat)))) (List.map roL (roX (roN (RO.r [RO.i x1, RO.i x2, RO.s (roS (roN (roN d i.toNat) 2)), roN (roN d i.toNat) 3]) (3 : Nat)))) ++ [match (List.drop 64 (ms.getD x3.toNat [])).headD (0 : Int) != (0 : Int) with | true => (1 : Int) | false => (0 : Int)]) → ForA .u8 64 (saysL (List.take 64 (ms.getD x3.toNat [])) (roZ (roN (RO.r [RO.i x1, RO.i x2, RO.s (roS (roN (roN d i.toNat) 2)), roN (roN d i.toNat) 3]) (0 : Nat))) (bytesI (roS (roN (RO.r [RO.i x1, RO.i x2, RO.s (roS (roN (roN d i.toNat) 2)), roN (roN d i.toNat) 3]) (2 : Nat)))) (List.map roL (roX (roN (RO.r [RO.i x1, RO.i x2, RO.s (roS (roN (roN d i.toNat) 2)), roN (roN d i.toNat) 3]) (3 : Nat))))) fun x166 => Need (0 ≤ x3 ∧ x3 < m) ∧ Need (0 ≤ x3 ∧ x3 < ((ds.length : Nat) : Int)) ∧ ∀ (x167 : List (List Int)), x167 = ds.set x3.toNat x166 → AllA .u8 (64 : Nat) x167 → ForI .i64 (IntKind.i64.wrap (i + 1)) fun x168 => Same Tryd.f5 7 (itemsOf Tryd.f5 7) ∧ Q 7 [Pv.ro d, Pv.z n, Pv.z m, Pv.z x168, Pv.l K80, Pv.l K80, Pv.n k, Pv.ll x165, Pv.ll x167])))) ∧ (decide (i < (((roX d).length : Nat) : Int)) = false → Same Tryd.f5 31 (itemsOf Tryd.f5 31) ∧ Q 31 [Pv.z n, Pv.z m, Pv.z 0, Pv.l K80, Pv.l K80, Pv.n k, Pv.ll ms, Pv.ll ds])) := by
 intros
 kernel_rfl

theorem lc5b_eq : ∀ (n m i : Int) (k : Nat) (ms ds : List (List Int)) (K : List RV → List (Option (List Seg)) → Prop) (Q : Nat → List Pv → Prop), lc5b n m i k ms ds K Q = ((decide (i < n) = true → Need (0 ≤ i ∧ i < n) ∧ Need (0 ≤ i ∧ i < ((k : Nat) : Int)) ∧ Need (i.toNat < ms.length) ∧ ∀ (x1 : List (List Int)), x1 = ms.set i.toNat (List.take 64 (ms.getD i.toNat []) ++ [match (List.drop 64 (ms.getD i.toNat [])).headD (0 : Int) != (0 : Int) with | true => (1 : Int) | false => (0 : Int)]) → ForA .u8 64 (stateL ((List.drop 64 (ms.getD i.toNat [])).headD (0 : Int) != (0 : Int)) (List.take 64 (ms.getD i.toNat []))) fun x2 => Need (0 ≤ i ∧ i < m) ∧ Need (0 ≤ i ∧ i < ((ds.length : Nat) : Int)) ∧ ForI .u8 ((ds.getD i.toNat []).getD 0 0) fun x3 => ForI .u8 ((ds.getD i.toNat []).getD 1 0) fun x4 => ForI .u8 ((ds.getD i.toNat []).getD 2 0) fun x5 => ForI .u8 ((ds.getD i.toNat []).getD 3 0) fun x6 => ForI .u8 ((ds.getD i.toNat []).getD 4 0) fun x7 => ForI .u8 ((ds.getD i.toNat []).getD 5 0) fun x8 => ForI .u8 ((ds.getD i.toNat []).getD 6 0) fun x9 => ForI .u8 ((ds.getD i.toNat []).getD 7 0) fun x10 => ForI .u8 ((ds.getD i.toNat []).getD 8 0) fun x11 => ForI .u8 ((ds.getD i.toNat []).getD 9 0) fun x12 => ForI .u8 ((ds.getD i.toNat []).getD 10 0) fun x13 => ForI .u8 ((ds.getD i.toNat []).getD 11 0) fun x14 => ForI .u8 ((ds.getD i.toNat []).getD 12 0) fun x15 => ForI .u8 ((ds.getD i.toNat []).getD 13 0) fun x16 => ForI .u8 ((ds.getD i.toNat []).getD 14 0) fun x17 => ForI .u8 ((ds.getD i.toNat []).getD 15 0) fun x18 => ForI .u8 ((ds.getD i.toNat []).getD 16 0) fun x19 => ForI .u8 ((ds.getD i.toNat []).getD 17 0) fun x20 => ForI .u8 ((ds.getD i.toNat []).getD 18 0) fun x21 => ForI .u8 ((ds.getD i.toNat []).getD 19 0) fun x22 => ForI .u8 ((ds.getD i.toNat []).getD 20 0) fun x23 => ForI .u8 ((ds.getD i.toNat []).getD 21 0) fun x24 => ForI .u8 ((ds.getD i.toNat []).getD 22 0) fun x25 => ForI .u8 ((ds.getD i.toNat []).getD 23 0) fun x26 => ForI .u8 ((ds.getD i.toNat []).getD 24 0) fun x27 => ForI .u8 ((ds.getD i.toNat []).getD 25 0) fun x28 => ForI .u8 ((ds.getD i.toNat []).getD 26 0) fun x29 => ForI .u8 ((ds.getD i.toNat []).getD 27 0) fun x30 => ForI .u8 ((ds.getD i.toNat []).getD 28 0) fun x31 => ForI .u8 ((ds.getD i.toNat []).getD 29 0) fun x32 => ForI .u8 ((ds.getD i.toNat []).getD 30 0) fun x33 => ForI .u8 ((ds.getD i.toNat []).getD 31 0) fun x34 => ForI .u8 ((ds.getD i.toNat []).getD 32 0) fun x35 => ForI .u8 ((ds.getD i.toNat []).getD 33 0) fun x36 => ForI .u8 ((ds.getD i.toNat []).getD 34 0) fun x37 => ForI .u8 ((ds.getD i.toNat []).getD 35 0) fun x38 => ForI .u8 ((ds.getD i.toNat []).getD 36 0) fun x39 => ForI .u8 ((ds.getD i.toNat []).getD 37 0) fun x40 => ForI .u8 ((ds.getD i.toNat []).getD 38 0) fun x41 => ForI .u8 ((ds.getD i.toNat []).getD 39 0) fun x42 => ForI .u8 ((ds.getD i.toNat []).getD 40 0) fun x43 => ForI .u8 ((ds.getD i.toNat []).getD 41 0) fun x44 => ForI .u8 ((ds.getD i.toNat []).getD 42 0) fun x45 => ForI .u8 ((ds.getD i.toNat []).getD 43 0) fun x46 => ForI .u8 ((ds.getD i.toNat []).getD 44 0) fun x47 => ForI .u8 ((ds.getD i.toNat []).getD 45 0) fun x48 => ForI .u8 ((ds.getD i.toNat []).getD 46 0) fun x49 => ForI .u8 ((ds.getD i.toNat []).getD 47 0) fun x50 => ForI .u8 ((ds.getD i.toNat []).getD 48 0) fun x51 => ForI .u8 ((ds.getD i.toNat []).getD 49 0) fun x52 => ForI .u8 ((ds.getD i.toNat []).getD 50 0) fun x53 => ForI .u8 ((ds.getD i.toNat []).getD 51 0) fun x54 => ForI .u8 ((ds.getD i.toNat []).getD 52 0) fun x55 => ForI .u8 ((ds.getD i.toNat []).getD 53 0) fun x56 => ForI .u8 ((ds.getD i.toNat []).getD 54 0) fun x57 => ForI .u8 ((ds.getD i.toNat []).getD 55 0) fun x58 => ForI .u8 ((ds.getD i.toNat []).getD 56 0) fun x59 => ForI .u8 ((ds.getD i.toNat []).getD 57 0) fun x60 => ForI .u8 ((ds.getD i.toNat []).getD 58 0) fun x61 => ForI .u8 ((ds.getD i.toNat []).getD 59 0) fun x62 => ForI .u8 ((ds.getD i.toNat []).getD 60 0) fun x63 => ForI .u8 ((ds.getD i.toNat []).getD 61 0) fun x64 => ForI .u8 ((ds.getD i.toNat []).getD 62 0) fun x65 => ForI .u8 ((ds.getD i.toNat []).getD 63 0) fun x66 => ((!x2 == [x3, x4, x5, x6, x7, x8, x9, x10, x11, x12, x13, x14, x15, x16, x17, x18, x19, x20, x21, x22, x23, x24, x25, x26, x27, x28, x29, x30, x31, x32, x33, x34, x35, x36, x37, x38, x39, x40, x41, x42, x43, x44, x45, x46, x47, x48, x49, x50, x51, x52, x53, x54, x55, x56, x57, x58, x59, x60, x61, x62, x63, x64, x65, x66]) = true → K [RV.v (SV.b true false)] []) ∧ ((!x2 == [x3, x4, x5, x6, x7, x8, x9, x10, x11, x12, x13, x14, x15, x16, x17, x18, x19, x20, x21, x22, x23, x24, x25, x26, x27, x28, x29, x30, x31, x32, x33, x34, x35, x36, x37, x38, x39, x40, x41, x42, x43, x44, x45, x46, x47, x48, x49, x50, x51, x52, x53, x54, x55, x56, x57, x58, x59, x60, x61, x62, x63, x64, x65, x66]) = false → ForI .i64 (IntKind.i64.wrap (i + 1)) fun x67 => Same Tryd.f5 31 (itemsOf Tryd.f5 31) ∧ Q 31 [Pv.z n, Pv.z m, Pv.z x67, Pv.l K80, Pv.l K80, Pv.n k, Pv.ll x1, Pv.ll ds])) ∧ (decide (i < n) = false → K [RV.v (SV.b true true)] [])) := by
 intros
 kernel_rfl

theorem r0 (a b c d : RO) : roN (.r [a, b, c, d]) 0 = a := rfl
theorem r2 (a b c d : RO) : roN (.r [a, b, c, d]) 2 = c := rfl
theorem r3 (a b c d : RO) : roN (.r [a, b, c, d]) 3 = d := rfl
theorem rs (s : ByteArray) : roS (.s s) = s := rfl
theorem rz (z : Int) : roZ (.i z) = z := rfl
theorem list64 {s : List Int} (h : s.length = 64) : (List.range 64).map (fun i => s.getD i 0) = s := by
 refine List.ext_getElem (by simp [h]) fun i h1 h2 => ?_
 simp [h2]
theorem lit64 {s : List Int} (h : s.length = 64) : [(s).getD (0 : Nat) (0 : Int), (s).getD (1 : Nat) (0 : Int), (s).getD (2 : Nat) (0 : Int), (s).getD (3 : Nat) (0 : Int), (s).getD (4 : Nat) (0 : Int), (s).getD (5 : Nat) (0 : Int), (s).getD (6 : Nat) (0 : Int), (s).getD (7 : Nat) (0 : Int), (s).getD (8 : Nat) (0 : Int), (s).getD (9 : Nat) (0 : Int), (s).getD (10 : Nat) (0 : Int), (s).getD (11 : Nat) (0 : Int), (s).getD (12 : Nat) (0 : Int), (s).getD (13 : Nat) (0 : Int), (s).getD (14 : Nat) (0 : Int), (s).getD (15 : Nat) (0 : Int), (s).getD (16 : Nat) (0 : Int), (s).getD (17 : Nat) (0 : Int), (s).getD (18 : Nat) (0 : Int), (s).getD (19 : Nat) (0 : Int), (s).getD (20 : Nat) (0 : Int), (s).getD (21 : Nat) (0 : Int), (s).getD (22 : Nat) (0 : Int), (s).getD (23 : Nat) (0 : Int), (s).getD (24 : Nat) (0 : Int), (s).getD (25 : Nat) (0 : Int), (s).getD (26 : Nat) (0 : Int), (s).getD (27 : Nat) (0 : Int), (s).getD (28 : Nat) (0 : Int), (s).getD (29 : Nat) (0 : Int), (s).getD (30 : Nat) (0 : Int), (s).getD (31 : Nat) (0 : Int), (s).getD (32 : Nat) (0 : Int), (s).getD (33 : Nat) (0 : Int), (s).getD (34 : Nat) (0 : Int), (s).getD (35 : Nat) (0 : Int), (s).getD (36 : Nat) (0 : Int), (s).getD (37 : Nat) (0 : Int), (s).getD (38 : Nat) (0 : Int), (s).getD (39 : Nat) (0 : Int), (s).getD (40 : Nat) (0 : Int), (s).getD (41 : Nat) (0 : Int), (s).getD (42 : Nat) (0 : Int), (s).getD (43 : Nat) (0 : Int), (s).getD (44 : Nat) (0 : Int), (s).getD (45 : Nat) (0 : Int), (s).getD (46 : Nat) (0 : Int), (s).getD (47 : Nat) (0 : Int), (s).getD (48 : Nat) (0 : Int), (s).getD (49 : Nat) (0 : Int), (s).getD (50 : Nat) (0 : Int), (s).getD (51 : Nat) (0 : Int), (s).getD (52 : Nat) (0 : Int), (s).getD (53 : Nat) (0 : Int), (s).getD (54 : Nat) (0 : Int), (s).getD (55 : Nat) (0 : Int), (s).getD (56 : Nat) (0 : Int), (s).getD (57 : Nat) (0 : Int), (s).getD (58 : Nat) (0 : Int), (s).getD (59 : Nat) (0 : Int), (s).getD (60 : Nat) (0 : Int), (s).getD (61 : Nat) (0 : Int), (s).getD (62 : Nat) (0 : Int), (s).getD (63 : Nat) (0 : Int)] = s :=
 (show _ = (List.range 64).map (fun i => s.getD i 0) by kernel_rfl).trans (list64 h)
def mk (S : List (List Int)) : List (List Int) := S.map fun s => s ++ [1]
theorem mk_len (S : List (List Int)) : (mk S).length = S.length := List.length_map ..
theorem mk_app (S : List (List Int)) (s : List Int) : mk S ++ [s ++ [1]] = mk (S ++ [s]) := by simp [mk]
theorem all_app {S : List (List Int)} {s : List Int} (hS : ∀ s ∈ S, s.length = 64) (h : s.length = 64) : ∀ t ∈ S ++ [s], t.length = 64 := fun t ht => by
 rcases List.mem_append.1 ht with ht | ht
 ·exact hS t ht
 ·rw [List.mem_singleton.1 ht]; exact h
theorem all_set {S : List (List Int)} {s : List Int} {r : Nat} (hS : ∀ s ∈ S, s.length = 64) (h : s.length = 64) : ∀ t ∈ S.set r s, t.length = 64 := fun t ht => by
 rcases List.mem_or_eq_of_mem_set ht with ht | rfl
 ·exact hS t ht
 ·exact h
theorem at_ok {S : List (List Int)} {r : Nat} (hS : ∀ s ∈ S, s.length = 64) (hr : r < S.length) : ∃ s : List Int, s.length = 64 ∧ (mk S).getD r [] = s ++ [1] ∧ S.getD r [] = s ∧ List.take 64 (s ++ [1]) = s ∧ List.drop 64 (s ++ [1]) = [1] ∧ (∀ t : List Int, (mk S).set r (t ++ [1]) = mk (S.set r t)) ∧ S.set r s = S := by
 have h1 := hS _ (List.getElem_mem hr)
 refine ⟨S[r], h1, ?_, ?_, ?_, ?_, fun t => ?_, ?_⟩
 ·rw [List.getD_eq_getElem?_getD]; simp [mk, hr]
 ·rw [List.getD_eq_getElem?_getD]; simp [hr]
 ·rw [← h1]; exact List.take_left
 ·rw [← h1]; exact List.drop_left
 ·exact (List.map_set ..).symm
 ·exact List.set_getElem_self hr
set_option maxHeartbeats 4000000 in
theorem step5 {d : RO} {j : Nat} {S : List (List Int)} {KK : List RV → List (Option (List Seg)) → Prop} {Q : Nat → List Pv → Prop} (hsz : ∀ j, j < (roX d).length → playOk (roN d j)) (hL : (roX d).length ≤ 1048576) (h0 : 0 < S.length) (hS : ∀ s ∈ S, s.length = 64) (hk : S.length ≤ j + 1) (hj : j ≤ (roX d).length)
  (h : ∀ S' : List (List Int), j < (roX d).length → (∀ s ∈ S', s.length = 64) → 0 < S'.length → S'.length ≤ j + 2 → Q 7 [.ro d, .z (S'.length : Int), .z (S'.length : Int), .z ((j + 1 : Nat) : Int), .l K80, .l K80, .n S'.length, .ll (mk S'), .ll S'])
  (h' : Q 31 [.z (S.length : Int), .z (S.length : Int), .z 0, .l K80, .l K80, .n S.length, .ll (mk S), .ll S]) :
  lc5a d (S.length : Int) (S.length : Int) (j : Int) S.length (mk S) S KK Q := by
 rw [lc5a_eq]
 simp only [r0, r2, r3, rs, rz, Int.toNat_natCast]
 refine ⟨fun hlt => ?_, fun _ => ⟨rfl, h'⟩⟩
 have hlt : j < (roX d).length := by have := of_decide_eq_true hlt; omega
 have hdj := hsz j hlt
 have hpl := hdj
 obtain ⟨hfr, _, _⟩ := hdj
 have hdj := hpl
 have hle := frL_lab (bytesI (roS (roN (roN d j) 2))) ((roX (roN (roN d j) 3)).map roL)
 rw [bytesI_len] at hle
 have hlt15 : tagT.length = 15 := rfl
 have hfs : (frL tagT [bytesI (roS (roN (roN d j) 2))]).length = 39 + (roS (roN (roN d j) 2)).size := by
  rw [frL_len1, bytesI_len, hlt15]
  omega
 refine ⟨need_of ⟨by omega, by omega⟩, ?_⟩
 intro x1 e1 _ x2 e2 _
 refine ⟨need_of (by omega), ?_⟩
 intro x3 e3 _
 have hub : x3 < (S.length : Int) := by rw [e3]; have := Int.tmod_lt_of_pos x2 (b := (S.length : Int)) (by omega); exact this
 unfold playOk at hdj
 refine ⟨fun hneg => ?_, fun hpos => ?_⟩
 ·clear hneg
  obtain ⟨s, hsl, g1, g2, htk, hdr, gs, gt⟩ := at_ok (r := 0) hS h0
  refine ⟨fun _ => ?_, fun _ => ⟨fun _ => ?_, fun _ => ?_⟩⟩
  ·
   refine ⟨need_of ⟨by omega, by omega⟩, need_of (by omega), need_of (by rw [mk_len]; omega), need_of ?_, need_of (by omega), ?_⟩
   ·rw [g1, hdr]; rfl
   intro x4 e4 x5 e5 l1 _
   rw [g1, htk] at e5
   have m1 : x4 = mk S := by rw [e4, g1, htk, hdr]; exact (gs s).trans (congrArg mk gt)
   refine ⟨need_of trivial, need_of (by rw [m1, mk_len]), need_of (by omega), ?_⟩
   intro x6 e6 x7 e7 _ _
   have m2 : x6 = mk (S ++ [x5]) := by rw [e6, m1, mk_app]
   refine ⟨need_of ⟨by omega, by omega⟩, need_of (by omega), need_of (by omega), ?_⟩
   intro x8 e8 l2 _
   have m3 : x8 = x5 := by rw [e8, e5, g2, lit64 hsl]
   refine ⟨need_of (by rw [show List.take 1 (List.drop 0 [x8]) = [x8] from rfl, List.length_append, List.length_singleton]; omega), need_of trivial, need_of (by rw [List.length_singleton]; omega), ?_⟩
   intro x9 e9 _ x10 e10 _ _ x11 e11 _
   rw [show List.take 1 (List.drop 0 [x8]) = [x8] from rfl, m3] at e9 e10
   rw [List.length_append, List.length_singleton] at e10
   rw [wrap_i64 (by omega)] at e11
   refine ⟨rfl, ?_⟩
   rw [e7, e10, e11, m2, e9, show (j : Int) + 1 = ((j + 1 : Nat) : Int) by omega]
   have hq := h (S ++ [x5]) hlt (all_app hS l1) (by rw [List.length_append]; omega) (by rw [List.length_append, List.length_singleton]; omega)
   rw [List.length_append, List.length_singleton] at hq
   exact hq
  ·
   refine ⟨need_of (by omega), ?_⟩
   intro x12 e12 l1 _
   refine ⟨need_of trivial, need_of (by rw [mk_len]), need_of (by omega), ?_⟩
   intro x13 e13 x14 e14 _ _
   have m2 : x13 = mk (S ++ [x12]) := by rw [e13, mk_app]
   refine ⟨need_of (by omega), ?_⟩
   intro x15 e15 l2 _
   have m3 : x15 = x12 := by rw [e15, e12]
   refine ⟨need_of (by rw [show List.take 1 (List.drop 0 [x15]) = [x15] from rfl, List.length_append, List.length_singleton]; omega), need_of trivial, need_of (by rw [List.length_singleton]; omega), ?_⟩
   intro x16 e16 _ x17 e17 _ _ x18 e18 _
   rw [show List.take 1 (List.drop 0 [x15]) = [x15] from rfl, m3] at e16 e17
   rw [List.length_append, List.length_singleton] at e17
   rw [wrap_i64 (by omega)] at e18
   refine ⟨rfl, ?_⟩
   rw [e14, e17, e18, m2, e16, show (j : Int) + 1 = ((j + 1 : Nat) : Int) by omega]
   have hq := h (S ++ [x12]) hlt (all_app hS l1) (by rw [List.length_append]; omega) (by rw [List.length_append, List.length_singleton]; omega)
   rw [List.length_append, List.length_singleton] at hq
   exact hq
  ·
   refine ⟨need_of ⟨by omega, by omega⟩, need_of (by omega), need_of ⟨by omega, by omega⟩, need_of (by omega), need_of (by rw [mk_len]; omega), need_of ?_, need_of (by rw [g1, g2, htk]; exact lit64 hsl), need_of hdj, ?_⟩
   ·rw [g1, hdr]; rfl
   intro x19 e19 x20 e20 l1 _
   rw [g1, htk] at e20
   have m1 : x19 = mk (S.set 0 x20) := by rw [e19, g1, htk, hdr, e20]; exact gs _
   refine ⟨need_of ⟨by omega, by omega⟩, need_of (by omega), ?_⟩
   intro x21 e21 _
   rw [wrap_i64 (by omega)] at e21
   refine ⟨rfl, ?_⟩
   rw [m1, e21, show (j : Int) + 1 = ((j + 1 : Nat) : Int) by omega]
   have hq := h (S.set 0 x20) hlt (all_set hS l1) (by rw [List.length_set]; omega) (by rw [List.length_set]; omega)
   rw [List.length_set] at hq
   exact hq
 ·have hpos := of_decide_eq_false hpos
  obtain ⟨r, rfl⟩ := Int.eq_ofNat_of_zero_le (show 0 ≤ x3 by omega)
  have hr : r < S.length := by omega
  simp only [Int.toNat_natCast]
  obtain ⟨s, hsl, g1, g2, htk, hdr, gs, gt⟩ := at_ok hS hr
  refine ⟨fun _ => ?_, fun _ => ⟨fun _ => ?_, fun _ => ?_⟩⟩
  ·
   refine ⟨need_of ⟨by omega, by omega⟩, need_of (by omega), need_of (by rw [mk_len]; omega), need_of ?_, need_of (by omega), ?_⟩
   ·rw [g1, hdr]; rfl
   intro x22 e22 x23 e23 l1 _
   rw [g1, htk] at e23
   have m1 : x22 = mk S := by rw [e22, g1, htk, hdr]; exact (gs s).trans (congrArg mk gt)
   refine ⟨need_of trivial, need_of (by rw [m1, mk_len]), need_of (by omega), ?_⟩
   intro x24 e24 x25 e25 _ _
   have m2 : x24 = mk (S ++ [x23]) := by rw [e24, m1, mk_app]
   refine ⟨need_of ⟨by omega, by omega⟩, need_of (by omega), ?_⟩
   intro x26 e26 _ x27 e27 _ x28 e28 _ x29 e29 _ x30 e30 _ x31 e31 _ x32 e32 _ x33 e33 _ x34 e34 _ x35 e35 _ x36 e36 _ x37 e37 _ x38 e38 _ x39 e39 _ x40 e40 _ x41 e41 _ x42 e42 _ x43 e43 _ x44 e44 _ x45 e45 _ x46 e46 _ x47 e47 _ x48 e48 _ x49 e49 _ x50 e50 _ x51 e51 _ x52 e52 _ x53 e53 _ x54 e54 _ x55 e55 _ x56 e56 _ x57 e57 _ x58 e58 _ x59 e59 _ x60 e60 _ x61 e61 _ x62 e62 _ x63 e63 _ x64 e64 _ x65 e65 _ x66 e66 _ x67 e67 _ x68 e68 _ x69 e69 _ x70 e70 _ x71 e71 _ x72 e72 _ x73 e73 _ x74 e74 _ x75 e75 _ x76 e76 _ x77 e77 _ x78 e78 _ x79 e79 _ x80 e80 _ x81 e81 _ x82 e82 _ x83 e83 _ x84 e84 _ x85 e85 _ x86 e86 _ x87 e87 _ x88 e88 _ x89 e89 _
   refine ⟨need_of (by omega), ?_⟩
   intro x90 e90 l2 _
   have hD : [x26, x27, x28, x29, x30, x31, x32, x33, x34, x35, x36, x37, x38, x39, x40, x41, x42, x43, x44, x45, x46, x47, x48, x49, x50, x51, x52, x53, x54, x55, x56, x57, x58, x59, x60, x61, x62, x63, x64, x65, x66, x67, x68, x69, x70, x71, x72, x73, x74, x75, x76, x77, x78, x79, x80, x81, x82, x83, x84, x85, x86, x87, x88, x89] = s := by
    rw [e26, e27, e28, e29, e30, e31, e32, e33, e34, e35, e36, e37, e38, e39, e40, e41, e42, e43, e44, e45, e46, e47, e48, e49, e50, e51, e52, e53, e54, e55, e56, e57, e58, e59, e60, e61, e62, e63, e64, e65, e66, e67, e68, e69, e70, e71, e72, e73, e74, e75, e76, e77, e78, e79, e80, e81, e82, e83, e84, e85, e86, e87, e88, e89, g2]; exact lit64 hsl
   have m3 : x90 = x23 := by rw [e90, e23, hD]
   refine ⟨need_of (by rw [show List.take 1 (List.drop 0 [x90]) = [x90] from rfl, List.length_append, List.length_singleton]; omega), need_of trivial, need_of (by rw [List.length_singleton]; omega), ?_⟩
   intro x91 e91 _ x92 e92 _ _ x93 e93 _
   rw [show List.take 1 (List.drop 0 [x90]) = [x90] from rfl, m3] at e91 e92
   rw [List.length_append, List.length_singleton] at e92
   rw [wrap_i64 (by omega)] at e93
   refine ⟨rfl, ?_⟩
   rw [e25, e92, e93, m2, e91, show (j : Int) + 1 = ((j + 1 : Nat) : Int) by omega]
   have hq := h (S ++ [x23]) hlt (all_app hS l1) (by rw [List.length_append]; omega) (by rw [List.length_append, List.length_singleton]; omega)
   rw [List.length_append, List.length_singleton] at hq
   exact hq
  ·
   refine ⟨need_of (by omega), ?_⟩
   intro x94 e94 l1 _
   refine ⟨need_of trivial, need_of (by rw [mk_len]), need_of (by omega), ?_⟩
   intro x95 e95 x96 e96 _ _
   have m2 : x95 = mk (S ++ [x94]) := by rw [e95, mk_app]
   refine ⟨need_of (by omega), ?_⟩
   intro x97 e97 l2 _
   have m3 : x97 = x94 := by rw [e97, e94]
   refine ⟨need_of (by rw [show List.take 1 (List.drop 0 [x97]) = [x97] from rfl, List.length_append, List.length_singleton]; omega), need_of trivial, need_of (by rw [List.length_singleton]; omega), ?_⟩
   intro x98 e98 _ x99 e99 _ _ x100 e100 _
   rw [show List.take 1 (List.drop 0 [x97]) = [x97] from rfl, m3] at e98 e99
   rw [List.length_append, List.length_singleton] at e99
   rw [wrap_i64 (by omega)] at e100
   refine ⟨rfl, ?_⟩
   rw [e96, e99, e100, m2, e98, show (j : Int) + 1 = ((j + 1 : Nat) : Int) by omega]
   have hq := h (S ++ [x94]) hlt (all_app hS l1) (by rw [List.length_append]; omega) (by rw [List.length_append, List.length_singleton]; omega)
   rw [List.length_append, List.length_singleton] at hq
   exact hq
  ·
   refine ⟨need_of ⟨by omega, by omega⟩, need_of ⟨by omega, by omega⟩, need_of ⟨by omega, by omega⟩, need_of ⟨by omega, by omega⟩, ?_⟩
   intro x101 e101 _ x102 e102 _ x103 e103 _ x104 e104 _ x105 e105 _ x106 e106 _ x107 e107 _ x108 e108 _ x109 e109 _ x110 e110 _ x111 e111 _ x112 e112 _ x113 e113 _ x114 e114 _ x115 e115 _ x116 e116 _ x117 e117 _ x118 e118 _ x119 e119 _ x120 e120 _ x121 e121 _ x122 e122 _ x123 e123 _ x124 e124 _ x125 e125 _ x126 e126 _ x127 e127 _ x128 e128 _ x129 e129 _ x130 e130 _ x131 e131 _ x132 e132 _ x133 e133 _ x134 e134 _ x135 e135 _ x136 e136 _ x137 e137 _ x138 e138 _ x139 e139 _ x140 e140 _ x141 e141 _ x142 e142 _ x143 e143 _ x144 e144 _ x145 e145 _ x146 e146 _ x147 e147 _ x148 e148 _ x149 e149 _ x150 e150 _ x151 e151 _ x152 e152 _ x153 e153 _ x154 e154 _ x155 e155 _ x156 e156 _ x157 e157 _ x158 e158 _ x159 e159 _ x160 e160 _ x161 e161 _ x162 e162 _ x163 e163 _ x164 e164 _
   have hD : [x101, x102, x103, x104, x105, x106, x107, x108, x109, x110, x111, x112, x113, x114, x115, x116, x117, x118, x119, x120, x121, x122, x123, x124, x125, x126, x127, x128, x129, x130, x131, x132, x133, x134, x135, x136, x137, x138, x139, x140, x141, x142, x143, x144, x145, x146, x147, x148, x149, x150, x151, x152, x153, x154, x155, x156, x157, x158, x159, x160, x161, x162, x163, x164] = s := by
    rw [e101, e102, e103, e104, e105, e106, e107, e108, e109, e110, e111, e112, e113, e114, e115, e116, e117, e118, e119, e120, e121, e122, e123, e124, e125, e126, e127, e128, e129, e130, e131, e132, e133, e134, e135, e136, e137, e138, e139, e140, e141, e142, e143, e144, e145, e146, e147, e148, e149, e150, e151, e152, e153, e154, e155, e156, e157, e158, e159, e160, e161, e162, e163, e164, g2]; exact lit64 hsl
   refine ⟨need_of (by rw [mk_len]; omega), need_of ?_, need_of (by rw [hD, g1, htk]), need_of hdj, ?_⟩
   ·rw [g1, hdr]; rfl
   intro x165 e165 x166 e166 l1 _
   rw [g1, htk] at e166
   have m1 : x165 = mk (S.set r x166) := by rw [e165, g1, htk, hdr, e166]; exact gs _
   refine ⟨need_of ⟨by omega, by omega⟩, need_of ⟨by omega, by omega⟩, ?_⟩
   intro x167 e167 _ x168 e168 _
   rw [wrap_i64 (by omega)] at e168
   refine ⟨rfl, ?_⟩
   rw [e167, m1, e168, show (j : Int) + 1 = ((j + 1 : Nat) : Int) by omega]
   have hq := h (S.set r x166) hlt (all_set hS l1) (by rw [List.length_set]; omega) (by rw [List.length_set]; omega)
   rw [List.length_set] at hq
   exact hq

set_option maxHeartbeats 4000000 in
theorem step5b {S : List (List Int)} {i : Nat} {Q : Nat → List Pv → Prop} (hL : S.length ≤ 2097152) (hS : ∀ s ∈ S, s.length = 64)
  (h : i < S.length → Q 31 [.z (S.length : Int), .z (S.length : Int), .z ((i + 1 : Nat) : Int), .l K80, .l K80, .n S.length, .ll (mk S), .ll S]) :
  lc5b (S.length : Int) (S.length : Int) (i : Int) S.length (mk S) S (fun rvs fin => ∃ e, rvs = [.v (.b e true)]) Q := by
 rw [lc5b_eq]
 simp only [Int.toNat_natCast]
 refine ⟨fun hlt => ?_, fun _ => ⟨true, rfl⟩⟩
 have hlt : i < S.length := by have := of_decide_eq_true hlt; omega
 obtain ⟨s, hsl, g1, g2, htk, hdr, gs, gt⟩ := at_ok hS hlt
 refine ⟨need_of ⟨by omega, by omega⟩, need_of ⟨by omega, by omega⟩, need_of (by rw [mk_len]; omega), ?_⟩
 intro x1 e1 x2 e2 _ _
 rw [g1, htk, hdr] at e2
 have m1 : x1 = mk S := by rw [e1, g1, htk, hdr]; exact (gs s).trans (congrArg mk gt)
 have m2 : x2 = s := e2
 refine ⟨need_of ⟨by omega, by omega⟩, need_of ⟨by omega, by omega⟩, ?_⟩
 intro x3 e3 _ x4 e4 _ x5 e5 _ x6 e6 _ x7 e7 _ x8 e8 _ x9 e9 _ x10 e10 _ x11 e11 _ x12 e12 _ x13 e13 _ x14 e14 _ x15 e15 _ x16 e16 _ x17 e17 _ x18 e18 _ x19 e19 _ x20 e20 _ x21 e21 _ x22 e22 _ x23 e23 _ x24 e24 _ x25 e25 _ x26 e26 _ x27 e27 _ x28 e28 _ x29 e29 _ x30 e30 _ x31 e31 _ x32 e32 _ x33 e33 _ x34 e34 _ x35 e35 _ x36 e36 _ x37 e37 _ x38 e38 _ x39 e39 _ x40 e40 _ x41 e41 _ x42 e42 _ x43 e43 _ x44 e44 _ x45 e45 _ x46 e46 _ x47 e47 _ x48 e48 _ x49 e49 _ x50 e50 _ x51 e51 _ x52 e52 _ x53 e53 _ x54 e54 _ x55 e55 _ x56 e56 _ x57 e57 _ x58 e58 _ x59 e59 _ x60 e60 _ x61 e61 _ x62 e62 _ x63 e63 _ x64 e64 _ x65 e65 _ x66 e66 _
 have hD : [x3, x4, x5, x6, x7, x8, x9, x10, x11, x12, x13, x14, x15, x16, x17, x18, x19, x20, x21, x22, x23, x24, x25, x26, x27, x28, x29, x30, x31, x32, x33, x34, x35, x36, x37, x38, x39, x40, x41, x42, x43, x44, x45, x46, x47, x48, x49, x50, x51, x52, x53, x54, x55, x56, x57, x58, x59, x60, x61, x62, x63, x64, x65, x66] = s := by
  rw [e3, e4, e5, e6, e7, e8, e9, e10, e11, e12, e13, e14, e15, e16, e17, e18, e19, e20, e21, e22, e23, e24, e25, e26, e27, e28, e29, e30, e31, e32, e33, e34, e35, e36, e37, e38, e39, e40, e41, e42, e43, e44, e45, e46, e47, e48, e49, e50, e51, e52, e53, e54, e55, e56, e57, e58, e59, e60, e61, e62, e63, e64, e65, e66, g2]; exact lit64 hsl
 rw [hD, m2, beq_self_eq_true]
 refine ⟨fun h => Bool.noConfusion h, fun _ => ?_⟩
 intro x67 e67 _
 rw [wrap_i64 (by omega)] at e67
 refine ⟨rfl, ?_⟩
 rw [m1, e67, show (i : Int) + 1 = ((i + 1 : Nat) : Int) by omega]
 exact h hlt
end TranscriptPlays
end Go.Gx

/- From a law's call to what its row asks, for laws that only read. -/
namespace Go.Gx
open Go.ChangeShapes Go.WideShapes Go.ChangeAt Go.RowKit
set_option linter.unusedVariables false

section
variable {P : Program}

theorem below_trodAll {H : Type} {enc : TypeId × Value → H} {W W' : World} (hl : laidOutB P = true) (hB : Below W.heap.size W W') {sp : Nat → Bool} : ∀ {ts : List TypeId} {vs : List Value} {ds : List (DataW H)} {ps : List MemPlace},
  (∀ t ∈ ts, P.readableRec t = true ∧ t < P.types.size) → DataW.TrodAll enc P W 0 (fun _ => true) true ts vs ds ps → (∀ p ∈ ps, p.block < W.heap.size) → (∀ p ∈ ps, sp p.block = true) → DataW.TrodAll enc P W' 0 sp true ts vs ds ps
 | [], _, _, _, _, h, _, _ => by
  obtain ⟨rfl, rfl, rfl⟩ := trodAll_nil h
  exact trodAll_mk0
 | t :: ts, _, _, _, ht, h, hlt, hs => by
  obtain ⟨v, vs1, d, ds1, p, q, rfl, rfl, rfl, h1, h2⟩ := trodAll_cons h
  have := ht t (by simp)
  exact trodAll_cons_mk (WideElems.Trod_stays hl this.1 this.2 h1 (fun x hx => hB.same (hlt x (by simp [hx]))) fun x hx => hs x (by simp [hx]))
   (below_trodAll hl hB (fun t h => ht t (by simp [h])) h2 (fun x hx => hlt x (by simp [hx])) fun x hx => hs x (by simp [hx]))

theorem post_true {H : Type} {enc : TypeId × Value → H} {f : Func} {s : ChangeSpec} {tb : TypeId} {W W' : World} {args : Array Value} {ds gs : List (DataW H)} {before : List MemPlace}
  (hl : laidOutB P = true) (hv : s.vars = []) (hr : f.resultTypes = #[tb]) (hb : P.underlying tb = some .bool) (hread : ∀ t ∈ f.params.toList, P.readableRec t = true ∧ t < P.types.size)
  (hfn : ∀ ds : List (DataW H), ds.length = f.params.size → (s.fn H ds).results = [.lit (.bool true)] ∧ (s.fn H ds).args = ds ∧ (s.fn H ds).vars = [])
  (hW : DataW.Whole enc P f.params.toList s.vars false W args.toList ds gs before) (hB : Below W.heap.size W W') : s.post enc P f false true false false W args (.bool true) W' := by
 have hW' := hW
 obtain ⟨p, q, hA0, hV, rfl, hz, hn⟩ := hW
 have hA : DataW.TrodAll enc P W 0 (fun _ => true) true f.params.toList args.toList ds p := hA0
 rw [hv] at hV
 obtain ⟨rfl, rfl⟩ := trodVars_none hV
 have hlen : ds.length = f.params.size := by
  have : ∀ {ts : List TypeId} {vs : List Value} {ds : List (DataW H)} {ps : List MemPlace}, DataW.TrodAll enc P W 0 (fun _ => true) true ts vs ds ps → ds.length = ts.length := by
   intro ts
   induction ts with
   | nil => intro vs ds ps h; obtain ⟨_, rfl, _⟩ := trodAll_nil h; rfl
   | cons t ts ih => intro vs ds ps h; obtain ⟨_, _, _, _, _, _, rfl, rfl, rfl, _, h2⟩ := trodAll_cons h; simp [ih h2]
  simpa using this hA
 obtain ⟨k1, k2, k3⟩ := hfn ds hlen
 have hlt : ∀ x ∈ p, x.block < W.heap.size := fun x hx => hW'.lt x (by simp [hx])
 have hres : ∀ (b : Nat) (sp : Nat → Bool) (hd : Bool), DataW.TrodAll enc P W' b sp hd f.resultTypes.toList ((Value.bool true).resultList f.resultTypes.size) (s.fn H (ds ++ [])).results [] := fun b sp hd => by
  rw [List.append_nil, k1, hr]
  exact trodAll_cons_mk (shut_bool hb _) trodAll_mk0
 have hargs : ∀ sp : Nat → Bool, (∀ x ∈ p, sp x.block = true) → DataW.TrodAll enc P W' 0 sp true f.params.toList args.toList (s.fn H (ds ++ [])).args p := fun sp hs => by
  rw [List.append_nil, k2]
  exact below_trodAll hl hB hread hA hlt hs
 have hvars : ∀ sp : Nat → Bool, DataW.TrodVars enc P W' sp s.vars (s.fn H (ds ++ [])).vars [] := fun sp => by
  rw [List.append_nil, k3, hv]; rfl
 refine ⟨ds, [], p ++ [], [], p, [], hW', hres _ _ _, hargs _ (fun x hx => by simpa using hlt x hx), hvars _, hB.frame _, fun _ => ?_⟩
 refine ⟨ok_one hr rfl (okWide_bool_mk hb _), _, _, ([] ++ p) ++ [], ⟨[] ++ p, [], trodAll_append (hargs _ (fun _ _ => rfl)) (hres _ _ _), hvars _, rfl, ?_, ?_⟩, ?_⟩
 ·intro b off hp
  have hp' : MemPlace.cell b off ∈ p := by simpa using hp
  rw [hB.frozen (hlt _ hp')]
  exact hz b off (by simpa using hp')
 ·intro ha
  have := hn ha
  simpa using this
 ·intro x hx _
  simpa using hx

theorem chunks {α : Type} {n : Nat} : ∀ (m : Nat) (cs : List α) (f : Nat → List α), cs.length = m * n → (∀ i, i < m → (cs.drop (i * n)).take n = f i) → cs = ((List.range m).map f).flatten
 | 0, cs, f, hl, _ => by
  have : cs = [] := List.length_eq_zero_iff.1 (by simpa using hl)
  simp [this]
 | m + 1, cs, f, hl, h => by
  have ih := chunks (n := n) m (cs.drop n) (fun i => f (i + 1)) (by rw [List.length_drop, hl, Nat.succ_mul]; omega) fun i hi => by
   rw [List.drop_drop, ← h (i + 1) (by omega), Nat.succ_mul, Nat.add_comm n]
  have h0 := h 0 (by omega)
  rw [Nat.zero_mul, List.drop_zero] at h0
  rw [List.range_succ_eq_map, List.map_cons, List.flatten_cons, List.map_map]
  conv => lhs; rw [← List.take_append_drop n cs]
  rw [h0, ih]
  rfl

theorem tab2_of_head {W : World} {name : String} {k : IntKind} {rows : List (List Int)} {rest : List (String × DataW Unit)} {g : Nat} {t e1 e : TypeId} {m n : Nat}
  (hg : P.globalNamed name = some g) (hty : (P.globals[g]?).map (·.type) = some t) (ht : P.underlying t = some (.array m e1)) (ht1 : P.underlying e1 = some (.array n e)) (he : P.underlying e = some (.int k)) (hce : P.cellsOf e = 1) (hc1 : P.cellsOf e1 = n) (hct : P.cellsOf t = m * n)
  (h : laidMet P ((name, .agg (rows.map (Lib.tabData k))) :: rest) W) : W.rangeAt g 0 ((List.range m).map fun i => (rows.getD i []).map (Value.int k)).flatten ∧ g < W.heap.size := by
 obtain ⟨ps, ⟨g', t', cs, fuel, p, q, hg', ht', hvar, hd, _, _⟩, _⟩ := h
 obtain rfl := Option.some.inj (hg.symm.trans hg')
 obtain rfl := Option.some.inj (hty.symm.trans ht')
 have hcs : cs.toList = ((List.range m).map fun i => (rows.getD i []).map (Value.int k)).flatten := by
  cases fuel with
  | zero => simp [DataW.trod] at hd
  | succ fuel =>
   simp only [DataW.trod, ht, hc1, hct] at hd
   split at hd
   ·rename_i hl
    obtain ⟨xs, hm, hx⟩ := Option.map_eq_some_iff.1 hd
    have hxs : xs.map (·.1) = rows.map (Lib.tabData k) := by
     have := congrArg Prod.fst hx
     simpa using this
    have hxl : xs.length = m := by simpa using Lib.mapM_length hm
    have hrl : rows.length = m := by
     have := congrArg List.length hxs
     simp at this
     omega
    refine chunks m _ _ hl fun i hi => ?_
    obtain ⟨b, hb, hf⟩ := Lib.mapM_at hm i i (by simp [hi])
    have h2 : (xs.map (·.1))[i]? = some b.1 := by simp [hb]
    rw [hxs] at h2
    simp only [List.getElem?_map, Option.map_eq_some_iff] at h2
    obtain ⟨r, hr, hrb⟩ := h2
    have hf' : DataW.trod (fun _ => ()) P W 0 (fun _ => true) false fuel e1 ((cs.toList.drop (i * n)).take n) = some (Lib.tabData k r, b.2) := by
     rw [hrb]; exact hf
    rw [Lib.cells_of_tab ht1 he hce hc1 hf']
    simp [List.getD, hr]
   ·cases hd
 constructor
 ·rw [← hcs]
  intro j v hj
  have := World.var?_cell hg hvar j
  rw [Nat.zero_add, this]
  simpa using hj
 ·unfold World.var? at hvar
  rw [hg] at hvar
  simp only [Option.bind_some] at hvar
  split at hvar
  ·rename_i hh
   exact (Array.getElem?_eq_some_iff.1 hh).1
  ·cases hvar

theorem mem_start (W : World) (ρ : Nat → Pl) : Mem W (fun _ => False) ρ (fun _ => none) W :=
 ⟨by constructor <;> (intros; contradiction), FrameW.refl _ _, by intros; contradiction, by intros; contradiction, by intros; contradiction, .none (fun _ _ _ h => by cases h)⟩

end
end Go.Gx

/- The tables of both packages, and their cells in a row's world. -/
namespace Go.Gx
open Go.Proofs Go.Sp Go.Proofs.YthgclfedhgmpiaaDoor
open Go.ChangeShapes Go.WideShapes Go.ChangeAt Go.RowKit
set_option linter.unusedVariables false

theorem glob_of {W : World} {name : String} {k : IntKind} {zs : List Int} {g : Nat} (hg : Tryd.prog.globalNamed name = some g) (h : Lib.TabIs Tryd.prog W name k zs) : W.rangeAt g 0 (zs.map (Value.int k)) ∧ g < W.heap.size := by
 have hv : W.var? Tryd.prog name = some (zs.map fun z => Value.int k z).toArray := h
 constructor
 ·intro j v hj
  have := World.var?_cell hg hv j
  rw [Nat.zero_add, this]
  simpa using hj
 ·unfold World.var? at hv
  rw [hg] at hv
  simp only [Option.bind_some] at hv
  split at hv
  ·rename_i hh
   exact (Array.getElem?_eq_some_iff.1 hh).1
  ·cases hv

theorem all_u64 {l : List Int} (h : (l.all fun z => decide (0 ≤ z) && decide (z < 18446744073709551616)) = true) : AllR .u64 l := fun z hz => by
 have := List.all_eq_true.1 h z hz
 simpa [InR] using this
theorem start_ok : start8.length = 8 ∧ AllR .u64 start8 := ⟨rfl, all_u64 (by decide +kernel)⟩
theorem rounds_ok : K80.length = 80 ∧ AllR .u64 K80 := ⟨by decide +kernel, all_u64 (by decide +kernel)⟩

def layC (cs : Array Value) : Obj → Obj
 | .cells _ t frozen => .cells cs t frozen
 | o => o
theorem own : ownKnob Tryd.prog.godebug = none := by kernel_rfl
theorem laidOut : laidOutB Tryd.prog = true := by kernel_rfl

theorem tab_glob5 {W : World} (h : laidMetH Tryd.prog [("veil/veilref03.round", Rows.laid_veil_veilref03_round), ("veil/veilref03.first", Rows.laid_veil_veilref03_first), ("veil/hash.rounds", Rows.laid_veil_hash_rounds), ("veil/hash.start", Rows.laid_veil_hash_start), ("veil/scalar.table", Rows.laid_veil_scalar_table)] W) : Glob gh4 W fun _ => False := by
 have h' : laidMet Tryd.prog (("veil/veilref03.round", Lib.tabData .u64 K80) :: ("veil/veilref03.first", Lib.tabData .u64 start8) :: ("veil/hash.rounds", Lib.tabData .u64 K80) :: ("veil/hash.start", Lib.tabData .u64 start8) :: [("veil/scalar.table", Rows.laid_veil_scalar_table)]) W := h
 obtain ⟨c1, c2⟩ := glob_of (g := 2) (by kernel_rfl) (Lib.tabIs_of_head (n := 80) (g := 2) (t := 109) (e := 25) (by kernel_rfl) (by kernel_rfl) (by kernel_rfl) (by kernel_rfl) (by kernel_rfl) (by kernel_rfl) h')
 have h' := laidMet.tail h'
 obtain ⟨d1, d2⟩ := glob_of (g := 0) (by kernel_rfl) (Lib.tabIs_of_head (n := 8) (g := 0) (t := 90) (e := 25) (by kernel_rfl) (by kernel_rfl) (by kernel_rfl) (by kernel_rfl) (by kernel_rfl) (by kernel_rfl) h')
 have h' := laidMet.tail h'
 obtain ⟨a1, a2⟩ := glob_of (g := 4) (by kernel_rfl) (Lib.tabIs_of_head (n := 80) (g := 4) (t := 109) (e := 25) (by kernel_rfl) (by kernel_rfl) (by kernel_rfl) (by kernel_rfl) (by kernel_rfl) (by kernel_rfl) h')
 obtain ⟨b1, b2⟩ := glob_of (g := 3) (by kernel_rfl) (Lib.tabIs_of_head (n := 8) (g := 3) (t := 90) (e := 25) (by kernel_rfl) (by kernel_rfl) (by kernel_rfl) (by kernel_rfl) (by kernel_rfl) (by kernel_rfl) (laidMet.tail h'))
 intro g b hb
 have hb : (g, b) ∈ [(3, SB.segs true [.arr .u64 8 true start8]), (0, .segs true [.arr .u64 8 true start8]), (4, .segs true [.arr .u64 80 false K80]), (2, .segs true [.arr .u64 80 false K80])] := hb
 simp only [List.mem_cons, List.not_mem_nil, or_false, Prod.mk.injEq] at hb
 rcases hb with ⟨rfl, rfl⟩ | ⟨rfl, rfl⟩ | ⟨rfl, rfl⟩ | ⟨rfl, rfl⟩
 ·exact ⟨_, _, rfl, ⟨_, _, ⟨start_ok.1, start_ok.2, rfl⟩, (List.append_nil _).symm, rfl⟩, b1, fun x => x, b2⟩
 ·exact ⟨_, _, rfl, ⟨_, _, ⟨start_ok.1, start_ok.2, rfl⟩, (List.append_nil _).symm, rfl⟩, d1, fun x => x, d2⟩
 ·exact ⟨_, _, rfl, ⟨_, _, ⟨rounds_ok.1, rounds_ok.2, rfl⟩, (List.append_nil _).symm, rfl⟩, a1, fun x => x, a2⟩
 ·exact ⟨_, _, rfl, ⟨_, _, ⟨rounds_ok.1, rounds_ok.2, rfl⟩, (List.append_nil _).symm, rfl⟩, c1, fun x => x, c2⟩

noncomputable def laidWorld4 (os : Os) : World :=
 { World.holding Tryd.prog os ⟨#[], #[], []⟩ with heap := ((((World.holding Tryd.prog os ⟨#[], #[], []⟩).heap.modify 3 (layC #[.int .u64 7640891576956012808, .int .u64 13503953896175478587, .int .u64 4354685564936845355, .int .u64 11912009170470909681, .int .u64 5840696475078001361, .int .u64 11170449401992604703, .int .u64 2270897969802886507, .int .u64 6620516959819538809])).modify 0 (layC #[.int .u64 7640891576956012808, .int .u64 13503953896175478587, .int .u64 4354685564936845355, .int .u64 11912009170470909681, .int .u64 5840696475078001361, .int .u64 11170449401992604703, .int .u64 2270897969802886507, .int .u64 6620516959819538809])).modify 4 (layC #[.int .u64 4794697086780616226, .int .u64 8158064640168781261, .int .u64 13096744586834688815, .int .u64 16840607885511220156, .int .u64 4131703408338449720, .int .u64 6480981068601479193, .int .u64 10538285296894168987, .int .u64 12329834152419229976, .int .u64 15566598209576043074, .int .u64 1334009975649890238, .int .u64 2608012711638119052, .int .u64 6128411473006802146, .int .u64 8268148722764581231, .int .u64 9286055187155687089, .int .u64 11230858885718282805, .int .u64 13951009754708518548, .int .u64 16472876342353939154, .int .u64 17275323862435702243, .int .u64 1135362057144423861, .int .u64 2597628984639134821, .int .u64 3308224258029322869, .int .u64 5365058923640841347, .int .u64 6679025012923562964, .int .u64 8573033837759648693, .int .u64 10970295158949994411, .int .u64 12119686244451234320, .int .u64 12683024718118986047, .int .u64 13788192230050041572, .int .u64 14330467153632333762, .int .u64 15395433587784984357, .int .u64 489312712824947311, .int .u64 1452737877330783856, .int .u64 2861767655752347644, .int .u64 3322285676063803686, .int .u64 5560940570517711597, .int .u64 5996557281743188959, .int .u64 7280758554555802590, .int .u64 8532644243296465576, .int .u64 9350256976987008742, .int .u64 10552545826968843579, .int .u64 11727347734174303076, .int .u64 12113106623233404929, .int .u64 14000437183269869457, .int .u64 14369950271660146224, .int .u64 15101387698204529176, .int .u64 15463397548674623760, .int .u64 17586052441742319658, .int .u64 1182934255886127544, .int .u64 1847814050463011016, .int .u64 2177327727835720531, .int .u64 2830643537854262169, .int .u64 3796741975233480872, .int .u64 4115178125766777443, .int .u64 5681478168544905931, .int .u64 6601373596472566643, .int .u64 7507060721942968483, .int .u64 8399075790359081724, .int .u64 8693463985226723168, .int .u64 9568029438360202098, .int .u64 10144078919501101548, .int .u64 10430055236837252648, .int .u64 11840083180663258601, .int .u64 13761210420658862357, .int .u64 14299343276471374635, .int .u64 14566680578165727644, .int .u64 15097957966210449927, .int .u64 16922976911328602910, .int .u64 17689382322260857208, .int .u64 500013540394364858, .int .u64 748580250866718886, .int .u64 1242879168328830382, .int .u64 1977374033974150939, .int .u64 2944078676154940804, .int .u64 3659926193048069267, .int .u64 4368137639120453308, .int .u64 4836135668995329356, .int .u64 5532061633213252278, .int .u64 6448918945643986474, .int .u64 6902733635092675308, .int .u64 7801388544844847127])).modify 2 (layC #[.int .u64 4794697086780616226, .int .u64 8158064640168781261, .int .u64 13096744586834688815, .int .u64 16840607885511220156, .int .u64 4131703408338449720, .int .u64 6480981068601479193, .int .u64 10538285296894168987, .int .u64 12329834152419229976, .int .u64 15566598209576043074, .int .u64 1334009975649890238, .int .u64 2608012711638119052, .int .u64 6128411473006802146, .int .u64 8268148722764581231, .int .u64 9286055187155687089, .int .u64 11230858885718282805, .int .u64 13951009754708518548, .int .u64 16472876342353939154, .int .u64 17275323862435702243, .int .u64 1135362057144423861, .int .u64 2597628984639134821, .int .u64 3308224258029322869, .int .u64 5365058923640841347, .int .u64 6679025012923562964, .int .u64 8573033837759648693, .int .u64 10970295158949994411, .int .u64 12119686244451234320, .int .u64 12683024718118986047, .int .u64 13788192230050041572, .int .u64 14330467153632333762, .int .u64 15395433587784984357, .int .u64 489312712824947311, .int .u64 1452737877330783856, .int .u64 2861767655752347644, .int .u64 3322285676063803686, .int .u64 5560940570517711597, .int .u64 5996557281743188959, .int .u64 7280758554555802590, .int .u64 8532644243296465576, .int .u64 9350256976987008742, .int .u64 10552545826968843579, .int .u64 11727347734174303076, .int .u64 12113106623233404929, .int .u64 14000437183269869457, .int .u64 14369950271660146224, .int .u64 15101387698204529176, .int .u64 15463397548674623760, .int .u64 17586052441742319658, .int .u64 1182934255886127544, .int .u64 1847814050463011016, .int .u64 2177327727835720531, .int .u64 2830643537854262169, .int .u64 3796741975233480872, .int .u64 4115178125766777443, .int .u64 5681478168544905931, .int .u64 6601373596472566643, .int .u64 7507060721942968483, .int .u64 8399075790359081724, .int .u64 8693463985226723168, .int .u64 9568029438360202098, .int .u64 10144078919501101548, .int .u64 10430055236837252648, .int .u64 11840083180663258601, .int .u64 13761210420658862357, .int .u64 14299343276471374635, .int .u64 14566680578165727644, .int .u64 15097957966210449927, .int .u64 16922976911328602910, .int .u64 17689382322260857208, .int .u64 500013540394364858, .int .u64 748580250866718886, .int .u64 1242879168328830382, .int .u64 1977374033974150939, .int .u64 2944078676154940804, .int .u64 3659926193048069267, .int .u64 4368137639120453308, .int .u64 4836135668995329356, .int .u64 5532061633213252278, .int .u64 6448918945643986474, .int .u64 6902733635092675308, .int .u64 7801388544844847127]) }
noncomputable def laidWorld5 (os : Os) : World :=
 { laidWorld4 os with heap := (laidWorld4 os).heap.modify 1 (layC #[.int .u64 6346243789798364141, .int .u64 1503914060200516822, .int .u64 0, .int .u64 1152921504606846976, .int .u64 15486807595281847581, .int .u64 14334777244411350896, .int .u64 18446744073709551614, .int .u64 1152921504606846975, .int .u64 11819153939886771969, .int .u64 14991950615390032711, .int .u64 14910419812499177061, .int .u64 259310039853996605, .int .u64 6346243789798364139, .int .u64 1503914060200516822, .int .u64 0, .int .u64 1152921504606846976]) }
end Go.Gx

/- The tables of all, and their cells in a row's world. -/
namespace Go.Gx
open Go.Proofs Go.Sp Go.Proofs.YthgclfedhgmpiaaDoor
open Go.ChangeShapes Go.WideShapes Go.ChangeAt Go.RowKit
set_option linter.unusedVariables false

theorem gTab : Tryd.prog.globalNamed "veil/scalar.table" = some 1 := by kernel_rfl
theorem gTabType : (Tryd.prog.globals[1]?).map (·.type) = some 102 := by kernel_rfl
def tabRows : List (List Int) := [[6346243789798364141, 1503914060200516822, 0, 1152921504606846976], [15486807595281847581, 14334777244411350896, 18446744073709551614, 1152921504606846975], [11819153939886771969, 14991950615390032711, 14910419812499177061, 259310039853996605], [6346243789798364139, 1503914060200516822, 0, 1152921504606846976]]

theorem tab_glob6 {W : World} (h : laidMetH Tryd.prog [("veil/veilref03.round", Rows.laid_veil_veilref03_round), ("veil/veilref03.first", Rows.laid_veil_veilref03_first), ("veil/hash.rounds", Rows.laid_veil_hash_rounds), ("veil/hash.start", Rows.laid_veil_hash_start), ("veil/scalar.table", Rows.laid_veil_scalar_table)] W) : Glob gh5 W fun _ => False := by
 intro g b hb
 rcases List.mem_append.1 hb with hb | hb
 ·exact tab_glob5 h g b hb
 have h' : laidMet Tryd.prog (("veil/veilref03.round", Lib.tabData .u64 K80) :: ("veil/veilref03.first", Lib.tabData .u64 start8) :: ("veil/hash.rounds", Lib.tabData .u64 K80) :: ("veil/hash.start", Lib.tabData .u64 start8) :: ("veil/scalar.table", .agg (tabRows.map (Lib.tabData .u64))) :: []) W := h
 have h' := laidMet.tail (laidMet.tail (laidMet.tail (laidMet.tail h')))
 obtain ⟨h1, h2⟩ := tab2_of_head (m := 4) (n := 4) gTab gTabType (e1 := 27) (e := 25) (by kernel_rfl) (by kernel_rfl) (by kernel_rfl) (by kernel_rfl) (by kernel_rfl) (by kernel_rfl) h'
 simp only [Sc.gh, List.mem_singleton, Prod.mk.injEq] at hb
 obtain ⟨rfl, rfl⟩ := hb
 refine ⟨_, _, rfl, ?_, h1, fun x => x, h2⟩
 have ok : ∀ r ∈ tabRows, r.length = 4 ∧ AllR .u64 r := by
  intro r hr
  simp only [tabRows, List.mem_cons, List.not_mem_nil, or_false] at hr
  rcases hr with rfl | rfl | rfl | rfl <;> refine ⟨rfl, fun z hz => ?_⟩ <;> simp only [List.mem_cons, List.not_mem_nil, or_false] at hz <;> rcases hz with rfl | rfl | rfl | rfl <;> exact ⟨by decide, by decide⟩
 have o0 := ok _ (List.mem_of_getElem? (show tabRows[0]? = some _ from rfl))
 have o1 := ok _ (List.mem_of_getElem? (show tabRows[1]? = some _ from rfl))
 have o2 := ok _ (List.mem_of_getElem? (show tabRows[2]? = some _ from rfl))
 have o3 := ok _ (List.mem_of_getElem? (show tabRows[3]? = some _ from rfl))
 exact ⟨_, _, ⟨o0.1, o0.2, rfl⟩, rfl, _, _, ⟨o1.1, o1.2, rfl⟩, rfl, _, _, ⟨o2.1, o2.2, rfl⟩, rfl, _, _, ⟨o3.1, o3.2, rfl⟩, rfl, rfl⟩

end Go.Gx

/- A law off a world that holds the globals: its arguments as data that is only read. -/
namespace Go.Gx
open Go.RowKit Go.ChangeShapes Go.WideShapes Go.ChangeAt
open Go.Proofs.YthgclfedhgmpiaaDoor.Rows (uptoBulk uptoBulkAll uptoSmall)
set_option linter.unusedVariables false

mutual
def shTyB (P : Program) : Sh → TypeId → Bool
 | .i k, t => (match P.underlying t with | some (.int k') => keq k k' | _ => false)
 | .tb, t => (match P.underlying t with | some .bool => true | _ => false)
 | .ts, t => (match P.underlying t with | some .string => true | _ => false)
 | .ints k, t => (match P.underlying t with
  | some (.slice e) => (match P.underlying e with | some (.int k') => keq k k' && (Nat.beq (P.cellsOf e) 1 && Nat.blt 0 (P.bytesOf e)) | _ => false)
  | _ => false)
 | .l sh, t => (match P.underlying t with
  | some (.slice e) => shTyB P sh e && (Nat.beq (P.cellsOf e) (shSize sh) && (Nat.blt 0 (shSize sh) && Nat.blt 0 (P.bytesOf e)))
  | _ => false)
 | .r fs, t => (match P.underlying t with
  | some (.struct ff) => shTysB P fs ff.toList 0 && Nat.beq (P.cellsOf t) (shSizes fs)
  | _ => false)
 | .arr n k, t => (match P.underlying t with
  | some (.array m e) => Nat.beq m n && (Nat.beq (P.cellsOf t) n && (Nat.beq (P.cellsOf e) 1 && (match P.underlying e with | some (.int k') => keq k k' | _ => false)))
  | _ => false)
def shTysB (P : Program) : List Sh → List Field → Nat → Bool
 | [], ff, _ => (match ff with | [] => true | _ => false)
 | s :: r, ff, o => (match ff with
  | f :: ff => Nat.beq f.offset o && (shTyB P s f.type && (Nat.beq (P.cellsOf f.type) (shSize s) && shTysB P r ff (o + shSize s)))
  | [] => false)
end

mutual
def roM : Sh → RO → Nat
 | .ts, d => (roS d).size
 | .ints _, d => (roL d).length
 | .l e, d => (roX d).length + ((roX d).map (roM e)).sum
 | .r fs, d => roMs fs d 0
 | .i _, _ => 0
 | .tb, _ => 0
 | .arr _ _, _ => 0
def roMs : List Sh → RO → Nat → Nat
 | [], _, _ => 0
 | s :: r, d, i => roM s (roN d i) + roMs r d (i + 1)
end

mutual
def roMx (N : Nat) : Sh → RO → Prop
 | .ts, d => (roS d).size ≤ N
 | .ints _, d => (roL d).length ≤ N
 | .l e, d => (roX d).length ≤ N ∧ ∀ x ∈ roX d, roMx N e x
 | .r fs, d => roMxs N fs d 0
 | .i _, _ => True
 | .tb, _ => True
 | .arr _ _, _ => True
def roMxs (N : Nat) : List Sh → RO → Nat → Prop
 | [], _, _ => True
 | s :: r, d, i => roMx N s (roN d i) ∧ roMxs N r d (i + 1)
end

section
variable {P : Program}

theorem weightsAll_mem {H : Type} {e : TypeId} {d : DataW H} : ∀ {l : List (DataW H)}, d ∈ l → ∀ n ∈ d.weights P e, n ∈ DataW.weightsAll P e l
 | y :: r, h, n, hn => by
  simp only [DataW.weightsAll, List.mem_append]
  rcases List.mem_cons.1 h with rfl | h
  ·exact .inl hn
  ·exact .inr (weightsAll_mem h n hn)

theorem bulk_pos {H : Type} (d : DataW H) : 1 ≤ uptoBulk d := by unfold uptoBulk; split <;> omega
theorem bulkAll_len {H : Type} : ∀ (l : List (DataW H)), l.length ≤ uptoBulkAll l
 | [] => by simp [uptoBulkAll]
 | d :: r => by have := bulk_pos d; have := bulkAll_len r; simp only [uptoBulkAll, List.length_cons]; omega
theorem bulkAll_app {H : Type} : ∀ (a b : List (DataW H)), uptoBulkAll (a ++ b) = uptoBulkAll a + uptoBulkAll b
 | [], b => by simp [uptoBulkAll]
 | d :: r, b => by simp only [List.cons_append, uptoBulkAll, bulkAll_app r b]; omega

theorem ChainR.snoc {R : RO → Value → Prop} {x : RO} {v : Value} (hx : R x v) : ∀ (xs : List RO) (cs : List Value), ChainR R xs cs → ChainR R (xs ++ [x]) (cs ++ v.cells.toList)
 | [], cs, h => by rw [show cs = [] from h]; exact ⟨v, [], hx, by simp, rfl⟩
 | y :: r, cs, h => by
  obtain ⟨u, c, h1, rfl, h3⟩ := h
  exact ⟨u, c ++ v.cells.toList, h1, by simp [List.append_assoc], ChainR.snoc hx r c h3⟩

theorem addr_of_cell {W : World} {a : Addr} {v : Value} (h : W.cell? a = some v) : a = ⟨a.block, a.off, none⟩ ∧ a.block < W.heap.size := by
 obtain ⟨bk, of, sp⟩ := a
 unfold World.cell? at h
 split at h
 ·rename_i hb
  have hb : W.heap[bk]? = _ := hb
  refine ⟨?_, (Array.getElem?_eq_some_iff.1 hb).1⟩
  split at h
  ·cases h
  ·rename_i hs
   have hs : ¬ sp.isSome = true := hs
   have : sp = none := by simpa using hs
   rw [this]
 ·cases h

theorem add_add_addr (a : Addr) (i j : Nat) : (a.add i).add j = a.add (i + j) := by
 unfold Addr.add
 by_cases h1 : i = 0 <;> by_cases h2 : j = 0 <;> simp [h1, h2, Nat.add_assoc]
theorem add_zero_addr (a : Addr) : a.add 0 = a := by simp [Addr.add]

mutual
theorem trod_ro {H : Type} {enc : TypeId × Value → H} {W : World} (N : Nat) : ∀ (sh : Sh) (t : TypeId) (fuel : Nat) (cs : List Value) (x : DataW H × List MemPlace), shTyB P sh t = true → DataW.trod enc P W 0 (fun _ => true) true fuel t cs = some x →
  ∃ ro v, cs = v.cells.toList ∧ RoD W (OutB W fun _ => False) sh ro v ∧ roM sh ro + 1 ≤ uptoBulk x.1 ∧ ((∀ n ∈ x.1.weights P t, n ≤ N) → roMx N sh ro)
 | .i k, t, fuel, cs, x, hs, h => by
  simp only [shTyB] at hs
  split at hs
  ·rename_i k' hu
   have hk := keq_eq hs
   subst hk
   cases fuel with
   | zero => simp [DataW.trod] at h
   | succ n =>
    unfold DataW.trod at h
    rw [hu] at h
    rcases cs with _ | ⟨c, _ | ⟨c2, r⟩⟩
    ·simp at h
    ·cases c <;> simp at h
     rename_i k2 z
     obtain ⟨⟨rfl, hz⟩, rfl⟩ := h
     refine ⟨.i z, .int k2 z, rfl, ?_, by simp [roM, uptoBulk], fun _ => trivial⟩
     simp only [RoD, roZ]
     refine ⟨trivial, ?_⟩
     simp only [Lit.wf, Bool.and_eq_true, decide_eq_true_eq] at hz
     cases k2 <;> simp [InR, IntKind.min, IntKind.max, IntKind.bits, IntKind.signed] at hz ⊢ <;> omega
    ·simp at h
  ·cases hs
 | .tb, t, fuel, cs, x, hs, h => by
  simp only [shTyB] at hs
  split at hs
  ·rename_i hu
   cases fuel with
   | zero => simp [DataW.trod] at h
   | succ n =>
    unfold DataW.trod at h
    rw [hu] at h
    rcases cs with _ | ⟨c, _ | ⟨c2, r⟩⟩
    ·simp at h
    ·cases c <;> simp at h
     rename_i b
     subst h
     exact ⟨.b b, .bool b, rfl, by simp only [RoD, roB], by simp [roM, uptoBulk], fun _ => trivial⟩
    ·simp at h
  ·cases hs
 | .ts, t, fuel, cs, x, hs, h => by
  simp only [shTyB] at hs
  split at hs
  ·rename_i hu
   cases fuel with
   | zero => simp [DataW.trod] at h
   | succ n =>
    unfold DataW.trod at h
    rw [hu] at h
    rcases cs with _ | ⟨c, _ | ⟨c2, r⟩⟩
    ·simp at h
    ·cases c <;> simp at h
     rename_i s
     obtain ⟨hz, rfl⟩ := h
     refine ⟨.s s, .string s, rfl, ?_, ?_, fun hw => ?_⟩
     ·simp only [RoD, roS]
      refine ⟨trivial, ?_⟩
      have : s.size ≤ maxLen := hz
      simp only [maxLen] at this
      omega
     ·simp only [roM, roS, uptoBulk]
      have : s.data.toList.length = s.size := by simp
      omega
     ·have := hw s.data.toList.length (by simp [DataW.weights])
      have e : s.data.toList.length = s.size := by simp
      simp only [roMx, roS]
      omega
    ·simp at h
  ·cases hs
 | .ints k, t, fuel, cs, x, hs, h => by
  simp only [shTyB] at hs
  split at hs
  ·rename_i e hu
   split at hs
   ·rename_i k' hue
    simp only [Bool.and_eq_true] at hs
    have hk := keq_eq hs.1
    subst hk
    have hbs : 0 < P.bytesOf e := by have := hs.2.2; simp [Nat.blt] at this; omega
    rcases open_ints hu hue (Nat.eq_of_beq_eq_true hs.2.1) h with ⟨rfl, rfl⟩ | ⟨a, len, cap, zs, rfl, h2, h3, h4, h5, h6, h7, h8⟩
    ·refine ⟨.l [], .slice none 0 0, rfl, ?_, by simp [roM, roL, uptoBulk], fun _ => Nat.zero_le _⟩
     simp only [RoD]
     exact ⟨none, 0, rfl, Nat.le_refl _, by simp [roL], (fun z hz => by cases hz), .inr ⟨rfl, rfl⟩⟩
    ·have hzl : zs.length = cap := by simpa using h5
     have hR : AllR k zs := fun z hz => by
      have := h8 z hz
      simp only [Lit.wf, Bool.and_eq_true, decide_eq_true_eq] at this
      cases k <;> simp [InR, IntKind.min, IntKind.max, IntKind.bits, IntKind.signed] at this ⊢ <;> omega
     have hlen : (zs.take len).length = len := by rw [List.length_take]; omega
     have hmax : cap ≤ 140737488355328 ∨ True := .inr trivial
     refine ⟨.l (zs.take len), .slice (some a) len cap, rfl, ?_, ?_, fun hw => ?_⟩
     ·simp only [RoD]
      have er : roL (.l (zs.take len)) = zs.take len := rfl
      rw [er]
      refine ⟨some a, cap, by rw [hlen], by omega, ?_, fun z hz => hR z (List.mem_of_mem_take hz), ?_⟩
      ·rw [hlen]; simp only [maxLen] at h4; omega
      ·rcases Nat.eq_zero_or_pos cap with h0 | h0
       ·exact .inr ⟨by omega, h0⟩
       ·have h00 := h7 0 (by omega)
        rw [add_zero_addr] at h00
        obtain ⟨ha, hb⟩ := addr_of_cell h00
        refine .inl ⟨a.block, a.off, by rw [← ha], ⟨hb, fun h => h⟩, fun i u hu => ?_⟩
        rw [List.getElem?_map, Option.map_eq_some_iff] at hu
        obtain ⟨z, hz, rfl⟩ := hu
        rw [List.getElem?_take] at hz
        split at hz
        ·rename_i hi
         have := h7 i (by omega)
         have ea : a.add i = ⟨a.block, a.off + i, none⟩ := by rw [ha]; exact Addr.add_mid _ _ _
         rw [ea] at this
         rw [this]
         simp [List.getD, hz]
        ·cases hz
     ·rw [h6]
      simp only [roM, roL, uptoBulk]
      have := bulkAll_len (lits (H := H) k (zs.take len))
      have e : (lits (H := H) k (zs.take len)).length = (zs.take len).length := by simp [lits]
      omega
     ·rw [h6] at hw
      have elen : ∀ l : List Int, (lits (H := H) k l).length = l.length := fun l => by simp [lits]
      have := hw (((lits (H := H) k (zs.take len)).length + (lits (H := H) k (zs.drop len)).length) * P.bytesOf e) (by simp [DataW.weights, hu])
      rw [elen, elen] at this
      have h9 : ((zs.take len).length + (zs.drop len).length) * 1 ≤ ((zs.take len).length + (zs.drop len).length) * P.bytesOf e := Nat.mul_le_mul_left _ hbs
      show (zs.take len).length ≤ N
      omega
   ·cases hs
  ·cases hs
 | .l sh, t, fuel, cs, x, hs, h => by
  simp only [shTyB] at hs
  split at hs
  ·rename_i e hu
   simp only [Bool.and_eq_true] at hs
   obtain ⟨hs1, hs2, hs3, hs4⟩ := hs
   have hbs : 0 < P.bytesOf e := by simp [Nat.blt] at hs4; omega
   have hc := Nat.eq_of_beq_eq_true hs2
   have hpos : 0 < shSize sh := by simp [Nat.blt] at hs3; omega
   rcases DataW.trod_slice hu h with ⟨rfl, rfl⟩ | ⟨a, len, cap, elems, rest, n, rfl, rfl, rfl, hb, hl, hm, hlen, hel, hsp, hns⟩
   ·refine ⟨.r [], .slice none 0 0, rfl, ?_, by simp [roM, roX, uptoBulk], fun _ => ⟨Nat.zero_le _, fun x hx => by cases hx⟩⟩
    simp only [RoD]
    exact ⟨none, 0, [], rfl, Nat.le_refl _, by simp [roX], rfl, .inr ⟨rfl, rfl⟩⟩
   ·obtain ⟨hrl, hrest⟩ := hsp rfl
    have hall : ∀ i, i < cap → ∃ ccs y, W.cells? 0 (a.add (i * P.cellsOf e)) (P.cellsOf e) = some ccs ∧ DataW.trod enc P W 0 (fun _ => true) true n e ccs = some y ∧ (i < len → elems[i]? = some y) := fun i hi => by
     by_cases hil : i < len
     ·have h1 := hel i hil
      have h2 : elems[i]? = some elems[i] := List.getElem?_eq_getElem (by omega)
      rw [h2, Option.bind_eq_some_iff] at h1
      obtain ⟨ccs, q1, q2⟩ := h1
      exact ⟨ccs, _, q1, q2, fun _ => h2⟩
     ·have h1 := hrest (i - len) (by omega)
      have h2 : rest[i - len]? = some rest[i - len] := List.getElem?_eq_getElem (by omega)
      rw [h2, Option.bind_eq_some_iff, show len + (i - len) = i by omega] at h1
      obtain ⟨ccs, q1, q2⟩ := h1
      exact ⟨ccs, _, q1, q2, fun h => absurd h hil⟩
    have hblk : 0 < cap → a = ⟨a.block, a.off, none⟩ ∧ a.block < W.heap.size := fun h0 => by
     obtain ⟨ccs, y, q1, q2, _⟩ := hall 0 h0
     obtain ⟨_, q3, q4⟩ := World.cells?_some q1
     have := q4 0 (by omega)
     rw [Nat.zero_mul, add_zero_addr, add_zero_addr] at this
     obtain ⟨v, hv⟩ : ∃ v, ccs[0]? = some v := ⟨ccs[0]'(by omega), List.getElem?_eq_getElem _⟩
     rw [hv] at this
     exact addr_of_cell this
    have hchain : ∀ m, m ≤ len → ∃ ros cs', ros.length = m ∧ ChainR (RoD W (OutB W fun _ => False) sh) ros cs' ∧ cs'.length = shSize sh * m ∧ (∀ i u, cs'[i]? = some u → W.cell? (a.add i) = some u) ∧ ros.length + (ros.map (roM sh)).sum ≤ uptoBulkAll ((elems.take m).map (·.1)) ∧ ((∀ y ∈ elems, ∀ n ∈ y.1.weights P e, n ≤ N) → ∀ ro ∈ ros, roMx N sh ro) := by
     intro m
     induction m with
     | zero => intro _; exact ⟨[], [], rfl, rfl, by simp, (fun i u h => by simp at h), by simp, fun _ x hx => by cases hx⟩
     | succ m ih =>
      intro hm'
      obtain ⟨ros, cs', r1, r2, r3, r4, r5, r6⟩ := ih (by omega)
      obtain ⟨ccs, y, q1, q2, q3⟩ := hall m (by omega)
      have q3 := q3 (by omega)
      obtain ⟨ro, v, rfl, s2, s3, s4⟩ := trod_ro N sh e n ccs y hs1 q2
      obtain ⟨_, q5, q6⟩ := World.cells?_some q1
      have hvl := RoD_cells sh ro v s2
      refine ⟨ros ++ [ro], cs' ++ v.cells.toList, by simp [r1], ChainR.snoc s2 ros cs' r2, by rw [List.length_append, r3, hvl, Nat.mul_add]; omega, fun i u hu => ?_, ?_, fun hy ro' hr => ?_⟩
      ·rcases Nat.lt_or_ge i cs'.length with hi | hi
       ·rw [List.getElem?_append_left hi] at hu; exact r4 i u hu
       ·rw [List.getElem?_append_right hi] at hu
        have hi2 : i - cs'.length < v.cells.toList.length := (List.getElem?_eq_some_iff.1 hu).1
        have := q6 (i - cs'.length) (by omega)
        rw [hu] at this
        have e1 : m * P.cellsOf e = cs'.length := by rw [hc, r3, Nat.mul_comm]
        rw [← this, add_add_addr, e1, Nat.add_sub_cancel' hi]
      ·rw [List.map_append, List.sum_append, List.length_append, List.take_add_one, q3, List.map_append, bulkAll_app]
       simp only [List.map_cons, List.map_nil, List.sum_cons, List.sum_nil, List.length_cons, List.length_nil, Option.toList_some, uptoBulkAll]
       omega
      ·rcases List.mem_append.1 hr with hr | hr
       ·exact r6 hy ro' hr
       ·simp only [List.mem_cons, List.not_mem_nil, or_false] at hr
        subst hr
        exact s4 fun k hk => hy y (List.mem_of_getElem? q3) k hk
    obtain ⟨ros, cs', r1, r2, r3, r4, r5, r6⟩ := hchain len (Nat.le_refl _)
    refine ⟨.r ros, .slice (some a) len cap, rfl, ?_, ?_, fun hw => ⟨?_, ?_⟩⟩
    ·simp only [RoD]
     have er : roX (.r ros) = ros := rfl
     rw [er]
     refine ⟨some a, cap, cs', by rw [r1], by omega, ?_, r2, ?_⟩
     ·rw [r1]; simp only [maxLen] at hm; omega
     ·rcases Nat.eq_zero_or_pos cap with h0 | h0
      ·exact .inr ⟨by omega, h0⟩
      ·obtain ⟨ha, hb⟩ := hblk h0
       refine .inl ⟨a.block, a.off, by rw [← ha], ⟨hb, fun h => h⟩, fun i u hu => ?_⟩
       have := r4 i u hu
       have ea : a.add i = ⟨a.block, a.off + i, none⟩ := by rw [ha]; exact Addr.add_mid _ _ _
       rwa [ea] at this
    ·simp only [roM, roX, uptoBulk]
     rw [List.take_of_length_le (by omega)] at r5
     have := bulkAll_len (elems.map (·.1))
     rw [List.length_map] at this
     omega
    ·have := hw (((elems.map (·.1)).length + (rest.map (·.1)).length) * P.bytesOf e) (by simp [DataW.weights, hu])
     rw [List.length_map, List.length_map] at this
     have h9 : (elems.length + rest.length) * 1 ≤ (elems.length + rest.length) * P.bytesOf e := Nat.mul_le_mul_left _ hbs
     show ros.length ≤ N
     omega
    ·refine r6 fun y hy k hk => hw k ?_
     simp only [DataW.weights, hu, List.mem_cons, List.mem_append]
     exact .inr (.inl (weightsAll_mem (List.mem_map.2 ⟨y, hy, rfl⟩) k hk))
  ·cases hs
 | .arr n k, t, fuel, cs, x, hs, h => by
  simp only [shTyB] at hs
  split at hs
  ·rename_i m e hu
   simp only [Bool.and_eq_true] at hs
   obtain ⟨h1, h2, h3, h4⟩ := hs
   have h1 := Nat.eq_of_beq_eq_true h1
   have h2 := Nat.eq_of_beq_eq_true h2
   have h3 := Nat.eq_of_beq_eq_true h3
   subst h1
   split at h4
   ·rename_i k' hue
    have hk := keq_eq h4
    subst hk
    obtain ⟨xs, q, rfl, rfl, hl, hxl, hel⟩ := DataW.trod_array hu h
    have hcell : ∀ i, i < cs.length → ∃ z, cs[i]? = some (.int k z) ∧ InR k z := fun i hi => by
     have := hel i (by omega)
     rw [h3, Nat.mul_one, List.drop_eq_getElem_cons hi, List.take_succ_cons, List.take_zero, List.getElem?_eq_getElem (by omega)] at this
     cases q with
     | zero => simp [DataW.trod] at this
     | succ q =>
      unfold DataW.trod at this
      rw [hue] at this
      rw [List.getElem?_eq_getElem hi]
      generalize cs[i] = c at *
      cases c <;> simp at this
      rename_i k2 z
      obtain ⟨⟨rfl, hz⟩, _⟩ := this
      refine ⟨z, rfl, ?_⟩
      simp only [Lit.wf, Bool.and_eq_true, decide_eq_true_eq] at hz
      cases k2 <;> simp [InR, IntKind.min, IntKind.max, IntKind.bits, IntKind.signed] at hz ⊢ <;> omega
    have hall : ∀ (cs : List Value), (∀ i, i < cs.length → ∃ z, cs[i]? = some (.int k z) ∧ InR k z) → ∃ l : List Int, cs = l.map (Value.int k) ∧ AllR k l := by
     intro cs
     induction cs with
     | nil => intro _; exact ⟨[], rfl, fun z hz => by cases hz⟩
     | cons c r ih =>
      intro hc
      obtain ⟨l, e1, e2⟩ := ih fun i hi => by
       have := hc (i + 1) (by simpa using hi)
       simpa using this
      obtain ⟨z, z1, z2⟩ := hc 0 (by simp)
      simp only [List.getElem?_cons_zero, Option.some.injEq] at z1
      refine ⟨z :: l, by rw [List.map_cons, ← e1, z1], fun y hy => ?_⟩
      rcases List.mem_cons.1 hy with rfl | hy
      ·exact z2
      ·exact e2 y hy
    obtain ⟨l, e1, e2⟩ := hall cs hcell
    refine ⟨.l l, .agg (l.map (Value.int k)).toArray, by rw [e1]; simp [Value.cells], ?_, by simp [roM, uptoBulk], fun _ => trivial⟩
    simp only [RoD]
    have er : roL (.l l) = l := rfl
    rw [er]
    refine ⟨?_, e2, rfl⟩
    have : cs.length = l.length := by rw [e1, List.length_map]
    omega
   ·cases h4
  ·cases hs
 | .r fs, t, fuel, cs, x, hs, h => by
  simp only [shTyB] at hs
  split at hs
  ·rename_i ff hu
   simp only [Bool.and_eq_true] at hs
   obtain ⟨xs, n, rfl, rfl, hl, hxl, hel⟩ := DataW.trod_struct hu h
   have hsz := Nat.eq_of_beq_eq_true hs.2
   obtain ⟨ros, r1, r2, r3, r4⟩ := trods_ro N fs ff.toList 0 n cs xs hs.1 (by simpa using hxl) (fun i f hf => hel i f (by simpa using hf)) (by omega)
   have r2 := r2 []
   have r3 := r3 []
   rw [List.drop_zero] at r2
   refine ⟨.r ros, .agg cs.toArray, by simp [Value.cells], ?_, ?_, fun hw => ?_⟩
   ·simp only [RoD]
    exact ⟨cs, r2, rfl⟩
   ·simp only [roM, uptoBulk]
    have : roMs fs (.r ros) 0 + fs.length ≤ uptoBulkAll (xs.map (·.1)) := r3
    omega
   ·simp only [roMx]
    refine r4 (fun k hk => hw k ?_) []
    simp only [DataW.weights, hu]
    exact hk
  ·cases hs
theorem trods_ro {H : Type} {enc : TypeId × Value → H} {W : World} (N : Nat) : ∀ (fs : List Sh) (ff : List Field) (o n : Nat) (cs : List Value) (xs : List (DataW H × List MemPlace)), shTysB P fs ff o = true → xs.length = ff.length →
  (∀ (i : Nat) (f : Field), ff[i]? = some f → DataW.trod enc P W 0 (fun _ => true) true n f.type ((cs.drop f.offset).take (P.cellsOf f.type)) = xs[i]?) → cs.length = o + shSizes fs →
  ∃ ros : List RO, ros.length = fs.length ∧ (∀ pre : List RO, RoCs W (OutB W fun _ => False) fs (.r (pre ++ ros)) pre.length (cs.drop o)) ∧ (∀ pre : List RO, roMs fs (.r (pre ++ ros)) pre.length + fs.length ≤ uptoBulkAll (xs.map (·.1))) ∧
   ((∀ k ∈ DataW.weightsEach P (ff.map (·.type)) (xs.map (·.1)), k ≤ N) → ∀ pre : List RO, roMxs N fs (.r (pre ++ ros)) pre.length)
 | [], ff, o, n, cs, xs, hs, hx, hel, hl => by
  refine ⟨[], rfl, fun pre => ?_, fun pre => by simp [roMs], fun _ pre => by simp only [roMxs]⟩
  simp only [RoCs]
  exact List.drop_eq_nil_of_le (by simp only [shSizes] at hl; omega)
 | s :: r, ff, o, n, cs, xs, hs, hx, hel, hl => by
  simp only [shTysB] at hs
  split at hs
  ·rename_i f ff
   simp only [Bool.and_eq_true] at hs
   obtain ⟨h1, h2, h3, h4⟩ := hs
   have h1 := Nat.eq_of_beq_eq_true h1
   have h3 := Nat.eq_of_beq_eq_true h3
   rcases xs with _ | ⟨x, xt⟩
   ·simp at hx
   simp only [shSizes] at hl
   have e0 := hel 0 f rfl
   rw [h1, h3] at e0
   obtain ⟨ro, v, q1, q2, q3, q4⟩ := trod_ro N s f.type n _ x h2 e0
   obtain ⟨ros, r1, r2, r3, r4⟩ := trods_ro N r ff (o + shSize s) n cs xt h4 (by simpa using hx) (fun i f' hf => by have := hel (i + 1) f' (by simpa using hf); simpa using this) (by omega)
   have hro : ∀ pre : List RO, roN (.r (pre ++ ro :: ros)) pre.length = ro := fun pre => by simp [roN, roX, List.getD_eq_getElem?_getD]
   have hpre : ∀ pre : List RO, (pre ++ [ro]) ++ ros = pre ++ ro :: ros := fun pre => by simp
   refine ⟨ro :: ros, by simp [r1], fun pre => ?_, fun pre => ?_, fun hw pre => ?_⟩
   ·simp only [RoCs]
    refine ⟨v, cs.drop (o + shSize s), by rw [hro]; exact q2, ?_, ?_⟩
    ·rw [← q1, ← List.drop_drop, List.take_append_drop]
    ·have := r2 (pre ++ [ro])
     rw [hpre, List.length_append] at this
     exact this
   ·have := r3 (pre ++ [ro])
    rw [hpre, List.length_append] at this
    have h5 : roMs r (.r (pre ++ ro :: ros)) (pre.length + 1) + r.length ≤ uptoBulkAll (xt.map (·.1)) := this
    simp only [roMs, hro, List.map_cons, uptoBulkAll, List.length_cons]
    omega
   ·simp only [List.map_cons, DataW.weightsEach, List.mem_append] at hw
    have := r4 (fun k hk => hw k (.inr hk)) (pre ++ [ro])
    rw [hpre, List.length_append] at this
    simp only [roMxs, hro]
    exact ⟨q4 fun k hk => hw k (.inl hk), this⟩
  ·cases hs
end

def slSh : Sh → Bool
 | .ints _ => true
 | .l _ => true
 | _ => false

theorem arg_ro {H : Type} {enc : TypeId × Value → H} {W : World} (N : Nat) (sh : Sh) {t : TypeId} {v : Value} {d : DataW H} {ps : List MemPlace} (hs : shTyB P sh t = true) (hsl : slSh sh = true) (hv : v.cells.toList = [v]) (h : DataW.Trod enc P W 0 (fun _ => true) true t v d ps) :
  ∃ ro, RoD W (OutB W fun _ => False) sh ro v ∧ (∃ ad n cap, v = .slice ad n cap) ∧ roM sh ro + 1 ≤ uptoBulk d ∧ ((∀ n ∈ d.weights P t, n ≤ N) → roMx N sh ro) := by
 obtain ⟨fuel, h⟩ := h
 obtain ⟨ro, u, e, q1, q2, q3⟩ := trod_ro N sh t fuel _ _ hs h
 have hu : ∃ ad n cap, u = .slice ad n cap := by
  cases sh <;> simp only [slSh, Bool.false_eq_true] at hsl <;> simp only [RoD] at q1
  ·obtain ⟨a, cap, rfl, _⟩ := q1; exact ⟨_, _, _, rfl⟩
  ·obtain ⟨a, cap, cs, rfl, _⟩ := q1; exact ⟨_, _, _, rfl⟩
 have huv : v = u := by
  obtain ⟨ad, n, cap, rfl⟩ := hu
  rw [hv] at e
  simpa [Value.cells] using e
 subst huv
 exact ⟨ro, q1, hu, q2, q3⟩

theorem law_gen {Γ : Tab} (hΓ : TabOk P Γ) (hgl : Γ.gl = keysOf Γ.gh) (hlow : ∀ g ∈ keysOf Γ.gh, g < 490) {f : FuncId} {fn : Func} (hf : P.funcs[f]? = some fn) {av : List AV} {args' : List SV} {L : Loops} {K : List RV → List (Option (List Seg)) → Prop} {inv : Nat → List Pv → Nat → Prop}
  (k1 : okA 600 av args' []) (k2 : args'.length ≤ fn.ntmps) (k3 : VcG 0 Γ fn L (Γ.gh ++ (490, .world) :: []) args' K inv) (hK : ∀ rvs fin, K rvs fin → ∃ e, rvs = [.v (.b e true)])
  {W : World} {vs : List Value} (hG : Glob Γ.gh W fun _ => False) (hA : AsD W (OutB W fun _ => False) (fun _ => none) (fun _ => { blk := 0, off := 0, cap := 0 }) av vs []) :
  Calls P f vs.toArray W fun e w' => e = .returned (.bool true) ∧ Below W.heap.size W w' := by
 have hm := mem_start W fun _ => { blk := 0, off := 0, cap := 0 }
 obtain ⟨hh1, hh2⟩ := okA_heap av vs [] 600 args' [] hA k1
 obtain ⟨ρ1, m1, m2, m3, m4, m5⟩ := gen_mem hG hgl hlow hm (ks := []) (fun k hk => by cases hk) List.nodup_nil (M' := fun _ => False) (fun b => ⟨fun h => h.elim, fun ⟨k, hk, _⟩ => by cases hk⟩) hh1 hh2
 have hargs := okA_args m3 m4 av vs [] 600 args' [] hA k1 (fun i hi => by simp at hi)
 refine (vcG_calls hΓ hf k3 k2 m2 m1 hargs).mono fun e w' he => ?_
 obtain ⟨x, v, h', ρ', rfl, r1, r2, r3, r4⟩ := he
 obtain ⟨rvs', fin', t1, t3, t4, t5⟩ := kvG_sound r3 r2 r1
 obtain ⟨e, rfl⟩ := hK _ _ t1
 rcases t3 with ⟨r, hr, hd⟩ | ⟨hn, _⟩
 ·simp only [List.cons.injEq, and_true] at hr
  subst hr
  simp only [RvD, D] at hd
  exact ⟨by rw [hd], r3.frame.below fun _ h => h⟩
 ·exact absurd rfl hn

end
end Go.Gx

/- TranscriptPlays: transcripts played by a list of steps, with forks and new ones, hold what their document holds. For labels and steps that are not more than the second form's bound. The tables lie as the program's text lays them. -/
namespace Go.Gx
open Go.Proofs Go.Sp Go.RowKit
set_option linter.unusedVariables false
set_option maxRecDepth 100000
namespace TranscriptPlays
theorem flat_sum : ∀ xs : List RO, ((xs.map roL).flatten).length ≤ (xs.map (roM (.ints .u8))).sum
 | [] => by simp
 | x :: xs => by
   have := flat_sum xs
   have h : roM (.ints .u8) x = (roL x).length := rfl
   simp only [List.map_cons, List.flatten_cons, List.length_append, List.sum_cons]
   omega
theorem parts_len : ∀ ps : List (List Int), ((ps.map fun p => le8 (p.length : Int) ++ p).flatten).length = 8 * ps.length + ps.flatten.length
 | [] => rfl
 | p :: ps => by
   have := parts_len ps
   simp only [List.map_cons, List.flatten_cons, List.length_append, List.length_cons, le8_len]
   omega
theorem mem_sum : ∀ {l : List Nat} {x : Nat}, x ∈ l → x ≤ l.sum
 | y :: r, x, h => by
  rw [List.sum_cons]
  rcases List.mem_cons.1 h with rfl | h
  ·omega
  ·have := mem_sum h; omega
theorem roN_mem {d : RO} {j : Nat} (h : j < (roX d).length) : roN d j ∈ roX d := by
 rw [show roN d j = (roX d)[j] by simp [roN, List.getD_eq_getElem?_getD, h]]; exact List.getElem_mem h
theorem sz_of {d : RO} (h : roM (.l (.r [.i .i64, .i .i64, .ts, .l (.ints .u8)])) d ≤ 1048576) : ∀ j, j < (roX d).length → playOk (roN d j) := fun j hj => by
 have h : (roX d).length + ((roX d).map (roM (.r [.i .i64, .i .i64, .ts, .l (.ints .u8)]))).sum ≤ 1048576 := h
 have hm : roM (.r [.i .i64, .i .i64, .ts, .l (.ints .u8)]) (roN d j) ∈ (roX d).map (roM (.r [.i .i64, .i .i64, .ts, .l (.ints .u8)])) :=
  List.mem_map.2 ⟨roN d j, by rw [show roN d j = (roX d)[j] by simp [roN, List.getD_eq_getElem?_getD, hj]]; exact List.getElem_mem hj, rfl⟩
 have hle := mem_sum hm
 have e : roM (.r [.i .i64, .i .i64, .ts, .l (.ints .u8)]) (roN d j) = 0 + (0 + ((roS (roN (roN d j) 2)).size + ((roX (roN (roN d j) 3)).length + ((roX (roN (roN d j) 3)).map (roM (.ints .u8))).sum + 0))) := rfl
 have hf := flat_sum (roX (roN (roN d j) 3))
 have hp : (frL (bytesI (roS (roN (roN d j) 2))) ((roX (roN (roN d j) 3)).map roL)).length = 8 + (roS (roN (roN d j) 2)).size + 8 + (8 * (roX (roN (roN d j) 3)).length + ((roX (roN (roN d j) 3)).map roL).flatten.length) := by
  unfold frL partsL
  simp only [List.length_append, le8_len, bytesI_len]
  rw [parts_len, List.length_map]
 refine ⟨by omega, fun i hi => ?_, by omega⟩
 have hmi : roM (.ints .u8) (roN (roN (roN d j) 3) i) ∈ (roX (roN (roN d j) 3)).map (roM (.ints .u8)) :=
  List.mem_map.2 ⟨roN (roN (roN d j) 3) i, roN_mem hi, rfl⟩
 have h1 := mem_sum hmi
 have h2 : roM (.ints .u8) (roN (roN (roN d j) 3) i) = (roL (roN (roN (roN d j) 3) i)).length := rfl
 omega

theorem str_arg {P : Program} {H : Type} {enc : TypeId × Value → H} {W : World} (N : Nat) {t : TypeId} {s : ByteArray} {d : DataW H} {ps : List MemPlace} (hs : shTyB P .ts t = true) (h : DataW.Trod enc P W 0 (fun _ => true) true t (.string s) d ps) :
  s.size + 1 ≤ Go.Proofs.YthgclfedhgmpiaaDoor.Rows.uptoBulk d ∧ ((∀ n ∈ d.weights P t, n ≤ N) → s.size ≤ N) := by
 obtain ⟨fuel, h⟩ := h
 obtain ⟨ro, u, e, q1, q2, q3⟩ := trod_ro N .ts t fuel _ _ hs h
 simp only [RoD] at q1
 obtain ⟨rfl, _⟩ := q1
 have e : s = roS ro := by simpa [Value.cells] using e
 rw [e]
 exact ⟨q2, q3⟩

def inv5 (d : RO) (key : Nat) (ps : List Pv) (m : Nat) : Prop :=
  ∃ (j : Nat) (S : List (List Int)), (∀ s ∈ S, s.length = 64) ∧ S.length ≤ (roX d).length + 1 ∧
   ((key = 7 ∧ j ≤ (roX d).length ∧ 0 < S.length ∧ S.length ≤ j + 1 ∧ ps = [.ro d, .z (S.length : Int), .z (S.length : Int), .z (j : Int), .l K80, .l K80, .n S.length, .ll (mk S), .ll S] ∧ m = 4194304 - j) ∨
    (key = 31 ∧ j ≤ S.length ∧ ps = [.z (S.length : Int), .z (S.length : Int), .z (j : Int), .l K80, .l K80, .n S.length, .ll (mk S), .ll S] ∧ m = S.length - j))
theorem law (W : World) (hG : Glob gh5 W fun _ => False) (s : ByteArray) (hx : s.size ≤ reachBytes)
  (d : RO) (v : Value) (hv : RoD W (OutB W fun _ => False) (.l (.r [.i .i64, .i .i64, .ts, .l (.ints .u8)])) d v) (hs : ∃ ad n cap, v = .slice ad n cap) (hx1 : roMx reachBytes (.l (.r [.i .i64, .i .i64, .ts, .l (.ints .u8)])) d)
  (hM : s.size + roM (.l (.r [.i .i64, .i .i64, .ts, .l (.ints .u8)])) d ≤ 1048576) :
  Calls Tryd.prog 5 #[.string s, v] W fun e w' => e = .returned (.bool true) ∧ Below W.heap.size W w' := by
 have hd := sz_of (d := d) (by omega)
 have hL : (roX d).length ≤ 1048576 := by
  have : roM (.l (.r [.i .i64, .i .i64, .ts, .l (.ints .u8)])) d = (roX d).length + ((roX d).map (roM (.r [.i .i64, .i .i64, .ts, .l (.ints .u8)]))).sum := rfl
  omega
 refine law_gen Ψ8_ok rfl glow5 rfl (fn := Tryd.f5) (L := L5) (inv := inv5 d) (av := [.v (.s s), .d (.l (.r [.i .i64, .i .i64, .ts, .l (.ints .u8)])) d]) (args' := [.s s, .ro 490 shL d]) (K := fun rvs fin => ∃ e, rvs = [.v (.b e true)]) ⟨rfl, rfl, trivial⟩ (Nat.le_of_ble_eq_true (by kernel_rfl)) ⟨?_, ?_, ?_⟩ (fun _ _ h => h) hG
  ⟨_, _, rfl, ⟨rfl, by omega⟩, v, _, rfl, hv, rfl, rfl⟩
 ·intro kk t ht g hg
  have hg : g ∈ [3, 0, 4, 2, 1, 490] := hg
  simp only [List.mem_cons, List.not_mem_nil, or_false] at hg
  simp only [L5, List.mem_cons, List.not_mem_nil, or_false, Prod.mk.injEq] at ht
  rcases ht with ⟨rfl, rfl⟩ | ⟨rfl, rfl⟩ <;> rcases hg with rfl | rfl | rfl | rfl | rfl | rfl <;> exact ⟨by omega, rfl⟩
 ·rintro vk t ps mm ht ⟨j, S, hS, hSl, ⟨rfl, hj, h0, hk, rfl, rfl⟩ | ⟨rfl, hj, rfl, rfl⟩⟩
  all_goals simp only [L5, List.mem_cons, List.not_mem_nil, or_false, Prod.mk.injEq, Nat.reduceEqDiff, false_and, true_and, false_or, or_false] at ht
  all_goals subst ht
  ·show lc5a d (S.length : Int) (S.length : Int) (j : Int) S.length (mk S) S _ _
   exact step5 hd hL h0 hS hk hj (fun S' hlt hS' h0' hk' => ⟨4194304 - (j + 1), by omega, j + 1, S', hS', by omega, .inl ⟨rfl, by omega, h0', hk', rfl, rfl⟩⟩)
    ⟨S.length - 0, by omega, 0, S, hS, hSl, .inr ⟨rfl, Nat.zero_le _, rfl, rfl⟩⟩
  ·show lc5b (S.length : Int) (S.length : Int) (j : Int) S.length (mk S) S _ _
   exact step5b (by omega) hS fun hlt => ⟨S.length - (j + 1), by omega, j + 1, S, hS, hSl, .inr ⟨rfl, by omega, rfl, rfl⟩⟩
 ·show vc5 s d _ _
  rw [vc5_eq]
  have hl : (frL tagT [bytesI s]).length = 39 + s.size := by
   rw [frL_len1, bytesI_len, show tagT.length = 15 from rfl]
   omega
  refine ⟨need_of (by omega), ?_⟩
  intro x1 e1 l1 _
  refine ⟨need_of (by omega), ?_⟩
  intro x2 e2 _ _
  refine ⟨rfl, 4194304 - 0, 0, [x1], fun s hs => by rw [List.mem_singleton.1 hs]; exact l1, by rw [List.length_singleton]; omega, .inl ⟨rfl, Nat.zero_le _, by rw [List.length_singleton]; omega, by rw [List.length_singleton]; omega, ?_, rfl⟩⟩
  rw [e2, ← e1]
  rfl
end TranscriptPlays

namespace TranscriptPlays
open Go.Proofs.YthgclfedhgmpiaaDoor
open Go.ChangeShapes Go.WideShapes Go.ChangeAt Go.RowKit
theorem reads (t : Nat) (h : t ∈ Tryd.f5.params.toList) : Tryd.prog.readableRec t = true ∧ t < Tryd.prog.types.size := by
 have hp : Tryd.f5.params.toList = [9, 23] := by kernel_rfl
 rw [hp] at h
 simp only [List.mem_cons, List.not_mem_nil, or_false] at h
 rcases h with rfl | rfl <;> exact ⟨by kernel_rfl, Nat.le_of_ble_eq_true (by kernel_rfl)⟩

set_option maxRecDepth 100000 in
/-- What the call gives, for every argument and every world that holds the tables. -/
theorem contract (H : Type) (enc : TypeId × Value → H) (W : World) (base : Nat) (args : Array Value) (ds gs : List (DataW H)) (before : List MemPlace)
  (hval : ∀ (j : Nat) t v, Tryd.f5.params[j]? = some t → args[j]? = some v → Value.okWide Tryd.prog W .any base t v)
  (hW : DataW.Whole enc Tryd.prog Tryd.f5.params.toList Rows.transcriptPlaysSpec.vars false W args.toList ds gs before)
  (hw : (DataW.weightsEach Tryd.prog (Tryd.f5.params.toList ++ (Rows.OpenSpec.upto Rows.transcriptPlaysSpec).bare.plain.varTypes Tryd.prog) (ds ++ gs)).all (· ≤ reachBytes) = true) (hL : laidMetH Tryd.prog Rows.transcriptPlaysUptoRow.laid W) (hC : Rows.uptoSmall H (ds ++ gs) = true) :
  Calls Tryd.prog 5 args W fun e W' => ∃ v, e = .returned v ∧ Rows.transcriptPlaysSpec.post enc Tryd.prog Tryd.f5 false true false false W args v W' := by
 have hA : DataW.TrodAll enc Tryd.prog W 0 (fun _ => true) true [9, 23] args.toList ds _ := hW.choose_spec.choose_spec.1
 obtain ⟨v0, vs0, d0, ds0, p0, q0, hargs, hds, _, h0, r0⟩ := trodAll_cons hA
 obtain ⟨v1, vs1, d1, ds1, p1, q1, rfl, hds1, _, h1, r1⟩ := trodAll_cons r0
 obtain ⟨rfl, hdsn, _⟩ := trodAll_nil r1
 obtain rfl : args = #[v0, v1] := by cases args; simp_all
 have hds : ds = [d0, d1] := by rw [hds, hds1, hdsn]
 have hp : Tryd.f5.params = #[9, 23] := by kernel_rfl
 rw [hp] at hval
 have hp2 : Tryd.f5.params.toList = [9, 23] := by kernel_rfl
 rw [hds, hp2] at hw
 have hC : Rows.uptoBulkAll (ds ++ gs) ≤ 1048576 := of_decide_eq_true hC
 rw [hds, bulkAll_app] at hC
 simp only [Rows.uptoBulkAll] at hC
 obtain ⟨s0, rfl⟩ := okWide_string (by kernel_rfl) (hval 0 9 v0 rfl rfl)
 obtain ⟨b0, x0⟩ := str_arg reachBytes (by kernel_rfl) h0
 have x0 := x0 fun n hn => by simpa using List.all_eq_true.1 hw n (DataW.weights_mem_each (j := 0) rfl rfl n hn)
 have hc1 : v1.cells.toList = [v1] := by
  obtain ⟨a, len, cap, e⟩ := okWide_slice (e := 32) (by kernel_rfl) (hval 1 23 v1 rfl rfl)
  rw [e]; rfl
 obtain ⟨o1, e1, s1, b1, x1⟩ := arg_ro reachBytes (.l (.r [.i .i64, .i .i64, .ts, .l (.ints .u8)])) (by kernel_rfl) rfl hc1 h1
 have x1 := x1 fun n hn => by simpa using List.all_eq_true.1 hw n (DataW.weights_mem_each (j := 1) rfl rfl n hn)
 refine (law W (tab_glob6 hL) s0 x0 o1 v1 e1 s1 x1 (by omega)).mono fun e W' ⟨he, hB⟩ => ?_
 subst he
 refine ⟨_, rfl, post_true (tb := 4) laidOut rfl (by kernel_rfl) (by kernel_rfl) reads ?_ hW hB⟩
 intro ds hds
 have hds : ds.length = 2 := hds
 match ds, hds with
 | [a0, a1], _ => exact ⟨rfl, rfl, rfl⟩

def wargs : Array Value := #[.string ByteArray.empty, .slice none 0 0]
theorem laid_met (os : Os) : laidMet Tryd.prog Rows.transcriptPlaysUptoRow.laid ((laidWorld5 os).forCall (fun _ _ => 0) ⟨#[], wargs, []⟩).memory :=
 laidMet_of_run' 8 (by kernel_rfl) (by kernel_rfl)
theorem reads0 (os : Os) {H : Type} (enc : TypeId × Value → H) : ∃ places, DataW.whole enc Tryd.prog ((laidWorld5 os).forCall (fun _ _ => 0) ⟨#[], wargs, []⟩).memory Tryd.f5.params.toList Rows.transcriptPlaysSpec.vars false wargs.toList 8 = some ([.lit (.string []), .nil], [], places) :=
 ⟨[], by kernel_rfl⟩

set_option maxRecDepth 100000 in
theorem lifted (os : Os) (started : os.Started) (H : Type) (enc : TypeId × Value → H) (F : Stop.Interp) :
  ReturnsInHanded {} Tryd.checked os 5 .any ((Rows.OpenSpec.upto Rows.transcriptPlaysSpec).preRow enc Tryd.prog Tryd.f5 Rows.transcriptPlaysUptoRow.domain false Rows.transcriptPlaysUptoRow.laid) (((Rows.OpenSpec.upto Rows.transcriptPlaysSpec).at F).post enc Tryd.prog Tryd.f5 false true false false) := by
 obtain ⟨places, hx⟩ := reads0 os enc
 refine returnsInHanded_of_row (C := Tryd.checked) (s := (Rows.OpenSpec.upto Rows.transcriptPlaysSpec)) own started (by kernel_rfl) Tryd.func5
  (witness_row_at (enc := enc) (C := Tryd.checked) false (laidWorld5 os) wargs rfl (by kernel_rfl) (by kernel_rfl) (by kernel_rfl)
   (OpenSpec.preRow_of_cond 8 hx (by kernel_rfl) (fun k hk => by cases hk; kernel_rfl) (by kernel_rfl) (laid_met os))) ?_
 intro W base args ds gs before hval hW _ hcond hw hL _ _
 exact contract H enc W base args ds gs before hval hW hw hL (hcond _ rfl)

theorem said : Rows.TranscriptPlaysUptoSaid :=
 OpenClaim.holds_of_cond 5 Tryd.f5 rfl rfl rfl rfl rfl rfl rfl ⟨rfl, rfl, rfl, rfl, rfl⟩ rfl rfl rfl rfl rfl (by kernel_rfl) Tryd.func5 (by kernel_rfl)
  (of_decide_eq_true (by kernel_rfl)) (by unfold Func.isWrapper; first | (rw [if_pos (by decide +kernel)]; kernel_rfl) | (rw [if_neg (by decide +kernel)]; exact ⟨rfl, rfl⟩))
  (fun os started H enc _ F => by rw [OpenClaim.pre_eq_preRow]; exact lifted os started H enc F)

theorem plain (f : FuncId) (fn : Func) (hf : Tryd.pinned.checked.prog.funcNamed "veil/veillaw08.TranscriptPlays" = some f) (hfn : Tryd.pinned.checked.prog.funcs[f]? = some fn) :
  false = Tryd.pinned.checked.prog.looks [] ∧ ∀ (j : Nat) t, fn.params[j]? = some t → Tryd.pinned.checked.prog.wantsStandIn t = false := by
 obtain rfl : f = 5 := Option.some.inj ((show Tryd.prog.funcNamed "veil/veillaw08.TranscriptPlays" = some 5 by kernel_rfl).symm.trans hf) |>.symm
 obtain rfl : fn = Tryd.f5 := (Option.some.inj (Tryd.func5.symm.trans hfn)).symm
 refine ⟨by kernel_rfl, fun j t ht => ?_⟩
 have hp : Tryd.f5.params = #[9, 23] := by kernel_rfl
 rw [hp] at ht
 have := Array.mem_of_getElem? ht
 simp only [List.mem_toArray, List.mem_cons, List.not_mem_nil, or_false] at this
 rcases this with rfl | rfl <;> exact (show Tryd.prog.wantsStandIn _ = false by kernel_rfl)

theorem card : Rows.TranscriptPlaysUptoCardSaid :=
 Claim7.holds_tied_plain_at .later [] _ _ _ _ said (fun _ h => by cases h) (by kernel_rfl) (fun _ h => by cases h) transcriptPlaysUpto_row_tie rfl ⟨rfl, rfl⟩ (by kernel_rfl) rfl plain (by kernel_rfl)
end TranscriptPlays
end Go.Gx

namespace Go.Proofs.YthgclfedhgmpiaaDoor
theorem transcriptPlaysProved : Rows.TranscriptPlaysUptoCardSaid := Go.Gx.TranscriptPlays.card
end Go.Proofs.YthgclfedhgmpiaaDoor
#print axioms Go.Proofs.YthgclfedhgmpiaaDoor.transcriptPlaysProved
