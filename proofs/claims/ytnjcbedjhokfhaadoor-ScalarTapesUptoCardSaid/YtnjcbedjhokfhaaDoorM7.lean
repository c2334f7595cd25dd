/- ScalarTapes: the first scalars of a stream are those of the document, asked again and again, with the stream's memory written over too; the stream stays as it was, the room behind it too; what is handed out is the caller's. For all streams whose bytes are not more than the cards' bound; the table lies as the program's text lays it. -/
import Derived.Test.YtnjcbedjhokfhaaDoorM6
import Derived.Test.YtnjcbedjhokfhaaDoorM4
import Derived.ChangeSlices
import Derived.SizedLaws
import Derived.Test.YtnjcbedjhokfhaaDoorRows
import Derived.OpenShut
import Derived.Test.YtnjcbedjhokfhaaDoorM5

/- Scalars off a stream. -/
namespace Go.Sp
def oneT (d : Go.Gx.RO) (i : Nat) : List Int := Go.Gx.words4 (bval (((Go.Gx.roL d).drop (64 * i)).take 64) % ell)
def tkT (d : Go.Gx.RO) (n : Nat) : List (List Int) := (List.range n).map (oneT d)
/-- The first scalars of a stream; none where there are not so many. -/
def tapeL (d : Go.Gx.RO) (n : Int) : List (List Int) := if 0 ≤ n ∧ n ≤ 4096 ∧ 64 * n ≤ ((Go.Gx.roL d).length : Int) then tkT d n.toNat else []
def tapeE (d : Go.Gx.RO) (n : Int) : Int := if 0 ≤ n ∧ n ≤ 4096 then (if 64 * n ≤ ((Go.Gx.roL d).length : Int) then 0 else 5) else 1
end Go.Sp
namespace Go.Gx
open Go.Proofs Go.Sp
open Go.Sp (prI mlL adL sbL pwL invL)
set_option linter.unusedVariables false
set_option maxRecDepth 100000

def shB : Sh := .ints .u8
def L48 : Loops := [(7, ⟨[.ro 490 shB (.l []), .any, .any, .any, .any, .any, .sl 1000 0 4 ⟨true, .ofNat 0⟩ ⟨false, 0⟩, .any, .any, .any, .any, .any, .any, .any, .any, .any, .any, .any, .any, .any, .any, .any, .i .i64 ⟨false, 0⟩, .i .i64 ⟨false, 0⟩] ++ reps .any 14, gW ++ [(1000, .segs false [.rowA .u64 4 []])], 2000⟩)]
def vc48 (d : RO) (n : Int) (K : List RV → List (Option (List Seg)) → Prop) (Q : Nat → List Pv → Prop) : Prop := fnVcG 0 Γ18t Tryd.f48 L48 [.ro 490 shB d, .i .i64 ⟨false, n⟩] gW K Q
def lc48 (d : RO) (n m i : Int) (l : List (List Int)) (K : List RV → List (Option (List Seg)) → Prop) (Q : Nat → List Pv → Prop) : Prop := loopVcG 0 Γ18t Tryd.f48 L48 7 [.ro d, .z n, .z m, .z i, .ll l] K Q
def L49 : Loops := [(7, ⟨[.ro 490 shB (.l []), .i .i64 ⟨false, 0⟩, .any, .any, .any, .any, .nsl, .i .i64 ⟨false, 0⟩] ++ reps .any 37, gW, 2000⟩),
  (1007, ⟨[.ro 490 shB (.l []), .i .i64 ⟨false, 0⟩, .any, .any, .any, .any, .sl 1000 0 4 ⟨true, .ofNat 0⟩ ⟨false, 0⟩, .i .i64 ⟨false, 0⟩] ++ reps .any 37, gW ++ [(1000, .segs false [.rowA .u64 4 []])], 2000⟩),
  (11, ⟨[.ro 490 shB (.l []), .i .i64 ⟨false, 0⟩, .any, .any, .any, .any, .nsl, .i .i64 ⟨false, 0⟩, .p 1001 0, .i .i64 ⟨false, 0⟩] ++ reps .any 35, gW ++ [(1001, .segs false [.arr .u8 64 false []])], 2000⟩),
  (1011, ⟨[.ro 490 shB (.l []), .i .i64 ⟨false, 0⟩, .any, .any, .any, .any, .sl 1000 0 4 ⟨true, .ofNat 0⟩ ⟨false, 0⟩, .i .i64 ⟨false, 0⟩, .p 1001 0, .i .i64 ⟨false, 0⟩] ++ reps .any 35, gW ++ [(1000, .segs false [.rowA .u64 4 []]), (1001, .segs false [.arr .u8 64 false []])], 2000⟩)]
def vc49 (d : RO) (n : Int) (K : List RV → List (Option (List Seg)) → Prop) (Q : Nat → List Pv → Prop) : Prop := fnVcG 0 Γ18t Tryd.f49 L49 [.ro 490 shB d, .i .i64 ⟨false, n⟩] gW K Q
def lc49a (d : RO) (n i : Int) (K : List RV → List (Option (List Seg)) → Prop) (Q : Nat → List Pv → Prop) : Prop := loopVcG 0 Γ18t Tryd.f49 L49 7 [.ro d, .z n, .z i] K Q
def lc49b (d : RO) (n m i : Int) (l : List (List Int)) (K : List RV → List (Option (List Seg)) → Prop) (Q : Nat → List Pv → Prop) : Prop := loopVcG 0 Γ18t Tryd.f49 L49 1007 [.ro d, .z n, .z m, .z i, .ll l] K Q
def lc49c (d : RO) (n i k : Int) (b : List Int) (K : List RV → List (Option (List Seg)) → Prop) (Q : Nat → List Pv → Prop) : Prop := loopVcG 0 Γ18t Tryd.f49 L49 11 [.ro d, .z n, .z i, .z k, .l b] K Q
def lc49d (d : RO) (n m i k : Int) (l : List (List Int)) (b : List Int) (K : List RV → List (Option (List Seg)) → Prop) (Q : Nat → List Pv → Prop) : Prop := loopVcG 0 Γ18t Tryd.f49 L49 1011 [.ro d, .z n, .z m, .z i, .z k, .ll l, .l b] K Q
theorem vc48_eq : ∀ (d : RO) (n : Int) (K : List RV → List (Option (List Seg)) → Prop) (Q : Nat → List Pv → Prop), vc48 d n K Q = ((decide (n < (0 : Int)) = true → K [RV.v SV.nsl, RV.v (SV.i IntKind.i64 { st := true, z := (1 : Int) })] []) ∧ (decide (n < (0 : Int)) = false → (decide (n > (4096 : Int)) = true → K [RV.v SV.nsl, RV.v (SV.i IntKind.i64 { st := true, z := (1 : Int) })] []) ∧ (decide (n > (4096 : Int)) = false → ∀ (x1 : Int), x1 = IntKind.i64.wrap ((64 : Int) * n) → InR IntKind.i64 x1 → (decide (((roL d).length : Int) < x1) = true → K [RV.v SV.nsl, RV.v (SV.i IntKind.i64 { st := true, z := (5 : Int) })] []) ∧ (decide (((roL d).length : Int) < x1) = false → Need ((0 : Int) ≤ n ∧ n ≤ n ∧ n * (32 : Int) ≤ (140737488355328 : Int)) ∧ ∀ (x2 : List (List Int)), x2 = List.replicate n.toNat (List.replicate (4 : Nat) (0 : Int)) → AllA IntKind.u64 (4 : Nat) x2 → ∀ (x3 : Int), x3 = n → (0 : Int) ≤ x3 → InR IntKind.i64 x3 → Same Tryd.f48 (7 : Nat) (itemsOf Tryd.f48 (7 : Nat)) ∧ Q (7 : Nat) [Pv.ro d, Pv.z x3, Pv.z x3, Pv.z (0 : Int), Pv.ll x2])))) := by
  intros
  kernel_rfl

theorem lc48_eq : ∀ (d : RO) (n m i : Int) (l : List (List Int)) (K : List RV → List (Option (List Seg)) → Prop) (Q : Nat → List Pv → Prop), lc48 d n m i l K Q = ((decide (i < m) = true → ∀ (x1 : Int), x1 = IntKind.i64.wrap ((64 : Int) * i) → InR IntKind.i64 x1 → Need ((0 : Int) ≤ x1 ∧ x1 ≤ ((roL d).length : Int) ∧ ((roL d).length : Int) ≤ ((roL d).length : Int)) ∧ Need ((64 : Int) ≤ ↑(roL (RO.l (List.take (((roL d).length : Int) - x1).toNat (List.drop x1.toNat (roL d))))).length) ∧ ∀ (x2 : List Int), x2 = roL (roN (RO.r [RO.l (List.take (64 : Nat) (roL (RO.l (List.take (((roL d).length : Int) - x1).toNat (List.drop x1.toNat (roL d))))))]) (0 : Nat)) → x2.length = (64 : Nat) → AllR IntKind.u8 x2 → ∀ (x3 : Int), x3 = w0 (bval x2 % (7237005577332262213973186563042994240857116359379907606001950938285454250989 : Int)) → InR IntKind.u64 x3 → ∀ (x4 : Int), x4 = w1 (bval x2 % (7237005577332262213973186563042994240857116359379907606001950938285454250989 : Int)) → InR IntKind.u64 x4 → ∀ (x5 : Int), x5 = w2 (bval x2 % (7237005577332262213973186563042994240857116359379907606001950938285454250989 : Int)) → InR IntKind.u64 x5 → ∀ (x6 : Int), x6 = w3 (bval x2 % (7237005577332262213973186563042994240857116359379907606001950938285454250989 : Int)) → InR IntKind.u64 x6 → Need ((0 : Int) ≤ i ∧ i < n) ∧ Need ((0 : Int) ≤ i ∧ i < ↑l.length) ∧ ∀ (x7 : List (List Int)), x7 = l.set i.toNat [x3, x4, x5, x6] → AllA IntKind.u64 (4 : Nat) x7 → ∀ (x8 : Int), x8 = IntKind.i64.wrap (i + (1 : Int)) → InR IntKind.i64 x8 → Same Tryd.f48 (7 : Nat) (itemsOf Tryd.f48 (7 : Nat)) ∧ Q (7 : Nat) [Pv.ro d, Pv.z n, Pv.z m, Pv.z x8, Pv.ll x7]) ∧ (decide (i < m) = false → Need ((0 : Int) + n ≤ ↑l.length) ∧ K [RV.row (Con.arrs IntKind.u64 (4 : Nat) (List.take n.toNat (List.drop (0 : Nat) l))), RV.v (SV.i IntKind.i64 { st := true, z := (0 : Int) })] [])) := by
  intros
  kernel_rfl

theorem vc49_eq : ∀ (d : RO) (n : Int) (K : List RV → List (Option (List Seg)) → Prop) (Q : Nat → List Pv → Prop), vc49 d n K Q = ((decide (n < (0 : Int)) = true → K [RV.v SV.nsl, RV.v (SV.i IntKind.i64 { st := true, z := (1 : Int) })] []) ∧ (decide (n < (0 : Int)) = false → (decide (n > (4096 : Int)) = true → K [RV.v SV.nsl, RV.v (SV.i IntKind.i64 { st := true, z := (1 : Int) })] []) ∧ (decide (n > (4096 : Int)) = false → ∀ (x1 : Int), x1 = IntKind.i64.wrap ((((roL d).length : Int)).tdiv (64 : Int)) → InR IntKind.i64 x1 → (decide (x1 < n) = true → K [RV.v SV.nsl, RV.v (SV.i IntKind.i64 { st := true, z := (5 : Int) })] []) ∧ (decide (x1 < n) = false → Same Tryd.f49 (7 : Nat) (itemsOf Tryd.f49 (7 : Nat)) ∧ Q (7 : Nat) [Pv.ro d, Pv.z n, Pv.z (0 : Int)])))) := by
  intros
  kernel_rfl

theorem lc49a_eq : ∀ (d : RO) (n i : Int) (K : List RV → List (Option (List Seg)) → Prop) (Q : Nat → List Pv → Prop), lc49a d n i K Q = ((decide (i < n) = true → Same Tryd.f49 (11 : Nat) (itemsOf Tryd.f49 (11 : Nat)) ∧ Q (11 : Nat) [Pv.ro d, Pv.z n, Pv.z i, Pv.z (0 : Int), Pv.l (List.replicate (64 : Nat) (0 : Int))]) ∧ (decide (i < n) = false → K [RV.v SV.nsl, RV.v (SV.i IntKind.i64 { st := true, z := (0 : Int) })] [])) := by
  intros
  kernel_rfl

theorem lc49b_eq : ∀ (d : RO) (n m i : Int) (l : List (List Int)) (K : List RV → List (Option (List Seg)) → Prop) (Q : Nat → List Pv → Prop), lc49b d n m i l K Q = ((decide (i < n) = true → Same Tryd.f49 (11 : Nat) (itemsOf Tryd.f49 (11 : Nat)) ∧ Q (1011 : Nat) [Pv.ro d, Pv.z n, Pv.z m, Pv.z i, Pv.z (0 : Int), Pv.ll l, Pv.l (List.replicate (64 : Nat) (0 : Int))]) ∧ (decide (i < n) = false → Need ((0 : Int) + m ≤ ↑l.length) ∧ K [RV.row (Con.arrs IntKind.u64 (4 : Nat) (List.take m.toNat (List.drop (0 : Nat) l))), RV.v (SV.i IntKind.i64 { st := true, z := (0 : Int) })] [])) := by
  intros
  kernel_rfl

theorem lc49c_eq : ∀ (d : RO) (n i k : Int) (b : List Int) (K : List RV → List (Option (List Seg)) → Prop) (Q : Nat → List Pv → Prop), lc49c d n i k b K Q = ((decide (k < (64 : Int)) = true → ∀ (x1 : Int), x1 = IntKind.i64.wrap ((64 : Int) * i) → InR IntKind.i64 x1 → ∀ (x2 : Int), x2 = IntKind.i64.wrap (x1 + k) → InR IntKind.i64 x2 → Need ((0 : Int) ≤ x2 ∧ x2 < ((roL d).length : Int)) ∧ ∀ (x3 : Int), x3 = (roL d).getD x2.toNat (0 : Int) → InR IntKind.u8 x3 → Need ((0 : Int) ≤ k ∧ k < (64 : Int)) ∧ Need ((0 : Int) ≤ k ∧ k < (64 : Int)) ∧ ∀ (x4 : List Int), x4 = b.set k.toNat x3 → x4.length = (64 : Nat) → AllR IntKind.u8 x4 → ∀ (x5 : Int), x5 = IntKind.i64.wrap (k + (1 : Int)) → InR IntKind.i64 x5 → Same Tryd.f49 (11 : Nat) (itemsOf Tryd.f49 (11 : Nat)) ∧ Q (11 : Nat) [Pv.ro d, Pv.z n, Pv.z i, Pv.z x5, Pv.l x4]) ∧ (decide (k < (64 : Int)) = false → ∀ (x6 : Int), x6 = w0 (bval b % (7237005577332262213973186563042994240857116359379907606001950938285454250989 : Int)) → InR IntKind.u64 x6 → ∀ (x7 : Int), x7 = w1 (bval b % (7237005577332262213973186563042994240857116359379907606001950938285454250989 : Int)) → InR IntKind.u64 x7 → ∀ (x8 : Int), x8 = w2 (bval b % (7237005577332262213973186563042994240857116359379907606001950938285454250989 : Int)) → InR IntKind.u64 x8 → ∀ (x9 : Int), x9 = w3 (bval b % (7237005577332262213973186563042994240857116359379907606001950938285454250989 : Int)) → InR IntKind.u64 x9 → Need ((([] ++ List.take (1 : Nat) (List.drop (0 : Nat) [[x6, x7, x8, x9]])).length : Int) * (32 : Int) ≤ (140737488355328 : Int)) ∧ Need ((1 : Int) ≤ ↑[[x6, x7, x8, x9]].length) ∧ ∀ (x10 : List (List Int)), x10 = [] ++ List.take (1 : Nat) (List.drop (0 : Nat) [[x6, x7, x8, x9]]) → AllA IntKind.u64 (4 : Nat) x10 → ∀ (x11 : Int), x11 = (([] ++ List.take (1 : Nat) (List.drop (0 : Nat) [[x6, x7, x8, x9]])).length : Int) → (0 : Int) ≤ x11 → InR IntKind.i64 x11 → ∀ (x12 : Int), x12 = IntKind.i64.wrap (i + (1 : Int)) → InR IntKind.i64 x12 → Same Tryd.f49 (7 : Nat) (itemsOf Tryd.f49 (7 : Nat)) ∧ Q (1007 : Nat) [Pv.ro d, Pv.z n, Pv.z x11, Pv.z x12, Pv.ll x10])) := by
  intros
  kernel_rfl

theorem lc49d_eq : ∀ (d : RO) (n m i k : Int) (l : List (List Int)) (b : List Int) (K : List RV → List (Option (List Seg)) → Prop) (Q : Nat → List Pv → Prop), lc49d d n m i k l b K Q = ((decide (k < (64 : Int)) = true → ∀ (x1 : Int), x1 = IntKind.i64.wrap ((64 : Int) * i) → InR IntKind.i64 x1 → ∀ (x2 : Int), x2 = IntKind.i64.wrap (x1 + k) → InR IntKind.i64 x2 → Need ((0 : Int) ≤ x2 ∧ x2 < ((roL d).length : Int)) ∧ ∀ (x3 : Int), x3 = (roL d).getD x2.toNat (0 : Int) → InR IntKind.u8 x3 → Need ((0 : Int) ≤ k ∧ k < (64 : Int)) ∧ Need ((0 : Int) ≤ k ∧ k < (64 : Int)) ∧ ∀ (x4 : List Int), x4 = b.set k.toNat x3 → x4.length = (64 : Nat) → AllR IntKind.u8 x4 → ∀ (x5 : Int), x5 = IntKind.i64.wrap (k + (1 : Int)) → InR IntKind.i64 x5 → Same Tryd.f49 (11 : Nat) (itemsOf Tryd.f49 (11 : Nat)) ∧ Q (1011 : Nat) [Pv.ro d, Pv.z n, Pv.z m, Pv.z i, Pv.z x5, Pv.ll l, Pv.l x4]) ∧ (decide (k < (64 : Int)) = false → ∀ (x6 : Int), x6 = w0 (bval b % (7237005577332262213973186563042994240857116359379907606001950938285454250989 : Int)) → InR IntKind.u64 x6 → ∀ (x7 : Int), x7 = w1 (bval b % (7237005577332262213973186563042994240857116359379907606001950938285454250989 : Int)) → InR IntKind.u64 x7 → ∀ (x8 : Int), x8 = w2 (bval b % (7237005577332262213973186563042994240857116359379907606001950938285454250989 : Int)) → InR IntKind.u64 x8 → ∀ (x9 : Int), x9 = w3 (bval b % (7237005577332262213973186563042994240857116359379907606001950938285454250989 : Int)) → InR IntKind.u64 x9 → Need (((l ++ List.take (1 : Nat) (List.drop (0 : Nat) [[x6, x7, x8, x9]])).length : Int) * (32 : Int) ≤ (140737488355328 : Int)) ∧ Need (m = ↑l.length) ∧ Need ((1 : Int) ≤ ↑[[x6, x7, x8, x9]].length) ∧ ∀ (x10 : List (List Int)), x10 = l ++ List.take (1 : Nat) (List.drop (0 : Nat) [[x6, x7, x8, x9]]) → AllA IntKind.u64 (4 : Nat) x10 → ∀ (x11 : Int), x11 = ((l ++ List.take (1 : Nat) (List.drop (0 : Nat) [[x6, x7, x8, x9]])).length : Int) → (0 : Int) ≤ x11 → InR IntKind.i64 x11 → ∀ (x12 : Int), x12 = IntKind.i64.wrap (i + (1 : Int)) → InR IntKind.i64 x12 → Same Tryd.f49 (7 : Nat) (itemsOf Tryd.f49 (7 : Nat)) ∧ Q (1007 : Nat) [Pv.ro d, Pv.z n, Pv.z x11, Pv.z x12, Pv.ll x10])) := by
  intros
  kernel_rfl

theorem tk_len (d : RO) (n : Nat) : (tkT d n).length = n := by unfold tkT; simp
theorem tkT_succ (d : RO) (j : Nat) : tkT d (j + 1) = tkT d j ++ [oneT d j] := by unfold tkT; rw [List.range_succ, List.map_append]; rfl
theorem tkT_at (d : RO) {n j : Nat} (h : j < n) : (tkT d n)[j]? = some (oneT d j) := by
  unfold tkT; rw [List.getElem?_map, List.getElem?_range h]; rfl
theorem nil_row (k : IntKind) (n : Nat) : eqRV1 (.v .nsl) (.row (.arrs k n [])) := ⟨rfl, fun a ha => by cases ha⟩
def tapeG : List AV → Option (List Prop × List RV × List (Option (List Seg)))
  | [.d (.ints .u8) d, .v (.i .i64 ⟨_, n⟩)] => some ([], [.row (.arrs .u64 4 (tapeL d n)), .v (.i .i64 ⟨false, tapeE d n⟩)], [])
  | _ => none
theorem err1 {d : RO} {n : Int} (h : ¬ (0 ≤ n ∧ n ≤ 4096)) : eqRVs [.v .nsl, .v (.i .i64 ⟨true, 1⟩)] [.row (.arrs .u64 4 (tapeL d n)), .v (.i .i64 ⟨false, tapeE d n⟩)] := by
  unfold tapeL tapeE
  rw [if_neg (fun ⟨a, b, _⟩ => h ⟨a, b⟩), if_neg h]
  exact ⟨nil_row _ _, rfl, trivial⟩
theorem err5 {d : RO} {n : Int} (h0 : 0 ≤ n ∧ n ≤ 4096) (h : ¬ 64 * n ≤ ((roL d).length : Int)) : eqRVs [.v .nsl, .v (.i .i64 ⟨true, 5⟩)] [.row (.arrs .u64 4 (tapeL d n)), .v (.i .i64 ⟨false, tapeE d n⟩)] := by
  unfold tapeL tapeE
  rw [if_neg (fun ⟨_, _, a⟩ => h a), if_pos h0, if_neg h]
  exact ⟨nil_row _ _, rfl, trivial⟩
theorem fine {d : RO} {n : Int} {N : Nat} (hn : n = (N : Int)) (h0 : N ≤ 4096) (h : 64 * (N : Int) ≤ ((roL d).length : Int)) : tapeL d n = tkT d N ∧ tapeE d n = 0 := by
  subst hn
  unfold tapeL tapeE
  rw [if_pos ⟨by omega, by omega, h⟩, if_pos ⟨by omega, by omega⟩, if_pos h, Int.toNat_natCast]
  exact ⟨rfl, rfl⟩

def inv48 (d : RO) (n : Int) (N : Nat) (key : Nat) (ps : List Pv) (mm : Nat) : Prop := key = 7 ∧ n = (N : Int) ∧ N ≤ 4096 ∧ 64 * (N : Int) ≤ ((roL d).length : Int) ∧ ∃ (k : Nat) (l : List (List Int)), k ≤ N ∧ l.length = N ∧ (∀ j, j < k → l.getD j [] = oneT d j) ∧ ps = [.ro d, .z (N : Int), .z (N : Int), .z (k : Int), .ll l] ∧ mm = N - k
theorem tape_ok : CallOk Tryd.prog gh 48 (genCtr [.d (.ints .u8), .v] tapeG) := by
  refine call_gen (fn := Tryd.f48) Γ18t_ok rfl glowS rfl (by kernel_rfl) (by kernel_rfl) _ tapeG fun av p rvs fin hs hp hf => ?_
  unfold tapeG at hs
  split at hs
  · rename_i d st n
    simp only [Option.some.injEq, Prod.mk.injEq] at hs
    obtain ⟨rfl, rfl, rfl⟩ := hs
    obtain ⟨⟨_, hlen⟩, hn, _⟩ := hf
    have hn : InR .i64 n := hn
    simp only [InR] at hn
    refine ⟨[.ro 490 shB d, .i .i64 ⟨false, n⟩], [], L48, inv48 d n n.toNat, ⟨rfl, rfl, trivial⟩, Nat.le_of_ble_eq_true (by kernel_rfl), ?_, ?_, ?_⟩
    · intro kk t ht g hg
      have hg : g ∈ [0, 490] := hg
      simp only [List.mem_cons, List.not_mem_nil, or_false] at hg
      simp only [L48, List.mem_cons, List.not_mem_nil, or_false, Prod.mk.injEq] at ht
      obtain ⟨rfl, rfl⟩ := ht
      rcases hg with rfl | rfl <;> exact ⟨by omega, rfl⟩
    · rintro vk t ps mm ht ⟨rfl, hnN, hN, hL, k, l, hk, hl, hpre, rfl, rfl⟩
      simp only [L48, List.mem_cons, List.not_mem_nil, or_false, Prod.mk.injEq, true_and] at ht
      subst ht
      show lc48 d (n.toNat : Int) (n.toNat : Int) (k : Int) l _ _
      rw [lc48_eq, ← ell_lit]
      refine ⟨fun hlt => ?_, fun hge => ?_⟩
      · have hlt := of_decide_eq_true hlt
        intro x1 e1 _
        rw [wrap_i64 (by omega)] at e1
        have h1 : x1.toNat = 64 * k := by omega
        have hx : roL (roN (RO.r [RO.l (List.take 64 (roL (RO.l (List.take (((roL d).length : Int) - x1).toNat (List.drop x1.toNat (roL d))))))]) 0) = ((roL d).drop (64 * k)).take 64 := by
          show List.take 64 (List.take _ (List.drop _ (roL d))) = _
          rw [List.take_of_length_le (i := (((roL d).length : Int) - x1).toNat) (by rw [List.length_drop]; omega), h1]
        refine ⟨need_of (by omega), need_of ?_, fun x2 e2 _ _ x3 e3 _ x4 e4 _ x5 e5 _ x6 e6 _ => ⟨need_of (by omega), need_of (by omega), fun x7 e7 _ x8 e8 _ => ?_⟩⟩
        · show (64 : Int) ≤ ((List.take _ (List.drop _ (roL d))).length : Int)
          rw [List.length_take, List.length_drop]; omega
        rw [e2, hx] at e3 e4 e5 e6
        rw [wrap_i64 (by omega)] at e8
        refine ⟨rfl, n.toNat - (k + 1), by omega, rfl, hnN, hN, hL, k + 1, x7, by omega, (by rw [e7]; simpa using hl), fun j hj => ?_, ?_, rfl⟩
        · rw [e7, Int.toNat_natCast]
          by_cases e : j = k
          · subst e
            rw [getD_set_self (by omega), e3, e4, e5, e6]; rfl
          · rw [getD_set_ne e]; exact hpre j (by omega)
        · rw [e8]; rfl
      · have hge := of_decide_eq_false hge
        have hkN : k = n.toNat := by omega
        obtain ⟨f1, f2⟩ := fine (d := d) (n := n) (N := n.toNat) (by omega) hN hL
        refine ⟨need_of (by omega), ⟨⟨rfl, rfl, ?_⟩, f2.symm, trivial⟩, trivial⟩
        rw [f1, List.drop_zero, List.take_of_length_le (by omega)]
        refine List.ext_getElem (by rw [hl, tk_len]) fun j h1 h2 => ?_
        have := hpre j (by omega)
        rw [List.getD_eq_getElem?_getD, List.getElem?_eq_getElem h1] at this
        have h3 := tkT_at d (n := n.toNat) (j := j) (by omega)
        rw [List.getElem?_eq_getElem h2] at h3
        exact (show l[j] = _ from this).trans (Option.some.inj h3).symm
    · show vc48 d n _ _
      rw [vc48_eq]
      refine ⟨fun h => ?_, fun h => ⟨fun h' => ?_, fun h' x1 e1 _ => ⟨fun h2 => ?_, fun h2 => ?_⟩⟩⟩
      · have h := of_decide_eq_true h
        exact ⟨err1 (by omega), trivial⟩
      · have h := of_decide_eq_true h'
        exact ⟨err1 (by omega), trivial⟩
      · have h := of_decide_eq_false h
        have h' := of_decide_eq_false h'
        have h2 := of_decide_eq_true h2
        rw [wrap_i64 (by omega)] at e1
        exact ⟨err5 (by omega) (by omega), trivial⟩
      · have h := of_decide_eq_false h
        have h' := of_decide_eq_false h'
        have h2 := of_decide_eq_false h2
        rw [wrap_i64 (by omega)] at e1
        refine ⟨need_of (by omega), fun x2 e2 _ x3 e3 _ _ => ⟨rfl, n.toNat - 0, rfl, by omega, by omega, by omega, 0, x2, Nat.zero_le _, (by rw [e2]; simp), fun j hj => by omega, ?_, rfl⟩⟩
        rw [e3, show ((n.toNat : Nat) : Int) = n by omega]; rfl
  · cases hs

def inv49 (d : RO) (n : Int) (N : Nat) (key : Nat) (ps : List Pv) (mm : Nat) : Prop := n = (N : Int) ∧ N ≤ 4096 ∧ 64 * (N : Int) ≤ ((roL d).length : Int) ∧
  ((key = 7 ∧ ps = [.ro d, .z (N : Int), .z 0] ∧ mm = N * 100 + 99) ∨
   (key = 1007 ∧ ∃ j : Nat, 0 < j ∧ j ≤ N ∧ ps = [.ro d, .z (N : Int), .z (j : Int), .z (j : Int), .ll (tkT d j)] ∧ mm = (N - j) * 100 + 99) ∨
   (key = 11 ∧ ∃ (k : Nat) (b : List Int), k ≤ 64 ∧ 0 < N ∧ b.length = 64 ∧ (∀ t, t < k → b[t]? = (roL d)[t]?) ∧ ps = [.ro d, .z (N : Int), .z 0, .z (k : Int), .l b] ∧ mm = N * 100 + (64 - k)) ∨
   (key = 1011 ∧ ∃ (j k : Nat) (b : List Int), 0 < j ∧ j < N ∧ k ≤ 64 ∧ b.length = 64 ∧ (∀ t, t < k → b[t]? = (roL d)[64 * j + t]?) ∧ ps = [.ro d, .z (N : Int), .z (j : Int), .z (j : Int), .z (k : Int), .ll (tkT d j), .l b] ∧ mm = (N - j) * 100 + (64 - k)))
theorem whole {d : RO} {j : Nat} {b : List Int} (hb : b.length = 64) (hd : 64 * j + 64 ≤ (roL d).length) (h : ∀ t, t < 64 → b[t]? = (roL d)[64 * j + t]?) : b = ((roL d).drop (64 * j)).take 64 := by
  refine List.ext_getElem? fun t => ?_
  rw [List.getElem?_take, List.getElem?_drop]
  split
  · rename_i ht; exact h t ht
  · exact List.getElem?_eq_none (by omega)
theorem rtape_ok : CallOk Tryd.prog gh 49 (genCtr [.d (.ints .u8), .v] tapeG) := by
  refine call_gen (fn := Tryd.f49) Γ18t_ok rfl glowS rfl (by kernel_rfl) (by kernel_rfl) _ tapeG fun av p rvs fin hs hp hf => ?_
  unfold tapeG at hs
  split at hs
  · rename_i d st n
    simp only [Option.some.injEq, Prod.mk.injEq] at hs
    obtain ⟨rfl, rfl, rfl⟩ := hs
    obtain ⟨⟨_, hlen⟩, hn, _⟩ := hf
    have hn : InR .i64 n := hn
    simp only [InR] at hn
    obtain ⟨N, hN⟩ : ∃ N, N = n.toNat := ⟨_, rfl⟩
    refine ⟨[.ro 490 shB d, .i .i64 ⟨false, n⟩], [], L49, inv49 d n N, ⟨rfl, rfl, trivial⟩, Nat.le_of_ble_eq_true (by kernel_rfl), ?_, ?_, ?_⟩
    · intro kk t ht g hg
      have hg : g ∈ [0, 490] := hg
      simp only [List.mem_cons, List.not_mem_nil, or_false] at hg
      simp only [L49, List.mem_cons, List.not_mem_nil, or_false, Prod.mk.injEq] at ht
      rcases ht with ⟨rfl, rfl⟩ | ⟨rfl, rfl⟩ | ⟨rfl, rfl⟩ | ⟨rfl, rfl⟩ <;> rcases hg with rfl | rfl <;> exact ⟨by omega, rfl⟩
    · rintro vk t ps mm ht ⟨hnN, hN4, hL, ⟨rfl, rfl, rfl⟩ | ⟨rfl, j, hj0, hj, rfl, rfl⟩ | ⟨rfl, k, b, hk, hN0, hb, hpre, rfl, rfl⟩ | ⟨rfl, j, k, b, hj0, hj, hk, hb, hpre, rfl, rfl⟩⟩
      all_goals simp only [L49, List.mem_cons, List.not_mem_nil, or_false, Prod.mk.injEq, Nat.reduceEqDiff, false_and, true_and, false_or, or_false] at ht
      all_goals subst ht
      · show lc49a d (N : Int) 0 _ _
        rw [lc49a_eq]
        refine ⟨fun h => ?_, fun h => ?_⟩
        · have h := of_decide_eq_true h
          exact ⟨rfl, N * 100 + (64 - 0), by omega, hnN, hN4, hL, .inr (.inr (.inl ⟨rfl, 0, _, by omega, by omega, by simp, fun t ht => by omega, rfl, rfl⟩))⟩
        · have h := of_decide_eq_false h
          have h0 : N = 0 := by omega
          obtain ⟨f1, f2⟩ := fine (d := d) (n := n) (N := N) (by omega) hN4 hL
          refine ⟨⟨?_, f2.symm, trivial⟩, trivial⟩
          rw [f1, h0]
          exact nil_row _ _
      · show lc49b d (N : Int) (j : Int) (j : Int) (tkT d j) _ _
        rw [lc49b_eq]
        refine ⟨fun h => ?_, fun h => ?_⟩
        · have h := of_decide_eq_true h
          exact ⟨rfl, (N - j) * 100 + (64 - 0), by omega, hnN, hN4, hL, .inr (.inr (.inr ⟨rfl, j, 0, _, hj0, by omega, by omega, by simp, fun t ht => by omega, rfl, rfl⟩))⟩
        · have h := of_decide_eq_false h
          have hjN : j = N := by omega
          obtain ⟨f1, f2⟩ := fine (d := d) (n := n) (N := N) (by omega) hN4 hL
          refine ⟨need_of (by rw [tk_len]; omega), ⟨⟨rfl, rfl, ?_⟩, f2.symm, trivial⟩, trivial⟩
          rw [f1, List.drop_zero, List.take_of_length_le (by rw [tk_len]; omega), hjN]
      · show lc49c d (N : Int) 0 (k : Int) b _ _
        rw [lc49c_eq, ← ell_lit]
        refine ⟨fun h => ?_, fun h => ?_⟩
        · have h := of_decide_eq_true h
          intro x1 e1 _ x2 e2 _
          rw [wrap_i64 (by omega)] at e1
          rw [wrap_i64 (by omega)] at e2
          refine ⟨need_of (by omega), fun x3 e3 _ => ⟨need_of (by omega), need_of (by omega), fun x4 e4 l4 _ x5 e5 _ => ?_⟩⟩
          rw [wrap_i64 (by omega)] at e5
          refine ⟨rfl, N * 100 + (64 - (k + 1)), by omega, hnN, hN4, hL, .inr (.inr (.inl ⟨rfl, k + 1, x4, by omega, hN0, l4, fun t ht => ?_, ?_, rfl⟩))⟩
          · rw [e4, Int.toNat_natCast]
            by_cases e : t = k
            · subst e
              rw [List.getElem?_set_self (by omega), e3, show x2.toNat = t by omega, List.getD_eq_getElem?_getD, List.getElem?_eq_getElem (by omega)]; rfl
            · rw [List.getElem?_set_ne (fun e' => e e'.symm)]; exact hpre t (by omega)
          · rw [e5]; rfl
        · have h := of_decide_eq_false h
          have hk64 : k = 64 := by omega
          subst hk64
          have hw := whole (d := d) (j := 0) hb (by omega) (fun t ht => by rw [Nat.mul_zero, Nat.zero_add]; exact hpre t ht)
          intro x6 e6 _ x7 e7 _ x8 e8 _ x9 e9 _
          have h1 : [x6, x7, x8, x9] = oneT d 0 := by rw [e6, e7, e8, e9, hw]; rfl
          rw [h1]
          refine ⟨need_of (by show ((([oneT d 0] : List (List Int)).length : Nat) : Int) * 32 ≤ _; simp), need_of (by simp), fun x10 e10 _ x11 e11 _ _ x12 e12 _ => ?_⟩
          rw [wrap_i64 (by omega)] at e12
          have e11 : x11 = ((1 : Nat) : Int) := e11
          refine ⟨rfl, (N - 1) * 100 + 99, by omega, hnN, hN4, hL, .inr (.inl ⟨rfl, 1, by omega, by omega, ?_, rfl⟩)⟩
          rw [e10, e11, e12]; rfl
      · show lc49d d (N : Int) (j : Int) (j : Int) (k : Int) (tkT d j) b _ _
        rw [lc49d_eq, ← ell_lit]
        refine ⟨fun h => ?_, fun h => ?_⟩
        · have h := of_decide_eq_true h
          intro x1 e1 _ x2 e2 _
          rw [wrap_i64 (by omega)] at e1
          rw [wrap_i64 (by omega)] at e2
          refine ⟨need_of (by omega), fun x3 e3 _ => ⟨need_of (by omega), need_of (by omega), fun x4 e4 l4 _ x5 e5 _ => ?_⟩⟩
          rw [wrap_i64 (by omega)] at e5
          refine ⟨rfl, (N - j) * 100 + (64 - (k + 1)), by omega, hnN, hN4, hL, .inr (.inr (.inr ⟨rfl, j, k + 1, x4, hj0, hj, by omega, l4, fun t ht => ?_, ?_, rfl⟩))⟩
          · rw [e4, Int.toNat_natCast]
            by_cases e : t = k
            · subst e
              rw [List.getElem?_set_self (by omega), e3, show x2.toNat = 64 * j + t by omega, List.getD_eq_getElem?_getD, List.getElem?_eq_getElem (by omega)]; rfl
            · rw [List.getElem?_set_ne (fun e' => e e'.symm)]; exact hpre t (by omega)
          · rw [e5]; rfl
        · have h := of_decide_eq_false h
          have hk64 : k = 64 := by omega
          subst hk64
          have hw := whole (d := d) (j := j) hb (by omega) hpre
          intro x6 e6 _ x7 e7 _ x8 e8 _ x9 e9 _
          have h1 : [x6, x7, x8, x9] = oneT d j := by rw [e6, e7, e8, e9, hw]; rfl
          have h2 : tkT d j ++ List.take 1 (List.drop 0 [oneT d j]) = tkT d (j + 1) := (tkT_succ d j).symm
          rw [h1, h2, tk_len, tk_len]
          refine ⟨need_of (by omega), need_of rfl, need_of (by simp), fun x10 e10 _ x11 e11 _ _ x12 e12 _ => ?_⟩
          rw [wrap_i64 (by omega)] at e12
          refine ⟨rfl, (N - (j + 1)) * 100 + 99, by omega, hnN, hN4, hL, .inr (.inl ⟨rfl, j + 1, by omega, by omega, ?_, rfl⟩)⟩
          rw [e10, e11, e12]; rfl
    · show vc49 d n _ _
      rw [vc49_eq]
      have hdv : ((roL d).length : Int).tdiv 64 = (((roL d).length / 64 : Nat) : Int) := by rw [Int.tdiv_eq_ediv_of_nonneg (by omega)]; omega
      refine ⟨fun h => ?_, fun h => ⟨fun h' => ?_, fun h' x1 e1 _ => ⟨fun h2 => ?_, fun h2 => ?_⟩⟩⟩
      · have h := of_decide_eq_true h
        exact ⟨err1 (by omega), trivial⟩
      · have h := of_decide_eq_true h'
        exact ⟨err1 (by omega), trivial⟩
      · have h := of_decide_eq_false h
        have h' := of_decide_eq_false h'
        have h2 := of_decide_eq_true h2
        rw [hdv, wrap_i64 (by omega)] at e1
        exact ⟨err5 (by omega) (by omega), trivial⟩
      · have h := of_decide_eq_false h
        have h' := of_decide_eq_false h'
        have h2 := of_decide_eq_false h2
        rw [hdv, wrap_i64 (by omega)] at e1
        refine ⟨rfl, _, by omega, by omega, by omega, .inl ⟨rfl, ?_, rfl⟩⟩
        rw [show (N : Int) = n by omega]
  · cases hs
def Γ19t : Tab := ⟨tys, [(48, genCtr [.d (.ints .u8), .v] tapeG), (49, genCtr [.d (.ints .u8), .v] tapeG)] ++ Γ18t.ctr, [0], gh⟩
theorem Γ19t_ok : TabOk Tryd.prog Γ19t := (Γ18t_ok.cons rtape_ok).cons tape_ok
end Go.Gx

/- A law off a world that holds the globals: its arguments as data that is only read. -/
namespace Go.Gx
open Go.RowKit Go.ChangeShapes Go.WideShapes Go.ChangeAt
open Go.Proofs.YtnjcbedjhokfhaaDoor.Rows (uptoBulk uptoBulkAll uptoSmall)
set_option linter.unusedVariables false

mutual
def shTyB (P : Program) : Sh → TypeId → Bool
  | .i k, t => (match P.underlying t with | some (.int k') => keq k k' | _ => false)
  | .tb, t => (match P.underlying t with | some .bool => true | _ => false)
  | .ts, t => (match P.underlying t with | some .string => true | _ => false)
  | .ints k, t => (match P.underlying t with
    | some (.slice e) => (match P.underlying e with | some (.int k') => keq k k' && (Nat.beq (P.cellsOf e) 1 && Nat.blt 0 (P.bytesOf e)) | _ => false)
    | _ => false)
  | .l sh, t => (match P.underlying t with
    | some (.slice e) => shTyB P sh e && (Nat.beq (P.cellsOf e) (shSize sh) && (Nat.blt 0 (shSize sh) && Nat.blt 0 (P.bytesOf e)))
    | _ => false)
  | .r fs, t => (match P.underlying t with
    | some (.struct ff) => shTysB P fs ff.toList 0 && Nat.beq (P.cellsOf t) (shSizes fs)
    | _ => false)
  | .arr n k, t => (match P.underlying t with
    | some (.array m e) => Nat.beq m n && (Nat.beq (P.cellsOf t) n && (Nat.beq (P.cellsOf e) 1 && (match P.underlying e with | some (.int k') => keq k k' | _ => false)))
    | _ => false)
def shTysB (P : Program) : List Sh → List Field → Nat → Bool
  | [], ff, _ => (match ff with | [] => true | _ => false)
  | s :: r, ff, o => (match ff with
    | f :: ff => Nat.beq f.offset o && (shTyB P s f.type && (Nat.beq (P.cellsOf f.type) (shSize s) && shTysB P r ff (o + shSize s)))
    | [] => false)
end

mutual
/-- How much data holds. -/
def roM : Sh → RO → Nat
  | .ts, d => (roS d).size
  | .ints _, d => (roL d).length
  | .l e, d => (roX d).length + ((roX d).map (roM e)).sum
  | .r fs, d => roMs fs d 0
  | .i _, _ => 0
  | .tb, _ => 0
  | .arr _ _, _ => 0
def roMs : List Sh → RO → Nat → Nat
  | [], _, _ => 0
  | s :: r, d, i => roM s (roN d i) + roMs r d (i + 1)
end

mutual
/-- Is each slice and text of data of at most so many parts? -/
def roMx (N : Nat) : Sh → RO → Prop
  | .ts, d => (roS d).size ≤ N
  | .ints _, d => (roL d).length ≤ N
  | .l e, d => (roX d).length ≤ N ∧ ∀ x ∈ roX d, roMx N e x
  | .r fs, d => roMxs N fs d 0
  | .i _, _ => True
  | .tb, _ => True
  | .arr _ _, _ => True
def roMxs (N : Nat) : List Sh → RO → Nat → Prop
  | [], _, _ => True
  | s :: r, d, i => roMx N s (roN d i) ∧ roMxs N r d (i + 1)
end

section
variable {P : Program}

theorem weightsAll_mem {H : Type} {e : TypeId} {d : DataW H} : ∀ {l : List (DataW H)}, d ∈ l → ∀ n ∈ d.weights P e, n ∈ DataW.weightsAll P e l
  | y :: r, h, n, hn => by
    simp only [DataW.weightsAll, List.mem_append]
    rcases List.mem_cons.1 h with rfl | h
    · exact .inl hn
    · exact .inr (weightsAll_mem h n hn)

theorem bulk_pos {H : Type} (d : DataW H) : 1 ≤ uptoBulk d := by unfold uptoBulk; split <;> omega
theorem bulkAll_len {H : Type} : ∀ (l : List (DataW H)), l.length ≤ uptoBulkAll l
  | [] => by simp [uptoBulkAll]
  | d :: r => by have := bulk_pos d; have := bulkAll_len r; simp only [uptoBulkAll, List.length_cons]; omega
theorem bulkAll_app {H : Type} : ∀ (a b : List (DataW H)), uptoBulkAll (a ++ b) = uptoBulkAll a + uptoBulkAll b
  | [], b => by simp [uptoBulkAll]
  | d :: r, b => by simp only [List.cons_append, uptoBulkAll, bulkAll_app r b]; omega

theorem ChainR.snoc {R : RO → Value → Prop} {x : RO} {v : Value} (hx : R x v) : ∀ (xs : List RO) (cs : List Value), ChainR R xs cs → ChainR R (xs ++ [x]) (cs ++ v.cells.toList)
  | [], cs, h => by rw [show cs = [] from h]; exact ⟨v, [], hx, by simp, rfl⟩
  | y :: r, cs, h => by
    obtain ⟨u, c, h1, rfl, h3⟩ := h
    exact ⟨u, c ++ v.cells.toList, h1, by simp [List.append_assoc], ChainR.snoc hx r c h3⟩

theorem addr_of_cell {W : World} {a : Addr} {v : Value} (h : W.cell? a = some v) : a = ⟨a.block, a.off, none⟩ ∧ a.block < W.heap.size := by
  obtain ⟨bk, of, sp⟩ := a
  unfold World.cell? at h
  split at h
  · rename_i hb
    have hb : W.heap[bk]? = _ := hb
    refine ⟨?_, (Array.getElem?_eq_some_iff.1 hb).1⟩
    split at h
    · cases h
    · rename_i hs
      have hs : ¬ sp.isSome = true := hs
      have : sp = none := by simpa using hs
      rw [this]
  · cases h

theorem add_add_addr (a : Addr) (i j : Nat) : (a.add i).add j = a.add (i + j) := by
  unfold Addr.add
  by_cases h1 : i = 0 <;> by_cases h2 : j = 0 <;> simp [h1, h2, Nat.add_assoc]
theorem add_zero_addr (a : Addr) : a.add 0 = a := by simp [Addr.add]

mutual
/-- An argument's reading, as data. -/
theorem trod_ro {H : Type} {enc : TypeId × Value → H} {W : World} (N : Nat) : ∀ (sh : Sh) (t : TypeId) (fuel : Nat) (cs : List Value) (x : DataW H × List MemPlace), shTyB P sh t = true → DataW.trod enc P W 0 (fun _ => true) true fuel t cs = some x →
    ∃ ro v, cs = v.cells.toList ∧ RoD W (OutB W fun _ => False) sh ro v ∧ roM sh ro + 1 ≤ uptoBulk x.1 ∧ ((∀ n ∈ x.1.weights P t, n ≤ N) → roMx N sh ro)
  | .i k, t, fuel, cs, x, hs, h => by
    simp only [shTyB] at hs
    split at hs
    · rename_i k' hu
      have hk := keq_eq hs
      subst hk
      cases fuel with
      | zero => simp [DataW.trod] at h
      | succ n =>
        unfold DataW.trod at h
        rw [hu] at h
        rcases cs with _ | ⟨c, _ | ⟨c2, r⟩⟩
        · simp at h
        · cases c <;> simp at h
          rename_i k2 z
          obtain ⟨⟨rfl, hz⟩, rfl⟩ := h
          refine ⟨.i z, .int k2 z, rfl, ?_, by simp [roM, uptoBulk], fun _ => trivial⟩
          simp only [RoD, roZ]
          refine ⟨trivial, ?_⟩
          simp only [Lit.wf, Bool.and_eq_true, decide_eq_true_eq] at hz
          cases k2 <;> simp [InR, IntKind.min, IntKind.max, IntKind.bits, IntKind.signed] at hz ⊢ <;> omega
        · simp at h
    · cases hs
  | .tb, t, fuel, cs, x, hs, h => by
    simp only [shTyB] at hs
    split at hs
    · rename_i hu
      cases fuel with
      | zero => simp [DataW.trod] at h
      | succ n =>
        unfold DataW.trod at h
        rw [hu] at h
        rcases cs with _ | ⟨c, _ | ⟨c2, r⟩⟩
        · simp at h
        · cases c <;> simp at h
          rename_i b
          subst h
          exact ⟨.b b, .bool b, rfl, by simp only [RoD, roB], by simp [roM, uptoBulk], fun _ => trivial⟩
        · simp at h
    · cases hs
  | .ts, t, fuel, cs, x, hs, h => by
    simp only [shTyB] at hs
    split at hs
    · rename_i hu
      cases fuel with
      | zero => simp [DataW.trod] at h
      | succ n =>
        unfold DataW.trod at h
        rw [hu] at h
        rcases cs with _ | ⟨c, _ | ⟨c2, r⟩⟩
        · simp at h
        · cases c <;> simp at h
          rename_i s
          obtain ⟨hz, rfl⟩ := h
          refine ⟨.s s, .string s, rfl, ?_, ?_, fun hw => ?_⟩
          · simp only [RoD, roS]
            refine ⟨trivial, ?_⟩
            have : s.size ≤ maxLen := hz
            simp only [maxLen] at this
            omega
          · simp only [roM, roS, uptoBulk]
            have : s.data.toList.length = s.size := by simp
            omega
          · have := hw s.data.toList.length (by simp [DataW.weights])
            have e : s.data.toList.length = s.size := by simp
            simp only [roMx, roS]
            omega
        · simp at h
    · cases hs
  | .ints k, t, fuel, cs, x, hs, h => by
    simp only [shTyB] at hs
    split at hs
    · rename_i e hu
      split at hs
      · rename_i k' hue
        simp only [Bool.and_eq_true] at hs
        have hk := keq_eq hs.1
        subst hk
        have hbs : 0 < P.bytesOf e := by have := hs.2.2; simp [Nat.blt] at this; omega
        rcases open_ints hu hue (Nat.eq_of_beq_eq_true hs.2.1) h with ⟨rfl, rfl⟩ | ⟨a, len, cap, zs, rfl, h2, h3, h4, h5, h6, h7, h8⟩
        · refine ⟨.l [], .slice none 0 0, rfl, ?_, by simp [roM, roL, uptoBulk], fun _ => Nat.zero_le _⟩
          simp only [RoD]
          exact ⟨none, 0, rfl, Nat.le_refl _, by simp [roL], (fun z hz => by cases hz), .inr ⟨rfl, rfl⟩⟩
        · have hzl : zs.length = cap := by simpa using h5
          have hR : AllR k zs := fun z hz => by
            have := h8 z hz
            simp only [Lit.wf, Bool.and_eq_true, decide_eq_true_eq] at this
            cases k <;> simp [InR, IntKind.min, IntKind.max, IntKind.bits, IntKind.signed] at this ⊢ <;> omega
          have hlen : (zs.take len).length = len := by rw [List.length_take]; omega
          have hmax : cap ≤ 140737488355328 ∨ True := .inr trivial
          refine ⟨.l (zs.take len), .slice (some a) len cap, rfl, ?_, ?_, fun hw => ?_⟩
          · simp only [RoD]
            have er : roL (.l (zs.take len)) = zs.take len := rfl
            rw [er]
            refine ⟨some a, cap, by rw [hlen], by omega, ?_, fun z hz => hR z (List.mem_of_mem_take hz), ?_⟩
            · rw [hlen]; simp only [maxLen] at h4; omega
            · rcases Nat.eq_zero_or_pos cap with h0 | h0
              · exact .inr ⟨by omega, h0⟩
              · have h00 := h7 0 (by omega)
                rw [add_zero_addr] at h00
                obtain ⟨ha, hb⟩ := addr_of_cell h00
                refine .inl ⟨a.block, a.off, by rw [← ha], ⟨hb, fun h => h⟩, fun i u hu => ?_⟩
                rw [List.getElem?_map, Option.map_eq_some_iff] at hu
                obtain ⟨z, hz, rfl⟩ := hu
                rw [List.getElem?_take] at hz
                split at hz
                · rename_i hi
                  have := h7 i (by omega)
                  have ea : a.add i = ⟨a.block, a.off + i, none⟩ := by rw [ha]; exact Addr.add_mid _ _ _
                  rw [ea] at this
                  rw [this]
                  simp [List.getD, hz]
                · cases hz
          · rw [h6]
            simp only [roM, roL, uptoBulk]
            have := bulkAll_len (lits (H := H) k (zs.take len))
            have e : (lits (H := H) k (zs.take len)).length = (zs.take len).length := by simp [lits]
            omega
          · rw [h6] at hw
            have elen : ∀ l : List Int, (lits (H := H) k l).length = l.length := fun l => by simp [lits]
            have := hw (((lits (H := H) k (zs.take len)).length + (lits (H := H) k (zs.drop len)).length) * P.bytesOf e) (by simp [DataW.weights, hu])
            rw [elen, elen] at this
            have h9 : ((zs.take len).length + (zs.drop len).length) * 1 ≤ ((zs.take len).length + (zs.drop len).length) * P.bytesOf e := Nat.mul_le_mul_left _ hbs
            show (zs.take len).length ≤ N
            omega
      · cases hs
    · cases hs
  | .l sh, t, fuel, cs, x, hs, h => by
    simp only [shTyB] at hs
    split at hs
    · rename_i e hu
      simp only [Bool.and_eq_true] at hs
      obtain ⟨hs1, hs2, hs3, hs4⟩ := hs
      have hbs : 0 < P.bytesOf e := by simp [Nat.blt] at hs4; omega
      have hc := Nat.eq_of_beq_eq_true hs2
      have hpos : 0 < shSize sh := by simp [Nat.blt] at hs3; omega
      rcases DataW.trod_slice hu h with ⟨rfl, rfl⟩ | ⟨a, len, cap, elems, rest, n, rfl, rfl, rfl, hb, hl, hm, hlen, hel, hsp, hns⟩
      · refine ⟨.r [], .slice none 0 0, rfl, ?_, by simp [roM, roX, uptoBulk], fun _ => ⟨Nat.zero_le _, fun x hx => by cases hx⟩⟩
        simp only [RoD]
        exact ⟨none, 0, [], rfl, Nat.le_refl _, by simp [roX], rfl, .inr ⟨rfl, rfl⟩⟩
      · obtain ⟨hrl, hrest⟩ := hsp rfl
        have hall : ∀ i, i < cap → ∃ ccs y, W.cells? 0 (a.add (i * P.cellsOf e)) (P.cellsOf e) = some ccs ∧ DataW.trod enc P W 0 (fun _ => true) true n e ccs = some y ∧ (i < len → elems[i]? = some y) := fun i hi => by
          by_cases hil : i < len
          · have h1 := hel i hil
            have h2 : elems[i]? = some elems[i] := List.getElem?_eq_getElem (by omega)
            rw [h2, Option.bind_eq_some_iff] at h1
            obtain ⟨ccs, q1, q2⟩ := h1
            exact ⟨ccs, _, q1, q2, fun _ => h2⟩
          · have h1 := hrest (i - len) (by omega)
            have h2 : rest[i - len]? = some rest[i - len] := List.getElem?_eq_getElem (by omega)
            rw [h2, Option.bind_eq_some_iff, show len + (i - len) = i by omega] at h1
            obtain ⟨ccs, q1, q2⟩ := h1
            exact ⟨ccs, _, q1, q2, fun h => absurd h hil⟩
        have hblk : 0 < cap → a = ⟨a.block, a.off, none⟩ ∧ a.block < W.heap.size := fun h0 => by
          obtain ⟨ccs, y, q1, q2, _⟩ := hall 0 h0
          obtain ⟨_, q3, q4⟩ := World.cells?_some q1
          have := q4 0 (by omega)
          rw [Nat.zero_mul, add_zero_addr, add_zero_addr] at this
          obtain ⟨v, hv⟩ : ∃ v, ccs[0]? = some v := ⟨ccs[0]'(by omega), List.getElem?_eq_getElem _⟩
          rw [hv] at this
          exact addr_of_cell this
        have hchain : ∀ m, m ≤ len → ∃ ros cs', ros.length = m ∧ ChainR (RoD W (OutB W fun _ => False) sh) ros cs' ∧ cs'.length = shSize sh * m ∧ (∀ i u, cs'[i]? = some u → W.cell? (a.add i) = some u) ∧ ros.length + (ros.map (roM sh)).sum ≤ uptoBulkAll ((elems.take m).map (·.1)) ∧ ((∀ y ∈ elems, ∀ n ∈ y.1.weights P e, n ≤ N) → ∀ ro ∈ ros, roMx N sh ro) := by
          intro m
          induction m with
          | zero => intro _; exact ⟨[], [], rfl, rfl, by simp, (fun i u h => by simp at h), by simp, fun _ x hx => by cases hx⟩
          | succ m ih =>
            intro hm'
            obtain ⟨ros, cs', r1, r2, r3, r4, r5, r6⟩ := ih (by omega)
            obtain ⟨ccs, y, q1, q2, q3⟩ := hall m (by omega)
            have q3 := q3 (by omega)
            obtain ⟨ro, v, rfl, s2, s3, s4⟩ := trod_ro N sh e n ccs y hs1 q2
            obtain ⟨_, q5, q6⟩ := World.cells?_some q1
            have hvl := RoD_cells sh ro v s2
            refine ⟨ros ++ [ro], cs' ++ v.cells.toList, by simp [r1], ChainR.snoc s2 ros cs' r2, by rw [List.length_append, r3, hvl, Nat.mul_add]; omega, fun i u hu => ?_, ?_, fun hy ro' hr => ?_⟩
            · rcases Nat.lt_or_ge i cs'.length with hi | hi
              · rw [List.getElem?_append_left hi] at hu; exact r4 i u hu
              · rw [List.getElem?_append_right hi] at hu
                have hi2 : i - cs'.length < v.cells.toList.length := (List.getElem?_eq_some_iff.1 hu).1
                have := q6 (i - cs'.length) (by omega)
                rw [hu] at this
                have e1 : m * P.cellsOf e = cs'.length := by rw [hc, r3, Nat.mul_comm]
                rw [← this, add_add_addr, e1, Nat.add_sub_cancel' hi]
            · rw [List.map_append, List.sum_append, List.length_append, List.take_add_one, q3, List.map_append, bulkAll_app]
              simp only [List.map_cons, List.map_nil, List.sum_cons, List.sum_nil, List.length_cons, List.length_nil, Option.toList_some, uptoBulkAll]
              omega
            · rcases List.mem_append.1 hr with hr | hr
              · exact r6 hy ro' hr
              · simp only [List.mem_cons, List.not_mem_nil, or_false] at hr
                subst hr
                exact s4 fun k hk => hy y (List.mem_of_getElem? q3) k hk
        obtain ⟨ros, cs', r1, r2, r3, r4, r5, r6⟩ := hchain len (Nat.le_refl _)
        refine ⟨.r ros, .slice (some a) len cap, rfl, ?_, ?_, fun hw => ⟨?_, ?_⟩⟩
        · simp only [RoD]
          have er : roX (.r ros) = ros := rfl
          rw [er]
          refine ⟨some a, cap, cs', by rw [r1], by omega, ?_, r2, ?_⟩
          · rw [r1]; simp only [maxLen] at hm; omega
          · rcases Nat.eq_zero_or_pos cap with h0 | h0
            · exact .inr ⟨by omega, h0⟩
            · obtain ⟨ha, hb⟩ := hblk h0
              refine .inl ⟨a.block, a.off, by rw [← ha], ⟨hb, fun h => h⟩, fun i u hu => ?_⟩
              have := r4 i u hu
              have ea : a.add i = ⟨a.block, a.off + i, none⟩ := by rw [ha]; exact Addr.add_mid _ _ _
              rwa [ea] at this
        · simp only [roM, roX, uptoBulk]
          rw [List.take_of_length_le (by omega)] at r5
          have := bulkAll_len (elems.map (·.1))
          rw [List.length_map] at this
          omega
        · have := hw (((elems.map (·.1)).length + (rest.map (·.1)).length) * P.bytesOf e) (by simp [DataW.weights, hu])
          rw [List.length_map, List.length_map] at this
          have h9 : (elems.length + rest.length) * 1 ≤ (elems.length + rest.length) * P.bytesOf e := Nat.mul_le_mul_left _ hbs
          show ros.length ≤ N
          omega
        · refine r6 fun y hy k hk => hw k ?_
          simp only [DataW.weights, hu, List.mem_cons, List.mem_append]
          exact .inr (.inl (weightsAll_mem (List.mem_map.2 ⟨y, hy, rfl⟩) k hk))
    · cases hs
  | .arr n k, t, fuel, cs, x, hs, h => by
    simp only [shTyB] at hs
    split at hs
    · rename_i m e hu
      simp only [Bool.and_eq_true] at hs
      obtain ⟨h1, h2, h3, h4⟩ := hs
      have h1 := Nat.eq_of_beq_eq_true h1
      have h2 := Nat.eq_of_beq_eq_true h2
      have h3 := Nat.eq_of_beq_eq_true h3
      subst h1
      split at h4
      · rename_i k' hue
        have hk := keq_eq h4
        subst hk
        obtain ⟨xs, q, rfl, rfl, hl, hxl, hel⟩ := DataW.trod_array hu h
        have hcell : ∀ i, i < cs.length → ∃ z, cs[i]? = some (.int k z) ∧ InR k z := fun i hi => by
          have := hel i (by omega)
          rw [h3, Nat.mul_one, List.drop_eq_getElem_cons hi, List.take_succ_cons, List.take_zero, List.getElem?_eq_getElem (by omega)] at this
          cases q with
          | zero => simp [DataW.trod] at this
          | succ q =>
            unfold DataW.trod at this
            rw [hue] at this
            rw [List.getElem?_eq_getElem hi]
            generalize cs[i] = c at *
            cases c <;> simp at this
            rename_i k2 z
            obtain ⟨⟨rfl, hz⟩, _⟩ := this
            refine ⟨z, rfl, ?_⟩
            simp only [Lit.wf, Bool.and_eq_true, decide_eq_true_eq] at hz
            cases k2 <;> simp [InR, IntKind.min, IntKind.max, IntKind.bits, IntKind.signed] at hz ⊢ <;> omega
        have hall : ∀ (cs : List Value), (∀ i, i < cs.length → ∃ z, cs[i]? = some (.int k z) ∧ InR k z) → ∃ l : List Int, cs = l.map (Value.int k) ∧ AllR k l := by
          intro cs
          induction cs with
          | nil => intro _; exact ⟨[], rfl, fun z hz => by cases hz⟩
          | cons c r ih =>
            intro hc
            obtain ⟨l, e1, e2⟩ := ih fun i hi => by
              have := hc (i + 1) (by simpa using hi)
              simpa using this
            obtain ⟨z, z1, z2⟩ := hc 0 (by simp)
            simp only [List.getElem?_cons_zero, Option.some.injEq] at z1
            refine ⟨z :: l, by rw [List.map_cons, ← e1, z1], fun y hy => ?_⟩
            rcases List.mem_cons.1 hy with rfl | hy
            · exact z2
            · exact e2 y hy
        obtain ⟨l, e1, e2⟩ := hall cs hcell
        refine ⟨.l l, .agg (l.map (Value.int k)).toArray, by rw [e1]; simp [Value.cells], ?_, by simp [roM, uptoBulk], fun _ => trivial⟩
        simp only [RoD]
        have er : roL (.l l) = l := rfl
        rw [er]
        refine ⟨?_, e2, rfl⟩
        have : cs.length = l.length := by rw [e1, List.length_map]
        omega
      · cases h4
    · cases hs
  | .r fs, t, fuel, cs, x, hs, h => by
    simp only [shTyB] at hs
    split at hs
    · rename_i ff hu
      simp only [Bool.and_eq_true] at hs
      obtain ⟨xs, n, rfl, rfl, hl, hxl, hel⟩ := DataW.trod_struct hu h
      have hsz := Nat.eq_of_beq_eq_true hs.2
      obtain ⟨ros, r1, r2, r3, r4⟩ := trods_ro N fs ff.toList 0 n cs xs hs.1 (by simpa using hxl) (fun i f hf => hel i f (by simpa using hf)) (by omega)
      have r2 := r2 []
      have r3 := r3 []
      rw [List.drop_zero] at r2
      refine ⟨.r ros, .agg cs.toArray, by simp [Value.cells], ?_, ?_, fun hw => ?_⟩
      · simp only [RoD]
        exact ⟨cs, r2, rfl⟩
      · simp only [roM, uptoBulk]
        have : roMs fs (.r ros) 0 + fs.length ≤ uptoBulkAll (xs.map (·.1)) := r3
        omega
      · simp only [roMx]
        refine r4 (fun k hk => hw k ?_) []
        simp only [DataW.weights, hu]
        exact hk
    · cases hs
theorem trods_ro {H : Type} {enc : TypeId × Value → H} {W : World} (N : Nat) : ∀ (fs : List Sh) (ff : List Field) (o n : Nat) (cs : List Value) (xs : List (DataW H × List MemPlace)), shTysB P fs ff o = true → xs.length = ff.length →
    (∀ (i : Nat) (f : Field), ff[i]? = some f → DataW.trod enc P W 0 (fun _ => true) true n f.type ((cs.drop f.offset).take (P.cellsOf f.type)) = xs[i]?) → cs.length = o + shSizes fs →
    ∃ ros : List RO, ros.length = fs.length ∧ (∀ pre : List RO, RoCs W (OutB W fun _ => False) fs (.r (pre ++ ros)) pre.length (cs.drop o)) ∧ (∀ pre : List RO, roMs fs (.r (pre ++ ros)) pre.length + fs.length ≤ uptoBulkAll (xs.map (·.1))) ∧
      ((∀ k ∈ DataW.weightsEach P (ff.map (·.type)) (xs.map (·.1)), k ≤ N) → ∀ pre : List RO, roMxs N fs (.r (pre ++ ros)) pre.length)
  | [], ff, o, n, cs, xs, hs, hx, hel, hl => by
    refine ⟨[], rfl, fun pre => ?_, fun pre => by simp [roMs], fun _ pre => by simp only [roMxs]⟩
    simp only [RoCs]
    exact List.drop_eq_nil_of_le (by simp only [shSizes] at hl; omega)
  | s :: r, ff, o, n, cs, xs, hs, hx, hel, hl => by
    simp only [shTysB] at hs
    split at hs
    · rename_i f ff
      simp only [Bool.and_eq_true] at hs
      obtain ⟨h1, h2, h3, h4⟩ := hs
      have h1 := Nat.eq_of_beq_eq_true h1
      have h3 := Nat.eq_of_beq_eq_true h3
      rcases xs with _ | ⟨x, xt⟩
      · simp at hx
      simp only [shSizes] at hl
      have e0 := hel 0 f rfl
      rw [h1, h3] at e0
      obtain ⟨ro, v, q1, q2, q3, q4⟩ := trod_ro N s f.type n _ x h2 e0
      obtain ⟨ros, r1, r2, r3, r4⟩ := trods_ro N r ff (o + shSize s) n cs xt h4 (by simpa using hx) (fun i f' hf => by have := hel (i + 1) f' (by simpa using hf); simpa using this) (by omega)
      have hro : ∀ pre : List RO, roN (.r (pre ++ ro :: ros)) pre.length = ro := fun pre => by simp [roN, roX, List.getD_eq_getElem?_getD]
      have hpre : ∀ pre : List RO, (pre ++ [ro]) ++ ros = pre ++ ro :: ros := fun pre => by simp
      refine ⟨ro :: ros, by simp [r1], fun pre => ?_, fun pre => ?_, fun hw pre => ?_⟩
      · simp only [RoCs]
        refine ⟨v, cs.drop (o + shSize s), by rw [hro]; exact q2, ?_, ?_⟩
        · rw [← q1, ← List.drop_drop, List.take_append_drop]
        · have := r2 (pre ++ [ro])
          rw [hpre, List.length_append] at this
          exact this
      · have := r3 (pre ++ [ro])
        rw [hpre, List.length_append] at this
        have h5 : roMs r (.r (pre ++ ro :: ros)) (pre.length + 1) + r.length ≤ uptoBulkAll (xt.map (·.1)) := this
        simp only [roMs, hro, List.map_cons, uptoBulkAll, List.length_cons]
        omega
      · simp only [List.map_cons, DataW.weightsEach, List.mem_append] at hw
        have := r4 (fun k hk => hw k (.inr hk)) (pre ++ [ro])
        rw [hpre, List.length_append] at this
        simp only [roMxs, hro]
        exact ⟨q4 fun k hk => hw k (.inl hk), this⟩
    · cases hs
end

def slSh : Sh → Bool
  | .ints _ => true
  | .l _ => true
  | _ => false

/-- An argument that is a slice, as data. -/
theorem arg_ro {H : Type} {enc : TypeId × Value → H} {W : World} (N : Nat) (sh : Sh) {t : TypeId} {v : Value} {d : DataW H} {ps : List MemPlace} (hs : shTyB P sh t = true) (hsl : slSh sh = true) (hv : v.cells.toList = [v]) (h : DataW.Trod enc P W 0 (fun _ => true) true t v d ps) :
    ∃ ro, RoD W (OutB W fun _ => False) sh ro v ∧ (∃ ad n cap, v = .slice ad n cap) ∧ roM sh ro + 1 ≤ uptoBulk d ∧ ((∀ n ∈ d.weights P t, n ≤ N) → roMx N sh ro) := by
  obtain ⟨fuel, h⟩ := h
  obtain ⟨ro, u, e, q1, q2, q3⟩ := trod_ro N sh t fuel _ _ hs h
  have hu : ∃ ad n cap, u = .slice ad n cap := by
    cases sh <;> simp only [slSh, Bool.false_eq_true] at hsl <;> simp only [RoD] at q1
    · obtain ⟨a, cap, rfl, _⟩ := q1; exact ⟨_, _, _, rfl⟩
    · obtain ⟨a, cap, cs, rfl, _⟩ := q1; exact ⟨_, _, _, rfl⟩
  have huv : v = u := by
    obtain ⟨ad, n, cap, rfl⟩ := hu
    rw [hv] at e
    simpa [Value.cells] using e
  subst huv
  exact ⟨ro, q1, hu, q2, q3⟩

/-- A law as a call off a world that holds the globals. -/
theorem law_gen {Γ : Tab} (hΓ : TabOk P Γ) (hgl : Γ.gl = keysOf Γ.gh) (hlow : ∀ g ∈ keysOf Γ.gh, g < 490) {f : FuncId} {fn : Func} (hf : P.funcs[f]? = some fn) {av : List AV} {args' : List SV} {L : Loops} {K : List RV → List (Option (List Seg)) → Prop} {inv : Nat → List Pv → Nat → Prop}
    (k1 : okA 600 av args' []) (k2 : args'.length ≤ fn.ntmps) (k3 : VcG 0 Γ fn L (Γ.gh ++ (490, .world) :: []) args' K inv) (hK : ∀ rvs fin, K rvs fin → ∃ e, rvs = [.v (.b e true)])
    {W : World} {vs : List Value} (hG : Glob Γ.gh W fun _ => False) (hA : AsD W (OutB W fun _ => False) (fun _ => none) (fun _ => { blk := 0, off := 0, cap := 0 }) av vs []) :
    Calls P f vs.toArray W fun e w' => e = .returned (.bool true) ∧ Below W.heap.size W w' := by
  have hm := mem_start W fun _ => { blk := 0, off := 0, cap := 0 }
  obtain ⟨hh1, hh2⟩ := okA_heap av vs [] 600 args' [] hA k1
  obtain ⟨ρ1, m1, m2, m3, m4, m5⟩ := gen_mem hG hgl hlow hm (ks := []) (fun k hk => by cases hk) List.nodup_nil (M' := fun _ => False) (fun b => ⟨fun h => h.elim, fun ⟨k, hk, _⟩ => by cases hk⟩) hh1 hh2
  have hargs := okA_args m3 m4 av vs [] 600 args' [] hA k1 (fun i hi => by simp at hi)
  refine (vcG_calls hΓ hf k3 k2 m2 m1 hargs).mono fun e w' he => ?_
  obtain ⟨x, v, h', ρ', rfl, r1, r2, r3, r4⟩ := he
  obtain ⟨rvs', fin', t1, t3, t4, t5⟩ := kvG_sound r3 r2 r1
  obtain ⟨e, rfl⟩ := hK _ _ t1
  rcases t3 with ⟨r, hr, hd⟩ | ⟨hn, _⟩
  · simp only [List.cons.injEq, and_true] at hr
    subst hr
    simp only [RvD, D] at hd
    exact ⟨by rw [hd], r3.frame.below fun _ h => h⟩
  · exact absurd rfl hn

end
end Go.Gx

/- ScalarTapes: the first scalars of a stream are those of the document, asked again and again, with the stream's memory written over too; the stream stays as it was, the room behind it too; what is handed out is the caller's. For all streams whose bytes are not more than the cards' bound; the table lies as the program's text lays it. -/
namespace Go.Gx
open Go.Proofs Go.Sp Go.RowKit
open Go.Sp (prI mlL adL sbL pwL invL)
set_option linter.unusedVariables false
set_option maxRecDepth 100000
namespace ScalarTapes
def L9 : Loops := [(8, ⟨[.ro 490 shB (.l []), .i .i64 ⟨false, 0⟩, .any, .any, .any, .sl 1000 0 1 ⟨true, .ofNat 0⟩ ⟨false, 0⟩, .sl 1001 0 4 ⟨true, .ofNat 0⟩ ⟨false, 0⟩, .any, .sl 1002 0 4 ⟨true, .ofNat 0⟩ ⟨false, 0⟩, .any, .i .i64 ⟨false, 0⟩] ++ reps .any 234, gW ++ [(1000, .segs false [.rowI .u8 []]), (1001, .segs false [.rowA .u64 4 []]), (1002, .segs false [.rowA .u64 4 []])], 2000⟩),
  (13, ⟨[.ro 490 shB (.l []), .i .i64 ⟨false, 0⟩, .any, .any, .any, .sl 1000 0 1 ⟨true, .ofNat 0⟩ ⟨false, 0⟩, .sl 1001 0 4 ⟨true, .ofNat 0⟩ ⟨false, 0⟩, .any, .sl 1002 0 4 ⟨true, .ofNat 0⟩ ⟨false, 0⟩, .any, .any, .i .i64 ⟨false, 0⟩] ++ reps .any 233, gW ++ [(1000, .segs false [.rowI .u8 []]), (1001, .segs false [.rowA .u64 4 []]), (1002, .segs false [.rowA .u64 4 []])], 2000⟩),
  (19, ⟨[.ro 490 shB (.l []), .i .i64 ⟨false, 0⟩, .any, .any, .any, .sl 1000 0 1 ⟨true, .ofNat 0⟩ ⟨false, 0⟩, .sl 1001 0 4 ⟨true, .ofNat 0⟩ ⟨false, 0⟩, .any, .sl 1002 0 4 ⟨true, .ofNat 0⟩ ⟨false, 0⟩, .any, .any, .any, .i .i64 ⟨false, 0⟩] ++ reps .any 232, gW ++ [(1000, .segs false [.rowI .u8 []]), (1001, .segs false [.rowA .u64 4 []]), (1002, .segs false [.rowA .u64 4 []])], 2000⟩),
  (31, ⟨[.ro 490 shB (.l []), .i .i64 ⟨false, 0⟩, .any, .any, .any, .sl 1000 0 1 ⟨true, .ofNat 0⟩ ⟨false, 0⟩, .sl 1001 0 4 ⟨true, .ofNat 0⟩ ⟨false, 0⟩, .any, .sl 1002 0 4 ⟨true, .ofNat 0⟩ ⟨false, 0⟩, .any, .any, .any, .any, .sl 1003 0 4 ⟨true, .ofNat 0⟩ ⟨false, 0⟩, .any, .sl 1004 0 4 ⟨true, .ofNat 0⟩ ⟨false, 0⟩, .any, .sl 1005 0 4 ⟨true, .ofNat 0⟩ ⟨false, 0⟩, .any, .i .i64 ⟨false, 0⟩] ++ reps .any 225, gW ++ [(1000, .segs false [.rowI .u8 []]), (1001, .segs false [.rowA .u64 4 []]), (1002, .segs false [.rowA .u64 4 []]), (1003, .segs false [.rowA .u64 4 []]), (1004, .segs false [.rowA .u64 4 []]), (1005, .segs false [.rowA .u64 4 []])], 2000⟩),
  (40, ⟨[.any, .any, .any, .any, .any, .any, .sl 1001 0 4 ⟨true, .ofNat 0⟩ ⟨false, 0⟩, .any, .any, .any, .any, .any, .any, .sl 1003 0 4 ⟨true, .ofNat 0⟩ ⟨false, 0⟩, .any, .sl 1004 0 4 ⟨true, .ofNat 0⟩ ⟨false, 0⟩, .any, .sl 1005 0 4 ⟨true, .ofNat 0⟩ ⟨false, 0⟩, .any, .any, .sl 1006 0 4 ⟨true, .ofNat 0⟩ ⟨false, 0⟩, .any, .sl 1007 0 4 ⟨true, .ofNat 0⟩ ⟨false, 0⟩, .any, .i .i64 ⟨false, 0⟩] ++ reps .any 220, gW ++ [(1001, .segs false [.rowA .u64 4 []]), (1003, .segs false [.rowA .u64 4 []]), (1004, .segs false [.rowA .u64 4 []]), (1005, .segs false [.rowA .u64 4 []]), (1006, .segs false [.rowA .u64 4 []]), (1007, .segs false [.rowA .u64 4 []])], 2000⟩)]
def vc9 (d : RO) (n : Int) (K : List RV → List (Option (List Seg)) → Prop) (Q : Nat → List Pv → Prop) : Prop := fnVcG 0 Γ19t Tryd.f9 L9 [.ro 490 shB d, .i .i64 ⟨false, n⟩] gW K Q
def lc9a (d : RO) (n a b c i : Int) (f : List Int) (l m : List (List Int)) (K : List RV → List (Option (List Seg)) → Prop) (Q : Nat → List Pv → Prop) : Prop := loopVcG 0 Γ19t Tryd.f9 L9 8 [.ro d, .z n, .z a, .z b, .z c, .z i, .l f, .ll l, .ll m] K Q
def lc9b (d : RO) (n a b c i : Int) (f : List Int) (l m : List (List Int)) (K : List RV → List (Option (List Seg)) → Prop) (Q : Nat → List Pv → Prop) : Prop := loopVcG 0 Γ19t Tryd.f9 L9 13 [.ro d, .z n, .z a, .z b, .z c, .z i, .l f, .ll l, .ll m] K Q
def lc9c (d : RO) (n a b c i : Int) (f : List Int) (l m : List (List Int)) (K : List RV → List (Option (List Seg)) → Prop) (Q : Nat → List Pv → Prop) : Prop := loopVcG 0 Γ19t Tryd.f9 L9 19 [.ro d, .z n, .z a, .z b, .z c, .z i, .l f, .ll l, .ll m] K Q
def lc9d (d : RO) (n a b c e g h i : Int) (f : List Int) (l m p q r : List (List Int)) (K : List RV → List (Option (List Seg)) → Prop) (Q : Nat → List Pv → Prop) : Prop := loopVcG 0 Γ19t Tryd.f9 L9 31 [.ro d, .z n, .z a, .z b, .z c, .z e, .z g, .z h, .z i, .l f, .ll l, .ll m, .ll p, .ll q, .ll r] K Q
def lc9e (b e g h s u i : Int) (l p q r x y : List (List Int)) (K : List RV → List (Option (List Seg)) → Prop) (Q : Nat → List Pv → Prop) : Prop := loopVcG 0 Γ19t Tryd.f9 L9 40 [.z b, .z e, .z g, .z h, .z s, .z u, .z i, .ll l, .ll p, .ll q, .ll r, .ll x, .ll y] K Q
theorem vc9_eq : ∀ (d : RO) (n : Int) (K : List RV → List (Option (List Seg)) → Prop) (Q : Nat → List Pv → Prop), vc9 d n K Q = (Need ((([] ++ roL d).length : Int) * (1 : Int) ≤ (140737488355328 : Int)) ∧ Need ((0 : Int) = (0 : Int)) ∧ ∀ (x1 : List Int), x1 = [] ++ roL d → AllR IntKind.u8 x1 → ∀ (x2 : Int), x2 = (([] ++ roL d).length : Int) → (0 : Int) ≤ x2 → InR IntKind.i64 x2 → Need (((x1 ++ List.take (3 : Nat) (List.drop (0 : Nat) [(201 : Int), (202 : Int), (203 : Int)])).length : Int) * (1 : Int) ≤ (140737488355328 : Int)) ∧ Need (x2 = ↑x1.length) ∧ Need ((3 : Int) ≤ (3 : Int)) ∧ ∀ (x3 : List Int), x3 = x1 ++ List.take (3 : Nat) (List.drop (0 : Nat) [(201 : Int), (202 : Int), (203 : Int)]) → AllR IntKind.u8 x3 → ∀ (x4 : Int), x4 = ((x1 ++ List.take (3 : Nat) (List.drop (0 : Nat) [(201 : Int), (202 : Int), (203 : Int)])).length : Int) → (0 : Int) ≤ x4 → InR IntKind.i64 x4 → Need ((0 : Int) ≤ (0 : Int) ∧ (0 : Int) ≤ ((roL d).length : Int) ∧ ((roL d).length : Int) ≤ x4) ∧ Need ((0 : Int) + ((roL d).length : Int) ≤ ↑x3.length) ∧ ∀ (x5 : List (List Int)), x5 = tapeL (RO.l (List.take (((roL d).length : Int)).toNat (List.drop (0 : Nat) x3))) n → AllA IntKind.u64 (4 : Nat) x5 → ∀ (x6 : Int), x6 = ↑(tapeL (RO.l (List.take (((roL d).length : Int)).toNat (List.drop (0 : Nat) x3))) n).length → (0 : Int) ≤ x6 → InR IntKind.i64 x6 → ∀ (x7 : Int), x7 = tapeE (RO.l (List.take (((roL d).length : Int)).toNat (List.drop (0 : Nat) x3))) n → InR IntKind.i64 x7 → ∀ (x8 : List (List Int)), x8 = tapeL d n → AllA IntKind.u64 (4 : Nat) x8 → ∀ (x9 : Int), x9 = ((tapeL d n).length : Int) → (0 : Int) ≤ x9 → InR IntKind.i64 x9 → ∀ (x10 : Int), x10 = tapeE d n → InR IntKind.i64 x10 → ((x7 != x10) = true → K [RV.v (SV.b true false)] []) ∧ ((x7 != x10) = false → ((x6 != x9) = true → K [RV.v (SV.b true false)] []) ∧ ((x6 != x9) = false → Same Tryd.f9 (8 : Nat) (itemsOf Tryd.f9 (8 : Nat)) ∧ Q (8 : Nat) [Pv.ro d, Pv.z n, Pv.z x4, Pv.z x6, Pv.z x9, Pv.z (0 : Int), Pv.l x3, Pv.ll x5, Pv.ll x8]))) := by
  intros
  kernel_rfl

theorem lc9a_eq : ∀ (d : RO) (n a b c i : Int) (f : List Int) (l m : List (List Int)) (K : List RV → List (Option (List Seg)) → Prop) (Q : Nat → List Pv → Prop), lc9a d n a b c i f l m K Q = ((decide (i < b) = true → Need ((0 : Int) ≤ i ∧ i < b) ∧ Need ((0 : Int) ≤ i ∧ i < ↑l.length) ∧ ∀ (x1 : Int), x1 = (l.getD i.toNat []).getD (0 : Nat) (0 : Int) → InR IntKind.u64 x1 → ∀ (x2 : Int), x2 = (l.getD i.toNat []).getD (1 : Nat) (0 : Int) → InR IntKind.u64 x2 → ∀ (x3 : Int), x3 = (l.getD i.toNat []).getD (2 : Nat) (0 : Int) → InR IntKind.u64 x3 → ∀ (x4 : Int), x4 = (l.getD i.toNat []).getD (3 : Nat) (0 : Int) → InR IntKind.u64 x4 → Need ((0 : Int) ≤ i ∧ i < c) ∧ Need ((0 : Int) ≤ i ∧ i < ↑m.length) ∧ ∀ (x5 : Int), x5 = (m.getD i.toNat []).getD (0 : Nat) (0 : Int) → InR IntKind.u64 x5 → ∀ (x6 : Int), x6 = (m.getD i.toNat []).getD (1 : Nat) (0 : Int) → InR IntKind.u64 x6 → ∀ (x7 : Int), x7 = (m.getD i.toNat []).getD (2 : Nat) (0 : Int) → InR IntKind.u64 x7 → ∀ (x8 : Int), x8 = (m.getD i.toNat []).getD (3 : Nat) (0 : Int) → InR IntKind.u64 x8 → ∀ (x9 : Bool), x9 = ([x1, x2, x3, x4] == [x5, x6, x7, x8]) → ((!x9) = true → K [RV.v (SV.b true false)] []) ∧ ((!x9) = false → ∀ (x10 : Int), x10 = IntKind.i64.wrap (i + (1 : Int)) → InR IntKind.i64 x10 → Same Tryd.f9 (8 : Nat) (itemsOf Tryd.f9 (8 : Nat)) ∧ Q (8 : Nat) [Pv.ro d, Pv.z n, Pv.z a, Pv.z b, Pv.z c, Pv.z x10, Pv.l f, Pv.ll l, Pv.ll m])) ∧ (decide (i < b) = false → Same Tryd.f9 (13 : Nat) (itemsOf Tryd.f9 (13 : Nat)) ∧ Q (13 : Nat) [Pv.ro d, Pv.z n, Pv.z a, Pv.z b, Pv.z c, Pv.z (0 : Int), Pv.l f, Pv.ll l, Pv.ll m])) := by
  intros
  kernel_rfl

theorem lc9b_eq : ∀ (d : RO) (n a b c i : Int) (f : List Int) (l m : List (List Int)) (K : List RV → List (Option (List Seg)) → Prop) (Q : Nat → List Pv → Prop), lc9b d n a b c i f l m K Q = ((decide (i < ((roL d).length : Int)) = true → Need ((0 : Int) ≤ i ∧ i < a) ∧ Need ((0 : Int) ≤ i ∧ i < ↑f.length) ∧ ∀ (x1 : Int), x1 = f.getD i.toNat (0 : Int) → InR IntKind.u8 x1 → Need ((0 : Int) ≤ i ∧ i < ((roL d).length : Int)) ∧ ∀ (x2 : Int), x2 = (roL d).getD i.toNat (0 : Int) → InR IntKind.u8 x2 → ((x1 != x2) = true → K [RV.v (SV.b true false)] []) ∧ ((x1 != x2) = false → Need ((0 : Int) ≤ i ∧ i < a) ∧ Need ((0 : Int) ≤ i ∧ i < ↑f.length) ∧ ∀ (x3 : Int), x3 = f.getD i.toNat (0 : Int) → InR IntKind.u8 x3 → ∀ (x4 : Int), x4 = IntKind.u8.wrap (x3 + (1 : Int)) → InR IntKind.u8 x4 → Need ((0 : Int) ≤ i ∧ i < a) ∧ Need ((0 : Int) ≤ i ∧ i < ↑f.length) ∧ ∀ (x5 : List Int), x5 = f.set i.toNat x4 → AllR IntKind.u8 x5 → ∀ (x6 : Int), x6 = IntKind.i64.wrap (i + (1 : Int)) → InR IntKind.i64 x6 → Same Tryd.f9 (13 : Nat) (itemsOf Tryd.f9 (13 : Nat)) ∧ Q (13 : Nat) [Pv.ro d, Pv.z n, Pv.z a, Pv.z b, Pv.z c, Pv.z x6, Pv.l x5, Pv.ll l, Pv.ll m])) ∧ (decide (i < ((roL d).length : Int)) = false → Same Tryd.f9 (19 : Nat) (itemsOf Tryd.f9 (19 : Nat)) ∧ Q (19 : Nat) [Pv.ro d, Pv.z n, Pv.z a, Pv.z b, Pv.z c, Pv.z (0 : Int), Pv.l f, Pv.ll l, Pv.ll m])) := by
  intros
  kernel_rfl

theorem lc9c_eq : ∀ (d : RO) (n a b c i : Int) (f : List Int) (l m : List (List Int)) (K : List RV → List (Option (List Seg)) → Prop) (Q : Nat → List Pv → Prop), lc9c d n a b c i f l m K Q = ((decide (i < b) = true → Need ((0 : Int) ≤ i ∧ i < b) ∧ Need ((0 : Int) ≤ i ∧ i < ↑l.length) ∧ ∀ (x1 : Int), x1 = (l.getD i.toNat []).getD (0 : Nat) (0 : Int) → InR IntKind.u64 x1 → ∀ (x2 : Int), x2 = (l.getD i.toNat []).getD (1 : Nat) (0 : Int) → InR IntKind.u64 x2 → ∀ (x3 : Int), x3 = (l.getD i.toNat []).getD (2 : Nat) (0 : Int) → InR IntKind.u64 x3 → ∀ (x4 : Int), x4 = (l.getD i.toNat []).getD (3 : Nat) (0 : Int) → InR IntKind.u64 x4 → Need ((0 : Int) ≤ i ∧ i < c) ∧ Need ((0 : Int) ≤ i ∧ i < ↑m.length) ∧ ∀ (x5 : Int), x5 = (m.getD i.toNat []).getD (0 : Nat) (0 : Int) → InR IntKind.u64 x5 → ∀ (x6 : Int), x6 = (m.getD i.toNat []).getD (1 : Nat) (0 : Int) → InR IntKind.u64 x6 → ∀ (x7 : Int), x7 = (m.getD i.toNat []).getD (2 : Nat) (0 : Int) → InR IntKind.u64 x7 → ∀ (x8 : Int), x8 = (m.getD i.toNat []).getD (3 : Nat) (0 : Int) → InR IntKind.u64 x8 → ∀ (x9 : Bool), x9 = ([x1, x2, x3, x4] == [x5, x6, x7, x8]) → ((!x9) = true → K [RV.v (SV.b true false)] []) ∧ ((!x9) = false → ∀ (x10 : Int), x10 = IntKind.i64.wrap (i + (1 : Int)) → InR IntKind.i64 x10 → Same Tryd.f9 (19 : Nat) (itemsOf Tryd.f9 (19 : Nat)) ∧ Q (19 : Nat) [Pv.ro d, Pv.z n, Pv.z a, Pv.z b, Pv.z c, Pv.z x10, Pv.l f, Pv.ll l, Pv.ll m])) ∧ (decide (i < b) = false → Need ((0 : Int) ≤ ((roL d).length : Int) ∧ ((roL d).length : Int) < a) ∧ Need ((0 : Int) ≤ ((roL d).length : Int) ∧ ((roL d).length : Int) < ↑f.length) ∧ ∀ (x11 : Int), x11 = f.getD (((roL d).length : Int)).toNat (0 : Int) → InR IntKind.u8 x11 → ((x11 != (201 : Int)) = true → K [RV.v (SV.b true false)] []) ∧ ((x11 != (201 : Int)) = false → ∀ (x12 : Int), x12 = IntKind.i64.wrap (((roL d).length : Int) + (1 : Int)) → InR IntKind.i64 x12 → Need ((0 : Int) ≤ x12 ∧ x12 < a) ∧ Need ((0 : Int) ≤ x12 ∧ x12 < ↑f.length) ∧ ∀ (x13 : Int), x13 = f.getD x12.toNat (0 : Int) → InR IntKind.u8 x13 → ((x13 != (202 : Int)) = true → K [RV.v (SV.b true false)] []) ∧ ((x13 != (202 : Int)) = false → ∀ (x14 : Int), x14 = IntKind.i64.wrap (((roL d).length : Int) + (2 : Int)) → InR IntKind.i64 x14 → Need ((0 : Int) ≤ x14 ∧ x14 < a) ∧ Need ((0 : Int) ≤ x14 ∧ x14 < ↑f.length) ∧ ∀ (x15 : Int), x15 = f.getD x14.toNat (0 : Int) → InR IntKind.u8 x15 → ((x15 != (203 : Int)) = true → K [RV.v (SV.b true false)] []) ∧ ((x15 != (203 : Int)) = false → ∀ (x16 : List (List Int)), x16 = tapeL d n → AllA IntKind.u64 (4 : Nat) x16 → ∀ (x17 : Int), x17 = ((tapeL d n).length : Int) → (0 : Int) ≤ x17 → InR IntKind.i64 x17 → ∀ (x18 : Int), x18 = tapeE d n → InR IntKind.i64 x18 → ∀ (x19 : Int), x19 = IntKind.i64.wrap (n.tdiv (2 : Int)) → InR IntKind.i64 x19 → ∀ (x20 : List (List Int)), x20 = tapeL d x19 → AllA IntKind.u64 (4 : Nat) x20 → ∀ (x21 : Int), x21 = ((tapeL d x19).length : Int) → (0 : Int) ≤ x21 → InR IntKind.i64 x21 → ∀ (x22 : Int), x22 = tapeE d x19 → InR IntKind.i64 x22 → ∀ (x23 : List (List Int)), x23 = tapeL d n → AllA IntKind.u64 (4 : Nat) x23 → ∀ (x24 : Int), x24 = ((tapeL d n).length : Int) → (0 : Int) ≤ x24 → InR IntKind.i64 x24 → ∀ (x25 : Int), x25 = tapeE d n → InR IntKind.i64 x25 → ((x17 != c) = true → K [RV.v (SV.b true false)] []) ∧ ((x17 != c) = false → ((x24 != c) = true → K [RV.v (SV.b true false)] []) ∧ ((x24 != c) = false → Same Tryd.f9 (31 : Nat) (itemsOf Tryd.f9 (31 : Nat)) ∧ Q (31 : Nat) [Pv.ro d, Pv.z n, Pv.z a, Pv.z b, Pv.z c, Pv.z x17, Pv.z x21, Pv.z x24, Pv.z (0 : Int), Pv.l f, Pv.ll l, Pv.ll m, Pv.ll x16, Pv.ll x20, Pv.ll x23]))))))) := by
  intros
  kernel_rfl

theorem lc9d_eq : ∀ (d : RO) (n a b c e g h i : Int) (f : List Int) (l m p q r : List (List Int)) (K : List RV → List (Option (List Seg)) → Prop) (Q : Nat → List Pv → Prop), lc9d d n a b c e g h i f l m p q r K Q = ((decide (i < c) = true → Need ((0 : Int) ≤ i ∧ i < e) ∧ Need ((0 : Int) ≤ i ∧ i < ↑p.length) ∧ ∀ (x1 : Int), x1 = (p.getD i.toNat []).getD (0 : Nat) (0 : Int) → InR IntKind.u64 x1 → ∀ (x2 : Int), x2 = (p.getD i.toNat []).getD (1 : Nat) (0 : Int) → InR IntKind.u64 x2 → ∀ (x3 : Int), x3 = (p.getD i.toNat []).getD (2 : Nat) (0 : Int) → InR IntKind.u64 x3 → ∀ (x4 : Int), x4 = (p.getD i.toNat []).getD (3 : Nat) (0 : Int) → InR IntKind.u64 x4 → Need ((0 : Int) ≤ i ∧ i < c) ∧ Need ((0 : Int) ≤ i ∧ i < ↑m.length) ∧ ∀ (x5 : Int), x5 = (m.getD i.toNat []).getD (0 : Nat) (0 : Int) → InR IntKind.u64 x5 → ∀ (x6 : Int), x6 = (m.getD i.toNat []).getD (1 : Nat) (0 : Int) → InR IntKind.u64 x6 → ∀ (x7 : Int), x7 = (m.getD i.toNat []).getD (2 : Nat) (0 : Int) → InR IntKind.u64 x7 → ∀ (x8 : Int), x8 = (m.getD i.toNat []).getD (3 : Nat) (0 : Int) → InR IntKind.u64 x8 → ∀ (x9 : Bool), x9 = ([x1, x2, x3, x4] == [x5, x6, x7, x8]) → ((!x9) = true → K [RV.v (SV.b true false)] []) ∧ ((!x9) = false → Need ((0 : Int) ≤ i ∧ i < h) ∧ Need ((0 : Int) ≤ i ∧ i < ↑r.length) ∧ ∀ (x10 : Int), x10 = (r.getD i.toNat []).getD (0 : Nat) (0 : Int) → InR IntKind.u64 x10 → ∀ (x11 : Int), x11 = (r.getD i.toNat []).getD (1 : Nat) (0 : Int) → InR IntKind.u64 x11 → ∀ (x12 : Int), x12 = (r.getD i.toNat []).getD (2 : Nat) (0 : Int) → InR IntKind.u64 x12 → ∀ (x13 : Int), x13 = (r.getD i.toNat []).getD (3 : Nat) (0 : Int) → InR IntKind.u64 x13 → Need ((0 : Int) ≤ i ∧ i < c) ∧ Need ((0 : Int) ≤ i ∧ i < ↑m.length) ∧ ∀ (x14 : Int), x14 = (m.getD i.toNat []).getD (0 : Nat) (0 : Int) → InR IntKind.u64 x14 → ∀ (x15 : Int), x15 = (m.getD i.toNat []).getD (1 : Nat) (0 : Int) → InR IntKind.u64 x15 → ∀ (x16 : Int), x16 = (m.getD i.toNat []).getD (2 : Nat) (0 : Int) → InR IntKind.u64 x16 → ∀ (x17 : Int), x17 = (m.getD i.toNat []).getD (3 : Nat) (0 : Int) → InR IntKind.u64 x17 → ∀ (x18 : Bool), x18 = ([x10, x11, x12, x13] == [x14, x15, x16, x17]) → ((!x18) = true → K [RV.v (SV.b true false)] []) ∧ ((!x18) = false → ∀ (x19 : Int), x19 = IntKind.i64.wrap (i + (1 : Int)) → InR IntKind.i64 x19 → Same Tryd.f9 (31 : Nat) (itemsOf Tryd.f9 (31 : Nat)) ∧ Q (31 : Nat) [Pv.ro d, Pv.z n, Pv.z a, Pv.z b, Pv.z c, Pv.z e, Pv.z g, Pv.z h, Pv.z x19, Pv.l f, Pv.ll l, Pv.ll m, Pv.ll p, Pv.ll q, Pv.ll r]))) ∧ (decide (i < c) = false → Need ((0 : Int) ≤ (0 : Int) ∧ (0 : Int) ≤ ((roL d).length : Int) ∧ ((roL d).length : Int) ≤ a) ∧ Need ((0 : Int) + ((roL d).length : Int) ≤ ↑f.length) ∧ ∀ (x20 : List (List Int)), x20 = tapeL (RO.l (List.take (((roL d).length : Int)).toNat (List.drop (0 : Nat) f))) n → AllA IntKind.u64 (4 : Nat) x20 → ∀ (x21 : Int), x21 = ↑(tapeL (RO.l (List.take (((roL d).length : Int)).toNat (List.drop (0 : Nat) f))) n).length → (0 : Int) ≤ x21 → InR IntKind.i64 x21 → ∀ (x22 : Int), x22 = tapeE (RO.l (List.take (((roL d).length : Int)).toNat (List.drop (0 : Nat) f))) n → InR IntKind.i64 x22 → Need ((0 : Int) ≤ (0 : Int) ∧ (0 : Int) ≤ ((roL d).length : Int) ∧ ((roL d).length : Int) ≤ a) ∧ Need ((0 : Int) + ((roL d).length : Int) ≤ ↑f.length) ∧ ∀ (x23 : List (List Int)), x23 = tapeL (RO.l (List.take (((roL d).length : Int)).toNat (List.drop (0 : Nat) f))) n → AllA IntKind.u64 (4 : Nat) x23 → ∀ (x24 : Int), x24 = ↑(tapeL (RO.l (List.take (((roL d).length : Int)).toNat (List.drop (0 : Nat) f))) n).length → (0 : Int) ≤ x24 → InR IntKind.i64 x24 → ∀ (x25 : Int), x25 = tapeE (RO.l (List.take (((roL d).length : Int)).toNat (List.drop (0 : Nat) f))) n → InR IntKind.i64 x25 → ((x22 != x25) = true → K [RV.v (SV.b true false)] []) ∧ ((x22 != x25) = false → ((x24 != x21) = true → K [RV.v (SV.b true false)] []) ∧ ((x24 != x21) = false → Same Tryd.f9 (40 : Nat) (itemsOf Tryd.f9 (40 : Nat)) ∧ Q (40 : Nat) [Pv.z b, Pv.z e, Pv.z g, Pv.z h, Pv.z x21, Pv.z x24, Pv.z (0 : Int), Pv.ll l, Pv.ll p, Pv.ll q, Pv.ll r, Pv.ll x20, Pv.ll x23])))) := by
  intros
  kernel_rfl

theorem lc9e_eq : ∀ (b e g h s u i : Int) (l p q r x y : List (List Int)) (K : List RV → List (Option (List Seg)) → Prop) (Q : Nat → List Pv → Prop), lc9e b e g h s u i l p q r x y K Q = ((decide (i < u) = true → Need ((0 : Int) ≤ i ∧ i < u) ∧ Need ((0 : Int) ≤ i ∧ i < ↑y.length) ∧ ∀ (x1 : Int), x1 = (y.getD i.toNat []).getD (0 : Nat) (0 : Int) → InR IntKind.u64 x1 → ∀ (x2 : Int), x2 = (y.getD i.toNat []).getD (1 : Nat) (0 : Int) → InR IntKind.u64 x2 → ∀ (x3 : Int), x3 = (y.getD i.toNat []).getD (2 : Nat) (0 : Int) → InR IntKind.u64 x3 → ∀ (x4 : Int), x4 = (y.getD i.toNat []).getD (3 : Nat) (0 : Int) → InR IntKind.u64 x4 → Need ((0 : Int) ≤ i ∧ i < s) ∧ Need ((0 : Int) ≤ i ∧ i < ↑x.length) ∧ ∀ (x5 : Int), x5 = (x.getD i.toNat []).getD (0 : Nat) (0 : Int) → InR IntKind.u64 x5 → ∀ (x6 : Int), x6 = (x.getD i.toNat []).getD (1 : Nat) (0 : Int) → InR IntKind.u64 x6 → ∀ (x7 : Int), x7 = (x.getD i.toNat []).getD (2 : Nat) (0 : Int) → InR IntKind.u64 x7 → ∀ (x8 : Int), x8 = (x.getD i.toNat []).getD (3 : Nat) (0 : Int) → InR IntKind.u64 x8 → ∀ (x9 : Bool), x9 = ([x1, x2, x3, x4] == [x5, x6, x7, x8]) → ((!x9) = true → K [RV.v (SV.b true false)] []) ∧ ((!x9) = false → ∀ (x10 : Int), x10 = IntKind.i64.wrap (i + (1 : Int)) → InR IntKind.i64 x10 → Same Tryd.f9 (40 : Nat) (itemsOf Tryd.f9 (40 : Nat)) ∧ Q (40 : Nat) [Pv.z b, Pv.z e, Pv.z g, Pv.z h, Pv.z s, Pv.z u, Pv.z x10, Pv.ll l, Pv.ll p, Pv.ll q, Pv.ll r, Pv.ll x, Pv.ll y])) ∧ (decide (i < u) = false → Need (ap5 b e g h u l p q r y) ∧ K [RV.v (SV.b true true)] [])) := by
  intros
  kernel_rfl

def bk : List Int := [201, 202, 203]
/-- The stream's memory: its first bytes turned. -/
def turnT (d : RO) (k : Nat) : List Int := (((roL d).take k).map fun z => IntKind.u8.wrap (z + 1)) ++ (roL d).drop k ++ bk
theorem turn_len (d : RO) {k : Nat} (h : k ≤ (roL d).length) : (turnT d k).length = (roL d).length + 3 := by
  unfold turnT bk
  simp only [List.length_append, List.length_map, List.length_take, List.length_drop, List.length_cons, List.length_nil]; omega
theorem turn_zero (d : RO) : turnT d 0 = roL d ++ bk := by unfold turnT; simp
theorem turn_at (d : RO) {k j : Nat} (h : k ≤ j) (hj : j < (roL d).length) : (turnT d k).getD j 0 = (roL d).getD j 0 := by
  unfold turnT
  rw [List.getD_eq_getElem?_getD, List.getD_eq_getElem?_getD, List.append_assoc, List.getElem?_append_right (by rw [List.length_map, List.length_take]; omega), List.length_map, List.length_take, List.getElem?_append_left (by rw [List.length_drop]; omega), List.getElem?_drop]
  congr 2; omega
theorem turn_bk (d : RO) {k j : Nat} (h : k ≤ (roL d).length) : (turnT d k).getD ((roL d).length + j) 0 = bk.getD j 0 := by
  unfold turnT
  rw [List.getD_eq_getElem?_getD, List.getD_eq_getElem?_getD, List.getElem?_append_right (by simp only [List.length_append, List.length_map, List.length_take, List.length_drop]; omega)]
  congr 2
  simp only [List.length_append, List.length_map, List.length_take, List.length_drop]; omega
theorem turn_succ (d : RO) {k : Nat} (h : k < (roL d).length) : (turnT d k).set k (IntKind.u8.wrap ((roL d).getD k 0 + 1)) = turnT d (k + 1) := by
  refine List.ext_getElem? fun j => ?_
  have hg : (roL d)[k]? = some ((roL d).getD k 0) := by rw [List.getD_eq_getElem?_getD, List.getElem?_eq_getElem h]; rfl
  rw [List.getElem?_set]
  unfold turnT
  have e1 : (((roL d).take k).map fun z => IntKind.u8.wrap (z + 1)).length = k := by rw [List.length_map, List.length_take]; omega
  have e2 : (((roL d).take (k + 1)).map fun z => IntKind.u8.wrap (z + 1)).length = k + 1 := by rw [List.length_map, List.length_take]; omega
  split
  · rename_i hj
    subst hj
    rw [if_pos (by simp only [List.length_append, e1, List.length_drop]; omega), List.append_assoc, List.getElem?_append_left (by omega), List.getElem?_map, List.getElem?_take_of_lt (by omega), hg]
    rfl
  · rename_i hj
    by_cases hlt : j < k
    · rw [List.append_assoc, List.append_assoc, List.getElem?_append_left (by omega), List.getElem?_append_left (by omega), List.getElem?_map, List.getElem?_map, List.getElem?_take_of_lt hlt, List.getElem?_take_of_lt (by omega)]
    · generalize ((roL d).take k).map (fun z => IntKind.u8.wrap (z + 1)) = A at e1 ⊢
      generalize ((roL d).take (k + 1)).map (fun z => IntKind.u8.wrap (z + 1)) = B at e2 ⊢
      rw [List.append_assoc, List.append_assoc, List.getElem?_append_right (l₁ := A) (by omega), List.getElem?_append_right (l₁ := B) (by omega), e1, e2]
      by_cases hl : j < (roL d).length
      · rw [List.getElem?_append_left (by rw [List.length_drop]; omega), List.getElem?_append_left (by rw [List.length_drop]; omega), List.getElem?_drop, List.getElem?_drop]
        congr 1; omega
      · rw [List.getElem?_append_right (by rw [List.length_drop]; omega), List.getElem?_append_right (by rw [List.length_drop]; omega), List.length_drop, List.length_drop]
        congr 1; omega
theorem tape_len (d : RO) (n : Int) : (tapeL d n).length ≤ 4096 := by
  unfold tapeL
  split
  · rw [tk_len]; omega
  · exact Nat.zero_le _
theorem row4 {d : RO} {n : Int} {j : Nat} {r : List (List Int)} (hr : r = tapeL d n) (h : j < r.length) : ∃ a b c e : Int, r.getD j [] = [a, b, c, e] := by
  subst hr
  unfold tapeL at h ⊢
  split at h
  · rename_i hc
    rw [if_pos hc]
    rw [tk_len] at h
    exact ⟨_, _, _, _, by rw [List.getD_eq_getElem?_getD, tkT_at d h]; rfl⟩
  · exact absurd h (by simp)
def inv9 (d : RO) (n : Int) (key : Nat) (ps : List Pv) (mm : Nat) : Prop :=
  (∃ k : Nat, k ≤ (tapeL d n).length ∧ key = 8 ∧ ps = [.ro d, .z n, .z (((roL d).length + 3 : Nat) : Int), .z ((tapeL d n).length : Int), .z ((tapeL d n).length : Int), .z (k : Int), .l (turnT d 0), .ll (tapeL d n), .ll (tapeL d n)] ∧ mm = 4 * 10000000 + (4096 - k)) ∨
  (∃ k : Nat, k ≤ (roL d).length ∧ key = 13 ∧ ps = [.ro d, .z n, .z (((roL d).length + 3 : Nat) : Int), .z ((tapeL d n).length : Int), .z ((tapeL d n).length : Int), .z (k : Int), .l (turnT d k), .ll (tapeL d n), .ll (tapeL d n)] ∧ mm = 3 * 10000000 + ((roL d).length - k)) ∨
  (∃ k : Nat, k ≤ (tapeL d n).length ∧ key = 19 ∧ ps = [.ro d, .z n, .z (((roL d).length + 3 : Nat) : Int), .z ((tapeL d n).length : Int), .z ((tapeL d n).length : Int), .z (k : Int), .l (turnT d (roL d).length), .ll (tapeL d n), .ll (tapeL d n)] ∧ mm = 2 * 10000000 + (4096 - k)) ∨
  (∃ (k : Nat) (x : Int), k ≤ (tapeL d n).length ∧ key = 31 ∧ ps = [.ro d, .z n, .z (((roL d).length + 3 : Nat) : Int), .z ((tapeL d n).length : Int), .z ((tapeL d n).length : Int), .z ((tapeL d n).length : Int), .z ((tapeL d x).length : Int), .z ((tapeL d n).length : Int), .z (k : Int), .l (turnT d (roL d).length), .ll (tapeL d n), .ll (tapeL d n), .ll (tapeL d n), .ll (tapeL d x), .ll (tapeL d n)] ∧ mm = 10000000 + (4096 - k)) ∨
  (∃ (k : Nat) (x : Int) (t : RO), k ≤ (tapeL t n).length ∧ key = 40 ∧ ps = [.z ((tapeL d n).length : Int), .z ((tapeL d n).length : Int), .z ((tapeL d x).length : Int), .z ((tapeL d n).length : Int), .z ((tapeL t n).length : Int), .z ((tapeL t n).length : Int), .z (k : Int), .ll (tapeL d n), .ll (tapeL d n), .ll (tapeL d x), .ll (tapeL d n), .ll (tapeL t n), .ll (tapeL t n)] ∧ mm = 4096 - k)
set_option maxHeartbeats 2000000 in
theorem law (W : World) (hG : Glob gh W fun _ => False) (d : RO) (v : Value) (hv : RoD W (OutB W fun _ => False) (.ints .u8) d v) (hs : ∃ ad n cap, v = .slice ad n cap) (hx' : roMx reachBytes (.ints .u8) d) (n : Int) (hn : InR .i64 n)
    (hM : roM (.ints .u8) d ≤ 1048576) :
    Calls Tryd.prog 9 #[v, .int .i64 n] W fun e w' => e = .returned (.bool true) ∧ Below W.heap.size W w' := by
  have hN : (roL d).length ≤ 1048576 := hM
  have hn' := hn
  simp only [InR] at hn'
  have hT := tape_len d n
  refine law_gen Γ19t_ok rfl glowS rfl (fn := Tryd.f9) (L := L9) (av := [.d (.ints .u8) d, .v (.i .i64 ⟨false, n⟩)]) (args' := [.ro 490 shB d, .i .i64 ⟨false, n⟩]) (K := fun rvs fin => ∃ e, rvs = [.v (.b e true)]) (inv := inv9 d n) ⟨rfl, rfl, trivial⟩ (Nat.le_of_ble_eq_true (by kernel_rfl)) ⟨?_, ?_, ?_⟩ (fun _ _ h => h) hG ⟨v, _, rfl, hv, _, _, rfl, ⟨rfl, hn⟩, rfl, rfl⟩
  · intro kk t ht g hg
    have hg : g ∈ [0, 490] := hg
    simp only [List.mem_cons, List.not_mem_nil, or_false] at hg
    simp only [L9, List.mem_cons, List.not_mem_nil, or_false, Prod.mk.injEq] at ht
    rcases ht with ⟨rfl, rfl⟩ | ⟨rfl, rfl⟩ | ⟨rfl, rfl⟩ | ⟨rfl, rfl⟩ | ⟨rfl, rfl⟩ <;> rcases hg with rfl | rfl <;> exact ⟨by omega, rfl⟩
  · rintro vk t ps mm ht (⟨k, hk, rfl, rfl, rfl⟩ | ⟨k, hk, rfl, rfl, rfl⟩ | ⟨k, hk, rfl, rfl, rfl⟩ | ⟨k, x, hk, rfl, rfl, rfl⟩ | ⟨k, x, u, hk, rfl, rfl, rfl⟩)
    all_goals simp only [L9, List.mem_cons, List.not_mem_nil, or_false, Prod.mk.injEq, Nat.reduceEqDiff, false_and, true_and, false_or, or_false] at ht
    all_goals subst ht
    · show lc9a d n _ _ _ (k : Int) _ (tapeL d n) (tapeL d n) _ _
      rw [lc9a_eq]
      generalize hr : tapeL d n = r at *
      refine ⟨fun hlt => ?_, fun hge => ?_⟩
      · have hlt := of_decide_eq_true hlt
        obtain ⟨y1, y2, y3, y4, hy⟩ := row4 hr.symm (show k < r.length by omega)
        rw [Int.toNat_natCast, hy]
        refine ⟨need_of (by omega), need_of (by omega), fun x1 e1 _ x2 e2 _ x3 e3 _ x4 e4 _ => ⟨need_of (by omega), need_of (by omega), fun x5 e5 _ x6 e6 _ x7 e7 _ x8 e8 _ x9 e9 => ?_⟩⟩
        have hx : x9 = true := by rw [e9, e1, e2, e3, e4, e5, e6, e7, e8]; exact beq_self_eq_true _
        rw [hx]
        refine ⟨fun h => by (cases h), fun _ x10 e10 _ => ⟨rfl, 4 * 10000000 + (4096 - (k + 1)), by omega, .inl ⟨k + 1, by rw [hr]; omega, rfl, ?_, rfl⟩⟩⟩
        rw [wrap_i64 (by omega)] at e10
        rw [e10, hr]; rfl
      · refine ⟨rfl, 3 * 10000000 + ((roL d).length - 0), by omega, .inr (.inl ⟨0, Nat.zero_le _, rfl, ?_, rfl⟩)⟩
        rw [hr]; rfl
    · show lc9b d n (((roL d).length + 3 : Nat) : Int) _ _ (k : Int) (turnT d k) (tapeL d n) (tapeL d n) _ _
      rw [lc9b_eq]
      have hl := turn_len d hk
      refine ⟨fun hlt => ?_, fun hge => ?_⟩
      · have hlt := of_decide_eq_true hlt
        have hkl : k < (roL d).length := by omega
        have hat := turn_at d (Nat.le_refl k) hkl
        rw [Int.toNat_natCast, hat]
        refine ⟨need_of (by omega), need_of (by omega), fun x1 e1 _ => ⟨need_of (by omega), fun x2 e2 _ => ⟨fun h => ?_, fun _ => ⟨need_of (by omega), need_of (by omega), fun x3 e3 _ x4 e4 _ => ⟨need_of (by omega), need_of (by omega), fun x5 e5 _ x6 e6 _ => ?_⟩⟩⟩⟩⟩
        · rw [e1, e2] at h; simp at h
        · rw [e3] at e4
          rw [e4, turn_succ d hkl] at e5
          rw [wrap_i64 (by omega)] at e6
          refine ⟨rfl, 3 * 10000000 + ((roL d).length - (k + 1)), by omega, .inr (.inl ⟨k + 1, by omega, rfl, ?_, rfl⟩)⟩
          rw [e5, e6]; rfl
      · have hge := of_decide_eq_false hge
        have hkN : k = (roL d).length := by omega
        subst hkN
        exact ⟨rfl, 2 * 10000000 + (4096 - 0), by omega, .inr (.inr (.inl ⟨0, Nat.zero_le _, rfl, rfl, rfl⟩))⟩
    · show lc9c d n (((roL d).length + 3 : Nat) : Int) _ _ (k : Int) (turnT d (roL d).length) (tapeL d n) (tapeL d n) _ _
      rw [lc9c_eq]
      have hl := turn_len d (Nat.le_refl _)
      have b0 := turn_bk d (j := 0) (Nat.le_refl _)
      have b1 := turn_bk d (j := 1) (Nat.le_refl _)
      have b2 := turn_bk d (j := 2) (Nat.le_refl _)
      refine ⟨fun hlt => ?_, fun hge => ?_⟩
      · have hlt := of_decide_eq_true hlt
        generalize hr : tapeL d n = r at *
        obtain ⟨y1, y2, y3, y4, hy⟩ := row4 hr.symm (show k < r.length by omega)
        rw [Int.toNat_natCast, hy]
        refine ⟨need_of (by omega), need_of (by omega), fun x1 e1 _ x2 e2 _ x3 e3 _ x4 e4 _ => ⟨need_of (by omega), need_of (by omega), fun x5 e5 _ x6 e6 _ x7 e7 _ x8 e8 _ x9 e9 => ?_⟩⟩
        have hx : x9 = true := by rw [e9, e1, e2, e3, e4, e5, e6, e7, e8]; exact beq_self_eq_true _
        rw [hx]
        refine ⟨fun h => by (cases h), fun _ x10 e10 _ => ⟨rfl, 2 * 10000000 + (4096 - (k + 1)), by omega, .inr (.inr (.inl ⟨k + 1, by rw [hr]; omega, rfl, ?_, rfl⟩))⟩⟩
        rw [wrap_i64 (by omega)] at e10
        rw [e10, hr]; rfl
      · rw [Int.toNat_natCast]
        rw [Nat.add_zero] at b0
        refine ⟨need_of (by omega), need_of (by omega), fun x11 e11 _ => ⟨fun h => ?_, fun _ x12 e12 _ => ?_⟩⟩
        · rw [e11, b0] at h; simp [bk] at h
        rw [wrap_i64 (by omega)] at e12
        refine ⟨need_of (by omega), need_of (by omega), fun x13 e13 _ => ⟨fun h => ?_, fun _ x14 e14 _ => ?_⟩⟩
        · rw [e13, show x12.toNat = (roL d).length + 1 by omega, b1] at h; simp [bk] at h
        rw [wrap_i64 (by omega)] at e14
        refine ⟨need_of (by omega), need_of (by omega), fun x15 e15 _ => ⟨fun h => ?_, fun _ x16 e16 _ x17 e17 _ _ x18 e18 _ x19 e19 _ x20 e20 _ x21 e21 _ _ x22 e22 _ x23 e23 _ x24 e24 _ _ x25 e25 _ => ⟨fun h => ?_, fun _ => ⟨fun h => ?_, fun _ => ?_⟩⟩⟩⟩
        · rw [e15, show x14.toNat = (roL d).length + 2 by omega, b2] at h; simp [bk] at h
        · rw [e17] at h; simp at h
        · rw [e24] at h; simp at h
        · refine ⟨rfl, 10000000 + (4096 - 0), by omega, .inr (.inr (.inr (.inl ⟨0, x19, Nat.zero_le _, rfl, ?_, rfl⟩)))⟩
          rw [e17, e21, e24, e16, e20, e23]; rfl
    · show lc9d d n (((roL d).length + 3 : Nat) : Int) _ _ _ _ _ (k : Int) (turnT d (roL d).length) (tapeL d n) (tapeL d n) (tapeL d n) (tapeL d x) (tapeL d n) _ _
      rw [lc9d_eq]
      have hl := turn_len d (Nat.le_refl _)
      refine ⟨fun hlt => ?_, fun hge => ?_⟩
      · have hlt := of_decide_eq_true hlt
        generalize hr : tapeL d n = r at *
        obtain ⟨y1, y2, y3, y4, hy⟩ := row4 hr.symm (show k < r.length by omega)
        rw [Int.toNat_natCast, hy]
        refine ⟨need_of (by omega), need_of (by omega), fun x1 e1 _ x2 e2 _ x3 e3 _ x4 e4 _ => ⟨need_of (by omega), need_of (by omega), fun x5 e5 _ x6 e6 _ x7 e7 _ x8 e8 _ x9 e9 => ?_⟩⟩
        have hx : x9 = true := by rw [e9, e1, e2, e3, e4, e5, e6, e7, e8]; exact beq_self_eq_true _
        rw [hx]
        refine ⟨fun h => by (cases h), fun _ => ⟨need_of (by omega), need_of (by omega), fun x10 e10 _ x11 e11 _ x12 e12 _ x13 e13 _ => ⟨need_of (by omega), need_of (by omega), fun x14 e14 _ x15 e15 _ x16 e16 _ x17 e17 _ x18 e18 => ?_⟩⟩⟩
        have hx : x18 = true := by rw [e18, e10, e11, e12, e13, e14, e15, e16, e17]; exact beq_self_eq_true _
        rw [hx]
        refine ⟨fun h => by (cases h), fun _ x19 e19 _ => ⟨rfl, 10000000 + (4096 - (k + 1)), by omega, .inr (.inr (.inr (.inl ⟨k + 1, x, by rw [hr]; omega, rfl, ?_, rfl⟩)))⟩⟩
        rw [wrap_i64 (by omega)] at e19
        rw [e19, hr]; rfl
      · rw [Int.toNat_natCast]
        generalize RO.l (List.take (roL d).length (List.drop 0 (turnT d (roL d).length))) = u
        refine ⟨need_of (by omega), need_of (by omega), fun x20 e20 _ x21 e21 _ _ x22 e22 _ => ⟨need_of (by omega), need_of (by omega), fun x23 e23 _ x24 e24 _ _ x25 e25 _ => ⟨fun h => ?_, fun _ => ⟨fun h => ?_, fun _ => ?_⟩⟩⟩⟩
        · rw [e22, e25] at h; simp at h
        · rw [e21, e24] at h; simp at h
        · refine ⟨rfl, 4096 - 0, by omega, .inr (.inr (.inr (.inr ⟨0, x, u, Nat.zero_le _, rfl, ?_, rfl⟩)))⟩
          rw [e20, e21, e23, e24]; rfl
    · show lc9e _ _ _ _ _ _ (k : Int) (tapeL d n) (tapeL d n) (tapeL d x) (tapeL d n) (tapeL u n) (tapeL u n) _ _
      rw [lc9e_eq]
      have hx := tape_len d x
      have hu := tape_len u n
      refine ⟨fun hlt => ?_, fun hge => ⟨need_of ⟨rfl, rfl, rfl, rfl, rfl, by omega, by omega, by omega, by omega, by omega⟩, true, rfl⟩⟩
      have hlt := of_decide_eq_true hlt
      generalize hr : tapeL u n = r at *
      obtain ⟨y1, y2, y3, y4, hy⟩ := row4 hr.symm (show k < r.length by omega)
      rw [Int.toNat_natCast, hy]
      refine ⟨need_of (by omega), need_of (by omega), fun x1 e1 _ x2 e2 _ x3 e3 _ x4 e4 _ => ⟨need_of (by omega), need_of (by omega), fun x5 e5 _ x6 e6 _ x7 e7 _ x8 e8 _ x9 e9 => ?_⟩⟩
      have hx : x9 = true := by rw [e9, e1, e2, e3, e4, e5, e6, e7, e8]; exact beq_self_eq_true _
      rw [hx]
      refine ⟨fun h => by (cases h), fun _ x10 e10 _ => ⟨rfl, 4096 - (k + 1), by omega, .inr (.inr (.inr (.inr ⟨k + 1, x, u, by rw [hr]; omega, rfl, ?_, rfl⟩)))⟩⟩
      rw [wrap_i64 (by omega)] at e10
      rw [e10, hr]; rfl
  · show vc9 d n _ _
    rw [vc9_eq]
    have h0 : ([] ++ roL d : List Int).length = (roL d).length := rfl
    rw [h0]
    refine ⟨need_of (by omega), need_of rfl, fun x1 e1 _ x2 e2 _ _ => ?_⟩
    have e1 : x1 = roL d := e1
    have h3 : x1 ++ List.take 3 (List.drop 0 [201, 202, 203]) = turnT d 0 := by rw [e1, turn_zero]; rfl
    have hl := turn_len d (Nat.zero_le _)
    rw [h3, hl]
    refine ⟨need_of (by omega), need_of (by rw [e1]; exact e2), need_of (by omega), fun x3 e3 _ x4 e4 _ _ => ?_⟩
    subst e3
    have ht : List.take (roL d).length (List.drop 0 (turnT d 0)) = roL d := by rw [List.drop_zero, turn_zero]; exact List.take_left' rfl
    have hd : ∀ n, tapeL (RO.l (roL d)) n = tapeL d n ∧ tapeE (RO.l (roL d)) n = tapeE d n := fun n => ⟨rfl, rfl⟩
    rw [Int.toNat_natCast, ht, (hd n).1, (hd n).2]
    refine ⟨need_of (by omega), need_of (by omega), fun x5 e5 _ x6 e6 _ _ x7 e7 _ x8 e8 _ x9 e9 _ _ x10 e10 _ => ⟨fun h => ?_, fun _ => ⟨fun h => ?_, fun _ => ?_⟩⟩⟩
    · rw [e7, e10] at h; simp at h
    · rw [e6, e9] at h; simp at h
    · refine ⟨rfl, 4 * 10000000 + (4096 - 0), .inl ⟨0, Nat.zero_le _, rfl, ?_, rfl⟩⟩
      rw [e4, e5, e6, e8, e9]; rfl
end ScalarTapes

namespace ScalarTapes
open Go.Proofs.YtnjcbedjhokfhaaDoor
open Go.ChangeShapes Go.WideShapes Go.ChangeAt Go.RowKit
theorem reads (t : Nat) (h : t ∈ Tryd.f9.params.toList) : Tryd.prog.readableRec t = true ∧ t < Tryd.prog.types.size := by
  have hp : Tryd.f9.params.toList = [54, 3] := by kernel_rfl
  rw [hp] at h
  simp only [List.mem_cons, List.not_mem_nil, or_false] at h
  rcases h with rfl | rfl <;> exact ⟨by kernel_rfl, Nat.le_of_ble_eq_true (by kernel_rfl)⟩

set_option maxRecDepth 100000 in
/-- What the call gives, for every argument and every world that holds the tables. -/
theorem contract (H : Type) (enc : TypeId × Value → H) (W : World) (base : Nat) (args : Array Value) (ds gs : List (DataW H)) (before : List MemPlace)
    (hval : ∀ (j : Nat) t v, Tryd.f9.params[j]? = some t → args[j]? = some v → Value.okWide Tryd.prog W .any base t v)
    (hW : DataW.Whole enc Tryd.prog Tryd.f9.params.toList Rows.scalarTapesSpec.vars false W args.toList ds gs before)
    (hw : (DataW.weightsEach Tryd.prog (Tryd.f9.params.toList ++ (Rows.OpenSpec.upto Rows.scalarTapesSpec).bare.plain.varTypes Tryd.prog) (ds ++ gs)).all (· ≤ reachBytes) = true) (hL : laidMetH Tryd.prog Rows.scalarTapesUptoRow.laid W) (hC : Rows.uptoSmall H (ds ++ gs) = true) :
    Calls Tryd.prog 9 args W fun e W' => ∃ v, e = .returned v ∧ Rows.scalarTapesSpec.post enc Tryd.prog Tryd.f9 false true false false W args v W' := by
  have hA : DataW.TrodAll enc Tryd.prog W 0 (fun _ => true) true [54, 3] args.toList ds _ := hW.choose_spec.choose_spec.1
  obtain ⟨v0, vs0, d0, ds0, p0, q0, hargs, hds, _, h0, r0⟩ := trodAll_cons hA
  obtain ⟨v1, vs1, d1, ds1, p1, q1, rfl, hds1, _, h1, r1⟩ := trodAll_cons r0
  obtain ⟨rfl, hdsn, _⟩ := trodAll_nil r1
  obtain rfl : args = #[v0, v1] := by cases args; simp_all
  have hds : ds = [d0, d1] := by rw [hds, hds1, hdsn]
  have hp : Tryd.f9.params = #[54, 3] := by kernel_rfl
  rw [hp] at hval
  have hp2 : Tryd.f9.params.toList = [54, 3] := by kernel_rfl
  rw [hds, hp2] at hw
  have hC : Rows.uptoBulkAll (ds ++ gs) ≤ 1048576 := of_decide_eq_true hC
  rw [hds, bulkAll_app] at hC
  simp only [Rows.uptoBulkAll] at hC
  have hc0 : v0.cells.toList = [v0] := by
    obtain ⟨a, len, cap, e⟩ := okWide_slice (e := 5) (by kernel_rfl) (hval 0 54 v0 rfl rfl)
    rw [e]; rfl
  obtain ⟨o0, e0, s0, b0, x0⟩ := arg_ro reachBytes (.ints .u8) (by kernel_rfl) rfl hc0 h0
  have x0 := x0 fun n hn => by simpa using List.all_eq_true.1 hw n (DataW.weights_mem_each (j := 0) rfl rfl n hn)
  obtain ⟨z1, rfl, hr1⟩ := int_arg (k := .i64) (by kernel_rfl) (hval 1 3 v1 rfl rfl)
  refine (law W (tab_glob hL) o0 v0 e0 s0 x0 z1 hr1 (by omega)).mono fun e W' ⟨he, hB⟩ => ?_
  subst he
  refine ⟨_, rfl, post_true (tb := 4) laidOut rfl (by kernel_rfl) (by kernel_rfl) reads ?_ hW hB⟩
  intro ds hds
  have hds : ds.length = 2 := hds
  match ds, hds with
  | [a0, a1], _ => exact ⟨rfl, rfl, rfl⟩

def wargs : Array Value := #[.slice none 0 0, .int .i64 0]
theorem laid_met (os : Os) : laidMet Tryd.prog Rows.scalarTapesUptoRow.laid ((laidWorld os).forCall (fun _ _ => 0) ⟨#[], wargs, []⟩).memory :=
  laidMet_of_run' 8 (by kernel_rfl) (by kernel_rfl)
theorem reads0 (os : Os) {H : Type} (enc : TypeId × Value → H) : ∃ places, DataW.whole enc Tryd.prog ((laidWorld os).forCall (fun _ _ => 0) ⟨#[], wargs, []⟩).memory Tryd.f9.params.toList Rows.scalarTapesSpec.vars false wargs.toList 8 = some ([.nil, .lit (.int .i64 0)], [], places) :=
  ⟨[], by kernel_rfl⟩

set_option maxRecDepth 100000 in
theorem lifted (os : Os) (started : os.Started) (H : Type) (enc : TypeId × Value → H) (F : Stop.Interp) :
    ReturnsInHanded {} Tryd.checked os 9 .any ((Rows.OpenSpec.upto Rows.scalarTapesSpec).preRow enc Tryd.prog Tryd.f9 Rows.scalarTapesUptoRow.domain false Rows.scalarTapesUptoRow.laid) (((Rows.OpenSpec.upto Rows.scalarTapesSpec).at F).post enc Tryd.prog Tryd.f9 false true false false) := by
  obtain ⟨places, hx⟩ := reads0 os enc
  refine returnsInHanded_of_row (C := Tryd.checked) (s := (Rows.OpenSpec.upto Rows.scalarTapesSpec)) own started (by kernel_rfl) Tryd.func9
    (witness_row_at (enc := enc) (C := Tryd.checked) false (laidWorld os) wargs rfl (by kernel_rfl) (by kernel_rfl) (by kernel_rfl)
      (OpenSpec.preRow_of_cond 8 hx (by kernel_rfl) (fun k hk => by cases hk; kernel_rfl) (by kernel_rfl) (laid_met os))) ?_
  intro W base args ds gs before hval hW _ hcond hw hL _ _
  exact contract H enc W base args ds gs before hval hW hw hL (hcond _ rfl)

theorem said : Rows.ScalarTapesUptoSaid :=
  OpenClaim.holds_of_cond 9 Tryd.f9 rfl rfl rfl rfl rfl rfl rfl ⟨rfl, rfl, rfl, rfl, rfl⟩ rfl rfl rfl rfl rfl (by kernel_rfl) Tryd.func9 (by kernel_rfl)
    (of_decide_eq_true (by kernel_rfl)) (by unfold Func.isWrapper; first | (rw [if_pos (by decide +kernel)]; kernel_rfl) | (rw [if_neg (by decide +kernel)]; exact ⟨rfl, rfl⟩))
    (fun os started H enc _ F => by rw [OpenClaim.pre_eq_preRow]; exact lifted os started H enc F)

theorem plain (f : FuncId) (fn : Func) (hf : Tryd.pinned.checked.prog.funcNamed "veil/veillaw02.ScalarTapes" = some f) (hfn : Tryd.pinned.checked.prog.funcs[f]? = some fn) :
    false = Tryd.pinned.checked.prog.looks [] ∧ ∀ (j : Nat) t, fn.params[j]? = some t → Tryd.pinned.checked.prog.wantsStandIn t = false := by
  obtain rfl : f = 9 := Option.some.inj ((show Tryd.prog.funcNamed "veil/veillaw02.ScalarTapes" = some 9 by kernel_rfl).symm.trans hf) |>.symm
  obtain rfl : fn = Tryd.f9 := (Option.some.inj (Tryd.func9.symm.trans hfn)).symm
  refine ⟨by kernel_rfl, fun j t ht => ?_⟩
  have hp : Tryd.f9.params = #[54, 3] := by kernel_rfl
  rw [hp] at ht
  have := Array.mem_of_getElem? ht
  simp only [List.mem_toArray, List.mem_cons, List.not_mem_nil, or_false] at this
  rcases this with rfl | rfl <;> exact (show Tryd.prog.wantsStandIn _ = false by kernel_rfl)

theorem card : Rows.ScalarTapesUptoCardSaid :=
  Claim7.holds_tied_plain_at .later [] _ _ _ _ said (fun _ h => by cases h) (by kernel_rfl) (fun _ h => by cases h) scalarTapesUpto_row_tie rfl ⟨rfl, rfl⟩ (by kernel_rfl) rfl plain (by kernel_rfl)
end ScalarTapes
end Go.Gx

namespace Go.Proofs.YtnjcbedjhokfhaaDoor
theorem scalarTapesProved : Rows.ScalarTapesUptoCardSaid := Go.Gx.ScalarTapes.card
end Go.Proofs.YtnjcbedjhokfhaaDoor
#print axioms Go.Proofs.YtnjcbedjhokfhaaDoor.scalarTapesProved
