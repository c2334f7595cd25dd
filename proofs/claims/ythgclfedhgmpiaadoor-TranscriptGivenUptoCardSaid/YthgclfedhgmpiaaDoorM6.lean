/- Part 6 of the proof: the evaluator of the code, its soundness, and what it shows of the functions. -/
import Derived.Test.YthgclfedhgmpiaaDoorM5
import Derived.Laws.Strings

/- Eight bytes put behind a list. -/
namespace Go.Gx
open Go.Proofs Go.Sp
set_option linter.unusedVariables false
set_option maxRecDepth 100000

def vc13o (l : List Int) (n : Int) (K : List RV → List (Option (List Seg)) → Prop) (Q : Nat → List Pv → Prop) : Prop := fnVcG 1 Φ0 Tryd.f39 [] [.sl 600 0 1 ⟨true, 0⟩ ⟨false, (l.length : Int)⟩, .i .i64 ⟨false, n⟩] (ghE ++ (490, .world) :: [(600, .segs false [.rowI .u8 l])]) K Q
def vc13n (n : Int) (K : List RV → List (Option (List Seg)) → Prop) (Q : Nat → List Pv → Prop) : Prop := fnVcG 0 Φ0 Tryd.f39 [] [.nsl, .i .i64 ⟨false, n⟩] (ghE ++ (490, .world) :: []) K Q
theorem vc13o_eq : ∀ (l : List Int) (n : Int) (K : List RV → List (Option (List Seg)) → Prop) (Q : Nat → List Pv → Prop), vc13o l n K Q = ForI .i64 (shrI .i64 n (0 : Int)) fun x1 => ForI .u8 (IntKind.u8.wrap x1) fun x2 => Need ((((l ++ List.take 1 (List.drop 0 [x2])).length : Nat) : Int) * 1 ≤ (70368744177664 : Int)) ∧ Need (((l.length : Nat) : Int) = ((l.length : Nat) : Int)) ∧ Need ((1 : Int) ≤ (([x2].length : Nat) : Int)) ∧ ForL .u8 (l ++ List.take 1 (List.drop 0 [x2])) fun x3 => ForN (((l ++ List.take 1 (List.drop 0 [x2])).length : Nat) : Int) fun x4 => ForI .i64 (shrI .i64 n (8 : Int)) fun x5 => ForI .u8 (IntKind.u8.wrap x5) fun x6 => Need ((((x3 ++ List.take 1 (List.drop 0 [x6])).length : Nat) : Int) * 1 ≤ (70368744177664 : Int)) ∧ Need (x4 = ((x3.length : Nat) : Int)) ∧ Need ((1 : Int) ≤ (([x6].length : Nat) : Int)) ∧ ForL .u8 (x3 ++ List.take 1 (List.drop 0 [x6])) fun x7 => ForN (((x3 ++ List.take 1 (List.drop 0 [x6])).length : Nat) : Int) fun x8 => ForI .i64 (shrI .i64 n (16 : Int)) fun x9 => ForI .u8 (IntKind.u8.wrap x9) fun x10 => Need ((((x7 ++ List.take 1 (List.drop 0 [x10])).length : Nat) : Int) * 1 ≤ (70368744177664 : Int)) ∧ Need (x8 = ((x7.length : Nat) : Int)) ∧ Need ((1 : Int) ≤ (([x10].length : Nat) : Int)) ∧ ForL .u8 (x7 ++ List.take 1 (List.drop 0 [x10])) fun x11 => ForN (((x7 ++ List.take 1 (List.drop 0 [x10])).length : Nat) : Int) fun x12 => ForI .i64 (shrI .i64 n (24 : Int)) fun x13 => ForI .u8 (IntKind.u8.wrap x13) fun x14 => Need ((((x11 ++ List.take 1 (List.drop 0 [x14])).length : Nat) : Int) * 1 ≤ (70368744177664 : Int)) ∧ Need (x12 = ((x11.length : Nat) : Int)) ∧ Need ((1 : Int) ≤ (([x14].length : Nat) : Int)) ∧ ForL .u8 (x11 ++ List.take 1 (List.drop 0 [x14])) fun x15 => ForN (((x11 ++ List.take 1 (List.drop 0 [x14])).length : Nat) : Int) fun x16 => ForI .i64 (shrI .i64 n (32 : Int)) fun x17 => ForI .u8 (IntKind.u8.wrap x17) fun x18 => Need ((((x15 ++ List.take 1 (List.drop 0 [x18])).length : Nat) : Int) * 1 ≤ (70368744177664 : Int)) ∧ Need (x16 = ((x15.length : Nat) : Int)) ∧ Need ((1 : Int) ≤ (([x18].length : Nat) : Int)) ∧ ForL .u8 (x15 ++ List.take 1 (List.drop 0 [x18])) fun x19 => ForN (((x15 ++ List.take 1 (List.drop 0 [x18])).length : Nat) : Int) fun x20 => ForI .i64 (shrI .i64 n (40 : Int)) fun x21 => ForI .u8 (IntKind.u8.wrap x21) fun x22 => Need ((((x19 ++ List.take 1 (List.drop 0 [x22])).length : Nat) : Int) * 1 ≤ (70368744177664 : Int)) ∧ Need (x20 = ((x19.length : Nat) : Int)) ∧ Need ((1 : Int) ≤ (([x22].length : Nat) : Int)) ∧ ForL .u8 (x19 ++ List.take 1 (List.drop 0 [x22])) fun x23 => ForN (((x19 ++ List.take 1 (List.drop 0 [x22])).length : Nat) : Int) fun x24 => ForI .i64 (shrI .i64 n (48 : Int)) fun x25 => ForI .u8 (IntKind.u8.wrap x25) fun x26 => Need ((((x23 ++ List.take 1 (List.drop 0 [x26])).length : Nat) : Int) * 1 ≤ (70368744177664 : Int)) ∧ Need (x24 = ((x23.length : Nat) : Int)) ∧ Need ((1 : Int) ≤ (([x26].length : Nat) : Int)) ∧ ForL .u8 (x23 ++ List.take 1 (List.drop 0 [x26])) fun x27 => ForN (((x23 ++ List.take 1 (List.drop 0 [x26])).length : Nat) : Int) fun x28 => ForI .i64 (shrI .i64 n (56 : Int)) fun x29 => ForI .u8 (IntKind.u8.wrap x29) fun x30 => Need ((((x27 ++ List.take 1 (List.drop 0 [x30])).length : Nat) : Int) * 1 ≤ (70368744177664 : Int)) ∧ Need (x28 = ((x27.length : Nat) : Int)) ∧ Need ((1 : Int) ≤ (([x30].length : Nat) : Int)) ∧ ForL .u8 (x27 ++ List.take 1 (List.drop 0 [x30])) fun x31 => ForN (((x27 ++ List.take 1 (List.drop 0 [x30])).length : Nat) : Int) fun x32 => Need (0 + x32 ≤ ((x31.length : Nat) : Int)) ∧ K [RV.row (Con.ints .u8 (List.take x32.toNat (List.drop 0 x31)))] [none] := by
 intros
 kernel_rfl
theorem vc13n_eq : ∀ (n : Int) (K : List RV → List (Option (List Seg)) → Prop) (Q : Nat → List Pv → Prop), vc13n n K Q = ForI .i64 (shrI .i64 n (0 : Int)) fun x1 => ForI .u8 (IntKind.u8.wrap x1) fun x2 => Need (((([] ++ List.take 1 (List.drop 0 [x2])).length : Nat) : Int) * 1 ≤ (70368744177664 : Int)) ∧ Need ((1 : Int) ≤ (([x2].length : Nat) : Int)) ∧ ForL .u8 ([] ++ List.take 1 (List.drop 0 [x2])) fun x3 => ForN ((([] ++ List.take 1 (List.drop 0 [x2])).length : Nat) : Int) fun x4 => ForI .i64 (shrI .i64 n (8 : Int)) fun x5 => ForI .u8 (IntKind.u8.wrap x5) fun x6 => Need ((((x3 ++ List.take 1 (List.drop 0 [x6])).length : Nat) : Int) * 1 ≤ (70368744177664 : Int)) ∧ Need (x4 = ((x3.length : Nat) : Int)) ∧ Need ((1 : Int) ≤ (([x6].length : Nat) : Int)) ∧ ForL .u8 (x3 ++ List.take 1 (List.drop 0 [x6])) fun x7 => ForN (((x3 ++ List.take 1 (List.drop 0 [x6])).length : Nat) : Int) fun x8 => ForI .i64 (shrI .i64 n (16 : Int)) fun x9 => ForI .u8 (IntKind.u8.wrap x9) fun x10 => Need ((((x7 ++ List.take 1 (List.drop 0 [x10])).length : Nat) : Int) * 1 ≤ (70368744177664 : Int)) ∧ Need (x8 = ((x7.length : Nat) : Int)) ∧ Need ((1 : Int) ≤ (([x10].length : Nat) : Int)) ∧ ForL .u8 (x7 ++ List.take 1 (List.drop 0 [x10])) fun x11 => ForN (((x7 ++ List.take 1 (List.drop 0 [x10])).length : Nat) : Int) fun x12 => ForI .i64 (shrI .i64 n (24 : Int)) fun x13 => ForI .u8 (IntKind.u8.wrap x13) fun x14 => Need ((((x11 ++ List.take 1 (List.drop 0 [x14])).length : Nat) : Int) * 1 ≤ (70368744177664 : Int)) ∧ Need (x12 = ((x11.length : Nat) : Int)) ∧ Need ((1 : Int) ≤ (([x14].length : Nat) : Int)) ∧ ForL .u8 (x11 ++ List.take 1 (List.drop 0 [x14])) fun x15 => ForN (((x11 ++ List.take 1 (List.drop 0 [x14])).length : Nat) : Int) fun x16 => ForI .i64 (shrI .i64 n (32 : Int)) fun x17 => ForI .u8 (IntKind.u8.wrap x17) fun x18 => Need ((((x15 ++ List.take 1 (List.drop 0 [x18])).length : Nat) : Int) * 1 ≤ (70368744177664 : Int)) ∧ Need (x16 = ((x15.length : Nat) : Int)) ∧ Need ((1 : Int) ≤ (([x18].length : Nat) : Int)) ∧ ForL .u8 (x15 ++ List.take 1 (List.drop 0 [x18])) fun x19 => ForN (((x15 ++ List.take 1 (List.drop 0 [x18])).length : Nat) : Int) fun x20 => ForI .i64 (shrI .i64 n (40 : Int)) fun x21 => ForI .u8 (IntKind.u8.wrap x21) fun x22 => Need ((((x19 ++ List.take 1 (List.drop 0 [x22])).length : Nat) : Int) * 1 ≤ (70368744177664 : Int)) ∧ Need (x20 = ((x19.length : Nat) : Int)) ∧ Need ((1 : Int) ≤ (([x22].length : Nat) : Int)) ∧ ForL .u8 (x19 ++ List.take 1 (List.drop 0 [x22])) fun x23 => ForN (((x19 ++ List.take 1 (List.drop 0 [x22])).length : Nat) : Int) fun x24 => ForI .i64 (shrI .i64 n (48 : Int)) fun x25 => ForI .u8 (IntKind.u8.wrap x25) fun x26 => Need ((((x23 ++ List.take 1 (List.drop 0 [x26])).length : Nat) : Int) * 1 ≤ (70368744177664 : Int)) ∧ Need (x24 = ((x23.length : Nat) : Int)) ∧ Need ((1 : Int) ≤ (([x26].length : Nat) : Int)) ∧ ForL .u8 (x23 ++ List.take 1 (List.drop 0 [x26])) fun x27 => ForN (((x23 ++ List.take 1 (List.drop 0 [x26])).length : Nat) : Int) fun x28 => ForI .i64 (shrI .i64 n (56 : Int)) fun x29 => ForI .u8 (IntKind.u8.wrap x29) fun x30 => Need ((((x27 ++ List.take 1 (List.drop 0 [x30])).length : Nat) : Int) * 1 ≤ (70368744177664 : Int)) ∧ Need (x28 = ((x27.length : Nat) : Int)) ∧ Need ((1 : Int) ≤ (([x30].length : Nat) : Int)) ∧ ForL .u8 (x27 ++ List.take 1 (List.drop 0 [x30])) fun x31 => ForN (((x27 ++ List.take 1 (List.drop 0 [x30])).length : Nat) : Int) fun x32 => Need (0 + x32 ≤ ((x31.length : Nat) : Int)) ∧ K [RV.row (Con.ints .u8 (List.take x32.toNat (List.drop 0 x31)))] [] := by
 intros
 kernel_rfl

theorem one_of (x : Int) : List.take 1 (List.drop 0 [x]) = [x] := rfl
def leG : List AV → Option (List Prop × List RV × List (Option (List Seg)))
 | [.o (.ints .u8 l), .v (.i .i64 ⟨_, n⟩)] => some ([(l.length : Int) + 8 ≤ 70368744177664], [.row (.ints .u8 (l ++ le8 n))], [none])
 | [.v .nsl, .v (.i .i64 ⟨_, n⟩)] => some ([], [.row (.ints .u8 (le8 n))], [])
 | _ => none
set_option maxHeartbeats 2000000 in
theorem leG_ok : CallOk Tryd.prog ghE 39 (genCtr [.o, .v] leG) := by
 refine call_gen (fn := Tryd.f39) Φ0_ok rfl glowE rfl (by kernel_rfl) (by kernel_rfl) _ leG fun av p rvs fin hs hp hf => ?_
 unfold leG at hs
 split at hs
 ·rename_i l st n
  simp only [Option.some.injEq, Prod.mk.injEq] at hs
  obtain ⟨rfl, rfl, rfl⟩ := hs
  have hl : (l.length : Int) + 8 ≤ 70368744177664 := hp.1
  refine ⟨[.sl 600 0 1 ⟨true, 0⟩ ⟨false, (l.length : Int)⟩, .i .i64 ⟨false, n⟩], [(600, .segs false [.rowI .u8 l])], [], _, ?_, Nat.le_of_ble_eq_true (by kernel_rfl), vcG_noloops ?_⟩
  ·exact ⟨rfl, rfl, rfl, rfl, trivial⟩
  ·show vc13o l n _ _
   rw [vc13o_eq]
   intro x1 e1 _ x2 e2 _
   rw [one_of]
   have l0 : (l ++ [x2]).length = l.length + 1 := by simp
   refine ⟨need_of (by omega), need_of (by omega), need_of (by simp), ?_⟩
   intro x3 e3 _ x4 e4 _ _
   rw [← e3] at l0 e4
   intro x5 e5 _ x6 e6 _
   rw [one_of]
   have l1 : (x3 ++ [x6]).length = l.length + 2 := by rw [List.length_append, l0]; rfl
   refine ⟨need_of (by omega), need_of (by omega), need_of (by simp), ?_⟩
   intro x7 e7 _ x8 e8 _ _
   rw [← e7] at l1 e8
   intro x9 e9 _ x10 e10 _
   rw [one_of]
   have l2 : (x7 ++ [x10]).length = l.length + 3 := by rw [List.length_append, l1]; rfl
   refine ⟨need_of (by omega), need_of (by omega), need_of (by simp), ?_⟩
   intro x11 e11 _ x12 e12 _ _
   rw [← e11] at l2 e12
   intro x13 e13 _ x14 e14 _
   rw [one_of]
   have l3 : (x11 ++ [x14]).length = l.length + 4 := by rw [List.length_append, l2]; rfl
   refine ⟨need_of (by omega), need_of (by omega), need_of (by simp), ?_⟩
   intro x15 e15 _ x16 e16 _ _
   rw [← e15] at l3 e16
   intro x17 e17 _ x18 e18 _
   rw [one_of]
   have l4 : (x15 ++ [x18]).length = l.length + 5 := by rw [List.length_append, l3]; rfl
   refine ⟨need_of (by omega), need_of (by omega), need_of (by simp), ?_⟩
   intro x19 e19 _ x20 e20 _ _
   rw [← e19] at l4 e20
   intro x21 e21 _ x22 e22 _
   rw [one_of]
   have l5 : (x19 ++ [x22]).length = l.length + 6 := by rw [List.length_append, l4]; rfl
   refine ⟨need_of (by omega), need_of (by omega), need_of (by simp), ?_⟩
   intro x23 e23 _ x24 e24 _ _
   rw [← e23] at l5 e24
   intro x25 e25 _ x26 e26 _
   rw [one_of]
   have l6 : (x23 ++ [x26]).length = l.length + 7 := by rw [List.length_append, l5]; rfl
   refine ⟨need_of (by omega), need_of (by omega), need_of (by simp), ?_⟩
   intro x27 e27 _ x28 e28 _ _
   rw [← e27] at l6 e28
   intro x29 e29 _ x30 e30 _
   rw [one_of]
   have l7 : (x27 ++ [x30]).length = l.length + 8 := by rw [List.length_append, l6]; rfl
   refine ⟨need_of (by omega), need_of (by omega), need_of (by simp), ?_⟩
   intro x31 e31 _ x32 e32 _ _
   rw [← e31] at l7 e32
   refine ⟨need_of (by omega), ?_⟩
   refine ⟨⟨?_, trivial⟩, ⟨trivial, trivial⟩⟩
   refine ⟨rfl, ?_⟩
   show List.take x32.toNat (List.drop 0 x31) = l ++ le8 n
   rw [List.drop_zero, List.take_of_length_le (by omega)]
   rw [e31, e27, e23, e19, e15, e11, e7, e3, e2, e1, e6, e5, e10, e9, e14, e13, e18, e17, e22, e21, e26, e25, e30, e29]
   simp only [List.append_assoc, List.cons_append, List.nil_append]
   rfl
 ·rename_i st n
  simp only [Option.some.injEq, Prod.mk.injEq] at hs
  obtain ⟨rfl, rfl, rfl⟩ := hs
  refine ⟨[.nsl, .i .i64 ⟨false, n⟩], [], [], _, ?_, Nat.le_of_ble_eq_true (by kernel_rfl), vcG_noloops ?_⟩
  ·exact ⟨trivial, rfl, trivial⟩
  ·show vc13n n _ _
   rw [vc13n_eq]
   intro x1 e1 _ x2 e2 _
   rw [one_of]
   have l0 : ([] ++ [x2]).length = 0 + 1 := by simp
   refine ⟨need_of (by omega), need_of (by simp), ?_⟩
   intro x3 e3 _ x4 e4 _ _
   rw [← e3] at l0 e4
   intro x5 e5 _ x6 e6 _
   rw [one_of]
   have l1 : (x3 ++ [x6]).length = 0 + 2 := by rw [List.length_append, l0]; rfl
   refine ⟨need_of (by omega), need_of (by omega), need_of (by simp), ?_⟩
   intro x7 e7 _ x8 e8 _ _
   rw [← e7] at l1 e8
   intro x9 e9 _ x10 e10 _
   rw [one_of]
   have l2 : (x7 ++ [x10]).length = 0 + 3 := by rw [List.length_append, l1]; rfl
   refine ⟨need_of (by omega), need_of (by omega), need_of (by simp), ?_⟩
   intro x11 e11 _ x12 e12 _ _
   rw [← e11] at l2 e12
   intro x13 e13 _ x14 e14 _
   rw [one_of]
   have l3 : (x11 ++ [x14]).length = 0 + 4 := by rw [List.length_append, l2]; rfl
   refine ⟨need_of (by omega), need_of (by omega), need_of (by simp), ?_⟩
   intro x15 e15 _ x16 e16 _ _
   rw [← e15] at l3 e16
   intro x17 e17 _ x18 e18 _
   rw [one_of]
   have l4 : (x15 ++ [x18]).length = 0 + 5 := by rw [List.length_append, l3]; rfl
   refine ⟨need_of (by omega), need_of (by omega), need_of (by simp), ?_⟩
   intro x19 e19 _ x20 e20 _ _
   rw [← e19] at l4 e20
   intro x21 e21 _ x22 e22 _
   rw [one_of]
   have l5 : (x19 ++ [x22]).length = 0 + 6 := by rw [List.length_append, l4]; rfl
   refine ⟨need_of (by omega), need_of (by omega), need_of (by simp), ?_⟩
   intro x23 e23 _ x24 e24 _ _
   rw [← e23] at l5 e24
   intro x25 e25 _ x26 e26 _
   rw [one_of]
   have l6 : (x23 ++ [x26]).length = 0 + 7 := by rw [List.length_append, l5]; rfl
   refine ⟨need_of (by omega), need_of (by omega), need_of (by simp), ?_⟩
   intro x27 e27 _ x28 e28 _ _
   rw [← e27] at l6 e28
   intro x29 e29 _ x30 e30 _
   rw [one_of]
   have l7 : (x27 ++ [x30]).length = 0 + 8 := by rw [List.length_append, l6]; rfl
   refine ⟨need_of (by omega), need_of (by omega), need_of (by simp), ?_⟩
   intro x31 e31 _ x32 e32 _ _
   rw [← e31] at l7 e32
   refine ⟨need_of (by omega), ?_⟩
   refine ⟨⟨?_, trivial⟩, trivial⟩
   refine ⟨rfl, ?_⟩
   show List.take x32.toNat (List.drop 0 x31) = [] ++ le8 n
   rw [List.drop_zero, List.take_of_length_le (by omega)]
   rw [e31, e27, e23, e19, e15, e11, e7, e3, e2, e1, e6, e5, e10, e9, e14, e13, e18, e17, e22, e21, e26, e25, e30, e29]
   simp only [List.cons_append, List.nil_append]
   rfl
 ·cases hs
def Φ1 : Tab := ⟨tys, [(39, genCtr [.o, .v] leG)], [], ghE⟩
theorem Φ1_ok : TabOk Tryd.prog Φ1 := Φ0_ok.cons leG_ok
end Go.Gx

/- A frame, and when two of them are the same. -/
namespace Go.Sp
open Go.Gx
def sameB (x : ByteArray) (ls : List (List Int)) (x' : ByteArray) (ls' : List (List Int)) : Bool := decide (bytesI x = bytesI x' ∧ ls = ls')
end Go.Sp
namespace Go.Gx
open Go.Proofs Go.Sp
set_option linter.unusedVariables false
set_option maxRecDepth 100000

def L11 : Loops := [(4, ⟨[.any, .ro 490 (.l (.ints .u8)) (.r []), .any, .ro 490 (.l (.ints .u8)) (.r []), .any, .any, .any, .any, .any, .i .i64 ⟨false, 0⟩] ++ reps .any 27, ghE ++ [(490, .world)], 2000⟩)]
def vc11 (s : ByteArray) (d : RO) (s' : ByteArray) (d' : RO) (K : List RV → List (Option (List Seg)) → Prop) (Q : Nat → List Pv → Prop) : Prop := fnVcG 0 Φ1 Tryd.f38 L11 [.s s, .ro 490 (.l (.ints .u8)) d, .s s', .ro 490 (.l (.ints .u8)) d'] (ghE ++ (490, .world) :: []) K Q
def lc11 (d d' : RO) (i : Int) (K : List RV → List (Option (List Seg)) → Prop) (Q : Nat → List Pv → Prop) : Prop := loopVcG 0 Φ1 Tryd.f38 L11 4 [.ro d, .ro d', .z i] K Q
theorem vc11_eq : ∀ (s : ByteArray) (d : RO) (s' : ByteArray) (d' : RO) (K : List RV → List (Option (List Seg)) → Prop) (Q : Nat → List Pv → Prop), vc11 s d s' d' K Q = (((!s.toList == s'.toList) = true → K [RV.v (SV.b true false)] []) ∧ ((!s.toList == s'.toList) = false → ((((roX d).length : Int) != ((roX d').length : Int)) = true → K [RV.v (SV.b true false)] []) ∧ ((((roX d).length : Int) != ((roX d').length : Int)) = false → Same Tryd.f38 4 (itemsOf Tryd.f38 4) ∧ Q 4 [Pv.ro d, Pv.ro d', Pv.z 0]))) := by
 intros
 kernel_rfl
theorem lc11_eq : ∀ (d d' : RO) (i : Int) (K : List RV → List (Option (List Seg)) → Prop) (Q : Nat → List Pv → Prop), lc11 d d' i K Q = ((decide (i < ((roX d).length : Int)) = true → Need (0 ≤ i ∧ i < ((roX d).length : Int)) ∧ Need (0 ≤ i ∧ i < ((roX d').length : Int)) ∧ ((!(ofBytesI (roL (roN d i.toNat))).toList == (ofBytesI (roL (roN d' i.toNat))).toList) = true → K [RV.v (SV.b true false)] []) ∧ ((!(ofBytesI (roL (roN d i.toNat))).toList == (ofBytesI (roL (roN d' i.toNat))).toList) = false → ForI .i64 (IntKind.i64.wrap (i + 1)) fun x1 => Same Tryd.f38 4 (itemsOf Tryd.f38 4) ∧ Q 4 [Pv.ro d, Pv.ro d', Pv.z x1])) ∧ (decide (i < ((roX d).length : Int)) = false → K [RV.v (SV.b true true)] [])) := by
 intros
 kernel_rfl

theorem bytesI_of {l : List Int} (h : AllR .u8 l) : bytesI (ofBytesI l) = l := by
 unfold bytesI ofBytesI
 simp only [List.map_map]
 conv => rhs; rw [← List.map_id l]
 apply List.map_congr_left
 intro z hz
 have hz : 0 ≤ z ∧ z < 256 := h z hz
 show (((UInt8.ofNat z.toNat).toNat : Nat) : Int) = z
 rw [UInt8.toNat_ofNat']
 omega
theorem bytesI_inj {a b : ByteArray} (h : bytesI a = bytesI b) : a = b := by
 apply ByteArray.ext
 apply Array.toList_inj.1
 unfold bytesI at h
 refine List.map_inj_right (f := fun b : UInt8 => (b.toNat : Int)) (fun x y hxy => ?_) |>.1 h
 exact UInt8.toNat_inj.1 (by have hxy : ((x.toNat : Nat) : Int) = ((y.toNat : Nat) : Int) := hxy; omega)
theorem toList_bytes (a b : ByteArray) : (a.toList == b.toList) = decide (bytesI a = bytesI b) := by
 rw [ByteArray.toList_eq, ByteArray.toList_eq]
 by_cases h : a = b
 ·subst h; simp
 ·have h1 : ¬ bytesI a = bytesI b := fun e => h (bytesI_inj e)
  have h2 : ¬ a.data.toList = b.data.toList := fun e => h (ByteArray.ext (Array.toList_inj.1 e))
  rw [decide_eq_false h1]
  exact beq_eq_false_iff_ne.2 h2
theorem ofBytes_eq {l l' : List Int} (h : AllR .u8 l) (h' : AllR .u8 l') : ((ofBytesI l).toList == (ofBytesI l').toList) = decide (l = l') := by
 rw [toList_bytes, bytesI_of h, bytesI_of h']
def inv11 (d d' : RO) (key : Nat) (ps : List Pv) (mm : Nat) : Prop :=
 key = 4 ∧ ∃ j : Nat, j ≤ (roX d).length ∧ ((roX d).map roL).take j = ((roX d').map roL).take j ∧ ps = [.ro d, .ro d', .z (j : Int)] ∧ mm = (roX d).length - j
def sameG : List AV → Option (List Prop × List RV × List (Option (List Seg)))
 | [.v (.s x), .d (.l (.ints .u8)) d, .v (.s x'), .d (.l (.ints .u8)) d'] => some ([], [.v (.b false (sameB x ((roX d).map roL) x' ((roX d').map roL)))], [])
 | _ => none
theorem sameG_ok : CallOk Tryd.prog ghE 38 (genCtr [.v, .d (.l (.ints .u8)), .v, .d (.l (.ints .u8))] sameG) := by
 refine call_gen (fn := Tryd.f38) Φ1_ok rfl glowE rfl (by kernel_rfl) (by kernel_rfl) _ sameG fun av p rvs fin hs hp hf => ?_
 unfold sameG at hs
 split at hs
 ·rename_i s d s' d'
  simp only [Option.some.injEq, Prod.mk.injEq] at hs
  obtain ⟨rfl, rfl, rfl⟩ := hs
  obtain ⟨_, ⟨hu, hlen⟩, _, ⟨hu', hlen'⟩, _⟩ := hf
  by_cases hss : bytesI s = bytesI s' ∧ (roX d).length = (roX d').length
  ·obtain ⟨hs1, hll⟩ := hss
   refine ⟨[.s s, .ro 490 (.l (.ints .u8)) d, .s s', .ro 490 (.l (.ints .u8)) d'], [], L11, inv11 d d', ⟨rfl, rfl, rfl, rfl, trivial⟩, Nat.le_of_ble_eq_true (by kernel_rfl), ?_, ?_, ?_⟩
   ·intro kk t ht g hg
    have hg : g ∈ [490] := hg
    simp only [List.mem_cons, List.not_mem_nil, or_false] at hg
    simp only [L11, List.mem_cons, List.not_mem_nil, or_false, Prod.mk.injEq] at ht
    obtain ⟨rfl, rfl⟩ := ht
    subst hg
    exact ⟨by omega, rfl⟩
   ·rintro vk t ps mm ht ⟨rfl, j, hj, htk, rfl, rfl⟩
    simp only [L11, List.mem_cons, List.not_mem_nil, or_false, Prod.mk.injEq] at ht
    obtain ⟨_, rfl⟩ := ht
    show lc11 d d' (j : Int) _ _
    rw [lc11_eq]
    refine ⟨fun hlt => ?_, fun hge => ?_⟩
    ·have hlt := of_decide_eq_true hlt
     have hjl : j < (roX d).length := by omega
     have hm : roN d j ∈ roX d := by unfold roN; simp [List.getD, hjl]
     have hm' : roN d' j ∈ roX d' := by
      have : j < (roX d').length := by omega
      unfold roN; simp [List.getD, this]
     rw [Int.toNat_natCast, ofBytes_eq (hu _ hm).1 (hu' _ hm').1]
     have hg : ((roX d).map roL)[j]? = some (roL (roN d j)) := by
      rw [List.getElem?_map]; unfold roN; simp [List.getD, hjl]
     have hg' : ((roX d').map roL)[j]? = some (roL (roN d' j)) := by
      have : j < (roX d').length := by omega
      rw [List.getElem?_map]; unfold roN; simp [List.getD, this]
     refine ⟨need_of (by omega), need_of (by omega), fun h => ?_, fun h => ?_⟩
     ·have hne : ¬ roL (roN d j) = roL (roN d' j) := by simpa using h
      refine ⟨⟨?_, trivial⟩, trivial⟩
      show false = sameB _ _ _ _
      refine (decide_eq_false fun hh => hne ?_).symm
      have := hh.2
      rw [this, hg'] at hg
      exact (Option.some.inj hg).symm
     ·have he : roL (roN d j) = roL (roN d' j) := by simpa using h
      intro x1 e1 _
      rw [wrap_i64 (by omega)] at e1
      rw [e1]
      refine ⟨rfl, (roX d).length - (j + 1), by omega, rfl, j + 1, by omega, ?_, rfl, rfl⟩
      rw [List.take_add_one, List.take_add_one, htk, hg, hg', he]
    ·have hge := of_decide_eq_false hge
     obtain rfl : j = (roX d).length := by omega
     refine ⟨⟨?_, trivial⟩, trivial⟩
     show true = sameB _ _ _ _
     rw [List.take_of_length_le (by simp), List.take_of_length_le (by simp; omega)] at htk
     exact (decide_eq_true ⟨hs1, htk⟩).symm
   ·show vc11 s d s' d' _ _
    rw [vc11_eq, toList_bytes]
    refine ⟨fun h => ?_, fun _ => ⟨fun h => ?_, fun _ => ⟨rfl, (roX d).length - 0, rfl, 0, by omega, by simp, rfl, rfl⟩⟩⟩
    ·simp [hs1] at h
    ·rw [hll] at h; simp at h
  ·have hno : sameB s ((roX d).map roL) s' ((roX d').map roL) = false := decide_eq_false fun hh => hss ⟨hh.1, by have := congrArg List.length hh.2; simpa using this⟩
   rw [hno]
   refine ⟨[.s s, .ro 490 (.l (.ints .u8)) d, .s s', .ro 490 (.l (.ints .u8)) d'], [], L11, fun _ _ _ => False, ⟨rfl, rfl, rfl, rfl, trivial⟩, Nat.le_of_ble_eq_true (by kernel_rfl), ?_, fun _ _ _ _ _ h => h.elim, ?_⟩
   ·intro kk t ht g hg
    have hg : g ∈ [490] := hg
    simp only [List.mem_cons, List.not_mem_nil, or_false] at hg
    simp only [L11, List.mem_cons, List.not_mem_nil, or_false, Prod.mk.injEq] at ht
    obtain ⟨rfl, rfl⟩ := ht
    subst hg
    exact ⟨by omega, rfl⟩
   ·show vc11 s d s' d' _ _
    rw [vc11_eq, toList_bytes]
    refine ⟨fun _ => ⟨⟨rfl, trivial⟩, trivial⟩, fun h => ⟨fun _ => ⟨⟨rfl, trivial⟩, trivial⟩, fun h2 => (hss ⟨by simpa using h, ?_⟩).elim⟩⟩
    have : ((roX d).length : Int) = ((roX d').length : Int) := by simpa using h2
    omega
 ·cases hs
end Go.Gx

/- The scalars, 1. -/
namespace Go.Sp.Sc
end Go.Sp.Sc
namespace Go.Gx.Sc
open Go.Proofs Go.Sp Go.Sp.Sc
set_option linter.unusedVariables false
def gh : Heap := [(1, .segs true [.arr .u64 4 true [6346243789798364141, 1503914060200516822, 0, 1152921504606846976], .arr .u64 4 true [15486807595281847581, 14334777244411350896, 18446744073709551614, 1152921504606846975], .arr .u64 4 true [11819153939886771969, 14991950615390032711, 14910419812499177061, 259310039853996605], .arr .u64 4 true [6346243789798364139, 1503914060200516822, 0, 1152921504606846976]])]
def Γ0 : Tab := ⟨tys, [], [1], gh⟩
theorem Γ0_ok : TabOk Go.Proofs.Tryd.prog Γ0 := .nil mixed tys_ok
def c88 : Ctr := pureCtr sub64S
theorem c88_ok : CallOk Go.Proofs.Tryd.prog gh 65 c88 := sub64_ok (fn := Go.Proofs.Tryd.f65) (by kernel_rfl) (by kernel_rfl) (by kernel_rfl) (by kernel_rfl) (by kernel_rfl)
def c84 : Ctr := pureCtr add64S
theorem c84_ok : CallOk Go.Proofs.Tryd.prog gh 52 c84 := add64_ok (fn := Go.Proofs.Tryd.f52) (by kernel_rfl) (by kernel_rfl) (by kernel_rfl) (by kernel_rfl) (by kernel_rfl)
def Γ1 : Tab := ⟨tys, [(52, c84), (65, c88)], [1], gh⟩
theorem Γ1_ok : TabOk Tryd.prog Γ1 := ((Γ0_ok.cons c88_ok).cons c84_ok)
end Go.Gx.Sc
namespace Go.Sp.Sc
open Go.Gx Go.Gx.Sc
set_option linter.unusedVariables false
def val4 : List Int → Int
 | [a, b, c, d] => a + 18446744073709551616 * b + 340282366920938463463374607431768211456 * c + 6277101735386680763835789423207666416102355444464034512896 * d
 | _ => 0
def w0 (n : Int) : Int := n % 18446744073709551616
def w1 (n : Int) : Int := n / 18446744073709551616 % 18446744073709551616
def w2 (n : Int) : Int := n / 340282366920938463463374607431768211456 % 18446744073709551616
def w3 (n : Int) : Int := n / 6277101735386680763835789423207666416102355444464034512896 % 18446744073709551616
def ltI (a b : Int) : Int := if a < b then 1 else 0
def chI (m a b : Int) : Int := if m = 0 then b else a
end Go.Sp.Sc
namespace Go.Gx.Sc
open Go.Proofs Go.Sp Go.Sp.Sc
set_option linter.unusedVariables false
def words4 (n : Int) : List Int := [w0 n, w1 n, w2 n, w3 n]
def ge (l : List Int) (i : Nat) : Int := match nth l i with | some x => x | none => 0
theorem len4 {l : List Int} (h : l.length = 4) : ∃ a b c d, l = [a, b, c, d] := by
 match l, h with
 | [a, b, c, d], _ => exact ⟨a, b, c, d, rfl⟩
def minusS : List SV → Option (List Prop × SV)
 | [.arr .u64 4 _ l, .arr .u64 4 _ l'] => some ([], .tup [.arr .u64 4 true (words4 (val4 l - val4 l')), .i .u64 ⟨false, ltI (val4 l) (val4 l')⟩])
 | _ => none
def vc77 (a0 a1 a2 a3 b0 b1 b2 b3 : Int) (K : SV → Prop) (Q : Nat → List Pv → Prop) : Prop :=
 fnVc Γ1 Tryd.f53 [] [.arr .u64 4 true [a0, a1, a2, a3], .arr .u64 4 true [b0, b1, b2, b3]] gh K Q
theorem vc77_eq : ∀ (a0 a1 a2 a3 b0 b1 b2 b3 : Int) (K : SV → Prop) (Q : Nat → List Pv → Prop), vc77 a0 a1 a2 a3 b0 b1 b2 b3 K Q = (Need ((0 : Int) ≤ 1) ∧ ForI .u64 ((a0 - b0 - 0) % 18446744073709551616) fun x1 => ForI .u64 (borI a0 b0 (0 : Int)) fun x2 => Need (x2 ≤ 1) ∧ ForI .u64 ((a1 - b1 - x2) % (18446744073709551616 : Int)) fun x3 => ForI .u64 (borI a1 b1 x2) fun x4 => Need (x4 ≤ 1) ∧ ForI .u64 ((a2 - b2 - x4) % (18446744073709551616 : Int)) fun x5 => ForI .u64 (borI a2 b2 x4) fun x6 => Need (x6 ≤ 1) ∧ ForI .u64 ((a3 - b3 - x6) % (18446744073709551616 : Int)) fun x7 => ForI .u64 (borI a3 b3 x6) fun x8 => K (SV.tup [SV.arr .u64 4 true [x1, x3, x5, x7], SV.i .u64 { st := false, z := x8 }])) := by
 intros
 kernel_rfl
theorem minus_ok : CallOk Tryd.prog gh 53 (pureCtr minusS) := by
 refine call_pure (fn := Tryd.f53) Γ1_ok rfl (by kernel_rfl) (by kernel_rfl) (by kernel_rfl) minusS fun args p y hs hp hf => ?_
 unfold minusS at hs
 split at hs
 ·rename_i e1 l e2 l'
  simp only [Option.some.injEq, Prod.mk.injEq] at hs
  obtain ⟨rfl, rfl⟩ := hs
  simp only [FactVs, FactV] at hf
  obtain ⟨⟨hl, h1⟩, ⟨hl', h2⟩, _⟩ := hf
  obtain ⟨a0, a1, a2, a3, rfl⟩ := len4 hl
  obtain ⟨b0, b1, b2, b3, rfl⟩ := len4 hl'
  have i0 := h1 a0 (by simp); have i1 := h1 a1 (by simp); have i2 := h1 a2 (by simp); have i3 := h1 a3 (by simp)
  have j0 := h2 b0 (by simp); have j1 := h2 b1 (by simp); have j2 := h2 b2 (by simp); have j3 := h2 b3 (by simp)
  simp only [InR] at i0 i1 i2 i3 j0 j1 j2 j3
  refine ⟨[.arr .u64 4 true [a0, a1, a2, a3], .arr .u64 4 true [b0, b1, b2, b3]], [], _, ⟨rfl, rfl, trivial⟩, Nat.le_of_ble_eq_true (by kernel_rfl), vc_noloops ?_⟩
  show vc77 a0 a1 a2 a3 b0 b1 b2 b3 _ _
  rw [vc77_eq]
  refine ⟨by unfold Need; omega, fun x1 e1 r1 x2 e2 r2 => ⟨?_, fun x3 e3 r3 x4 e4 r4 => ⟨?_, fun x5 e5 r5 x6 e6 r6 => ⟨?_, fun x7 e7 r7 x8 e8 r8 => ?_⟩⟩⟩⟩
  ·unfold Need; subst e2; unfold borI; split <;> omega
  ·unfold Need; subst e4; unfold borI; split <;> omega
  ·unfold Need; subst e6; unfold borI; split <;> omega
  ·simp only [InR] at r1 r2 r3 r4 r5 r6 r7 r8
   simp only [borI] at e2 e4 e6 e8
   show eqVs _ _
   refine ⟨?_, ?_, trivial⟩
   ·show [x1, x3, x5, x7] = words4 (val4 [a0, a1, a2, a3] - val4 [b0, b1, b2, b3])
    simp only [words4, val4, w0, w1, w2, w3, List.cons.injEq, and_true]
    refine ⟨?_, ?_, ?_, ?_⟩ <;> omega
   ·show x8 = ltI (val4 [a0, a1, a2, a3]) (val4 [b0, b1, b2, b3])
    simp only [val4, ltI]
    omega
 ·cases hs
theorem wrap_u64 (x : Int) : IntKind.u64.wrap x = x % 18446744073709551616 := by
 simp [IntKind.wrap, IntKind.signed, IntKind.bits]
theorem toBv {a : Int} (h : 0 ≤ a) (h' : a < 18446744073709551616) : (BitVec.ofInt 64 a).toNat = a.toNat := by
 simp [BitVec.toNat_ofInt]; omega
theorem andI_u64 {a m : Int} (ha : InR .u64 a) (hm : InR .u64 m) : andI .u64 a m = ((a.toNat &&& m.toNat : Nat) : Int) := by
 simp only [InR] at ha hm
 unfold andI
 rw [wrap_u64]
 have : (BitVec.ofInt IntKind.u64.bits a &&& BitVec.ofInt IntKind.u64.bits m).toNat = a.toNat &&& m.toNat := by
  show (BitVec.ofInt 64 a &&& BitVec.ofInt 64 m).toNat = _
  rw [BitVec.toNat_and, toBv ha.1 ha.2, toBv hm.1 hm.2]
 rw [this]
 have hle : a.toNat &&& m.toNat ≤ a.toNat := Nat.and_le_left
 omega
theorem and_mask {a : Int} (k : Nat) (hk : k ≤ 64) (ha : InR .u64 a) : andI .u64 a ((2 ^ k - 1 : Nat) : Int) = a % ((2 ^ k : Nat) : Int) := by
 have hk' : 2 ^ k ≤ 2 ^ 64 := Nat.pow_le_pow_right (by omega) hk
 have hpos : 0 < 2 ^ k := Nat.two_pow_pos k
 rw [andI_u64 ha ⟨by omega, by omega⟩]
 have : ((2 ^ k - 1 : Nat) : Int).toNat = 2 ^ k - 1 := by omega
 rw [this, Nat.and_two_pow_sub_one_eq_mod]
 simp only [InR] at ha
 rw [Int.natCast_emod]
 congr 1
 omega
theorem and32 {a : Int} (ha : InR .u64 a) : andI .u64 a 4294967295 = a % 4294967296 := and_mask 32 (by omega) ha
theorem shrI_u64 (a : Int) (k : Nat) (hk : k ≤ 64) : shrI .u64 a (k : Int) = a / ((2 ^ k : Nat) : Int) := by
 unfold shrI
 have : min ((k : Int).toNat) IntKind.u64.bits = k := by simp [IntKind.bits]; omega
 rw [this, Int.fdiv_eq_ediv_of_nonneg]
 ·simp
 ·exact_mod_cast Nat.zero_le (2 ^ k)
theorem shr32 (a : Int) : shrI .u64 a 32 = a / 4294967296 := shrI_u64 a 32 (by omega)
def mul64S : List SV → Option (List Prop × SV)
 | [.i .u64 x, .i .u64 y] => some ([], .tup [.i .u64 ⟨false, x.z * y.z / 18446744073709551616⟩, .i .u64 ⟨false, x.z * y.z % 18446744073709551616⟩])
 | _ => none
theorem mul64_law {a b x1 x2 x3 x4 x5 x6 x7 x8 x9 x10 x11 x12 x13 x14 x15 x16 : Int} (ha : 0 ≤ a ∧ a < 18446744073709551616) (hb : 0 ≤ b ∧ b < 18446744073709551616) (e1 : x1 = a % 4294967296) (e2 : x2 = a / 4294967296) (e3 : x3 = b % 4294967296) (e4 : x4 = b / 4294967296)
  (e5 : x5 = x1 * x3 % 18446744073709551616) (e6 : x6 = x2 * x3 % 18446744073709551616) (e7 : x7 = x5 / 4294967296) (e8 : x8 = (x6 + x7) % 18446744073709551616) (e9 : x9 = x8 % 4294967296) (e10 : x10 = x8 / 4294967296)
  (e11 : x11 = x1 * x4 % 18446744073709551616) (e12 : x12 = (x9 + x11) % 18446744073709551616) (e13 : x13 = x2 * x4 % 18446744073709551616) (e14 : x14 = (x13 + x10) % 18446744073709551616) (e15 : x15 = x12 / 4294967296) (e16 : x16 = (x14 + x15) % 18446744073709551616) :
  x16 = a * b / 18446744073709551616 := by
 have h1 : 0 ≤ x1 ∧ x1 ≤ 4294967295 := by omega
 have h2 : 0 ≤ x2 ∧ x2 ≤ 4294967295 := by omega
 have h3 : 0 ≤ x3 ∧ x3 ≤ 4294967295 := by omega
 have h4 : 0 ≤ x4 ∧ x4 ≤ 4294967295 := by omega
 have bd : ∀ {p q : Int}, 0 ≤ p ∧ p ≤ 4294967295 → 0 ≤ q ∧ q ≤ 4294967295 → 0 ≤ p * q ∧ p * q ≤ 18446744065119617025 := fun {p q} hp hq =>
  ⟨Int.mul_nonneg hp.1 hq.1, Int.le_trans (Int.mul_le_mul hp.2 hq.2 hq.1 (by omega)) (by decide)⟩
 have p13 := bd h1 h3
 have p23 := bd h2 h3
 have p14 := bd h1 h4
 have p24 := bd h2 h4
 have hab : a * b = 18446744073709551616 * (x2 * x4) + 4294967296 * (x2 * x3 + x1 * x4) + x1 * x3 := by
  have ea : a = 4294967296 * x2 + x1 := by omega
  have eb : b = 4294967296 * x4 + x3 := by omega
  rw [ea, eb]
  simp only [Int.add_mul, Int.mul_add, Int.mul_assoc, Int.mul_left_comm x2 4294967296, Int.mul_left_comm x1 4294967296]
  omega
 rw [hab]
 generalize x1 * x3 = A at *
 generalize x2 * x3 = B at *
 generalize x1 * x4 = C at *
 generalize x2 * x4 = D at *
 omega
def vc83 (a b : Int) (K : SV → Prop) (Q : Nat → List Pv → Prop) : Prop := fnVc Γ1 Tryd.f51 [] [.i .u64 ⟨false, a⟩, .i .u64 ⟨false, b⟩] gh K Q
theorem vc83_eq : ∀ (a b : Int) (K : SV → Prop) (Q : Nat → List Pv → Prop), vc83 a b K Q = ForI .u64 (andI .u64 a (4294967295 : Int)) fun x1 => ForI .u64 (shrI .u64 a (32 : Int)) fun x2 => ForI .u64 (andI .u64 b (4294967295 : Int)) fun x3 => ForI .u64 (shrI .u64 b (32 : Int)) fun x4 => ForI .u64 (IntKind.u64.wrap (x1 * x3)) fun x5 => ForI .u64 (IntKind.u64.wrap (x2 * x3)) fun x6 => ForI .u64 (shrI .u64 x5 32) fun x7 => ForI .u64 (IntKind.u64.wrap (x6 + x7)) fun x8 => ForI .u64 (andI .u64 x8 4294967295) fun x9 => ForI .u64 (shrI .u64 x8 32) fun x10 => ForI .u64 (IntKind.u64.wrap (x1 * x4)) fun x11 => ForI .u64 (IntKind.u64.wrap (x9 + x11)) fun x12 => ForI .u64 (IntKind.u64.wrap (x2 * x4)) fun x13 => ForI .u64 (IntKind.u64.wrap (x13 + x10)) fun x14 => ForI .u64 (shrI .u64 x12 32) fun x15 => ForI .u64 (IntKind.u64.wrap (x14 + x15)) fun x16 => ForI .u64 (IntKind.u64.wrap (a * b)) fun x17 => K (SV.tup [SV.i .u64 { st := false, z := x16 }, SV.i .u64 { st := false, z := x17 }]) := by
 intros
 kernel_rfl
theorem mul64_ok : CallOk Tryd.prog gh 51 (pureCtr mul64S) := by
 refine call_pure (fn := Tryd.f51) Γ1_ok rfl (by kernel_rfl) (by kernel_rfl) (by kernel_rfl) mul64S fun args p y hs hp hf => ?_
 unfold mul64S at hs
 split at hs
 ·rename_i a b
  simp only [Option.some.injEq, Prod.mk.injEq] at hs
  obtain ⟨rfl, rfl⟩ := hs
  simp only [FactVs, FactV] at hf
  obtain ⟨ha, hb, _⟩ := hf
  refine ⟨[.i .u64 ⟨false, a.z⟩, .i .u64 ⟨false, b.z⟩], [], _, ⟨rfl, rfl, trivial⟩, Nat.le_of_ble_eq_true (by kernel_rfl), vc_noloops ?_⟩
  show vc83 a.z b.z _ _
  rw [vc83_eq]
  intro x1 e1 r1 x2 e2 r2 x3 e3 r3 x4 e4 r4 x5 e5 r5 x6 e6 r6 x7 e7 r7 x8 e8 r8 x9 e9 r9 x10 e10 r10 x11 e11 r11 x12 e12 r12 x13 e13 r13 x14 e14 r14 x15 e15 r15 x16 e16 r16 x17 e17 r17
  rw [and32 ha] at e1
  rw [and32 hb] at e3
  rw [and32 r8] at e9
  rw [shr32] at e2 e4 e7 e10 e15
  rw [wrap_u64] at e5 e6 e8 e11 e12 e13 e14 e16 e17
  exact ⟨mul64_law ha hb e1 e2 e3 e4 e5 e6 e7 e8 e9 e10 e11 e12 e13 e14 e15 e16, e17, trivial⟩
 ·cases hs

/-! ### Sums -/
def plusS : List SV → Option (List Prop × SV)
 | [.arr .u64 4 _ l, .arr .u64 4 _ l'] => some ([], .tup [.arr .u64 4 true (words4 (val4 l + val4 l')), .i .u64 ⟨false, (val4 l + val4 l') / 115792089237316195423570985008687907853269984665640564039457584007913129639936⟩])
 | _ => none
def vc71 (a0 a1 a2 a3 b0 b1 b2 b3 : Int) (K : SV → Prop) (Q : Nat → List Pv → Prop) : Prop := fnVc Γ1 Tryd.f54 [] [.arr .u64 4 true [a0, a1, a2, a3], .arr .u64 4 true [b0, b1, b2, b3]] gh K Q
theorem vc71_eq : ∀ (a0 a1 a2 a3 b0 b1 b2 b3 : Int) (K : SV → Prop) (Q : Nat → List Pv → Prop), vc71 a0 a1 a2 a3 b0 b1 b2 b3 K Q = (Need ((0 : Int) ≤ 1) ∧ ForI .u64 ((a0 + b0 + 0) % 18446744073709551616) fun x1 => ForI .u64 ((a0 + b0 + 0) / 18446744073709551616) fun x2 => Need (x2 ≤ 1) ∧ ForI .u64 ((a1 + b1 + x2) % (18446744073709551616 : Int)) fun x3 => ForI .u64 ((a1 + b1 + x2) / (18446744073709551616 : Int)) fun x4 => Need (x4 ≤ 1) ∧ ForI .u64 ((a2 + b2 + x4) % (18446744073709551616 : Int)) fun x5 => ForI .u64 ((a2 + b2 + x4) / (18446744073709551616 : Int)) fun x6 => Need (x6 ≤ 1) ∧ ForI .u64 ((a3 + b3 + x6) % (18446744073709551616 : Int)) fun x7 => ForI .u64 ((a3 + b3 + x6) / (18446744073709551616 : Int)) fun x8 => K (SV.tup [SV.arr .u64 4 true [x1, x3, x5, x7], SV.i .u64 { st := false, z := x8 }])) := by
 intros
 kernel_rfl
theorem plus_ok : CallOk Tryd.prog gh 54 (pureCtr plusS) := by
 refine call_pure (fn := Tryd.f54) Γ1_ok rfl (by kernel_rfl) (by kernel_rfl) (by kernel_rfl) plusS fun args p y hs hp hf => ?_
 unfold plusS at hs
 split at hs
 ·rename_i e1 l e2 l'
  simp only [Option.some.injEq, Prod.mk.injEq] at hs
  obtain ⟨rfl, rfl⟩ := hs
  simp only [FactVs, FactV] at hf
  obtain ⟨⟨hl, h1⟩, ⟨hl', h2⟩, _⟩ := hf
  obtain ⟨a0, a1, a2, a3, rfl⟩ := len4 hl
  obtain ⟨b0, b1, b2, b3, rfl⟩ := len4 hl'
  have i0 := h1 a0 (by simp); have i1 := h1 a1 (by simp); have i2 := h1 a2 (by simp); have i3 := h1 a3 (by simp)
  have j0 := h2 b0 (by simp); have j1 := h2 b1 (by simp); have j2 := h2 b2 (by simp); have j3 := h2 b3 (by simp)
  simp only [InR] at i0 i1 i2 i3 j0 j1 j2 j3
  refine ⟨[.arr .u64 4 true [a0, a1, a2, a3], .arr .u64 4 true [b0, b1, b2, b3]], [], _, ⟨rfl, rfl, trivial⟩, Nat.le_of_ble_eq_true (by kernel_rfl), vc_noloops ?_⟩
  show vc71 a0 a1 a2 a3 b0 b1 b2 b3 _ _
  rw [vc71_eq]
  refine ⟨by unfold Need; omega, fun x1 e1 r1 x2 e2 r2 => ⟨by unfold Need; omega, fun x3 e3 r3 x4 e4 r4 => ⟨by unfold Need; omega, fun x5 e5 r5 x6 e6 r6 => ⟨by unfold Need; omega, fun x7 e7 r7 x8 e8 r8 => ?_⟩⟩⟩⟩
  refine ⟨?_, ?_, trivial⟩
  ·show [x1, x3, x5, x7] = words4 (val4 [a0, a1, a2, a3] + val4 [b0, b1, b2, b3])
   simp only [words4, val4, w0, w1, w2, w3, List.cons.injEq, and_true]
   refine ⟨?_, ?_, ?_, ?_⟩ <;> omega
  ·show x8 = (val4 [a0, a1, a2, a3] + val4 [b0, b1, b2, b3]) / 115792089237316195423570985008687907853269984665640564039457584007913129639936
   simp only [val4]
   omega
 ·cases hs

/-! ### A choice by a mask -/
theorem inR_max : InR .u64 18446744073709551615 := ⟨by omega, by omega⟩
theorem and_zero {a : Int} (ha : InR .u64 a) : andI .u64 a 0 = 0 := by
 rw [andI_u64 ha (inR_zero _)]; simp
theorem and_max {a : Int} (ha : InR .u64 a) : andI .u64 a 18446744073709551615 = a := by
 have := and_mask 64 (by omega) ha
 have e : ((2 ^ 64 - 1 : Nat) : Int) = 18446744073709551615 := by decide
 rw [e] at this
 rw [this]
 simp only [InR] at ha
 omega
theorem andNotI_u64 {a m : Int} (ha : InR .u64 a) (hm : InR .u64 m) : andNotI .u64 a m = andI .u64 a (18446744073709551615 - m) := by
 simp only [InR] at ha hm
 unfold andNotI andI
 congr 3
 show (BitVec.ofInt 64 a &&& ~~~ BitVec.ofInt 64 m) = (BitVec.ofInt 64 a &&& BitVec.ofInt 64 (18446744073709551615 - m))
 congr 1
 apply BitVec.eq_of_toNat_eq
 rw [BitVec.toNat_not, toBv hm.1 hm.2, toBv (by omega) (by omega)]
 omega
theorem orI_u64 {a m : Int} (ha : InR .u64 a) (hm : InR .u64 m) : orI .u64 a m = ((a.toNat ||| m.toNat : Nat) : Int) := by
 simp only [InR] at ha hm
 unfold orI
 rw [wrap_u64]
 have : (BitVec.ofInt IntKind.u64.bits a ||| BitVec.ofInt IntKind.u64.bits m).toNat = a.toNat ||| m.toNat := by
  show (BitVec.ofInt 64 a ||| BitVec.ofInt 64 m).toNat = _
  rw [BitVec.toNat_or, toBv ha.1 ha.2, toBv hm.1 hm.2]
 rw [this]
 have hlt : a.toNat ||| m.toNat < 2 ^ 64 := Nat.or_lt_two_pow (by omega) (by omega)
 omega
theorem choose1 {m a b x y z : Int} (hm : m = 0 ∨ m = 18446744073709551615) (ha : InR .u64 a) (hb : InR .u64 b) (ex : x = andI .u64 a m) (ey : y = andNotI .u64 b m) (ez : z = orI .u64 x y) : z = chI m a b := by
 unfold chI
 rcases hm with rfl | rfl
 ·rw [and_zero ha] at ex
  rw [andNotI_u64 hb (inR_zero _), Int.sub_zero, and_max hb] at ey
  subst ex ey
  rw [orI_u64 (inR_zero _) hb] at ez
  simp only [InR] at hb
  simp at ez ⊢
  omega
 ·rw [and_max ha] at ex
  rw [andNotI_u64 hb inR_max, Int.sub_self, and_zero hb] at ey
  subst ex ey
  rw [orI_u64 ha (inR_zero _)] at ez
  simp only [InR] at ha
  simp at ez ⊢
  omega
def chooseS : List SV → Option (List Prop × SV)
 | [.i .u64 m, .arr .u64 4 _ l, .arr .u64 4 _ l'] => some ([m.z = 0 ∨ m.z = 18446744073709551615], .arr .u64 4 true [chI m.z (ge l 0) (ge l' 0), chI m.z (ge l 1) (ge l' 1), chI m.z (ge l 2) (ge l' 2), chI m.z (ge l 3) (ge l' 3)])
 | _ => none
def vc69 (m a0 a1 a2 a3 b0 b1 b2 b3 : Int) (K : SV → Prop) (Q : Nat → List Pv → Prop) : Prop := fnVc Γ1 Tryd.f56 [] [.i .u64 ⟨false, m⟩, .arr .u64 4 true [a0, a1, a2, a3], .arr .u64 4 true [b0, b1, b2, b3]] gh K Q
theorem vc69_eq : ∀ (m a0 a1 a2 a3 b0 b1 b2 b3 : Int) (K : SV → Prop) (Q : Nat → List Pv → Prop), vc69 m a0 a1 a2 a3 b0 b1 b2 b3 K Q = ForI .u64 (andI .u64 a0 m) fun x1 => ForI .u64 (andNotI .u64 b0 m) fun x2 => ForI .u64 (orI .u64 x1 x2) fun x3 => ForI .u64 (andI .u64 a1 m) fun x4 => ForI .u64 (andNotI .u64 b1 m) fun x5 => ForI .u64 (orI .u64 x4 x5) fun x6 => ForI .u64 (andI .u64 a2 m) fun x7 => ForI .u64 (andNotI .u64 b2 m) fun x8 => ForI .u64 (orI .u64 x7 x8) fun x9 => ForI .u64 (andI .u64 a3 m) fun x10 => ForI .u64 (andNotI .u64 b3 m) fun x11 => ForI .u64 (orI .u64 x10 x11) fun x12 => K (SV.arr .u64 4 true [x3, x6, x9, x12]) := by
 intros
 kernel_rfl
theorem choose_ok : CallOk Tryd.prog gh 56 (pureCtr chooseS) := by
 refine call_pure (fn := Tryd.f56) Γ1_ok rfl (by kernel_rfl) (by kernel_rfl) (by kernel_rfl) chooseS fun args p y hs hp hf => ?_
 unfold chooseS at hs
 split at hs
 ·rename_i m e1 l e2 l'
  simp only [Option.some.injEq, Prod.mk.injEq] at hs
  obtain ⟨rfl, rfl⟩ := hs
  simp only [FactVs, FactV] at hf
  obtain ⟨hm, ⟨hl, h1⟩, ⟨hl', h2⟩, _⟩ := hf
  obtain ⟨a0, a1, a2, a3, rfl⟩ := len4 hl
  obtain ⟨b0, b1, b2, b3, rfl⟩ := len4 hl'
  have hp := hp.1
  have i0 := h1 a0 (by simp); have i1 := h1 a1 (by simp); have i2 := h1 a2 (by simp); have i3 := h1 a3 (by simp)
  have j0 := h2 b0 (by simp); have j1 := h2 b1 (by simp); have j2 := h2 b2 (by simp); have j3 := h2 b3 (by simp)
  refine ⟨[.i .u64 ⟨false, m.z⟩, .arr .u64 4 true [a0, a1, a2, a3], .arr .u64 4 true [b0, b1, b2, b3]], [], _, ⟨rfl, rfl, rfl, trivial⟩, Nat.le_of_ble_eq_true (by kernel_rfl), vc_noloops ?_⟩
  show vc69 m.z a0 a1 a2 a3 b0 b1 b2 b3 _ _
  rw [vc69_eq]
  intro x1 e1 r1 x2 e2 r2 x3 e3 r3 x4 e4 r4 x5 e5 r5 x6 e6 r6 x7 e7 r7 x8 e8 r8 x9 e9 r9 x10 e10 r10 x11 e11 r11 x12 e12 r12
  show [x3, x6, x9, x12] = [chI m.z a0 b0, chI m.z a1 b1, chI m.z a2 b2, chI m.z a3 b3]
  rw [choose1 hp i0 j0 e1 e2 e3, choose1 hp i1 j1 e4 e5 e6, choose1 hp i2 j2 e7 e8 e9, choose1 hp i3 j3 e10 e11 e12]
 ·cases hs
end Go.Gx.Sc
namespace Go.Sp.Sc
open Go.Gx Go.Gx.Sc
set_option linter.unusedVariables false
def ell : Int := 7237005577332262213973186563042994240857116359379907606001950938285454250989
def lowI (n : Int) : Int := if n < ell then n else n - ell
end Go.Sp.Sc
namespace Go.Gx.Sc
open Go.Proofs Go.Sp Go.Sp.Sc
set_option linter.unusedVariables false
def Γ2 : Tab := ⟨tys, [(56, pureCtr chooseS), (54, pureCtr plusS), (53, pureCtr minusS), (51, pureCtr mul64S), (52, c84), (65, c88)], [1], gh⟩
theorem Γ2_ok : TabOk Tryd.prog Γ2 := ((((((Γ0_ok.cons c88_ok).cons c84_ok).cons mul64_ok).cons minus_ok).cons plus_ok).cons choose_ok)
theorem ell_lit : ell = 7237005577332262213973186563042994240857116359379907606001950938285454250989 := rfl
theorem words_val {a b c d : Int} (ha : InR .u64 a) (hb : InR .u64 b) (hc : InR .u64 c) (hd : InR .u64 d) : words4 (val4 [a, b, c, d]) = [a, b, c, d] := by
 simp only [InR] at ha hb hc hd
 simp only [words4, val4, w0, w1, w2, w3, List.cons.injEq, and_true]
 refine ⟨?_, ?_, ?_, ?_⟩ <;> omega
theorem mask_ok {x y : Int} (hx : x = 0 ∨ x = 1) (hy : y = IntKind.u64.wrap (0 - x)) : (x = 0 ∧ y = 0) ∨ (x = 1 ∧ y = 18446744073709551615) := by
 rw [wrap_u64] at hy
 omega
theorem ltI_bit (a b : Int) : ltI a b = 0 ∨ ltI a b = 1 := by unfold ltI; split <;> simp
def lowerS : List SV → Option (List Prop × SV)
 | [.arr .u64 4 _ l] => some ([], .arr .u64 4 true (words4 (lowI (val4 l))))
 | _ => none
def vc72 (a0 a1 a2 a3 : Int) (K : SV → Prop) (Q : Nat → List Pv → Prop) : Prop := fnVc Γ2 Tryd.f55 [] [.arr .u64 4 true [a0, a1, a2, a3]] gh K Q
theorem vc72_eq : ∀ (a0 a1 a2 a3 : Int) (K : SV → Prop) (Q : Nat → List Pv → Prop), vc72 a0 a1 a2 a3 K Q = ForI .u64 (w0 (val4 [a0, a1, a2, a3] - (7237005577332262213973186563042994240857116359379907606001950938285454250989 : Int))) fun x1 => ForI .u64 (w1 (val4 [a0, a1, a2, a3] - (7237005577332262213973186563042994240857116359379907606001950938285454250989 : Int))) fun x2 => ForI .u64 (w2 (val4 [a0, a1, a2, a3] - (7237005577332262213973186563042994240857116359379907606001950938285454250989 : Int))) fun x3 => ForI .u64 (w3 (val4 [a0, a1, a2, a3] - (7237005577332262213973186563042994240857116359379907606001950938285454250989 : Int))) fun x4 => ForI .u64 (ltI (val4 [a0, a1, a2, a3]) (7237005577332262213973186563042994240857116359379907606001950938285454250989 : Int)) fun x5 => ForI .u64 (IntKind.u64.wrap (0 - x5)) fun x6 => Need (x6 = 0 ∨ x6 = 18446744073709551615) ∧ ForI .u64 (chI x6 a0 x1) fun x7 => ForI .u64 (chI x6 a1 x2) fun x8 => ForI .u64 (chI x6 a2 x3) fun x9 => ForI .u64 (chI x6 a3 x4) fun x10 => K (SV.arr .u64 4 true [x7, x8, x9, x10]) := by
 intros
 kernel_rfl
theorem lower_ok : CallOk Tryd.prog gh 55 (pureCtr lowerS) := by
 refine call_pure (fn := Tryd.f55) Γ2_ok rfl (by kernel_rfl) (by kernel_rfl) (by kernel_rfl) lowerS fun args p y hs hp hf => ?_
 unfold lowerS at hs
 split at hs
 ·rename_i e1 l
  simp only [Option.some.injEq, Prod.mk.injEq] at hs
  obtain ⟨rfl, rfl⟩ := hs
  simp only [FactVs, FactV] at hf
  obtain ⟨⟨hl, h1⟩, _⟩ := hf
  obtain ⟨a0, a1, a2, a3, rfl⟩ := len4 hl
  have i0 := h1 a0 (by simp); have i1 := h1 a1 (by simp); have i2 := h1 a2 (by simp); have i3 := h1 a3 (by simp)
  refine ⟨[.arr .u64 4 true [a0, a1, a2, a3]], [], _, ⟨rfl, trivial⟩, Nat.le_of_ble_eq_true (by kernel_rfl), vc_noloops ?_⟩
  show vc72 a0 a1 a2 a3 _ _
  rw [vc72_eq]
  intro x1 e1 r1 x2 e2 r2 x3 e3 r3 x4 e4 r4 x5 e5 r5 x6 e6 r6
  have hL : (7237005577332262213973186563042994240857116359379907606001950938285454250989 : Int) = ell := rfl
  rw [hL] at e1 e2 e3 e4 e5
  have hm := mask_ok (by rw [e5]; exact ltI_bit _ _) e6
  refine ⟨by unfold Need; omega, fun x7 e7 r7 x8 e8 r8 x9 e9 r9 x10 e10 r10 => ?_⟩
  show [x7, x8, x9, x10] = words4 (lowI (val4 [a0, a1, a2, a3]))
  unfold ltI at e5
  rcases hm with ⟨h0, hm⟩ | ⟨h0, hm⟩
  ·have hge : ¬ val4 [a0, a1, a2, a3] < ell := by
    intro hlt
    rw [if_pos hlt] at e5; omega
   unfold lowI
   rw [if_neg hge]
   simp only [chI, hm, if_true] at e7 e8 e9 e10
   rw [e7, e8, e9, e10, e1, e2, e3, e4]; rfl
  ·have hlt : val4 [a0, a1, a2, a3] < ell := by
    rcases Int.lt_or_le (val4 [a0, a1, a2, a3]) ell with h | h
    ·exact h
    ·rw [if_neg (Int.not_lt.2 h)] at e5; omega
   unfold lowI
   rw [if_pos hlt, words_val i0 i1 i2 i3]
   have : ¬ (x6 = 0) := by omega
   simp only [chI, this, if_false] at e7 e8 e9 e10
   rw [e7, e8, e9, e10]
 ·cases hs
def Γ3 : Tab := ⟨tys, [(56, pureCtr chooseS), (54, pureCtr plusS), (55, pureCtr lowerS), (53, pureCtr minusS), (51, pureCtr mul64S), (52, c84), (65, c88)], [1], gh⟩
theorem Γ3_ok : TabOk Tryd.prog Γ3 := (((((((Γ0_ok.cons c88_ok).cons c84_ok).cons mul64_ok).cons minus_ok).cons lower_ok).cons plus_ok).cons choose_ok)
theorem val_of {n x y z t : Int} (h0 : x = w0 n) (h1 : y = w1 n) (h2 : z = w2 n) (h3 : t = w3 n) : val4 [x, y, z, t] = n % 115792089237316195423570985008687907853269984665640564039457584007913129639936 := by
 simp only [w0, w1, w2, w3] at h0 h1 h2 h3
 simp only [val4]
 omega
theorem shr60 (a : Int) : shrI .u64 a 60 = a / 1152921504606846976 := shrI_u64 a 60 (by omega)
theorem and60 {a : Int} (ha : InR .u64 a) : andI .u64 a 1152921504606846975 = a % 1152921504606846976 := and_mask 60 (by omega) ha
theorem val4_bd {a b c d : Int} (ha : InR .u64 a) (hb : InR .u64 b) (hc : InR .u64 c) (hd : InR .u64 d) : 0 ≤ val4 [a, b, c, d] ∧ val4 [a, b, c, d] < 115792089237316195423570985008687907853269984665640564039457584007913129639936 := by
 simp only [InR] at ha hb hc hd
 simp only [val4]
 omega
theorem mod_of {a r k : Int} (h : a = r + k * ell) (h0 : 0 ≤ r) (h1 : r < ell) : a % ell = r := by
 rw [h, Int.add_mul_emod_self_right, Int.emod_eq_of_lt h0 h1]
def leastS : List SV → Option (List Prop × SV)
 | [.arr .u64 4 _ l] => some ([], .arr .u64 4 true (words4 (val4 l % ell)))
 | _ => none
def vc46 (a0 a1 a2 a3 : Int) (K : SV → Prop) (Q : Nat → List Pv → Prop) : Prop := fnVc Γ3 Tryd.f35 [] [.arr .u64 4 true [a0, a1, a2, a3]] gh K Q
theorem vc46_eq : ∀ (a0 a1 a2 a3 : Int) (K : SV → Prop) (Q : Nat → List Pv → Prop), vc46 a0 a1 a2 a3 K Q = ((decide (a3 < 1152921504606846976) = true → K (SV.arr .u64 4 true [a0, a1, a2, a3])) ∧ (decide (a3 < 1152921504606846976) = false → ForI .u64 (shrI .u64 a3 (60 : Int)) fun x1 => ForI .u64 (andI .u64 a3 (1152921504606846975 : Int)) fun x2 => ForI .u64 (x1 * 6346243789798364141 / (18446744073709551616 : Int)) fun x3 => ForI .u64 (x1 * 6346243789798364141 % (18446744073709551616 : Int)) fun x4 => ForI .u64 (x1 * 1503914060200516822 / (18446744073709551616 : Int)) fun x5 => ForI .u64 (x1 * 1503914060200516822 % (18446744073709551616 : Int)) fun x6 => Need ((0 : Int) ≤ 1) ∧ ForI .u64 ((x6 + x3 + 0) % (18446744073709551616 : Int)) fun x7 => ForI .u64 ((x6 + x3 + 0) / (18446744073709551616 : Int)) fun x8 => ForI .u64 (IntKind.u64.wrap (x5 + x8)) fun x9 => ForI .u64 (w0 (val4 [a0, a1, a2, x2] - val4 [x4, x7, x9, (0 : Int)])) fun x10 => ForI .u64 (w1 (val4 [a0, a1, a2, x2] - val4 [x4, x7, x9, (0 : Int)])) fun x11 => ForI .u64 (w2 (val4 [a0, a1, a2, x2] - val4 [x4, x7, x9, (0 : Int)])) fun x12 => ForI .u64 (w3 (val4 [a0, a1, a2, x2] - val4 [x4, x7, x9, (0 : Int)])) fun x13 => ForI .u64 (ltI (val4 [a0, a1, a2, x2]) (val4 [x4, x7, x9, (0 : Int)])) fun x14 => ForI .u64 (w0 (val4 [x10, x11, x12, x13] + (7237005577332262213973186563042994240857116359379907606001950938285454250989 : Int))) fun x15 => ForI .u64 (w1 (val4 [x10, x11, x12, x13] + (7237005577332262213973186563042994240857116359379907606001950938285454250989 : Int))) fun x16 => ForI .u64 (w2 (val4 [x10, x11, x12, x13] + (7237005577332262213973186563042994240857116359379907606001950938285454250989 : Int))) fun x17 => ForI .u64 (w3 (val4 [x10, x11, x12, x13] + (7237005577332262213973186563042994240857116359379907606001950938285454250989 : Int))) fun x18 => ForI .u64 ((val4 [x10, x11, x12, x13] + (7237005577332262213973186563042994240857116359379907606001950938285454250989 : Int)) / 115792089237316195423570985008687907853269984665640564039457584007913129639936) fun x19 => ForI .u64 (IntKind.u64.wrap (0 - x14)) fun x20 => Need (x20 = 0 ∨ x20 = 18446744073709551615) ∧ ForI .u64 (chI x20 x15 x10) fun x21 => ForI .u64 (chI x20 x16 x11) fun x22 => ForI .u64 (chI x20 x17 x12) fun x23 => ForI .u64 (chI x20 x18 x13) fun x24 => ForI .u64 (w0 (lowI (val4 [x21, x22, x23, x24]))) fun x25 => ForI .u64 (w1 (lowI (val4 [x21, x22, x23, x24]))) fun x26 => ForI .u64 (w2 (lowI (val4 [x21, x22, x23, x24]))) fun x27 => ForI .u64 (w3 (lowI (val4 [x21, x22, x23, x24]))) fun x28 => K (SV.arr .u64 4 true [x25, x26, x27, x28]))) := by
 intros
 kernel_rfl
theorem least_law {a0 a1 a2 a3 x1 x2 x3 x4 x5 x6 x7 x8 x9 x10 x11 x12 x13 x14 x15 x16 x17 x18 x20 x21 x22 x23 x24 : Int} (i0 : InR .u64 a0) (i1 : InR .u64 a1) (i2 : InR .u64 a2) (i3 : InR .u64 a3) (e1 : x1 = a3 / 1152921504606846976) (e2 : x2 = a3 % 1152921504606846976)
  (e3 : x3 = x1 * 6346243789798364141 / 18446744073709551616) (e4 : x4 = x1 * 6346243789798364141 % 18446744073709551616) (e5 : x5 = x1 * 1503914060200516822 / 18446744073709551616) (e6 : x6 = x1 * 1503914060200516822 % 18446744073709551616)
  (e7 : x7 = (x6 + x3 + 0) % 18446744073709551616) (e8 : x8 = (x6 + x3 + 0) / 18446744073709551616) (e9 : x9 = (x5 + x8) % 18446744073709551616)
  (e10 : x10 = w0 (val4 [a0, a1, a2, x2] - val4 [x4, x7, x9, 0])) (e11 : x11 = w1 (val4 [a0, a1, a2, x2] - val4 [x4, x7, x9, 0])) (e12 : x12 = w2 (val4 [a0, a1, a2, x2] - val4 [x4, x7, x9, 0])) (e13 : x13 = w3 (val4 [a0, a1, a2, x2] - val4 [x4, x7, x9, 0]))
  (e14 : x14 = ltI (val4 [a0, a1, a2, x2]) (val4 [x4, x7, x9, 0]))
  (e15 : x15 = w0 (val4 [x10, x11, x12, x13] + ell)) (e16 : x16 = w1 (val4 [x10, x11, x12, x13] + ell)) (e17 : x17 = w2 (val4 [x10, x11, x12, x13] + ell)) (e18 : x18 = w3 (val4 [x10, x11, x12, x13] + ell))
  (hm : (x14 = 0 ∧ x20 = 0) ∨ (x14 = 1 ∧ x20 = 18446744073709551615)) (e21 : x21 = chI x20 x15 x10) (e22 : x22 = chI x20 x16 x11) (e23 : x23 = chI x20 x17 x12) (e24 : x24 = chI x20 x18 x13) :
  lowI (val4 [x21, x22, x23, x24]) = val4 [a0, a1, a2, a3] % ell := by
 have hT : val4 [x4, x7, x9, 0] = x1 * 27742317777372353535851937790883648493 := by
  simp only [val4]; simp only [InR] at i3; omega
 have hX : val4 [a0, a1, a2, a3] = val4 [a0, a1, a2, x2] + x1 * 7237005577332262213973186563042994240829374041602535252466099000494570602496 := by
  simp only [val4]; omega
 have hXb : 0 ≤ val4 [a0, a1, a2, x2] ∧ val4 [a0, a1, a2, x2] < 7237005577332262213973186563042994240829374041602535252466099000494570602496 := by
  simp only [val4]; simp only [InR] at i0 i1 i2 i3; omega
 have hn : 0 ≤ x1 ∧ x1 ≤ 15 := by simp only [InR] at i3; omega
 have hD := val_of e10 e11 e12 e13
 have hE := val_of e15 e16 e17 e18
 rw [hT] at hD e14
 rw [hX]
 clear e10 e11 e12 e13 e15 e16 e17 e18 hT hX e3 e4 e5 e6 e7 e8 e9 e1 e2
 generalize val4 [a0, a1, a2, x2] = X at *
 generalize hdv : val4 [x10, x11, x12, x13] = Dv at *
 rcases hm with ⟨h0, hm⟩ | ⟨h0, hm⟩
 ·simp only [chI, hm, if_true] at e21 e22 e23 e24
  rw [e21, e22, e23, e24, hdv]
  have hge : X - x1 * 27742317777372353535851937790883648493 ≥ 0 := by
   unfold ltI at e14; split at e14 <;> omega
  have hr : Dv = X - x1 * 27742317777372353535851937790883648493 := by omega
  have hlt : Dv < ell := by rw [ell_lit]; omega
  have hmod : (X + x1 * 7237005577332262213973186563042994240829374041602535252466099000494570602496) % ell = Dv := mod_of (k := x1) (by rw [ell_lit]; omega) (by omega) hlt
  rw [hmod]
  unfold lowI
  rw [if_pos hlt]
 ·have hne : ¬ (x20 = 0) := by omega
  simp only [chI, hne, if_false] at e21 e22 e23 e24
  rw [e21, e22, e23, e24, hE]
  have hge : X - x1 * 27742317777372353535851937790883648493 < 0 := by
   unfold ltI at e14; split at e14 <;> omega
  rw [ell_lit]
  have hr : (Dv + 7237005577332262213973186563042994240857116359379907606001950938285454250989) % 115792089237316195423570985008687907853269984665640564039457584007913129639936 = X - x1 * 27742317777372353535851937790883648493 + 7237005577332262213973186563042994240857116359379907606001950938285454250989 := by omega
  rw [hr, ← ell_lit]
  have hlt : X - x1 * 27742317777372353535851937790883648493 + ell < ell := by omega
  have hmod : (X + x1 * 7237005577332262213973186563042994240829374041602535252466099000494570602496) % ell = X - x1 * 27742317777372353535851937790883648493 + ell := mod_of (k := x1 - 1) (by rw [ell_lit]; omega) (by rw [ell_lit]; omega) hlt
  rw [hmod]
  unfold lowI
  rw [if_pos hlt]
theorem least_ok : CallOk Tryd.prog gh 35 (pureCtr leastS) := by
 refine call_pure (fn := Tryd.f35) Γ3_ok rfl (by kernel_rfl) (by kernel_rfl) (by kernel_rfl) leastS fun args p y hs hp hf => ?_
 unfold leastS at hs
 split at hs
 ·rename_i e1 l
  simp only [Option.some.injEq, Prod.mk.injEq] at hs
  obtain ⟨rfl, rfl⟩ := hs
  simp only [FactVs, FactV] at hf
  obtain ⟨⟨hl, h1⟩, _⟩ := hf
  obtain ⟨a0, a1, a2, a3, rfl⟩ := len4 hl
  have i0 := h1 a0 (by simp); have i1 := h1 a1 (by simp); have i2 := h1 a2 (by simp); have i3 := h1 a3 (by simp)
  refine ⟨[.arr .u64 4 true [a0, a1, a2, a3]], [], _, ⟨rfl, trivial⟩, Nat.le_of_ble_eq_true (by kernel_rfl), vc_noloops ?_⟩
  show vc46 a0 a1 a2 a3 _ _
  rw [vc46_eq]
  refine ⟨fun hlt => ?_, fun hge x1 e1 r1 x2 e2 r2 x3 e3 r3 x4 e4 r4 x5 e5 r5 x6 e6 r6 => ⟨by unfold Need; omega, fun x7 e7 r7 x8 e8 r8 x9 e9 r9 x10 e10 r10 x11 e11 r11 x12 e12 r12 x13 e13 r13 x14 e14 r14 x15 e15 r15 x16 e16 r16 x17 e17 r17 x18 e18 r18 x19 e19 r19 x20 e20 r20 => ?_⟩⟩
  ·have hlt := of_decide_eq_true hlt
   show [a0, a1, a2, a3] = words4 (val4 [a0, a1, a2, a3] % ell)
   have hb := val4_bd i0 i1 i2 i3
   rw [Int.emod_eq_of_lt hb.1, words_val i0 i1 i2 i3]
   rw [ell_lit]
   simp only [InR] at i0 i1 i2 i3
   simp only [val4]; omega
  ·rw [shr60] at e1
   rw [and60 i3] at e2
   rw [wrap_u64] at e9
   rw [← ell_lit] at e15 e16 e17 e18
   have hm := mask_ok (by rw [e14]; exact ltI_bit _ _) e20
   refine ⟨by unfold Need; omega, fun x21 e21 r21 x22 e22 r22 x23 e23 r23 x24 e24 r24 x25 e25 r25 x26 e26 r26 x27 e27 r27 x28 e28 r28 => ?_⟩
   show [x25, x26, x27, x28] = words4 (val4 [a0, a1, a2, a3] % ell)
   rw [← least_law i0 i1 i2 i3 e1 e2 e3 e4 e5 e6 e7 e8 e9 e10 e11 e12 e13 e14 e15 e16 e17 e18 hm e21 e22 e23 e24, e25, e26, e27, e28]
   rfl
 ·cases hs
def L76 : Loops := [(4, ⟨[.any, .any, .p 1000 0, .p 1001 0, .p 1002 0, .any, .p 1004 0, .i .u64 ⟨false, 0⟩, .i .i64 ⟨false, 0⟩] ++ reps .any 33,
 gh ++ [(1000, .segs false [.arr .u64 4 false []]), (1001, .segs false [.arr .u64 4 false []]), (1002, .segs false [.arr .u64 4 false []]), (1004, .segs false [.arr .u64 4 false []])], 1010⟩)]
def vc76 (a0 a1 a2 a3 b0 b1 b2 b3 : Int) (K : SV → Prop) (Q : Nat → List Pv → Prop) : Prop := fnVc Γ3 Tryd.f67 L76 [.arr .u64 4 true [a0, a1, a2, a3], .arr .u64 4 true [b0, b1, b2, b3]] gh K Q
theorem vc76_eq : ∀ (a0 a1 a2 a3 b0 b1 b2 b3 : Int) (K : SV → Prop) (Q : Nat → List Pv → Prop), vc76 a0 a1 a2 a3 b0 b1 b2 b3 K Q = (Same Tryd.f67 4 (itemsOf Tryd.f67 4) ∧ Q 4 [Pv.z 0, Pv.z 0, Pv.l [a0, a1, a2, a3], Pv.l [b0, b1, b2, b3], Pv.l [(0 : Int), (0 : Int), (0 : Int), (0 : Int)], Pv.l [(0 : Int), (0 : Int), (0 : Int), (0 : Int)]]) := by
 intros
 kernel_rfl
def lc76 (c i : Int) (a b r o : List Int) (K : SV → Prop) (Q : Nat → List Pv → Prop) : Prop := loopVc Γ3 Tryd.f67 L76 4 [.z c, .z i, .l a, .l b, .l r, .l o] K Q
theorem lc76_eq : ∀ (c i : Int) (a b r o : List Int) (K : SV → Prop) (Q : Nat → List Pv → Prop), lc76 c i a b r o K Q = ((decide (i < 4) = true → Need (0 ≤ i ∧ i < 4) ∧ Need (0 ≤ i ∧ i < 4) ∧ ForI .u64 (a.getD i.toNat 0) fun x1 => Need (0 ≤ i ∧ i < 4) ∧ Need (0 ≤ i ∧ i < 4) ∧ ForI .u64 (b.getD i.toNat 0) fun x2 => ForI .u64 (IntKind.u64.wrap (x1 - x2)) fun x3 => Need (0 ≤ i ∧ i < 4) ∧ Need (0 ≤ i ∧ i < 4) ∧ ForI .u64 (a.getD i.toNat 0) fun x4 => Need (0 ≤ i ∧ i < 4) ∧ Need (0 ≤ i ∧ i < 4) ∧ ForI .u64 (b.getD i.toNat 0) fun x5 => (decide (x4 < x5) = true → ForI .u64 (IntKind.u64.wrap (x3 - c)) fun x6 => (decide (x3 < c) = true → Need (0 ≤ i ∧ i < 4) ∧ Need (0 ≤ i ∧ i < 4) ∧ ForA .u64 4 (o.set i.toNat x6) fun x7 => ForI .i64 (IntKind.i64.wrap (i + 1)) fun x8 => Same Tryd.f67 4 (itemsOf Tryd.f67 4) ∧ Q 4 [Pv.z 1, Pv.z x8, Pv.l a, Pv.l b, Pv.l r, Pv.l x7]) ∧ (decide (x3 < c) = false → Need (0 ≤ i ∧ i < 4) ∧ Need (0 ≤ i ∧ i < 4) ∧ ForA .u64 4 (o.set i.toNat x6) fun x9 => ForI .i64 (IntKind.i64.wrap (i + 1)) fun x10 => Same Tryd.f67 4 (itemsOf Tryd.f67 4) ∧ Q 4 [Pv.z 1, Pv.z x10, Pv.l a, Pv.l b, Pv.l r, Pv.l x9])) ∧ (decide (x4 < x5) = false → ForI .u64 (IntKind.u64.wrap (x3 - c)) fun x11 => (decide (x3 < c) = true → Need (0 ≤ i ∧ i < 4) ∧ Need (0 ≤ i ∧ i < 4) ∧ ForA .u64 4 (o.set i.toNat x11) fun x12 => ForI .i64 (IntKind.i64.wrap (i + 1)) fun x13 => Same Tryd.f67 4 (itemsOf Tryd.f67 4) ∧ Q 4 [Pv.z 1, Pv.z x13, Pv.l a, Pv.l b, Pv.l r, Pv.l x12]) ∧ (decide (x3 < c) = false → Need (0 ≤ i ∧ i < 4) ∧ Need (0 ≤ i ∧ i < 4) ∧ ForA .u64 4 (o.set i.toNat x11) fun x14 => ForI .i64 (IntKind.i64.wrap (i + 1)) fun x15 => Same Tryd.f67 4 (itemsOf Tryd.f67 4) ∧ Q 4 [Pv.z 0, Pv.z x15, Pv.l a, Pv.l b, Pv.l r, Pv.l x14]))) ∧ (decide (i < 4) = false → K (SV.tup [SV.arr .u64 4 false o, SV.i .u64 { st := false, z := c }]))) := by
 intros
 kernel_rfl
theorem wrap_i64 {x : Int} (h : -9223372036854775808 ≤ x ∧ x < 9223372036854775808) : IntKind.i64.wrap x = x := wrap_of_InR h
theorem round76 {c i : Int} {a b r o : List Int} {K : SV → Prop} {Q : Nat → List Pv → Prop} (hi : 0 ≤ i ∧ i < 4) (hc : c = 0 ∨ c = 1)
  (h : ∀ c' o', (c' = 0 ∨ c' = 1) → InR .u64 o' → o' = a.getD i.toNat 0 - b.getD i.toNat 0 - c + c' * 18446744073709551616 → Q 4 [.z c', .z (i + 1), .l a, .l b, .l r, .l (o.set i.toNat o')]) : lc76 c i a b r o K Q := by
 rw [lc76_eq]
 have hw : IntKind.i64.wrap (i + 1) = i + 1 := wrap_i64 (by omega)
 refine ⟨fun _ => ⟨hi, hi, fun x1 e1 r1 => ⟨hi, hi, fun x2 e2 r2 x3 e3 r3 => ⟨hi, hi, fun x4 e4 r4 => ⟨hi, hi, fun x5 e5 r5 => ?_⟩⟩⟩⟩, fun hn => ?_⟩
 ·rw [wrap_u64] at e3
  rw [← e1] at e4
  rw [← e2] at e5
  subst e4 e5
  rw [← e1, ← e2] at h
  simp only [InR] at r1 r2
  refine ⟨fun hlt x6 e6 r6 => ?_, fun hge x6 e6 r6 => ?_⟩
  ·have hlt := of_decide_eq_true hlt
   rw [wrap_u64] at e6
   have key : x6 = x4 - x5 - c + 1 * 18446744073709551616 := by omega
   refine ⟨fun _ => ⟨hi, hi, fun y ey _ _ z ez _ => ⟨rfl, ?_⟩⟩, fun _ => ⟨hi, hi, fun y ey _ _ z ez _ => ⟨rfl, ?_⟩⟩⟩ <;>
    (rw [ez, hw, ey]; exact h 1 x6 (.inr rfl) r6 key)
  ·have hge := of_decide_eq_false hge
   rw [wrap_u64] at e6
   refine ⟨fun hb => ⟨hi, hi, fun y ey _ _ z ez _ => ⟨rfl, ?_⟩⟩, fun hb => ⟨hi, hi, fun y ey _ _ z ez _ => ⟨rfl, ?_⟩⟩⟩
   ·have hb := of_decide_eq_true hb
    rw [ez, hw, ey]; exact h 1 x6 (.inr rfl) r6 (by omega)
   ·have hb := of_decide_eq_false hb
    rw [ez, hw, ey]; exact h 0 x6 (.inl rfl) r6 (by omega)
 ·have hn := of_decide_eq_false hn
  omega
def inv76 (a0 a1 a2 a3 b0 b1 b2 b3 : Int) (key : Nat) (ps : List Pv) (m : Nat) : Prop :=
 key = 4 ∧ ∃ c i o0 o1 o2 o3, ps = [.z c, .z i, .l [a0, a1, a2, a3], .l [b0, b1, b2, b3], .l [0, 0, 0, 0], .l [o0, o1, o2, o3]] ∧ (m : Int) = 4 - i ∧ (c = 0 ∨ c = 1) ∧ InR .u64 o0 ∧ InR .u64 o1 ∧ InR .u64 o2 ∧ InR .u64 o3 ∧
  ((i = 0 ∧ c = 0) ∨ (i = 1 ∧ o0 = a0 - b0 + c * 18446744073709551616) ∨ (i = 2 ∧ o0 + 18446744073709551616 * o1 = a0 + 18446744073709551616 * a1 - (b0 + 18446744073709551616 * b1) + c * 340282366920938463463374607431768211456) ∨
   (i = 3 ∧ val4 [o0, o1, o2, 0] = val4 [a0, a1, a2, 0] - val4 [b0, b1, b2, 0] + c * 6277101735386680763835789423207666416102355444464034512896) ∨
   (i = 4 ∧ val4 [o0, o1, o2, o3] = val4 [a0, a1, a2, a3] - val4 [b0, b1, b2, b3] + c * 115792089237316195423570985008687907853269984665640564039457584007913129639936))
theorem refMinus_ok : CallOk Tryd.prog gh 67 (pureCtr minusS) := by
 refine call_pure (fn := Tryd.f67) Γ3_ok rfl (by kernel_rfl) (by kernel_rfl) (by kernel_rfl) minusS fun args p y hs hp hf => ?_
 unfold minusS at hs
 split at hs
 ·rename_i e1 l e2 l'
  simp only [Option.some.injEq, Prod.mk.injEq] at hs
  obtain ⟨rfl, rfl⟩ := hs
  simp only [FactVs, FactV] at hf
  obtain ⟨⟨hl, h1⟩, ⟨hl', h2⟩, _⟩ := hf
  obtain ⟨a0, a1, a2, a3, rfl⟩ := len4 hl
  obtain ⟨b0, b1, b2, b3, rfl⟩ := len4 hl'
  have i0 := h1 a0 (by simp); have i1 := h1 a1 (by simp); have i2 := h1 a2 (by simp); have i3 := h1 a3 (by simp)
  have j0 := h2 b0 (by simp); have j1 := h2 b1 (by simp); have j2 := h2 b2 (by simp); have j3 := h2 b3 (by simp)
  refine ⟨[.arr .u64 4 true [a0, a1, a2, a3], .arr .u64 4 true [b0, b1, b2, b3]], L76, inv76 a0 a1 a2 a3 b0 b1 b2 b3, ⟨rfl, rfl, trivial⟩, Nat.le_of_ble_eq_true (by kernel_rfl), ?_, ?_, ?_⟩
  ·intro k t ht g hg
   simp only [L76, List.mem_singleton, Prod.mk.injEq] at ht
   obtain ⟨rfl, rfl⟩ := ht
   simp only [Γ3, gh, keysOf, List.mem_singleton] at hg
   subst hg
   exact ⟨by omega, rfl⟩
  ·rintro key ps m ⟨rfl, c, i, o0, o1, o2, o3, rfl, hm, hc, r0, r1, r2, r3, hcase⟩
   show lc76 c i [a0, a1, a2, a3] [b0, b1, b2, b3] [0, 0, 0, 0] [o0, o1, o2, o3] _ _
   rcases hcase with ⟨rfl, rfl⟩ | ⟨rfl, hv⟩ | ⟨rfl, hv⟩ | ⟨rfl, hv⟩ | ⟨rfl, hv⟩
   ·refine round76 (by omega) hc fun c' o' hc' ho' ho => ⟨m - 1, by omega, rfl, c', 1, o', o1, o2, o3, rfl, by omega, hc', ho', r1, r2, r3, .inr (.inl ⟨rfl, ?_⟩)⟩
    have ho : o' = a0 - b0 - 0 + c' * 18446744073709551616 := ho
    omega
   ·refine round76 (by omega) hc fun c' o' hc' ho' ho => ⟨m - 1, by omega, rfl, c', 2, o0, o', o2, o3, rfl, by omega, hc', r0, ho', r2, r3, .inr (.inr (.inl ⟨rfl, ?_⟩))⟩
    have ho : o' = a1 - b1 - c + c' * 18446744073709551616 := ho
    omega
   ·refine round76 (by omega) hc fun c' o' hc' ho' ho => ⟨m - 1, by omega, rfl, c', 3, o0, o1, o', o3, rfl, by omega, hc', r0, r1, ho', r3, .inr (.inr (.inr (.inl ⟨rfl, ?_⟩)))⟩
    have ho : o' = a2 - b2 - c + c' * 18446744073709551616 := ho
    simp only [val4]
    omega
   ·refine round76 (by omega) hc fun c' o' hc' ho' ho => ⟨m - 1, by omega, rfl, c', 4, o0, o1, o2, o', rfl, by omega, hc', r0, r1, r2, ho', .inr (.inr (.inr (.inr ⟨rfl, ?_⟩)))⟩
    have ho : o' = a3 - b3 - c + c' * 18446744073709551616 := ho
    simp only [val4] at hv ⊢
    omega
   ·rw [lc76_eq]
    refine ⟨fun h => by simp at h, fun _ => ?_⟩
    have hb := val4_bd r0 r1 r2 r3
    have ha := val4_bd i0 i1 i2 i3
    have hb' := val4_bd j0 j1 j2 j3
    refine ⟨?_, ?_, trivial⟩
    ·show [o0, o1, o2, o3] = words4 (val4 [a0, a1, a2, a3] - val4 [b0, b1, b2, b3])
     rw [← words_val r0 r1 r2 r3, hv]
     simp only [words4, w0, w1, w2, w3, List.cons.injEq, and_true]
     refine ⟨?_, ?_, ?_, ?_⟩ <;> omega
    ·show c = ltI (val4 [a0, a1, a2, a3]) (val4 [b0, b1, b2, b3])
     unfold ltI
     split <;> omega
  ·show vc76 a0 a1 a2 a3 b0 b1 b2 b3 _ _
   rw [vc76_eq]
   exact ⟨rfl, 4, rfl, 0, 0, 0, 0, 0, 0, rfl, by omega, .inl rfl, inR_zero _, inR_zero _, inR_zero _, inR_zero _, .inl ⟨rfl, rfl⟩⟩
 ·cases hs
def L73 : Loops := [(4, ⟨[.any, .any, .p 1000 0, .p 1001 0, .p 1002 0, .any, .p 1004 0, .i .u64 ⟨false, 0⟩, .i .i64 ⟨false, 0⟩] ++ reps .any 31,
 gh ++ [(1000, .segs false [.arr .u64 4 false []]), (1001, .segs false [.arr .u64 4 false []]), (1002, .segs false [.arr .u64 4 false []]), (1004, .segs false [.arr .u64 4 false []])], 1010⟩)]
def vc73 (a0 a1 a2 a3 b0 b1 b2 b3 : Int) (K : SV → Prop) (Q : Nat → List Pv → Prop) : Prop := fnVc Γ3 Tryd.f68 L73 [.arr .u64 4 true [a0, a1, a2, a3], .arr .u64 4 true [b0, b1, b2, b3]] gh K Q
theorem vc73_eq : ∀ (a0 a1 a2 a3 b0 b1 b2 b3 : Int) (K : SV → Prop) (Q : Nat → List Pv → Prop), vc73 a0 a1 a2 a3 b0 b1 b2 b3 K Q = (Same Tryd.f68 4 (itemsOf Tryd.f68 4) ∧ Q 4 [Pv.z 0, Pv.z 0, Pv.l [a0, a1, a2, a3], Pv.l [b0, b1, b2, b3], Pv.l [(0 : Int), (0 : Int), (0 : Int), (0 : Int)], Pv.l [(0 : Int), (0 : Int), (0 : Int), (0 : Int)]]) := by
 intros
 kernel_rfl
def lc73 (c i : Int) (a b r o : List Int) (K : SV → Prop) (Q : Nat → List Pv → Prop) : Prop := loopVc Γ3 Tryd.f68 L73 4 [.z c, .z i, .l a, .l b, .l r, .l o] K Q
theorem lc73_eq : ∀ (c i : Int) (a b r o : List Int) (K : SV → Prop) (Q : Nat → List Pv → Prop), lc73 c i a b r o K Q = ((decide (i < 4) = true → Need (0 ≤ i ∧ i < 4) ∧ Need (0 ≤ i ∧ i < 4) ∧ ForI .u64 (a.getD i.toNat 0) fun x1 => Need (0 ≤ i ∧ i < 4) ∧ Need (0 ≤ i ∧ i < 4) ∧ ForI .u64 (b.getD i.toNat 0) fun x2 => ForI .u64 (IntKind.u64.wrap (x1 + x2)) fun x3 => Need (0 ≤ i ∧ i < 4) ∧ Need (0 ≤ i ∧ i < 4) ∧ ForI .u64 (a.getD i.toNat 0) fun x4 => (decide (x3 < x4) = true → ForI .u64 (IntKind.u64.wrap (x3 + c)) fun x5 => (decide (x5 < x3) = true → Need (0 ≤ i ∧ i < 4) ∧ Need (0 ≤ i ∧ i < 4) ∧ ForA .u64 4 (o.set i.toNat x5) fun x6 => ForI .i64 (IntKind.i64.wrap (i + 1)) fun x7 => Same Tryd.f68 4 (itemsOf Tryd.f68 4) ∧ Q 4 [Pv.z 1, Pv.z x7, Pv.l a, Pv.l b, Pv.l r, Pv.l x6]) ∧ (decide (x5 < x3) = false → Need (0 ≤ i ∧ i < 4) ∧ Need (0 ≤ i ∧ i < 4) ∧ ForA .u64 4 (o.set i.toNat x5) fun x8 => ForI .i64 (IntKind.i64.wrap (i + 1)) fun x9 => Same Tryd.f68 4 (itemsOf Tryd.f68 4) ∧ Q 4 [Pv.z 1, Pv.z x9, Pv.l a, Pv.l b, Pv.l r, Pv.l x8])) ∧ (decide (x3 < x4) = false → ForI .u64 (IntKind.u64.wrap (x3 + c)) fun x10 => (decide (x10 < x3) = true → Need (0 ≤ i ∧ i < 4) ∧ Need (0 ≤ i ∧ i < 4) ∧ ForA .u64 4 (o.set i.toNat x10) fun x11 => ForI .i64 (IntKind.i64.wrap (i + 1)) fun x12 => Same Tryd.f68 4 (itemsOf Tryd.f68 4) ∧ Q 4 [Pv.z 1, Pv.z x12, Pv.l a, Pv.l b, Pv.l r, Pv.l x11]) ∧ (decide (x10 < x3) = false → Need (0 ≤ i ∧ i < 4) ∧ Need (0 ≤ i ∧ i < 4) ∧ ForA .u64 4 (o.set i.toNat x10) fun x13 => ForI .i64 (IntKind.i64.wrap (i + 1)) fun x14 => Same Tryd.f68 4 (itemsOf Tryd.f68 4) ∧ Q 4 [Pv.z 0, Pv.z x14, Pv.l a, Pv.l b, Pv.l r, Pv.l x13]))) ∧ (decide (i < 4) = false → K (SV.tup [SV.arr .u64 4 false o, SV.i .u64 { st := false, z := c }]))) := by
 intros
 kernel_rfl
theorem round73 {c i : Int} {a b r o : List Int} {K : SV → Prop} {Q : Nat → List Pv → Prop} (hi : 0 ≤ i ∧ i < 4) (hc : c = 0 ∨ c = 1)
  (h : ∀ c' o', (c' = 0 ∨ c' = 1) → InR .u64 o' → o' = a.getD i.toNat 0 + b.getD i.toNat 0 + c - c' * 18446744073709551616 → Q 4 [.z c', .z (i + 1), .l a, .l b, .l r, .l (o.set i.toNat o')]) : lc73 c i a b r o K Q := by
 rw [lc73_eq]
 have hw : IntKind.i64.wrap (i + 1) = i + 1 := wrap_i64 (by omega)
 refine ⟨fun _ => ⟨hi, hi, fun x1 e1 r1 => ⟨hi, hi, fun x2 e2 r2 x3 e3 r3 => ⟨hi, hi, fun x4 e4 r4 => ?_⟩⟩⟩, fun hn => ?_⟩
 ·rw [wrap_u64] at e3
  rw [← e1] at e4
  subst e4
  rw [← e1, ← e2] at h
  simp only [InR] at r1 r2
  refine ⟨fun hlt x6 e6 r6 => ?_, fun hge x6 e6 r6 => ?_⟩
  ·have hlt := of_decide_eq_true hlt
   rw [wrap_u64] at e6
   have key : x6 = x4 + x2 + c - 1 * 18446744073709551616 := by omega
   refine ⟨fun _ => ⟨hi, hi, fun y ey _ _ z ez _ => ⟨rfl, ?_⟩⟩, fun _ => ⟨hi, hi, fun y ey _ _ z ez _ => ⟨rfl, ?_⟩⟩⟩ <;>
    (rw [ez, hw, ey]; exact h 1 x6 (.inr rfl) r6 key)
  ·have hge := of_decide_eq_false hge
   rw [wrap_u64] at e6
   refine ⟨fun hb => ⟨hi, hi, fun y ey _ _ z ez _ => ⟨rfl, ?_⟩⟩, fun hb => ⟨hi, hi, fun y ey _ _ z ez _ => ⟨rfl, ?_⟩⟩⟩
   ·have hb := of_decide_eq_true hb
    rw [ez, hw, ey]; exact h 1 x6 (.inr rfl) r6 (by omega)
   ·have hb := of_decide_eq_false hb
    rw [ez, hw, ey]; exact h 0 x6 (.inl rfl) r6 (by omega)
 ·have hn := of_decide_eq_false hn
  omega
def inv73 (a0 a1 a2 a3 b0 b1 b2 b3 : Int) (key : Nat) (ps : List Pv) (m : Nat) : Prop :=
 key = 4 ∧ ∃ c i o0 o1 o2 o3, ps = [.z c, .z i, .l [a0, a1, a2, a3], .l [b0, b1, b2, b3], .l [0, 0, 0, 0], .l [o0, o1, o2, o3]] ∧ (m : Int) = 4 - i ∧ (c = 0 ∨ c = 1) ∧ InR .u64 o0 ∧ InR .u64 o1 ∧ InR .u64 o2 ∧ InR .u64 o3 ∧
  ((i = 0 ∧ c = 0) ∨ (i = 1 ∧ o0 = a0 + b0 - c * 18446744073709551616) ∨ (i = 2 ∧ o0 + 18446744073709551616 * o1 = a0 + 18446744073709551616 * a1 + (b0 + 18446744073709551616 * b1) - c * 340282366920938463463374607431768211456) ∨
   (i = 3 ∧ val4 [o0, o1, o2, 0] = val4 [a0, a1, a2, 0] + val4 [b0, b1, b2, 0] - c * 6277101735386680763835789423207666416102355444464034512896) ∨
   (i = 4 ∧ val4 [o0, o1, o2, o3] = val4 [a0, a1, a2, a3] + val4 [b0, b1, b2, b3] - c * 115792089237316195423570985008687907853269984665640564039457584007913129639936))
theorem refPlus_ok : CallOk Tryd.prog gh 68 (pureCtr plusS) := by
 refine call_pure (fn := Tryd.f68) Γ3_ok rfl (by kernel_rfl) (by kernel_rfl) (by kernel_rfl) plusS fun args p y hs hp hf => ?_
 unfold plusS at hs
 split at hs
 ·rename_i e1 l e2 l'
  simp only [Option.some.injEq, Prod.mk.injEq] at hs
  obtain ⟨rfl, rfl⟩ := hs
  simp only [FactVs, FactV] at hf
  obtain ⟨⟨hl, h1⟩, ⟨hl', h2⟩, _⟩ := hf
  obtain ⟨a0, a1, a2, a3, rfl⟩ := len4 hl
  obtain ⟨b0, b1, b2, b3, rfl⟩ := len4 hl'
  have i0 := h1 a0 (by simp); have i1 := h1 a1 (by simp); have i2 := h1 a2 (by simp); have i3 := h1 a3 (by simp)
  have j0 := h2 b0 (by simp); have j1 := h2 b1 (by simp); have j2 := h2 b2 (by simp); have j3 := h2 b3 (by simp)
  refine ⟨[.arr .u64 4 true [a0, a1, a2, a3], .arr .u64 4 true [b0, b1, b2, b3]], L73, inv73 a0 a1 a2 a3 b0 b1 b2 b3, ⟨rfl, rfl, trivial⟩, Nat.le_of_ble_eq_true (by kernel_rfl), ?_, ?_, ?_⟩
  ·intro k t ht g hg
   simp only [L73, List.mem_singleton, Prod.mk.injEq] at ht
   obtain ⟨rfl, rfl⟩ := ht
   simp only [Γ3, gh, keysOf, List.mem_singleton] at hg
   subst hg
   exact ⟨by omega, rfl⟩
  ·rintro key ps m ⟨rfl, c, i, o0, o1, o2, o3, rfl, hm, hc, r0, r1, r2, r3, hcase⟩
   show lc73 c i [a0, a1, a2, a3] [b0, b1, b2, b3] [0, 0, 0, 0] [o0, o1, o2, o3] _ _
   rcases hcase with ⟨rfl, rfl⟩ | ⟨rfl, hv⟩ | ⟨rfl, hv⟩ | ⟨rfl, hv⟩ | ⟨rfl, hv⟩
   ·refine round73 (by omega) hc fun c' o' hc' ho' ho => ⟨m - 1, by omega, rfl, c', 1, o', o1, o2, o3, rfl, by omega, hc', ho', r1, r2, r3, .inr (.inl ⟨rfl, ?_⟩)⟩
    have ho : o' = a0 + b0 + 0 - c' * 18446744073709551616 := ho
    omega
   ·refine round73 (by omega) hc fun c' o' hc' ho' ho => ⟨m - 1, by omega, rfl, c', 2, o0, o', o2, o3, rfl, by omega, hc', r0, ho', r2, r3, .inr (.inr (.inl ⟨rfl, ?_⟩))⟩
    have ho : o' = a1 + b1 + c - c' * 18446744073709551616 := ho
    omega
   ·refine round73 (by omega) hc fun c' o' hc' ho' ho => ⟨m - 1, by omega, rfl, c', 3, o0, o1, o', o3, rfl, by omega, hc', r0, r1, ho', r3, .inr (.inr (.inr (.inl ⟨rfl, ?_⟩)))⟩
    have ho : o' = a2 + b2 + c - c' * 18446744073709551616 := ho
    simp only [val4]
    omega
   ·refine round73 (by omega) hc fun c' o' hc' ho' ho => ⟨m - 1, by omega, rfl, c', 4, o0, o1, o2, o', rfl, by omega, hc', r0, r1, r2, ho', .inr (.inr (.inr (.inr ⟨rfl, ?_⟩)))⟩
    have ho : o' = a3 + b3 + c - c' * 18446744073709551616 := ho
    simp only [val4] at hv ⊢
    omega
   ·rw [lc73_eq]
    refine ⟨fun h => by simp at h, fun _ => ?_⟩
    have hb := val4_bd r0 r1 r2 r3
    have ha := val4_bd i0 i1 i2 i3
    have hb' := val4_bd j0 j1 j2 j3
    refine ⟨?_, ?_, trivial⟩
    ·show [o0, o1, o2, o3] = words4 (val4 [a0, a1, a2, a3] + val4 [b0, b1, b2, b3])
     rw [← words_val r0 r1 r2 r3, hv]
     simp only [words4, w0, w1, w2, w3, List.cons.injEq, and_true]
     refine ⟨?_, ?_, ?_, ?_⟩ <;> omega
    ·show c = (val4 [a0, a1, a2, a3] + val4 [b0, b1, b2, b3]) / 115792089237316195423570985008687907853269984665640564039457584007913129639936
     omega
  ·show vc73 a0 a1 a2 a3 b0 b1 b2 b3 _ _
   rw [vc73_eq]
   exact ⟨rfl, 4, rfl, 0, 0, 0, 0, 0, 0, rfl, by omega, .inl rfl, inR_zero _, inR_zero _, inR_zero _, inR_zero _, .inl ⟨rfl, rfl⟩⟩
 ·cases hs
def ellS : List SV → Option (List Prop × SV)
 | [] => some ([], .arr .u64 4 true [6346243789798364141, 1503914060200516822, 0, 1152921504606846976])
 | _ => none
def vc75 (K : SV → Prop) (Q : Nat → List Pv → Prop) : Prop := fnVc Γ3 Tryd.f66 [] [] gh K Q
theorem vc75_eq : ∀ (K : SV → Prop) (Q : Nat → List Pv → Prop), vc75 K Q = K (SV.arr .u64 4 true [(6346243789798364141 : Int), (1503914060200516822 : Int), (0 : Int), (1152921504606846976 : Int)]) := by
 intros
 kernel_rfl
theorem ell_ok : CallOk Tryd.prog gh 66 (pureCtr ellS) := by
 refine call_pure (fn := Tryd.f66) Γ3_ok rfl (by kernel_rfl) (by kernel_rfl) (by kernel_rfl) ellS fun args p y hs hp hf => ?_
 unfold ellS at hs
 split at hs
 ·simp only [Option.some.injEq, Prod.mk.injEq] at hs
  obtain ⟨rfl, rfl⟩ := hs
  refine ⟨[], [], _, trivial, Nat.zero_le _, vc_noloops ?_⟩
  show vc75 _ _
  rw [vc75_eq]
  rfl
 ·cases hs
def belowS : List SV → Option (List Prop × SV)
 | [.arr .u64 4 _ l, .arr .u64 4 _ l'] => some ([], .b false (decide (val4 l < val4 l')))
 | _ => none
def vc74 (a0 a1 a2 a3 b0 b1 b2 b3 : Int) (K : SV → Prop) (Q : Nat → List Pv → Prop) : Prop := fnVc Γ3 Tryd.f69 [] [.arr .u64 4 true [a0, a1, a2, a3], .arr .u64 4 true [b0, b1, b2, b3]] gh K Q
theorem vc74_eq : ∀ (a0 a1 a2 a3 b0 b1 b2 b3 : Int) (K : SV → Prop) (Q : Nat → List Pv → Prop), vc74 a0 a1 a2 a3 b0 b1 b2 b3 K Q = (((a3 != b3) = true → K (SV.b false (decide (a3 < b3)))) ∧ ((a3 != b3) = false → ((a2 != b2) = true → K (SV.b false (decide (a2 < b2)))) ∧ ((a2 != b2) = false → ((a1 != b1) = true → K (SV.b false (decide (a1 < b1)))) ∧ ((a1 != b1) = false → ((a0 != b0) = true → K (SV.b false (decide (a0 < b0)))) ∧ ((a0 != b0) = false → K (SV.b true false)))))) := by
 intros
 kernel_rfl
theorem below_ok : CallOk Tryd.prog gh 69 (pureCtr belowS) := by
 refine call_pure (fn := Tryd.f69) Γ3_ok rfl (by kernel_rfl) (by kernel_rfl) (by kernel_rfl) belowS fun args p y hs hp hf => ?_
 unfold belowS at hs
 split at hs
 ·rename_i e1 l e2 l'
  simp only [Option.some.injEq, Prod.mk.injEq] at hs
  obtain ⟨rfl, rfl⟩ := hs
  simp only [FactVs, FactV] at hf
  obtain ⟨⟨hl, h1⟩, ⟨hl', h2⟩, _⟩ := hf
  obtain ⟨a0, a1, a2, a3, rfl⟩ := len4 hl
  obtain ⟨b0, b1, b2, b3, rfl⟩ := len4 hl'
  have i0 := h1 a0 (by simp); have i1 := h1 a1 (by simp); have i2 := h1 a2 (by simp); have i3 := h1 a3 (by simp)
  have j0 := h2 b0 (by simp); have j1 := h2 b1 (by simp); have j2 := h2 b2 (by simp); have j3 := h2 b3 (by simp)
  simp only [InR] at i0 i1 i2 i3 j0 j1 j2 j3
  refine ⟨[.arr .u64 4 true [a0, a1, a2, a3], .arr .u64 4 true [b0, b1, b2, b3]], [], _, ⟨rfl, rfl, trivial⟩, Nat.le_of_ble_eq_true (by kernel_rfl), vc_noloops ?_⟩
  show vc74 a0 a1 a2 a3 b0 b1 b2 b3 _ _
  rw [vc74_eq]
  have key : ∀ {x y : Int} {p : Prop} [Decidable p], (x < y ↔ p) → decide (x < y) = decide p := fun h => by simp [h]
  refine ⟨fun h3 => ?_, fun h3 => ⟨fun h2 => ?_, fun h2 => ⟨fun h1 => ?_, fun h1 => ⟨fun h0 => ?_, fun h0 => ?_⟩⟩⟩⟩
  ·have h3 : a3 ≠ b3 := by simpa using h3
   exact key (by simp only [val4]; omega)
  ·have h3 : a3 = b3 := by simpa using h3
   have h2 : a2 ≠ b2 := by simpa using h2
   exact key (by simp only [val4]; omega)
  ·have h3 : a3 = b3 := by simpa using h3
   have h2 : a2 = b2 := by simpa using h2
   have h1 : a1 ≠ b1 := by simpa using h1
   exact key (by simp only [val4]; omega)
  ·have h3 : a3 = b3 := by simpa using h3
   have h2 : a2 = b2 := by simpa using h2
   have h1 : a1 = b1 := by simpa using h1
   have h0 : a0 ≠ b0 := by simpa using h0
   exact key (by simp only [val4]; omega)
  ·have h3 : a3 = b3 := by simpa using h3
   have h2 : a2 = b2 := by simpa using h2
   have h1 : a1 = b1 := by simpa using h1
   have h0 : a0 = b0 := by simpa using h0
   show false = decide _
   rw [h0, h1, h2, h3]; simp
 ·cases hs
def Γ4 : Tab := ⟨tys, [(35, pureCtr leastS), (56, pureCtr chooseS), (54, pureCtr plusS), (55, pureCtr lowerS), (68, pureCtr plusS), (69, pureCtr belowS), (66, pureCtr ellS), (67, pureCtr minusS), (53, pureCtr minusS), (51, pureCtr mul64S), (52, c84), (65, c88)], [1], gh⟩
theorem Γ4_ok : TabOk Tryd.prog Γ4 := ((((((((((((Γ0_ok.cons c88_ok).cons c84_ok).cons mul64_ok).cons minus_ok).cons refMinus_ok).cons ell_ok).cons below_ok).cons refPlus_ok).cons lower_ok).cons plus_ok).cons choose_ok).cons least_ok)
theorem shlI_u64 (a : Int) (k : Nat) (hk : k ≤ 64) : shlI .u64 a (k : Int) = a * ((2 ^ k : Nat) : Int) % 18446744073709551616 := by
 unfold shlI
 have : min ((k : Int).toNat) IntKind.u64.bits = k := by simp [IntKind.bits]; omega
 rw [this, wrap_u64]
 simp
theorem shl16 (a : Int) : shlI .u64 a 16 = a * 65536 % 18446744073709551616 := shlI_u64 a 16 (by omega)
theorem shl32 (a : Int) : shlI .u64 a 32 = a * 4294967296 % 18446744073709551616 := shlI_u64 a 32 (by omega)
theorem shr44 (a : Int) : shrI .u64 a 44 = a / 17592186044416 := shrI_u64 a 44 (by omega)
theorem shr48 (a : Int) : shrI .u64 a 48 = a / 281474976710656 := shrI_u64 a 48 (by omega)
theorem or_add (k : Nat) {x y z : Int} (hx : InR .u64 x) (hy : InR .u64 y) (hd : x = z * ((2 ^ k : Nat) : Int)) (hlt : y < ((2 ^ k : Nat) : Int)) : orI .u64 x y = x + y := by
 rw [orI_u64 hx hy]
 simp only [InR] at hx hy
 have hpos : 0 < 2 ^ k := Nat.two_pow_pos k
 have hz : 0 ≤ z := by
  rcases Int.lt_or_le z 0 with h | h
  ·have h2 : z * ((2 ^ k : Nat) : Int) < 0 := Int.mul_neg_of_neg_of_pos h (by omega)
   omega
  ·exact h
 obtain ⟨n, rfl⟩ := Int.eq_ofNat_of_zero_le hz
 have e : x.toNat = 2 ^ k * n := by
  rw [hd, ← Int.natCast_mul, Int.toNat_natCast, Nat.mul_comm]
 have hl : y.toNat < 2 ^ k := by omega
 rw [e, ← Nat.two_pow_add_eq_or_of_lt hl, ← e]
 omega
theorem or16 {x y z : Int} (hx : InR .u64 x) (hy : InR .u64 y) (hd : x = z * 65536) (hlt : y < 65536) : orI .u64 x y = x + y := or_add 16 hx hy hd hlt
theorem or32 {x y z : Int} (hx : InR .u64 x) (hy : InR .u64 y) (hd : x = z * 4294967296) (hlt : y < 4294967296) : orI .u64 x y = x + y := or_add 32 hx hy hd hlt
def stepS : List SV → Option (List Prop × SV)
 | [.arr .u64 4 _ l, .i .u64 y] => some ([val4 l < ell, y.z < 65536], .arr .u64 4 true (words4 ((val4 l * 65536 + y.z) % ell)))
 | _ => none
def vc80 (a0 a1 a2 a3 y : Int) (K : SV → Prop) (Q : Nat → List Pv → Prop) : Prop := fnVc Γ4 Tryd.f57 [] [.arr .u64 4 true [a0, a1, a2, a3], .i .u64 ⟨false, y⟩] gh K Q
theorem vc80_eq : ∀ (a0 a1 a2 a3 y : Int) (K : SV → Prop) (Q : Nat → List Pv → Prop), vc80 a0 a1 a2 a3 y K Q = ForI .u64 (shrI .u64 a3 (44 : Int)) fun x1 => ForI .u64 (shlI .u64 a0 (16 : Int)) fun x2 => ForI .u64 (orI .u64 x2 y) fun x3 => ForI .u64 (shlI .u64 a1 (16 : Int)) fun x4 => ForI .u64 (shrI .u64 a0 (48 : Int)) fun x5 => ForI .u64 (orI .u64 x4 x5) fun x6 => ForI .u64 (shlI .u64 a2 (16 : Int)) fun x7 => ForI .u64 (shrI .u64 a1 (48 : Int)) fun x8 => ForI .u64 (orI .u64 x7 x8) fun x9 => ForI .u64 (shlI .u64 a3 (16 : Int)) fun x10 => ForI .u64 (shrI .u64 a2 (48 : Int)) fun x11 => ForI .u64 (orI .u64 x10 x11) fun x12 => ForI .u64 (andI .u64 x12 1152921504606846975) fun x13 => ForI .u64 (6346243789798364141 : Int) fun x14 => ForI .u64 (1503914060200516822 : Int) fun x15 => ForI .u64 (0 : Int) fun x16 => ForI .u64 (1152921504606846976 : Int) fun x17 => ForI .u64 (andI .u64 x14 4294967295) fun x18 => ForI .u64 (shrI .u64 x14 32) fun x19 => ForI .u64 (andI .u64 x15 4294967295) fun x20 => ForI .u64 (shrI .u64 x15 32) fun x21 => ForI .u64 (IntKind.u64.wrap (x18 * x1)) fun x22 => ForI .u64 (IntKind.u64.wrap (x22 + 0)) fun x23 => ForI .u64 (andI .u64 x23 4294967295) fun x24 => ForI .u64 (shrI .u64 x23 32) fun x25 => ForI .u64 (IntKind.u64.wrap (x19 * x1)) fun x26 => ForI .u64 (IntKind.u64.wrap (x26 + x25)) fun x27 => ForI .u64 (andI .u64 x27 4294967295) fun x28 => ForI .u64 (shrI .u64 x27 32) fun x29 => ForI .u64 (IntKind.u64.wrap (x20 * x1)) fun x30 => ForI .u64 (IntKind.u64.wrap (x30 + x29)) fun x31 => ForI .u64 (andI .u64 x31 4294967295) fun x32 => ForI .u64 (shrI .u64 x31 32) fun x33 => ForI .u64 (IntKind.u64.wrap (x21 * x1)) fun x34 => ForI .u64 (IntKind.u64.wrap (x34 + x33)) fun x35 => ForI .u64 (andI .u64 x35 4294967295) fun x36 => ForI .u64 (shrI .u64 x35 32) fun x37 => ForI .u64 (shlI .u64 x28 32) fun x38 => ForI .u64 (orI .u64 x24 x38) fun x39 => ForI .u64 (shlI .u64 x36 32) fun x40 => ForI .u64 (orI .u64 x32 x40) fun x41 => ForI .u64 (w0 (val4 [x3, x6, x9, x13] - val4 [x39, x41, x37, (0 : Int)])) fun x42 => ForI .u64 (w1 (val4 [x3, x6, x9, x13] - val4 [x39, x41, x37, (0 : Int)])) fun x43 => ForI .u64 (w2 (val4 [x3, x6, x9, x13] - val4 [x39, x41, x37, (0 : Int)])) fun x44 => ForI .u64 (w3 (val4 [x3, x6, x9, x13] - val4 [x39, x41, x37, (0 : Int)])) fun x45 => ForI .u64 (ltI (val4 [x3, x6, x9, x13]) (val4 [x39, x41, x37, (0 : Int)])) fun x46 => ((x46 == 1) = true → ForI .u64 (w0 (val4 [x42, x43, x44, x45] + val4 [x14, x15, x16, x17])) fun x47 => ForI .u64 (w1 (val4 [x42, x43, x44, x45] + val4 [x14, x15, x16, x17])) fun x48 => ForI .u64 (w2 (val4 [x42, x43, x44, x45] + val4 [x14, x15, x16, x17])) fun x49 => ForI .u64 (w3 (val4 [x42, x43, x44, x45] + val4 [x14, x15, x16, x17])) fun x50 => ForI .u64 ((val4 [x42, x43, x44, x45] + val4 [x14, x15, x16, x17]) / (115792089237316195423570985008687907853269984665640564039457584007913129639936 : Int)) fun x51 => ∀ (x52 : Bool), x52 = decide (val4 [x47, x48, x49, x50] < val4 [x14, x15, x16, x17]) → ((!x52) = true → ForI .u64 (w0 (val4 [x47, x48, x49, x50] - val4 [x14, x15, x16, x17])) fun x53 => ForI .u64 (w1 (val4 [x47, x48, x49, x50] - val4 [x14, x15, x16, x17])) fun x54 => ForI .u64 (w2 (val4 [x47, x48, x49, x50] - val4 [x14, x15, x16, x17])) fun x55 => ForI .u64 (w3 (val4 [x47, x48, x49, x50] - val4 [x14, x15, x16, x17])) fun x56 => ForI .u64 (ltI (val4 [x47, x48, x49, x50]) (val4 [x14, x15, x16, x17])) fun x57 => K (SV.arr .u64 4 true [x53, x54, x55, x56])) ∧ ((!x52) = false → K (SV.arr .u64 4 true [x47, x48, x49, x50]))) ∧ ((x46 == 1) = false → ∀ (x58 : Bool), x58 = decide (val4 [x42, x43, x44, x45] < val4 [x14, x15, x16, x17]) → ((!x58) = true → ForI .u64 (w0 (val4 [x42, x43, x44, x45] - val4 [x14, x15, x16, x17])) fun x59 => ForI .u64 (w1 (val4 [x42, x43, x44, x45] - val4 [x14, x15, x16, x17])) fun x60 => ForI .u64 (w2 (val4 [x42, x43, x44, x45] - val4 [x14, x15, x16, x17])) fun x61 => ForI .u64 (w3 (val4 [x42, x43, x44, x45] - val4 [x14, x15, x16, x17])) fun x62 => ForI .u64 (ltI (val4 [x42, x43, x44, x45]) (val4 [x14, x15, x16, x17])) fun x63 => K (SV.arr .u64 4 true [x59, x60, x61, x62])) ∧ ((!x58) = false → K (SV.arr .u64 4 true [x42, x43, x44, x45]))) := by
 intros
 kernel_rfl
theorem mulc_law {n x22 x23 x24 x25 x26 x27 x28 x29 x30 x31 x32 x33 x34 x35 x36 x37 : Int} (hn : 0 ≤ n ∧ n ≤ 65536) (e22 : x22 = 1559614445 * n % 18446744073709551616) (e23 : x23 = (x22 + 0) % 18446744073709551616) (e24 : x24 = x23 % 4294967296) (e25 : x25 = x23 / 4294967296)
  (e26 : x26 = 1477600026 * n % 18446744073709551616) (e27 : x27 = (x26 + x25) % 18446744073709551616) (e28 : x28 = x27 % 4294967296) (e29 : x29 = x27 / 4294967296)
  (e30 : x30 = 2734136534 * n % 18446744073709551616) (e31 : x31 = (x30 + x29) % 18446744073709551616) (e32 : x32 = x31 % 4294967296) (e33 : x33 = x31 / 4294967296)
  (e34 : x34 = 350157278 * n % 18446744073709551616) (e35 : x35 = (x34 + x33) % 18446744073709551616) (e36 : x36 = x35 % 4294967296) (e37 : x37 = x35 / 4294967296) :
  x24 + 4294967296 * x28 + 18446744073709551616 * x32 + 79228162514264337593543950336 * x36 + 340282366920938463463374607431768211456 * x37 = n * 27742317777372353535851937790883648493 := by
 have h1 : x24 + 4294967296 * x25 = 1559614445 * n := by omega
 have b1 : 0 ≤ x25 ∧ x25 ≤ 65536 := by omega
 have h2 : x28 + 4294967296 * x29 = 1477600026 * n + x25 := by clear e22 e23 e24 e25 h1; omega
 have b2 : 0 ≤ x29 ∧ x29 ≤ 65536 := by clear e22 e23 e24 e25 h1 e26 e27; omega
 have h3 : x32 + 4294967296 * x33 = 2734136534 * n + x29 := by clear e22 e23 e24 e25 h1 e26 e27 e28 e29 h2; omega
 have b3 : 0 ≤ x33 ∧ x33 ≤ 65536 := by clear e22 e23 e24 e25 h1 e26 e27 e28 e29 h2 e30 e31; omega
 have h4 : x36 + 4294967296 * x37 = 350157278 * n + x33 := by clear e22 e23 e24 e25 h1 e26 e27 e28 e29 h2 e30 e31 e32 e33 h3; omega
 clear e22 e23 e24 e25 e26 e27 e28 e29 e30 e31 e32 e33 e34 e35 e36 e37
 omega
theorem step_ok : CallOk Tryd.prog gh 57 (pureCtr stepS) := by
 refine call_pure (fn := Tryd.f57) Γ4_ok rfl (by kernel_rfl) (by kernel_rfl) (by kernel_rfl) stepS fun args p y hs hp hf => ?_
 unfold stepS at hs
 split at hs
 ·rename_i e1 l y
  simp only [Option.some.injEq, Prod.mk.injEq] at hs
  obtain ⟨rfl, rfl⟩ := hs
  simp only [FactVs, FactV] at hf
  obtain ⟨⟨hl, h1⟩, hy, _⟩ := hf
  obtain ⟨a0, a1, a2, a3, rfl⟩ := len4 hl
  obtain ⟨y, hyz⟩ : ∃ z, z = y.z := ⟨_, rfl⟩
  have i0 := h1 a0 (by simp); have i1 := h1 a1 (by simp); have i2 := h1 a2 (by simp); have i3 := h1 a3 (by simp)
  obtain ⟨hA, hyl, _⟩ := hp
  rw [← hyz] at hy hyl ⊢
  refine ⟨[.arr .u64 4 true [a0, a1, a2, a3], .i .u64 ⟨false, y⟩], [], _, ⟨rfl, hyz.symm, trivial⟩, Nat.le_of_ble_eq_true (by kernel_rfl), vc_noloops ?_⟩
  show vc80 a0 a1 a2 a3 y _ _
  rw [vc80_eq]
  intro x1 e1 r1 x2 e2 r2 x3 e3 r3 x4 e4 r4 x5 e5 r5 x6 e6 r6 x7 e7 r7 x8 e8 r8 x9 e9 r9 x10 e10 r10 x11 e11 r11 x12 e12 r12 x13 e13 r13 x14 e14 r14 x15 e15 r15 x16 e16 r16 x17 e17 r17 x18 e18 r18 x19 e19 r19 x20 e20 r20 x21 e21 r21 x22 e22 r22 x23 e23 r23 x24 e24 r24 x25 e25 r25 x26 e26 r26 x27 e27 r27 x28 e28 r28 x29 e29 r29 x30 e30 r30 x31 e31 r31 x32 e32 r32 x33 e33 r33 x34 e34 r34 x35 e35 r35 x36 e36 r36 x37 e37 r37 x38 e38 r38 x39 e39 r39 x40 e40 r40 x41 e41 r41 x42 e42 r42 x43 e43 r43 x44 e44 r44 x45 e45 r45 x46 e46 r46
  have b0 := i0; have b1 := i1; have b2 := i2; have b3 := i3; have by_ := hy
  simp only [InR] at b0 b1 b2 b3 by_
  rw [ell_lit] at hA
  simp only [val4] at hA
  have hn : 0 ≤ x1 ∧ x1 ≤ 65536 := by rw [shr44] at e1; omega
  rw [shr44] at e1
  rw [shl16] at e2 e4 e7 e10
  rw [shr48] at e5 e8 e11
  have q3 : x3 = x2 + y := by rw [e3]; exact or16 (z := a0 % 281474976710656) r2 hy (by omega) hyl
  have q6 : x6 = x4 + x5 := by rw [e6]; exact or16 (z := a1 % 281474976710656) r4 r5 (by omega) (by omega)
  have q9 : x9 = x7 + x8 := by rw [e9]; exact or16 (z := a2 % 281474976710656) r7 r8 (by omega) (by omega)
  have q12 : x12 = x10 + x11 := by rw [e12]; exact or16 (z := a3 % 281474976710656) r10 r11 (by omega) (by omega)
  rw [and60 r12] at e13
  have hX : val4 [x3, x6, x9, x13] = (a0 + 18446744073709551616 * a1 + 340282366920938463463374607431768211456 * a2 + 6277101735386680763835789423207666416102355444464034512896 * a3) * 65536 + y - x1 * 7237005577332262213973186563042994240829374041602535252466099000494570602496 := by
   simp only [val4]; omega
  have hXb : 0 ≤ val4 [x3, x6, x9, x13] ∧ val4 [x3, x6, x9, x13] < 7237005577332262213973186563042994240829374041602535252466099000494570602496 := by
   simp only [InR] at r3 r6 r9 r13
   simp only [val4]; omega
  rw [and32 r14] at e18
  rw [shr32] at e19 e21 e25 e29 e33 e37
  rw [and32 r15] at e20
  rw [and32 r23] at e24
  rw [and32 r27] at e28
  rw [and32 r31] at e32
  rw [and32 r35] at e36
  rw [wrap_u64] at e22 e23 e26 e27 e30 e31 e34 e35
  rw [shl32] at e38 e40
  have k18 : x18 = 1559614445 := by omega
  have k19 : x19 = 1477600026 := by omega
  have k20 : x20 = 2734136534 := by omega
  have k21 : x21 = 350157278 := by omega
  rw [k18] at e22; rw [k19] at e26; rw [k20] at e30; rw [k21] at e34
  have q39 : x39 = x24 + x38 := by
   rw [e39]
   have := r24; have := r38
   simp only [InR] at *
   rw [show orI .u64 x24 x38 = orI .u64 x38 x24 by rw [orI_u64 r24 r38, orI_u64 r38 r24, Nat.or_comm]]
   rw [or32 (z := x28) r38 r24 (by omega) (by omega)]; omega
  have q41 : x41 = x32 + x40 := by
   rw [e41]
   rw [show orI .u64 x32 x40 = orI .u64 x40 x32 by rw [orI_u64 r32 r40, orI_u64 r40 r32, Nat.or_comm]]
   rw [or32 (z := x36) r40 r32 (by omega) (by omega)]; omega
  have hT : val4 [x39, x41, x37, 0] = x1 * 27742317777372353535851937790883648493 := by
   rw [← mulc_law hn e22 e23 e24 e25 e26 e27 e28 e29 e30 e31 e32 e33 e34 e35 e36 e37]
   simp only [val4]
   have q38 : x38 = x28 * 4294967296 := by omega
   have q40 : x40 = x36 * 4294967296 := by omega
   rw [q39, q41, q38, q40]; omega
  rw [hT] at e42 e43 e44 e45 e46
  have hV : val4 [x14, x15, x16, x17] = ell := by rw [e14, e15, e16, e17]; rfl
  rw [hV]
  have hS : val4 [a0, a1, a2, a3] * 65536 + y = val4 [x3, x6, x9, x13] + x1 * 7237005577332262213973186563042994240829374041602535252466099000494570602496 := by
   rw [hX]; simp only [val4]; omega
  rw [hS]
  have hD := val_of e42 e43 e44 e45
  clear e1 e2 e3 e4 e5 e6 e7 e8 e9 e10 e11 e12 e13 e18 e19 e20 e21 e22 e23 e24 e25 e26 e27 e28 e29 e30 e31 e32 e33 e34 e35 e36 e37 e38 e39 e40 e41 q3 q6 q9 q12 q39 q41 hX hS hT hV
  generalize val4 [x3, x6, x9, x13] = X at *
  have hell := ell_lit
  have hDb := val4_bd r42 r43 r44 r45
  have hwD := words_val r42 r43 r44 r45
  refine ⟨fun h46 x47 f47 g47 x48 f48 g48 x49 f49 g49 x50 f50 g50 x51 f51 g51 x52 f52 => ?_, fun h46 x58 f58 => ?_⟩
  ·have h46 : x46 = 1 := by simpa using h46
   have hneg : X - x1 * 27742317777372353535851937790883648493 < 0 := by
    unfold ltI at e46; split at e46 <;> omega
   have hE := val_of f47 f48 f49 f50
   have hr : val4 [x47, x48, x49, x50] = X - x1 * 27742317777372353535851937790883648493 + ell := by
    rw [hE, hD, hell]; omega
   have hlt : val4 [x47, x48, x49, x50] < ell := by rw [hr]; omega
   have hmod : (X + x1 * 7237005577332262213973186563042994240829374041602535252466099000494570602496) % ell = val4 [x47, x48, x49, x50] := mod_of (k := x1 - 1) (by rw [hr, hell]; omega) (by rw [hr, hell]; omega) hlt
   rw [hmod]
   refine ⟨fun hn => ?_, fun _ => ?_⟩
   ·rw [f52, decide_eq_true hlt] at hn; cases hn
   ·show [x47, x48, x49, x50] = words4 (val4 [x47, x48, x49, x50])
    rw [words_val g47 g48 g49 g50]
  ·have h46 : ¬ x46 = 1 := by simpa using h46
   have hnn : 0 ≤ X - x1 * 27742317777372353535851937790883648493 := by
    unfold ltI at e46; split at e46 <;> omega
   have hr : val4 [x42, x43, x44, x45] = X - x1 * 27742317777372353535851937790883648493 := by
    rw [hD]; omega
   have hlt : val4 [x42, x43, x44, x45] < ell := by rw [hr, hell]; omega
   have hmod : (X + x1 * 7237005577332262213973186563042994240829374041602535252466099000494570602496) % ell = val4 [x42, x43, x44, x45] := mod_of (k := x1) (by rw [hr, hell]; omega) (by omega) hlt
   rw [hmod]
   refine ⟨fun hn => ?_, fun _ => ?_⟩
   ·rw [f58, decide_eq_true hlt] at hn; cases hn
   ·show [x42, x43, x44, x45] = words4 (val4 [x42, x43, x44, x45])
    rw [hwD]
 ·cases hs
end Go.Gx.Sc
namespace Go.Sp.Sc
open Go.Gx Go.Gx.Sc
set_option linter.unusedVariables false
def valW : List Int → Int
 | [] => 0
 | x :: r => x + 65536 * valW r
end Go.Sp.Sc
namespace Go.Gx.Sc
open Go.Proofs Go.Sp Go.Sp.Sc
set_option linter.unusedVariables false
def Γ5 : Tab := ⟨tys, [(35, pureCtr leastS), (56, pureCtr chooseS), (54, pureCtr plusS), (55, pureCtr lowerS), (68, pureCtr plusS), (69, pureCtr belowS), (66, pureCtr ellS), (67, pureCtr minusS), (53, pureCtr minusS), (57, pureCtr stepS), (51, pureCtr mul64S), (52, c84), (65, c88)], [1], gh⟩
theorem Γ5_ok : TabOk Tryd.prog Γ5 := (((((((((((((Γ0_ok.cons c88_ok).cons c84_ok).cons mul64_ok).cons step_ok).cons minus_ok).cons refMinus_ok).cons ell_ok).cons below_ok).cons refPlus_ok).cons lower_ok).cons plus_ok).cons choose_ok).cons least_ok)
def L87 : Loops := [(3, ⟨[.sl 500 0 1 ⟨true, 0⟩ ⟨false, 0⟩, .any, .p 1000 0, .p 1001 0, .i .i64 ⟨false, 0⟩] ++ reps .any 14,
 gh ++ [(500, .segs true [.rowI .u64 []]), (1000, .segs false [.arr .u64 4 false []]), (1001, .segs false [.arr .u64 4 false []])], 1010⟩)]
def vc87 (l : List Int) (K : SV → Prop) (Q : Nat → List Pv → Prop) : Prop := fnVc Γ5 Tryd.f37 L87 [.sl 500 0 1 ⟨true, 0⟩ ⟨false, (l.length : Int)⟩] (gh ++ [(500, .segs true [.rowI .u64 l])]) K Q
theorem vc87_eq : ∀ (l : List Int) (K : SV → Prop) (Q : Nat → List Pv → Prop), vc87 l K Q = ForI .i64 (IntKind.i64.wrap (↑l.length - (1 : Int))) fun x1 => Same Tryd.f37 3 (itemsOf Tryd.f37 3) ∧ Q 3 [Pv.z ↑l.length, Pv.z x1, Pv.l l, Pv.l [(0 : Int), (0 : Int), (0 : Int), (0 : Int)], Pv.l [(0 : Int), (0 : Int), (0 : Int), (0 : Int)]] := by
 intros
 kernel_rfl
def lc87 (n i : Int) (l r o : List Int) (K : SV → Prop) (Q : Nat → List Pv → Prop) : Prop := loopVc Γ5 Tryd.f37 L87 3 [.z n, .z i, .l l, .l r, .l o] K Q
theorem lc87_eq : ∀ (n i : Int) (l r o : List Int) (K : SV → Prop) (Q : Nat → List Pv → Prop), lc87 n i l r o K Q = ((decide (i ≥ 0) = true → Need (0 ≤ i ∧ i < n) ∧ Need (0 ≤ i ∧ i < ↑l.length) ∧ ForI .u64 (l.getD i.toNat 0) fun x1 => Need (val4 o < 7237005577332262213973186563042994240857116359379907606001950938285454250989) ∧ Need (x1 < 65536) ∧ ForI .u64 (w0 ((val4 o * 65536 + x1) % (7237005577332262213973186563042994240857116359379907606001950938285454250989 : Int))) fun x2 => ForI .u64 (w1 ((val4 o * 65536 + x1) % (7237005577332262213973186563042994240857116359379907606001950938285454250989 : Int))) fun x3 => ForI .u64 (w2 ((val4 o * 65536 + x1) % (7237005577332262213973186563042994240857116359379907606001950938285454250989 : Int))) fun x4 => ForI .u64 (w3 ((val4 o * 65536 + x1) % (7237005577332262213973186563042994240857116359379907606001950938285454250989 : Int))) fun x5 => ForI .i64 (IntKind.i64.wrap (i - 1)) fun x6 => Same Tryd.f37 3 (itemsOf Tryd.f37 3) ∧ Q 3 [Pv.z n, Pv.z x6, Pv.l l, Pv.l r, Pv.l [x2, x3, x4, x5]]) ∧ (decide (i ≥ 0) = false → K (SV.arr .u64 4 false o))) := by
 intros
 kernel_rfl
def wordsS : List RA → Option (List Prop × SV)
 | [.c (.ints .u64 l)] => some ([∀ z ∈ l, z < 65536], .arr .u64 4 true (words4 (valW l % ell)))
 | _ => none
def inv87 (l : List Int) (key : Nat) (ps : List Pv) (m : Nat) : Prop :=
 key = 3 ∧ ∃ i o, ps = [.z (l.length : Int), .z i, .l l, .l [0, 0, 0, 0], .l o] ∧ (m : Int) = i + 1 ∧ i < (l.length : Int) ∧ o = words4 (valW (l.drop m) % ell)
theorem val_words (n : Int) : val4 (words4 n) = n % 115792089237316195423570985008687907853269984665640564039457584007913129639936 := val_of rfl rfl rfl rfl
theorem val_mod (n : Int) : val4 (words4 (n % ell)) = n % ell ∧ 0 ≤ n % ell ∧ n % ell < ell := by
 rw [val_words, ell_lit]
 omega
theorem words_ok : CallOk Tryd.prog gh 37 (readCtr [true] wordsS) := by
 refine call_read (fn := Tryd.f37) Γ5_ok rfl (fun g hg => by simp [Γ5, gh, keysOf] at hg; omega) (by kernel_rfl) (by kernel_rfl) (by kernel_rfl) [true] wordsS fun ras p y hs hp hv hq => ?_
 unfold wordsS at hs
 split at hs
 ·rename_i l
  simp only [Option.some.injEq, Prod.mk.injEq] at hs
  obtain ⟨rfl, rfl⟩ := hs
  obtain ⟨hok, hlen⟩ := hq (.ints .u64 l) (by simp)
  have hok : AllR .u64 l := hok
  have hlen : (l.length : Int) < 9223372036854775808 := hlen
  have hsm := hp.1
  refine ⟨[.sl 500 0 1 ⟨true, 0⟩ ⟨false, (l.length : Int)⟩], L87, inv87 l, ⟨rfl, trivial⟩, Nat.le_of_ble_eq_true (by kernel_rfl), ?_, ?_, ?_⟩
  ·intro k t ht g hg
   simp only [L87, List.mem_singleton, Prod.mk.injEq] at ht
   obtain ⟨rfl, rfl⟩ := ht
   have hg : g ∈ [1, 500] := hg
   simp only [List.mem_cons, List.not_mem_nil, or_false] at hg
   rcases hg with rfl | rfl
   ·exact ⟨by omega, rfl⟩
   ·exact ⟨by omega, rfl⟩
  ·rintro key ps m ⟨rfl, i, o, rfl, hm, hi, ho⟩
   show lc87 (l.length : Int) i l [0, 0, 0, 0] o _ _
   rw [lc87_eq]
   obtain ⟨v1, v2, v3⟩ := val_mod (valW (l.drop m))
   rw [← ho] at v1
   refine ⟨fun h => ?_, fun h => ?_⟩
   ·have h := of_decide_eq_true h
    obtain ⟨j, rfl⟩ := Int.eq_ofNat_of_zero_le h
    have hmj : m = j + 1 := by omega
    have hj : j < l.length := by omega
    subst hmj
    refine ⟨⟨by omega, hi⟩, ⟨by omega, hi⟩, fun x1 e1 r1 => ⟨by unfold Need; rw [v1, ← ell_lit]; exact v3, ?_, fun x2 e2 r2 x3 e3 r3 x4 e4 r4 x5 e5 r5 x6 e6 r6 => ⟨rfl, j, by omega, rfl, x6, _, rfl, ?_, ?_, ?_⟩⟩⟩
    ·have : x1 = l[j] := by rw [e1]; simp [hj]
     unfold Need
     rw [this]; exact hsm _ (List.getElem_mem hj)
    ·rw [wrap_i64 (by omega)] at e6; omega
    ·rw [wrap_i64 (by omega)] at e6; omega
    ·have e : x1 = l[j] := by rw [e1]; simp [hj]
     have hd : valW (l.drop j) = l[j] + 65536 * valW (l.drop (j + 1)) := by
      rw [List.drop_eq_getElem_cons hj]; rfl
     have hmod : (val4 o * 65536 + x1) % 7237005577332262213973186563042994240857116359379907606001950938285454250989 = valW (l.drop j) % ell := by
      rw [v1, hd, e, ell_lit]; omega
     rw [e2, e3, e4, e5, hmod]; rfl
   ·have h := of_decide_eq_false h
    have hm0 : m = 0 := by omega
    subst hm0
    show o = words4 (valW l % ell)
    rw [ho]; rfl
  ·show vc87 l _ _
   rw [vc87_eq]
   intro x1 e1 r1
   rw [wrap_i64 (by omega)] at e1
   refine ⟨rfl, l.length, rfl, x1, [0, 0, 0, 0], rfl, by omega, by omega, ?_⟩
   rw [List.drop_eq_nil_of_le (Nat.le_refl _)]; rfl
 ·cases hs
def Γ6 : Tab := ⟨tys, [(35, pureCtr leastS), (56, pureCtr chooseS), (54, pureCtr plusS), (55, pureCtr lowerS), (68, pureCtr plusS), (69, pureCtr belowS), (66, pureCtr ellS), (67, pureCtr minusS), (53, pureCtr minusS), (57, pureCtr stepS), (51, pureCtr mul64S), (52, c84), (37, readCtr [true] wordsS), (65, c88)], [1], gh⟩
theorem Γ6_ok : TabOk Tryd.prog Γ6 := ((((((((((((((Γ0_ok.cons c88_ok).cons words_ok).cons c84_ok).cons mul64_ok).cons step_ok).cons minus_ok).cons refMinus_ok).cons ell_ok).cons below_ok).cons refPlus_ok).cons lower_ok).cons plus_ok).cons choose_ok).cons least_ok)
theorem and16 {a : Int} (ha : InR .u64 a) : andI .u64 a 65535 = a % 65536 := and_mask 16 (by omega) ha
theorem shr16 (a : Int) : shrI .u64 a 16 = a / 65536 := shrI_u64 a 16 (by omega)
def vc68 (a0 a1 a2 a3 : Int) (K : SV → Prop) (Q : Nat → List Pv → Prop) : Prop := fnVc Γ6 Tryd.f16 [] [.arr .u64 4 true [a0, a1, a2, a3]] gh K Q
theorem vc68_eq : ∀ (a0 a1 a2 a3 : Int) (K : SV → Prop) (Q : Nat → List Pv → Prop), vc68 a0 a1 a2 a3 K Q = ForI .u64 (andI .u64 a0 (65535 : Int)) fun x1 => ForI .u64 (shrI .u64 a0 (16 : Int)) fun x2 => ForI .u64 (andI .u64 x2 65535) fun x3 => ForI .u64 (shrI .u64 a0 (32 : Int)) fun x4 => ForI .u64 (andI .u64 x4 65535) fun x5 => ForI .u64 (shrI .u64 a0 (48 : Int)) fun x6 => Need (↑([] ++ List.take 4 (List.drop 0 [x1, x3, x5, x6])).length * (8 : Int) ≤ 70368744177664) ∧ Need ((4 : Int) ≤ ↑[x1, x3, x5, x6].length) ∧ ForL .u64 ([] ++ List.take 4 (List.drop 0 [x1, x3, x5, x6])) fun x7 => ForN (↑([] ++ List.take 4 (List.drop 0 [x1, x3, x5, x6])).length) fun x8 => ForI .u64 (andI .u64 a1 (65535 : Int)) fun x9 => ForI .u64 (shrI .u64 a1 (16 : Int)) fun x10 => ForI .u64 (andI .u64 x10 65535) fun x11 => ForI .u64 (shrI .u64 a1 (32 : Int)) fun x12 => ForI .u64 (andI .u64 x12 65535) fun x13 => ForI .u64 (shrI .u64 a1 (48 : Int)) fun x14 => Need (↑(x7 ++ List.take 4 (List.drop 0 [x9, x11, x13, x14])).length * (8 : Int) ≤ 70368744177664) ∧ Need (x8 = ↑x7.length) ∧ Need ((4 : Int) ≤ ↑[x9, x11, x13, x14].length) ∧ ForL .u64 (x7 ++ List.take 4 (List.drop 0 [x9, x11, x13, x14])) fun x15 => ForN (↑(x7 ++ List.take 4 (List.drop 0 [x9, x11, x13, x14])).length) fun x16 => ForI .u64 (andI .u64 a2 (65535 : Int)) fun x17 => ForI .u64 (shrI .u64 a2 (16 : Int)) fun x18 => ForI .u64 (andI .u64 x18 65535) fun x19 => ForI .u64 (shrI .u64 a2 (32 : Int)) fun x20 => ForI .u64 (andI .u64 x20 65535) fun x21 => ForI .u64 (shrI .u64 a2 (48 : Int)) fun x22 => Need (↑(x15 ++ List.take 4 (List.drop 0 [x17, x19, x21, x22])).length * (8 : Int) ≤ 70368744177664) ∧ Need (x16 = ↑x15.length) ∧ Need ((4 : Int) ≤ ↑[x17, x19, x21, x22].length) ∧ ForL .u64 (x15 ++ List.take 4 (List.drop 0 [x17, x19, x21, x22])) fun x23 => ForN (↑(x15 ++ List.take 4 (List.drop 0 [x17, x19, x21, x22])).length) fun x24 => ForI .u64 (andI .u64 a3 (65535 : Int)) fun x25 => ForI .u64 (shrI .u64 a3 (16 : Int)) fun x26 => ForI .u64 (andI .u64 x26 65535) fun x27 => ForI .u64 (shrI .u64 a3 (32 : Int)) fun x28 => ForI .u64 (andI .u64 x28 65535) fun x29 => ForI .u64 (shrI .u64 a3 (48 : Int)) fun x30 => Need (↑(x23 ++ List.take 4 (List.drop 0 [x25, x27, x29, x30])).length * (8 : Int) ≤ 70368744177664) ∧ Need (x24 = ↑x23.length) ∧ Need ((4 : Int) ≤ ↑[x25, x27, x29, x30].length) ∧ ForL .u64 (x23 ++ List.take 4 (List.drop 0 [x25, x27, x29, x30])) fun x31 => ForN (↑(x23 ++ List.take 4 (List.drop 0 [x25, x27, x29, x30])).length) fun x32 => Need (0 + x32 ≤ ↑x31.length) ∧ Need (∀ (z : Int), z ∈ List.take x32.toNat (List.drop 0 x31) → z < 65536) ∧ ForI .u64 (w0 (valW (List.take x32.toNat (List.drop 0 x31)) % (7237005577332262213973186563042994240857116359379907606001950938285454250989 : Int))) fun x33 => ForI .u64 (w1 (valW (List.take x32.toNat (List.drop 0 x31)) % (7237005577332262213973186563042994240857116359379907606001950938285454250989 : Int))) fun x34 => ForI .u64 (w2 (valW (List.take x32.toNat (List.drop 0 x31)) % (7237005577332262213973186563042994240857116359379907606001950938285454250989 : Int))) fun x35 => ForI .u64 (w3 (valW (List.take x32.toNat (List.drop 0 x31)) % (7237005577332262213973186563042994240857116359379907606001950938285454250989 : Int))) fun x36 => K (SV.arr .u64 4 true [x33, x34, x35, x36]) := by
 intros
 kernel_rfl
def rleastS : List SV → Option (List Prop × SV)
 | [.arr .u64 4 _ l] => some ([], .arr .u64 4 true (words4 (val4 l % ell)))
 | _ => none
theorem rleast_ok : CallOk Tryd.prog gh 16 (pureCtr rleastS) := by
 refine call_pure (fn := Tryd.f16) Γ6_ok rfl (by kernel_rfl) (by kernel_rfl) (by kernel_rfl) rleastS fun args p y hs hp hf => ?_
 unfold rleastS at hs
 split at hs
 ·rename_i e1 l
  simp only [Option.some.injEq, Prod.mk.injEq] at hs
  obtain ⟨rfl, rfl⟩ := hs
  simp only [FactVs, FactV] at hf
  obtain ⟨⟨hl, h1⟩, _⟩ := hf
  obtain ⟨a0, a1, a2, a3, rfl⟩ := len4 hl
  have i0 := h1 a0 (by simp); have i1 := h1 a1 (by simp); have i2 := h1 a2 (by simp); have i3 := h1 a3 (by simp)
  refine ⟨[.arr .u64 4 true [a0, a1, a2, a3]], [], _, ⟨rfl, trivial⟩, Nat.le_of_ble_eq_true (by kernel_rfl), vc_noloops ?_⟩
  show vc68 a0 a1 a2 a3 _ _
  rw [vc68_eq]
  intro x1 e1 r1 x2 e2 r2 x3 e3 r3 x4 e4 r4 x5 e5 r5 x6 e6 r6
  refine ⟨by unfold Need; simp, by unfold Need; simp, fun x7 e7 q7 x8 e8 p8 r8 x9 e9 r9 x10 e10 r10 x11 e11 r11 x12 e12 r12 x13 e13 r13 x14 e14 r14 => ?_⟩
  have f7 : x7 = [x1, x3, x5, x6] := by simpa using e7
  have f8 : x8 = 4 := by rw [e8]; simp
  refine ⟨by unfold Need; rw [f7]; simp, by unfold Need; rw [f8, f7]; simp, by unfold Need; simp, fun x15 e15 q15 x16 e16 p16 r16 x17 e17 r17 x18 e18 r18 x19 e19 r19 x20 e20 r20 x21 e21 r21 x22 e22 r22 => ?_⟩
  have f15 : x15 = [x1, x3, x5, x6, x9, x11, x13, x14] := by rw [e15, f7]; simp
  have f16 : x16 = 8 := by rw [e16, f7]; simp
  refine ⟨by unfold Need; rw [f15]; simp, by unfold Need; rw [f16, f15]; simp, by unfold Need; simp, fun x23 e23 q23 x24 e24 p24 r24 x25 e25 r25 x26 e26 r26 x27 e27 r27 x28 e28 r28 x29 e29 r29 x30 e30 r30 => ?_⟩
  have f23 : x23 = [x1, x3, x5, x6, x9, x11, x13, x14, x17, x19, x21, x22] := by rw [e23, f15]; simp
  have f24 : x24 = 12 := by rw [e24, f15]; simp
  refine ⟨by unfold Need; rw [f23]; simp, by unfold Need; rw [f24, f23]; simp, by unfold Need; simp, fun x31 e31 q31 x32 e32 p32 r32 => ?_⟩
  have f31 : x31 = [x1, x3, x5, x6, x9, x11, x13, x14, x17, x19, x21, x22, x25, x27, x29, x30] := by rw [e31, f23]; simp
  have f32 : x32 = 16 := by rw [e32, f23]; simp
  have hview : List.take x32.toNat (List.drop 0 x31) = x31 := by rw [f32, f31]; rfl
  dsimp only
  rw [hview]
  rw [and16 i0] at e1; rw [and16 i1] at e9; rw [and16 i2] at e17; rw [and16 i3] at e25
  rw [shr16] at e2 e10 e18 e26
  rw [shr32] at e4 e12 e20 e28
  rw [shr48] at e6 e14 e22 e30
  rw [and16 r2] at e3; rw [and16 r4] at e5; rw [and16 r10] at e11; rw [and16 r12] at e13; rw [and16 r18] at e19; rw [and16 r20] at e21; rw [and16 r26] at e27; rw [and16 r28] at e29
  simp only [InR] at i0 i1 i2 i3
  have hv : valW x31 = val4 [a0, a1, a2, a3] := by
   rw [f31]; simp only [valW, val4]; omega
  rw [hv]
  refine ⟨by unfold Need; rw [f32, f31]; simp, ?_, fun x33 e33 r33 x34 e34 r34 x35 e35 r35 x36 e36 r36 => ?_⟩
  ·unfold Need
   rw [f31]
   intro z hz
   simp only [List.mem_cons, List.not_mem_nil, or_false] at hz
   rcases hz with rfl | rfl | rfl | rfl | rfl | rfl | rfl | rfl | rfl | rfl | rfl | rfl | rfl | rfl | rfl | rfl <;> omega
  ·show [x33, x34, x35, x36] = words4 (val4 [a0, a1, a2, a3] % ell)
   rw [e33, e34, e35, e36]; rfl
 ·cases hs
def Γ7 : Tab := ⟨tys, [(35, pureCtr leastS), (16, pureCtr rleastS), (56, pureCtr chooseS), (54, pureCtr plusS), (55, pureCtr lowerS), (68, pureCtr plusS), (69, pureCtr belowS), (66, pureCtr ellS), (67, pureCtr minusS), (53, pureCtr minusS), (57, pureCtr stepS), (51, pureCtr mul64S), (52, c84), (37, readCtr [true] wordsS), (65, c88)], [1], gh⟩
theorem Γ7_ok : TabOk Tryd.prog Γ7 := (((((((((((((((Γ0_ok.cons c88_ok).cons words_ok).cons c84_ok).cons mul64_ok).cons step_ok).cons minus_ok).cons refMinus_ok).cons ell_ok).cons below_ok).cons refPlus_ok).cons lower_ok).cons plus_ok).cons choose_ok).cons rleast_ok).cons least_ok)
theorem words_inj {x y : Int} (hx : 0 ≤ x ∧ x < ell) (hy : 0 ≤ y ∧ y < ell) : words4 x = words4 y ↔ x = y := by
 refine ⟨fun h => ?_, fun h => by rw [h]⟩
 have h := congrArg val4 h
 rw [val_words, val_words] at h
 rw [ell_lit] at hx hy
 omega
theorem mod_bd (x : Int) : 0 ≤ x % ell ∧ x % ell < ell := by rw [ell_lit]; omega
theorem beq_words {x y : Int} (hx : 0 ≤ x ∧ x < ell) (hy : 0 ≤ y ∧ y < ell) : (words4 x == words4 y) = decide (x = y) := by
 have := words_inj hx hy
 by_cases h : x = y
 ·rw [h]; simp
 ·rw [decide_eq_false h]; simp [this, h]
def vc20 (a0 a1 a2 a3 : Int) (K : SV → Prop) (Q : Nat → List Pv → Prop) : Prop := fnVc Γ7 Tryd.f36 [] [.arr .u64 4 true [a0, a1, a2, a3]] gh K Q
theorem vc20_eq : ∀ (a0 a1 a2 a3 : Int) (K : SV → Prop) (Q : Nat → List Pv → Prop), vc20 a0 a1 a2 a3 K Q = ForI .u64 (w0 (val4 [a0, a1, a2, a3] % (7237005577332262213973186563042994240857116359379907606001950938285454250989 : Int))) fun x1 => ForI .u64 (w1 (val4 [a0, a1, a2, a3] % (7237005577332262213973186563042994240857116359379907606001950938285454250989 : Int))) fun x2 => ForI .u64 (w2 (val4 [a0, a1, a2, a3] % (7237005577332262213973186563042994240857116359379907606001950938285454250989 : Int))) fun x3 => ForI .u64 (w3 (val4 [a0, a1, a2, a3] % (7237005577332262213973186563042994240857116359379907606001950938285454250989 : Int))) fun x4 => K (SV.b false ([x1, x2, x3, x4] == [(0 : Int), (0 : Int), (0 : Int), (0 : Int)])) := by
 intros
 kernel_rfl
def isZeroS : List SV → Option (List Prop × SV)
 | [.arr .u64 4 _ l] => some ([], .b false (decide (val4 l % ell = 0)))
 | _ => none
theorem isZero_ok : CallOk Tryd.prog gh 36 (pureCtr isZeroS) := by
 refine call_pure (fn := Tryd.f36) Γ7_ok rfl (by kernel_rfl) (by kernel_rfl) (by kernel_rfl) isZeroS fun args p y hs hp hf => ?_
 unfold isZeroS at hs
 split at hs
 ·rename_i e1 l
  simp only [Option.some.injEq, Prod.mk.injEq] at hs
  obtain ⟨rfl, rfl⟩ := hs
  simp only [FactVs, FactV] at hf
  obtain ⟨⟨hl, h1⟩, _⟩ := hf
  obtain ⟨a0, a1, a2, a3, rfl⟩ := len4 hl
  have i0 := h1 a0 (by simp); have i1 := h1 a1 (by simp); have i2 := h1 a2 (by simp); have i3 := h1 a3 (by simp)
  refine ⟨[.arr .u64 4 true [a0, a1, a2, a3]], [], _, ⟨rfl, trivial⟩, Nat.le_of_ble_eq_true (by kernel_rfl), vc_noloops ?_⟩
  show vc20 a0 a1 a2 a3 _ _
  rw [vc20_eq]
  intro x1 e1 r1 x2 e2 r2 x3 e3 r3 x4 e4 r4
  show ([x1, x2, x3, x4] == [0, 0, 0, 0]) = decide (val4 [a0, a1, a2, a3] % ell = 0)
  have := beq_words (mod_bd (val4 [a0, a1, a2, a3])) (y := 0) (by rw [ell_lit]; omega)
  rw [← this, e1, e2, e3, e4]; rfl
 ·cases hs
def Γ8 : Tab := ⟨tys, [(36, pureCtr isZeroS), (35, pureCtr leastS), (16, pureCtr rleastS), (56, pureCtr chooseS), (54, pureCtr plusS), (55, pureCtr lowerS), (68, pureCtr plusS), (69, pureCtr belowS), (66, pureCtr ellS), (67, pureCtr minusS), (53, pureCtr minusS), (57, pureCtr stepS), (51, pureCtr mul64S), (52, c84), (37, readCtr [true] wordsS), (65, c88)], [1], gh⟩
theorem ell_pos : (0 : Int) < ell := by decide
theorem bd (x : Int) : 0 ≤ x % ell ∧ x % ell < ell := ⟨Int.emod_nonneg _ (by decide), Int.emod_lt_of_pos _ ell_pos⟩
theorem mm (a b : Int) : (a % ell) * b % ell = a * b % ell := by rw [Int.mul_emod, Int.emod_emod, ← Int.mul_emod]
def r1 : Int := 7237005577332262213973186563042994240413239274941949949428319933631315875101
def r2 : Int := 1627715501170711445284395025044413883736156588369414752970002579683115011841
def intoS : List SV → Option (List Prop × SV)
 | [.i .u64 xV, .i .u64 yV, .i .u64 zV, .i .u64 wV] => some ([], .tup [.i .u64 ⟨false, (xV.z * yV.z + zV.z + wV.z) % 18446744073709551616⟩, .i .u64 ⟨false, (xV.z * yV.z + zV.z + wV.z) / 18446744073709551616⟩])
 | _ => none
def Γ9 : Tab := ⟨tys, [(36, pureCtr isZeroS), (35, pureCtr leastS), (16, pureCtr rleastS), (56, pureCtr chooseS), (54, pureCtr plusS), (55, pureCtr lowerS), (68, pureCtr plusS), (69, pureCtr belowS), (66, pureCtr ellS), (67, pureCtr minusS), (53, pureCtr minusS), (57, pureCtr stepS), (51, pureCtr mul64S), (52, c84), (37, readCtr [true] wordsS), (65, c88), (77, pureCtr intoS)], [1], gh⟩
end Go.Gx.Sc

/- The scalars, 2. -/
namespace Go.Sp.Sc
end Go.Sp.Sc
namespace Go.Gx.Sc
open Go.Proofs Go.Sp Go.Sp.Sc
set_option linter.unusedVariables false
theorem val_in {n x y z t : Int} (h0 : x = w0 n) (h1 : y = w1 n) (h2 : z = w2 n) (h3 : t = w3 n) (hn : 0 ≤ n) (hn' : n < 115792089237316195423570985008687907853269984665640564039457584007913129639936) : val4 [x, y, z, t] = n := by
 rw [val_of h0 h1 h2 h3, Int.emod_eq_of_lt hn hn']
theorem val_ell {n x y z t : Int} (h0 : x = w0 (n % ell)) (h1 : y = w1 (n % ell)) (h2 : z = w2 (n % ell)) (h3 : t = w3 (n % ell)) : val4 [x, y, z, t] = n % ell := by
 have := mod_bd n
 rw [ell_lit] at this
 exact val_in h0 h1 h2 h3 this.1 (by rw [ell_lit]; omega)
theorem need_of {p : Prop} (h : p) : Need p := h
def ex (E : Int) (k : Nat) : Nat := (E / ((2 ^ k : Nat) : Int)).toNat
end Go.Gx.Sc
namespace Go.Sp.Sc
open Go.Gx Go.Gx.Sc
set_option linter.unusedVariables false
end Go.Sp.Sc
namespace Go.Gx.Sc
open Go.Proofs Go.Sp Go.Sp.Sc
set_option linter.unusedVariables false
end Go.Gx.Sc

/- The document's Wide. -/
namespace Go.Gx.Sc
open Go.Proofs Go.Sp Go.Sp.Sc
set_option linter.unusedVariables false
set_option maxRecDepth 100000
def pairs : List Int → List Int
 | a :: b :: r => (a + 256 * b) :: pairs r
 | _ => []
end Go.Gx.Sc

/- What is said to a transcript. -/
namespace Go.Sp
open Go.Gx
end Go.Sp
namespace Go.Gx
open Go.Proofs Go.Sp
set_option linter.unusedVariables false
set_option maxRecDepth 100000

def shSay : Sh := .r [.i .i64, .i .i64, .ts, .l (.ints .u8)]
end Go.Gx

/- Contracts whose answers are lists of rows that the call has made: a pool, and rows of headers. -/
namespace Go.Gx
open Go.RowKit
set_option linter.unusedVariables false

def noPl : Pl := { blk := 0, off := 0, cap := 0 }

theorem Mem.import {w0 : World} {M : Nat → Prop} {ρ ρ' ρn : Nat → Pl} {H H' Hn : Nat → Option SB} {w w' : World} {M' : Nat → Prop} (hm : Mem w0 M ρ H w) (hr : Mem w M' ρ' H' w') {im : Nat → Option (Option Nat)}
  (hN : ∀ k, im k = none → Hn k = H k ∧ (dmOf H k → ρn k = ρ k))
  (hT : ∀ k c, im k = some (some c) → ρn k = ρ' c ∧ (Hn k = some .gone ∨ (∃ kd ms, Hn k = some (.pool kd ms) ∧ H' c = some (.pool kd ms)) ∨ ∃ l l0, Hn k = some (.segs false l) ∧ H' c = some (.segs false l0) ∧ ∀ cs, SegsD (dmOf H') ρ' l0 cs → SegsD (dmOf Hn) ρn l cs))
  (hV : ∀ k, im k = some none → ρn k = noPl ∧ (Hn k = some .gone ∨ (∃ kd, Hn k = some (.pool kd [])) ∨ ∃ l, Hn k = some (.segs false l) ∧ SegsD (dmOf Hn) ρn l []))
  (hinj : ∀ k k' c, im k = some (some c) → im k' = some (some c) → k = k')
  (hle : ∀ k, dmOf H k → dmOf Hn k ∧ PlLe (ρ k) (ρn k)) (hM : ∀ b, M' b → w0.heap.size ≤ b ∨ M b)
  (hs : ∀ k ro l, im k = none → H k = some (.segs ro l) → 0 < (ρ k).cap → ¬ M' (ρ k).blk)
  (hp : ∀ k kd ms i c, im k = none → H k = some (.pool kd ms) → i < ms.length → OwnB w (ρ k) kd i c → ¬ M' c)
  (hsn : ∀ k kd ms, im k ≠ none → Hn k = some (.pool kd ms) → kd.seen = none := by intro k kd ms h _; exact absurd rfl h)
  (hfz : ∀ k kd, im k = some none → Hn k = some (.pool kd []) → kd.fz = false := by intro k kd h _; cases h) : Mem w0 M ρn Hn w' := by
 have seg : ∀ k ro l, Hn k = some (.segs ro l) → 0 < (ρn k).cap → (im k = none ∧ H k = some (.segs ro l) ∧ ρn k = ρ k ∧ (ρn k).blk < w.heap.size ∧ ¬ M' (ρn k).blk) ∨ (∃ c l0, im k = some (some c) ∧ ro = false ∧ H' c = some (.segs false l0) ∧ ρn k = ρ' c ∧ (w.heap.size ≤ (ρn k).blk ∨ M' (ρn k).blk)) := fun k ro l h c0 => by
  cases e : im k with
  | none =>
   obtain ⟨a, b⟩ := hN k e
   rw [a] at h
   have b := b (dm_of h)
   rw [b] at c0 ⊢
   exact .inl ⟨rfl, h, rfl, hm.heap.lt k ro l h c0, hs k ro l e h c0⟩
  | some o =>
   cases o with
   | none => rw [(hV k e).1] at c0; exact absurd c0 (by simp [noPl])
   | some c =>
    obtain ⟨a, b | ⟨kd, ms, b, _⟩ | ⟨l1, l0, b, b2, _⟩⟩ := hT k c e
    ·rw [b] at h; cases h
    ·rw [b] at h; cases h
    ·rw [b] at h
     simp only [Option.some.injEq, SB.segs.injEq] at h
     rw [a] at c0 ⊢
     exact .inr ⟨c, l0, rfl, h.1.symm, b2, rfl, hr.own c l0 b2 c0⟩
 have pool : ∀ k kd ms, Hn k = some (.pool kd ms) → (im k = none ∧ H k = some (.pool kd ms) ∧ ρn k = ρ k) ∨ (∃ c, im k = some (some c) ∧ H' c = some (.pool kd ms) ∧ ρn k = ρ' c) ∨ (ms = [] ∧ ρn k = noPl ∧ im k = some none) := fun k kd ms h => by
  cases e : im k with
  | none =>
   obtain ⟨a, b⟩ := hN k e
   rw [a] at h
   exact .inl ⟨rfl, h, b (dm_of h)⟩
  | some o =>
   cases o with
   | none =>
    obtain ⟨a, b | ⟨kd', b⟩ | ⟨l, b, _⟩⟩ := hV k e
    ·rw [b] at h; cases h
    ·rw [b] at h
     simp only [Option.some.injEq, SB.pool.injEq] at h
     exact .inr (.inr ⟨h.2.symm, a, rfl⟩)
    ·rw [b] at h; cases h
   | some c =>
    obtain ⟨a, b | ⟨kd', ms', b, b2⟩ | ⟨l1, l0, b, _⟩⟩ := hT k c e
    ·rw [b] at h; cases h
    ·rw [b] at h
     simp only [Option.some.injEq, SB.pool.injEq] at h
     rw [h.1, h.2] at b2
     exact .inr (.inl ⟨c, rfl, b2, a⟩)
    ·rw [b] at h; cases h
 have hO : ∀ k kd ms i c, im k = none → H k = some (.pool kd ms) → i < ms.length → OwnB w' (ρ k) kd i c → OwnB w (ρ k) kd i c := fun k kd ms i c e hk hi ho => ho.of_block fun h0 => hr.frame.block _ ((hm.pools.pool k kd ms hk).lt i hi h0) (hp k kd ms i _ e hk hi (.pb h0))
 have row : ∀ k kd ms i x, Hn k = some (.pool kd ms) → i < ms.length → OwnB w' (ρn k) kd i x → (im k = none ∧ H k = some (.pool kd ms) ∧ OwnB w (ρ k) kd i x ∧ x < w.heap.size ∧ ¬ M' x) ∨ (∃ c, im k = some (some c) ∧ H' c = some (.pool kd ms) ∧ OwnB w' (ρ' c) kd i x ∧ (w.heap.size ≤ x ∨ M' x)) := fun k kd ms i x h hi c0 => by
  rcases pool k kd ms h with ⟨a, b, c⟩ | ⟨c, a, b, d⟩ | ⟨rfl, _⟩
  ·rw [c] at c0
   have c0 := hO k kd ms i x a b hi c0
   exact .inl ⟨a, b, c0, (hm.pools.pool k kd ms b).ltD i x hi c0, hp k kd ms i x a b hi c0⟩
  ·rw [d] at c0
   exact .inr ⟨c, a, b, c0, (hr.pools.pool c kd ms b).ownD i x hi c0⟩
  ·exact absurd hi (by simp)
 refine ⟨⟨fun k b hb => ?_, fun k k' ro ro' l l' h1 h2 hkk hro c1 c2 => ?_, fun k ro l h1 c1 => ?_⟩, ⟨hr.frame.os.trans hm.frame.os, hr.frame.tape.trans hm.frame.tape, hr.frame.output.trans hm.frame.output, Nat.le_trans hm.frame.size hr.frame.size, fun k hk1 hk2 => ?_⟩, fun k l h1 c1 => ?_, fun k h1 => ?_, fun k l h1 c1 => ?_, ⟨fun k kd ms hk => ?_, fun k kd ms k' ro l i x h1 h2 c1 hi c2 => ?_, fun k kd ms k' kd' ms' i j x h1 h2 hkk hi hj c1 c2 => ?_, fun k kd q r ms hk => ?_⟩⟩
 ·cases e : im k with
  | none =>
   obtain ⟨a, e2⟩ := hN k e
   rw [a] at hb
   exact (hm.heap.blk k b hb).of_block (fun a ha => (hle a ha).1) (fun a ha => (hle a ha).2) (e2 (dm_of hb)) fun ro l e3 c => by
    subst e3
    exact hr.frame.block _ (hm.heap.lt k ro l hb c) (hs k ro l e hb c)
  | some o =>
   cases o with
   | none =>
    obtain ⟨a, d | ⟨kd', d⟩ | ⟨l, d, d2⟩⟩ := hV k e
    ·rw [d] at hb; simp only [Option.some.injEq] at hb; subst hb; trivial
    ·rw [d] at hb; simp only [Option.some.injEq] at hb; subst hb; trivial
    ·rw [d] at hb; simp only [Option.some.injEq] at hb; subst hb
     exact ⟨[], d2, by simp, rangeAt_nil _ _ _, fun _ => by rw [a]; exact there_zero _ _ _⟩
   | some c =>
    obtain ⟨a, d | ⟨kd', ms', d, _⟩ | ⟨l1, l0, d, d2, d3⟩⟩ := hT k c e
    ·rw [d] at hb; simp only [Option.some.injEq] at hb; subst hb; trivial
    ·rw [d] at hb; simp only [Option.some.injEq] at hb; subst hb; trivial
    ·rw [d] at hb; simp only [Option.some.injEq] at hb; subst hb
     obtain ⟨vs, s1, s2, s3, s4⟩ := hr.heap.blk c _ d2
     exact ⟨vs, d3 vs s1, by rw [a]; exact s2, by rw [a]; exact s3, fun h => by rw [a]; exact s4 h⟩
 ·rcases seg k ro l h1 c1 with ⟨a1, a2, a3, a4, a5⟩ | ⟨c, l0, a1, rfl, a2, a3, a4⟩
  ·rcases seg k' ro' l' h2 c2 with ⟨b1, b2, b3, b4, b5⟩ | ⟨c', l0', b1, rfl, b2, b3, b4⟩
   ·rw [a3] at c1 ⊢; rw [b3] at c2 ⊢
    exact hm.heap.sep k k' ro ro' l l' a2 b2 hkk hro c1 c2
   ·intro e
    rcases b4 with b4 | b4
    ·omega
    ·rw [e] at a5; exact a5 b4
  ·rcases seg k' ro' l' h2 c2 with ⟨b1, b2, b3, b4, b5⟩ | ⟨c', l0', b1, rfl, b2, b3, b4⟩
   ·intro e
    rcases a4 with a4 | a4
    ·omega
    ·rw [← e] at b5; exact b5 a4
   ·rw [a3] at c1 ⊢; rw [b3] at c2 ⊢
    exact hr.heap.sep c c' false false l0 l0' a2 b2 (fun e => by subst e; exact hkk (hinj k k' c a1 b1)) (.inl rfl) c1 c2
 ·rcases seg k ro l h1 c1 with ⟨a1, a2, a3, a4, a5⟩ | ⟨c, l0, a1, rfl, a2, a3, a4⟩
  ·exact Nat.lt_of_lt_of_le a4 hr.frame.size
  ·rw [a3] at c1 ⊢; exact hr.heap.lt c false l0 a2 c1
 ·have hn : ¬ M' k := fun h => by
   rcases hM k h with h | h
   ·omega
   ·exact hk2 h
  rw [hr.frame.block k (Nat.lt_of_lt_of_le hk1 hm.frame.size) hn]
  exact hm.frame.block k hk1 hk2
 ·rcases seg k false l h1 c1 with ⟨a1, a2, a3, a4, a5⟩ | ⟨c, l0, a1, _, a2, a3, a4⟩
  ·rw [a3] at c1 ⊢; exact hm.own k l a2 c1
  ·rcases a4 with a4 | a4
   ·exact .inl (Nat.le_trans hm.frame.size a4)
   ·exact hM _ a4
 ·cases e : im k with
  | none =>
   obtain ⟨a, b⟩ := hN k e
   rw [a] at h1
   rw [b (dm_of h1)]
   exact hm.view k h1
  | some o =>
   cases o with
   | none =>
    obtain ⟨_, d | ⟨kd', d⟩ | ⟨l, d, d2⟩⟩ := hV k e <;> rw [d] at h1 <;> cases h1
   | some c =>
    obtain ⟨_, d | ⟨kd', ms', d, _⟩ | ⟨l1, l0, d, d2, d3⟩⟩ := hT k c e <;> rw [d] at h1 <;> cases h1
 ·rcases seg k false l h1 c1 with ⟨a1, a2, a3, a4, a5⟩ | ⟨c, l0, a1, _, a2, a3, a4⟩
  ·rw [a3] at c1 a4 a5 ⊢
   exact (hm.clean k l a2 c1).of_block (hr.frame.block _ a4 a5)
  ·rw [a3] at c1 ⊢; exact hr.clean c l0 a2 c1
 ·rcases pool k kd ms hk with ⟨a, b, c⟩ | ⟨c, a, b, d⟩ | ⟨rfl, d, d0⟩
  ·refine (hm.pools.pool k kd ms b).step c hr.frame.size (fun _ _ _ _ h => h) fun i x hi h0 => hr.frame.block _ ((hm.pools.pool k kd ms b).ltD i x hi h0) (hp k kd ms i x a b hi h0)
  ·rw [d]
   have hq := hr.pools.pool c kd ms b
   exact ⟨hq.cnt, hq.rowD, hq.ltD, fun i x hi h0 => by
    rcases hq.ownD i x hi h0 with h | h
    ·exact .inl (Nat.le_trans hm.frame.size h)
    ·exact hM _ h, hq.cleanD, hq.sepD, hq.inn, hq.fzD, hq.havD, hq.vivD⟩
  ·rw [d]
   exact ⟨rfl, fun i m hi => by simp at hi, fun i c hi => absurd hi (by simp), fun i c hi => absurd hi (by simp), fun i c hi => absurd hi (by simp), fun i j c hi => absurd hi (by simp), fun i hi => absurd hi (by simp), fun e => by subst e; exact absurd (hfz k _ d0 hk) (by decide), fun e => by subst e; exact absurd (hfz k _ d0 hk) (by decide), fun e => by subst e; exact absurd (hfz k _ d0 hk) (by decide)⟩
 ·rcases seg k' ro l h2 c1 with ⟨a1, a2, a3, a4, a5⟩ | ⟨c, l0, a1, rfl, a2, a3, a4⟩
  ·rcases row k kd ms i x h1 hi c2 with ⟨b1, b2, b3, b4, b5⟩ | ⟨c', b1, b2, b3, b4⟩
   ·rw [a3] at c1 ⊢
    exact hm.pools.apartD k kd ms k' ro l i x b2 a2 c1 hi b3
   ·intro e
    rcases b4 with b4 | b4
    ·omega
    ·rw [e] at a5; exact a5 b4
  ·rcases row k kd ms i x h1 hi c2 with ⟨b1, b2, b3, b4, b5⟩ | ⟨c', b1, b2, b3, b4⟩
   ·intro e
    rcases a4 with a4 | a4
    ·omega
    ·rw [← e] at b5; exact b5 a4
   ·rw [a3] at c1 ⊢
    exact hr.pools.apartD c' kd ms c false l0 i x b2 a2 c1 hi b3
 ·rcases row k kd ms i x h1 hi c1 with ⟨a1, a2, a3, a4, a5⟩ | ⟨c, a1, a2, a3, a4⟩
  ·rcases row k' kd' ms' j x h2 hj c2 with ⟨b1, b2, b3, b4, b5⟩ | ⟨c', b1, b2, b3, b4⟩
   ·exact hm.pools.twoD k kd ms k' kd' ms' i j x a2 b2 hkk hi hj a3 b3
   ·rcases b4 with b4 | b4
    ·omega
    ·exact a5 b4
  ·rcases row k' kd' ms' j x h2 hj c2 with ⟨b1, b2, b3, b4, b5⟩ | ⟨c', b1, b2, b3, b4⟩
   ·rcases a4 with a4 | a4
    ·omega
    ·exact b5 a4
   ·exact hr.pools.twoD c kd ms c' kd' ms' i j x a2 b2 (fun e => by subst e; exact hkk (hinj k k' c a1 b1)) hi hj a3 b3
 ·rcases pool k _ ms hk with ⟨a, b, c⟩ | ⟨c, a, b, d⟩ | ⟨rfl, d⟩
  ·obtain ⟨v1, v2, v3, v4⟩ := hm.pools.view k kd q r ms b
   rw [c]
   exact ⟨(hle q v1).1, v2, v3, v4.step (hr.frame.block _ ((hm.pools.pool k _ ms b).lt r v2 v3) (hp k _ ms r _ a b v2 (.pb v3))) (hle q v1).2⟩
  ·have := hsn k _ ms (by rw [a]; simp) hk
   cases this
  ·by_cases e : im k = none
   ·obtain ⟨a, b⟩ := hN k e
    rw [a] at hk
    obtain ⟨v1, v2, v3, v4⟩ := hm.pools.view k kd q r [] hk
    exact absurd v2 (by simp)
   ·have := hsn k _ [] e hk
    cases this

/-! ### The callee's side -/

abbrev Hdrs := List (Nat × Nat)

def canH (h : Heap) (x : SV) (K : Option (Nat × Nat) → Hdrs → Prop) : Prop :=
 match x with
 | .nsl => K none []
 | .sl key 0 1 ⟨true, .ofNat 0⟩ len => (match Nat.ble 1000 key, assoc h key with
  | true, some (.segs false [.rowH pk hs]) => Need (len.z = (hs.length : Int)) ∧ K (some (key, pk)) hs
  | _, _ => False)
 | _ => False

def canP (k : IntKind) (h : Heap) (pk : Nat) (K : List (List Int) → Prop) : Prop :=
 match Nat.ble 1000 pk, assoc h pk with
 | true, some (.pool (.k k') ms) => (match keq k' k with | true => K ms | false => False)
 | _, _ => False

def kvH1 (k : IntKind) (x : SV) (h : Heap) (K : Hdrs → List (List Int) → Prop) : Prop :=
 canH h x fun a hs => match a with
  | none => K hs []
  | some (_, pk) => canP k h pk fun ms => K hs ms

def kvH2 (k : IntKind) (x : SV) (h : Heap) (K : Hdrs → Hdrs → List (List Int) → Prop) : Prop :=
 match x with
 | .agg [y, z] => canH h y fun a hs => canH h z fun b gs => match a, b with
  | none, none => K hs gs []
  | some (_, pk), none => canP k h pk fun ms => K hs gs ms
  | none, some (_, pk) => canP k h pk fun ms => K hs gs ms
  | some (a, pk), some (b, pk') => (match Nat.beq pk pk', Nat.beq a b with
   | true, false => canP k h pk fun ms => K hs gs ms
   | _, _ => False)
 | _ => False

section
variable {P : Program} {Γ : Tab} {w0 : World} {M : Nat → Prop} {ρ : Nat → Pl} {w : World}

def HdrAt (H : Nat → Option SB) (ρ : Nat → Pl) (a : Option (Nat × Nat)) (hs : Hdrs) (v : Value) : Prop :=
 match a with
 | none => hs = [] ∧ v = .slice none 0 0
 | some (key, pk) => 1000 ≤ key ∧ H key = some (.segs false [.rowH pk hs]) ∧ D (dmOf H) ρ (.sl key 0 1 ⟨true, 0⟩ ⟨false, (hs.length : Int)⟩) v

theorem canH_sound {h : Heap} {x : SV} {v : Value} (hx : D (dmOf (assoc h)) ρ x v) {K : Option (Nat × Nat) → Hdrs → Prop} (hk : canH h x K) : ∃ a hs, K a hs ∧ HdrAt (assoc h) ρ a hs v := by
 unfold canH at hk
 split at hk
 ·exact ⟨none, [], hk, rfl, hx⟩
 ·rename_i key len
  split at hk
  ·rename_i pk hs h1 h2
   obtain ⟨e, hk⟩ := hk
   refine ⟨_, hs, hk, Nat.le_of_ble_eq_true h1, h2, ?_⟩
   have e : len.z = (hs.length : Int) := e
   simp only [D] at hx ⊢
   rw [e] at hx
   exact hx
  ·exact hk.elim
 ·exact hk.elim

theorem canP_sound {k : IntKind} {h : Heap} {pk : Nat} {K : List (List Int) → Prop} (hk : canP k h pk K) : ∃ ms, K ms ∧ 1000 ≤ pk ∧ assoc h pk = some (.pool k ms) := by
 unfold canP at hk
 split at hk
 ·rename_i k' ms h1 h2
  split at hk
  ·rename_i e
   have e := keq_eq e
   subst e
   exact ⟨ms, hk, Nat.le_of_ble_eq_true h1, h2⟩
  ·exact hk.elim
 ·exact hk.elim

def poolOf : Option (Nat × Nat) → Option (Nat × Nat) → Option Nat
 | some (_, pk), _ => some pk
 | none, some (_, pk) => some pk
 | none, none => none

def PoolAt (k : IntKind) (H : Nat → Option SB) (p : Option Nat) (ms : List (List Int)) : Prop :=
 match p with
 | none => ms = []
 | some pk => 1000 ≤ pk ∧ H pk = some (.pool k ms)

theorem kvH1_sound {k : IntKind} {h : Heap} {x : SV} {v : Value} (hx : D (dmOf (assoc h)) ρ x v) {K : Hdrs → List (List Int) → Prop} (hk : kvH1 k x h K) :
  ∃ a hs ms, K hs ms ∧ HdrAt (assoc h) ρ a hs v ∧ PoolAt k (assoc h) (poolOf a none) ms := by
 unfold kvH1 at hk
 obtain ⟨a, hs, hk, h1⟩ := canH_sound hx hk
 cases a with
 | none => exact ⟨none, hs, [], hk, h1, rfl⟩
 | some q =>
  obtain ⟨key, pk⟩ := q
  obtain ⟨ms, q1, q2, q3⟩ := canP_sound hk
  exact ⟨_, hs, ms, q1, h1, q2, q3⟩

theorem kvH2_sound {k : IntKind} {h : Heap} {x : SV} {v : Value} (hx : D (dmOf (assoc h)) ρ x v) {K : Hdrs → Hdrs → List (List Int) → Prop} (hk : kvH2 k x h K) :
  ∃ a b hs gs ms u1 u2, K hs gs ms ∧ v = .agg #[u1, u2] ∧ HdrAt (assoc h) ρ a hs u1 ∧ HdrAt (assoc h) ρ b gs u2 ∧ PoolAt k (assoc h) (poolOf a b) ms ∧ (∀ p q, a = some p → b = some q → p.2 = q.2 ∧ p.1 ≠ q.1) := by
 unfold kvH2 at hk
 split at hk
 ·rename_i y z
  simp only [D, Cs] at hx
  obtain ⟨cs, ⟨u1, c1, d1, rfl, u2, c2, d2, rfl, rfl⟩, rfl⟩ := hx
  obtain ⟨a, hs, hk, h1⟩ := canH_sound d1 hk
  obtain ⟨b, gs, hk, h2⟩ := canH_sound d2 hk
  have one : ∀ {o : Option (Nat × Nat)} {hs : Hdrs} {u : Value}, HdrAt (assoc h) ρ o hs u → u.cells.toList = [u] := by
   intro o hs u ho
   cases o with
   | none => rw [ho.2]; rfl
   | some q => obtain ⟨_, _, ho⟩ := ho; rw [(single_cell rfl ho).2]
  have e : (u1.cells.toList ++ (u2.cells.toList ++ [])).toArray = #[u1, u2] := by rw [one h1, one h2]; first | rfl | simp
  rw [e]
  cases a with
  | none =>
   cases b with
   | none => exact ⟨none, none, hs, gs, [], u1, u2, hk, rfl, h1, h2, rfl, fun p q e => by cases e⟩
   | some q =>
    obtain ⟨ms, q1, q2, q3⟩ := canP_sound hk
    exact ⟨none, _, hs, gs, ms, u1, u2, q1, rfl, h1, h2, ⟨q2, q3⟩, fun p q e => by cases e⟩
  | some p =>
   obtain ⟨a, pk⟩ := p
   cases b with
   | none =>
    obtain ⟨ms, q1, q2, q3⟩ := canP_sound hk
    exact ⟨_, none, hs, gs, ms, u1, u2, q1, rfl, h1, h2, ⟨q2, q3⟩, fun p q _ e => by cases e⟩
   | some q =>
    obtain ⟨b, pk'⟩ := q
    simp only at hk
    split at hk
    ·rename_i e1 e2
     obtain ⟨ms, q1, q2, q3⟩ := canP_sound hk
     refine ⟨_, _, hs, gs, ms, u1, u2, q1, rfl, h1, h2, ⟨q2, q3⟩, fun p q e e' => ?_⟩
     simp only [Option.some.injEq] at e e'
     subst e e'
     exact ⟨Nat.eq_of_beq_eq_true e1, fun e => by have e : a = b := e; subst e; rw [Nat.beq_refl] at e2; cases e2⟩
    ·exact hk.elim
 ·exact hk.elim

/-! ### The caller's side -/

def hdrSV (key : Nat) (hs : Hdrs) : SV := .sl key 0 1 ⟨true, .ofNat 0⟩ ⟨false, (hs.length : Int)⟩

def famCtrK (kp kq : Nat → Nat) (k : IntKind) (ms : List Md) (spec : List AV → Option (List Prop × Hdrs × Hdrs × List (List Int))) : Ctr := fun stamp args =>
 getA [] ms args fun p avs => (match spec avs with
  | some (p', hs, gs, rows) => .get stamp fun b => (match b with
   | none => .get (kp stamp) fun b => (match b with
    | none => .get (kq stamp) fun b => (match b with
     | none => .ret ⟨p ++ p', .agg [hdrSV stamp hs, hdrSV (kq stamp) gs], [(kp stamp, .pool k rows), (stamp, .segs false [.rowH (kp stamp) hs]), (kq stamp, .segs false [.rowH (kp stamp) gs])], true⟩
     | some _ => .fail)
    | some _ => .fail)
   | some _ => .fail)
  | none => .fail)
def famCtr (k : IntKind) (ms : List Md) (spec : List AV → Option (List Prop × Hdrs × Hdrs × List (List Int))) : Ctr := famCtrK (fun s => s + 500000) (fun s => s + 600000) k ms spec

def onlyRO : List Md → Bool
 | [] => true
 | .v :: r => onlyRO r
 | .d _ :: r => onlyRO r
 | _ :: _ => false

theorem onlyRO_keys : ∀ (ms : List Md) (xs : List SV), onlyRO ms = true → ownKeys ms xs = []
 | [], xs, _ => by cases xs <;> rfl
 | .v :: r, [], _ => rfl
 | .v :: r, x :: xs, h => by
  have : ownKeys (.v :: r) (x :: xs) = ownKeys r xs := by cases x <;> rfl
  rw [this]; exact onlyRO_keys r xs h
 | .d _ :: r, [], _ => rfl
 | .d sh :: r, x :: xs, h => by
  have : ownKeys (.d sh :: r) (x :: xs) = ownKeys r xs := by cases x <;> rfl
  rw [this]; exact onlyRO_keys r xs h
 | .m :: _, _, h => by simp [onlyRO] at h
 | .o :: _, _, h => by simp [onlyRO] at h

def keyOf : Option (Nat × Nat) → Option Nat
 | none => none
 | some (k, _) => some k

theorem HdrAt.segs {H' Hn : Nat → Option SB} {ρ' ρn : Nat → Pl} {pk pn key : Nat} {hs : Hdrs} (hd : dmOf Hn pn) (hρ : ρn pn = ρ' pk) : ∀ (cs : List Value), SegsD (dmOf H') ρ' [.rowH pk hs] cs → SegsD (dmOf Hn) ρn [.rowH pn hs] cs := by
 intro cs h
 obtain ⟨c1, c2, ⟨_, h1⟩, rfl, h2⟩ := h
 refine ⟨c1, c2, ⟨hd, ?_⟩, rfl, h2⟩
 have : ∀ (hs : Hdrs) (cs : List Value), HdrsD (dmOf H') ρ' pk hs cs → HdrsD (dmOf Hn) ρn pn hs cs := by
  intro hs
  induction hs with
  | nil => intro cs h; exact h
  | cons x t ih =>
   intro cs h
   obtain ⟨v, c, a1, a2, a3⟩ := h
   refine ⟨v, c, ?_, a2, ih c a3⟩
   simp only [D] at a1 ⊢
   rw [hρ]
   exact ⟨hd, a1.2⟩
 exact this hs c1 h1

theorem HdrAt.D {H' Hn : Nat → Option SB} {ρ' ρn : Nat → Pl} {a : Option (Nat × Nat)} {hs : Hdrs} {v : Value} (h : HdrAt H' ρ' a hs v) {key : Nat} (hd : dmOf Hn key) (hρ : ∀ k, keyOf a = some k → ρn key = ρ' k) : D (dmOf Hn) ρn (hdrSV key hs) v := by
 cases a with
 | none =>
  obtain ⟨rfl, rfl⟩ := h
  simp only [hdrSV, Gx.D]
  exact ⟨hd, by simp, by simp, by simp [InR], none, 0, by simp, Nat.le_refl _, .inr ⟨by simp, rfl⟩⟩
 | some q =>
  obtain ⟨k, pk⟩ := q
  obtain ⟨_, _, h⟩ := h
  simp only [hdrSV, Gx.D] at h ⊢
  rw [hρ k rfl]
  exact ⟨hd, h.2⟩

end
end Go.Gx

/- Contracts whose answers are lists of rows: the theorems. -/
namespace Go.Gx
open Go.RowKit
set_option linter.unusedVariables false

def fnVcX (Γ : Tab) (fn : Func) (L : Loops) (args : List SV) (h : Heap) (KV : SV → Heap → Prop) (Q : Nat → List Pv → Prop) : Prop :=
 runFn Γ fn (loopKeysM L) args h KV (handM L Q)
def loopVcX (Γ : Tab) (fn : Func) (L : Loops) (key : Nat) (ps : List Pv) (KV : SV → Heap → Prop) (Q : Nat → List Pv → Prop) : Prop :=
 match assoc L key with
 | some t => runLoop Γ fn (loopKeysM L) (key % 1000) (instSt t ps) KV (handM L Q)
 | none => False

structure VcX (KV : SV → Heap → Prop) (Γ : Tab) (fn : Func) (L : Loops) (h : Heap) (args : List SV) (inv : Nat → List Pv → Nat → Prop) : Prop where
 low : ∀ k t, (k, t) ∈ L → ∀ g, g ∈ keysOf h → g < 1000 ∧ (assoc t.heap g).isSome = true
 loop : ∀ vk t ps m, (vk, t) ∈ L → inv vk ps m → runLoop Γ fn (loopKeysM L) (vk % 1000) (instSt t ps) KV (handM L fun key' ps' => ∃ m', m' < m ∧ inv key' ps' m')
 entry : fnVcX Γ fn L args h KV fun key' ps' => ∃ m', inv key' ps' m'

theorem vcX_noloops {KV : SV → Heap → Prop} {Γ : Tab} {fn : Func} {h : Heap} {args : List SV} (hv : fnVcX Γ fn [] args h KV fun _ _ => False) : VcX KV Γ fn [] h args fun _ _ _ => False :=
 ⟨fun k t ht => by simp at ht, fun vk t ps m ht => by simp at ht, by simpa using hv⟩

section
variable {P : Program} {Γ : Tab}

theorem vcX_calls {KV : SV → Heap → Prop} (hΓ : TabOk P Γ) {f : FuncId} {fn : Func} (hf : P.funcs[f]? = some fn) {L : Loops} {h : Heap} {args : List SV} {inv : Nat → List Pv → Nat → Prop} (hv : VcX KV Γ fn L h args inv) (hlen : args.length ≤ fn.ntmps)
  {w : World} {M : Nat → Prop} {ρg : Nat → Pl} {vs : List Value} (hgo : GlOk Γ w M ρg (assoc h)) (g1 : Mem w M ρg (assoc h) w) (ha : Ds (dmOf (assoc h)) ρg args vs) :
  Calls P f vs.toArray w fun e w' => ∃ x v h' ρ', e = .returned v ∧ KV x h' ∧ D (dmOf (assoc h')) ρ' x v ∧ Mem w M ρ' (assoc h') w' ∧ ∀ k, dmOf (assoc h) k → dmOf (assoc h') k ∧ PlLe (ρg k) (ρ' k) := by
 have hweak : ∀ vk t σ' ps, (vk, t) ∈ L → matchSt t σ' = some ps → Weak (assoc h) σ' (instSt t ps) := fun vk t σ' ps ht hm =>
  weak_of_match hm fun k hk => hv.low vk t ht k (keysOf_of_dm hk)
 refine (fn_calls hΓ hf hgo hlen ha g1 (fun m key σ => ∃ vk t ps, (vk, t) ∈ L ∧ vk % 1000 = key ∧ σ = instSt t ps ∧ inv vk ps m) (fun m => handM L fun key' ps' => ∃ m', m' < m ∧ inv key' ps' m') (fun m key σ hj => ?_) (fun m key σ' h => ?_)
  (handM L fun key' ps' => ∃ m', inv key' ps' m') (fun key σ' h => ?_) hv.entry).mono fun e w' he => ?_
 ·obtain ⟨vk, t, ps, ht, rfl, rfl, hinv⟩ := hj
  exact hv.loop vk t ps m ht hinv
 ·obtain ⟨vk, t, ps, ht, hk, hps, m', hlt, hinv⟩ := handM_of h
  exact ⟨m', hlt, _, hweak _ _ _ _ ht hps, vk, t, ps, ht, hk, rfl, hinv⟩
 ·obtain ⟨vk, t, ps, ht, hk, hps, m', hinv⟩ := handM_of h
  exact ⟨m', _, hweak _ _ _ _ ht hps, vk, t, ps, ht, hk, rfl, hinv⟩
 ·obtain ⟨x, v, h', ρ', rfl, k1, k2, k3, k4⟩ := he
  exact ⟨x, v, h', ρ', rfl, k1, k2, k3, k4⟩

theorem dm_iff {H : Nat → Option SB} {k : Nat} : dmOf H k ↔ ∃ b, H k = some b := by unfold dmOf; exact Option.isSome_iff_exists

theorem call_famK {fp fq : Nat → Nat} (hk1' : ∀ s, fq s ≠ s) (hk2' : ∀ s, fp s ≠ s) (hk3' : ∀ s, fp s ≠ fq s) (hΓ : TabOk P Γ) (hgl : Γ.gl = keysOf Γ.gh) (hlow : ∀ g ∈ keysOf Γ.gh, g < 490) {f : FuncId} {fn : Func} (hf : P.funcs[f]? = some fn) (hn : (fn.name == "runtime.NumGoroutine") = false) (hb : fn.body.isNone = false) (k : IntKind)
  (ms : List Md) (hro : onlyRO ms = true) (spec : List AV → Option (List Prop × Hdrs × Hdrs × List (List Int)))
  (h : ∀ avs p hs gs rows, spec avs = some (p, hs, gs, rows) → AllP p → FactA avs → ∃ args' L inv, okA 600 avs args' [] ∧ args'.length ≤ fn.ntmps ∧ VcX (fun x h' => kvH2 k x h' fun hs' gs' rows' => hs' = hs ∧ gs' = gs ∧ rows' = rows) Γ fn L (Γ.gh ++ [(490, .world)]) args' inv) :
  CallOk P Γ.gh f (famCtrK fp fq k ms spec) := by
 intro stamp args H rs rs' d vs w0 M ρ w hG hc hp hD hm
 unfold famCtrK at hc
 have hks := onlyRO_keys ms args hro
 have hB : BanOk w0 M ρ H w [] (fun _ => False) := ⟨fun _ _ _ _ _ _ h => h, fun _ _ _ h => h, fun _ _ _ _ _ _ _ _ _ _ h => h⟩
 obtain ⟨p, avs, rs1, hrun, hAs⟩ := getA_sound P hm hB ms args vs _ d rs rs' hD hc
 rw [hks] at hAs
 split at hrun
 ·rename_i p' hs gs rows hsp
  simp only [RP.run] at hrun
  split at hrun
  ·rename_i hk1
   simp only [RP.run] at hrun
   split at hrun
   ·rename_i hk2
    simp only [RP.run] at hrun
    split at hrun
    ·rename_i hk3
     have e := run_ret hrun
     have n1 := hk1' stamp
     have n2 := hk2' stamp
     have n3 := hk3' stamp
     generalize fq stamp = kq at *
     generalize fp stamp = kp at *
     subst e
     obtain ⟨hp1, hp2⟩ := AllP.append (l := p) (r := p') hp
     have hA := hAs hp1
     obtain ⟨args', L, inv, o1, o2, o3⟩ := h avs p' hs gs rows hsp hp2 (AsD.fact hm avs vs [] hA)
     obtain ⟨ρ1, m1, m2, m3, m4, m5⟩ := gen_mem (h6 := []) hG hgl hlow hm (ks := []) (fun k hk => by cases hk) List.nodup_nil (M' := fun _ => False) (fun b => ⟨fun h => h.elim, fun ⟨k, hk, _⟩ => by cases hk⟩) (fun k b hb => by cases hb) (fun i hi => absurd hi (by simp))
     have hargs := okA_args m3 m4 avs vs [] 600 args' [] hA o1 (fun i hi => absurd hi (by simp))
     refine .inr ⟨f, _, GoFn.run ⟨fn, hf, hn, hb⟩ _ _, (vcX_calls hΓ hf o3 o2 m2 m1 hargs).mono fun e w' he => ?_⟩
     obtain ⟨x, v, h', ρ', rfl, r1, r2, r3, r4⟩ := he
     obtain ⟨a, b, hs', gs', rows', u1, u2, ⟨rfl, rfl, rfl⟩, rfl, t1, t2, t3, t4⟩ := kvH2_sound r2 r1
     refine ⟨_, rfl, ?_⟩
     let ρn : Nat → Pl := fun j => if j = stamp then (match keyOf a with | some c => ρ' c | none => noPl) else if j = kq then (match keyOf b with | some c => ρ' c | none => noPl) else if j = kp then (match poolOf a b with | some c => ρ' c | none => noPl) else ρ j
     let im : Nat → Option (Option Nat) := fun j => if j = stamp then some (keyOf a) else if j = kq then some (keyOf b) else if j = kp then some (poolOf a b) else none
     let Hn := updsH H [(kp, .pool k rows'), (stamp, .segs false [.rowH kp hs']), (kq, .segs false [.rowH kp gs'])]
     have g1 : Hn stamp = some (.segs false [.rowH (kp) hs']) := by
      show updH (updH (updH H _ _) _ _) _ _ stamp = _
      rw [updH_ne (Ne.symm n1), updH_same]
     have g2 : Hn (kq) = some (.segs false [.rowH (kp) gs']) := by
      show updH (updH (updH H _ _) _ _) _ _ (kq) = _
      rw [updH_same]
     have g3 : Hn (kp) = some (.pool k rows') := by
      show updH (updH (updH H _ _) _ _) _ _ (kp) = _
      rw [updH_ne n3, updH_ne n2, updH_same]
     have g4 : ∀ j, j ≠ stamp → j ≠ kq → j ≠ kp → Hn j = H j := fun j h1 h2 h3 => by
      show updH (updH (updH H _ _) _ _) _ _ j = _
      rw [updH_ne h2, updH_ne h1, updH_ne h3]
     have q1 : ρn stamp = (match keyOf a with | some c => ρ' c | none => noPl) := by simp [ρn]
     have q2 : ρn (kq) = (match keyOf b with | some c => ρ' c | none => noPl) := by simp [ρn, n1]
     have q3 : ρn (kp) = (match poolOf a b with | some c => ρ' c | none => noPl) := by simp [ρn, n2, n3]
     have q4 : ∀ j, j ≠ stamp → j ≠ kq → j ≠ kp → ρn j = ρ j := fun j h1 h2 h3 => by simp [ρn, h1, h2, h3]
     have i1 : im stamp = some (keyOf a) := by simp [im]
     have i2 : im (kq) = some (keyOf b) := by simp [im, n1]
     have i3 : im (kp) = some (poolOf a b) := by simp [im, n2, n3]
     have i4 : ∀ j, j ≠ stamp → j ≠ kq → j ≠ kp → im j = none := fun j h1 h2 h3 => by simp [im, h1, h2, h3]
     have dp : dmOf Hn (kp) := dm_of g3
     have cases4 : ∀ j, j = stamp ∨ j = kq ∨ j = kp ∨ (j ≠ stamp ∧ j ≠ kq ∧ j ≠ kp) := fun j => by
      by_cases e1 : j = stamp
      ·exact .inl e1
      ·by_cases e2 : j = kq
       ·exact .inr (.inl e2)
       ·by_cases e3 : j = kp
        ·exact .inr (.inr (.inl e3))
        ·exact .inr (.inr (.inr ⟨e1, e2, e3⟩))
     have hpk : ∀ key pk, a = some (key, pk) ∨ b = some (key, pk) → ρn (kp) = ρ' pk := fun key pk hab => by
      rw [q3]
      rcases hab with rfl | rfl
      ·rfl
      ·cases a with
       | none => rfl
       | some p => simp only [poolOf]; rw [(t4 p _ rfl rfl).1]
     have hMem : Mem w0 M ρn Hn w' := by
      refine Mem.import hm r3 (im := im) (fun j hj => ?_) (fun j c hj => ?_) (fun j hj => ?_) (fun j j' c h1 h2 => ?_) (fun j hj => ?_) (fun b hb => hb.elim) (fun _ _ _ _ _ _ h => h) (fun _ _ _ _ _ _ _ _ _ h => h) (fun j kd ms0 hj hjk => by
       rcases cases4 j with rfl | rfl | rfl | ⟨e1, e2, e3⟩
       ·rw [g1] at hjk; cases hjk
       ·rw [g2] at hjk; cases hjk
       ·rw [g3] at hjk; cases hjk; rfl
       ·exact absurd (i4 j e1 e2 e3) hj) (fun j kd hj hjk => by
       rcases cases4 j with rfl | rfl | rfl | ⟨e1, e2, e3⟩
       ·rw [g1] at hjk; cases hjk
       ·rw [g2] at hjk; cases hjk
       ·rw [g3] at hjk; cases hjk; rfl
       ·rw [i4 j e1 e2 e3] at hj; cases hj)
      ·rcases cases4 j with rfl | rfl | rfl | ⟨e1, e2, e3⟩
       ·rw [i1] at hj; cases hj
       ·rw [i2] at hj; cases hj
       ·rw [i3] at hj; cases hj
       ·exact ⟨g4 j e1 e2 e3, fun _ => q4 j e1 e2 e3⟩
      ·rcases cases4 j with rfl | rfl | rfl | ⟨e1, e2, e3⟩
       ·rw [i1] at hj
        simp only [Option.some.injEq] at hj
        rw [q1, hj]
        refine ⟨rfl, .inr (.inr ?_)⟩
        cases a with
        | none => simp [keyOf] at hj
        | some p =>
         obtain ⟨key, pk⟩ := p
         simp only [keyOf, Option.some.injEq] at hj
         subst hj
         obtain ⟨_, z2, _⟩ := t1
         exact ⟨_, _, g1, z2, HdrAt.segs (key := 0) dp (hpk key pk (.inl rfl))⟩
       ·rw [i2] at hj
        simp only [Option.some.injEq] at hj
        rw [q2, hj]
        refine ⟨rfl, .inr (.inr ?_)⟩
        cases b with
        | none => simp [keyOf] at hj
        | some p =>
         obtain ⟨key, pk⟩ := p
         simp only [keyOf, Option.some.injEq] at hj
         subst hj
         obtain ⟨_, z2, _⟩ := t2
         exact ⟨_, _, g2, z2, HdrAt.segs (key := 0) dp (hpk key pk (.inr rfl))⟩
       ·rw [i3] at hj
        simp only [Option.some.injEq] at hj
        rw [q3, hj]
        refine ⟨rfl, .inr (.inl ?_)⟩
        rw [hj] at t3
        exact ⟨k, rows', g3, t3.2⟩
       ·rw [i4 j e1 e2 e3] at hj; cases hj
      ·rcases cases4 j with rfl | rfl | rfl | ⟨e1, e2, e3⟩
       ·rw [i1] at hj
        simp only [Option.some.injEq] at hj
        rw [q1, hj]
        refine ⟨rfl, .inr (.inr ?_)⟩
        cases a with
        | none =>
         obtain ⟨rfl, _⟩ := t1
         exact ⟨_, g1, [], [], ⟨dp, rfl⟩, rfl, rfl⟩
        | some p => simp [keyOf] at hj
       ·rw [i2] at hj
        simp only [Option.some.injEq] at hj
        rw [q2, hj]
        refine ⟨rfl, .inr (.inr ?_)⟩
        cases b with
        | none =>
         obtain ⟨rfl, _⟩ := t2
         exact ⟨_, g2, [], [], ⟨dp, rfl⟩, rfl, rfl⟩
        | some p => simp [keyOf] at hj
       ·rw [i3] at hj
        simp only [Option.some.injEq] at hj
        rw [q3, hj]
        refine ⟨rfl, .inr (.inl ?_)⟩
        rw [hj] at t3
        have t3 : rows' = [] := t3
        subst t3
        exact ⟨k, g3⟩
       ·rw [i4 j e1 e2 e3] at hj; cases hj
      ·-- keys differ
       have inj : ∀ j c, im j = some (some c) → (j = stamp ∧ keyOf a = some c) ∨ (j = kq ∧ keyOf b = some c) ∨ (j = kp ∧ poolOf a b = some c) := fun j c hj => by
        rcases cases4 j with rfl | rfl | rfl | ⟨e1, e2, e3⟩
        ·rw [i1] at hj; exact .inl ⟨rfl, Option.some.inj hj⟩
        ·rw [i2] at hj; exact .inr (.inl ⟨rfl, Option.some.inj hj⟩)
        ·rw [i3] at hj; exact .inr (.inr ⟨rfl, Option.some.inj hj⟩)
        ·rw [i4 j e1 e2 e3] at hj; cases hj
       have ka : keyOf a = some c → ∃ l, assoc h' c = some (.segs false l) := fun e => by
        cases a with
        | none => cases e
        | some p => obtain ⟨key, pk⟩ := p; simp only [keyOf, Option.some.injEq] at e; subst e; exact ⟨_, t1.2.1⟩
       have kb : keyOf b = some c → ∃ l, assoc h' c = some (.segs false l) := fun e => by
        cases b with
        | none => cases e
        | some p => obtain ⟨key, pk⟩ := p; simp only [keyOf, Option.some.injEq] at e; subst e; exact ⟨_, t2.2.1⟩
       have kp : poolOf a b = some c → assoc h' c = some (.pool k rows') := fun e => by rw [e] at t3; exact t3.2
       have kab : keyOf a = some c → keyOf b = some c → False := fun e e' => by
        cases a with
        | none => cases e
        | some p =>
         cases b with
         | none => cases e'
         | some q =>
          obtain ⟨key, pk⟩ := p
          obtain ⟨key', pk'⟩ := q
          simp only [keyOf, Option.some.injEq] at e e'
          exact (t4 _ _ rfl rfl).2 (e.trans e'.symm)
       rcases inj j c h1 with ⟨rfl, e⟩ | ⟨rfl, e⟩ | ⟨rfl, e⟩ <;> rcases inj j' c h2 with ⟨rfl, e'⟩ | ⟨rfl, e'⟩ | ⟨rfl, e'⟩
       ·rfl
       ·exact (kab e e').elim
       ·obtain ⟨l, z⟩ := ka e; rw [kp e'] at z; cases z
       ·exact (kab e' e).elim
       ·rfl
       ·obtain ⟨l, z⟩ := kb e; rw [kp e'] at z; cases z
       ·obtain ⟨l, z⟩ := ka e'; rw [kp e] at z; cases z
       ·obtain ⟨l, z⟩ := kb e'; rw [kp e] at z; cases z
       ·rfl
      ·have e1 : j ≠ stamp := fun e => by subst e; unfold dmOf at hj; rw [hk1] at hj; cases hj
       have e2 : j ≠ kq := fun e => by subst e; unfold dmOf at hj; rw [hk3] at hj; cases hj
       have e3 : j ≠ kp := fun e => by subst e; unfold dmOf at hj; rw [hk2] at hj; cases hj
       exact ⟨by unfold dmOf; rw [g4 j e1 e2 e3]; exact hj, .of_eq (q4 j e1 e2 e3)⟩
     refine ⟨ρn, fun j hj => ?_, ?_, hMem⟩
     ·have e1 : j ≠ stamp := fun e => by subst e; unfold dmOf at hj; rw [hk1] at hj; cases hj
      have e2 : j ≠ kq := fun e => by subst e; unfold dmOf at hj; rw [hk3] at hj; cases hj
      have e3 : j ≠ kp := fun e => by subst e; unfold dmOf at hj; rw [hk2] at hj; cases hj
      exact .of_eq (q4 j e1 e2 e3)
     ·have d1 : D (dmOf Hn) ρn (hdrSV stamp hs') u1 := t1.D (dm_of g1) fun c e => by rw [q1, e]
      have d2 : D (dmOf Hn) ρn (hdrSV (kq) gs') u2 := t2.D (dm_of g2) fun c e => by rw [q2, e]
      have c1 : u1.cells = #[u1] := (single_cell rfl d1).2
      have c2 : u2.cells = #[u2] := (single_cell rfl d2).2
      show D (dmOf Hn) ρn (.agg [hdrSV stamp hs', hdrSV (kq) gs']) _
      simp only [D, Cs]
      exact ⟨[u1, u2], ⟨u1, [u2], d1, by rw [c1]; rfl, u2, [], d2, by rw [c2]; rfl, rfl⟩, rfl⟩
    ·simp [RP.run] at hrun
   ·simp [RP.run] at hrun
  ·simp [RP.run] at hrun
 ·simp [RP.run] at hrun

theorem call_fam (hΓ : TabOk P Γ) (hgl : Γ.gl = keysOf Γ.gh) (hlow : ∀ g ∈ keysOf Γ.gh, g < 490) {f : FuncId} {fn : Func} (hf : P.funcs[f]? = some fn) (hn : (fn.name == "runtime.NumGoroutine") = false) (hb : fn.body.isNone = false) (k : IntKind)
  (ms : List Md) (hro : onlyRO ms = true) (spec : List AV → Option (List Prop × Hdrs × Hdrs × List (List Int)))
  (h : ∀ avs p hs gs rows, spec avs = some (p, hs, gs, rows) → AllP p → FactA avs → ∃ args' L inv, okA 600 avs args' [] ∧ args'.length ≤ fn.ntmps ∧ VcX (fun x h' => kvH2 k x h' fun hs' gs' rows' => hs' = hs ∧ gs' = gs ∧ rows' = rows) Γ fn L (Γ.gh ++ [(490, .world)]) args' inv) :
  CallOk P Γ.gh f (famCtr k ms spec) :=
 call_famK (fun s => by omega) (fun s => by omega) (fun s => by omega) hΓ hgl hlow hf hn hb k ms hro spec h

end
end Go.Gx

/- Contracts of what is done to lists of rows: all turned in their places; a part of them handed on. -/
namespace Go.Gx
open Go.RowKit
set_option linter.unusedVariables false

theorem Hdrs.move {H' Hn : Nat → Option SB} {ρ' ρn : Nat → Pl} {pk pn : Nat} (hd : dmOf Hn pn) (hρ : ρn pn = ρ' pk) : ∀ (hs : Hdrs) (cs : List Value), HdrsD (dmOf H') ρ' pk hs cs → HdrsD (dmOf Hn) ρn pn hs cs
 | [], cs, h => h
 | x :: t, cs, h => by
  obtain ⟨v, c, a1, a2, a3⟩ := h
  refine ⟨v, c, ?_, a2, Hdrs.move hd hρ t c a3⟩
  simp only [D] at a1 ⊢
  rw [hρ]
  exact ⟨hd, a1.2⟩

section
variable {P : Program} {Γ : Tab}

/-! ### A part of the second row handed on -/

def givenCtr : Ctr := fun stamp args =>
 match args with
 | [.agg [.sl f 0 1 ⟨true, .ofNat 0⟩ n, .sl g 0 1 ⟨true, .ofNat 0⟩ m]] => .ret ⟨[n.z ≤ m.z], .sl g 0 1 ⟨true, .ofNat 0⟩ n, [], false⟩
 | _ => .fail

def givenH : Heap := [(601, .gone), (602, .gone)]
def givenA (n m : Int) : List SV := [.agg [.sl 601 0 1 ⟨true, .ofNat 0⟩ ⟨false, n⟩, .sl 602 0 1 ⟨true, .ofNat 0⟩ ⟨false, m⟩]]

theorem call_given (hΓ : TabOk P Γ) (hgl : Γ.gl = []) (hgh : Γ.gh = []) {f : FuncId} {fn : Func} (hf : P.funcs[f]? = some fn) (hn : (fn.name == "runtime.NumGoroutine") = false) (hb : fn.body.isNone = false)
  (h : ∀ n m : Int, 0 ≤ n → n ≤ m → 1 ≤ fn.ntmps ∧ VcX (fun x h' => ∃ z : Int, x = .sl 602 0 1 ⟨true, .ofNat 0⟩ ⟨false, z⟩ ∧ z = n) Γ fn [] givenH (givenA n m) fun _ _ _ => False) :
  CallOk P [] f givenCtr := by
 intro stamp args H rs rs' d vs w0 M ρ w hG hc hp hD hm
 unfold givenCtr at hc
 split at hc
 ·rename_i kf n kg m
  have e := run_ret hc
  subst e
  have hle : n.z ≤ m.z := hp.1
  simp only [Ds] at hD
  obtain ⟨u, c, hu, rfl, rfl⟩ := hD
  simp only [D, Cs] at hu
  obtain ⟨cs, ⟨u1, c1, d1, rfl, u2, c2, d2, rfl, rfl⟩, rfl⟩ := hu
  obtain ⟨o2, o3⟩ := h n.z m.z d1.2.2.1 hle
  let ρ1 : Nat → Pl := fun j => if j = 601 then ρ kf else ρ kg
  have hat : ∀ j b, assoc givenH j = some b → b = .gone := fun j b hb => by
   simp only [givenH, assoc] at hb
   split at hb
   ·simpa using hb.symm
   ·split at hb
    ·simpa using hb.symm
    ·cases hb
  have g1 : Mem w (fun _ => False) ρ1 (assoc givenH) w := by
   refine ⟨⟨fun j b hb => ?_, fun j j' ro ro' l l' h1 => ?_, fun j ro l h1 => ?_⟩, FrameW.refl _ _, fun j l h1 => ?_, fun j h1 => ?_, fun j l h1 => ?_, .none fun j kd ms h1 => ?_⟩
   ·rw [hat j b hb]; trivial
   all_goals (have := hat _ _ h1; cases this)
  have hgo : GlOk Γ w (fun _ => False) ρ1 (assoc givenH) := ⟨fun g hg => (by rw [hgl] at hg; cases hg), (by rw [hgh]; intro g b hgb; cases hgb)⟩
  have e1 : dmOf (assoc givenH) 601 := dm_of (b := .gone) rfl
  have e2 : dmOf (assoc givenH) 602 := dm_of (b := .gone) rfl
  have hargs : Ds (dmOf (assoc givenH)) ρ1 (givenA n.z m.z) [.agg (u1.cells.toList ++ (u2.cells.toList ++ [])).toArray] := by
   simp only [Ds, givenA]
   refine ⟨_, [], ?_, rfl, rfl⟩
   rw [D]
   refine ⟨_, ?_, rfl⟩
   simp only [Cs]
   refine ⟨u1, _, ?_, rfl, u2, [], ?_, rfl, rfl⟩
   ·simp only [D]; exact ⟨e1, d1.2⟩
   ·simp only [D]; exact ⟨e2, d2.2⟩
  refine .inr ⟨f, _, GoFn.run ⟨fn, hf, hn, hb⟩ _ _, (vcX_calls hΓ hf o3 o2 hgo g1 hargs).mono fun e w' he => ?_⟩
  obtain ⟨x, v, h', ρ', rfl, ⟨z, rfl, rfl⟩, r2, r3, r4⟩ := he
  refine ⟨v, rfl, ρ, .refl _ _, ?_, ?_⟩
  ·have le := (r4 602 e2).2
   simp only [D] at r2 ⊢
   have e3 : at_ (ρ' 602) = at_ (ρ kg) := by
    funext c
    simp only [at_, le.blk, le.off]
    rfl
   rw [e3, le.cap] at r2
   exact ⟨d2.1, r2.2⟩
  ·exact hm.keep (r3.frame.below fun _ h => h)
 ·simp [RP.run] at hc

end
end Go.Gx

/- What is handed in. -/
namespace Go.Gx
open Go.Proofs Go.Sp
set_option linter.unusedVariables false
set_option maxRecDepth 100000

def _root_.Go.Sp.marksL : List Int := [11, 12, 13, 14, 15, 16, 17, 18]
theorem marks_eq : bytesI (ByteArray.mk #[(11 : UInt8), (12 : UInt8), (13 : UInt8), (14 : UInt8), (15 : UInt8), (16 : UInt8), (17 : UInt8), (18 : UInt8)]) = marksL := by decide
theorem marks_len : (bytesI (ByteArray.mk #[(11 : UInt8), (12 : UInt8), (13 : UInt8), (14 : UInt8), (15 : UInt8), (16 : UInt8), (17 : UInt8), (18 : UInt8)])).length = 8 := by rw [marks_eq]; rfl
theorem toN0 : (0 : Int).toNat = 0 := rfl

def _root_.Go.Sp.rowsT (d : RO) (j : Nat) : List (List Int) := (List.range j).map fun i => roL (roN d i) ++ marksL
def _root_.Go.Sp.fullT (d : RO) (j : Nat) : Hdrs := (List.range j).map fun i => (i, (roL (roN d i)).length + 8)
def _root_.Go.Sp.headT (d : RO) (j : Nat) : Hdrs := (List.range j).map fun i => (i, (roL (roN d i)).length)
theorem rowsT_succ (d : RO) (j : Nat) : rowsT d (j + 1) = rowsT d j ++ [roL (roN d j) ++ marksL] := by simp [rowsT, List.range_succ]
theorem fullT_succ (d : RO) (j : Nat) : fullT d (j + 1) = fullT d j ++ [(j, (roL (roN d j)).length + 8)] := by simp [fullT, List.range_succ]
theorem headT_succ (d : RO) (j : Nat) : headT d (j + 1) = headT d j ++ [(j, (roL (roN d j)).length)] := by simp [headT, List.range_succ]
theorem rowsT_len (d : RO) (j : Nat) : (rowsT d j).length = j := by simp [rowsT]
theorem fullT_len (d : RO) (j : Nat) : (fullT d j).length = j := by simp [fullT]
theorem headT_len (d : RO) (j : Nat) : (headT d j).length = j := by simp [headT]

def Γe : Tab := ⟨tys, [], [], []⟩
def L16p : Loops := [(3, ⟨[.ro 490 (.l (.ints .u8)) (.r []), .any, .p 1000 0, .p 1002 0, .i .i64 ⟨false, 0⟩] ++ reps .any 40, [(490, .world), (1000, .segs false [.one .nsl, .one .nsl]), (1002, .segs false [.one .nsl, .one .nsl])], 2000⟩),
 (1003, ⟨[.ro 490 (.l (.ints .u8)) (.r []), .any, .p 1000 0, .p 1002 0, .i .i64 ⟨false, 0⟩] ++ reps .any 40, [(490, .world), (1000, .segs false [.one .nsl, .one .nsl]), (1002, .segs false [.one (.sl 1005 0 1 ⟨true, 0⟩ ⟨false, 0⟩), .one (.sl 1006 0 1 ⟨true, 0⟩ ⟨false, 0⟩)]), (1005, .segs false [.rowH 1007 []]), (1006, .segs false [.rowH 1007 []]), (1007, .pool (.k .u8) [])], 2000⟩)]
def vc16p (d : RO) (KV : Hdrs → Hdrs → List (List Int) → Prop) (Q : Nat → List Pv → Prop) : Prop := fnVcX Γe Tryd.f10 L16p [.ro 490 (.l (.ints .u8)) d] ([] ++ [(490, .world)]) (fun x h => kvH2 .u8 x h KV) Q
def lc16ap (d : RO) (i : Int) (KV : Hdrs → Hdrs → List (List Int) → Prop) (Q : Nat → List Pv → Prop) : Prop := loopVcX Γe Tryd.f10 L16p 3 [.ro d, .z i] (fun x h => kvH2 .u8 x h KV) Q
def lc16bp (d : RO) (i y z : Int) (hs gs : Hdrs) (ms : List (List Int)) (KV : Hdrs → Hdrs → List (List Int) → Prop) (Q : Nat → List Pv → Prop) : Prop := loopVcX Γe Tryd.f10 L16p 1003 [.ro d, .z i, .z y, .z z, .hh hs, .hh gs, .ll ms] (fun x h => kvH2 .u8 x h KV) Q
theorem Γe_ok : TabOk Tryd.prog Γe := .nil mixed tys_ok
theorem vc16p_eq : ∀ (d : RO) (KV : Hdrs → Hdrs → List (List Int) → Prop) (Q : Nat → List Pv → Prop), vc16p d KV Q = (Same Tryd.f10 3 (itemsOf Tryd.f10 3) ∧ Q 3 [Pv.ro d, Pv.z 0]) := by
 intros
 kernel_rfl
theorem lc16ap_eq : ∀ (d : RO) (i : Int) (KV : Hdrs → Hdrs → List (List Int) → Prop) (Q : Nat → List Pv → Prop), lc16ap d i KV Q = ((decide (i < ((roX d).length : Int)) = true → Need (0 ≤ i ∧ i < ((roX d).length : Int)) ∧ Need ((([] ++ roL (roN d i.toNat)).length : Int) * 1 ≤ (70368744177664 : Int)) ∧ ForL .u8 ([] ++ roL (roN d i.toNat)) fun x1 => ForN (([] ++ roL (roN d i.toNat)).length : Int) fun x2 => Need (((x1 ++ bytesI (ByteArray.mk #[11, 12, 13, 14, 15, 16, 17, 18])).length : Int) * 1 ≤ (70368744177664 : Int)) ∧ Need (x2 = ↑x1.length) ∧ ForL .u8 (x1 ++ bytesI (ByteArray.mk #[11, 12, 13, 14, 15, 16, 17, 18])) fun x3 => ForN ((x1 ++ bytesI (ByteArray.mk #[11, 12, 13, 14, 15, 16, 17, 18])).length : Int) fun x4 => Need ((24 : Int) ≤ 70368744177664) ∧ ∀ (x5 : List (List Int)), x5 = [x3] → ForN (1 : Int) fun x6 => Need (0 ≤ i ∧ i < ((roX d).length : Int)) ∧ Need ((0 : Int) ≤ 0 ∧ (0 : Int) ≤ ((roL (roN d i.toNat)).length : Int) ∧ ((roL (roN d i.toNat)).length : Int) ≤ x4) ∧ Need ((24 : Int) ≤ 70368744177664) ∧ ForN (1 : Int) fun x7 => ForI .i64 (IntKind.i64.wrap (i + 1)) fun x8 => Same Tryd.f10 3 (itemsOf Tryd.f10 3) ∧ Q 1003 [Pv.ro d, Pv.z x8, Pv.z x6, Pv.z x7, Pv.hh ([] ++ [((0 : Nat), x4.toNat)]), Pv.hh ([] ++ [((0 : Nat), (((roL (roN d i.toNat)).length : Int)).toNat)]), Pv.ll x5]) ∧ (decide (i < ((roX d).length : Int)) = false → Need ((24 : Int) ≤ 70368744177664) ∧ ∀ (x9 : List (List Int)), x9 = [[(11 : Int), (12 : Int), (13 : Int), (14 : Int), (15 : Int), (16 : Int), (17 : Int), (18 : Int)]] → ForN (1 : Int) fun x10 => Need (x10 = 1) ∧ KV [] ([] ++ [((0 : Nat), (8 : Nat))]) x9)) := by
 intros
 kernel_rfl
theorem lc16bp_eq : ∀ (d : RO) (i y z : Int) (hs gs : Hdrs) (ms : List (List Int)) (KV : Hdrs → Hdrs → List (List Int) → Prop) (Q : Nat → List Pv → Prop), lc16bp d i y z hs gs ms KV Q = ((decide (i < ((roX d).length : Int)) = true → Need (0 ≤ i ∧ i < ((roX d).length : Int)) ∧ Need ((([] ++ roL (roN d i.toNat)).length : Int) * 1 ≤ (70368744177664 : Int)) ∧ ForL .u8 ([] ++ roL (roN d i.toNat)) fun x1 => ForN (([] ++ roL (roN d i.toNat)).length : Int) fun x2 => Need (((x1 ++ bytesI (ByteArray.mk #[11, 12, 13, 14, 15, 16, 17, 18])).length : Int) * 1 ≤ (70368744177664 : Int)) ∧ Need (x2 = ↑x1.length) ∧ ForL .u8 (x1 ++ bytesI (ByteArray.mk #[11, 12, 13, 14, 15, 16, 17, 18])) fun x3 => ForN ((x1 ++ bytesI (ByteArray.mk #[11, 12, 13, 14, 15, 16, 17, 18])).length : Int) fun x4 => Need (↑(List.length hs + 1) * (24 : Int) ≤ 70368744177664) ∧ Need (y = ↑(List.length hs)) ∧ ∀ (x5 : List (List Int)), x5 = ms ++ [x3] → ForN (↑(List.length hs + 1)) fun x6 => Need (0 ≤ i ∧ i < ((roX d).length : Int)) ∧ Need ((0 : Int) ≤ 0 ∧ (0 : Int) ≤ ((roL (roN d i.toNat)).length : Int) ∧ ((roL (roN d i.toNat)).length : Int) ≤ x4) ∧ Need (↑(List.length gs + 1) * (24 : Int) ≤ 70368744177664) ∧ Need (z = ↑(List.length gs)) ∧ ForN (↑(List.length gs + 1)) fun x7 => ForI .i64 (IntKind.i64.wrap (i + 1)) fun x8 => Same Tryd.f10 3 (itemsOf Tryd.f10 3) ∧ Q 1003 [Pv.ro d, Pv.z x8, Pv.z x6, Pv.z x7, Pv.hh (hs ++ [(ms.length, x4.toNat)]), Pv.hh (gs ++ [(ms.length, (((roL (roN d i.toNat)).length : Int)).toNat)]), Pv.ll x5]) ∧ (decide (i < ((roX d).length : Int)) = false → Need (↑(List.length gs + 1) * (24 : Int) ≤ 70368744177664) ∧ Need (z = ↑(List.length gs)) ∧ ∀ (x9 : List (List Int)), x9 = ms ++ [[(11 : Int), (12 : Int), (13 : Int), (14 : Int), (15 : Int), (16 : Int), (17 : Int), (18 : Int)]] → ForN (↑(List.length gs + 1)) fun x10 => Need (y = ↑(List.length hs)) ∧ Need (x10 = ↑(gs ++ [(ms.length, (8 : Nat))]).length) ∧ KV hs (gs ++ [(ms.length, (8 : Nat))]) x9)) := by
 intros
 kernel_rfl

def _root_.Go.Sp.handP (d : RO) : List Prop := [∀ i, i < (roX d).length → ((roL (roN d i)).length : Int) + 8 ≤ 70368744177664, (((roX d).length + 1 : Nat) : Int) * 24 ≤ 70368744177664]
def handG : List AV → Option (List Prop × Hdrs × Hdrs × List (List Int))
 | [.d (.l (.ints .u8)) d] => some (handP d, fullT d (roX d).length, headT d (roX d).length ++ [((roX d).length, 8)], rowsT d (roX d).length ++ [marksL])
 | _ => none
def inv16p (d : RO) (key : Nat) (ps : List Pv) (mm : Nat) : Prop :=
 (key = 3 ∧ ps = [.ro d, .z 0] ∧ mm = (roX d).length + 1) ∨
 (key = 1003 ∧ ∃ j : Nat, 0 < j ∧ j ≤ (roX d).length ∧ ps = [.ro d, .z (j : Int), .z (j : Int), .z (j : Int), .hh (fullT d j), .hh (headT d j), .ll (rowsT d j)] ∧ mm = (roX d).length - j)
theorem handG_ok : CallOk Tryd.prog [] 10 (famCtr .u8 [.d (.l (.ints .u8))] handG) := by
 refine call_fam (Γ := Γe) (fn := Tryd.f10) Γe_ok rfl (fun g hg => by cases hg) rfl (by kernel_rfl) (by kernel_rfl) .u8 _ rfl handG fun av p hs gs rows hsp hp hf => ?_
 unfold handG at hsp
 split at hsp
 ·rename_i d
  simp only [Option.some.injEq, Prod.mk.injEq] at hsp
  obtain ⟨rfl, rfl, rfl, rfl⟩ := hsp
  obtain ⟨h1, h2, _⟩ := hp
  obtain ⟨⟨_, hlen⟩, _⟩ := hf
  refine ⟨[.ro 490 (.l (.ints .u8)) d], L16p, inv16p d, ⟨rfl, trivial⟩, Nat.le_of_ble_eq_true (by kernel_rfl), ?_, ?_, ?_⟩
  ·intro kk t ht g hg
   have hg : g ∈ [490] := hg
   simp only [List.mem_cons, List.not_mem_nil, or_false] at hg
   subst hg
   simp only [L16p, List.mem_cons, List.not_mem_nil, or_false, Prod.mk.injEq] at ht
   obtain ⟨rfl, rfl⟩ | ⟨rfl, rfl⟩ := ht <;> exact ⟨by omega, rfl⟩
  ·rintro vk t ps mm ht (⟨rfl, rfl, rfl⟩ | ⟨rfl, j, hj0, hj, rfl, rfl⟩)
   all_goals simp only [L16p, List.mem_cons, List.not_mem_nil, or_false, Prod.mk.injEq, Nat.reduceEqDiff, false_and, true_and, false_or, or_false] at ht
   ·subst ht
    show lc16ap d 0 _ _
    rw [lc16ap_eq]
    refine ⟨fun hlt => ?_, fun hge => ?_⟩
    ·have hlt := of_decide_eq_true hlt
     have hjl : 0 < (roX d).length := by omega
     have hb := h1 0 hjl
     refine ⟨need_of (by omega), need_of (by rw [toN0]; simp; omega), ?_⟩
     intro x1 e1 _ x2 e2 _ _
     rw [toN0] at e1 e2
     rw [List.nil_append] at e1 e2
     subst e1; subst e2
     refine ⟨need_of (by rw [List.length_append, marks_len]; omega), need_of rfl, ?_⟩
     intro x3 e3 _ x4 e4 _ _
     rw [marks_eq] at e3 e4
     have el : (roL (roN d 0) ++ marksL).length = (roL (roN d 0)).length + 8 := by simp [marksL]
     rw [el] at e4
     subst e3; subst e4
     refine ⟨need_of (by omega), ?_⟩
     intro x5 e5 x6 e6 _ _
     refine ⟨need_of (by omega), need_of (by rw [toN0]; omega), need_of (by omega), ?_⟩
     intro x7 e7 _ _ x8 e8 _
     rw [wrap_i64 (by omega)] at e8
     rw [toN0]
     
     subst e5; subst e6; subst e7; subst e8
     refine ⟨rfl, (roX d).length - (0 + 1), by omega, Or.inr ⟨rfl, 0 + 1, by omega, by omega, ?_, rfl⟩⟩
     rw [fullT_succ, headT_succ, rowsT_succ]
     rfl
    ·have hge := of_decide_eq_false hge
     have h0 : (roX d).length = 0 := by omega
     refine ⟨need_of (by omega), ?_⟩
     intro x9 e9 x10 e10 _ _
     refine ⟨need_of e10, ?_⟩
     rw [h0, e9]
     exact ⟨rfl, rfl, rfl⟩
   ·subst ht
    show lc16bp d (j : Int) (j : Int) (j : Int) (fullT d j) (headT d j) (rowsT d j) _ _
    rw [lc16bp_eq]
    refine ⟨fun hlt => ?_, fun hge => ?_⟩
    ·have hlt := of_decide_eq_true hlt
     have hjl : j < (roX d).length := by omega
     have hb := h1 j hjl
     refine ⟨need_of (by omega), need_of (by rw [Int.toNat_natCast]; simp; omega), ?_⟩
     intro x1 e1 _ x2 e2 _ _
     rw [Int.toNat_natCast] at e1 e2
     rw [List.nil_append] at e1 e2
     subst e1; subst e2
     refine ⟨need_of (by rw [List.length_append, marks_len]; omega), need_of rfl, ?_⟩
     intro x3 e3 _ x4 e4 _ _
     rw [marks_eq] at e3 e4
     have el : (roL (roN d j) ++ marksL).length = (roL (roN d j)).length + 8 := by simp [marksL]
     rw [el] at e4
     subst e3; subst e4
     refine ⟨need_of (by rw [fullT_len]; omega), need_of (by rw [fullT_len]), ?_⟩
     intro x5 e5 x6 e6 _ _
     refine ⟨need_of (by omega), need_of (by rw [Int.toNat_natCast]; omega), need_of (by rw [headT_len]; omega), need_of (by rw [headT_len]), ?_⟩
     intro x7 e7 _ _ x8 e8 _
     rw [wrap_i64 (by omega)] at e8
     rw [Int.toNat_natCast]
     rw [fullT_len] at e6; rw [headT_len] at e7; rw [rowsT_len]
     subst e5; subst e6; subst e7; subst e8
     refine ⟨rfl, (roX d).length - (j + 1), by omega, Or.inr ⟨rfl, j + 1, by omega, by omega, ?_, rfl⟩⟩
     rw [fullT_succ, headT_succ, rowsT_succ]
     rfl
    ·have hge := of_decide_eq_false hge
     obtain rfl : j = (roX d).length := by omega
     refine ⟨need_of (by rw [headT_len]; omega), need_of (by rw [headT_len]), ?_⟩
     intro x9 e9 x10 e10 _ _
     refine ⟨need_of (by rw [fullT_len]), need_of (by rw [e10, headT_len, List.length_append, headT_len]; rfl), rfl, ?_, ?_⟩
     ·rw [rowsT_len]
     ·rw [e9]; rfl
  ·show vc16p d _ _
   rw [vc16p_eq]
   exact ⟨rfl, _, Or.inl ⟨rfl, rfl, rfl⟩⟩
 ·cases hsp

def vc17p (n m : Int) (KV : SV → Prop) (Q : Nat → List Pv → Prop) : Prop := fnVcX Γe Tryd.f12 [] (givenA n m) givenH (fun x _ => KV x) Q
theorem vc17p_eq : ∀ (n m : Int) (KV : SV → Prop) (Q : Nat → List Pv → Prop), vc17p n m KV Q = (Need ((0 : Int) ≤ 0 ∧ 0 ≤ n ∧ n ≤ m) ∧ KV (SV.sl (602 : Nat) (0 : Nat) (1 : Nat) { st := true, z := (0 : Int) } { st := false, z := n })) := by
 intros
 kernel_rfl

theorem given_ok : CallOk Tryd.prog [] 12 givenCtr := by
 refine call_given (Γ := Γe) (fn := Tryd.f12) Γe_ok rfl rfl rfl (by kernel_rfl) (by kernel_rfl) fun n m h1 h2 => ⟨Nat.le_of_ble_eq_true (by kernel_rfl), vcX_noloops ?_⟩
 show vc17p n m (fun x => ∃ z : Int, x = .sl 602 0 1 ⟨true, .ofNat 0⟩ ⟨false, z⟩ ∧ z = n) _
 rw [vc17p_eq]
 exact ⟨need_of ⟨by omega, by omega, h2⟩, n, rfl, rfl⟩

/-! ### turned -/

def _root_.Go.Sp.hs2 (gs : Hdrs) (i : Nat) : Hdrs := (List.range i).map fun r => (r, (gs.getD r (0, 0)).2)
theorem ofB_append (a b : List Int) : ofBytesI (a ++ b) = ofBytesI a ++ ofBytesI b := by
 apply ByteArray.ext
 rw [ByteArray.data_append]
 simp [ofBytesI]
theorem marksB : ofBytesI marksL = (ByteArray.mk #[(11 : UInt8), (12 : UInt8), (13 : UInt8), (14 : UInt8), (15 : UInt8), (16 : UInt8), (17 : UInt8), (18 : UInt8)]) := by rfl
theorem ofB_size (l : List Int) : (ofBytesI l).size = l.length := by simp [ofBytesI, ByteArray.size]

def shH : Sh := .r [.l (.ints .u8), .l (.ints .u8)]
def L19p : Loops := [(4, ⟨[.any, .ro 490 (.l (.ints .u8)) (.r []), .p 1000 0, .any, .any, .i .i64 ⟨false, 0⟩] ++ reps .any 50, [(490, .world), (1000, .segs false [.one (.ro 490 (.l (.ints .u8)) (.r [])), .one (.ro 490 (.l (.ints .u8)) (.r []))])], 2000⟩)]
def vc19p (h d : RO) (K : List RV → List (Option (List Seg)) → Prop) (Q : Nat → List Pv → Prop) : Prop := fnVcG 0 Γe Tryd.f13 L19p [svOf 490 shH h, .ro 490 (.l (.ints .u8)) d] ([] ++ [(490, .world)]) K Q
def lc19p (d : RO) (i : Int) (f g : RO) (K : List RV → List (Option (List Seg)) → Prop) (Q : Nat → List Pv → Prop) : Prop := loopVcG 0 Γe Tryd.f13 L19p 4 [.ro d, .z i, .ro f, .ro g] K Q
theorem vc19p_eq : ∀ (h d : RO) (K : List RV → List (Option (List Seg)) → Prop) (Q : Nat → List Pv → Prop), vc19p h d K Q = ForI .i64 (IntKind.i64.wrap (((roX d).length : Int) + 1)) fun x1 => ((↑(roX (roN h (1 : Nat))).length != x1) = true → K [RV.v (SV.b true false)] []) ∧ ((↑(roX (roN h (1 : Nat))).length != x1) = false → Need ((0 : Int) ≤ ((roX d).length : Int) ∧ ((roX d).length : Int) < ↑(roX (roN h (1 : Nat))).length) ∧ ((!(ofBytesI (roL (roN (roN h (1 : Nat)) (((roX d).length : Int)).toNat))).toList == (ByteArray.mk #[11, 12, 13, 14, 15, 16, 17, 18]).toList) = true → K [RV.v (SV.b true false)] []) ∧ ((!(ofBytesI (roL (roN (roN h (1 : Nat)) (((roX d).length : Int)).toNat))).toList == (ByteArray.mk #[11, 12, 13, 14, 15, 16, 17, 18]).toList) = false → Same Tryd.f13 4 (itemsOf Tryd.f13 4) ∧ Q 4 [Pv.ro d, Pv.z 0, Pv.ro (roN h (0 : Nat)), Pv.ro (roN h (1 : Nat))])) := by
 intros
 kernel_rfl
theorem lc19p_eq : ∀ (d : RO) (i : Int) (f g : RO) (K : List RV → List (Option (List Seg)) → Prop) (Q : Nat → List Pv → Prop), lc19p d i f g K Q = ((decide (i < ((roX d).length : Int)) = true → Need (0 ≤ i ∧ i < ((roX f).length : Int)) ∧ Need (0 ≤ i ∧ i < ((roX d).length : Int)) ∧ Need (↑((ofBytesI (roL (roN d i.toNat))).size + (8 : Nat)) < (9223372036854775808 : Int)) ∧ ((!(ofBytesI (roL (roN f i.toNat))).toList == (ofBytesI (roL (roN d i.toNat)) ++ (ByteArray.mk #[11, 12, 13, 14, 15, 16, 17, 18])).toList) = true → K [RV.v (SV.b true false)] []) ∧ ((!(ofBytesI (roL (roN f i.toNat))).toList == (ofBytesI (roL (roN d i.toNat)) ++ (ByteArray.mk #[11, 12, 13, 14, 15, 16, 17, 18])).toList) = false → Need (0 ≤ i ∧ i < ((roX g).length : Int)) ∧ Need (0 ≤ i ∧ i < ((roX d).length : Int)) ∧ ((!(ofBytesI (roL (roN g i.toNat))).toList == (ofBytesI (roL (roN d i.toNat))).toList) = true → K [RV.v (SV.b true false)] []) ∧ ((!(ofBytesI (roL (roN g i.toNat))).toList == (ofBytesI (roL (roN d i.toNat))).toList) = false → ForI .i64 (IntKind.i64.wrap (i + 1)) fun x1 => Same Tryd.f13 4 (itemsOf Tryd.f13 4) ∧ Q 4 [Pv.ro d, Pv.z x1, Pv.ro f, Pv.ro g]))) ∧ (decide (i < ((roX d).length : Int)) = false → K [RV.v (SV.b true true)] [])) := by
 intros
 kernel_rfl
def _root_.Go.Sp.leftP (h d : RO) : List Prop := [(roX (roN h 1)).length = (roX d).length + 1 ∧ (roX (roN h 0)).length = (roX d).length ∧ roL (roN (roN h 1) (roX d).length) = marksL,
 ∀ i, i < (roX d).length → roL (roN (roN h 0) i) = roL (roN d i) ++ marksL ∧ roL (roN (roN h 1) i) = roL (roN d i) ∧ ((roL (roN d i)).length : Int) + 8 < 9223372036854775808]
def leftG : List AV → Option (List Prop × List RV × List (Option (List Seg)))
 | [.d (.r [.l (.ints .u8), .l (.ints .u8)]) h, .d (.l (.ints .u8)) d] => some (leftP h d, [.v (.b false true)], [])
 | _ => none
theorem left_ok : CallOk Tryd.prog [] 13 (genCtr [.d shH, .d (.l (.ints .u8))] leftG) := by
 refine call_gen (Γ := Γe) (fn := Tryd.f13) Γe_ok rfl (fun g hg => by cases hg) rfl (by kernel_rfl) (by kernel_rfl) _ leftG fun av p rvs fin hs hp hf => ?_
 unfold leftG at hs
 split at hs
 ·rename_i h d
  simp only [Option.some.injEq, Prod.mk.injEq] at hs
  obtain ⟨rfl, rfl, rfl⟩ := hs
  obtain ⟨⟨p1, p2, p3⟩, hrow, _⟩ := hp
  obtain ⟨⟨_, ⟨_, hl⟩, _⟩, _⟩ := hf
  have hl : ((roX (roN h 1)).length : Int) < 9223372036854775808 := hl
  refine ⟨[svOf 490 shH h, .ro 490 (.l (.ints .u8)) d], [], L19p, fun key ps mm => key = 4 ∧ ∃ j : Nat, j ≤ (roX d).length ∧ ps = [.ro d, .z (j : Int), .ro (roN h 0), .ro (roN h 1)] ∧ mm = (roX d).length - j, ⟨rfl, rfl, trivial⟩, Nat.le_of_ble_eq_true (by kernel_rfl), ?_, ?_, ?_⟩
  ·intro kk t ht g hg
   have hg : g ∈ [490] := hg
   simp only [List.mem_cons, List.not_mem_nil, or_false] at hg
   subst hg
   simp only [L19p, List.mem_cons, List.not_mem_nil, or_false, Prod.mk.injEq] at ht
   obtain ⟨rfl, rfl⟩ := ht
   exact ⟨by omega, rfl⟩
  ·rintro vk t ps mm ht ⟨rfl, j, hj, rfl, rfl⟩
   simp only [L19p, List.mem_cons, List.not_mem_nil, or_false, Prod.mk.injEq] at ht
   obtain ⟨_, rfl⟩ := ht
   show lc19p d (j : Int) (roN h 0) (roN h 1) _ _
   rw [lc19p_eq]
   refine ⟨fun hlt => ?_, fun hge => ?_⟩
   ·have hlt := of_decide_eq_true hlt
    obtain ⟨a1, a2, a3⟩ := hrow j (by omega)
    rw [Int.toNat_natCast, a1, a2, ofB_append, marksB, ofB_size]
    refine ⟨need_of (by omega), need_of (by omega), need_of (by omega), fun hc => by simp at hc, fun _ => ⟨need_of (by omega), need_of (by omega), fun hc => by simp at hc, fun _ => ?_⟩⟩
    intro x1 e1 _
    rw [wrap_i64 (by omega)] at e1
    subst e1
    exact ⟨rfl, (roX d).length - (j + 1), by omega, rfl, j + 1, by omega, rfl, rfl⟩
   ·exact ⟨⟨rfl, trivial⟩, trivial⟩
  ·show vc19p h d _ _
   rw [vc19p_eq]
   intro x1 e1 _
   rw [wrap_i64 (by omega)] at e1
   rw [Int.toNat_natCast, p3, marksB]
   refine ⟨fun hc => ?_, fun _ => ⟨need_of (by omega), fun hc => by simp at hc, fun _ => ⟨rfl, _, rfl, 0, Nat.zero_le _, rfl, rfl⟩⟩⟩
   rw [bne_iff_ne] at hc
   exact absurd (by rw [e1, p1]; rfl) hc
 ·cases hs

def _root_.Go.Sp.hx (d : RO) : List RO := (List.range (roX d).length).map fun i => RO.l (roL (roN d i))
def _root_.Go.Sp.tx (d : RO) : List RO := (List.range (roX d).length).map fun i => RO.l ((roL (roN d i)).map fun z => xorI .u8 z 59)
theorem hx_len (d : RO) : (hx d).length = (roX d).length := by simp [hx]
theorem getN (d : RO) : (roX d).map roL = (List.range (roX d).length).map fun i => roL (roN d i) := by
 apply List.ext_getElem
 ·simp
 ·intro i h1 h2
  have h : i < (roX d).length := by simpa using h1
  simp [roN, List.getD_eq_getElem?_getD, h]
theorem hx_map (d : RO) : (hx d).map roL = (roX d).map roL := by
 rw [getN, hx, List.map_map]; rfl
theorem rN_map (f : Nat → RO) (n i : Nat) (h : i < n) (l : List RO) : roN (RO.r ((List.range n).map f ++ l)) i = f i := by
 show ((List.range n).map f ++ l).getD i (RO.r []) = f i
 rw [List.getD_eq_getElem?_getD, List.getElem?_append_left (by simpa using h)]
 simp [h]

section
variable (d : RO)

theorem rows_at (i : Nat) (h : i < (roX d).length) (l : List (List Int)) : (rowsT d (roX d).length ++ l).getD i [] = roL (roN d i) ++ marksL := by
 rw [List.getD_eq_getElem?_getD, List.getElem?_append_left (by rw [rowsT_len]; exact h)]
 simp [rowsT, h]
theorem rows_last (l : List Int) : (rowsT d (roX d).length ++ [l]).getD (roX d).length [] = l := by
 rw [List.getD_eq_getElem?_getD, List.getElem?_append_right (by rw [rowsT_len]; exact Nat.le_refl _), rowsT_len, Nat.sub_self]; rfl
theorem heads_length : (headT d (roX d).length ++ [((roX d).length, 8)]).length = (roX d).length + 1 := by rw [List.length_append, headT_len]; rfl
theorem heads_take : List.take (roX d).length (List.drop 0 (headT d (roX d).length ++ [((roX d).length, 8)])) = headT d (roX d).length := by
 rw [List.drop_zero, List.take_append_of_le_length (by rw [headT_len]; exact Nat.le_refl _), List.take_of_length_le (by rw [headT_len]; exact Nat.le_refl _)]
theorem heads_all : List.take ((roX d).length + 1) (List.drop 0 (headT d (roX d).length ++ [((roX d).length, 8)])) = headT d (roX d).length ++ [((roX d).length, 8)] := by
 rw [List.drop_zero, List.take_of_length_le (by rw [heads_length]; exact Nat.le_refl _)]
theorem full_all : List.take (roX d).length (List.drop 0 (fullT d (roX d).length)) = fullT d (roX d).length := by
 rw [List.drop_zero, List.take_of_length_le (by rw [fullT_len]; exact Nat.le_refl _)]
theorem heads_at (i : Nat) (h : i < (roX d).length) : (headT d (roX d).length ++ [((roX d).length, 8)]).getD i (0, 0) = (i, (roL (roN d i)).length) := by
 rw [List.getD_eq_getElem?_getD, List.getElem?_append_left (by rw [headT_len]; exact h)]
 simp [headT, h]
theorem head_map (f : Nat × Nat → RO) : (headT d (roX d).length).map f = (List.range (roX d).length).map fun i => f (i, (roL (roN d i)).length) := by simp [headT]
theorem full_map (f : Nat × Nat → RO) : (fullT d (roX d).length).map f = (List.range (roX d).length).map fun i => f (i, (roL (roN d i)).length + 8) := by simp [fullT]
theorem range_congr {n : Nat} {f g : Nat → RO} (h : ∀ i, i < n → f i = g i) : (List.range n).map f = (List.range n).map g :=
 List.map_congr_left fun i hi => h i (List.mem_range.1 hi)

theorem v_head : List.map (fun h : Nat × Nat => RO.l (List.take h.snd ((rowsT d (roX d).length ++ [marksL]).getD h.fst []))) (headT d (roX d).length) = hx d := by
 rw [head_map, hx]
 refine range_congr fun i hi => ?_
 show RO.l (List.take (roL (roN d i)).length ((rowsT d (roX d).length ++ [marksL]).getD i [])) = _
 rw [rows_at d i hi, List.take_left]
theorem v_full : List.map (fun h : Nat × Nat => RO.l (List.take h.snd ((rowsT d (roX d).length ++ [marksL]).getD h.fst []))) (fullT d (roX d).length) = (List.range (roX d).length).map fun i => RO.l (roL (roN d i) ++ marksL) := by
 rw [full_map]
 refine range_congr fun i hi => ?_
 show RO.l (List.take ((roL (roN d i)).length + 8) ((rowsT d (roX d).length ++ [marksL]).getD i [])) = _
 rw [rows_at d i hi, List.take_of_length_le]
 rw [List.length_append]; exact Nat.le_refl _
theorem v_all : List.map (fun h : Nat × Nat => RO.l (List.take h.snd ((rowsT d (roX d).length ++ [marksL]).getD h.fst []))) (headT d (roX d).length ++ [((roX d).length, 8)]) = hx d ++ [RO.l marksL] := by
 rw [List.map_append, v_head, List.map_cons, List.map_nil, rows_last]; rfl
theorem b_head : ∀ h : Nat × Nat, h ∈ headT d (roX d).length → h.snd ≤ ((rowsT d (roX d).length ++ [marksL]).getD h.fst []).length := by
 intro h hh
 simp only [headT, List.mem_map, List.mem_range] at hh
 obtain ⟨i, hi, rfl⟩ := hh
 rw [rows_at d i hi, List.length_append]; exact Nat.le_add_right _ _
theorem b_full : ∀ h : Nat × Nat, h ∈ fullT d (roX d).length → h.snd ≤ ((rowsT d (roX d).length ++ [marksL]).getD h.fst []).length := by
 intro h hh
 simp only [fullT, List.mem_map, List.mem_range] at hh
 obtain ⟨i, hi, rfl⟩ := hh
 rw [rows_at d i hi, List.length_append]; exact Nat.le_refl _
theorem b_all : ∀ h : Nat × Nat, h ∈ headT d (roX d).length ++ [((roX d).length, 8)] → h.snd ≤ ((rowsT d (roX d).length ++ [marksL]).getD h.fst []).length := by
 intro h hh
 rcases List.mem_append.1 hh with hh | hh
 ·exact b_head d h hh
 ·simp only [List.mem_singleton] at hh
  subst hh
  rw [rows_last]; exact Nat.le_refl _

theorem l_1 : (roX (roN (RO.r [RO.r ((List.range (roX d).length).map fun i => RO.l (roL (roN d i) ++ marksL)), RO.r (hx d ++ [RO.l marksL])]) 1)).length = (roX d).length + 1 ∧
  (roX (roN (RO.r [RO.r ((List.range (roX d).length).map fun i => RO.l (roL (roN d i) ++ marksL)), RO.r (hx d ++ [RO.l marksL])]) 0)).length = (roX d).length ∧
  roL (roN (roN (RO.r [RO.r ((List.range (roX d).length).map fun i => RO.l (roL (roN d i) ++ marksL)), RO.r (hx d ++ [RO.l marksL])]) 1) (roX d).length) = marksL := by
 refine ⟨?_, ?_, ?_⟩
 ·show (hx d ++ [RO.l marksL]).length = _
  rw [List.length_append, hx_len]; rfl
 ·show (List.map _ _).length = _
  simp
 ·show roL ((hx d ++ [RO.l marksL]).getD (roX d).length (RO.r [])) = _
  rw [List.getD_eq_getElem?_getD, List.getElem?_append_right (by rw [hx_len]; exact Nat.le_refl _), hx_len, Nat.sub_self]; rfl
theorem l_2 (hb : ∀ i, i < (roX d).length → ((roL (roN d i)).length : Int) + 8 ≤ 70368744177664) : ∀ i, i < (roX d).length →
  roL (roN (roN (RO.r [RO.r ((List.range (roX d).length).map fun i => RO.l (roL (roN d i) ++ marksL)), RO.r (hx d ++ [RO.l marksL])]) 0) i) = roL (roN d i) ++ marksL ∧
  roL (roN (roN (RO.r [RO.r ((List.range (roX d).length).map fun i => RO.l (roL (roN d i) ++ marksL)), RO.r (hx d ++ [RO.l marksL])]) 1) i) = roL (roN d i) ∧ ((roL (roN d i)).length : Int) + 8 < 9223372036854775808 := by
 intro i hi
 refine ⟨?_, ?_, by have := hb i hi; omega⟩
 ·have := rN_map (fun i => RO.l (roL (roN d i) ++ marksL)) (roX d).length i hi []
  rw [List.append_nil] at this
  show roL (roN (RO.r ((List.range (roX d).length).map fun i => RO.l (roL (roN d i) ++ marksL))) i) = _
  rw [this]; rfl
 ·show roL (roN (RO.r (hx d ++ [RO.l marksL])) i) = _
  rw [hx, rN_map _ _ i hi]; rfl

end
end Go.Gx

/- The contract of a function that writes into each of the caller's rows, and appends to it. -/
namespace Go.Gx
open Go.RowKit
set_option linter.unusedVariables false

section
variable {P : Program} {Γ : Tab} {w0 : World} {M : Nat → Prop} {ρ : Nat → Pl} {H : Nat → Option SB} {w : World}

def OwnD (H : Nat → Option SB) (ρ : Nat → Pl) (k : IntKind) : List SV → List Value → List Nat → List (List Int) → Hdrs → Prop
 | [], vs, ks, ls, hs => vs = [] ∧ ks = [] ∧ ls = [] ∧ hs = []
 | x :: r, vs, ks, ls, hs => ∃ v c key ks' l ls' n hs', vs = v :: c ∧ ks = key :: ks' ∧ ls = l :: ls' ∧ hs = (0, n) :: hs' ∧ H key = some (.segs false [.rowI k l]) ∧
   (n : Int) < 9223372036854775808 ∧ (∃ a cap, v = .slice a n cap ∧ n ≤ cap ∧ ((a = some (at_ (ρ key) 0) ∧ cap ≤ (ρ key).cap) ∨ (n = 0 ∧ cap = 0))) ∧ OwnD H ρ k r c ks' ls' hs'

theorem OwnD.len {k : IntKind} : ∀ {xs : List SV} {vs : List Value} {ks : List Nat} {ls : List (List Int)} {hs : Hdrs}, OwnD H ρ k xs vs ks ls hs → ks.length = xs.length ∧ ls.length = xs.length ∧ hs.length = xs.length ∧ vs.length = xs.length
 | [], vs, ks, ls, hs, h => by obtain ⟨rfl, rfl, rfl, rfl⟩ := h; exact ⟨rfl, rfl, rfl, rfl⟩
 | x :: r, vs, ks, ls, hs, h => by
  obtain ⟨v, c, key, ks', l, ls', n, hs', rfl, rfl, rfl, rfl, _, _, _, h2⟩ := h
  obtain ⟨a, b, c, d⟩ := OwnD.len h2
  simp [a, b, c, d]

theorem OwnD.key {k : IntKind} : ∀ {xs : List SV} {vs : List Value} {ks : List Nat} {ls : List (List Int)} {hs : Hdrs}, OwnD H ρ k xs vs ks ls hs → ∀ i, i < ks.length → H (ks.getD i 0) = some (.segs false [.rowI k (ls.getD i [])])
 | [], vs, ks, ls, hs, h, i, hi => by obtain ⟨rfl, rfl, rfl, rfl⟩ := h; exact absurd hi (by simp)
 | x :: r, vs, ks, ls, hs, h, 0, hi => by
  obtain ⟨v, c, key, ks', l, ls', n, hs', rfl, rfl, rfl, rfl, h1, _, _, h2⟩ := h
  exact h1
 | x :: r, vs, ks, ls, hs, h, i + 1, hi => by
  obtain ⟨v, c, key, ks', l, ls', n, hs', rfl, rfl, rfl, rfl, h1, _, _, h2⟩ := h
  have := OwnD.key h2 i (by simpa using hi)
  simpa using this

end
end Go.Gx

/- The contract of a function that is handed a pointer to a record of a pool. -/
namespace Go.Gx
open Go.RowKit
set_option linter.unusedVariables false

section
variable {P : Program} {Γ : Tab} {w0 : World} {M : Nat → Prop} {ρ : Nat → Pl} {H : Nat → Option SB} {w : World}

theorem Mem.pool_put (h : Mem w0 M ρ H w) {key : Nat} (hk : H key = some .gone) {k : PK} {ms : List (List Int)} (hsn : k.seen = none) (hP : PoolD w0 M w (ρ key) k ms)
  (h5 : ∀ k' ro l i c, H k' = some (.segs ro l) → 0 < (ρ k').cap → i < ms.length → OwnB w (ρ key) k i c → (ρ k').blk ≠ c)
  (h6 : ∀ k' kd ms' i j c, H k' = some (.pool kd ms') → i < ms.length → j < ms'.length → OwnB w (ρ key) k i c → OwnB w (ρ k') kd j c → False) : Mem w0 M ρ (updH H key (.pool k ms)) w := by
 have hx : ∀ k' ro l', updH H key (.pool k ms) k' = some (.segs ro l') → H k' = some (.segs ro l') := fun k' ro l' h => by
  by_cases e : k' = key
  ·subst e; rw [updH_same] at h; cases h
  ·rw [updH_ne e] at h; exact h
 have hp : ∀ k' kd ms', updH H key (.pool k ms) k' = some (.pool kd ms') → (k' = key ∧ kd = k ∧ ms' = ms) ∨ (k' ≠ key ∧ H k' = some (.pool kd ms')) := fun k' kd ms' h => by
  by_cases e : k' = key
  ·subst e; rw [updH_same] at h; simp only [Option.some.injEq, SB.pool.injEq] at h; exact .inl ⟨rfl, h.1.symm, h.2.symm⟩
  ·rw [updH_ne e] at h; exact .inr ⟨e, h⟩
 refine ⟨⟨fun k' b hb => ?_, fun k1 k2 ro ro' l1 l2 e1 e2 => h.heap.sep k1 k2 ro ro' l1 l2 (hx _ _ _ e1) (hx _ _ _ e2), fun k' ro l1 e1 => h.heap.lt k' ro l1 (hx _ _ _ e1)⟩, h.frame, fun k' l1 e1 => h.own k' l1 (hx _ _ _ e1), view_upH h.view (by simp), fun k' l1 e1 => h.clean k' l1 (hx _ _ _ e1),
  ⟨fun k' kd ms' hk' => ?_, fun k1 kd ms1 k2 ro l1 i c e1 e2 c1 hi c2 => ?_, fun k1 kd ms1 k2 kd' ms2 i j c e1 e2 hkk hi hj c1 c2 => ?_, fun k' kd q r ms' hk' => ?_⟩⟩
 ·by_cases e : k' = key
  ·subst e; rw [updH_same] at hb; simp only [Option.some.injEq] at hb; subst hb; trivial
  ·rw [updH_ne e] at hb
   exact (h.heap.blk k' b hb).of_block (dm_updH _ _ _) (fun _ _ => .refl _) rfl (fun _ _ _ _ => rfl)
 ·rcases hp _ _ _ hk' with ⟨rfl, rfl, rfl⟩ | ⟨n, d⟩
  ·exact hP
  ·exact h.pools.pool k' kd ms' d
 ·rcases hp _ _ _ e1 with ⟨rfl, rfl, rfl⟩ | ⟨n, d⟩
  ·exact h5 _ _ _ _ _ (hx _ _ _ e2) c1 hi c2
  ·exact h.pools.apartD k1 kd ms1 k2 ro l1 i c d (hx _ _ _ e2) c1 hi c2
 ·rcases hp _ _ _ e1 with ⟨rfl, rfl, rfl⟩ | ⟨n1, d1⟩
  ·rcases hp _ _ _ e2 with ⟨rfl, rfl, rfl⟩ | ⟨n2, d2⟩
   ·exact absurd rfl hkk
   ·exact h6 _ _ _ _ _ _ d2 hi hj c1 c2
  ·rcases hp _ _ _ e2 with ⟨rfl, rfl, rfl⟩ | ⟨n2, d2⟩
   ·exact h6 _ _ _ _ _ _ d1 hj hi c2 c1
   ·exact h.pools.twoD k1 kd ms1 k2 kd' ms2 i j c d1 d2 hkk hi hj c1 c2
 ·rcases hp _ _ _ hk' with ⟨rfl, e, rfl⟩ | ⟨n, d⟩
  ·rw [← e] at hsn; cases hsn
  ·obtain ⟨v1, v2, v3, v4⟩ := h.pools.view k' kd q r ms' d
   exact ⟨dm_updH _ _ _ q v1, v2, v3, v4⟩

end
end Go.Gx

/- The contract of a function that spoils rows of a pool through a row of headers: both are let go. -/
namespace Go.Gx
open Go.RowKit
set_option linter.unusedVariables false

def spoilCtr (k : IntKind) (spec : Int → Hdrs → List (List Int) → Option (List Prop)) : Ctr := fun stamp args =>
 match args with
 | [.sl key 0 1 ⟨true, .ofNat 0⟩ len] => .get key fun b => (match b with
  | some (.segs false [.rowH pk hs]) => .get pk fun c => (match c with
   | some (.pool (.k k') ms) => (match keq k' k, spec len.z hs ms with
    | true, some p => .ret ⟨p, .tup [], [(key, .gone), (pk, .gone)], false⟩
    | _, _ => .fail)
   | _ => .fail)
  | _ => .fail)
 | _ => .fail

def spoilH (k : IntKind) (hs : Hdrs) (ms : List (List Int)) : Heap := [(600, .pool k ms), (601, .segs false [.rowH 600 hs])]
def spoilA (n : Int) : List SV := [.sl 601 0 1 ⟨true, .ofNat 0⟩ ⟨false, n⟩]

section
variable {P : Program} {Γ : Tab} {w0 : World} {M : Nat → Prop} {ρ : Nat → Pl} {H : Nat → Option SB} {w : World}

theorem HdrsD.rekey {dm dm' : Nat → Prop} {ρ ρ' : Nat → Pl} {key key' : Nat} (hd : dm' key') (hρ : ρ' key' = ρ key) : ∀ (hs : Hdrs) (cs : List Value), HdrsD dm ρ key hs cs → HdrsD dm' ρ' key' hs cs
 | [], cs, h => h
 | x :: t, cs, h => by
  obtain ⟨v, c, h1, rfl, h3⟩ := h
  refine ⟨v, c, ?_, rfl, HdrsD.rekey hd hρ t c h3⟩
  simp only [D] at h1 ⊢
  rw [hρ]
  exact ⟨hd, h1.2⟩

theorem call_spoil (hΓ : TabOk P Γ) (hgl : Γ.gl = []) (hgh : Γ.gh = []) {f : FuncId} {fn : Func} (hf : P.funcs[f]? = some fn) (hn : (fn.name == "runtime.NumGoroutine") = false) (hb : fn.body.isNone = false) (k : IntKind)
  (spec : Int → Hdrs → List (List Int) → Option (List Prop))
  (h : ∀ n hs ms p, spec n hs ms = some p → AllP p → ∃ L inv, 1 ≤ fn.ntmps ∧ VcX (fun x h' => eqV x (.tup [])) Γ fn L (spoilH k hs ms) (spoilA n) inv) :
  CallOk P [] f (spoilCtr k spec) := by
 intro stamp args H rs rs' d vs w0 M ρ w hG hc hp hD hm
 unfold spoilCtr at hc
 split at hc
 ·rename_i key len
  simp only [RP.run] at hc
  split at hc
  ·rename_i pk hs hkey
   simp only [RP.run] at hc
   split at hc
   ·rename_i k' ms hpk
    split at hc
    ·rename_i p hkk hsp
     have hkk := keq_eq hkk
     subst hkk
     have e := run_ret hc
     subst e
     have hp : AllP p := hp
     have hP := hm.pools.pool pk _ ms hpk
     have hkn : key ≠ pk := fun e => by rw [e, hpk] at hkey; cases hkey
     obtain ⟨cs, s1, s2, s3, s4⟩ := hm.segs hkey
     let M' : Nat → Prop := fun b => (∃ i, i < ms.length ∧ 0 < (ρ pk).pc i ∧ b = (ρ pk).pb i) ∨ (0 < (ρ key).cap ∧ b = (ρ key).blk)
     let ρ1 : Nat → Pl := fun j => if j = 600 then ρ pk else ρ key
     have r600 : ρ1 600 = ρ pk := if_pos rfl
     have r601 : ρ1 601 = ρ key := rfl
     have e600 : assoc (spoilH k' hs ms) 600 = some (.pool k' ms) := rfl
     have e601 : assoc (spoilH k' hs ms) 601 = some (.segs false [.rowH 600 hs]) := rfl
     have hat : ∀ j b, assoc (spoilH k' hs ms) j = some b → (j = 600 ∧ b = .pool k' ms) ∨ (j = 601 ∧ b = .segs false [.rowH 600 hs]) := fun j b hb => by
      simp only [spoilH, assoc] at hb
      split at hb
      ·rename_i e; exact .inl ⟨(Nat.eq_of_beq_eq_true e).symm, by simpa using hb.symm⟩
      ·split at hb
       ·rename_i e; exact .inr ⟨(Nat.eq_of_beq_eq_true e).symm, by simpa using hb.symm⟩
       ·cases hb
     have d600 : dmOf (assoc (spoilH k' hs ms)) 600 := dm_of e600
     have hseg : ∀ j ro l, assoc (spoilH k' hs ms) j = some (.segs ro l) → j = 601 := fun j ro l h => by
      rcases hat j _ h with ⟨_, e⟩ | ⟨rfl, _⟩
      ·cases e
      ·rfl
     have g1 : Mem w M' ρ1 (assoc (spoilH k' hs ms)) w := by
      refine ⟨⟨fun j b hb => ?_, fun j j' ro ro' l l' h1 h2 hjj _ _ _ => absurd ((hseg _ _ _ h1).trans (hseg _ _ _ h2).symm) hjj, fun j ro l h1 c1 => ?_⟩, FrameW.refl _ _, fun j l h1 c1 => ?_, fun j h1 => ?_, fun j l h1 c1 => ?_, ⟨fun j kd ms0 hj => ?_, fun j kd ms0 j' ro l i c9 h1 h2 c1 hi c2 => ?_, fun j kd ms0 j' kd' ms1 i i' c9 h1 h2 hjj _ _ _ _ => ?_, fun j kd q r ms0 hj => absurd (hat j _ hj) (by simp)⟩⟩
      ·rcases hat j b hb with ⟨rfl, rfl⟩ | ⟨rfl, rfl⟩
       ·trivial
       ·obtain ⟨c1, c2, ⟨_, q2⟩, rfl, q3⟩ := s1
        exact ⟨_, ⟨c1, c2, ⟨d600, HdrsD.rekey d600 r600 hs c1 q2⟩, rfl, q3⟩, s2, s3, s4⟩
      ·have e := hseg _ _ _ h1
       subst e
       exact hm.heap.lt key false _ hkey c1
      ·have e := hseg _ _ _ h1
       subst e
       exact .inr (.inr ⟨c1, rfl⟩)
      ·rcases hat j _ h1 with ⟨_, e⟩ | ⟨_, e⟩ <;> cases e
      ·have e := hseg _ _ _ h1
       subst e
       exact hm.clean key _ hkey c1
      ·rcases hat j _ hj with ⟨rfl, e⟩ | ⟨_, e⟩
       ·simp only [SB.pool.injEq] at e
        obtain ⟨rfl, rfl⟩ := e
        exact PoolD.mk0 rfl hP.cnt (hP.row rfl) hP.lt (fun i hi hc => .inr (.inl ⟨i, hi, hc, rfl⟩)) hP.clean hP.sep
       ·cases e
      ·rcases hat j _ h1 with ⟨rfl, e⟩ | ⟨_, e⟩
       ·simp only [SB.pool.injEq] at e
        obtain ⟨rfl, rfl⟩ := e
        have e := hseg _ _ _ h2
        subst e
        exact hm.pools.apartD pk _ ms0 key false _ i _ hpk hkey c1 hi c2
       ·cases e
      ·rcases hat j _ h1 with ⟨rfl, e⟩ | ⟨_, e⟩
       ·rcases hat j' _ h2 with ⟨rfl, e⟩ | ⟨_, e⟩
        ·exact absurd rfl hjj
        ·cases e
       ·cases e
     have hgo : GlOk Γ w M' ρ1 (assoc (spoilH k' hs ms)) := ⟨fun g hg => (by rw [hgl] at hg; cases hg), (by rw [hgh]; intro g b hgb; cases hgb)⟩
     have hargs : Ds (dmOf (assoc (spoilH k' hs ms))) ρ1 (spoilA len.z) vs := by
      simp only [Ds, spoilA] at hD ⊢
      obtain ⟨u, c, hu, rfl, rfl⟩ := hD
      refine ⟨u, [], ?_, rfl, rfl⟩
      simp only [D] at hu ⊢
      exact ⟨dm_of e601, hu.2⟩
     obtain ⟨L, inv, q2, q3⟩ := h len.z hs ms p hsp hp
     refine .inr ⟨f, _, GoFn.run ⟨fn, hf, hn, hb⟩ _ _, (vcX_calls hΓ hf q3 q2 hgo g1 hargs).mono fun e w' he => ?_⟩
     obtain ⟨x, v, h', ρ', rfl, r1, r2, r3, r4⟩ := he
     have hg := (hm.gone key (by rw [hkey]; rfl)).gone pk (by rw [updH_ne (Ne.symm hkn), hpk]; rfl)
     have hne : ∀ j ro l, updsH H [(key, .gone), (pk, .gone)] j = some (.segs ro l) → j ≠ key ∧ H j = some (.segs ro l) := fun j ro l hj => by
      have hj : updH (updH H key .gone) pk .gone j = some (.segs ro l) := hj
      have n1 : j ≠ pk := fun e => by subst e; rw [updH_same] at hj; cases hj
      rw [updH_ne n1] at hj
      have n2 : j ≠ key := fun e => by subst e; rw [updH_same] at hj; cases hj
      rw [updH_ne n2] at hj
      exact ⟨n2, hj⟩
     refine ⟨v, rfl, ρ, .refl _ _, eqV_D x (.tup []) v r1 r2, ?_⟩
     refine Mem.import hg r3 (im := fun _ => none) (fun j _ => ⟨rfl, fun _ => rfl⟩) (fun j c hj => by cases hj) (fun j hj => by cases hj) (fun j j' c h1 => by cases h1) (fun j hj => ⟨hj, .refl _⟩) (fun b hb => ?_) (fun j ro l _ hj c1 hb => ?_) (fun j kd ms0 i c9 _ hj hi c1 hb => ?_)
     ·rcases hb with ⟨i, hi, hc, rfl⟩ | ⟨hc, rfl⟩
      ·exact hP.own i hi hc
      ·exact hm.own _ _ hkey hc
     ·obtain ⟨e1, e2⟩ := hne j ro l hj
      rcases hb with ⟨i, hi, hc, e⟩ | ⟨hc, e⟩
      ·exact hm.pools.apart pk _ ms j ro l i hpk e2 c1 hi hc e
      ·exact hm.heap.sep j key ro false l _ e2 hkey e1 (.inr rfl) c1 hc e
     ·have hj : updH (updH H key .gone) pk .gone j = some (.pool kd ms0) := hj
      have n1 : j ≠ pk := fun e => by subst e; rw [updH_same] at hj; cases hj
      rw [updH_ne n1] at hj
      have n2 : j ≠ key := fun e => by subst e; rw [updH_same] at hj; cases hj
      rw [updH_ne n2] at hj
      rcases hb with ⟨i', hi', hc', e⟩ | ⟨hc', e⟩
      ·exact hm.pools.twoD j kd ms0 pk _ ms i i' _ hj hpk n1 hi hi' c1 (by rw [e]; exact .pb hc')
      ·exact hm.pools.apartD j kd ms0 key false _ i _ hj hkey hc' hi c1 e.symm
    ·simp [RP.run] at hc
   ·simp [RP.run] at hc
  ·simp [RP.run] at hc
 ·simp [RP.run] at hc

end
end Go.Gx

/- What was handed in is spoilt. -/
namespace Go.Gx
open Go.Proofs Go.Sp
set_option linter.unusedVariables false
set_option maxRecDepth 100000

def L14s : Loops := [(1, ⟨[.sl 601 0 1 ⟨true, .ofNat 0⟩ ⟨false, 0⟩, .any, .i .i64 ⟨false, 0⟩] ++ reps .any 33, spoilH .u8 [] [], 2000⟩), (4, ⟨[.sl 601 0 1 ⟨true, .ofNat 0⟩ ⟨false, 0⟩, .any, .i .i64 ⟨false, 0⟩, .i .i64 ⟨false, 0⟩] ++ reps .any 32, spoilH .u8 [] [], 2000⟩)]
def vcSp (n : Int) (hs : Hdrs) (ms : List (List Int)) (K : SV → Prop) (Q : Nat → List Pv → Prop) : Prop := fnVcX Γe Tryd.f14 L14s (spoilA n) (spoilH .u8 hs ms) (fun x _ => K x) Q
def lcSpA (n i : Int) (hs : Hdrs) (ms : List (List Int)) (K : SV → Prop) (Q : Nat → List Pv → Prop) : Prop := loopVcX Γe Tryd.f14 L14s 1 [.z n, .z i, .ll ms, .hh hs] (fun x _ => K x) Q
def lcSpB (n i j : Int) (hs : Hdrs) (ms : List (List Int)) (K : SV → Prop) (Q : Nat → List Pv → Prop) : Prop := loopVcX Γe Tryd.f14 L14s 4 [.z n, .z i, .z j, .ll ms, .hh hs] (fun x _ => K x) Q
theorem vcSp_eq : ∀ (n : Int) (hs : Hdrs) (ms : List (List Int)) (K : SV → Prop) (Q : Nat → List Pv → Prop), vcSp n hs ms K Q = (Same Tryd.f14 1 (itemsOf Tryd.f14 1) ∧ Q 1 [Pv.z n, Pv.z 0, Pv.ll ms, Pv.hh hs]) := by
 intros
 kernel_rfl

theorem lcSpA_eq : ∀ (n i : Int) (hs : Hdrs) (ms : List (List Int)) (K : SV → Prop) (Q : Nat → List Pv → Prop), lcSpA n i hs ms K Q = ((decide (i < n) = true → Same Tryd.f14 4 (itemsOf Tryd.f14 4) ∧ Q 4 [Pv.z n, Pv.z i, Pv.z 0, Pv.ll ms, Pv.hh hs]) ∧ (decide (i < n) = false → K (SV.tup []))) := by
 intros
 kernel_rfl

theorem lcSpB_eq : ∀ (n i j : Int) (hs : Hdrs) (ms : List (List Int)) (K : SV → Prop) (Q : Nat → List Pv → Prop), lcSpB n i j hs ms K Q = (Need (0 ≤ i ∧ i < n) ∧ Need (0 ≤ i ∧ i < ((List.length hs : Nat) : Int)) ∧ ForN ((((List.getD hs i.toNat ((0 : Nat), (0 : Nat))).snd) : Nat) : Int) fun x1 => (decide (j < x1) = true → Need (0 ≤ i ∧ i < n) ∧ Need (0 ≤ i ∧ i < ((List.length hs : Nat) : Int)) ∧ ForN ((((List.getD hs i.toNat ((0 : Nat), (0 : Nat))).snd) : Nat) : Int) fun x2 => Need (0 ≤ i ∧ i < n) ∧ Need (0 ≤ i ∧ i < ((List.length hs : Nat) : Int)) ∧ ForN ((((List.getD hs i.toNat ((0 : Nat), (0 : Nat))).snd) : Nat) : Int) fun x3 => Need (0 ≤ j ∧ j < x3) ∧ Need (j < ((((ms.getD (List.getD hs i.toNat ((0 : Nat), (0 : Nat))).fst []).length) : Nat) : Int)) ∧ ForI .u8 ((ms.getD (List.getD hs i.toNat ((0 : Nat), (0 : Nat))).fst []).getD j.toNat 0) fun x4 => ForI .u8 (xorI .u8 x4 119) fun x5 => Need (0 ≤ j ∧ j < x2) ∧ Need (j < ((((ms.getD (List.getD hs i.toNat ((0 : Nat), (0 : Nat))).fst []).length) : Nat) : Int)) ∧ ∀ (x6 : List (List Int)), x6 = ms.set (List.getD hs i.toNat ((0 : Nat), (0 : Nat))).fst ((ms.getD (List.getD hs i.toNat ((0 : Nat), (0 : Nat))).fst []).set j.toNat x5) → ForI .i64 (IntKind.i64.wrap (j + 1)) fun x7 => Same Tryd.f14 4 (itemsOf Tryd.f14 4) ∧ Q 4 [Pv.z n, Pv.z i, Pv.z x7, Pv.ll x6, Pv.hh hs]) ∧ (decide (j < x1) = false → Need (0 ≤ i ∧ i < n) ∧ Need (0 ≤ i ∧ i < ((List.length hs : Nat) : Int)) ∧ ForI .i64 (IntKind.i64.wrap (i + 1)) fun x8 => Same Tryd.f14 1 (itemsOf Tryd.f14 1) ∧ Q 1 [Pv.z n, Pv.z x8, Pv.ll ms, Pv.hh (List.set hs i.toNat ((List.getD hs i.toNat ((0 : Nat), (0 : Nat))).fst, (0 : Nat)))])) := by
 intros
 kernel_rfl

def spOk (n : Int) (hs : Hdrs) (ms : List (List Int)) : Prop := 0 ≤ n ∧ n ≤ ((hs.length : Nat) : Int) ∧ hs.length ≤ 70368744177664 ∧ ∀ i : Nat, (i : Int) < n → (hs.getD i (0, 0)).2 ≤ (ms.getD (hs.getD i (0, 0)).1 []).length ∧ (hs.getD i (0, 0)).2 ≤ 70368744177664
def spoilG (n : Int) (hs : Hdrs) (ms : List (List Int)) : Option (List Prop) := some [spOk n hs ms]
theorem sp_len (ms : List (List Int)) (r j t : Nat) (x : Int) : ((ms.set r ((ms.getD r []).set j x)).getD t []).length = (ms.getD t []).length := by
 by_cases e : t = r
 ·subst e
  by_cases h : t < ms.length
  ·rw [List.getD_eq_getElem?_getD, List.getElem?_set_self h]
   simp
  ·rw [List.set_eq_of_length_le (by omega)]
 ·rw [List.getD_eq_getElem?_getD, List.getElem?_set_ne (fun e' => e e'.symm), ← List.getD_eq_getElem?_getD]
def invSp (N : Nat) (hs : Hdrs) (ms : List (List Int)) (key : Nat) (ps : List Pv) (mm : Nat) : Prop := ∃ (i : Nat) (hs' : Hdrs) (ms' : List (List Int)), i ≤ N ∧ hs'.length = hs.length ∧ (∀ t, i ≤ t → hs'.getD t (0, 0) = hs.getD t (0, 0)) ∧ (∀ r, (ms'.getD r []).length = (ms.getD r []).length) ∧
  ((key = 1 ∧ ps = [.z (N : Int), .z (i : Int), .ll ms', .hh hs'] ∧ mm = (N - i) * 70368744177668 + 70368744177667) ∨
   (key = 4 ∧ i < N ∧ ∃ j : Nat, j ≤ (hs.getD i (0, 0)).2 ∧ ps = [.z (N : Int), .z (i : Int), .z (j : Int), .ll ms', .hh hs'] ∧ mm = (N - i) * 70368744177668 + ((hs.getD i (0, 0)).2 - j)))
theorem spoil_nil : CallOk Tryd.prog [] 14 (spoilCtr .u8 spoilG) := by
 refine call_spoil (Γ := Γe) (fn := Tryd.f14) Γe_ok rfl rfl rfl (by kernel_rfl) (by kernel_rfl) .u8 spoilG fun n hs ms p hsp hp => ?_
 simp only [spoilG, Option.some.injEq] at hsp
 subst hsp
 obtain ⟨h0, h1, h2, h3⟩ : spOk n hs ms := hp.1
 obtain ⟨N, rfl⟩ := Int.eq_ofNat_of_zero_le h0
 have h1 : N ≤ hs.length := by omega
 have h3 : ∀ i : Nat, i < N → (hs.getD i (0, 0)).2 ≤ (ms.getD (hs.getD i (0, 0)).1 []).length ∧ (hs.getD i (0, 0)).2 ≤ 70368744177664 := fun i hi => h3 i (by omega)
 refine ⟨L14s, invSp N hs ms, Nat.le_of_ble_eq_true (by kernel_rfl), ?_, ?_, ?_⟩
 ·intro k t ht g hg
  have hg : g ∈ [600, 601] := hg
  simp only [L14s, List.mem_cons, List.not_mem_nil, or_false, Prod.mk.injEq] at ht hg
  rcases hg with rfl | rfl <;> rcases ht with ⟨rfl, rfl⟩ | ⟨rfl, rfl⟩ <;> exact ⟨by omega, rfl⟩
 ·rintro vk t ps mm ht ⟨i, hs', ms', hi, hl, heq, hml, ⟨rfl, rfl, rfl⟩ | ⟨rfl, hiN, j, hj, rfl, rfl⟩⟩
  all_goals simp only [L14s, List.mem_cons, List.not_mem_nil, or_false, Prod.mk.injEq, Nat.reduceEqDiff, false_and, true_and, false_or, or_false] at ht
  all_goals subst ht
  ·show lcSpA (N : Int) (i : Int) hs' ms' (fun x => eqV x (.tup [])) _
   rw [lcSpA_eq]
   refine ⟨fun h => ?_, fun _ => trivial⟩
   have h := of_decide_eq_true h
   have hb := (h3 i (by omega)).2
   exact ⟨rfl, (N - i) * 70368744177668 + ((hs.getD i (0, 0)).2 - 0), by omega, i, hs', ms', hi, hl, heq, hml, .inr ⟨rfl, by omega, 0, Nat.zero_le _, rfl, rfl⟩⟩
  ·show lcSpB (N : Int) (i : Int) (j : Int) hs' ms' (fun x => eqV x (.tup [])) _
   rw [lcSpB_eq]
   have hi1 := heq i (Nat.le_refl _)
   obtain ⟨hb1, hb2⟩ := h3 i hiN
   have hlr := hml (hs.getD i (0, 0)).1
   have hd : ∀ x : Hdrs, List.getD x i ((0 : Nat), (0 : Nat)) = x.getD i (0, 0) := fun _ => rfl
   rw [Int.toNat_natCast, Int.toNat_natCast]
   simp only [hi1]
   generalize hg : hs.getD i (0, 0) = hd1 at *
   have hll : List.length hs' = hs.length := hl
   refine ⟨need_of (by omega), need_of (by omega), fun x1 e1 _ _ => ⟨fun h => ?_, fun h => ?_⟩⟩
   ·have h := of_decide_eq_true h
    refine ⟨need_of (by omega), need_of (by omega), fun x2 e2 _ _ => ⟨need_of (by omega), need_of (by omega), fun x3 e3 _ _ => ⟨need_of (by omega), need_of (by omega), fun x4 _ _ x5 _ _ => ⟨need_of (by omega), need_of (by omega), fun x6 e6 x7 e7 _ => ?_⟩⟩⟩⟩
    rw [wrap_i64 (by omega)] at e7
    refine ⟨rfl, (N - i) * 70368744177668 + (hd1.2 - (j + 1)), by omega, i, hs', x6, hi, hl, heq, fun r => by rw [e6, sp_len]; exact hml r, .inr ⟨rfl, hiN, j + 1, by rw [hg]; omega, ?_, by rw [hg]⟩⟩
    rw [e7]; rfl
   ·have h := of_decide_eq_false h
    refine ⟨need_of (by omega), need_of (by omega), fun x8 e8 _ => ?_⟩
    rw [wrap_i64 (by omega)] at e8
    refine ⟨rfl, (N - (i + 1)) * 70368744177668 + 70368744177667, by omega, i + 1, hs'.set i (hd1.1, 0), ms', by omega, by rw [List.length_set]; exact hl, fun t ht => ?_, hml, .inl ⟨rfl, ?_, rfl⟩⟩
    ·rw [List.getD_eq_getElem?_getD, List.getElem?_set_ne (by omega), ← List.getD_eq_getElem?_getD]
     exact heq t (by omega)
    ·rw [e8]; rfl
 ·show vcSp (N : Int) hs ms (fun x => eqV x (.tup [])) _
  rw [vcSp_eq]
  exact ⟨rfl, _, 0, hs, ms, Nat.zero_le _, rfl, fun _ _ => rfl, fun _ => rfl, .inl ⟨rfl, rfl, rfl⟩⟩
end Go.Gx
