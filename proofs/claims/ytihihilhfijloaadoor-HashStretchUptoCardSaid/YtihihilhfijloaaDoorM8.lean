/- HashStretch: every Stretch is that of the document, within its limits; what is handed out is the caller's own. For all seeds that are not more than the cards' bound, and every number; the tables lie as the program's text lays them. -/
import Derived.Test.YtihihilhfijloaaDoorM7

/- HashStretch: every Stretch is that of the document, within its limits; what is handed out is the caller's own. For all seeds that are not more than the cards' bound, and every number; the tables lie as the program's text lays them. -/
namespace Go.Gx
open Go.Proofs Go.Sp Go.RowKit
set_option linter.unusedVariables false
set_option maxRecDepth 100000
namespace HashStretch
def sl0 (k : Nat) : SV := .sl k 0 1 ⟨true, .ofNat 0⟩ ⟨false, 0⟩
def row0 (k : Nat) : Nat × SB := (k, .segs false [.rowI .u8 []])
def T10 (rest : List SV) : List SV := [.any, .any, .any, .any, .any, .any, .any, sl0 1001, sl0 1002, sl0 1003, sl0 1004, .any, .any, sl0 1006, .any, .any, sl0 1007, .any] ++ rest
def i0 : SV := .i .i64 ⟨false, 0⟩
def H10 : Heap := [row0 1002, row0 1003, row0 1004, row0 1006, row0 1007]
def L10 : Loops := [(18, ⟨T10 (i0 :: reps .any 170), gh4 ++ (490, .world) :: row0 1001 :: H10, 3000⟩),
  (23, ⟨T10 (.any :: sl0 1001 :: i0 :: reps .any 168), gh4 ++ (490, .world) :: row0 1001 :: H10, 3000⟩),
  (1023, ⟨T10 (.any :: sl0 1005 :: i0 :: reps .any 168), gh4 ++ (490, .world) :: (1001, .gone) :: H10 ++ [row0 1005], 3000⟩),
  (27, ⟨T10 (.any :: sl0 1005 :: .any :: i0 :: reps .any 167), gh4 ++ (490, .world) :: (1001, .gone) :: H10 ++ [row0 1005], 3000⟩),
  (31, ⟨T10 (.any :: sl0 1005 :: .any :: .any :: i0 :: reps .any 166), gh4 ++ (490, .world) :: (1001, .gone) :: H10 ++ [row0 1005], 3000⟩)]
def vc10 (k : RO) (n : Int) (K : List RV → List (Option (List Seg)) → Prop) (Q : Nat → List Pv → Prop) : Prop := fnVcG 0 Δ7 Tryd.f10 L10 [.ro 490 (.ints .u8) k, .i .i64 ⟨false, n⟩] (gh4 ++ (490, .world) :: []) K Q
def lc10a (za zo zb zw zc ze i : Int) (g g' a o b w c e : List Int) (K : List RV → List (Option (List Seg)) → Prop) (Q : Nat → List Pv → Prop) : Prop := loopVcG 0 Δ7 Tryd.f10 L10 18 [.z za, .z zo, .z zb, .z zw, .z zc, .z ze, .z i, .l g, .l g', .l a, .l o, .l b, .l w, .l c, .l e] K Q
def lc10b (za zo zb zw zc ze zg i : Int) (g g' a o b w c e : List Int) (K : List RV → List (Option (List Seg)) → Prop) (Q : Nat → List Pv → Prop) : Prop := loopVcG 0 Δ7 Tryd.f10 L10 23 [.z za, .z zo, .z zb, .z zw, .z zc, .z ze, .z zg, .z i, .l g, .l g', .l a, .l o, .l b, .l w, .l c, .l e] K Q
def lc10c (za zo zb zw zc ze zg i : Int) (g g' o b w c e l : List Int) (K : List RV → List (Option (List Seg)) → Prop) (Q : Nat → List Pv → Prop) : Prop := loopVcG 0 Δ7 Tryd.f10 L10 1023 [.z za, .z zo, .z zb, .z zw, .z zc, .z ze, .z zg, .z i, .l g, .l g', .l o, .l b, .l w, .l c, .l e, .l l] K Q
def lc10d (za zo zb zw zc ze zg i : Int) (g g' o b w c e l : List Int) (K : List RV → List (Option (List Seg)) → Prop) (Q : Nat → List Pv → Prop) : Prop := loopVcG 0 Δ7 Tryd.f10 L10 27 [.z za, .z zo, .z zb, .z zw, .z zc, .z ze, .z zg, .z i, .l g, .l g', .l o, .l b, .l w, .l c, .l e, .l l] K Q
def lc10e (za zo zb zw zc ze zg i : Int) (g g' o b w c e l : List Int) (K : List RV → List (Option (List Seg)) → Prop) (Q : Nat → List Pv → Prop) : Prop := loopVcG 0 Δ7 Tryd.f10 L10 31 [.z za, .z zo, .z zb, .z zw, .z zc, .z ze, .z zg, .z i, .l g, .l g', .l o, .l b, .l w, .l c, .l e, .l l] K Q
theorem vc10_eq : ∀ (k : RO) (n : Int) (K : List RV → List (Option (List Seg)) → Prop) (Q : Nat → List Pv → Prop), vc10 k n K Q = (Need (∀ (i : Nat), i < (roX (RO.r [k])).length → (((roL (roN (RO.r [k]) i)).length : Nat) : Int) + (8 : Int) ≤ (70368744177664 : Int)) ∧ Need (((((roX (RO.r [k])).length + (1 : Nat)) : Nat) : Int) * (24 : Int) ≤ (70368744177664 : Int)) ∧ ∀ (x1 : List (List Int)), x1 = rowsT (RO.r [k]) (roX (RO.r [k])).length ++ [marksL] → ∀ (x2 : Int), x2 = (((List.length (fullT (RO.r [k]) (roX (RO.r [k])).length)) : Nat) : Int) → (0 : Int) ≤ x2 → InR IntKind.i64 x2 → ∀ (x3 : Int), x3 = (((List.length (headT (RO.r [k]) (roX (RO.r [k])).length ++ [((roX (RO.r [k])).length, (8 : Nat))])) : Nat) : Int) → (0 : Int) ≤ x3 → InR IntKind.i64 x3 → Need ((12 : Int) ≤ (12 : Int)) ∧ Need (∀ (i : Nat), i < (1 : Nat) → (((roL (roN (RO.r [RO.l (List.take (12 : Nat) (List.drop (0 : Nat) [(97 : Int), (110 : Int), (111 : Int), (116 : Int), (104 : Int), (101 : Int), (114 : Int), (32 : Int), (115 : Int), (101 : Int), (101 : Int), (100 : Int)]))]) i)).length : Nat) : Int) + (8 : Int) ≤ (70368744177664 : Int)) ∧ Need ((48 : Int) ≤ (70368744177664 : Int)) ∧ ∀ (x4 : List (List Int)), x4 = rowsT (RO.r [RO.l (List.take (12 : Nat) (List.drop (0 : Nat) [(97 : Int), (110 : Int), (111 : Int), (116 : Int), (104 : Int), (101 : Int), (114 : Int), (32 : Int), (115 : Int), (101 : Int), (101 : Int), (100 : Int)]))]) (1 : Nat) ++ [marksL] → ∀ (x5 : Int), x5 = (1 : Int) → (0 : Int) ≤ x5 → InR IntKind.i64 x5 → ∀ (x6 : Int), x6 = (2 : Int) → (0 : Int) ≤ x6 → InR IntKind.i64 x6 → Need (x2 ≤ x3) ∧ Need ((0 : Int) ≤ (0 : Int) ∧ (0 : Int) < x2) ∧ Need ((0 : Nat) < List.length (headT (RO.r [k]) (roX (RO.r [k])).length ++ [((roX (RO.r [k])).length, (8 : Nat))])) ∧ Need ((((List.getD (headT (RO.r [k]) (roX (RO.r [k])).length ++ [((roX (RO.r [k])).length, (8 : Nat))]) (0 : Nat) ((0 : Nat), (0 : Nat))).snd : Nat) : Int) ≤ (((x1.getD (List.getD (headT (RO.r [k]) (roX (RO.r [k])).length ++ [((roX (RO.r [k])).length, (8 : Nat))]) (0 : Nat) ((0 : Nat), (0 : Nat))).fst []).length : Nat) : Int)) ∧ Need ((((roL (RO.l (List.take ((((List.getD (headT (RO.r [k]) (roX (RO.r [k])).length ++ [((roX (RO.r [k])).length, (8 : Nat))]) (0 : Nat) ((0 : Nat), (0 : Nat))).snd : Nat) : Int)).toNat (x1.getD (List.getD (headT (RO.r [k]) (roX (RO.r [k])).length ++ [((roX (RO.r [k])).length, (8 : Nat))]) (0 : Nat) ((0 : Nat), (0 : Nat))).fst [])))).length : Nat) : Int) ≤ (1152921504606846976 : Int)) ∧ ∀ (x7 : List Int), x7 = strL (roL (RO.l (List.take ((((List.getD (headT (RO.r [k]) (roX (RO.r [k])).length ++ [((roX (RO.r [k])).length, (8 : Nat))]) (0 : Nat) ((0 : Nat), (0 : Nat))).snd : Nat) : Int)).toNat (x1.getD (List.getD (headT (RO.r [k]) (roX (RO.r [k])).length ++ [((roX (RO.r [k])).length, (8 : Nat))]) (0 : Nat) ((0 : Nat), (0 : Nat))).fst [])))) n → AllR IntKind.u8 x7 → ∀ (x8 : Int), x8 = (((strL (roL (RO.l (List.take ((((List.getD (headT (RO.r [k]) (roX (RO.r [k])).length ++ [((roX (RO.r [k])).length, (8 : Nat))]) (0 : Nat) ((0 : Nat), (0 : Nat))).snd : Nat) : Int)).toNat (x1.getD (List.getD (headT (RO.r [k]) (roX (RO.r [k])).length ++ [((roX (RO.r [k])).length, (8 : Nat))]) (0 : Nat) ((0 : Nat), (0 : Nat))).fst [])))) n).length : Nat) : Int) → (0 : Int) ≤ x8 → InR IntKind.i64 x8 → Need (x5 ≤ x6) ∧ Need ((0 : Int) ≤ (0 : Int) ∧ (0 : Int) < x5) ∧ Need ((0 : Nat) < (2 : Nat)) ∧ Need ((12 : Int) ≤ (((x4.getD (0 : Nat) []).length : Nat) : Int)) ∧ Need ((((roL (RO.l (List.take (12 : Nat) (x4.getD (0 : Nat) [])))).length : Nat) : Int) ≤ (1152921504606846976 : Int)) ∧ ∀ (x9 : List Int), x9 = strL (roL (RO.l (List.take (12 : Nat) (x4.getD (0 : Nat) [])))) n → AllR IntKind.u8 x9 → ∀ (x10 : Int), x10 = (((strL (roL (RO.l (List.take (12 : Nat) (x4.getD (0 : Nat) [])))) n).length : Nat) : Int) → (0 : Int) ≤ x10 → InR IntKind.i64 x10 → Need (x2 ≤ x3) ∧ Need ((0 : Int) ≤ (0 : Int) ∧ (0 : Int) < x2) ∧ Need ((0 : Nat) < List.length (headT (RO.r [k]) (roX (RO.r [k])).length ++ [((roX (RO.r [k])).length, (8 : Nat))])) ∧ Need ((((List.getD (headT (RO.r [k]) (roX (RO.r [k])).length ++ [((roX (RO.r [k])).length, (8 : Nat))]) (0 : Nat) ((0 : Nat), (0 : Nat))).snd : Nat) : Int) ≤ (((x1.getD (List.getD (headT (RO.r [k]) (roX (RO.r [k])).length ++ [((roX (RO.r [k])).length, (8 : Nat))]) (0 : Nat) ((0 : Nat), (0 : Nat))).fst []).length : Nat) : Int)) ∧ Need ((((roL (RO.l (List.take ((((List.getD (headT (RO.r [k]) (roX (RO.r [k])).length ++ [((roX (RO.r [k])).length, (8 : Nat))]) (0 : Nat) ((0 : Nat), (0 : Nat))).snd : Nat) : Int)).toNat (x1.getD (List.getD (headT (RO.r [k]) (roX (RO.r [k])).length ++ [((roX (RO.r [k])).length, (8 : Nat))]) (0 : Nat) ((0 : Nat), (0 : Nat))).fst [])))).length : Nat) : Int) ≤ (1152921504606846976 : Int)) ∧ ∀ (x11 : List Int), x11 = strL (roL (RO.l (List.take ((((List.getD (headT (RO.r [k]) (roX (RO.r [k])).length ++ [((roX (RO.r [k])).length, (8 : Nat))]) (0 : Nat) ((0 : Nat), (0 : Nat))).snd : Nat) : Int)).toNat (x1.getD (List.getD (headT (RO.r [k]) (roX (RO.r [k])).length ++ [((roX (RO.r [k])).length, (8 : Nat))]) (0 : Nat) ((0 : Nat), (0 : Nat))).fst [])))) n → AllR IntKind.u8 x11 → ∀ (x12 : Int), x12 = (((strL (roL (RO.l (List.take ((((List.getD (headT (RO.r [k]) (roX (RO.r [k])).length ++ [((roX (RO.r [k])).length, (8 : Nat))]) (0 : Nat) ((0 : Nat), (0 : Nat))).snd : Nat) : Int)).toNat (x1.getD (List.getD (headT (RO.r [k]) (roX (RO.r [k])).length ++ [((roX (RO.r [k])).length, (8 : Nat))]) (0 : Nat) ((0 : Nat), (0 : Nat))).fst [])))) n).length : Nat) : Int) → (0 : Int) ≤ x12 → InR IntKind.i64 x12 → Need ((((roL k).length : Nat) : Int) ≤ (70368744177000 : Int)) ∧ ∀ (x13 : List Int), x13 = strL (roL k) n → AllR IntKind.u8 x13 → ∀ (x14 : Int), x14 = (((strL (roL k) n).length : Nat) : Int) → (0 : Int) ≤ x14 → InR IntKind.i64 x14 → ∀ (x15 : Bool), x15 = (decide ((0 : Int) ≤ n) && decide (n ≤ (1048576 : Int))) → Need ((0 : Int) + x2 ≤ (((List.length (fullT (RO.r [k]) (roX (RO.r [k])).length)) : Nat) : Int)) ∧ Need (∀ (h : Nat × Nat), h ∈ List.take x2.toNat (List.drop (0 : Nat) (fullT (RO.r [k]) (roX (RO.r [k])).length)) → h.snd ≤ (x1.getD h.fst []).length) ∧ Need ((0 : Int) + x3 ≤ (((List.length (headT (RO.r [k]) (roX (RO.r [k])).length ++ [((roX (RO.r [k])).length, (8 : Nat))])) : Nat) : Int)) ∧ Need (∀ (h : Nat × Nat), h ∈ List.take x3.toNat (List.drop (0 : Nat) (headT (RO.r [k]) (roX (RO.r [k])).length ++ [((roX (RO.r [k])).length, (8 : Nat))])) → h.snd ≤ (x1.getD h.fst []).length) ∧ Need ((roX (roN (RO.r [RO.r (List.map (fun h => RO.l (List.take h.snd (x1.getD h.fst []))) (List.take x2.toNat (List.drop (0 : Nat) (fullT (RO.r [k]) (roX (RO.r [k])).length)))), RO.r (List.map (fun h => RO.l (List.take h.snd (x1.getD h.fst []))) (List.take x3.toNat (List.drop (0 : Nat) (headT (RO.r [k]) (roX (RO.r [k])).length ++ [((roX (RO.r [k])).length, (8 : Nat))]))))]) (1 : Nat))).length = (roX (RO.r [k])).length + (1 : Nat) ∧ (roX (roN (RO.r [RO.r (List.map (fun h => RO.l (List.take h.snd (x1.getD h.fst []))) (List.take x2.toNat (List.drop (0 : Nat) (fullT (RO.r [k]) (roX (RO.r [k])).length)))), RO.r (List.map (fun h => RO.l (List.take h.snd (x1.getD h.fst []))) (List.take x3.toNat (List.drop (0 : Nat) (headT (RO.r [k]) (roX (RO.r [k])).length ++ [((roX (RO.r [k])).length, (8 : Nat))]))))]) (0 : Nat))).length = (roX (RO.r [k])).length ∧ roL (roN (roN (RO.r [RO.r (List.map (fun h => RO.l (List.take h.snd (x1.getD h.fst []))) (List.take x2.toNat (List.drop (0 : Nat) (fullT (RO.r [k]) (roX (RO.r [k])).length)))), RO.r (List.map (fun h => RO.l (List.take h.snd (x1.getD h.fst []))) (List.take x3.toNat (List.drop (0 : Nat) (headT (RO.r [k]) (roX (RO.r [k])).length ++ [((roX (RO.r [k])).length, (8 : Nat))]))))]) (1 : Nat)) (roX (RO.r [k])).length) = marksL) ∧ Need (∀ (i : Nat), i < (roX (RO.r [k])).length → roL (roN (roN (RO.r [RO.r (List.map (fun h => RO.l (List.take h.snd (x1.getD h.fst []))) (List.take x2.toNat (List.drop (0 : Nat) (fullT (RO.r [k]) (roX (RO.r [k])).length)))), RO.r (List.map (fun h => RO.l (List.take h.snd (x1.getD h.fst []))) (List.take x3.toNat (List.drop (0 : Nat) (headT (RO.r [k]) (roX (RO.r [k])).length ++ [((roX (RO.r [k])).length, (8 : Nat))]))))]) (0 : Nat)) i) = roL (roN (RO.r [k]) i) ++ marksL ∧ roL (roN (roN (RO.r [RO.r (List.map (fun h => RO.l (List.take h.snd (x1.getD h.fst []))) (List.take x2.toNat (List.drop (0 : Nat) (fullT (RO.r [k]) (roX (RO.r [k])).length)))), RO.r (List.map (fun h => RO.l (List.take h.snd (x1.getD h.fst []))) (List.take x3.toNat (List.drop (0 : Nat) (headT (RO.r [k]) (roX (RO.r [k])).length ++ [((roX (RO.r [k])).length, (8 : Nat))]))))]) (1 : Nat)) i) = roL (roN (RO.r [k]) i) ∧ (((roL (roN (RO.r [k]) i)).length : Nat) : Int) + (8 : Int) < (9223372036854775808 : Int)) ∧ ∀ (x16 : Bool), x16 = true → ((!x16) = true → K [RV.v (SV.b true false)] []) ∧ ((!x16) = false → Need (x2 = (((List.length (fullT (RO.r [k]) (roX (RO.r [k])).length)) : Nat) : Int)) ∧ Need (x3 = (((List.length (headT (RO.r [k]) (roX (RO.r [k])).length ++ [((roX (RO.r [k])).length, (8 : Nat))])) : Nat) : Int)) ∧ Need (List.length (fullT (RO.r [k]) (roX (RO.r [k])).length) ≤ List.length (headT (RO.r [k]) (roX (RO.r [k])).length ++ [((roX (RO.r [k])).length, (8 : Nat))]) ∧ List.length (fullT (RO.r [k]) (roX (RO.r [k])).length) ≤ x1.length ∧ (((List.length (headT (RO.r [k]) (roX (RO.r [k])).length ++ [((roX (RO.r [k])).length, (8 : Nat))])) : Nat) : Int) < (9223372036854775807 : Int) ∧ (((List.length (fullT (RO.r [k]) (roX (RO.r [k])).length)) : Nat) : Int) * (24 : Int) ≤ (70368744177664 : Int)) ∧ Need (∀ (i : Nat), i < List.length (fullT (RO.r [k]) (roX (RO.r [k])).length) → (List.getD (fullT (RO.r [k]) (roX (RO.r [k])).length) i ((0 : Nat), (0 : Nat))).fst = i ∧ (List.getD (headT (RO.r [k]) (roX (RO.r [k])).length ++ [((roX (RO.r [k])).length, (8 : Nat))]) i ((0 : Nat), (0 : Nat))).fst = i ∧ (List.getD (headT (RO.r [k]) (roX (RO.r [k])).length ++ [((roX (RO.r [k])).length, (8 : Nat))]) i ((0 : Nat), (0 : Nat))).snd ≤ (List.getD (fullT (RO.r [k]) (roX (RO.r [k])).length) i ((0 : Nat), (0 : Nat))).snd ∧ (List.getD (headT (RO.r [k]) (roX (RO.r [k])).length ++ [((roX (RO.r [k])).length, (8 : Nat))]) i ((0 : Nat), (0 : Nat))).snd ≤ (x1.getD i []).length ∧ (List.getD (headT (RO.r [k]) (roX (RO.r [k])).length ++ [((roX (RO.r [k])).length, (8 : Nat))]) i ((0 : Nat), (0 : Nat))).snd ≤ (70368744177664 : Nat)) ∧ ∀ (x17 : List (List Int)), x17 = msT (headT (RO.r [k]) (roX (RO.r [k])).length ++ [((roX (RO.r [k])).length, (8 : Nat))]) x1 (List.length (fullT (RO.r [k]) (roX (RO.r [k])).length)) (0 : Nat) → ∀ (x18 : List (List Int)), x18 = rows2 (headT (RO.r [k]) (roX (RO.r [k])).length ++ [((roX (RO.r [k])).length, (8 : Nat))]) x1 (List.length (fullT (RO.r [k]) (roX (RO.r [k])).length)) → ∀ (x19 : Int), x19 = (((List.length (hs2 (headT (RO.r [k]) (roX (RO.r [k])).length ++ [((roX (RO.r [k])).length, (8 : Nat))]) (List.length (fullT (RO.r [k]) (roX (RO.r [k])).length)))) : Nat) : Int) → (0 : Int) ≤ x19 → InR IntKind.i64 x19 → Need (x2 ≤ x3) ∧ Need ((0 : Int) ≤ (0 : Int) ∧ (0 : Int) < x2) ∧ Need ((0 : Nat) < List.length (headT (RO.r [k]) (roX (RO.r [k])).length ++ [((roX (RO.r [k])).length, (8 : Nat))])) ∧ Need ((((List.getD (headT (RO.r [k]) (roX (RO.r [k])).length ++ [((roX (RO.r [k])).length, (8 : Nat))]) (0 : Nat) ((0 : Nat), (0 : Nat))).snd : Nat) : Int) ≤ (((x17.getD (List.getD (headT (RO.r [k]) (roX (RO.r [k])).length ++ [((roX (RO.r [k])).length, (8 : Nat))]) (0 : Nat) ((0 : Nat), (0 : Nat))).fst []).length : Nat) : Int)) ∧ Need ((((roL (RO.l (List.take ((((List.getD (headT (RO.r [k]) (roX (RO.r [k])).length ++ [((roX (RO.r [k])).length, (8 : Nat))]) (0 : Nat) ((0 : Nat), (0 : Nat))).snd : Nat) : Int)).toNat (x17.getD (List.getD (headT (RO.r [k]) (roX (RO.r [k])).length ++ [((roX (RO.r [k])).length, (8 : Nat))]) (0 : Nat) ((0 : Nat), (0 : Nat))).fst [])))).length : Nat) : Int) ≤ (1152921504606846976 : Int)) ∧ ∀ (x20 : List Int), x20 = strL (roL (RO.l (List.take ((((List.getD (headT (RO.r [k]) (roX (RO.r [k])).length ++ [((roX (RO.r [k])).length, (8 : Nat))]) (0 : Nat) ((0 : Nat), (0 : Nat))).snd : Nat) : Int)).toNat (x17.getD (List.getD (headT (RO.r [k]) (roX (RO.r [k])).length ++ [((roX (RO.r [k])).length, (8 : Nat))]) (0 : Nat) ((0 : Nat), (0 : Nat))).fst [])))) n → AllR IntKind.u8 x20 → ∀ (x21 : Int), x21 = (((strL (roL (RO.l (List.take ((((List.getD (headT (RO.r [k]) (roX (RO.r [k])).length ++ [((roX (RO.r [k])).length, (8 : Nat))]) (0 : Nat) ((0 : Nat), (0 : Nat))).snd : Nat) : Int)).toNat (x17.getD (List.getD (headT (RO.r [k]) (roX (RO.r [k])).length ++ [((roX (RO.r [k])).length, (8 : Nat))]) (0 : Nat) ((0 : Nat), (0 : Nat))).fst [])))) n).length : Nat) : Int) → (0 : Int) ≤ x21 → InR IntKind.i64 x21 → ((!x15) = true → ∀ (x22 : Int), x22 = IntKind.i64.wrap (x8 + x12) → InR IntKind.i64 x22 → ∀ (x23 : Int), x23 = IntKind.i64.wrap (x22 + x21) → InR IntKind.i64 x23 → ∀ (x24 : Int), x24 = IntKind.i64.wrap (x23 + x10) → InR IntKind.i64 x24 → ((x24 == (0 : Int)) = true → K [RV.v (SV.b true true)] []) ∧ ((x24 == (0 : Int)) = false → K [RV.v (SV.b true false)] [])) ∧ ((!x15) = false → Need ((12 : Int) ≤ (12 : Int)) ∧ Need ((12 : Int) ≤ (70368744177000 : Int)) ∧ ∀ (x25 : List Int), x25 = strL (roL (RO.l (List.take (12 : Nat) (List.drop (0 : Nat) [(97 : Int), (110 : Int), (111 : Int), (116 : Int), (104 : Int), (101 : Int), (114 : Int), (32 : Int), (115 : Int), (101 : Int), (101 : Int), (100 : Int)])))) n → AllR IntKind.u8 x25 → ∀ (x26 : Int), x26 = (((strL (roL (RO.l (List.take (12 : Nat) (List.drop (0 : Nat) [(97 : Int), (110 : Int), (111 : Int), (116 : Int), (104 : Int), (101 : Int), (114 : Int), (32 : Int), (115 : Int), (101 : Int), (101 : Int), (100 : Int)])))) n).length : Nat) : Int) → (0 : Int) ≤ x26 → InR IntKind.i64 x26 → ∀ (x27 : Bool), x27 = (decide ((0 : Int) ≤ n) && decide (n ≤ (1048576 : Int))) → Need ((0 : Int) ≤ (0 : Int) ∧ (0 : Int) < x19) ∧ Need ((0 : Nat) < List.length (hs2 (headT (RO.r [k]) (roX (RO.r [k])).length ++ [((roX (RO.r [k])).length, (8 : Nat))]) (List.length (fullT (RO.r [k]) (roX (RO.r [k])).length)))) ∧ Need ((((List.getD (hs2 (headT (RO.r [k]) (roX (RO.r [k])).length ++ [((roX (RO.r [k])).length, (8 : Nat))]) (List.length (fullT (RO.r [k]) (roX (RO.r [k])).length))) (0 : Nat) ((0 : Nat), (0 : Nat))).snd : Nat) : Int) ≤ (((x18.getD (List.getD (hs2 (headT (RO.r [k]) (roX (RO.r [k])).length ++ [((roX (RO.r [k])).length, (8 : Nat))]) (List.length (fullT (RO.r [k]) (roX (RO.r [k])).length))) (0 : Nat) ((0 : Nat), (0 : Nat))).fst []).length : Nat) : Int)) ∧ Need ((((roL (RO.l (List.take ((((List.getD (hs2 (headT (RO.r [k]) (roX (RO.r [k])).length ++ [((roX (RO.r [k])).length, (8 : Nat))]) (List.length (fullT (RO.r [k]) (roX (RO.r [k])).length))) (0 : Nat) ((0 : Nat), (0 : Nat))).snd : Nat) : Int)).toNat (x18.getD (List.getD (hs2 (headT (RO.r [k]) (roX (RO.r [k])).length ++ [((roX (RO.r [k])).length, (8 : Nat))]) (List.length (fullT (RO.r [k]) (roX (RO.r [k])).length))) (0 : Nat) ((0 : Nat), (0 : Nat))).fst [])))).length : Nat) : Int) ≤ (70368744177000 : Int)) ∧ ∀ (x28 : List Int), x28 = strL (roL (RO.l (List.take ((((List.getD (hs2 (headT (RO.r [k]) (roX (RO.r [k])).length ++ [((roX (RO.r [k])).length, (8 : Nat))]) (List.length (fullT (RO.r [k]) (roX (RO.r [k])).length))) (0 : Nat) ((0 : Nat), (0 : Nat))).snd : Nat) : Int)).toNat (x18.getD (List.getD (hs2 (headT (RO.r [k]) (roX (RO.r [k])).length ++ [((roX (RO.r [k])).length, (8 : Nat))]) (List.length (fullT (RO.r [k]) (roX (RO.r [k])).length))) (0 : Nat) ((0 : Nat), (0 : Nat))).fst [])))) n → AllR IntKind.u8 x28 → ∀ (x29 : Int), x29 = (((strL (roL (RO.l (List.take ((((List.getD (hs2 (headT (RO.r [k]) (roX (RO.r [k])).length ++ [((roX (RO.r [k])).length, (8 : Nat))]) (List.length (fullT (RO.r [k]) (roX (RO.r [k])).length))) (0 : Nat) ((0 : Nat), (0 : Nat))).snd : Nat) : Int)).toNat (x18.getD (List.getD (hs2 (headT (RO.r [k]) (roX (RO.r [k])).length ++ [((roX (RO.r [k])).length, (8 : Nat))]) (List.length (fullT (RO.r [k]) (roX (RO.r [k])).length))) (0 : Nat) ((0 : Nat), (0 : Nat))).fst [])))) n).length : Nat) : Int) → (0 : Int) ≤ x29 → InR IntKind.i64 x29 → ∀ (x30 : Bool), x30 = (decide ((0 : Int) ≤ n) && decide (n ≤ (1048576 : Int))) → Need ((0 : Int) + x8 ≤ ((x7.length : Nat) : Int)) ∧ Need ((0 : Int) + x14 ≤ ((x13.length : Nat) : Int)) ∧ ((!(ofBytesI (List.take x8.toNat (List.drop (0 : Nat) x7))).toList == (ofBytesI (List.take x14.toNat (List.drop (0 : Nat) x13))).toList) = true → K [RV.v (SV.b true false)] []) ∧ ((!(ofBytesI (List.take x8.toNat (List.drop (0 : Nat) x7))).toList == (ofBytesI (List.take x14.toNat (List.drop (0 : Nat) x13))).toList) = false → Need ((0 : Int) + x12 ≤ ((x11.length : Nat) : Int)) ∧ Need ((0 : Int) + x14 ≤ ((x13.length : Nat) : Int)) ∧ ((!(ofBytesI (List.take x12.toNat (List.drop (0 : Nat) x11))).toList == (ofBytesI (List.take x14.toNat (List.drop (0 : Nat) x13))).toList) = true → K [RV.v (SV.b true false)] []) ∧ ((!(ofBytesI (List.take x12.toNat (List.drop (0 : Nat) x11))).toList == (ofBytesI (List.take x14.toNat (List.drop (0 : Nat) x13))).toList) = false → Need ((0 : Int) + x10 ≤ ((x9.length : Nat) : Int)) ∧ Need ((0 : Int) + x26 ≤ ((x25.length : Nat) : Int)) ∧ ((!(ofBytesI (List.take x10.toNat (List.drop (0 : Nat) x9))).toList == (ofBytesI (List.take x26.toNat (List.drop (0 : Nat) x25))).toList) = true → K [RV.v (SV.b true false)] []) ∧ ((!(ofBytesI (List.take x10.toNat (List.drop (0 : Nat) x9))).toList == (ofBytesI (List.take x26.toNat (List.drop (0 : Nat) x25))).toList) = false → Need ((0 : Int) + x21 ≤ ((x20.length : Nat) : Int)) ∧ Need ((0 : Int) + x29 ≤ ((x28.length : Nat) : Int)) ∧ ((!(ofBytesI (List.take x21.toNat (List.drop (0 : Nat) x20))).toList == (ofBytesI (List.take x29.toNat (List.drop (0 : Nat) x28))).toList) = true → K [RV.v (SV.b true false)] []) ∧ ((!(ofBytesI (List.take x21.toNat (List.drop (0 : Nat) x20))).toList == (ofBytesI (List.take x29.toNat (List.drop (0 : Nat) x28))).toList) = false → Same Tryd.f10 (18 : Nat) (itemsOf Tryd.f10 (18 : Nat)) ∧ Q (18 : Nat) [Pv.z x8, Pv.z x10, Pv.z x12, Pv.z x14, Pv.z x21, Pv.z x29, Pv.z (0 : Int), Pv.l K80, Pv.l K80, Pv.l x7, Pv.l x9, Pv.l x11, Pv.l x13, Pv.l x20, Pv.l x28]))))))) := by
  intros
  kernel_rfl
theorem lc10a_eq : ∀ (za zo zb zw zc ze i : Int) (g g' a o b w c e : List Int) (K : List RV → List (Option (List Seg)) → Prop) (Q : Nat → List Pv → Prop), lc10a za zo zb zw zc ze i g g' a o b w c e K Q = ((decide (i < za) = true → Need ((0 : Int) ≤ i ∧ i < za) ∧ Need ((0 : Int) ≤ i ∧ i < ((a.length : Nat) : Int)) ∧ ∀ (x1 : Int), x1 = a.getD i.toNat (0 : Int) → InR IntKind.u8 x1 → ∀ (x2 : Int), x2 = xorI IntKind.u8 x1 (90 : Int) → InR IntKind.u8 x2 → Need ((0 : Int) ≤ i ∧ i < za) ∧ Need ((0 : Int) ≤ i ∧ i < ((a.length : Nat) : Int)) ∧ ∀ (x3 : List Int), x3 = a.set i.toNat x2 → AllR IntKind.u8 x3 → ∀ (x4 : Int), x4 = IntKind.i64.wrap (i + (1 : Int)) → InR IntKind.i64 x4 → Same Tryd.f10 (18 : Nat) (itemsOf Tryd.f10 (18 : Nat)) ∧ Q (18 : Nat) [Pv.z za, Pv.z zo, Pv.z zb, Pv.z zw, Pv.z zc, Pv.z ze, Pv.z x4, Pv.l g, Pv.l g', Pv.l x3, Pv.l o, Pv.l b, Pv.l w, Pv.l c, Pv.l e]) ∧ (decide (i < za) = false → Same Tryd.f10 (23 : Nat) (itemsOf Tryd.f10 (23 : Nat)) ∧ Q (23 : Nat) [Pv.z za, Pv.z zo, Pv.z zb, Pv.z zw, Pv.z zc, Pv.z ze, Pv.z za, Pv.z (0 : Int), Pv.l g, Pv.l g', Pv.l a, Pv.l o, Pv.l b, Pv.l w, Pv.l c, Pv.l e])) := by
  intros
  kernel_rfl
theorem lc10b_eq : ∀ (za zo zb zw zc ze zg i : Int) (g g' a o b w c e : List Int) (K : List RV → List (Option (List Seg)) → Prop) (Q : Nat → List Pv → Prop), lc10b za zo zb zw zc ze zg i g g' a o b w c e K Q = ((decide (i < (64 : Int)) = true → ∀ (x1 : Int), x1 = IntKind.i64.wrap ((100 : Int) + i) → InR IntKind.i64 x1 → ∀ (x2 : Int), x2 = IntKind.u8.wrap x1 → InR IntKind.u8 x2 → Need ((((a ++ List.take (1 : Nat) (List.drop (0 : Nat) [x2])).length : Nat) : Int) * (1 : Int) ≤ (70368744177664 : Int)) ∧ Need (zg = ((a.length : Nat) : Int)) ∧ Need ((1 : Int) ≤ (([x2].length : Nat) : Int)) ∧ ∀ (x3 : List Int), x3 = a ++ List.take (1 : Nat) (List.drop (0 : Nat) [x2]) → AllR IntKind.u8 x3 → ∀ (x4 : Int), x4 = (((a ++ List.take (1 : Nat) (List.drop (0 : Nat) [x2])).length : Nat) : Int) → (0 : Int) ≤ x4 → InR IntKind.i64 x4 → ∀ (x5 : Int), x5 = IntKind.i64.wrap (i + (1 : Int)) → InR IntKind.i64 x5 → Same Tryd.f10 (23 : Nat) (itemsOf Tryd.f10 (23 : Nat)) ∧ Q (1023 : Nat) [Pv.z za, Pv.z zo, Pv.z zb, Pv.z zw, Pv.z zc, Pv.z ze, Pv.z x4, Pv.z x5, Pv.l g, Pv.l g', Pv.l o, Pv.l b, Pv.l w, Pv.l c, Pv.l e, Pv.l x3]) ∧ (decide (i < (64 : Int)) = false → Same Tryd.f10 (27 : Nat) (itemsOf Tryd.f10 (27 : Nat)) ∧ False)) := by
  intros
  kernel_rfl
theorem lc10c_eq : ∀ (za zo zb zw zc ze zg i : Int) (g g' o b w c e l : List Int) (K : List RV → List (Option (List Seg)) → Prop) (Q : Nat → List Pv → Prop), lc10c za zo zb zw zc ze zg i g g' o b w c e l K Q = ((decide (i < (64 : Int)) = true → ∀ (x1 : Int), x1 = IntKind.i64.wrap ((100 : Int) + i) → InR IntKind.i64 x1 → ∀ (x2 : Int), x2 = IntKind.u8.wrap x1 → InR IntKind.u8 x2 → Need ((((l ++ List.take (1 : Nat) (List.drop (0 : Nat) [x2])).length : Nat) : Int) * (1 : Int) ≤ (70368744177664 : Int)) ∧ Need (zg = ((l.length : Nat) : Int)) ∧ Need ((1 : Int) ≤ (([x2].length : Nat) : Int)) ∧ ∀ (x3 : List Int), x3 = l ++ List.take (1 : Nat) (List.drop (0 : Nat) [x2]) → AllR IntKind.u8 x3 → ∀ (x4 : Int), x4 = (((l ++ List.take (1 : Nat) (List.drop (0 : Nat) [x2])).length : Nat) : Int) → (0 : Int) ≤ x4 → InR IntKind.i64 x4 → ∀ (x5 : Int), x5 = IntKind.i64.wrap (i + (1 : Int)) → InR IntKind.i64 x5 → Same Tryd.f10 (23 : Nat) (itemsOf Tryd.f10 (23 : Nat)) ∧ Q (1023 : Nat) [Pv.z za, Pv.z zo, Pv.z zb, Pv.z zw, Pv.z zc, Pv.z ze, Pv.z x4, Pv.z x5, Pv.l g, Pv.l g', Pv.l o, Pv.l b, Pv.l w, Pv.l c, Pv.l e, Pv.l x3]) ∧ (decide (i < (64 : Int)) = false → Same Tryd.f10 (27 : Nat) (itemsOf Tryd.f10 (27 : Nat)) ∧ Q (27 : Nat) [Pv.z za, Pv.z zo, Pv.z zb, Pv.z zw, Pv.z zc, Pv.z ze, Pv.z zg, Pv.z (0 : Int), Pv.l g, Pv.l g', Pv.l o, Pv.l b, Pv.l w, Pv.l c, Pv.l e, Pv.l l])) := by
  intros
  kernel_rfl
theorem lc10d_eq : ∀ (za zo zb zw zc ze zg i : Int) (g g' o b w c e l : List Int) (K : List RV → List (Option (List Seg)) → Prop) (Q : Nat → List Pv → Prop), lc10d za zo zb zw zc ze zg i g g' o b w c e l K Q = ((decide (i < zo) = true → Need ((0 : Int) ≤ i ∧ i < zo) ∧ Need ((0 : Int) ≤ i ∧ i < ((o.length : Nat) : Int)) ∧ ∀ (x1 : Int), x1 = o.getD i.toNat (0 : Int) → InR IntKind.u8 x1 → ∀ (x2 : Int), x2 = xorI IntKind.u8 x1 (105 : Int) → InR IntKind.u8 x2 → Need ((0 : Int) ≤ i ∧ i < zo) ∧ Need ((0 : Int) ≤ i ∧ i < ((o.length : Nat) : Int)) ∧ ∀ (x3 : List Int), x3 = o.set i.toNat x2 → AllR IntKind.u8 x3 → ∀ (x4 : Int), x4 = IntKind.i64.wrap (i + (1 : Int)) → InR IntKind.i64 x4 → Same Tryd.f10 (27 : Nat) (itemsOf Tryd.f10 (27 : Nat)) ∧ Q (27 : Nat) [Pv.z za, Pv.z zo, Pv.z zb, Pv.z zw, Pv.z zc, Pv.z ze, Pv.z zg, Pv.z x4, Pv.l g, Pv.l g', Pv.l x3, Pv.l b, Pv.l w, Pv.l c, Pv.l e, Pv.l l]) ∧ (decide (i < zo) = false → Same Tryd.f10 (31 : Nat) (itemsOf Tryd.f10 (31 : Nat)) ∧ Q (31 : Nat) [Pv.z za, Pv.z zo, Pv.z zb, Pv.z zw, Pv.z zc, Pv.z ze, Pv.z zg, Pv.z (0 : Int), Pv.l g, Pv.l g', Pv.l o, Pv.l b, Pv.l w, Pv.l c, Pv.l e, Pv.l l])) := by
  intros
  kernel_rfl
theorem lc10e_eq : ∀ (za zo zb zw zc ze zg i : Int) (g g' o b w c e l : List Int) (K : List RV → List (Option (List Seg)) → Prop) (Q : Nat → List Pv → Prop), lc10e za zo zb zw zc ze zg i g g' o b w c e l K Q = ((decide (i < (64 : Int)) = true → ∀ (x1 : Int), x1 = IntKind.i64.wrap (za + i) → InR IntKind.i64 x1 → Need ((0 : Int) ≤ x1 ∧ x1 < zg) ∧ Need ((0 : Int) ≤ x1 ∧ x1 < ((l.length : Nat) : Int)) ∧ ∀ (x2 : Int), x2 = l.getD x1.toNat (0 : Int) → InR IntKind.u8 x2 → ∀ (x3 : Int), x3 = IntKind.i64.wrap ((100 : Int) + i) → InR IntKind.i64 x3 → ∀ (x4 : Int), x4 = IntKind.u8.wrap x3 → InR IntKind.u8 x4 → ((x2 != x4) = true → K [RV.v (SV.b true false)] []) ∧ ((x2 != x4) = false → ∀ (x5 : Int), x5 = IntKind.i64.wrap (i + (1 : Int)) → InR IntKind.i64 x5 → Same Tryd.f10 (31 : Nat) (itemsOf Tryd.f10 (31 : Nat)) ∧ Q (31 : Nat) [Pv.z za, Pv.z zo, Pv.z zb, Pv.z zw, Pv.z zc, Pv.z ze, Pv.z zg, Pv.z x5, Pv.l g, Pv.l g', Pv.l o, Pv.l b, Pv.l w, Pv.l c, Pv.l e, Pv.l l])) ∧ (decide (i < (64 : Int)) = false → Need ((0 : Int) + zb ≤ ((b.length : Nat) : Int)) ∧ Need ((0 : Int) + zw ≤ ((w.length : Nat) : Int)) ∧ (((ofBytesI (List.take zb.toNat (List.drop (0 : Nat) b))).toList == (ofBytesI (List.take zw.toNat (List.drop (0 : Nat) w))).toList) = true → Need ((0 : Int) + zc ≤ ((c.length : Nat) : Int)) ∧ Need ((0 : Int) + ze ≤ ((e.length : Nat) : Int)) ∧ K [RV.v (SV.b false ((ofBytesI (List.take zc.toNat (List.drop (0 : Nat) c))).toList == (ofBytesI (List.take ze.toNat (List.drop (0 : Nat) e))).toList))] []) ∧ (((ofBytesI (List.take zb.toNat (List.drop (0 : Nat) b))).toList == (ofBytesI (List.take zw.toNat (List.drop (0 : Nat) w))).toList) = false → K [RV.v (SV.b true false)] []))) := by
  intros
  kernel_rfl
/-- A list whose first 'i' bytes are turned. -/
def xorT (c : Int) (l : List Int) (i : Nat) : List Int := (l.take i).map (fun z => xorI .u8 z c) ++ l.drop i
theorem xorT_len (c : Int) (m : List Int) (l : Nat) : (xorT c m l).length = m.length := by simp [xorT]; omega
theorem xorT_zero (c : Int) (m : List Int) : xorT c m 0 = m := by simp [xorT]
theorem xorT_getD (c : Int) (m : List Int) (j : Nat) (h : j < m.length) : (xorT c m j).getD j 0 = m.getD j 0 := by
  have : ((m.take j).map (fun z => xorI .u8 z c)).length = j := by simp; omega
  rw [xorT, List.getD_eq_getElem?_getD, List.getElem?_append_right (by omega), this, Nat.sub_self, List.getElem?_drop, List.getD_eq_getElem?_getD, Nat.add_zero]
theorem xorT_set (c : Int) (m : List Int) (j : Nat) (h : j < m.length) : (xorT c m j).set j (xorI .u8 (m.getD j 0) c) = xorT c m (j + 1) := by
  apply List.ext_getElem?
  intro i
  have hl := xorT_len c m j
  have e1 : ∀ l i, (xorT c m l)[i]? = if i < l then (m[i]?).map (fun z => xorI .u8 z c) else m[i]? := by
    intro l i
    simp only [xorT, List.getElem?_append, List.length_map, List.length_take, List.getElem?_map, List.getElem?_take, List.getElem?_drop]
    by_cases c : i < l
    · by_cases c2 : i < m.length
      · rw [if_pos (by omega), if_pos c, if_pos c]
      · rw [if_neg (by omega), if_pos c]
        rw [List.getElem?_eq_none (by omega), List.getElem?_eq_none (by omega)]; rfl
    · by_cases c2 : l ≤ m.length
      · rw [if_neg (by omega), if_neg c, show l + (i - min l m.length) = i by omega]
      · rw [if_neg (by omega), if_neg c]
        rw [List.getElem?_eq_none (by omega), List.getElem?_eq_none (by omega)]
  rw [e1]
  by_cases c : i = j
  · subst c
    rw [List.getElem?_set_self (by omega), if_pos (by omega), List.getD_eq_getElem?_getD, List.getElem?_eq_getElem h]
    rfl
  · rw [List.getElem?_set_ne (Ne.symm c), e1]
    by_cases c2 : i < j
    · rw [if_pos c2, if_pos (by omega)]
    · rw [if_neg c2, if_neg (by omega)]
/-- What the caller appends. -/
def gl (i : Nat) : List Int := (List.range i).map fun j : Nat => IntKind.u8.wrap (100 + (j : Int))
theorem gl_len (i : Nat) : (gl i).length = i := by simp [gl]
theorem gl_succ (i : Nat) : gl (i + 1) = gl i ++ [IntKind.u8.wrap (100 + (i : Int))] := by simp [gl, List.range_succ]
theorem gl_at (A : List Int) (i : Nat) (h : i < 64) : (A ++ gl 64).getD (A.length + i) 0 = IntKind.u8.wrap (100 + (i : Int)) := by
  rw [List.getD_eq_getElem?_getD, List.getElem?_append_right (by omega), show A.length + i - A.length = i by omega]
  simp [gl, h]
theorem take_all {l : List Int} : List.take l.length (List.drop 0 l) = l := by rw [List.drop_zero, List.take_of_length_le (Nat.le_refl _)]

def inv (A O B E : List Int) (key : Nat) (ps : List Pv) (mm : Nat) : Prop :=
  (key = 18 ∧ ∃ i : Nat, i ≤ A.length ∧ ps = [.z (A.length : Int), .z (O.length : Int), .z (B.length : Int), .z (B.length : Int), .z (E.length : Int), .z (E.length : Int), .z (i : Int), .l K80, .l K80, .l (xorT 90 A i), .l O, .l B, .l B, .l E, .l E] ∧ mm = 166 + O.length + (A.length - i)) ∨
  (key = 23 ∧ ps = [.z (A.length : Int), .z (O.length : Int), .z (B.length : Int), .z (B.length : Int), .z (E.length : Int), .z (E.length : Int), .z (A.length : Int), .z 0, .l K80, .l K80, .l (xorT 90 A A.length), .l O, .l B, .l B, .l E, .l E] ∧ mm = 165 + O.length) ∨
  (key = 1023 ∧ ∃ i : Nat, 0 < i ∧ i ≤ 64 ∧ ps = [.z (A.length : Int), .z (O.length : Int), .z (B.length : Int), .z (B.length : Int), .z (E.length : Int), .z (E.length : Int), .z ((A.length + i : Nat) : Int), .z (i : Int), .l K80, .l K80, .l O, .l B, .l B, .l E, .l E, .l (xorT 90 A A.length ++ gl i)] ∧ mm = 100 + O.length + (64 - i)) ∨
  (key = 27 ∧ ∃ i : Nat, i ≤ O.length ∧ ps = [.z (A.length : Int), .z (O.length : Int), .z (B.length : Int), .z (B.length : Int), .z (E.length : Int), .z (E.length : Int), .z ((A.length + 64 : Nat) : Int), .z (i : Int), .l K80, .l K80, .l (xorT 105 O i), .l B, .l B, .l E, .l E, .l (xorT 90 A A.length ++ gl 64)] ∧ mm = 66 + (O.length - i)) ∨
  (key = 31 ∧ ∃ i : Nat, ∃ O1 : List Int, i ≤ 64 ∧ ps = [.z (A.length : Int), .z (O.length : Int), .z (B.length : Int), .z (B.length : Int), .z (E.length : Int), .z (E.length : Int), .z ((A.length + 64 : Nat) : Int), .z (i : Int), .l K80, .l K80, .l O1, .l B, .l B, .l E, .l E, .l (xorT 90 A A.length ++ gl 64)] ∧ mm = 64 - i)
theorem loops (A O B E : List Int) (hA : (A.length : Int) ≤ 60000000000000) (hO : (O.length : Int) ≤ 60000000000000) : ∀ vk t ps m, (vk, t) ∈ L10 → inv A O B E vk ps m →
    runLoop Δ7 Tryd.f10 (loopKeysM L10) (vk % 1000) (instSt t ps) (fun x h' => kvG 0 x h' fun rvs fin => ∃ e, rvs = [.v (.b e true)]) (handM L10 fun key' ps' => ∃ m', m' < m ∧ inv A O B E key' ps' m') := by
  rintro vk t ps mm ht (⟨rfl, i, hi, rfl, rfl⟩ | ⟨rfl, rfl, rfl⟩ | ⟨rfl, i, hi0, hi, rfl, rfl⟩ | ⟨rfl, i, hi, rfl, rfl⟩ | ⟨rfl, i, O1, hi, rfl, rfl⟩)
  all_goals simp only [L10, List.mem_cons, List.not_mem_nil, or_false, Prod.mk.injEq, Nat.reduceEqDiff, false_and, true_and, false_or, or_false] at ht
  · subst ht
    show lc10a (A.length : Int) (O.length : Int) (B.length : Int) (B.length : Int) (E.length : Int) (E.length : Int) (i : Int) K80 K80 (xorT 90 A i) O B B E E _ _
    rw [lc10a_eq]
    have hl := xorT_len 90 A i
    refine ⟨fun hlt => ?_, fun hge => ?_⟩
    · have hlt := of_decide_eq_true hlt
      refine ⟨need_of (by omega), need_of (by omega), ?_⟩
      intro x1 e1 _ x2 e2 _
      refine ⟨need_of (by omega), need_of (by omega), ?_⟩
      intro x3 e3 _ x4 e4 _
      rw [wrap_i64 (by omega)] at e4
      rw [Int.toNat_natCast] at e1 e3
      rw [xorT_getD _ _ _ (by omega)] at e1
      rw [e2, e1, xorT_set _ _ _ (by omega)] at e3
      subst e3; subst e4
      exact ⟨rfl, _, by omega, Or.inl ⟨rfl, i + 1, by omega, rfl, rfl⟩⟩
    · have hge := of_decide_eq_false hge
      obtain rfl : i = A.length := by omega
      exact ⟨rfl, _, by omega, Or.inr (Or.inl ⟨rfl, rfl, rfl⟩)⟩
  · subst ht
    show lc10b (A.length : Int) (O.length : Int) (B.length : Int) (B.length : Int) (E.length : Int) (E.length : Int) (A.length : Int) 0 K80 K80 (xorT 90 A A.length) O B B E E _ _
    rw [lc10b_eq]
    have hl := xorT_len 90 A A.length
    refine ⟨fun hlt => ?_, fun hge => absurd hge (by decide)⟩
    intro x1 e1 _ x2 e2 _
    rw [wrap_i64 (by omega)] at e1
    have ht : List.take 1 (List.drop 0 [x2]) = [x2] := rfl
    have hl2 : (xorT 90 A A.length ++ [x2]).length = A.length + 1 := by rw [List.length_append, hl]; rfl
    rw [ht, hl2]
    refine ⟨need_of (by omega), need_of (by omega), need_of (by simp), ?_⟩
    intro x3 e3 _ x4 e4 _ _ x5 e5 _
    rw [wrap_i64 (by omega)] at e5
    subst e1; subst e2; subst e3; subst e4; subst e5
    exact ⟨rfl, _, by omega, Or.inr (Or.inr (Or.inl ⟨rfl, 1, by omega, by omega, rfl, rfl⟩))⟩
  · subst ht
    show lc10c (A.length : Int) (O.length : Int) (B.length : Int) (B.length : Int) (E.length : Int) (E.length : Int) ((A.length + i : Nat) : Int) (i : Int) K80 K80 O B B E E (xorT 90 A A.length ++ gl i) _ _
    rw [lc10c_eq]
    have hl : (xorT 90 A A.length ++ gl i).length = A.length + i := by rw [List.length_append, xorT_len, gl_len]
    refine ⟨fun hlt => ?_, fun hge => ?_⟩
    · have hlt := of_decide_eq_true hlt
      intro x1 e1 _ x2 e2 _
      rw [wrap_i64 (by omega)] at e1
      have ht : List.take 1 (List.drop 0 [x2]) = [x2] := rfl
      have hl2 : (xorT 90 A A.length ++ gl i ++ [x2]).length = A.length + (i + 1) := by rw [List.length_append, hl]; rfl
      rw [ht, hl2]
      refine ⟨need_of (by omega), need_of (by omega), need_of (by simp), ?_⟩
      intro x3 e3 _ x4 e4 _ _ x5 e5 _
      rw [wrap_i64 (by omega)] at e5
      rw [e2, e1, List.append_assoc, ← gl_succ] at e3
      subst e3; subst e4; subst e5
      exact ⟨rfl, _, by omega, Or.inr (Or.inr (Or.inl ⟨rfl, i + 1, by omega, by omega, rfl, rfl⟩))⟩
    · have hge := of_decide_eq_false hge
      obtain rfl : i = 64 := by omega
      exact ⟨rfl, _, by omega, Or.inr (Or.inr (Or.inr (Or.inl ⟨rfl, 0, by omega, by rw [xorT_zero]; rfl, rfl⟩)))⟩
  · subst ht
    show lc10d (A.length : Int) (O.length : Int) (B.length : Int) (B.length : Int) (E.length : Int) (E.length : Int) ((A.length + 64 : Nat) : Int) (i : Int) K80 K80 (xorT 105 O i) B B E E (xorT 90 A A.length ++ gl 64) _ _
    rw [lc10d_eq]
    have hl := xorT_len 105 O i
    refine ⟨fun hlt => ?_, fun hge => ?_⟩
    · have hlt := of_decide_eq_true hlt
      refine ⟨need_of (by omega), need_of (by omega), ?_⟩
      intro x1 e1 _ x2 e2 _
      refine ⟨need_of (by omega), need_of (by omega), ?_⟩
      intro x3 e3 _ x4 e4 _
      rw [wrap_i64 (by omega)] at e4
      rw [Int.toNat_natCast] at e1 e3
      rw [xorT_getD _ _ _ (by omega)] at e1
      rw [e2, e1, xorT_set _ _ _ (by omega)] at e3
      subst e3; subst e4
      exact ⟨rfl, _, by omega, Or.inr (Or.inr (Or.inr (Or.inl ⟨rfl, i + 1, by omega, rfl, rfl⟩)))⟩
    · exact ⟨rfl, 64 - 0, by omega, Or.inr (Or.inr (Or.inr (Or.inr ⟨rfl, 0, xorT 105 O i, by omega, rfl, rfl⟩)))⟩
  · subst ht
    show lc10e (A.length : Int) (O.length : Int) (B.length : Int) (B.length : Int) (E.length : Int) (E.length : Int) ((A.length + 64 : Nat) : Int) (i : Int) K80 K80 O1 B B E E (xorT 90 A A.length ++ gl 64) _ _
    rw [lc10e_eq]
    have hl : (xorT 90 A A.length ++ gl 64).length = A.length + 64 := by rw [List.length_append, xorT_len, gl_len]
    refine ⟨fun hlt => ?_, fun hge => ?_⟩
    · have hlt := of_decide_eq_true hlt
      intro x1 e1 _
      rw [wrap_i64 (by omega)] at e1
      refine ⟨need_of (by omega), need_of (by omega), ?_⟩
      intro x2 e2 _ x3 e3 _ x4 e4 _
      rw [wrap_i64 (by omega)] at e3
      have ea : (xorT 90 A A.length).length = A.length := xorT_len _ _ _
      have hg := gl_at (xorT 90 A A.length) i (by omega)
      rw [ea] at hg
      rw [show x1.toNat = A.length + i by omega, hg] at e2
      have e24 : x2 = x4 := by rw [e2, e4, e3]
      refine ⟨fun h => by rw [e24] at h; simp at h, fun _ => ?_⟩
      intro x5 e5 _
      rw [wrap_i64 (by omega)] at e5
      subst e5
      exact ⟨rfl, _, by omega, Or.inr (Or.inr (Or.inr (Or.inr ⟨rfl, i + 1, O1, by omega, rfl, rfl⟩)))⟩
    · rw [Int.toNat_natCast, Int.toNat_natCast, take_all, take_all]
      refine ⟨need_of (by omega), need_of (by omega), fun _ => ⟨need_of (by omega), need_of (by omega), false, by simp⟩, fun h => by simp at h⟩


theorem head_at (d : RO) (i : Nat) (h : i < (roX d).length) : (headT d (roX d).length).getD i (0, 0) = (i, (roL (roN d i)).length) := by
  rw [List.getD_eq_getElem?_getD]
  simp [headT, h]
theorem n_take (l : List Int) (f : Int → Int) : List.take l.length (l.map f) = l.map f := List.take_of_length_le (by rw [List.length_map]; exact Nat.le_refl _)
theorem strL_out (k : List Int) (n : Int) (h : ¬ (0 ≤ n ∧ n ≤ 1048576)) : strL k n = [] := by
  unfold strL
  by_cases h1 : n ≤ 1048576
  · have : n.toNat = 0 := by omega
    rw [this]; rfl
  · rw [if_neg h1]
    show List.take _ (strB k 0) = []
    show List.take _ [] = []
    rw [List.take_nil]
theorem strL_le (k : List Int) (n : Int) : ((strL k n).length : Int) ≤ 1048576 := by
  by_cases h : 0 ≤ n ∧ n ≤ 1048576
  · rw [strL_len k n h.1 h.2]; exact h.2
  · rw [strL_out k n h]; decide
def seed2 : List Int := [(97 : Int), (110 : Int), (111 : Int), (116 : Int), (104 : Int), (101 : Int), (114 : Int), (32 : Int), (115 : Int), (101 : Int), (101 : Int), (100 : Int)]
theorem law (W : World) (hG : Glob gh4 W fun _ => False) (k : RO) (v : Value) (hv : RoD W (OutB W fun _ => False) (.ints .u8) k v) (hs : ∃ ad n cap, v = .slice ad n cap) (hx' : roMx reachBytes (.ints .u8) k)
    (n : Int) (hn : InR .i64 n) (hM : roM (.ints .u8) k ≤ 1048576) :
    Calls Tryd.prog 10 #[v, .int .i64 n] W fun e w' => e = .returned (.bool true) ∧ Below W.heap.size W w' := by
  have hM : (roL k).length ≤ 1048576 := hM
  refine law_gen Δ7_ok rfl glow4 rfl (fn := Tryd.f10) (L := L10) (av := [.d (.ints .u8) k, .v (.i .i64 ⟨false, n⟩)]) (args' := [.ro 490 (.ints .u8) k, .i .i64 ⟨false, n⟩]) (K := fun rvs fin => ∃ e, rvs = [.v (.b e true)])
    (inv := inv (strL (roL k) n) (strL seed2 n) (strL (roL k) n) (strL ((roL k).map fun z => xorI .u8 z 59) n))
    ⟨rfl, rfl, trivial⟩ (Nat.le_of_ble_eq_true (by kernel_rfl)) ⟨?_, loops _ _ _ _ (by have := strL_le (roL k) n; omega) (by have := strL_le seed2 n; omega), ?_⟩ (fun _ _ h => h) hG ⟨v, _, rfl, hv, _, _, rfl, ⟨rfl, hn⟩, rfl, rfl⟩
  · intro kk t ht g hg
    have hg : g ∈ [0, 1, 2, 3, 490] := hg
    simp only [List.mem_cons, List.not_mem_nil, or_false] at hg
    simp only [L10, List.mem_cons, List.not_mem_nil, or_false, Prod.mk.injEq] at ht
    obtain ⟨rfl, rfl⟩ | ⟨rfl, rfl⟩ | ⟨rfl, rfl⟩ | ⟨rfl, rfl⟩ | ⟨rfl, rfl⟩ := ht <;> rcases hg with rfl | rfl | rfl | rfl | rfl <;> exact ⟨by omega, rfl⟩
  show vc10 k n _ _
  rw [vc10_eq]
  have hk1 : (roX (RO.r [k])).length = 1 := rfl
  have hk0 : roN (RO.r [k]) 0 = k := rfl
  generalize RO.r [k] = kk at hk1 hk0 ⊢
  have hp : 0 < (roX kk).length := by omega
  have hbk : ∀ i, i < (roX kk).length → ((roL (roN kk i)).length : Int) + 8 ≤ 70368744177664 := fun i hi => by
    obtain rfl : i = 0 := by omega
    rw [hk0]; omega
  refine ⟨need_of hbk, need_of (by omega), ?_⟩
  intro x1 e1 x2 e2 _ _ x3 e3 _ _
  rw [fullT_len] at e2
  rw [heads_length] at e3
  subst e1; subst e2; subst e3
  simp only [Int.toNat_natCast, heads_length, heads_at kk 0 hp, rows_at kk 0 hp, List.take_left, roL_l, fullT_len, full_all, heads_all, v_full, v_all, rows_length, hk0]
  refine ⟨need_of (by decide), need_of (fun i hi => by obtain rfl : i = 0 := by omega
                                                       decide), need_of (by decide), ?_⟩
  intro x4 e4 x5 e5 _ _ x6 e6 _ _
  have hV : List.take 12 (x4.getD 0 []) = seed2 := by rw [e4]; rfl
  have hVl : (12 : Int) ≤ (((x4.getD 0 []).length : Nat) : Int) := by rw [e4]; decide
  have hsl : seed2.length = 12 := rfl
  rw [hV]
  refine ⟨need_of (by omega), need_of (by omega), need_of (by omega), need_of (by rw [List.length_append]; omega), need_of (by omega), ?_⟩
  intro x7 e7 _ x8 e8 _ _
  rw [← e7] at e8
  refine ⟨need_of (by omega), need_of (by omega), need_of (by omega), need_of hVl, need_of (by omega), ?_⟩
  intro x9 e9 _ x10 e10 _ _
  rw [← e9] at e10
  refine ⟨need_of (by omega), need_of (by omega), need_of (by omega), need_of (by rw [List.length_append]; omega), need_of (by omega), ?_⟩
  intro x11 e11 _ x12 e12 _ _
  rw [← e11] at e12
  refine ⟨need_of (by omega), ?_⟩
  intro x13 e13 _ x14 e14 _ _ x15 e15
  rw [← e13] at e14
  refine ⟨need_of (by omega), need_of (b_full kk), need_of (by omega), need_of (b_all kk), need_of (l_1 kk), need_of (l_2 kk hbk), ?_⟩
  intro x16 e16
  refine ⟨fun h => by rw [e16] at h; simp at h, fun _ => ?_⟩
  refine ⟨need_of trivial, need_of trivial, need_of ⟨by omega, by omega, by omega, by omega⟩, need_of (t_pre kk (by omega) hbk), ?_⟩
  intro x17 e17 x18 e18 x19 e19 _ _
  rw [t_hs, headT_len] at e19
  subst e17; subst e18; subst e19
  simp only [Int.toNat_natCast, t_hs, headT_len, head_at kk 0 hp, t_at kk 0 hp, n_at kk 0 hp, turn_take, n_take, hk0]
  refine ⟨need_of (by omega), need_of (by omega), need_of (by omega), need_of (by rw [turnRow_len, List.length_append]; omega), need_of (by rw [List.length_map]; omega), ?_⟩
  intro x20 e20 _ x21 e21 _ _
  rw [← e20] at e21
  have hle := strL_le
  by_cases hr : 0 ≤ n ∧ n ≤ 1048576
  · have hd : (decide (0 ≤ n) && decide (n ≤ 1048576)) = true := by simp [hr]
    refine ⟨fun h => by rw [e15, hd] at h; simp at h, fun _ => ?_⟩
    refine ⟨need_of (by decide), need_of (by decide), ?_⟩
    intro x25 e25 _ x26 e26 _ _ x27 e27
    rw [← e25] at e26
    have e25 : x25 = strL seed2 n := e25
    refine ⟨need_of (by omega), need_of (by omega), need_of (by rw [List.length_map]; omega), need_of (by rw [List.length_map]; omega), ?_⟩
    intro x28 e28 _ x29 e29 _ _ x30 e30
    rw [← e28] at e29
    subst e8; subst e10; subst e12; subst e14; subst e21; subst e26; subst e29
    simp only [Int.toNat_natCast, take_all]
    have h713 : x7 = x13 := by rw [e7, e13]
    have h1113 : x11 = x13 := by rw [e11, e13]
    have h925 : x9 = x25 := by rw [e9, e25]
    have h2028 : x20 = x28 := by rw [e20, e28]
    rw [h713, h1113, h925, h2028]
    refine ⟨need_of (by omega), need_of (by omega), fun h => by simp at h, fun _ => ⟨need_of (by omega), need_of (by omega), fun h => by simp at h, fun _ => ⟨need_of (by omega), need_of (by omega), fun h => by simp at h, fun _ => ⟨need_of (by omega), need_of (by omega), fun h => by simp at h, fun _ => ?_⟩⟩⟩⟩
    rw [e13, e25, e28]
    exact ⟨rfl, _, Or.inl ⟨rfl, 0, by omega, by rw [xorT_zero]; rfl, rfl⟩⟩
  · have hd : (decide (0 ≤ n) && decide (n ≤ 1048576)) = false := by
      rw [Bool.and_eq_false_iff, decide_eq_false_iff_not, decide_eq_false_iff_not]; omega
    refine ⟨fun _ => ?_, fun h => by rw [e15, hd] at h; simp at h⟩
    have z8 : x8 = 0 := by rw [e8, e7, strL_out _ _ hr]; rfl
    have z10 : x10 = 0 := by rw [e10, e9, strL_out _ _ hr]; rfl
    have z12 : x12 = 0 := by rw [e12, e11, strL_out _ _ hr]; rfl
    have z21 : x21 = 0 := by rw [e21, e20, strL_out _ _ hr]; rfl
    intro x22 e22 _ x23 e23 _ x24 e24 _
    rw [z8, z12] at e22
    have e22 : x22 = 0 := e22
    rw [e22, z21] at e23
    have e23 : x23 = 0 := e23
    rw [e23, z10] at e24
    have e24 : x24 = 0 := e24
    exact ⟨fun _ => ⟨true, rfl⟩, fun h => by rw [e24] at h; simp at h⟩
end HashStretch

namespace HashStretch
open Go.Proofs.YtihihilhfijloaaDoor
open Go.ChangeShapes Go.WideShapes Go.ChangeAt Go.RowKit
theorem reads (t : Nat) (h : t ∈ Tryd.f10.params.toList) : Tryd.prog.readableRec t = true ∧ t < Tryd.prog.types.size := by
  have hp : Tryd.f10.params.toList = [25, 3] := by kernel_rfl
  rw [hp] at h
  simp only [List.mem_cons, List.not_mem_nil, or_false] at h
  rcases h with rfl | rfl <;> exact ⟨by kernel_rfl, Nat.le_of_ble_eq_true (by kernel_rfl)⟩

set_option maxRecDepth 100000 in
/-- What the call gives, for every argument and every world that holds the tables. -/
theorem contract (H : Type) (enc : TypeId × Value → H) (W : World) (base : Nat) (args : Array Value) (ds gs : List (DataW H)) (before : List MemPlace)
    (hval : ∀ (j : Nat) t v, Tryd.f10.params[j]? = some t → args[j]? = some v → Value.okWide Tryd.prog W .any base t v)
    (hW : DataW.Whole enc Tryd.prog Tryd.f10.params.toList Rows.hashStretchSpec.vars false W args.toList ds gs before)
    (hw : (DataW.weightsEach Tryd.prog (Tryd.f10.params.toList ++ (Rows.OpenSpec.upto Rows.hashStretchSpec).bare.plain.varTypes Tryd.prog) (ds ++ gs)).all (· ≤ reachBytes) = true) (hL : laidMetH Tryd.prog Rows.hashStretchUptoRow.laid W) (hC : Rows.uptoSmall H (ds ++ gs) = true) :
    Calls Tryd.prog 10 args W fun e W' => ∃ v, e = .returned v ∧ Rows.hashStretchSpec.post enc Tryd.prog Tryd.f10 false true false false W args v W' := by
  have hA : DataW.TrodAll enc Tryd.prog W 0 (fun _ => true) true [25, 3] args.toList ds _ := hW.choose_spec.choose_spec.1
  obtain ⟨v0, vs0, d0, ds0, p0, q0, hargs, hds, _, h0, r0⟩ := trodAll_cons hA
  obtain ⟨v1, vs1, d1, ds1, p1, q1, rfl, hds1, _, h1, r1⟩ := trodAll_cons r0
  obtain ⟨rfl, hdsn, _⟩ := trodAll_nil r1
  obtain rfl : args = #[v0, v1] := by cases args; simp_all
  have hds : ds = [d0, d1] := by rw [hds, hds1, hdsn]
  have hp : Tryd.f10.params = #[25, 3] := by kernel_rfl
  rw [hp] at hval
  have hp2 : Tryd.f10.params.toList = [25, 3] := by kernel_rfl
  rw [hds, hp2] at hw
  have hC : Rows.uptoBulkAll (ds ++ gs) ≤ 1048576 := of_decide_eq_true hC
  rw [hds, bulkAll_app] at hC
  simp only [Rows.uptoBulkAll] at hC
  have hc0 : v0.cells.toList = [v0] := by
    obtain ⟨a, len, cap, e⟩ := okWide_slice (e := 5) (by kernel_rfl) (hval 0 25 v0 rfl rfl)
    rw [e]; rfl
  obtain ⟨o0, e0, s0, b0, x0⟩ := arg_ro reachBytes (.ints .u8) (by kernel_rfl) rfl hc0 h0
  have x0 := x0 fun n hn => by simpa using List.all_eq_true.1 hw n (DataW.weights_mem_each (j := 0) rfl rfl n hn)
  obtain ⟨z1, rfl, hr1⟩ := int_arg (k := .i64) (by kernel_rfl) (hval 1 3 v1 rfl rfl)
  refine (law W (tab_glob4 hL) o0 v0 e0 s0 x0 z1 hr1 (by omega)).mono fun e W' ⟨he, hB⟩ => ?_
  subst he
  refine ⟨_, rfl, post_true (tb := 4) laidOut rfl (by kernel_rfl) (by kernel_rfl) reads ?_ hW hB⟩
  intro ds hds
  have hds : ds.length = 2 := hds
  match ds, hds with
  | [a0, a1], _ => exact ⟨rfl, rfl, rfl⟩

def wargs : Array Value := #[.slice none 0 0, .int .i64 0]
theorem laid_met (os : Os) : laidMet Tryd.prog Rows.hashStretchUptoRow.laid ((laidWorld4 os).forCall (fun _ _ => 0) ⟨#[], wargs, []⟩).memory :=
  laidMet_of_run' 8 (by kernel_rfl) (by kernel_rfl)
theorem reads0 (os : Os) {H : Type} (enc : TypeId × Value → H) : ∃ places, DataW.whole enc Tryd.prog ((laidWorld4 os).forCall (fun _ _ => 0) ⟨#[], wargs, []⟩).memory Tryd.f10.params.toList Rows.hashStretchSpec.vars false wargs.toList 8 = some ([.nil, .lit (.int .i64 0)], [], places) :=
  ⟨[], by kernel_rfl⟩

set_option maxRecDepth 100000 in
theorem lifted (os : Os) (started : os.Started) (H : Type) (enc : TypeId × Value → H) (F : Stop.Interp) :
    ReturnsInHanded {} Tryd.checked os 10 .any ((Rows.OpenSpec.upto Rows.hashStretchSpec).preRow enc Tryd.prog Tryd.f10 Rows.hashStretchUptoRow.domain false Rows.hashStretchUptoRow.laid) (((Rows.OpenSpec.upto Rows.hashStretchSpec).at F).post enc Tryd.prog Tryd.f10 false true false false) := by
  obtain ⟨places, hx⟩ := reads0 os enc
  refine returnsInHanded_of_row (C := Tryd.checked) (s := (Rows.OpenSpec.upto Rows.hashStretchSpec)) own started (by kernel_rfl) Tryd.func10
    (witness_row_at (enc := enc) (C := Tryd.checked) false (laidWorld4 os) wargs rfl (by kernel_rfl) (by kernel_rfl) (by kernel_rfl)
      (OpenSpec.preRow_of_cond 8 hx (by kernel_rfl) (fun k hk => by cases hk; kernel_rfl) (by kernel_rfl) (laid_met os))) ?_
  intro W base args ds gs before hval hW _ hcond hw hL _ _
  exact contract H enc W base args ds gs before hval hW hw hL (hcond _ rfl)

theorem said : Rows.HashStretchUptoSaid :=
  OpenClaim.holds_of_cond 10 Tryd.f10 rfl rfl rfl rfl rfl rfl rfl ⟨rfl, rfl, rfl, rfl, rfl⟩ rfl rfl rfl rfl rfl (by kernel_rfl) Tryd.func10 (by kernel_rfl)
    (of_decide_eq_true (by kernel_rfl)) (by unfold Func.isWrapper; first | (rw [if_pos (by decide +kernel)]; kernel_rfl) | (rw [if_neg (by decide +kernel)]; exact ⟨rfl, rfl⟩))
    (fun os started H enc _ F => by rw [OpenClaim.pre_eq_preRow]; exact lifted os started H enc F)

theorem plain (f : FuncId) (fn : Func) (hf : Tryd.pinned.checked.prog.funcNamed "veil/veillaw03.HashStretch" = some f) (hfn : Tryd.pinned.checked.prog.funcs[f]? = some fn) :
    false = Tryd.pinned.checked.prog.looks [] ∧ ∀ (j : Nat) t, fn.params[j]? = some t → Tryd.pinned.checked.prog.wantsStandIn t = false := by
  obtain rfl : f = 10 := Option.some.inj ((show Tryd.prog.funcNamed "veil/veillaw03.HashStretch" = some 10 by kernel_rfl).symm.trans hf) |>.symm
  obtain rfl : fn = Tryd.f10 := (Option.some.inj (Tryd.func10.symm.trans hfn)).symm
  refine ⟨by kernel_rfl, fun j t ht => ?_⟩
  have hp : Tryd.f10.params = #[25, 3] := by kernel_rfl
  rw [hp] at ht
  have := Array.mem_of_getElem? ht
  simp only [List.mem_toArray, List.mem_cons, List.not_mem_nil, or_false] at this
  rcases this with rfl | rfl <;> exact (show Tryd.prog.wantsStandIn _ = false by kernel_rfl)

theorem card : Rows.HashStretchUptoCardSaid :=
  Claim7.holds_tied_plain_at .later [] _ _ _ _ said (fun _ h => by cases h) (by kernel_rfl) (fun _ h => by cases h) hashStretchUpto_row_tie rfl ⟨rfl, rfl⟩ (by kernel_rfl) rfl plain (by kernel_rfl)
end HashStretch
end Go.Gx

namespace Go.Proofs.YtihihilhfijloaaDoor
theorem hashStretchProved : Rows.HashStretchUptoCardSaid := Go.Gx.HashStretch.card
end Go.Proofs.YtihihilhfijloaaDoor
#print axioms Go.Proofs.YtihihilhfijloaaDoor.hashStretchProved
