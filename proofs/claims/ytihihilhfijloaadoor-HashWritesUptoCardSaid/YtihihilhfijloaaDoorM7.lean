/- HashWrites: every call on any number of states and clones, in any order: their sums and sizes are those of the document's. For all scripts whose bytes are not more than the cards' bound; the tables lie as the program's text lays them. -/
import Derived.Test.YtihihilhfijloaaDoorM6
import Derived.Test.YtihihilhfijloaaDoorM4
import Derived.Test.YtihihilhfijloaaDoorCards
import Derived.Test.YtihihilhfijloaaDoorTie
import Derived.WalkKit
import Derived.ProofKit
import Derived.OpenShut
import Derived.Carry
import Derived.Deep.DeepHandedRow
import Derived.Lib.LaidTab
import Derived.ChangeSlices
import Derived.SizedLaws
import Derived.Stop.LaidErr
import Derived.Test.YtihihilhfijloaaDoorM5
import Derived.Test.YtihihilhfijloaaDoorRows

/- The walk's loops, one turn each. -/
namespace Go.Gx
open Go.Proofs Go.Sp
set_option linter.unusedVariables false
set_option maxRecDepth 100000

def shO : Sh := .l (.r [.i .i64, .i .i64, .ints .u8])
def h21 : Heap := gh4 ++ [(490, .world), (1000, .segs false [.rowP 1001 0]), (1001, .pool (.r tsS) []), (1002, .segs false [.rowP 1003 0]), (1003, .pool (.b .u8 none) [])]
def L21 : Loops := [(7, ⟨[.ro 490 shO (.r []), .i .i64 ⟨true, 1⟩, .i .i64 ⟨true, 3⟩, .any, .any, .any, .any, .any, .sl 1000 0 1 ⟨true, .ofNat 0⟩ ⟨false, 0⟩, .sl 1002 0 1 ⟨true, .ofNat 0⟩ ⟨false, 0⟩, .i .i64 ⟨false, 0⟩] ++ reps .any 170, h21, 2000⟩), (44, ⟨[.any, .any, .any, .any, .any, .any, .any, .any, .sl 1000 0 1 ⟨true, .ofNat 0⟩ ⟨false, 0⟩, .sl 1002 0 1 ⟨true, .ofNat 0⟩ ⟨false, 0⟩, .any, .any, .any, .any, .any, .any, .any, .any, .any, .i .i64 ⟨false, 0⟩] ++ reps .any 161, h21, 2000⟩)]
def vc21 (d : RO) (K : List RV → List (Option (List Seg)) → Prop) (Q : Nat → List Pv → Prop) : Prop := fnVcG 0 Δ8 Tryd.f21 L21 [.ro 490 shO d, .i .i64 ⟨true, 1⟩, .i .i64 ⟨true, 3⟩] (gh4 ++ (490, .world) :: []) K Q
def lc21a (d : RO) (n m i : Int) (k : Nat) (ms : List (List Int)) (k' : Nat) (ds : List (List Int)) (K : List RV → List (Option (List Seg)) → Prop) (Q : Nat → List Pv → Prop) : Prop := loopVcG 0 Δ8 Tryd.f21 L21 7 [.ro d, .z n, .z m, .z i, .l K80, .l K80, .n k, .ll ms, .n k', .ll ds] K Q
def lc21b (n m i : Int) (k : Nat) (ms : List (List Int)) (k' : Nat) (ds : List (List Int)) (K : List RV → List (Option (List Seg)) → Prop) (Q : Nat → List Pv → Prop) : Prop := loopVcG 0 Δ8 Tryd.f21 L21 44 [.z n, .z m, .z i, .l K80, .l K80, .n k, .ll ms, .n k', .ll ds] K Q
theorem vc21_eq : ∀ (d : RO) (K : List RV → List (Option (List Seg)) → Prop) (Q : Nat → List Pv → Prop), vc21 d K Q = ForI .u64 (7640891576956012808 : Int) fun x1 => ForI .u64 (13503953896175478587 : Int) fun x2 => ForI .u64 (4354685564936845355 : Int) fun x3 => ForI .u64 (11912009170470909681 : Int) fun x4 => ForI .u64 (5840696475078001361 : Int) fun x5 => ForI .u64 (11170449401992604703 : Int) fun x6 => ForI .u64 (2270897969802886507 : Int) fun x7 => ForI .u64 (6620516959819538809 : Int) fun x8 => ForA .u8 128 (List.replicate 128 (0 : Int)) fun x9 => Same Tryd.f21 7 (itemsOf Tryd.f21 7) ∧ Q 7 [Pv.ro d, Pv.z 1, Pv.z 1, Pv.z 0, Pv.l K80, Pv.l K80, Pv.n (1 : Nat), Pv.ll [[x1, x2, x3, x4, x5, x6, x7, x8] ++ (x9 ++ [(0 : Int), (1 : Int)])], Pv.n (1 : Nat), Pv.ll [[]]] := by
 intros
 kernel_rfl
theorem lc21b_eq : ∀ (n m i : Int) (k : Nat) (ms : List (List Int)) (k' : Nat) (ds : List (List Int)) (K : List RV → List (Option (List Seg)) → Prop) (Q : Nat → List Pv → Prop), lc21b n m i k ms k' ds K Q = ((decide (i < n) = true → Need (0 ≤ i ∧ i < n) ∧ Need (0 ≤ i ∧ i < ((k : Nat) : Int)) ∧ Need (i.toNat < ms.length) ∧ Need ((0 : Int) ≤ (List.drop 128 (List.drop 8 (ms.getD i.toNat []))).headD (0 : Int)) ∧ ∀ (x1 : List (List Int)), x1 = ms.set i.toNat (List.take 8 (ms.getD i.toNat []) ++ (List.take 128 (List.drop 8 (ms.getD i.toNat [])) ++ [(List.drop 128 (List.drop 8 (ms.getD i.toNat []))).headD (0 : Int), match (List.drop 128 (List.drop 8 (ms.getD i.toNat []))).tail.headD (0 : Int) != (0 : Int) with | true => (1 : Int) | false => (0 : Int)])) → ForA .u8 64 (sumL (List.take 8 (ms.getD i.toNat [])) (List.take 128 (List.drop 8 (ms.getD i.toNat []))) ((List.drop 128 (List.drop 8 (ms.getD i.toNat []))).headD (0 : Int)) ((List.drop 128 (List.drop 8 (ms.getD i.toNat []))).tail.headD (0 : Int) != (0 : Int))) fun x2 => Need (0 ≤ i ∧ i < m) ∧ Need (0 ≤ i ∧ i < ((k' : Nat) : Int)) ∧ Need ((((ds.getD i.toNat []).length : Nat) : Int) < 9223372036854775808) ∧ ∀ (x3 : List (List Int)), x3 = ds → ForN (((ds.getD i.toNat []).length : Nat) : Int) fun x4 => Need (x4 = (((x3.getD i.toNat []).length : Nat) : Int)) ∧ Need ((((roL (RO.l (x3.getD i.toNat []))).length : Nat) : Int) ≤ 70368744177000) ∧ ForA .u8 64 (sha (roL (RO.l (x3.getD i.toNat [])))) fun x5 => ((!x2 == x5) = true → K [RV.v (SV.b true false)] []) ∧ ((!x2 == x5) = false → Need (0 ≤ i ∧ i < n) ∧ Need (0 ≤ i ∧ i < ((k : Nat) : Int)) ∧ Need (i.toNat < x1.length) ∧ ∀ (x6 : List (List Int)), x6 = x1.set i.toNat (List.take 8 (x1.getD i.toNat []) ++ (List.take 128 (List.drop 8 (x1.getD i.toNat [])) ++ [(List.drop 128 (List.drop 8 (x1.getD i.toNat []))).headD (0 : Int), match (List.drop 128 (List.drop 8 (x1.getD i.toNat []))).tail.headD (0 : Int) != (0 : Int) with | true => (1 : Int) | false => (0 : Int)])) → ForI .i64 (sizeL ((List.drop 128 (List.drop 8 (x1.getD i.toNat []))).headD (0 : Int)) ((List.drop 128 (List.drop 8 (x1.getD i.toNat []))).tail.headD (0 : Int) != (0 : Int))) fun x7 => Need (0 ≤ i ∧ i < m) ∧ Need (0 ≤ i ∧ i < ((k' : Nat) : Int)) ∧ Need ((((x3.getD i.toNat []).length : Nat) : Int) < 9223372036854775808) ∧ ∀ (x8 : List (List Int)), x8 = x3 → ForN (((x3.getD i.toNat []).length : Nat) : Int) fun x9 => ((x7 != x9) = true → K [RV.v (SV.b true false)] []) ∧ ((x7 != x9) = false → ForI .i64 (IntKind.i64.wrap (i + 1)) fun x10 => Same Tryd.f21 44 (itemsOf Tryd.f21 44) ∧ Q 44 [Pv.z n, Pv.z m, Pv.z x10, Pv.l K80, Pv.l K80, Pv.n k, Pv.ll x6, Pv.n k', Pv.ll x8]))) ∧ (decide (i < n) = false → K [RV.v (SV.b true true)] [])) := by
 intros
 kernel_rfl
theorem lc21a_eq : ∀ (d : RO) (n m i : Int) (k : Nat) (ms : List (List Int)) (k' : Nat) (ds : List (List Int)) (K : List RV → List (Option (List Seg)) → Prop) (Q : Nat → List Pv → Prop), lc21a d n m i k ms k' ds K Q = ((decide (i < (((roX d).length : Nat) : Int)) = true → Need (0 ≤ i ∧ i < (((roX d).length : Nat) : Int)) ∧ ForI .i64 (roZ (roN (roN d i.toNat) 0)) fun x1 => ForI .i64 (roZ (roN (roN d i.toNat) 1)) fun x2 => Need (n ≠ 0) ∧ ForI .i64 (x2.tmod n) fun x3 => (decide (x3 < 0) = true → Need ((0 : Int) ≤ 0 ∧ 0 < n) ∧ Need (0 < k) ∧ Need ((0 : Int) ≤ 0 ∧ 0 < m) ∧ Need ((0 : Nat) < k') ∧ ((x1 == 1) = true → Need (∀ (i_1 : Nat), i_1 < (roX (RO.r [roN (roN d i.toNat) 2])).length → (((roL (roN (RO.r [roN (roN d i.toNat) 2]) i_1)).length : Nat) : Int) + 8 ≤ (70368744177664 : Int)) ∧ Need (((((roX (RO.r [roN (roN d i.toNat) 2])).length + (1 : Nat)) : Nat) : Int) * 24 ≤ (70368744177664 : Int)) ∧ ∀ (x4 : List (List Int)), x4 = rowsT (RO.r [roN (roN d i.toNat) 2]) (roX (RO.r [roN (roN d i.toNat) 2])).length ++ [marksL] → ForN (((List.length (fullT (RO.r [roN (roN d i.toNat) 2]) (roX (RO.r [roN (roN d i.toNat) 2])).length)) : Nat) : Int) fun x5 => ForN (((List.length (headT (RO.r [roN (roN d i.toNat) 2]) (roX (RO.r [roN (roN d i.toNat) 2])).length ++ [((roX (RO.r [roN (roN d i.toNat) 2])).length, (8 : Nat))])) : Nat) : Int) fun x6 => Need (x5 ≤ x6) ∧ Need ((0 : Int) ≤ 0 ∧ 0 < x5) ∧ Need ((0 : Nat) < List.length (headT (RO.r [roN (roN d i.toNat) 2]) (roX (RO.r [roN (roN d i.toNat) 2])).length ++ [((roX (RO.r [roN (roN d i.toNat) 2])).length, (8 : Nat))])) ∧ Need (0 < ms.length) ∧ Need ((((List.getD (headT (RO.r [roN (roN d i.toNat) 2]) (roX (RO.r [roN (roN d i.toNat) 2])).length ++ [((roX (RO.r [roN (roN d i.toNat) 2])).length, (8 : Nat))]) (0 : Nat) ((0 : Nat), (0 : Nat))).snd : Nat) : Int) ≤ (((x4.getD (List.getD (headT (RO.r [roN (roN d i.toNat) 2]) (roX (RO.r [roN (roN d i.toNat) 2])).length ++ [((roX (RO.r [roN (roN d i.toNat) 2])).length, (8 : Nat))]) (0 : Nat) ((0 : Nat), (0 : Nat))).fst []).length : Nat) : Int)) ∧ Need (((List.drop 128 (List.drop 8 (ms.getD 0 []))).tail.headD (0 : Int) != (0 : Int)) = true → (0 : Int) ≤ (List.drop 128 (List.drop 8 (ms.getD 0 []))).headD (0 : Int) ∧ (List.drop 128 (List.drop 8 (ms.getD 0 []))).headD (0 : Int) ≤ 1152921504606846976) ∧ ∀ (x7 : List (List Int)), x7 = ms.set (0 : Nat) ((wr ((List.drop 128 (List.drop 8 (ms.getD 0 []))).tail.headD (0 : Int) != (0 : Int)) { ws := List.take 8 (ms.getD 0 []), bl := List.take 128 (List.drop 8 (ms.getD 0 [])), n := (List.drop 128 (List.drop 8 (ms.getD 0 []))).headD (0 : Int) } (roL (RO.l (List.take ((((List.getD (headT (RO.r [roN (roN d i.toNat) 2]) (roX (RO.r [roN (roN d i.toNat) 2])).length ++ [((roX (RO.r [roN (roN d i.toNat) 2])).length, (8 : Nat))]) (0 : Nat) ((0 : Nat), (0 : Nat))).snd : Nat) : Int)).toNat (x4.getD (List.getD (headT (RO.r [roN (roN d i.toNat) 2]) (roX (RO.r [roN (roN d i.toNat) 2])).length ++ [((roX (RO.r [roN (roN d i.toNat) 2])).length, (8 : Nat))]) (0 : Nat) ((0 : Nat), (0 : Nat))).fst []))))).ws ++ ((wr ((List.drop 128 (List.drop 8 (ms.getD 0 []))).tail.headD (0 : Int) != (0 : Int)) { ws := List.take 8 (ms.getD 0 []), bl := List.take 128 (List.drop 8 (ms.getD 0 [])), n := (List.drop 128 (List.drop 8 (ms.getD 0 []))).headD (0 : Int) } (roL (RO.l (List.take ((((List.getD (headT (RO.r [roN (roN d i.toNat) 2]) (roX (RO.r [roN (roN d i.toNat) 2])).length ++ [((roX (RO.r [roN (roN d i.toNat) 2])).length, (8 : Nat))]) (0 : Nat) ((0 : Nat), (0 : Nat))).snd : Nat) : Int)).toNat (x4.getD (List.getD (headT (RO.r [roN (roN d i.toNat) 2]) (roX (RO.r [roN (roN d i.toNat) 2])).length ++ [((roX (RO.r [roN (roN d i.toNat) 2])).length, (8 : Nat))]) (0 : Nat) ((0 : Nat), (0 : Nat))).fst []))))).bl ++ [(wr ((List.drop 128 (List.drop 8 (ms.getD 0 []))).tail.headD (0 : Int) != (0 : Int)) { ws := List.take 8 (ms.getD 0 []), bl := List.take 128 (List.drop 8 (ms.getD 0 [])), n := (List.drop 128 (List.drop 8 (ms.getD 0 []))).headD (0 : Int) } (roL (RO.l (List.take ((((List.getD (headT (RO.r [roN (roN d i.toNat) 2]) (roX (RO.r [roN (roN d i.toNat) 2])).length ++ [((roX (RO.r [roN (roN d i.toNat) 2])).length, (8 : Nat))]) (0 : Nat) ((0 : Nat), (0 : Nat))).snd : Nat) : Int)).toNat (x4.getD (List.getD (headT (RO.r [roN (roN d i.toNat) 2]) (roX (RO.r [roN (roN d i.toNat) 2])).length ++ [((roX (RO.r [roN (roN d i.toNat) 2])).length, (8 : Nat))]) (0 : Nat) ((0 : Nat), (0 : Nat))).fst []))))).n, match (List.drop 128 (List.drop 8 (ms.getD 0 []))).tail.headD (0 : Int) != (0 : Int) with | true => (1 : Int) | false => (0 : Int)])) → Need ((((ds.getD 0 []).length : Nat) : Int) < 9223372036854775808) ∧ Need ((((ds.getD 0 []).length : Nat) : Int) + (((roL (roN (roN d i.toNat) 2)).length : Nat) : Int) ≤ 70368744177664) ∧ Need (0 + x5 ≤ (((List.length (fullT (RO.r [roN (roN d i.toNat) 2]) (roX (RO.r [roN (roN d i.toNat) 2])).length)) : Nat) : Int)) ∧ Need (∀ (h : Nat × Nat), h ∈ List.take x5.toNat (List.drop 0 (fullT (RO.r [roN (roN d i.toNat) 2]) (roX (RO.r [roN (roN d i.toNat) 2])).length)) → h.snd ≤ (x4.getD h.fst []).length) ∧ Need (0 + x6 ≤ (((List.length (headT (RO.r [roN (roN d i.toNat) 2]) (roX (RO.r [roN (roN d i.toNat) 2])).length ++ [((roX (RO.r [roN (roN d i.toNat) 2])).length, (8 : Nat))])) : Nat) : Int)) ∧ Need (∀ (h : Nat × Nat), h ∈ List.take x6.toNat (List.drop 0 (headT (RO.r [roN (roN d i.toNat) 2]) (roX (RO.r [roN (roN d i.toNat) 2])).length ++ [((roX (RO.r [roN (roN d i.toNat) 2])).length, (8 : Nat))])) → h.snd ≤ (x4.getD h.fst []).length) ∧ Need ((roX (roN (RO.r [RO.r (List.map (fun h => RO.l (List.take h.snd (x4.getD h.fst []))) (List.take x5.toNat (List.drop 0 (fullT (RO.r [roN (roN d i.toNat) 2]) (roX (RO.r [roN (roN d i.toNat) 2])).length)))), RO.r (List.map (fun h => RO.l (List.take h.snd (x4.getD h.fst []))) (List.take x6.toNat (List.drop 0 (headT (RO.r [roN (roN d i.toNat) 2]) (roX (RO.r [roN (roN d i.toNat) 2])).length ++ [((roX (RO.r [roN (roN d i.toNat) 2])).length, (8 : Nat))]))))]) (1 : Nat))).length = (roX (RO.r [roN (roN d i.toNat) 2])).length + (1 : Nat) ∧ (roX (roN (RO.r [RO.r (List.map (fun h => RO.l (List.take h.snd (x4.getD h.fst []))) (List.take x5.toNat (List.drop 0 (fullT (RO.r [roN (roN d i.toNat) 2]) (roX (RO.r [roN (roN d i.toNat) 2])).length)))), RO.r (List.map (fun h => RO.l (List.take h.snd (x4.getD h.fst []))) (List.take x6.toNat (List.drop 0 (headT (RO.r [roN (roN d i.toNat) 2]) (roX (RO.r [roN (roN d i.toNat) 2])).length ++ [((roX (RO.r [roN (roN d i.toNat) 2])).length, (8 : Nat))]))))]) (0 : Nat))).length = (roX (RO.r [roN (roN d i.toNat) 2])).length ∧ roL (roN (roN (RO.r [RO.r (List.map (fun h => RO.l (List.take h.snd (x4.getD h.fst []))) (List.take x5.toNat (List.drop 0 (fullT (RO.r [roN (roN d i.toNat) 2]) (roX (RO.r [roN (roN d i.toNat) 2])).length)))), RO.r (List.map (fun h => RO.l (List.take h.snd (x4.getD h.fst []))) (List.take x6.toNat (List.drop 0 (headT (RO.r [roN (roN d i.toNat) 2]) (roX (RO.r [roN (roN d i.toNat) 2])).length ++ [((roX (RO.r [roN (roN d i.toNat) 2])).length, (8 : Nat))]))))]) (1 : Nat)) (roX (RO.r [roN (roN d i.toNat) 2])).length) = marksL) ∧ Need (∀ (i_1 : Nat), i_1 < (roX (RO.r [roN (roN d i.toNat) 2])).length → roL (roN (roN (RO.r [RO.r (List.map (fun h => RO.l (List.take h.snd (x4.getD h.fst []))) (List.take x5.toNat (List.drop 0 (fullT (RO.r [roN (roN d i.toNat) 2]) (roX (RO.r [roN (roN d i.toNat) 2])).length)))), RO.r (List.map (fun h => RO.l (List.take h.snd (x4.getD h.fst []))) (List.take x6.toNat (List.drop 0 (headT (RO.r [roN (roN d i.toNat) 2]) (roX (RO.r [roN (roN d i.toNat) 2])).length ++ [((roX (RO.r [roN (roN d i.toNat) 2])).length, (8 : Nat))]))))]) (0 : Nat)) i_1) = roL (roN (RO.r [roN (roN d i.toNat) 2]) i_1) ++ marksL ∧ roL (roN (roN (RO.r [RO.r (List.map (fun h => RO.l (List.take h.snd (x4.getD h.fst []))) (List.take x5.toNat (List.drop 0 (fullT (RO.r [roN (roN d i.toNat) 2]) (roX (RO.r [roN (roN d i.toNat) 2])).length)))), RO.r (List.map (fun h => RO.l (List.take h.snd (x4.getD h.fst []))) (List.take x6.toNat (List.drop 0 (headT (RO.r [roN (roN d i.toNat) 2]) (roX (RO.r [roN (roN d i.toNat) 2])).length ++ [((roX (RO.r [roN (roN d i.toNat) 2])).length, (8 : Nat))]))))]) (1 : Nat)) i_1) = roL (roN (RO.r [roN (roN d i.toNat) 2]) i_1) ∧ (((roL (roN (RO.r [roN (roN d i.toNat) 2]) i_1)).length : Nat) : Int) + 8 < (9223372036854775808 : Int)) ∧ ∀ (x8 : Bool), x8 = true → ((!x8) = true → (decide (x1 ≥ 1) = true → (decide (x1 ≤ 3) = true → K [RV.v (SV.b true false)] []) ∧ (decide (x1 ≤ 3) = false → ForI .i64 (IntKind.i64.wrap (i + 1)) fun x9 => Same Tryd.f21 7 (itemsOf Tryd.f21 7) ∧ Q 7 [Pv.ro d, Pv.z n, Pv.z m, Pv.z x9, Pv.l K80, Pv.l K80, Pv.n k, Pv.ll x7, Pv.n k', Pv.ll (ds.set (0 : Nat) (ds.getD 0 [] ++ roL (roN (roN d i.toNat) 2)))])) ∧ (decide (x1 ≥ 1) = false → ForI .i64 (IntKind.i64.wrap (i + 1)) fun x10 => Same Tryd.f21 7 (itemsOf Tryd.f21 7) ∧ Q 7 [Pv.ro d, Pv.z n, Pv.z m, Pv.z x10, Pv.l K80, Pv.l K80, Pv.n k, Pv.ll x7, Pv.n k', Pv.ll (ds.set (0 : Nat) (ds.getD 0 [] ++ roL (roN (roN d i.toNat) 2)))])) ∧ ((!x8) = false → ForI .i64 (IntKind.i64.wrap (i + 1)) fun x11 => Same Tryd.f21 7 (itemsOf Tryd.f21 7) ∧ Q 7 [Pv.ro d, Pv.z n, Pv.z m, Pv.z x11, Pv.l K80, Pv.l K80, Pv.n k, Pv.ll x7, Pv.n k', Pv.ll (ds.set (0 : Nat) (ds.getD 0 [] ++ roL (roN (roN d i.toNat) 2)))])) ∧ ((x1 == 1) = false → ((x1 == 2) = true → Need (0 < ms.length) ∧ Need ((0 : Int) ≤ (List.drop 128 (List.drop 8 (ms.getD 0 []))).headD (0 : Int)) ∧ ∀ (x12 : List (List Int)), x12 = ms.set (0 : Nat) (List.take 8 (ms.getD 0 []) ++ (List.take 128 (List.drop 8 (ms.getD 0 [])) ++ [(List.drop 128 (List.drop 8 (ms.getD 0 []))).headD (0 : Int), match (List.drop 128 (List.drop 8 (ms.getD 0 []))).tail.headD (0 : Int) != (0 : Int) with | true => (1 : Int) | false => (0 : Int)])) → ForA .u8 64 (sumL (List.take 8 (ms.getD 0 [])) (List.take 128 (List.drop 8 (ms.getD 0 []))) ((List.drop 128 (List.drop 8 (ms.getD 0 []))).headD (0 : Int)) ((List.drop 128 (List.drop 8 (ms.getD 0 []))).tail.headD (0 : Int) != (0 : Int))) fun x13 => Need ((((ds.getD 0 []).length : Nat) : Int) < 9223372036854775808) ∧ ∀ (x14 : List (List Int)), x14 = ds → ForN (((ds.getD 0 []).length : Nat) : Int) fun x15 => Need (x15 = (((x14.getD 0 []).length : Nat) : Int)) ∧ Need ((((roL (RO.l (x14.getD 0 []))).length : Nat) : Int) ≤ 70368744177000) ∧ ForA .u8 64 (sha (roL (RO.l (x14.getD 0 [])))) fun x16 => ((!x13 == x16) = true → (decide (x1 ≥ 1) = true → (decide (x1 ≤ 3) = true → K [RV.v (SV.b true false)] []) ∧ (decide (x1 ≤ 3) = false → ForI .i64 (IntKind.i64.wrap (i + 1)) fun x17 => Same Tryd.f21 7 (itemsOf Tryd.f21 7) ∧ Q 7 [Pv.ro d, Pv.z n, Pv.z m, Pv.z x17, Pv.l K80, Pv.l K80, Pv.n k, Pv.ll x12, Pv.n k', Pv.ll x14])) ∧ (decide (x1 ≥ 1) = false → ForI .i64 (IntKind.i64.wrap (i + 1)) fun x18 => Same Tryd.f21 7 (itemsOf Tryd.f21 7) ∧ Q 7 [Pv.ro d, Pv.z n, Pv.z m, Pv.z x18, Pv.l K80, Pv.l K80, Pv.n k, Pv.ll x12, Pv.n k', Pv.ll x14])) ∧ ((!x13 == x16) = false → ForI .i64 (IntKind.i64.wrap (i + 1)) fun x19 => Same Tryd.f21 7 (itemsOf Tryd.f21 7) ∧ Q 7 [Pv.ro d, Pv.z n, Pv.z m, Pv.z x19, Pv.l K80, Pv.l K80, Pv.n k, Pv.ll x12, Pv.n k', Pv.ll x14])) ∧ ((x1 == 2) = false → ((x1 == 3) = true → Need (0 < ms.length) ∧ ∀ (x20 : List (List Int)), x20 = ms.set (0 : Nat) (List.take 8 (ms.getD 0 []) ++ (List.take 128 (List.drop 8 (ms.getD 0 [])) ++ [(List.drop 128 (List.drop 8 (ms.getD 0 []))).headD (0 : Int), match (List.drop 128 (List.drop 8 (ms.getD 0 []))).tail.headD (0 : Int) != (0 : Int) with | true => (1 : Int) | false => (0 : Int)])) → ForI .i64 (sizeL ((List.drop 128 (List.drop 8 (ms.getD 0 []))).headD (0 : Int)) ((List.drop 128 (List.drop 8 (ms.getD 0 []))).tail.headD (0 : Int) != (0 : Int))) fun x21 => Need ((((ds.getD 0 []).length : Nat) : Int) < 9223372036854775808) ∧ ∀ (x22 : List (List Int)), x22 = ds → ForN (((ds.getD 0 []).length : Nat) : Int) fun x23 => ((!x21 == x23) = true → (decide (x1 ≥ 1) = true → (decide (x1 ≤ 3) = true → K [RV.v (SV.b true false)] []) ∧ (decide (x1 ≤ 3) = false → ForI .i64 (IntKind.i64.wrap (i + 1)) fun x24 => Same Tryd.f21 7 (itemsOf Tryd.f21 7) ∧ Q 7 [Pv.ro d, Pv.z n, Pv.z m, Pv.z x24, Pv.l K80, Pv.l K80, Pv.n k, Pv.ll x20, Pv.n k', Pv.ll x22])) ∧ (decide (x1 ≥ 1) = false → ForI .i64 (IntKind.i64.wrap (i + 1)) fun x25 => Same Tryd.f21 7 (itemsOf Tryd.f21 7) ∧ Q 7 [Pv.ro d, Pv.z n, Pv.z m, Pv.z x25, Pv.l K80, Pv.l K80, Pv.n k, Pv.ll x20, Pv.n k', Pv.ll x22])) ∧ ((!x21 == x23) = false → ForI .i64 (IntKind.i64.wrap (i + 1)) fun x26 => Same Tryd.f21 7 (itemsOf Tryd.f21 7) ∧ Q 7 [Pv.ro d, Pv.z n, Pv.z m, Pv.z x26, Pv.l K80, Pv.l K80, Pv.n k, Pv.ll x20, Pv.n k', Pv.ll x22])) ∧ ((x1 == 3) = false → ((x1 == 4) = true → Need (0 < ms.length) ∧ Need (((List.drop 128 (List.drop 8 (ms.getD 0 []))).tail.headD (0 : Int) != (0 : Int)) = true) ∧ ∀ (x27 : List (List Int)), x27 = ms.set (0 : Nat) (List.take 8 (ms.getD 0 []) ++ (List.take 128 (List.drop 8 (ms.getD 0 [])) ++ [(List.drop 128 (List.drop 8 (ms.getD 0 []))).headD (0 : Int), match (List.drop 128 (List.drop 8 (ms.getD 0 []))).tail.headD (0 : Int) != (0 : Int) with | true => (1 : Int) | false => (0 : Int)])) → ForA .u64 8 (List.take 8 (ms.getD 0 [])) fun x28 => ForA .u8 128 (List.take 128 (List.drop 8 (ms.getD 0 []))) fun x29 => ForI .i64 ((List.drop 128 (List.drop 8 (ms.getD 0 []))).headD (0 : Int)) fun x30 => Need (n = ((k : Nat) : Int)) ∧ Need (k = x27.length) ∧ Need ((((k + 1) : Nat) : Int) * 8 ≤ (70368744177664 : Int)) ∧ ∀ (x31 : List (List Int)), x31 = x27 ++ [x28 ++ (x29 ++ [x30, match (List.drop 128 (List.drop 8 (ms.getD 0 []))).tail.headD (0 : Int) != (0 : Int) with | true => (1 : Int) | false => (0 : Int)])] → ForN (((k + 1) : Nat) : Int) fun x32 => Need ((((ds.getD 0 []).length : Nat) : Int) < 9223372036854775808) ∧ Need ((((ds.getD 0 []).length : Nat) : Int) ≤ 70368744177664) ∧ Need (m = ((k' : Nat) : Int)) ∧ Need (k' = (ds.set (0 : Nat) (ds.getD 0 [])).length) ∧ Need ((((k' + (1 : Nat)) : Nat) : Int) * 8 ≤ (70368744177664 : Int)) ∧ Need ((((ds.getD 0 []).length : Nat) : Int) = (((ds.getD 0 []).length : Nat) : Int)) ∧ ∀ (x33 : List (List Int)), x33 = ds.set (0 : Nat) (ds.getD 0 []) ++ [ds.getD 0 []] → ForN (((k' + (1 : Nat)) : Nat) : Int) fun x34 => ForI .i64 (IntKind.i64.wrap (i + 1)) fun x35 => Same Tryd.f21 7 (itemsOf Tryd.f21 7) ∧ Q 7 [Pv.ro d, Pv.z x32, Pv.z x34, Pv.z x35, Pv.l K80, Pv.l K80, Pv.n (k + 1), Pv.ll x31, Pv.n (k' + (1 : Nat)), Pv.ll x33]) ∧ ((x1 == 4) = false → ((x1 == 5) = true → Need (0 < ms.length) ∧ ∀ (x36 : List (List Int)), x36 = ms.set (0 : Nat) ((if ((List.drop 128 (List.drop 8 (ms.getD 0 []))).tail.headD (0 : Int) != (0 : Int)) = true then [(7640891576956012808 : Int), (13503953896175478587 : Int), (4354685564936845355 : Int), (11912009170470909681 : Int), (5840696475078001361 : Int), (11170449401992604703 : Int), (2270897969802886507 : Int), (6620516959819538809 : Int)] else List.take 8 (ms.getD 0 [])) ++ ((if ((List.drop 128 (List.drop 8 (ms.getD 0 []))).tail.headD (0 : Int) != (0 : Int)) = true then List.replicate 128 (0 : Int) else List.take 128 (List.drop 8 (ms.getD 0 []))) ++ [if ((List.drop 128 (List.drop 8 (ms.getD 0 []))).tail.headD (0 : Int) != (0 : Int)) = true then (0 : Int) else (List.drop 128 (List.drop 8 (ms.getD 0 []))).headD (0 : Int), match (List.drop 128 (List.drop 8 (ms.getD 0 []))).tail.headD (0 : Int) != (0 : Int) with | true => (1 : Int) | false => (0 : Int)])) → ∀ (x37 : List (List Int)), x37 = ds.set (0 : Nat) [] → ForI .i64 (IntKind.i64.wrap (i + 1)) fun x38 => Same Tryd.f21 7 (itemsOf Tryd.f21 7) ∧ Q 7 [Pv.ro d, Pv.z n, Pv.z m, Pv.z x38, Pv.l K80, Pv.l K80, Pv.n k, Pv.ll x36, Pv.n k', Pv.ll x37]) ∧ ((x1 == 5) = false → ((x1 == 6) = true → ForI .u64 (7640891576956012808 : Int) fun x39 => ForI .u64 (13503953896175478587 : Int) fun x40 => ForI .u64 (4354685564936845355 : Int) fun x41 => ForI .u64 (11912009170470909681 : Int) fun x42 => ForI .u64 (5840696475078001361 : Int) fun x43 => ForI .u64 (11170449401992604703 : Int) fun x44 => ForI .u64 (2270897969802886507 : Int) fun x45 => ForI .u64 (6620516959819538809 : Int) fun x46 => ForA .u8 128 (List.replicate 128 (0 : Int)) fun x47 => Need (n = ((k : Nat) : Int)) ∧ Need (k = ms.length) ∧ Need ((((k + 1) : Nat) : Int) * 8 ≤ (70368744177664 : Int)) ∧ ∀ (x48 : List (List Int)), x48 = ms ++ [[x39, x40, x41, x42, x43, x44, x45, x46] ++ (x47 ++ [(0 : Int), (1 : Int)])] → ForN (((k + 1) : Nat) : Int) fun x49 => Need (m = ((k' : Nat) : Int)) ∧ Need (k' = ds.length) ∧ Need ((((k' + (1 : Nat)) : Nat) : Int) * 8 ≤ (70368744177664 : Int)) ∧ ∀ (x50 : List (List Int)), x50 = ds ++ [[]] → ForN (((k' + (1 : Nat)) : Nat) : Int) fun x51 => ForI .i64 (IntKind.i64.wrap (i + 1)) fun x52 => Same Tryd.f21 7 (itemsOf Tryd.f21 7) ∧ Q 7 [Pv.ro d, Pv.z x49, Pv.z x51, Pv.z x52, Pv.l K80, Pv.l K80, Pv.n (k + 1), Pv.ll x48, Pv.n (k' + (1 : Nat)), Pv.ll x50]) ∧ ((x1 == 6) = false → ForI .i64 (IntKind.i64.wrap (i + 1)) fun x53 => Same Tryd.f21 7 (itemsOf Tryd.f21 7) ∧ Q 7 [Pv.ro d, Pv.z n, Pv.z m, Pv.z x53, Pv.l K80, Pv.l K80, Pv.n k, Pv.ll ms, Pv.n k', Pv.ll ds]))))))) ∧ (decide (x3 < 0) = false → Need (0 ≤ x3 ∧ x3 < n) ∧ Need (0 ≤ x3 ∧ x3 < ((k : Nat) : Int)) ∧ Need (0 ≤ x3 ∧ x3 < m) ∧ Need (0 ≤ x3 ∧ x3 < ((k' : Nat) : Int)) ∧ ((x1 == 1) = true → Need (∀ (i_1 : Nat), i_1 < (roX (RO.r [roN (roN d i.toNat) 2])).length → (((roL (roN (RO.r [roN (roN d i.toNat) 2]) i_1)).length : Nat) : Int) + 8 ≤ (70368744177664 : Int)) ∧ Need (((((roX (RO.r [roN (roN d i.toNat) 2])).length + (1 : Nat)) : Nat) : Int) * 24 ≤ (70368744177664 : Int)) ∧ ∀ (x54 : List (List Int)), x54 = rowsT (RO.r [roN (roN d i.toNat) 2]) (roX (RO.r [roN (roN d i.toNat) 2])).length ++ [marksL] → ForN (((List.length (fullT (RO.r [roN (roN d i.toNat) 2]) (roX (RO.r [roN (roN d i.toNat) 2])).length)) : Nat) : Int) fun x55 => ForN (((List.length (headT (RO.r [roN (roN d i.toNat) 2]) (roX (RO.r [roN (roN d i.toNat) 2])).length ++ [((roX (RO.r [roN (roN d i.toNat) 2])).length, (8 : Nat))])) : Nat) : Int) fun x56 => Need (x55 ≤ x56) ∧ Need ((0 : Int) ≤ 0 ∧ 0 < x55) ∧ Need ((0 : Nat) < List.length (headT (RO.r [roN (roN d i.toNat) 2]) (roX (RO.r [roN (roN d i.toNat) 2])).length ++ [((roX (RO.r [roN (roN d i.toNat) 2])).length, (8 : Nat))])) ∧ Need (x3.toNat < ms.length) ∧ Need ((((List.getD (headT (RO.r [roN (roN d i.toNat) 2]) (roX (RO.r [roN (roN d i.toNat) 2])).length ++ [((roX (RO.r [roN (roN d i.toNat) 2])).length, (8 : Nat))]) (0 : Nat) ((0 : Nat), (0 : Nat))).snd : Nat) : Int) ≤ (((x54.getD (List.getD (headT (RO.r [roN (roN d i.toNat) 2]) (roX (RO.r [roN (roN d i.toNat) 2])).length ++ [((roX (RO.r [roN (roN d i.toNat) 2])).length, (8 : Nat))]) (0 : Nat) ((0 : Nat), (0 : Nat))).fst []).length : Nat) : Int)) ∧ Need (((List.drop 128 (List.drop 8 (ms.getD x3.toNat []))).tail.headD (0 : Int) != (0 : Int)) = true → (0 : Int) ≤ (List.drop 128 (List.drop 8 (ms.getD x3.toNat []))).headD (0 : Int) ∧ (List.drop 128 (List.drop 8 (ms.getD x3.toNat []))).headD (0 : Int) ≤ 1152921504606846976) ∧ ∀ (x57 : List (List Int)), x57 = ms.set x3.toNat ((wr ((List.drop 128 (List.drop 8 (ms.getD x3.toNat []))).tail.headD (0 : Int) != (0 : Int)) { ws := List.take 8 (ms.getD x3.toNat []), bl := List.take 128 (List.drop 8 (ms.getD x3.toNat [])), n := (List.drop 128 (List.drop 8 (ms.getD x3.toNat []))).headD (0 : Int) } (roL (RO.l (List.take ((((List.getD (headT (RO.r [roN (roN d i.toNat) 2]) (roX (RO.r [roN (roN d i.toNat) 2])).length ++ [((roX (RO.r [roN (roN d i.toNat) 2])).length, (8 : Nat))]) (0 : Nat) ((0 : Nat), (0 : Nat))).snd : Nat) : Int)).toNat (x54.getD (List.getD (headT (RO.r [roN (roN d i.toNat) 2]) (roX (RO.r [roN (roN d i.toNat) 2])).length ++ [((roX (RO.r [roN (roN d i.toNat) 2])).length, (8 : Nat))]) (0 : Nat) ((0 : Nat), (0 : Nat))).fst []))))).ws ++ ((wr ((List.drop 128 (List.drop 8 (ms.getD x3.toNat []))).tail.headD (0 : Int) != (0 : Int)) { ws := List.take 8 (ms.getD x3.toNat []), bl := List.take 128 (List.drop 8 (ms.getD x3.toNat [])), n := (List.drop 128 (List.drop 8 (ms.getD x3.toNat []))).headD (0 : Int) } (roL (RO.l (List.take ((((List.getD (headT (RO.r [roN (roN d i.toNat) 2]) (roX (RO.r [roN (roN d i.toNat) 2])).length ++ [((roX (RO.r [roN (roN d i.toNat) 2])).length, (8 : Nat))]) (0 : Nat) ((0 : Nat), (0 : Nat))).snd : Nat) : Int)).toNat (x54.getD (List.getD (headT (RO.r [roN (roN d i.toNat) 2]) (roX (RO.r [roN (roN d i.toNat) 2])).length ++ [((roX (RO.r [roN (roN d i.toNat) 2])).length, (8 : Nat))]) (0 : Nat) ((0 : Nat), (0 : Nat))).fst []))))).bl ++ [(wr ((List.drop 128 (List.drop 8 (ms.getD x3.toNat []))).tail.headD (0 : Int) != (0 : Int)) { ws := List.take 8 (ms.getD x3.toNat []), bl := List.take 128 (List.drop 8 (ms.getD x3.toNat [])), n := (List.drop 128 (List.drop 8 (ms.getD x3.toNat []))).headD (0 : Int) } (roL (RO.l (List.take ((((List.getD (headT (RO.r [roN (roN d i.toNat) 2]) (roX (RO.r [roN (roN d i.toNat) 2])).length ++ [((roX (RO.r [roN (roN d i.toNat) 2])).length, (8 : Nat))]) (0 : Nat) ((0 : Nat), (0 : Nat))).snd : Nat) : Int)).toNat (x54.getD (List.getD (headT (RO.r [roN (roN d i.toNat) 2]) (roX (RO.r [roN (roN d i.toNat) 2])).length ++ [((roX (RO.r [roN (roN d i.toNat) 2])).length, (8 : Nat))]) (0 : Nat) ((0 : Nat), (0 : Nat))).fst []))))).n, match (List.drop 128 (List.drop 8 (ms.getD x3.toNat []))).tail.headD (0 : Int) != (0 : Int) with | true => (1 : Int) | false => (0 : Int)])) → Need ((((ds.getD x3.toNat []).length : Nat) : Int) < 9223372036854775808) ∧ Need ((((ds.getD x3.toNat []).length : Nat) : Int) + (((roL (roN (roN d i.toNat) 2)).length : Nat) : Int) ≤ 70368744177664) ∧ Need (0 + x55 ≤ (((List.length (fullT (RO.r [roN (roN d i.toNat) 2]) (roX (RO.r [roN (roN d i.toNat) 2])).length)) : Nat) : Int)) ∧ Need (∀ (h : Nat × Nat), h ∈ List.take x55.toNat (List.drop 0 (fullT (RO.r [roN (roN d i.toNat) 2]) (roX (RO.r [roN (roN d i.toNat) 2])).length)) → h.snd ≤ (x54.getD h.fst []).length) ∧ Need (0 + x56 ≤ (((List.length (headT (RO.r [roN (roN d i.toNat) 2]) (roX (RO.r [roN (roN d i.toNat) 2])).length ++ [((roX (RO.r [roN (roN d i.toNat) 2])).length, (8 : Nat))])) : Nat) : Int)) ∧ Need (∀ (h : Nat × Nat), h ∈ List.take x56.toNat (List.drop 0 (headT (RO.r [roN (roN d i.toNat) 2]) (roX (RO.r [roN (roN d i.toNat) 2])).length ++ [((roX (RO.r [roN (roN d i.toNat) 2])).length, (8 : Nat))])) → h.snd ≤ (x54.getD h.fst []).length) ∧ Need ((roX (roN (RO.r [RO.r (List.map (fun h => RO.l (List.take h.snd (x54.getD h.fst []))) (List.take x55.toNat (List.drop 0 (fullT (RO.r [roN (roN d i.toNat) 2]) (roX (RO.r [roN (roN d i.toNat) 2])).length)))), RO.r (List.map (fun h => RO.l (List.take h.snd (x54.getD h.fst []))) (List.take x56.toNat (List.drop 0 (headT (RO.r [roN (roN d i.toNat) 2]) (roX (RO.r [roN (roN d i.toNat) 2])).length ++ [((roX (RO.r [roN (roN d i.toNat) 2])).length, (8 : Nat))]))))]) (1 : Nat))).length = (roX (RO.r [roN (roN d i.toNat) 2])).length + (1 : Nat) ∧ (roX (roN (RO.r [RO.r (List.map (fun h => RO.l (List.take h.snd (x54.getD h.fst []))) (List.take x55.toNat (List.drop 0 (fullT (RO.r [roN (roN d i.toNat) 2]) (roX (RO.r [roN (roN d i.toNat) 2])).length)))), RO.r (List.map (fun h => RO.l (List.take h.snd (x54.getD h.fst []))) (List.take x56.toNat (List.drop 0 (headT (RO.r [roN (roN d i.toNat) 2]) (roX (RO.r [roN (roN d i.toNat) 2])).length ++ [((roX (RO.r [roN (roN d i.toNat) 2])).length, (8 : Nat))]))))]) (0 : Nat))).length = (roX (RO.r [roN (roN d i.toNat) 2])).length ∧ roL (roN (roN (RO.r [RO.r (List.map (fun h => RO.l (List.take h.snd (x54.getD h.fst []))) (List.take x55.toNat (List.drop 0 (fullT (RO.r [roN (roN d i.toNat) 2]) (roX (RO.r [roN (roN d i.toNat) 2])).length)))), RO.r (List.map (fun h => RO.l (List.take h.snd (x54.getD h.fst []))) (List.take x56.toNat (List.drop 0 (headT (RO.r [roN (roN d i.toNat) 2]) (roX (RO.r [roN (roN d i.toNat) 2])).length ++ [((roX (RO.r [roN (roN d i.toNat) 2])).length, (8 : Nat))]))))]) (1 : Nat)) (roX (RO.r [roN (roN d i.toNat) 2])).length) = marksL) ∧ Need (∀ (i_1 : Nat), i_1 < (roX (RO.r [roN (roN d i.toNat) 2])).length → roL (roN (roN (RO.r [RO.r (List.map (fun h => RO.l (List.take h.snd (x54.getD h.fst []))) (List.take x55.toNat (List.drop 0 (fullT (RO.r [roN (roN d i.toNat) 2]) (roX (RO.r [roN (roN d i.toNat) 2])).length)))), RO.r (List.map (fun h => RO.l (List.take h.snd (x54.getD h.fst []))) (List.take x56.toNat (List.drop 0 (headT (RO.r [roN (roN d i.toNat) 2]) (roX (RO.r [roN (roN d i.toNat) 2])).length ++ [((roX (RO.r [roN (roN d i.toNat) 2])).length, (8 : Nat))]))))]) (0 : Nat)) i_1) = roL (roN (RO.r [roN (roN d i.toNat) 2]) i_1) ++ marksL ∧ roL (roN (roN (RO.r [RO.r (List.map (fun h => RO.l (List.take h.snd (x54.getD h.fst []))) (List.take x55.toNat (List.drop 0 (fullT (RO.r [roN (roN d i.toNat) 2]) (roX (RO.r [roN (roN d i.toNat) 2])).length)))), RO.r (List.map (fun h => RO.l (List.take h.snd (x54.getD h.fst []))) (List.take x56.toNat (List.drop 0 (headT (RO.r [roN (roN d i.toNat) 2]) (roX (RO.r [roN (roN d i.toNat) 2])).length ++ [((roX (RO.r [roN (roN d i.toNat) 2])).length, (8 : Nat))]))))]) (1 : Nat)) i_1) = roL (roN (RO.r [roN (roN d i.toNat) 2]) i_1) ∧ (((roL (roN (RO.r [roN (roN d i.toNat) 2]) i_1)).length : Nat) : Int) + 8 < (9223372036854775808 : Int)) ∧ ∀ (x58 : Bool), x58 = true → ((!x58) = true → (decide (x1 ≥ 1) = true → (decide (x1 ≤ 3) = true → K [RV.v (SV.b true false)] []) ∧ (decide (x1 ≤ 3) = false → ForI .i64 (IntKind.i64.wrap (i + 1)) fun x59 => Same Tryd.f21 7 (itemsOf Tryd.f21 7) ∧ Q 7 [Pv.ro d, Pv.z n, Pv.z m, Pv.z x59, Pv.l K80, Pv.l K80, Pv.n k, Pv.ll x57, Pv.n k', Pv.ll (ds.set x3.toNat (ds.getD x3.toNat [] ++ roL (roN (roN d i.toNat) 2)))])) ∧ (decide (x1 ≥ 1) = false → ForI .i64 (IntKind.i64.wrap (i + 1)) fun x60 => Same Tryd.f21 7 (itemsOf Tryd.f21 7) ∧ Q 7 [Pv.ro d, Pv.z n, Pv.z m, Pv.z x60, Pv.l K80, Pv.l K80, Pv.n k, Pv.ll x57, Pv.n k', Pv.ll (ds.set x3.toNat (ds.getD x3.toNat [] ++ roL (roN (roN d i.toNat) 2)))])) ∧ ((!x58) = false → ForI .i64 (IntKind.i64.wrap (i + 1)) fun x61 => Same Tryd.f21 7 (itemsOf Tryd.f21 7) ∧ Q 7 [Pv.ro d, Pv.z n, Pv.z m, Pv.z x61, Pv.l K80, Pv.l K80, Pv.n k, Pv.ll x57, Pv.n k', Pv.ll (ds.set x3.toNat (ds.getD x3.toNat [] ++ roL (roN (roN d i.toNat) 2)))])) ∧ ((x1 == 1) = false → ((x1 == 2) = true → Need (x3.toNat < ms.length) ∧ Need ((0 : Int) ≤ (List.drop 128 (List.drop 8 (ms.getD x3.toNat []))).headD (0 : Int)) ∧ ∀ (x62 : List (List Int)), x62 = ms.set x3.toNat (List.take 8 (ms.getD x3.toNat []) ++ (List.take 128 (List.drop 8 (ms.getD x3.toNat [])) ++ [(List.drop 128 (List.drop 8 (ms.getD x3.toNat []))).headD (0 : Int), match (List.drop 128 (List.drop 8 (ms.getD x3.toNat []))).tail.headD (0 : Int) != (0 : Int) with | true => (1 : Int) | false => (0 : Int)])) → ForA .u8 64 (sumL (List.take 8 (ms.getD x3.toNat [])) (List.take 128 (List.drop 8 (ms.getD x3.toNat []))) ((List.drop 128 (List.drop 8 (ms.getD x3.toNat []))).headD (0 : Int)) ((List.drop 128 (List.drop 8 (ms.getD x3.toNat []))).tail.headD (0 : Int) != (0 : Int))) fun x63 => Need ((((ds.getD x3.toNat []).length : Nat) : Int) < 9223372036854775808) ∧ ∀ (x64 : List (List Int)), x64 = ds → ForN (((ds.getD x3.toNat []).length : Nat) : Int) fun x65 => Need (x65 = (((x64.getD x3.toNat []).length : Nat) : Int)) ∧ Need ((((roL (RO.l (x64.getD x3.toNat []))).length : Nat) : Int) ≤ 70368744177000) ∧ ForA .u8 64 (sha (roL (RO.l (x64.getD x3.toNat [])))) fun x66 => ((!x63 == x66) = true → (decide (x1 ≥ 1) = true → (decide (x1 ≤ 3) = true → K [RV.v (SV.b true false)] []) ∧ (decide (x1 ≤ 3) = false → ForI .i64 (IntKind.i64.wrap (i + 1)) fun x67 => Same Tryd.f21 7 (itemsOf Tryd.f21 7) ∧ Q 7 [Pv.ro d, Pv.z n, Pv.z m, Pv.z x67, Pv.l K80, Pv.l K80, Pv.n k, Pv.ll x62, Pv.n k', Pv.ll x64])) ∧ (decide (x1 ≥ 1) = false → ForI .i64 (IntKind.i64.wrap (i + 1)) fun x68 => Same Tryd.f21 7 (itemsOf Tryd.f21 7) ∧ Q 7 [Pv.ro d, Pv.z n, Pv.z m, Pv.z x68, Pv.l K80, Pv.l K80, Pv.n k, Pv.ll x62, Pv.n k', Pv.ll x64])) ∧ ((!x63 == x66) = false → ForI .i64 (IntKind.i64.wrap (i + 1)) fun x69 => Same Tryd.f21 7 (itemsOf Tryd.f21 7) ∧ Q 7 [Pv.ro d, Pv.z n, Pv.z m, Pv.z x69, Pv.l K80, Pv.l K80, Pv.n k, Pv.ll x62, Pv.n k', Pv.ll x64])) ∧ ((x1 == 2) = false → ((x1 == 3) = true → Need (x3.toNat < ms.length) ∧ ∀ (x70 : List (List Int)), x70 = ms.set x3.toNat (List.take 8 (ms.getD x3.toNat []) ++ (List.take 128 (List.drop 8 (ms.getD x3.toNat [])) ++ [(List.drop 128 (List.drop 8 (ms.getD x3.toNat []))).headD (0 : Int), match (List.drop 128 (List.drop 8 (ms.getD x3.toNat []))).tail.headD (0 : Int) != (0 : Int) with | true => (1 : Int) | false => (0 : Int)])) → ForI .i64 (sizeL ((List.drop 128 (List.drop 8 (ms.getD x3.toNat []))).headD (0 : Int)) ((List.drop 128 (List.drop 8 (ms.getD x3.toNat []))).tail.headD (0 : Int) != (0 : Int))) fun x71 => Need ((((ds.getD x3.toNat []).length : Nat) : Int) < 9223372036854775808) ∧ ∀ (x72 : List (List Int)), x72 = ds → ForN (((ds.getD x3.toNat []).length : Nat) : Int) fun x73 => ((!x71 == x73) = true → (decide (x1 ≥ 1) = true → (decide (x1 ≤ 3) = true → K [RV.v (SV.b true false)] []) ∧ (decide (x1 ≤ 3) = false → ForI .i64 (IntKind.i64.wrap (i + 1)) fun x74 => Same Tryd.f21 7 (itemsOf Tryd.f21 7) ∧ Q 7 [Pv.ro d, Pv.z n, Pv.z m, Pv.z x74, Pv.l K80, Pv.l K80, Pv.n k, Pv.ll x70, Pv.n k', Pv.ll x72])) ∧ (decide (x1 ≥ 1) = false → ForI .i64 (IntKind.i64.wrap (i + 1)) fun x75 => Same Tryd.f21 7 (itemsOf Tryd.f21 7) ∧ Q 7 [Pv.ro d, Pv.z n, Pv.z m, Pv.z x75, Pv.l K80, Pv.l K80, Pv.n k, Pv.ll x70, Pv.n k', Pv.ll x72])) ∧ ((!x71 == x73) = false → ForI .i64 (IntKind.i64.wrap (i + 1)) fun x76 => Same Tryd.f21 7 (itemsOf Tryd.f21 7) ∧ Q 7 [Pv.ro d, Pv.z n, Pv.z m, Pv.z x76, Pv.l K80, Pv.l K80, Pv.n k, Pv.ll x70, Pv.n k', Pv.ll x72])) ∧ ((x1 == 3) = false → ((x1 == 4) = true → Need (x3.toNat < ms.length) ∧ Need (((List.drop 128 (List.drop 8 (ms.getD x3.toNat []))).tail.headD (0 : Int) != (0 : Int)) = true) ∧ ∀ (x77 : List (List Int)), x77 = ms.set x3.toNat (List.take 8 (ms.getD x3.toNat []) ++ (List.take 128 (List.drop 8 (ms.getD x3.toNat [])) ++ [(List.drop 128 (List.drop 8 (ms.getD x3.toNat []))).headD (0 : Int), match (List.drop 128 (List.drop 8 (ms.getD x3.toNat []))).tail.headD (0 : Int) != (0 : Int) with | true => (1 : Int) | false => (0 : Int)])) → ForA .u64 8 (List.take 8 (ms.getD x3.toNat [])) fun x78 => ForA .u8 128 (List.take 128 (List.drop 8 (ms.getD x3.toNat []))) fun x79 => ForI .i64 ((List.drop 128 (List.drop 8 (ms.getD x3.toNat []))).headD (0 : Int)) fun x80 => Need (n = ((k : Nat) : Int)) ∧ Need (k = x77.length) ∧ Need ((((k + 1) : Nat) : Int) * 8 ≤ (70368744177664 : Int)) ∧ ∀ (x81 : List (List Int)), x81 = x77 ++ [x78 ++ (x79 ++ [x80, match (List.drop 128 (List.drop 8 (ms.getD x3.toNat []))).tail.headD (0 : Int) != (0 : Int) with | true => (1 : Int) | false => (0 : Int)])] → ForN (((k + 1) : Nat) : Int) fun x82 => Need ((((ds.getD x3.toNat []).length : Nat) : Int) < 9223372036854775808) ∧ Need ((((ds.getD x3.toNat []).length : Nat) : Int) ≤ 70368744177664) ∧ Need (m = ((k' : Nat) : Int)) ∧ Need (k' = (ds.set x3.toNat (ds.getD x3.toNat [])).length) ∧ Need ((((k' + (1 : Nat)) : Nat) : Int) * 8 ≤ (70368744177664 : Int)) ∧ Need ((((ds.getD x3.toNat []).length : Nat) : Int) = (((ds.getD x3.toNat []).length : Nat) : Int)) ∧ ∀ (x83 : List (List Int)), x83 = ds.set x3.toNat (ds.getD x3.toNat []) ++ [ds.getD x3.toNat []] → ForN (((k' + (1 : Nat)) : Nat) : Int) fun x84 => ForI .i64 (IntKind.i64.wrap (i + 1)) fun x85 => Same Tryd.f21 7 (itemsOf Tryd.f21 7) ∧ Q 7 [Pv.ro d, Pv.z x82, Pv.z x84, Pv.z x85, Pv.l K80, Pv.l K80, Pv.n (k + 1), Pv.ll x81, Pv.n (k' + (1 : Nat)), Pv.ll x83]) ∧ ((x1 == 4) = false → ((x1 == 5) = true → Need (x3.toNat < ms.length) ∧ ∀ (x86 : List (List Int)), x86 = ms.set x3.toNat ((if ((List.drop 128 (List.drop 8 (ms.getD x3.toNat []))).tail.headD (0 : Int) != (0 : Int)) = true then [(7640891576956012808 : Int), (13503953896175478587 : Int), (4354685564936845355 : Int), (11912009170470909681 : Int), (5840696475078001361 : Int), (11170449401992604703 : Int), (2270897969802886507 : Int), (6620516959819538809 : Int)] else List.take 8 (ms.getD x3.toNat [])) ++ ((if ((List.drop 128 (List.drop 8 (ms.getD x3.toNat []))).tail.headD (0 : Int) != (0 : Int)) = true then List.replicate 128 (0 : Int) else List.take 128 (List.drop 8 (ms.getD x3.toNat []))) ++ [if ((List.drop 128 (List.drop 8 (ms.getD x3.toNat []))).tail.headD (0 : Int) != (0 : Int)) = true then (0 : Int) else (List.drop 128 (List.drop 8 (ms.getD x3.toNat []))).headD (0 : Int), match (List.drop 128 (List.drop 8 (ms.getD x3.toNat []))).tail.headD (0 : Int) != (0 : Int) with | true => (1 : Int) | false => (0 : Int)])) → ∀ (x87 : List (List Int)), x87 = ds.set x3.toNat [] → ForI .i64 (IntKind.i64.wrap (i + 1)) fun x88 => Same Tryd.f21 7 (itemsOf Tryd.f21 7) ∧ Q 7 [Pv.ro d, Pv.z n, Pv.z m, Pv.z x88, Pv.l K80, Pv.l K80, Pv.n k, Pv.ll x86, Pv.n k', Pv.ll x87]) ∧ ((x1 == 5) = false → ((x1 == 6) = true → ForI .u64 (7640891576956012808 : Int) fun x89 => ForI .u64 (13503953896175478587 : Int) fun x90 => ForI .u64 (4354685564936845355 : Int) fun x91 => ForI .u64 (11912009170470909681 : Int) fun x92 => ForI .u64 (5840696475078001361 : Int) fun x93 => ForI .u64 (11170449401992604703 : Int) fun x94 => ForI .u64 (2270897969802886507 : Int) fun x95 => ForI .u64 (6620516959819538809 : Int) fun x96 => ForA .u8 128 (List.replicate 128 (0 : Int)) fun x97 => Need (n = ((k : Nat) : Int)) ∧ Need (k = ms.length) ∧ Need ((((k + 1) : Nat) : Int) * 8 ≤ (70368744177664 : Int)) ∧ ∀ (x98 : List (List Int)), x98 = ms ++ [[x89, x90, x91, x92, x93, x94, x95, x96] ++ (x97 ++ [(0 : Int), (1 : Int)])] → ForN (((k + 1) : Nat) : Int) fun x99 => Need (m = ((k' : Nat) : Int)) ∧ Need (k' = ds.length) ∧ Need ((((k' + (1 : Nat)) : Nat) : Int) * 8 ≤ (70368744177664 : Int)) ∧ ∀ (x100 : List (List Int)), x100 = ds ++ [[]] → ForN (((k' + (1 : Nat)) : Nat) : Int) fun x101 => ForI .i64 (IntKind.i64.wrap (i + 1)) fun x102 => Same Tryd.f21 7 (itemsOf Tryd.f21 7) ∧ Q 7 [Pv.ro d, Pv.z x99, Pv.z x101, Pv.z x102, Pv.l K80, Pv.l K80, Pv.n (k + 1), Pv.ll x98, Pv.n (k' + (1 : Nat)), Pv.ll x100]) ∧ ((x1 == 6) = false → ForI .i64 (IntKind.i64.wrap (i + 1)) fun x103 => Same Tryd.f21 7 (itemsOf Tryd.f21 7) ∧ Q 7 [Pv.ro d, Pv.z n, Pv.z m, Pv.z x103, Pv.l K80, Pv.l K80, Pv.n k, Pv.ll ms, Pv.n k', Pv.ll ds])))))))) ∧ (decide (i < (((roX d).length : Nat) : Int)) = false → Same Tryd.f21 44 (itemsOf Tryd.f21 44) ∧ Q 44 [Pv.z n, Pv.z m, Pv.z 0, Pv.l K80, Pv.l K80, Pv.n k, Pv.ll ms, Pv.n k', Pv.ll ds])) := by
 intros
 kernel_rfl

theorem st_nil : start8 ++ (List.replicate 128 (0 : Int) ++ [0, 1]) = stL [] := rfl
theorem st_lit (b : List Int) : (fst b).ws ++ ((fst b).bl ++ [((b.length : Nat) : Int), 1]) = stL b := by
 unfold stL; rw [fst_n]
theorem fst_eta (b : List Int) : (⟨(fst b).ws, (fst b).bl, ((b.length : Nat) : Int)⟩ : HS) = fst b := by rw [← fst_n]
theorem wr_fst {b q : List Int} (h : (b.length : Int) + (q.length : Int) ≤ 1152921504606846976) : wr true ⟨(fst b).ws, (fst b).bl, ((b.length : Nat) : Int)⟩ q = fst (b ++ q) := by
 rw [fst_eta]
 unfold wr
 rw [if_pos ⟨rfl, by rw [fst_n]; omega⟩]
 exact fst_app b q
theorem sum_fst (b : List Int) : sumL (fst b).ws (fst b).bl ((b.length : Nat) : Int) true = sha b := by rw [← fst_n]; rfl
theorem g_at {T : List (List Int)} {r : Nat} (hr : r < T.length) : List.take 8 ((mkS T).getD r []) = (fst (T.getD r [])).ws ∧ List.take 128 (List.drop 8 ((mkS T).getD r [])) = (fst (T.getD r [])).bl ∧
  (List.drop 128 (List.drop 8 ((mkS T).getD r []))).headD 0 = (((T.getD r []).length : Nat) : Int) ∧ ((List.drop 128 (List.drop 8 ((mkS T).getD r []))).tail.headD 0 != 0) = true := by
 rw [mkS_at hr, st_take, st_drop, st_take2, st_drop2]
 exact ⟨rfl, rfl, fst_n _, rfl⟩
set_option maxHeartbeats 4000000 in
theorem step21 {d : RO} {j : Nat} {T : List (List Int)} {KK : List RV → List (Option (List Seg)) → Prop} {Q : Nat → List Pv → Prop} (hsz : ∀ j, j < (roX d).length → (roL (roN (roN d j) 2)).length ≤ 1048576) (hL : (roX d).length ≤ 1048576) (h0 : 0 < T.length) (hT : Most (j * 1048576) T) (hk : T.length ≤ j + 1) (hj : j ≤ (roX d).length)
  (h : ∀ T' : List (List Int), j < (roX d).length → 0 < T'.length → T'.length ≤ j + 2 → Most ((j + 1) * 1048576) T' → Q 7 [.ro d, .z (T'.length : Int), .z (T'.length : Int), .z ((j + 1 : Nat) : Int), .l K80, .l K80, .n T'.length, .ll (mkS T'), .n T'.length, .ll T'])
  (h' : Q 44 [.z (T.length : Int), .z (T.length : Int), .z 0, .l K80, .l K80, .n T.length, .ll (mkS T), .n T.length, .ll T]) :
  lc21a d (T.length : Int) (T.length : Int) (j : Int) T.length (mkS T) T.length T KK Q := by
 rw [lc21a_eq]
 simp only [Int.toNat_natCast]
 refine ⟨fun hlt => ?_, fun _ => ⟨rfl, h'⟩⟩
 have hlt : j < (roX d).length := by have := of_decide_eq_true hlt; omega
 have hdj := hsz j hlt
 refine ⟨need_of ⟨by omega, by omega⟩, ?_⟩
 intro x1 e1 _ x2 e2 _
 refine ⟨need_of (by omega), ?_⟩
 intro x3 e3 _
 have hub : x3 < (T.length : Int) := by rw [e3]; have := Int.tmod_lt_of_pos x2 (b := (T.length : Int)) (by omega); exact this
 clear e1 e2 e3
 refine ⟨fun hneg => ?_, fun hpos => ?_⟩
 ·clear hneg
  refine ⟨need_of (by omega), need_of (by omega), need_of (by omega), need_of (by omega), ?_⟩
  obtain ⟨gW, gB, gN, gM⟩ := g_at h0
  have hr := h0
  have hbl := hT _ (at_mem h0)
  simp only [gW, gB, gN, gM, reduceIte]
  refine ⟨fun _ => ?_, fun _ => ⟨fun _ => ?_, fun _ => ⟨fun _ => ?_, fun _ => ⟨fun _ => ?_, fun _ => ⟨fun _ => ?_, fun _ => ⟨fun _ => ?_, fun _ => ?_⟩⟩⟩⟩⟩⟩
  ·generalize hkk : RO.r [roN (roN d j) 2] = kk
   obtain ⟨hk1, hk0⟩ : (roX kk).length = 1 ∧ roN kk 0 = roN (roN d j) 2 := by rw [← hkk]; exact ⟨rfl, rfl⟩
   have hbk : ∀ i, i < (roX kk).length → ((roL (roN kk i)).length : Int) + 8 ≤ 70368744177664 := fun i hi => by
    obtain rfl : i = 0 := by omega
    rw [hk0]; omega
   have hp : 0 < (roX kk).length := by omega
   refine ⟨need_of hbk, need_of (by omega), ?_⟩
   intro x4 e4 x5 e5 _ _ x6 e6 _ _
   rw [fullT_len] at e5
   rw [heads_length] at e6
   subst e4; subst e5; subst e6
   simp only [Int.toNat_natCast, heads_length, heads_at kk 0 hp, rows_at kk 0 hp, List.take_left, roL_l, fullT_len, full_all, heads_all, v_full, v_all]
   refine ⟨need_of (by omega), need_of (by omega), need_of (by omega), need_of (by rw [mkS_len]; omega), need_of (by rw [List.length_append]; omega), need_of (by intros; omega), ?_⟩
   intro x7 e7
   rw [hk0, wr_fst (by omega)] at e7
   have m1 : x7 = mkS (T.set 0 (T.getD 0 [] ++ roL (roN (roN d j) 2))) := by rw [e7]; exact mkS_set T 0 _
   refine ⟨need_of (by omega), need_of (by omega), need_of (by omega), need_of (b_full kk), need_of (by omega), need_of (b_all kk), need_of (l_1 kk), need_of (l_2 kk hbk), ?_⟩
   intro x8 e8
   refine ⟨fun h => by rw [e8] at h; simp at h, fun _ => ?_⟩
   intro x11 e11 _
   rw [wrap_i64 (by omega)] at e11
   refine ⟨rfl, ?_⟩
   rw [m1, e11, show (j : Int) + 1 = ((j + 1 : Nat) : Int) by omega]
   have hq := h (T.set 0 (T.getD 0 [] ++ roL (roN (roN d j) 2))) hlt (by rw [List.length_set]; omega) (by rw [List.length_set]; omega) (hT.set (by omega) (by rw [List.length_append]; omega))
   rw [List.length_set] at hq
   exact hq
  ·refine ⟨need_of (by rw [mkS_len]; omega), need_of (by omega), ?_⟩
   intro x12 e12 x13 e13 _ _
   refine ⟨need_of (by omega), ?_⟩
   intro x14 e14 x15 e15 _ _
   subst e14
   refine ⟨need_of e15, need_of (by rw [roL_l]; omega), ?_⟩
   intro x16 e16 _ _
   have hq : x13 = x16 := by rw [e13, e16, roL_l]; exact sum_fst _
   rw [hq]
   refine ⟨fun h => (by simp at h), fun _ => ?_⟩
   intro x19 e19 _
   have m1 : x12 = mkS x14 := by rw [e12, st_lit, mkS_set, set_self hr]
   rw [wrap_i64 (by omega)] at e19
   refine ⟨rfl, ?_⟩
   rw [m1, e19, show (j : Int) + 1 = ((j + 1 : Nat) : Int) by omega]
   have hq := h x14 hlt (by omega) (by omega) (hT.up (by omega))
   exact hq
  ·refine ⟨need_of (by rw [mkS_len]; omega), ?_⟩
   intro x20 e20 x21 e21 _
   refine ⟨need_of (by omega), ?_⟩
   intro x22 e22 x23 e23 _ _
   subst e22
   have hq : x21 = x23 := by rw [e21, e23]; rfl
   rw [hq]
   refine ⟨fun h => (by simp at h), fun _ => ?_⟩
   intro x26 e26 _
   have m1 : x20 = mkS x22 := by rw [e20, st_lit, mkS_set, set_self hr]
   rw [wrap_i64 (by omega)] at e26
   refine ⟨rfl, ?_⟩
   rw [m1, e26, show (j : Int) + 1 = ((j + 1 : Nat) : Int) by omega]
   have hq := h x22 hlt (by omega) (by omega) (hT.up (by omega))
   exact hq
  ·refine ⟨need_of (by rw [mkS_len]; omega), need_of (by first | trivial | rfl | omega), ?_⟩
   intro x27 e27 x28 e28 _ _ x29 e29 _ _ x30 e30 _
   refine ⟨need_of (by first | trivial | rfl | omega), need_of (by rw [e27, List.length_set, mkS_len]), need_of (by omega), ?_⟩
   intro x31 e31 x32 e32 _ _
   refine ⟨need_of (by omega), need_of (by omega), need_of (by first | trivial | rfl | omega), need_of (by rw [List.length_set]), need_of (by omega), need_of (by first | trivial | rfl | omega), ?_⟩
   intro x33 e33 x34 e34 _ _ x35 e35 _
   have m1 : x31 = mkS (T ++ [T.getD 0 []]) := by rw [e31, e27, e28, e29, e30, st_lit, mkS_set, set_self hr, mkS_app]
   have m2 : x33 = T ++ [T.getD 0 []] := by rw [e33, set_self hr]
   rw [wrap_i64 (by omega)] at e35
   refine ⟨rfl, ?_⟩
   rw [m1, e32, e34, m2, e35, show (j : Int) + 1 = ((j + 1 : Nat) : Int) by omega]
   have hq := h (T ++ [T.getD 0 []]) hlt (by rw [List.length_append, List.length_singleton]; omega) (by rw [List.length_append, List.length_singleton]; omega) (hT.app (Nat.mul_le_mul_right _ (by omega)) (Nat.le_trans hbl (Nat.mul_le_mul_right _ (by omega))))
   rw [List.length_append, List.length_singleton] at hq
   exact hq
  ·refine ⟨need_of (by rw [mkS_len]; omega), ?_⟩
   intro x36 e36 x37 e37 x38 e38 _
   have m1 : x36 = mkS (T.set 0 []) := by rw [e36]; exact mkS_set T 0 []
   rw [wrap_i64 (by omega)] at e38
   refine ⟨rfl, ?_⟩
   rw [m1, e37, e38, show (j : Int) + 1 = ((j + 1 : Nat) : Int) by omega]
   have hq := h (T.set 0 []) hlt (by rw [List.length_set]; omega) (by rw [List.length_set]; omega) (hT.set (by omega) (Nat.zero_le _))
   rw [List.length_set] at hq
   exact hq
  ·intro x39 e39 _ x40 e40 _ x41 e41 _ x42 e42 _ x43 e43 _ x44 e44 _ x45 e45 _ x46 e46 _ x47 e47 _ _
   refine ⟨need_of (by first | trivial | rfl | omega), need_of (by rw [mkS_len]), need_of (by omega), ?_⟩
   intro x48 e48 x49 e49 _ _
   refine ⟨need_of (by first | trivial | rfl | omega), need_of (by first | trivial | rfl | omega), need_of (by omega), ?_⟩
   intro x50 e50 x51 e51 _ _ x52 e52 _
   have m1 : x48 = mkS (T ++ [[]]) := by rw [e48, e39, e40, e41, e42, e43, e44, e45, e46, e47]; exact (congrArg (fun q => mkS T ++ [q]) st_nil).trans (mkS_app T [])
   rw [wrap_i64 (by omega)] at e52
   refine ⟨rfl, ?_⟩
   rw [m1, e49, e51, e50, e52, show (j : Int) + 1 = ((j + 1 : Nat) : Int) by omega]
   have hq := h (T ++ [[]]) hlt (by rw [List.length_append, List.length_singleton]; omega) (by rw [List.length_append, List.length_singleton]; omega) (hT.app (by omega) (Nat.zero_le _))
   rw [List.length_append, List.length_singleton] at hq
   exact hq
  ·intro x53 e53 _
   rw [wrap_i64 (by omega)] at e53
   refine ⟨rfl, ?_⟩
   rw [e53, show (j : Int) + 1 = ((j + 1 : Nat) : Int) by omega]
   have hq := h T hlt (by omega) (by omega) (hT.up (by omega))
   exact hq
 ·have hpos := of_decide_eq_false hpos
  obtain ⟨r, rfl⟩ := Int.eq_ofNat_of_zero_le (show 0 ≤ x3 by omega)
  have hr : r < T.length := by omega
  simp only [Int.toNat_natCast]
  refine ⟨need_of (by omega), need_of (by omega), need_of (by omega), need_of (by omega), ?_⟩
  obtain ⟨gW, gB, gN, gM⟩ := g_at hr
  have hbl := hT _ (at_mem hr)
  simp only [gW, gB, gN, gM, reduceIte]
  refine ⟨fun _ => ?_, fun _ => ⟨fun _ => ?_, fun _ => ⟨fun _ => ?_, fun _ => ⟨fun _ => ?_, fun _ => ⟨fun _ => ?_, fun _ => ⟨fun _ => ?_, fun _ => ?_⟩⟩⟩⟩⟩⟩
  ·generalize hkk : RO.r [roN (roN d j) 2] = kk
   obtain ⟨hk1, hk0⟩ : (roX kk).length = 1 ∧ roN kk 0 = roN (roN d j) 2 := by rw [← hkk]; exact ⟨rfl, rfl⟩
   have hbk : ∀ i, i < (roX kk).length → ((roL (roN kk i)).length : Int) + 8 ≤ 70368744177664 := fun i hi => by
    obtain rfl : i = 0 := by omega
    rw [hk0]; omega
   have hp : 0 < (roX kk).length := by omega
   refine ⟨need_of hbk, need_of (by omega), ?_⟩
   intro x54 e54 x55 e55 _ _ x56 e56 _ _
   rw [fullT_len] at e55
   rw [heads_length] at e56
   subst e54; subst e55; subst e56
   simp only [Int.toNat_natCast, heads_length, heads_at kk 0 hp, rows_at kk 0 hp, List.take_left, roL_l, fullT_len, full_all, heads_all, v_full, v_all]
   refine ⟨need_of (by omega), need_of (by omega), need_of (by omega), need_of (by rw [mkS_len]; omega), need_of (by rw [List.length_append]; omega), need_of (by intros; omega), ?_⟩
   intro x57 e57
   rw [hk0, wr_fst (by omega)] at e57
   have m1 : x57 = mkS (T.set r (T.getD r [] ++ roL (roN (roN d j) 2))) := by rw [e57]; exact mkS_set T r _
   refine ⟨need_of (by omega), need_of (by omega), need_of (by omega), need_of (b_full kk), need_of (by omega), need_of (b_all kk), need_of (l_1 kk), need_of (l_2 kk hbk), ?_⟩
   intro x58 e58
   refine ⟨fun h => by rw [e58] at h; simp at h, fun _ => ?_⟩
   intro x61 e61 _
   rw [wrap_i64 (by omega)] at e61
   refine ⟨rfl, ?_⟩
   rw [m1, e61, show (j : Int) + 1 = ((j + 1 : Nat) : Int) by omega]
   have hq := h (T.set r (T.getD r [] ++ roL (roN (roN d j) 2))) hlt (by rw [List.length_set]; omega) (by rw [List.length_set]; omega) (hT.set (by omega) (by rw [List.length_append]; omega))
   rw [List.length_set] at hq
   exact hq
  ·refine ⟨need_of (by rw [mkS_len]; omega), need_of (by omega), ?_⟩
   intro x62 e62 x63 e63 _ _
   refine ⟨need_of (by omega), ?_⟩
   intro x64 e64 x65 e65 _ _
   subst e64
   refine ⟨need_of e65, need_of (by rw [roL_l]; omega), ?_⟩
   intro x66 e66 _ _
   have hq : x63 = x66 := by rw [e63, e66, roL_l]; exact sum_fst _
   rw [hq]
   refine ⟨fun h => (by simp at h), fun _ => ?_⟩
   intro x69 e69 _
   have m1 : x62 = mkS x64 := by rw [e62, st_lit, mkS_set, set_self hr]
   rw [wrap_i64 (by omega)] at e69
   refine ⟨rfl, ?_⟩
   rw [m1, e69, show (j : Int) + 1 = ((j + 1 : Nat) : Int) by omega]
   have hq := h x64 hlt (by omega) (by omega) (hT.up (by omega))
   exact hq
  ·refine ⟨need_of (by rw [mkS_len]; omega), ?_⟩
   intro x70 e70 x71 e71 _
   refine ⟨need_of (by omega), ?_⟩
   intro x72 e72 x73 e73 _ _
   subst e72
   have hq : x71 = x73 := by rw [e71, e73]; rfl
   rw [hq]
   refine ⟨fun h => (by simp at h), fun _ => ?_⟩
   intro x76 e76 _
   have m1 : x70 = mkS x72 := by rw [e70, st_lit, mkS_set, set_self hr]
   rw [wrap_i64 (by omega)] at e76
   refine ⟨rfl, ?_⟩
   rw [m1, e76, show (j : Int) + 1 = ((j + 1 : Nat) : Int) by omega]
   have hq := h x72 hlt (by omega) (by omega) (hT.up (by omega))
   exact hq
  ·refine ⟨need_of (by rw [mkS_len]; omega), need_of (by first | trivial | rfl | omega), ?_⟩
   intro x77 e77 x78 e78 _ _ x79 e79 _ _ x80 e80 _
   refine ⟨need_of (by first | trivial | rfl | omega), need_of (by rw [e77, List.length_set, mkS_len]), need_of (by omega), ?_⟩
   intro x81 e81 x82 e82 _ _
   refine ⟨need_of (by omega), need_of (by omega), need_of (by first | trivial | rfl | omega), need_of (by rw [List.length_set]), need_of (by omega), need_of (by first | trivial | rfl | omega), ?_⟩
   intro x83 e83 x84 e84 _ _ x85 e85 _
   have m1 : x81 = mkS (T ++ [T.getD r []]) := by rw [e81, e77, e78, e79, e80, st_lit, mkS_set, set_self hr, mkS_app]
   have m2 : x83 = T ++ [T.getD r []] := by rw [e83, set_self hr]
   rw [wrap_i64 (by omega)] at e85
   refine ⟨rfl, ?_⟩
   rw [m1, e82, e84, m2, e85, show (j : Int) + 1 = ((j + 1 : Nat) : Int) by omega]
   have hq := h (T ++ [T.getD r []]) hlt (by rw [List.length_append, List.length_singleton]; omega) (by rw [List.length_append, List.length_singleton]; omega) (hT.app (Nat.mul_le_mul_right _ (by omega)) (Nat.le_trans hbl (Nat.mul_le_mul_right _ (by omega))))
   rw [List.length_append, List.length_singleton] at hq
   exact hq
  ·refine ⟨need_of (by rw [mkS_len]; omega), ?_⟩
   intro x86 e86 x87 e87 x88 e88 _
   have m1 : x86 = mkS (T.set r []) := by rw [e86]; exact mkS_set T r []
   rw [wrap_i64 (by omega)] at e88
   refine ⟨rfl, ?_⟩
   rw [m1, e87, e88, show (j : Int) + 1 = ((j + 1 : Nat) : Int) by omega]
   have hq := h (T.set r []) hlt (by rw [List.length_set]; omega) (by rw [List.length_set]; omega) (hT.set (by omega) (Nat.zero_le _))
   rw [List.length_set] at hq
   exact hq
  ·intro x89 e89 _ x90 e90 _ x91 e91 _ x92 e92 _ x93 e93 _ x94 e94 _ x95 e95 _ x96 e96 _ x97 e97 _ _
   refine ⟨need_of (by first | trivial | rfl | omega), need_of (by rw [mkS_len]), need_of (by omega), ?_⟩
   intro x98 e98 x99 e99 _ _
   refine ⟨need_of (by first | trivial | rfl | omega), need_of (by first | trivial | rfl | omega), need_of (by omega), ?_⟩
   intro x100 e100 x101 e101 _ _ x102 e102 _
   have m1 : x98 = mkS (T ++ [[]]) := by rw [e98, e89, e90, e91, e92, e93, e94, e95, e96, e97]; exact (congrArg (fun q => mkS T ++ [q]) st_nil).trans (mkS_app T [])
   rw [wrap_i64 (by omega)] at e102
   refine ⟨rfl, ?_⟩
   rw [m1, e99, e101, e100, e102, show (j : Int) + 1 = ((j + 1 : Nat) : Int) by omega]
   have hq := h (T ++ [[]]) hlt (by rw [List.length_append, List.length_singleton]; omega) (by rw [List.length_append, List.length_singleton]; omega) (hT.app (by omega) (Nat.zero_le _))
   rw [List.length_append, List.length_singleton] at hq
   exact hq
  ·intro x103 e103 _
   rw [wrap_i64 (by omega)] at e103
   refine ⟨rfl, ?_⟩
   rw [e103, show (j : Int) + 1 = ((j + 1 : Nat) : Int) by omega]
   have hq := h T hlt (by omega) (by omega) (hT.up (by omega))
   exact hq

set_option maxHeartbeats 4000000 in
theorem step21b {n : Nat} {T : List (List Int)} {i : Nat} {KK : List RV → List (Option (List Seg)) → Prop} {Q : Nat → List Pv → Prop} (hL : T.length ≤ 2097152) (hn : n ≤ 1048577) (hT : Most (n * 1048576) T) (hK : KK [.v (.b true true)] [])
  (h : i < T.length → Q 44 [.z (T.length : Int), .z (T.length : Int), .z ((i + 1 : Nat) : Int), .l K80, .l K80, .n T.length, .ll (mkS T), .n T.length, .ll T]) :
  lc21b (T.length : Int) (T.length : Int) (i : Int) T.length (mkS T) T.length T KK Q := by
 rw [lc21b_eq]
 simp only [Int.toNat_natCast]
 refine ⟨fun hlt => ?_, fun _ => hK⟩
 have hr : i < T.length := by have := of_decide_eq_true hlt; omega
 obtain ⟨gW, gB, gN, gM⟩ := g_at hr
 have hbl := hT _ (at_mem hr)
 simp only [gW, gB, gN, gM]
 refine ⟨need_of (by omega), need_of (by omega), need_of (by rw [mkS_len]; omega), need_of (by omega), ?_⟩
 intro x1 e1 x2 e2 _ _
 rw [st_lit, mkS_set, set_self hr] at e1
 subst e1
 simp only [gW, gB, gN, gM]
 refine ⟨need_of (by omega), need_of (by omega), need_of (by omega), ?_⟩
 intro x3 e3 x4 e4 _ _
 subst e3
 refine ⟨need_of e4, need_of (by rw [roL_l]; omega), ?_⟩
 intro x5 e5 _ _
 have hq : x2 = x5 := by rw [e2, e5, roL_l]; exact sum_fst _
 rw [hq]
 refine ⟨fun h => (by simp at h), fun _ => ?_⟩
 refine ⟨need_of (by omega), need_of (by omega), need_of (by rw [mkS_len]; omega), ?_⟩
 intro x6 e6 x7 e7 _
 rw [st_lit, mkS_set, set_self hr] at e6
 refine ⟨need_of (by omega), need_of (by omega), need_of (by omega), ?_⟩
 intro x8 e8 x9 e9 _ _
 have hq2 : x7 = x9 := by rw [e7, e9]; rfl
 rw [hq2]
 refine ⟨fun h => by simp at h, fun _ => ?_⟩
 intro x10 e10 _
 rw [wrap_i64 (by omega)] at e10
 refine ⟨rfl, ?_⟩
 rw [e6, e8, e10, show (i : Int) + 1 = ((i + 1 : Nat) : Int) by omega]
 exact h hr
end Go.Gx

/- The walk: states and boxes go the same way. -/
namespace Go.Gx
open Go.Proofs Go.Sp
set_option linter.unusedVariables false
set_option maxRecDepth 100000

def walkOk (d : RO) : Prop := (roX d).length ≤ 1048576 ∧ ∀ j, j < (roX d).length → (roL (roN (roN d j) 2)).length ≤ 1048576
def walkG : List AV → Option (List Prop × List RV × List (Option (List Seg)))
 | [.d (.l (.r [.i .i64, .i .i64, .ints .u8])) d, .v (.i .i64 a), .v (.i .i64 b)] => some ([a.z = 1, b.z = 3, walkOk d], [.v (.b false true)], [])
 | _ => none
def inv21 (d : RO) (key : Nat) (ps : List Pv) (m : Nat) : Prop :=
  ∃ (j : Nat) (T : List (List Int)),
   (key = 7 ∧ Most (j * 1048576) T ∧ j ≤ (roX d).length ∧ 0 < T.length ∧ T.length ≤ j + 1 ∧ ps = [.ro d, .z (T.length : Int), .z (T.length : Int), .z (j : Int), .l K80, .l K80, .n T.length, .ll (mkS T), .n T.length, .ll T] ∧ m = 4194304 - j) ∨
    (key = 44 ∧ Most ((roX d).length * 1048576) T ∧ T.length ≤ (roX d).length + 1 ∧ j ≤ T.length ∧ ps = [.z (T.length : Int), .z (T.length : Int), .z (j : Int), .l K80, .l K80, .n T.length, .ll (mkS T), .n T.length, .ll T] ∧ m = T.length - j)
theorem walk_ok : CallOk Tryd.prog gh4 21 (genCtr [.d shO, .v, .v] walkG) := by
 refine call_gen (fn := Tryd.f21) Δ8_ok rfl glow4 rfl (by kernel_rfl) (by kernel_rfl) _ walkG fun av p rvs fin hs hp hf => ?_
 unfold walkG at hs
 split at hs
 ·rename_i d a b
  simp only [Option.some.injEq, Prod.mk.injEq] at hs
  obtain ⟨rfl, rfl, rfl⟩ := hs
  obtain ⟨aT, a⟩ := a
  obtain ⟨bT, b⟩ := b
  obtain ⟨ha, hb, ⟨hL, hd⟩, _⟩ := hp
  have ha : a = 1 := ha
  have hb : b = 3 := hb
  subst ha hb
  refine ⟨[.ro 490 shO d, .i .i64 ⟨true, 1⟩, .i .i64 ⟨true, 3⟩], [], L21, inv21 d, ⟨rfl, rfl, rfl, trivial⟩, Nat.le_of_ble_eq_true (by kernel_rfl), ?_, ?_, ?_⟩
  ·intro kk t ht g hg
   have hg : g ∈ [0, 1, 2, 3, 490] := hg
   simp only [List.mem_cons, List.not_mem_nil, or_false] at hg
   simp only [L21, List.mem_cons, List.not_mem_nil, or_false, Prod.mk.injEq] at ht
   rcases ht with ⟨rfl, rfl⟩ | ⟨rfl, rfl⟩ <;> rcases hg with rfl | rfl | rfl | rfl | rfl <;> exact ⟨by omega, rfl⟩
  ·rintro vk t ps mm ht ⟨j, T, ⟨rfl, hT, hj, h0, hk, rfl, rfl⟩ | ⟨rfl, hT, hl, hj, rfl, rfl⟩⟩
   all_goals simp only [L21, List.mem_cons, List.not_mem_nil, or_false, Prod.mk.injEq, Nat.reduceEqDiff, false_and, true_and, false_or, or_false] at ht
   all_goals subst ht
   ·show lc21a d (T.length : Int) (T.length : Int) (j : Int) T.length (mkS T) T.length T _ _
    exact step21 hd hL h0 hT hk hj (fun T' hlt h0' hk' hT' => ⟨4194304 - (j + 1), by omega, j + 1, T', .inl ⟨rfl, hT', by omega, h0', hk', rfl, rfl⟩⟩)
     ⟨T.length - 0, by omega, 0, T, .inr ⟨rfl, hT.up (Nat.mul_le_mul_right _ hj), by omega, Nat.zero_le _, rfl, rfl⟩⟩
   ·show lc21b (T.length : Int) (T.length : Int) (j : Int) T.length (mkS T) T.length T _ _
    exact step21b (n := (roX d).length) (by omega) (by omega) hT ⟨⟨rfl, trivial⟩, trivial⟩ fun hlt => ⟨T.length - (j + 1), by omega, j + 1, T, .inr ⟨rfl, hT, hl, by omega, rfl, rfl⟩⟩
  ·show vc21 d _ _
   rw [vc21_eq]
   intro x1 e1 _ x2 e2 _ x3 e3 _ x4 e4 _ x5 e5 _ x6 e6 _ x7 e7 _ x8 e8 _ x9 e9 _ _
   refine ⟨rfl, 4194304 - 0, 0, [[]], .inl ⟨rfl, fun b hb => by rw [List.mem_singleton.1 hb]; exact Nat.zero_le _, Nat.zero_le _, by rw [List.length_singleton]; omega, by rw [List.length_singleton]; omega, ?_, rfl⟩⟩
   rw [e1, e2, e3, e4, e5, e6, e7, e8, e9]
   rfl
 ·cases hs
def Δ9 : Tab := ⟨tys, (21, genCtr [.d shO, .v, .v] walkG) :: Δ8.ctr, [0, 1, 2, 3], gh4⟩
theorem Δ9_ok : TabOk Tryd.prog Δ9 := Δ8_ok.cons walk_ok
end Go.Gx

/- From a law's call to what its row asks, for laws that only read. -/
namespace Go.Gx
open Go.ChangeShapes Go.WideShapes Go.ChangeAt Go.RowKit
set_option linter.unusedVariables false

section
variable {P : Program}

theorem below_trodAll {H : Type} {enc : TypeId × Value → H} {W W' : World} (hl : laidOutB P = true) (hB : Below W.heap.size W W') {sp : Nat → Bool} : ∀ {ts : List TypeId} {vs : List Value} {ds : List (DataW H)} {ps : List MemPlace},
  (∀ t ∈ ts, P.readableRec t = true ∧ t < P.types.size) → DataW.TrodAll enc P W 0 (fun _ => true) true ts vs ds ps → (∀ p ∈ ps, p.block < W.heap.size) → (∀ p ∈ ps, sp p.block = true) → DataW.TrodAll enc P W' 0 sp true ts vs ds ps
 | [], _, _, _, _, h, _, _ => by
  obtain ⟨rfl, rfl, rfl⟩ := trodAll_nil h
  exact trodAll_mk0
 | t :: ts, _, _, _, ht, h, hlt, hs => by
  obtain ⟨v, vs1, d, ds1, p, q, rfl, rfl, rfl, h1, h2⟩ := trodAll_cons h
  have := ht t (by simp)
  exact trodAll_cons_mk (WideElems.Trod_stays hl this.1 this.2 h1 (fun x hx => hB.same (hlt x (by simp [hx]))) fun x hx => hs x (by simp [hx]))
   (below_trodAll hl hB (fun t h => ht t (by simp [h])) h2 (fun x hx => hlt x (by simp [hx])) fun x hx => hs x (by simp [hx]))

theorem post_true {H : Type} {enc : TypeId × Value → H} {f : Func} {s : ChangeSpec} {tb : TypeId} {W W' : World} {args : Array Value} {ds gs : List (DataW H)} {before : List MemPlace}
  (hl : laidOutB P = true) (hv : s.vars = []) (hr : f.resultTypes = #[tb]) (hb : P.underlying tb = some .bool) (hread : ∀ t ∈ f.params.toList, P.readableRec t = true ∧ t < P.types.size)
  (hfn : ∀ ds : List (DataW H), ds.length = f.params.size → (s.fn H ds).results = [.lit (.bool true)] ∧ (s.fn H ds).args = ds ∧ (s.fn H ds).vars = [])
  (hW : DataW.Whole enc P f.params.toList s.vars false W args.toList ds gs before) (hB : Below W.heap.size W W') : s.post enc P f false true false false W args (.bool true) W' := by
 have hW' := hW
 obtain ⟨p, q, hA0, hV, rfl, hz, hn⟩ := hW
 have hA : DataW.TrodAll enc P W 0 (fun _ => true) true f.params.toList args.toList ds p := hA0
 rw [hv] at hV
 obtain ⟨rfl, rfl⟩ := trodVars_none hV
 have hlen : ds.length = f.params.size := by
  have : ∀ {ts : List TypeId} {vs : List Value} {ds : List (DataW H)} {ps : List MemPlace}, DataW.TrodAll enc P W 0 (fun _ => true) true ts vs ds ps → ds.length = ts.length := by
   intro ts
   induction ts with
   | nil => intro vs ds ps h; obtain ⟨_, rfl, _⟩ := trodAll_nil h; rfl
   | cons t ts ih => intro vs ds ps h; obtain ⟨_, _, _, _, _, _, rfl, rfl, rfl, _, h2⟩ := trodAll_cons h; simp [ih h2]
  simpa using this hA
 obtain ⟨k1, k2, k3⟩ := hfn ds hlen
 have hlt : ∀ x ∈ p, x.block < W.heap.size := fun x hx => hW'.lt x (by simp [hx])
 have hres : ∀ (b : Nat) (sp : Nat → Bool) (hd : Bool), DataW.TrodAll enc P W' b sp hd f.resultTypes.toList ((Value.bool true).resultList f.resultTypes.size) (s.fn H (ds ++ [])).results [] := fun b sp hd => by
  rw [List.append_nil, k1, hr]
  exact trodAll_cons_mk (shut_bool hb _) trodAll_mk0
 have hargs : ∀ sp : Nat → Bool, (∀ x ∈ p, sp x.block = true) → DataW.TrodAll enc P W' 0 sp true f.params.toList args.toList (s.fn H (ds ++ [])).args p := fun sp hs => by
  rw [List.append_nil, k2]
  exact below_trodAll hl hB hread hA hlt hs
 have hvars : ∀ sp : Nat → Bool, DataW.TrodVars enc P W' sp s.vars (s.fn H (ds ++ [])).vars [] := fun sp => by
  rw [List.append_nil, k3, hv]; rfl
 refine ⟨ds, [], p ++ [], [], p, [], hW', hres _ _ _, hargs _ (fun x hx => by simpa using hlt x hx), hvars _, hB.frame _, fun _ => ?_⟩
 refine ⟨ok_one hr rfl (okWide_bool_mk hb _), _, _, ([] ++ p) ++ [], ⟨[] ++ p, [], trodAll_append (hargs _ (fun _ _ => rfl)) (hres _ _ _), hvars _, rfl, ?_, ?_⟩, ?_⟩
 ·intro b off hp
  have hp' : MemPlace.cell b off ∈ p := by simpa using hp
  rw [hB.frozen (hlt _ hp')]
  exact hz b off (by simpa using hp')
 ·intro ha
  have := hn ha
  simpa using this
 ·intro x hx _
  simpa using hx

theorem mem_start (W : World) (ρ : Nat → Pl) : Mem W (fun _ => False) ρ (fun _ => none) W :=
 ⟨by constructor <;> (intros; contradiction), FrameW.refl _ _, by intros; contradiction, by intros; contradiction, by intros; contradiction, .none (fun _ _ _ h => by cases h)⟩

end
end Go.Gx

/- The tables of the program, and their cells in a row's world; what all rows of this seat ask. -/
namespace Go.Gx
open Go.Proofs Go.Sp Go.Proofs.YtihihilhfijloaaDoor
open Go.ChangeShapes Go.WideShapes Go.ChangeAt Go.RowKit
set_option linter.unusedVariables false

theorem glob_of {W : World} {name : String} {k : IntKind} {zs : List Int} {g : Nat} (hg : Tryd.prog.globalNamed name = some g) (h : Lib.TabIs Tryd.prog W name k zs) : W.rangeAt g 0 (zs.map (Value.int k)) ∧ g < W.heap.size := by
 have hv : W.var? Tryd.prog name = some (zs.map fun z => Value.int k z).toArray := h
 constructor
 ·intro j v hj
  have := World.var?_cell hg hv j
  rw [Nat.zero_add, this]
  simpa using hj
 ·unfold World.var? at hv
  rw [hg] at hv
  simp only [Option.bind_some] at hv
  split at hv
  ·rename_i hh
   exact (Array.getElem?_eq_some_iff.1 hh).1
  ·cases hv

theorem all_u64 {l : List Int} (h : (l.all fun z => decide (0 ≤ z) && decide (z < 18446744073709551616)) = true) : AllR .u64 l := fun z hz => by
 have := List.all_eq_true.1 h z hz
 simpa [InR] using this
theorem start_ok : start8.length = 8 ∧ AllR .u64 start8 := ⟨rfl, all_u64 (by decide +kernel)⟩
theorem rounds_ok : K80.length = 80 ∧ AllR .u64 K80 := ⟨by decide +kernel, all_u64 (by decide +kernel)⟩

def layC (cs : Array Value) : Obj → Obj
 | .cells _ t frozen => .cells cs t frozen
 | o => o
theorem own : ownKnob Tryd.prog.godebug = none := by kernel_rfl
theorem laidOut : laidOutB Tryd.prog = true := by kernel_rfl

end Go.Gx

/- The tables of both packages, and their cells in a row's world. -/
namespace Go.Gx
open Go.Proofs Go.Sp Go.Proofs.YtihihilhfijloaaDoor
open Go.ChangeShapes Go.WideShapes Go.ChangeAt Go.RowKit
set_option linter.unusedVariables false

theorem tab_glob4 {W : World} (h : laidMetH Tryd.prog [("veil/veilref03.round", Rows.laid_veil_veilref03_round), ("veil/veilref03.first", Rows.laid_veil_veilref03_first), ("veil/hash.rounds", Rows.laid_veil_hash_rounds), ("veil/hash.start", Rows.laid_veil_hash_start)] W) : Glob gh4 W fun _ => False := by
 have h' : laidMet Tryd.prog (("veil/veilref03.round", Lib.tabData .u64 K80) :: ("veil/veilref03.first", Lib.tabData .u64 start8) :: ("veil/hash.rounds", Lib.tabData .u64 K80) :: ("veil/hash.start", Lib.tabData .u64 start8) :: []) W := h
 obtain ⟨c1, c2⟩ := glob_of (g := 3) (by kernel_rfl) (Lib.tabIs_of_head (n := 80) (g := 3) (t := 78) (e := 43) (by kernel_rfl) (by kernel_rfl) (by kernel_rfl) (by kernel_rfl) (by kernel_rfl) (by kernel_rfl) h')
 have h' := laidMet.tail h'
 obtain ⟨d1, d2⟩ := glob_of (g := 1) (by kernel_rfl) (Lib.tabIs_of_head (n := 8) (g := 1) (t := 44) (e := 43) (by kernel_rfl) (by kernel_rfl) (by kernel_rfl) (by kernel_rfl) (by kernel_rfl) (by kernel_rfl) h')
 have h' := laidMet.tail h'
 obtain ⟨a1, a2⟩ := glob_of (g := 2) (by kernel_rfl) (Lib.tabIs_of_head (n := 80) (g := 2) (t := 78) (e := 43) (by kernel_rfl) (by kernel_rfl) (by kernel_rfl) (by kernel_rfl) (by kernel_rfl) (by kernel_rfl) h')
 obtain ⟨b1, b2⟩ := glob_of (g := 0) (by kernel_rfl) (Lib.tabIs_of_head (n := 8) (g := 0) (t := 44) (e := 43) (by kernel_rfl) (by kernel_rfl) (by kernel_rfl) (by kernel_rfl) (by kernel_rfl) (by kernel_rfl) (laidMet.tail h'))
 intro g b hb
 have hb : (g, b) ∈ [(0, SB.segs true [.arr .u64 8 true start8]), (1, .segs true [.arr .u64 8 true start8]), (2, .segs true [.arr .u64 80 false K80]), (3, .segs true [.arr .u64 80 false K80])] := hb
 simp only [List.mem_cons, List.not_mem_nil, or_false, Prod.mk.injEq] at hb
 rcases hb with ⟨rfl, rfl⟩ | ⟨rfl, rfl⟩ | ⟨rfl, rfl⟩ | ⟨rfl, rfl⟩
 ·exact ⟨_, _, rfl, ⟨_, _, ⟨start_ok.1, start_ok.2, rfl⟩, (List.append_nil _).symm, rfl⟩, b1, fun x => x, b2⟩
 ·exact ⟨_, _, rfl, ⟨_, _, ⟨start_ok.1, start_ok.2, rfl⟩, (List.append_nil _).symm, rfl⟩, d1, fun x => x, d2⟩
 ·exact ⟨_, _, rfl, ⟨_, _, ⟨rounds_ok.1, rounds_ok.2, rfl⟩, (List.append_nil _).symm, rfl⟩, a1, fun x => x, a2⟩
 ·exact ⟨_, _, rfl, ⟨_, _, ⟨rounds_ok.1, rounds_ok.2, rfl⟩, (List.append_nil _).symm, rfl⟩, c1, fun x => x, c2⟩

noncomputable def laidWorld4 (os : Os) : World :=
 { World.holding Tryd.prog os ⟨#[], #[], []⟩ with heap := ((((World.holding Tryd.prog os ⟨#[], #[], []⟩).heap.modify 0 (layC #[.int .u64 7640891576956012808, .int .u64 13503953896175478587, .int .u64 4354685564936845355, .int .u64 11912009170470909681, .int .u64 5840696475078001361, .int .u64 11170449401992604703, .int .u64 2270897969802886507, .int .u64 6620516959819538809])).modify 1 (layC #[.int .u64 7640891576956012808, .int .u64 13503953896175478587, .int .u64 4354685564936845355, .int .u64 11912009170470909681, .int .u64 5840696475078001361, .int .u64 11170449401992604703, .int .u64 2270897969802886507, .int .u64 6620516959819538809])).modify 2 (layC #[.int .u64 4794697086780616226, .int .u64 8158064640168781261, .int .u64 13096744586834688815, .int .u64 16840607885511220156, .int .u64 4131703408338449720, .int .u64 6480981068601479193, .int .u64 10538285296894168987, .int .u64 12329834152419229976, .int .u64 15566598209576043074, .int .u64 1334009975649890238, .int .u64 2608012711638119052, .int .u64 6128411473006802146, .int .u64 8268148722764581231, .int .u64 9286055187155687089, .int .u64 11230858885718282805, .int .u64 13951009754708518548, .int .u64 16472876342353939154, .int .u64 17275323862435702243, .int .u64 1135362057144423861, .int .u64 2597628984639134821, .int .u64 3308224258029322869, .int .u64 5365058923640841347, .int .u64 6679025012923562964, .int .u64 8573033837759648693, .int .u64 10970295158949994411, .int .u64 12119686244451234320, .int .u64 12683024718118986047, .int .u64 13788192230050041572, .int .u64 14330467153632333762, .int .u64 15395433587784984357, .int .u64 489312712824947311, .int .u64 1452737877330783856, .int .u64 2861767655752347644, .int .u64 3322285676063803686, .int .u64 5560940570517711597, .int .u64 5996557281743188959, .int .u64 7280758554555802590, .int .u64 8532644243296465576, .int .u64 9350256976987008742, .int .u64 10552545826968843579, .int .u64 11727347734174303076, .int .u64 12113106623233404929, .int .u64 14000437183269869457, .int .u64 14369950271660146224, .int .u64 15101387698204529176, .int .u64 15463397548674623760, .int .u64 17586052441742319658, .int .u64 1182934255886127544, .int .u64 1847814050463011016, .int .u64 2177327727835720531, .int .u64 2830643537854262169, .int .u64 3796741975233480872, .int .u64 4115178125766777443, .int .u64 5681478168544905931, .int .u64 6601373596472566643, .int .u64 7507060721942968483, .int .u64 8399075790359081724, .int .u64 8693463985226723168, .int .u64 9568029438360202098, .int .u64 10144078919501101548, .int .u64 10430055236837252648, .int .u64 11840083180663258601, .int .u64 13761210420658862357, .int .u64 14299343276471374635, .int .u64 14566680578165727644, .int .u64 15097957966210449927, .int .u64 16922976911328602910, .int .u64 17689382322260857208, .int .u64 500013540394364858, .int .u64 748580250866718886, .int .u64 1242879168328830382, .int .u64 1977374033974150939, .int .u64 2944078676154940804, .int .u64 3659926193048069267, .int .u64 4368137639120453308, .int .u64 4836135668995329356, .int .u64 5532061633213252278, .int .u64 6448918945643986474, .int .u64 6902733635092675308, .int .u64 7801388544844847127])).modify 3 (layC #[.int .u64 4794697086780616226, .int .u64 8158064640168781261, .int .u64 13096744586834688815, .int .u64 16840607885511220156, .int .u64 4131703408338449720, .int .u64 6480981068601479193, .int .u64 10538285296894168987, .int .u64 12329834152419229976, .int .u64 15566598209576043074, .int .u64 1334009975649890238, .int .u64 2608012711638119052, .int .u64 6128411473006802146, .int .u64 8268148722764581231, .int .u64 9286055187155687089, .int .u64 11230858885718282805, .int .u64 13951009754708518548, .int .u64 16472876342353939154, .int .u64 17275323862435702243, .int .u64 1135362057144423861, .int .u64 2597628984639134821, .int .u64 3308224258029322869, .int .u64 5365058923640841347, .int .u64 6679025012923562964, .int .u64 8573033837759648693, .int .u64 10970295158949994411, .int .u64 12119686244451234320, .int .u64 12683024718118986047, .int .u64 13788192230050041572, .int .u64 14330467153632333762, .int .u64 15395433587784984357, .int .u64 489312712824947311, .int .u64 1452737877330783856, .int .u64 2861767655752347644, .int .u64 3322285676063803686, .int .u64 5560940570517711597, .int .u64 5996557281743188959, .int .u64 7280758554555802590, .int .u64 8532644243296465576, .int .u64 9350256976987008742, .int .u64 10552545826968843579, .int .u64 11727347734174303076, .int .u64 12113106623233404929, .int .u64 14000437183269869457, .int .u64 14369950271660146224, .int .u64 15101387698204529176, .int .u64 15463397548674623760, .int .u64 17586052441742319658, .int .u64 1182934255886127544, .int .u64 1847814050463011016, .int .u64 2177327727835720531, .int .u64 2830643537854262169, .int .u64 3796741975233480872, .int .u64 4115178125766777443, .int .u64 5681478168544905931, .int .u64 6601373596472566643, .int .u64 7507060721942968483, .int .u64 8399075790359081724, .int .u64 8693463985226723168, .int .u64 9568029438360202098, .int .u64 10144078919501101548, .int .u64 10430055236837252648, .int .u64 11840083180663258601, .int .u64 13761210420658862357, .int .u64 14299343276471374635, .int .u64 14566680578165727644, .int .u64 15097957966210449927, .int .u64 16922976911328602910, .int .u64 17689382322260857208, .int .u64 500013540394364858, .int .u64 748580250866718886, .int .u64 1242879168328830382, .int .u64 1977374033974150939, .int .u64 2944078676154940804, .int .u64 3659926193048069267, .int .u64 4368137639120453308, .int .u64 4836135668995329356, .int .u64 5532061633213252278, .int .u64 6448918945643986474, .int .u64 6902733635092675308, .int .u64 7801388544844847127]) }
end Go.Gx

/- A law off a world that holds the globals: its arguments as data that is only read. -/
namespace Go.Gx
open Go.RowKit Go.ChangeShapes Go.WideShapes Go.ChangeAt
open Go.Proofs.YtihihilhfijloaaDoor.Rows (uptoBulk uptoBulkAll uptoSmall)
set_option linter.unusedVariables false

mutual
def shTyB (P : Program) : Sh → TypeId → Bool
 | .i k, t => (match P.underlying t with | some (.int k') => keq k k' | _ => false)
 | .tb, t => (match P.underlying t with | some .bool => true | _ => false)
 | .ts, t => (match P.underlying t with | some .string => true | _ => false)
 | .ints k, t => (match P.underlying t with
  | some (.slice e) => (match P.underlying e with | some (.int k') => keq k k' && (Nat.beq (P.cellsOf e) 1 && Nat.blt 0 (P.bytesOf e)) | _ => false)
  | _ => false)
 | .l sh, t => (match P.underlying t with
  | some (.slice e) => shTyB P sh e && (Nat.beq (P.cellsOf e) (shSize sh) && (Nat.blt 0 (shSize sh) && Nat.blt 0 (P.bytesOf e)))
  | _ => false)
 | .r fs, t => (match P.underlying t with
  | some (.struct ff) => shTysB P fs ff.toList 0 && Nat.beq (P.cellsOf t) (shSizes fs)
  | _ => false)
 | .arr n k, t => (match P.underlying t with
  | some (.array m e) => Nat.beq m n && (Nat.beq (P.cellsOf t) n && (Nat.beq (P.cellsOf e) 1 && (match P.underlying e with | some (.int k') => keq k k' | _ => false)))
  | _ => false)
def shTysB (P : Program) : List Sh → List Field → Nat → Bool
 | [], ff, _ => (match ff with | [] => true | _ => false)
 | s :: r, ff, o => (match ff with
  | f :: ff => Nat.beq f.offset o && (shTyB P s f.type && (Nat.beq (P.cellsOf f.type) (shSize s) && shTysB P r ff (o + shSize s)))
  | [] => false)
end

mutual
def roM : Sh → RO → Nat
 | .ts, d => (roS d).size
 | .ints _, d => (roL d).length
 | .l e, d => (roX d).length + ((roX d).map (roM e)).sum
 | .r fs, d => roMs fs d 0
 | .i _, _ => 0
 | .tb, _ => 0
 | .arr _ _, _ => 0
def roMs : List Sh → RO → Nat → Nat
 | [], _, _ => 0
 | s :: r, d, i => roM s (roN d i) + roMs r d (i + 1)
end

mutual
def roMx (N : Nat) : Sh → RO → Prop
 | .ts, d => (roS d).size ≤ N
 | .ints _, d => (roL d).length ≤ N
 | .l e, d => (roX d).length ≤ N ∧ ∀ x ∈ roX d, roMx N e x
 | .r fs, d => roMxs N fs d 0
 | .i _, _ => True
 | .tb, _ => True
 | .arr _ _, _ => True
def roMxs (N : Nat) : List Sh → RO → Nat → Prop
 | [], _, _ => True
 | s :: r, d, i => roMx N s (roN d i) ∧ roMxs N r d (i + 1)
end

section
variable {P : Program}

theorem weightsAll_mem {H : Type} {e : TypeId} {d : DataW H} : ∀ {l : List (DataW H)}, d ∈ l → ∀ n ∈ d.weights P e, n ∈ DataW.weightsAll P e l
 | y :: r, h, n, hn => by
  simp only [DataW.weightsAll, List.mem_append]
  rcases List.mem_cons.1 h with rfl | h
  ·exact .inl hn
  ·exact .inr (weightsAll_mem h n hn)

theorem bulk_pos {H : Type} (d : DataW H) : 1 ≤ uptoBulk d := by unfold uptoBulk; split <;> omega
theorem bulkAll_len {H : Type} : ∀ (l : List (DataW H)), l.length ≤ uptoBulkAll l
 | [] => by simp [uptoBulkAll]
 | d :: r => by have := bulk_pos d; have := bulkAll_len r; simp only [uptoBulkAll, List.length_cons]; omega
theorem bulkAll_app {H : Type} : ∀ (a b : List (DataW H)), uptoBulkAll (a ++ b) = uptoBulkAll a + uptoBulkAll b
 | [], b => by simp [uptoBulkAll]
 | d :: r, b => by simp only [List.cons_append, uptoBulkAll, bulkAll_app r b]; omega

theorem ChainR.snoc {R : RO → Value → Prop} {x : RO} {v : Value} (hx : R x v) : ∀ (xs : List RO) (cs : List Value), ChainR R xs cs → ChainR R (xs ++ [x]) (cs ++ v.cells.toList)
 | [], cs, h => by rw [show cs = [] from h]; exact ⟨v, [], hx, by simp, rfl⟩
 | y :: r, cs, h => by
  obtain ⟨u, c, h1, rfl, h3⟩ := h
  exact ⟨u, c ++ v.cells.toList, h1, by simp [List.append_assoc], ChainR.snoc hx r c h3⟩

theorem addr_of_cell {W : World} {a : Addr} {v : Value} (h : W.cell? a = some v) : a = ⟨a.block, a.off, none⟩ ∧ a.block < W.heap.size := by
 obtain ⟨bk, of, sp⟩ := a
 unfold World.cell? at h
 split at h
 ·rename_i hb
  have hb : W.heap[bk]? = _ := hb
  refine ⟨?_, (Array.getElem?_eq_some_iff.1 hb).1⟩
  split at h
  ·cases h
  ·rename_i hs
   have hs : ¬ sp.isSome = true := hs
   have : sp = none := by simpa using hs
   rw [this]
 ·cases h

theorem add_add_addr (a : Addr) (i j : Nat) : (a.add i).add j = a.add (i + j) := by
 unfold Addr.add
 by_cases h1 : i = 0 <;> by_cases h2 : j = 0 <;> simp [h1, h2, Nat.add_assoc]
theorem add_zero_addr (a : Addr) : a.add 0 = a := by simp [Addr.add]

mutual
theorem trod_ro {H : Type} {enc : TypeId × Value → H} {W : World} (N : Nat) : ∀ (sh : Sh) (t : TypeId) (fuel : Nat) (cs : List Value) (x : DataW H × List MemPlace), shTyB P sh t = true → DataW.trod enc P W 0 (fun _ => true) true fuel t cs = some x →
  ∃ ro v, cs = v.cells.toList ∧ RoD W (OutB W fun _ => False) sh ro v ∧ roM sh ro + 1 ≤ uptoBulk x.1 ∧ ((∀ n ∈ x.1.weights P t, n ≤ N) → roMx N sh ro)
 | .i k, t, fuel, cs, x, hs, h => by
  simp only [shTyB] at hs
  split at hs
  ·rename_i k' hu
   have hk := keq_eq hs
   subst hk
   cases fuel with
   | zero => simp [DataW.trod] at h
   | succ n =>
    unfold DataW.trod at h
    rw [hu] at h
    rcases cs with _ | ⟨c, _ | ⟨c2, r⟩⟩
    ·simp at h
    ·cases c <;> simp at h
     rename_i k2 z
     obtain ⟨⟨rfl, hz⟩, rfl⟩ := h
     refine ⟨.i z, .int k2 z, rfl, ?_, by simp [roM, uptoBulk], fun _ => trivial⟩
     simp only [RoD, roZ]
     refine ⟨trivial, ?_⟩
     simp only [Lit.wf, Bool.and_eq_true, decide_eq_true_eq] at hz
     cases k2 <;> simp [InR, IntKind.min, IntKind.max, IntKind.bits, IntKind.signed] at hz ⊢ <;> omega
    ·simp at h
  ·cases hs
 | .tb, t, fuel, cs, x, hs, h => by
  simp only [shTyB] at hs
  split at hs
  ·rename_i hu
   cases fuel with
   | zero => simp [DataW.trod] at h
   | succ n =>
    unfold DataW.trod at h
    rw [hu] at h
    rcases cs with _ | ⟨c, _ | ⟨c2, r⟩⟩
    ·simp at h
    ·cases c <;> simp at h
     rename_i b
     subst h
     exact ⟨.b b, .bool b, rfl, by simp only [RoD, roB], by simp [roM, uptoBulk], fun _ => trivial⟩
    ·simp at h
  ·cases hs
 | .ts, t, fuel, cs, x, hs, h => by
  simp only [shTyB] at hs
  split at hs
  ·rename_i hu
   cases fuel with
   | zero => simp [DataW.trod] at h
   | succ n =>
    unfold DataW.trod at h
    rw [hu] at h
    rcases cs with _ | ⟨c, _ | ⟨c2, r⟩⟩
    ·simp at h
    ·cases c <;> simp at h
     rename_i s
     obtain ⟨hz, rfl⟩ := h
     refine ⟨.s s, .string s, rfl, ?_, ?_, fun hw => ?_⟩
     ·simp only [RoD, roS]
      refine ⟨trivial, ?_⟩
      have : s.size ≤ maxLen := hz
      simp only [maxLen] at this
      omega
     ·simp only [roM, roS, uptoBulk]
      have : s.data.toList.length = s.size := by simp
      omega
     ·have := hw s.data.toList.length (by simp [DataW.weights])
      have e : s.data.toList.length = s.size := by simp
      simp only [roMx, roS]
      omega
    ·simp at h
  ·cases hs
 | .ints k, t, fuel, cs, x, hs, h => by
  simp only [shTyB] at hs
  split at hs
  ·rename_i e hu
   split at hs
   ·rename_i k' hue
    simp only [Bool.and_eq_true] at hs
    have hk := keq_eq hs.1
    subst hk
    have hbs : 0 < P.bytesOf e := by have := hs.2.2; simp [Nat.blt] at this; omega
    rcases open_ints hu hue (Nat.eq_of_beq_eq_true hs.2.1) h with ⟨rfl, rfl⟩ | ⟨a, len, cap, zs, rfl, h2, h3, h4, h5, h6, h7, h8⟩
    ·refine ⟨.l [], .slice none 0 0, rfl, ?_, by simp [roM, roL, uptoBulk], fun _ => Nat.zero_le _⟩
     simp only [RoD]
     exact ⟨none, 0, rfl, Nat.le_refl _, by simp [roL], (fun z hz => by cases hz), .inr ⟨rfl, rfl⟩⟩
    ·have hzl : zs.length = cap := by simpa using h5
     have hR : AllR k zs := fun z hz => by
      have := h8 z hz
      simp only [Lit.wf, Bool.and_eq_true, decide_eq_true_eq] at this
      cases k <;> simp [InR, IntKind.min, IntKind.max, IntKind.bits, IntKind.signed] at this ⊢ <;> omega
     have hlen : (zs.take len).length = len := by rw [List.length_take]; omega
     have hmax : cap ≤ 140737488355328 ∨ True := .inr trivial
     refine ⟨.l (zs.take len), .slice (some a) len cap, rfl, ?_, ?_, fun hw => ?_⟩
     ·simp only [RoD]
      have er : roL (.l (zs.take len)) = zs.take len := rfl
      rw [er]
      refine ⟨some a, cap, by rw [hlen], by omega, ?_, fun z hz => hR z (List.mem_of_mem_take hz), ?_⟩
      ·rw [hlen]; simp only [maxLen] at h4; omega
      ·rcases Nat.eq_zero_or_pos cap with h0 | h0
       ·exact .inr ⟨by omega, h0⟩
       ·have h00 := h7 0 (by omega)
        rw [add_zero_addr] at h00
        obtain ⟨ha, hb⟩ := addr_of_cell h00
        refine .inl ⟨a.block, a.off, by rw [← ha], ⟨hb, fun h => h⟩, fun i u hu => ?_⟩
        rw [List.getElem?_map, Option.map_eq_some_iff] at hu
        obtain ⟨z, hz, rfl⟩ := hu
        rw [List.getElem?_take] at hz
        split at hz
        ·rename_i hi
         have := h7 i (by omega)
         have ea : a.add i = ⟨a.block, a.off + i, none⟩ := by rw [ha]; exact Addr.add_mid _ _ _
         rw [ea] at this
         rw [this]
         simp [List.getD, hz]
        ·cases hz
     ·rw [h6]
      simp only [roM, roL, uptoBulk]
      have := bulkAll_len (lits (H := H) k (zs.take len))
      have e : (lits (H := H) k (zs.take len)).length = (zs.take len).length := by simp [lits]
      omega
     ·rw [h6] at hw
      have elen : ∀ l : List Int, (lits (H := H) k l).length = l.length := fun l => by simp [lits]
      have := hw (((lits (H := H) k (zs.take len)).length + (lits (H := H) k (zs.drop len)).length) * P.bytesOf e) (by simp [DataW.weights, hu])
      rw [elen, elen] at this
      have h9 : ((zs.take len).length + (zs.drop len).length) * 1 ≤ ((zs.take len).length + (zs.drop len).length) * P.bytesOf e := Nat.mul_le_mul_left _ hbs
      show (zs.take len).length ≤ N
      omega
   ·cases hs
  ·cases hs
 | .l sh, t, fuel, cs, x, hs, h => by
  simp only [shTyB] at hs
  split at hs
  ·rename_i e hu
   simp only [Bool.and_eq_true] at hs
   obtain ⟨hs1, hs2, hs3, hs4⟩ := hs
   have hbs : 0 < P.bytesOf e := by simp [Nat.blt] at hs4; omega
   have hc := Nat.eq_of_beq_eq_true hs2
   have hpos : 0 < shSize sh := by simp [Nat.blt] at hs3; omega
   rcases DataW.trod_slice hu h with ⟨rfl, rfl⟩ | ⟨a, len, cap, elems, rest, n, rfl, rfl, rfl, hb, hl, hm, hlen, hel, hsp, hns⟩
   ·refine ⟨.r [], .slice none 0 0, rfl, ?_, by simp [roM, roX, uptoBulk], fun _ => ⟨Nat.zero_le _, fun x hx => by cases hx⟩⟩
    simp only [RoD]
    exact ⟨none, 0, [], rfl, Nat.le_refl _, by simp [roX], rfl, .inr ⟨rfl, rfl⟩⟩
   ·obtain ⟨hrl, hrest⟩ := hsp rfl
    have hall : ∀ i, i < cap → ∃ ccs y, W.cells? 0 (a.add (i * P.cellsOf e)) (P.cellsOf e) = some ccs ∧ DataW.trod enc P W 0 (fun _ => true) true n e ccs = some y ∧ (i < len → elems[i]? = some y) := fun i hi => by
     by_cases hil : i < len
     ·have h1 := hel i hil
      have h2 : elems[i]? = some elems[i] := List.getElem?_eq_getElem (by omega)
      rw [h2, Option.bind_eq_some_iff] at h1
      obtain ⟨ccs, q1, q2⟩ := h1
      exact ⟨ccs, _, q1, q2, fun _ => h2⟩
     ·have h1 := hrest (i - len) (by omega)
      have h2 : rest[i - len]? = some rest[i - len] := List.getElem?_eq_getElem (by omega)
      rw [h2, Option.bind_eq_some_iff, show len + (i - len) = i by omega] at h1
      obtain ⟨ccs, q1, q2⟩ := h1
      exact ⟨ccs, _, q1, q2, fun h => absurd h hil⟩
    have hblk : 0 < cap → a = ⟨a.block, a.off, none⟩ ∧ a.block < W.heap.size := fun h0 => by
     obtain ⟨ccs, y, q1, q2, _⟩ := hall 0 h0
     obtain ⟨_, q3, q4⟩ := World.cells?_some q1
     have := q4 0 (by omega)
     rw [Nat.zero_mul, add_zero_addr, add_zero_addr] at this
     obtain ⟨v, hv⟩ : ∃ v, ccs[0]? = some v := ⟨ccs[0]'(by omega), List.getElem?_eq_getElem _⟩
     rw [hv] at this
     exact addr_of_cell this
    have hchain : ∀ m, m ≤ len → ∃ ros cs', ros.length = m ∧ ChainR (RoD W (OutB W fun _ => False) sh) ros cs' ∧ cs'.length = shSize sh * m ∧ (∀ i u, cs'[i]? = some u → W.cell? (a.add i) = some u) ∧ ros.length + (ros.map (roM sh)).sum ≤ uptoBulkAll ((elems.take m).map (·.1)) ∧ ((∀ y ∈ elems, ∀ n ∈ y.1.weights P e, n ≤ N) → ∀ ro ∈ ros, roMx N sh ro) := by
     intro m
     induction m with
     | zero => intro _; exact ⟨[], [], rfl, rfl, by simp, (fun i u h => by simp at h), by simp, fun _ x hx => by cases hx⟩
     | succ m ih =>
      intro hm'
      obtain ⟨ros, cs', r1, r2, r3, r4, r5, r6⟩ := ih (by omega)
      obtain ⟨ccs, y, q1, q2, q3⟩ := hall m (by omega)
      have q3 := q3 (by omega)
      obtain ⟨ro, v, rfl, s2, s3, s4⟩ := trod_ro N sh e n ccs y hs1 q2
      obtain ⟨_, q5, q6⟩ := World.cells?_some q1
      have hvl := RoD_cells sh ro v s2
      refine ⟨ros ++ [ro], cs' ++ v.cells.toList, by simp [r1], ChainR.snoc s2 ros cs' r2, by rw [List.length_append, r3, hvl, Nat.mul_add]; omega, fun i u hu => ?_, ?_, fun hy ro' hr => ?_⟩
      ·rcases Nat.lt_or_ge i cs'.length with hi | hi
       ·rw [List.getElem?_append_left hi] at hu; exact r4 i u hu
       ·rw [List.getElem?_append_right hi] at hu
        have hi2 : i - cs'.length < v.cells.toList.length := (List.getElem?_eq_some_iff.1 hu).1
        have := q6 (i - cs'.length) (by omega)
        rw [hu] at this
        have e1 : m * P.cellsOf e = cs'.length := by rw [hc, r3, Nat.mul_comm]
        rw [← this, add_add_addr, e1, Nat.add_sub_cancel' hi]
      ·rw [List.map_append, List.sum_append, List.length_append, List.take_add_one, q3, List.map_append, bulkAll_app]
       simp only [List.map_cons, List.map_nil, List.sum_cons, List.sum_nil, List.length_cons, List.length_nil, Option.toList_some, uptoBulkAll]
       omega
      ·rcases List.mem_append.1 hr with hr | hr
       ·exact r6 hy ro' hr
       ·simp only [List.mem_cons, List.not_mem_nil, or_false] at hr
        subst hr
        exact s4 fun k hk => hy y (List.mem_of_getElem? q3) k hk
    obtain ⟨ros, cs', r1, r2, r3, r4, r5, r6⟩ := hchain len (Nat.le_refl _)
    refine ⟨.r ros, .slice (some a) len cap, rfl, ?_, ?_, fun hw => ⟨?_, ?_⟩⟩
    ·simp only [RoD]
     have er : roX (.r ros) = ros := rfl
     rw [er]
     refine ⟨some a, cap, cs', by rw [r1], by omega, ?_, r2, ?_⟩
     ·rw [r1]; simp only [maxLen] at hm; omega
     ·rcases Nat.eq_zero_or_pos cap with h0 | h0
      ·exact .inr ⟨by omega, h0⟩
      ·obtain ⟨ha, hb⟩ := hblk h0
       refine .inl ⟨a.block, a.off, by rw [← ha], ⟨hb, fun h => h⟩, fun i u hu => ?_⟩
       have := r4 i u hu
       have ea : a.add i = ⟨a.block, a.off + i, none⟩ := by rw [ha]; exact Addr.add_mid _ _ _
       rwa [ea] at this
    ·simp only [roM, roX, uptoBulk]
     rw [List.take_of_length_le (by omega)] at r5
     have := bulkAll_len (elems.map (·.1))
     rw [List.length_map] at this
     omega
    ·have := hw (((elems.map (·.1)).length + (rest.map (·.1)).length) * P.bytesOf e) (by simp [DataW.weights, hu])
     rw [List.length_map, List.length_map] at this
     have h9 : (elems.length + rest.length) * 1 ≤ (elems.length + rest.length) * P.bytesOf e := Nat.mul_le_mul_left _ hbs
     show ros.length ≤ N
     omega
    ·refine r6 fun y hy k hk => hw k ?_
     simp only [DataW.weights, hu, List.mem_cons, List.mem_append]
     exact .inr (.inl (weightsAll_mem (List.mem_map.2 ⟨y, hy, rfl⟩) k hk))
  ·cases hs
 | .arr n k, t, fuel, cs, x, hs, h => by
  simp only [shTyB] at hs
  split at hs
  ·rename_i m e hu
   simp only [Bool.and_eq_true] at hs
   obtain ⟨h1, h2, h3, h4⟩ := hs
   have h1 := Nat.eq_of_beq_eq_true h1
   have h2 := Nat.eq_of_beq_eq_true h2
   have h3 := Nat.eq_of_beq_eq_true h3
   subst h1
   split at h4
   ·rename_i k' hue
    have hk := keq_eq h4
    subst hk
    obtain ⟨xs, q, rfl, rfl, hl, hxl, hel⟩ := DataW.trod_array hu h
    have hcell : ∀ i, i < cs.length → ∃ z, cs[i]? = some (.int k z) ∧ InR k z := fun i hi => by
     have := hel i (by omega)
     rw [h3, Nat.mul_one, List.drop_eq_getElem_cons hi, List.take_succ_cons, List.take_zero, List.getElem?_eq_getElem (by omega)] at this
     cases q with
     | zero => simp [DataW.trod] at this
     | succ q =>
      unfold DataW.trod at this
      rw [hue] at this
      rw [List.getElem?_eq_getElem hi]
      generalize cs[i] = c at *
      cases c <;> simp at this
      rename_i k2 z
      obtain ⟨⟨rfl, hz⟩, _⟩ := this
      refine ⟨z, rfl, ?_⟩
      simp only [Lit.wf, Bool.and_eq_true, decide_eq_true_eq] at hz
      cases k2 <;> simp [InR, IntKind.min, IntKind.max, IntKind.bits, IntKind.signed] at hz ⊢ <;> omega
    have hall : ∀ (cs : List Value), (∀ i, i < cs.length → ∃ z, cs[i]? = some (.int k z) ∧ InR k z) → ∃ l : List Int, cs = l.map (Value.int k) ∧ AllR k l := by
     intro cs
     induction cs with
     | nil => intro _; exact ⟨[], rfl, fun z hz => by cases hz⟩
     | cons c r ih =>
      intro hc
      obtain ⟨l, e1, e2⟩ := ih fun i hi => by
       have := hc (i + 1) (by simpa using hi)
       simpa using this
      obtain ⟨z, z1, z2⟩ := hc 0 (by simp)
      simp only [List.getElem?_cons_zero, Option.some.injEq] at z1
      refine ⟨z :: l, by rw [List.map_cons, ← e1, z1], fun y hy => ?_⟩
      rcases List.mem_cons.1 hy with rfl | hy
      ·exact z2
      ·exact e2 y hy
    obtain ⟨l, e1, e2⟩ := hall cs hcell
    refine ⟨.l l, .agg (l.map (Value.int k)).toArray, by rw [e1]; simp [Value.cells], ?_, by simp [roM, uptoBulk], fun _ => trivial⟩
    simp only [RoD]
    have er : roL (.l l) = l := rfl
    rw [er]
    refine ⟨?_, e2, rfl⟩
    have : cs.length = l.length := by rw [e1, List.length_map]
    omega
   ·cases h4
  ·cases hs
 | .r fs, t, fuel, cs, x, hs, h => by
  simp only [shTyB] at hs
  split at hs
  ·rename_i ff hu
   simp only [Bool.and_eq_true] at hs
   obtain ⟨xs, n, rfl, rfl, hl, hxl, hel⟩ := DataW.trod_struct hu h
   have hsz := Nat.eq_of_beq_eq_true hs.2
   obtain ⟨ros, r1, r2, r3, r4⟩ := trods_ro N fs ff.toList 0 n cs xs hs.1 (by simpa using hxl) (fun i f hf => hel i f (by simpa using hf)) (by omega)
   have r2 := r2 []
   have r3 := r3 []
   rw [List.drop_zero] at r2
   refine ⟨.r ros, .agg cs.toArray, by simp [Value.cells], ?_, ?_, fun hw => ?_⟩
   ·simp only [RoD]
    exact ⟨cs, r2, rfl⟩
   ·simp only [roM, uptoBulk]
    have : roMs fs (.r ros) 0 + fs.length ≤ uptoBulkAll (xs.map (·.1)) := r3
    omega
   ·simp only [roMx]
    refine r4 (fun k hk => hw k ?_) []
    simp only [DataW.weights, hu]
    exact hk
  ·cases hs
theorem trods_ro {H : Type} {enc : TypeId × Value → H} {W : World} (N : Nat) : ∀ (fs : List Sh) (ff : List Field) (o n : Nat) (cs : List Value) (xs : List (DataW H × List MemPlace)), shTysB P fs ff o = true → xs.length = ff.length →
  (∀ (i : Nat) (f : Field), ff[i]? = some f → DataW.trod enc P W 0 (fun _ => true) true n f.type ((cs.drop f.offset).take (P.cellsOf f.type)) = xs[i]?) → cs.length = o + shSizes fs →
  ∃ ros : List RO, ros.length = fs.length ∧ (∀ pre : List RO, RoCs W (OutB W fun _ => False) fs (.r (pre ++ ros)) pre.length (cs.drop o)) ∧ (∀ pre : List RO, roMs fs (.r (pre ++ ros)) pre.length + fs.length ≤ uptoBulkAll (xs.map (·.1))) ∧
   ((∀ k ∈ DataW.weightsEach P (ff.map (·.type)) (xs.map (·.1)), k ≤ N) → ∀ pre : List RO, roMxs N fs (.r (pre ++ ros)) pre.length)
 | [], ff, o, n, cs, xs, hs, hx, hel, hl => by
  refine ⟨[], rfl, fun pre => ?_, fun pre => by simp [roMs], fun _ pre => by simp only [roMxs]⟩
  simp only [RoCs]
  exact List.drop_eq_nil_of_le (by simp only [shSizes] at hl; omega)
 | s :: r, ff, o, n, cs, xs, hs, hx, hel, hl => by
  simp only [shTysB] at hs
  split at hs
  ·rename_i f ff
   simp only [Bool.and_eq_true] at hs
   obtain ⟨h1, h2, h3, h4⟩ := hs
   have h1 := Nat.eq_of_beq_eq_true h1
   have h3 := Nat.eq_of_beq_eq_true h3
   rcases xs with _ | ⟨x, xt⟩
   ·simp at hx
   simp only [shSizes] at hl
   have e0 := hel 0 f rfl
   rw [h1, h3] at e0
   obtain ⟨ro, v, q1, q2, q3, q4⟩ := trod_ro N s f.type n _ x h2 e0
   obtain ⟨ros, r1, r2, r3, r4⟩ := trods_ro N r ff (o + shSize s) n cs xt h4 (by simpa using hx) (fun i f' hf => by have := hel (i + 1) f' (by simpa using hf); simpa using this) (by omega)
   have hro : ∀ pre : List RO, roN (.r (pre ++ ro :: ros)) pre.length = ro := fun pre => by simp [roN, roX, List.getD_eq_getElem?_getD]
   have hpre : ∀ pre : List RO, (pre ++ [ro]) ++ ros = pre ++ ro :: ros := fun pre => by simp
   refine ⟨ro :: ros, by simp [r1], fun pre => ?_, fun pre => ?_, fun hw pre => ?_⟩
   ·simp only [RoCs]
    refine ⟨v, cs.drop (o + shSize s), by rw [hro]; exact q2, ?_, ?_⟩
    ·rw [← q1, ← List.drop_drop, List.take_append_drop]
    ·have := r2 (pre ++ [ro])
     rw [hpre, List.length_append] at this
     exact this
   ·have := r3 (pre ++ [ro])
    rw [hpre, List.length_append] at this
    have h5 : roMs r (.r (pre ++ ro :: ros)) (pre.length + 1) + r.length ≤ uptoBulkAll (xt.map (·.1)) := this
    simp only [roMs, hro, List.map_cons, uptoBulkAll, List.length_cons]
    omega
   ·simp only [List.map_cons, DataW.weightsEach, List.mem_append] at hw
    have := r4 (fun k hk => hw k (.inr hk)) (pre ++ [ro])
    rw [hpre, List.length_append] at this
    simp only [roMxs, hro]
    exact ⟨q4 fun k hk => hw k (.inl hk), this⟩
  ·cases hs
end

def slSh : Sh → Bool
 | .ints _ => true
 | .l _ => true
 | _ => false

theorem arg_ro {H : Type} {enc : TypeId × Value → H} {W : World} (N : Nat) (sh : Sh) {t : TypeId} {v : Value} {d : DataW H} {ps : List MemPlace} (hs : shTyB P sh t = true) (hsl : slSh sh = true) (hv : v.cells.toList = [v]) (h : DataW.Trod enc P W 0 (fun _ => true) true t v d ps) :
  ∃ ro, RoD W (OutB W fun _ => False) sh ro v ∧ (∃ ad n cap, v = .slice ad n cap) ∧ roM sh ro + 1 ≤ uptoBulk d ∧ ((∀ n ∈ d.weights P t, n ≤ N) → roMx N sh ro) := by
 obtain ⟨fuel, h⟩ := h
 obtain ⟨ro, u, e, q1, q2, q3⟩ := trod_ro N sh t fuel _ _ hs h
 have hu : ∃ ad n cap, u = .slice ad n cap := by
  cases sh <;> simp only [slSh, Bool.false_eq_true] at hsl <;> simp only [RoD] at q1
  ·obtain ⟨a, cap, rfl, _⟩ := q1; exact ⟨_, _, _, rfl⟩
  ·obtain ⟨a, cap, cs, rfl, _⟩ := q1; exact ⟨_, _, _, rfl⟩
 have huv : v = u := by
  obtain ⟨ad, n, cap, rfl⟩ := hu
  rw [hv] at e
  simpa [Value.cells] using e
 subst huv
 exact ⟨ro, q1, hu, q2, q3⟩

theorem law_gen {Γ : Tab} (hΓ : TabOk P Γ) (hgl : Γ.gl = keysOf Γ.gh) (hlow : ∀ g ∈ keysOf Γ.gh, g < 490) {f : FuncId} {fn : Func} (hf : P.funcs[f]? = some fn) {av : List AV} {args' : List SV} {L : Loops} {K : List RV → List (Option (List Seg)) → Prop} {inv : Nat → List Pv → Nat → Prop}
  (k1 : okA 600 av args' []) (k2 : args'.length ≤ fn.ntmps) (k3 : VcG 0 Γ fn L (Γ.gh ++ (490, .world) :: []) args' K inv) (hK : ∀ rvs fin, K rvs fin → ∃ e, rvs = [.v (.b e true)])
  {W : World} {vs : List Value} (hG : Glob Γ.gh W fun _ => False) (hA : AsD W (OutB W fun _ => False) (fun _ => none) (fun _ => { blk := 0, off := 0, cap := 0 }) av vs []) :
  Calls P f vs.toArray W fun e w' => e = .returned (.bool true) ∧ Below W.heap.size W w' := by
 have hm := mem_start W fun _ => { blk := 0, off := 0, cap := 0 }
 obtain ⟨hh1, hh2⟩ := okA_heap av vs [] 600 args' [] hA k1
 obtain ⟨ρ1, m1, m2, m3, m4, m5⟩ := gen_mem hG hgl hlow hm (ks := []) (fun k hk => by cases hk) List.nodup_nil (M' := fun _ => False) (fun b => ⟨fun h => h.elim, fun ⟨k, hk, _⟩ => by cases hk⟩) hh1 hh2
 have hargs := okA_args m3 m4 av vs [] 600 args' [] hA k1 (fun i hi => by simp at hi)
 refine (vcG_calls hΓ hf k3 k2 m2 m1 hargs).mono fun e w' he => ?_
 obtain ⟨x, v, h', ρ', rfl, r1, r2, r3, r4⟩ := he
 obtain ⟨rvs', fin', t1, t3, t4, t5⟩ := kvG_sound r3 r2 r1
 obtain ⟨e, rfl⟩ := hK _ _ t1
 rcases t3 with ⟨r, hr, hd⟩ | ⟨hn, _⟩
 ·simp only [List.cons.injEq, and_true] at hr
  subst hr
  simp only [RvD, D] at hd
  exact ⟨by rw [hd], r3.frame.below fun _ h => h⟩
 ·exact absurd rfl hn

end
end Go.Gx

/- HashWrites: every call on any number of states and clones, in any order: their sums and sizes are those of the document's. For all scripts whose bytes are not more than the cards' bound; the tables lie as the program's text lays them. -/
namespace Go.Gx
open Go.Proofs Go.Sp Go.RowKit
set_option linter.unusedVariables false
set_option maxRecDepth 100000
namespace HashWrites
def vc5 (d : RO) (K : List RV → List (Option (List Seg)) → Prop) (Q : Nat → List Pv → Prop) : Prop := fnVcG 0 Δ9 Tryd.f5 [] [.ro 490 shO d] (gh4 ++ (490, .world) :: []) K Q
theorem vc5_eq : ∀ (d : RO) (K : List RV → List (Option (List Seg)) → Prop) (Q : Nat → List Pv → Prop), vc5 d K Q = (Need ((1 : Int) = (1 : Int)) ∧ Need ((3 : Int) = (3 : Int)) ∧ Need ((roX d).length ≤ (1048576 : Nat) ∧ ∀ (j : Nat), j < (roX d).length → (roL (roN (roN d j) 2)).length ≤ (1048576 : Nat)) ∧ ∀ (x1 : Bool), x1 = true → K [RV.v (SV.b false x1)] []) := by
 intros
 kernel_rfl
theorem mem_sum : ∀ {l : List Nat} {x : Nat}, x ∈ l → x ≤ l.sum
 | y :: r, x, h => by
  rw [List.sum_cons]
  rcases List.mem_cons.1 h with rfl | h
  ·omega
  ·have := mem_sum h; omega
theorem sz_of {d : RO} (h : roM (.l (.r [.i .i64, .i .i64, .ints .u8])) d ≤ 1048576) : walkOk d := by
 have h : (roX d).length + ((roX d).map (roM (.r [.i .i64, .i .i64, .ints .u8]))).sum ≤ 1048576 := h
 refine ⟨by omega, fun j hj => ?_⟩
 have hm : roM (.r [.i .i64, .i .i64, .ints .u8]) (roN d j) ∈ (roX d).map (roM (.r [.i .i64, .i .i64, .ints .u8])) :=
  List.mem_map.2 ⟨roN d j, by rw [show roN d j = (roX d)[j] by simp [roN, List.getD_eq_getElem?_getD, hj]]; exact List.getElem_mem hj, rfl⟩
 have hle := mem_sum hm
 have e : roM (.r [.i .i64, .i .i64, .ints .u8]) (roN d j) = 0 + (0 + ((roL (roN (roN d j) 2)).length + 0)) := rfl
 omega
theorem law (W : World) (hG : Glob gh4 W fun _ => False)
  (d : RO) (v : Value) (hv : RoD W (OutB W fun _ => False) (.l (.r [.i .i64, .i .i64, .ints .u8])) d v) (hs : ∃ ad n cap, v = .slice ad n cap) (hx1 : roMx reachBytes (.l (.r [.i .i64, .i .i64, .ints .u8])) d)
  (hM : roM (.l (.r [.i .i64, .i .i64, .ints .u8])) d ≤ 1048576) :
  Calls Tryd.prog 5 #[v] W fun e w' => e = .returned (.bool true) ∧ Below W.heap.size W w' := by
 have hd := sz_of (d := d) (by omega)
 refine law_gen Δ9_ok rfl glow4 rfl (fn := Tryd.f5) (L := []) (av := [.d (.l (.r [.i .i64, .i .i64, .ints .u8])) d]) (args' := [.ro 490 shO d]) (K := fun rvs fin => ∃ e, rvs = [.v (.b e true)]) ⟨rfl, trivial⟩ (Nat.le_of_ble_eq_true (by kernel_rfl)) (vcG_noloops ?_) (fun _ _ h => h) hG
  ⟨v, _, rfl, hv, rfl, rfl⟩
 show vc5 d _ _
 rw [vc5_eq]
 refine ⟨need_of rfl, need_of rfl, need_of hd, ?_⟩
 intro x1 e1
 exact ⟨false, by rw [e1]⟩
end HashWrites

namespace HashWrites
open Go.Proofs.YtihihilhfijloaaDoor
open Go.ChangeShapes Go.WideShapes Go.ChangeAt Go.RowKit
theorem reads (t : Nat) (h : t ∈ Tryd.f5.params.toList) : Tryd.prog.readableRec t = true ∧ t < Tryd.prog.types.size := by
 have hp : Tryd.f5.params.toList = [35] := by kernel_rfl
 rw [hp] at h
 simp only [List.mem_cons, List.not_mem_nil, or_false] at h
 subst h
 exact ⟨by kernel_rfl, Nat.le_of_ble_eq_true (by kernel_rfl)⟩

set_option maxRecDepth 100000 in
/-- What the call gives, for every argument and every world that holds the tables. -/
theorem contract (H : Type) (enc : TypeId × Value → H) (W : World) (base : Nat) (args : Array Value) (ds gs : List (DataW H)) (before : List MemPlace)
  (hval : ∀ (j : Nat) t v, Tryd.f5.params[j]? = some t → args[j]? = some v → Value.okWide Tryd.prog W .any base t v)
  (hW : DataW.Whole enc Tryd.prog Tryd.f5.params.toList Rows.hashWritesSpec.vars false W args.toList ds gs before)
  (hw : (DataW.weightsEach Tryd.prog (Tryd.f5.params.toList ++ (Rows.OpenSpec.upto Rows.hashWritesSpec).bare.plain.varTypes Tryd.prog) (ds ++ gs)).all (· ≤ reachBytes) = true) (hL : laidMetH Tryd.prog Rows.hashWritesUptoRow.laid W) (hC : Rows.uptoSmall H (ds ++ gs) = true) :
  Calls Tryd.prog 5 args W fun e W' => ∃ v, e = .returned v ∧ Rows.hashWritesSpec.post enc Tryd.prog Tryd.f5 false true false false W args v W' := by
 have hA : DataW.TrodAll enc Tryd.prog W 0 (fun _ => true) true [35] args.toList ds _ := hW.choose_spec.choose_spec.1
 obtain ⟨v0, vs0, d0, ds0, p0, q0, hargs, hds, _, h0, r0⟩ := trodAll_cons hA
 obtain ⟨rfl, hdsn, _⟩ := trodAll_nil r0
 obtain rfl : args = #[v0] := by cases args; simp_all
 have hds : ds = [d0] := by rw [hds, hdsn]
 have hp : Tryd.f5.params = #[35] := by kernel_rfl
 rw [hp] at hval
 have hp2 : Tryd.f5.params.toList = [35] := by kernel_rfl
 rw [hds, hp2] at hw
 have hC : Rows.uptoBulkAll (ds ++ gs) ≤ 1048576 := of_decide_eq_true hC
 rw [hds, bulkAll_app] at hC
 simp only [Rows.uptoBulkAll] at hC
 have hc0 : v0.cells.toList = [v0] := by
  obtain ⟨a, len, cap, e⟩ := okWide_slice (e := 68) (by kernel_rfl) (hval 0 35 v0 rfl rfl)
  rw [e]; rfl
 obtain ⟨o0, e0, s0, b0, x0⟩ := arg_ro reachBytes (.l (.r [.i .i64, .i .i64, .ints .u8])) (by kernel_rfl) rfl hc0 h0
 have x0 := x0 fun n hn => by simpa using List.all_eq_true.1 hw n (DataW.weights_mem_each (j := 0) rfl rfl n hn)
 refine (law W (tab_glob4 hL) o0 v0 e0 s0 x0 (by omega)).mono fun e W' ⟨he, hB⟩ => ?_
 subst he
 refine ⟨_, rfl, post_true (tb := 4) laidOut rfl (by kernel_rfl) (by kernel_rfl) reads ?_ hW hB⟩
 intro ds hds
 have hds : ds.length = 1 := hds
 match ds, hds with
 | [a0], _ => exact ⟨rfl, rfl, rfl⟩

def wargs : Array Value := #[.slice none 0 0]
theorem laid_met (os : Os) : laidMet Tryd.prog Rows.hashWritesUptoRow.laid ((laidWorld4 os).forCall (fun _ _ => 0) ⟨#[], wargs, []⟩).memory :=
 laidMet_of_run' 8 (by kernel_rfl) (by kernel_rfl)
theorem reads0 (os : Os) {H : Type} (enc : TypeId × Value → H) : ∃ places, DataW.whole enc Tryd.prog ((laidWorld4 os).forCall (fun _ _ => 0) ⟨#[], wargs, []⟩).memory Tryd.f5.params.toList Rows.hashWritesSpec.vars false wargs.toList 8 = some ([.nil], [], places) :=
 ⟨[], by kernel_rfl⟩

set_option maxRecDepth 100000 in
theorem lifted (os : Os) (started : os.Started) (H : Type) (enc : TypeId × Value → H) (F : Stop.Interp) :
  ReturnsInHanded {} Tryd.checked os 5 .any ((Rows.OpenSpec.upto Rows.hashWritesSpec).preRow enc Tryd.prog Tryd.f5 Rows.hashWritesUptoRow.domain false Rows.hashWritesUptoRow.laid) (((Rows.OpenSpec.upto Rows.hashWritesSpec).at F).post enc Tryd.prog Tryd.f5 false true false false) := by
 obtain ⟨places, hx⟩ := reads0 os enc
 refine returnsInHanded_of_row (C := Tryd.checked) (s := (Rows.OpenSpec.upto Rows.hashWritesSpec)) own started (by kernel_rfl) Tryd.func5
  (witness_row_at (enc := enc) (C := Tryd.checked) false (laidWorld4 os) wargs rfl (by kernel_rfl) (by kernel_rfl) (by kernel_rfl)
   (OpenSpec.preRow_of_cond 8 hx (by kernel_rfl) (fun k hk => by cases hk; kernel_rfl) (by kernel_rfl) (laid_met os))) ?_
 intro W base args ds gs before hval hW _ hcond hw hL _ _
 exact contract H enc W base args ds gs before hval hW hw hL (hcond _ rfl)

theorem said : Rows.HashWritesUptoSaid :=
 OpenClaim.holds_of_cond 5 Tryd.f5 rfl rfl rfl rfl rfl rfl rfl ⟨rfl, rfl, rfl, rfl, rfl⟩ rfl rfl rfl rfl rfl (by kernel_rfl) Tryd.func5 (by kernel_rfl)
  (of_decide_eq_true (by kernel_rfl)) (by unfold Func.isWrapper; first | (rw [if_pos (by decide +kernel)]; kernel_rfl) | (rw [if_neg (by decide +kernel)]; exact ⟨rfl, rfl⟩))
  (fun os started H enc _ F => by rw [OpenClaim.pre_eq_preRow]; exact lifted os started H enc F)

theorem plain (f : FuncId) (fn : Func) (hf : Tryd.pinned.checked.prog.funcNamed "veil/veillaw03.HashWrites" = some f) (hfn : Tryd.pinned.checked.prog.funcs[f]? = some fn) :
  false = Tryd.pinned.checked.prog.looks [] ∧ ∀ (j : Nat) t, fn.params[j]? = some t → Tryd.pinned.checked.prog.wantsStandIn t = false := by
 obtain rfl : f = 5 := Option.some.inj ((show Tryd.prog.funcNamed "veil/veillaw03.HashWrites" = some 5 by kernel_rfl).symm.trans hf) |>.symm
 obtain rfl : fn = Tryd.f5 := (Option.some.inj (Tryd.func5.symm.trans hfn)).symm
 refine ⟨by kernel_rfl, fun j t ht => ?_⟩
 have hp : Tryd.f5.params = #[35] := by kernel_rfl
 rw [hp] at ht
 have := Array.mem_of_getElem? ht
 simp only [List.mem_toArray, List.mem_cons, List.not_mem_nil, or_false] at this
 subst this
 exact (show Tryd.prog.wantsStandIn _ = false by kernel_rfl)

theorem card : Rows.HashWritesUptoCardSaid :=
 Claim7.holds_tied_plain_at .later [] _ _ _ _ said (fun _ h => by cases h) (by kernel_rfl) (fun _ h => by cases h) hashWritesUpto_row_tie rfl ⟨rfl, rfl⟩ (by kernel_rfl) rfl plain (by kernel_rfl)
end HashWrites
end Go.Gx

namespace Go.Proofs.YtihihilhfijloaaDoor
theorem hashWritesProved : Rows.HashWritesUptoCardSaid := Go.Gx.HashWrites.card
end Go.Proofs.YtihihilhfijloaaDoor
#print axioms Go.Proofs.YtihihilhfijloaaDoor.hashWritesProved
