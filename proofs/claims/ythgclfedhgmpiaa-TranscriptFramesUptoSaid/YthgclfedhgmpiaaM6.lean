/- TranscriptFrames: every Frame, byte by byte; what is handed in stays, the room behind it too; what is handed out is the caller's own. For all labels and parts that are not more than the second form's bound. -/
import Derived.Test.YthgclfedhgmpiaaM5
import Derived.Stop.LaidErr

/- TranscriptFrames: every Frame, byte by byte; what is handed in stays, the room behind it too; what is handed out is the caller's own. For all labels and parts that are not more than the second form's bound. -/
namespace Go.Gx
open Go.Proofs Go.Sp Go.RowKit
set_option linter.unusedVariables false
set_option maxRecDepth 100000
namespace TranscriptFrames
def sl0 (k : Nat) : SV := .sl k 0 1 ⟨true, .ofNat 0⟩ ⟨false, 0⟩
def row0 (k : Nat) : Nat × SB := (k, .segs false [.rowI .u8 []])
def T3 (rest : List SV) : List SV := [.any, .any, .any, .any, .any, .any, .s ByteArray.empty, sl0 1001, sl0 1002, sl0 1003, .any, sl0 1004, .any, .s ByteArray.empty] ++ rest
def i0 : SV := .i .i64 ⟨false, 0⟩
def L3 : Loops := [(15, ⟨T3 (i0 :: reps .any 127), [(490, .world), row0 1001, row0 1002, row0 1003, row0 1004], 3000⟩),
  (20, ⟨T3 (.any :: sl0 1001 :: i0 :: reps .any 125), [(490, .world), row0 1001, row0 1002, row0 1003, row0 1004], 3000⟩),
  (1020, ⟨T3 (.any :: sl0 1005 :: i0 :: reps .any 125), [(490, .world), (1001, .gone), row0 1002, row0 1003, row0 1004, row0 1005], 3000⟩),
  (24, ⟨T3 (.any :: sl0 1005 :: .any :: i0 :: reps .any 124), [(490, .world), (1001, .gone), row0 1002, row0 1003, row0 1004, row0 1005], 3000⟩),
  (28, ⟨T3 (.any :: sl0 1005 :: .any :: .any :: i0 :: reps .any 123), [(490, .world), (1001, .gone), row0 1002, row0 1003, row0 1004, row0 1005], 3000⟩)]
def vc3 (s : ByteArray) (d : RO) (K : List RV → List (Option (List Seg)) → Prop) (Q : Nat → List Pv → Prop) : Prop := fnVcG 0 Γ5 Try.f3 L3 [.s s, .ro 490 (.l (.ints .u8)) d] (gh ++ (490, .world) :: []) K Q
def lc3a (s6 s13 : ByteArray) (za zo zb zd i : Int) (a o b e : List Int) (K : List RV → List (Option (List Seg)) → Prop) (Q : Nat → List Pv → Prop) : Prop := loopVcG 0 Γ5 Try.f3 L3 15 [.s s6, .z za, .z zo, .z zb, .z zd, .s s13, .z i, .l a, .l o, .l b, .l e] K Q
def lc3b (s6 s13 : ByteArray) (za zo zb zd zg i : Int) (a o b e : List Int) (K : List RV → List (Option (List Seg)) → Prop) (Q : Nat → List Pv → Prop) : Prop := loopVcG 0 Γ5 Try.f3 L3 20 [.s s6, .z za, .z zo, .z zb, .z zd, .s s13, .z zg, .z i, .l a, .l o, .l b, .l e] K Q
def lc3c (s6 s13 : ByteArray) (za zo zb zd zg i : Int) (o b e g : List Int) (K : List RV → List (Option (List Seg)) → Prop) (Q : Nat → List Pv → Prop) : Prop := loopVcG 0 Γ5 Try.f3 L3 1020 [.s s6, .z za, .z zo, .z zb, .z zd, .s s13, .z zg, .z i, .l o, .l b, .l e, .l g] K Q
def lc3d (s6 s13 : ByteArray) (za zo zb zd zg i : Int) (o b e g : List Int) (K : List RV → List (Option (List Seg)) → Prop) (Q : Nat → List Pv → Prop) : Prop := loopVcG 0 Γ5 Try.f3 L3 24 [.s s6, .z za, .z zo, .z zb, .z zd, .s s13, .z zg, .z i, .l o, .l b, .l e, .l g] K Q
def lc3e (s6 s13 : ByteArray) (za zo zb zd zg i : Int) (o b e g : List Int) (K : List RV → List (Option (List Seg)) → Prop) (Q : Nat → List Pv → Prop) : Prop := loopVcG 0 Γ5 Try.f3 L3 28 [.s s6, .z za, .z zo, .z zb, .z zd, .s s13, .z zg, .z i, .l o, .l b, .l e, .l g] K Q
theorem vc3_eq : ∀ (s : ByteArray) (d : RO) (K : List RV → List (Option (List Seg)) → Prop) (Q : Nat → List Pv → Prop), vc3 s d K Q = (Need (∀ (i : Nat), i < (roX d).length → (((roL (roN d i)).length : Nat) : Int) + (8 : Int) ≤ (70368744177664 : Int)) ∧ Need (((((roX d).length + (1 : Nat)) : Nat) : Int) * (24 : Int) ≤ (70368744177664 : Int)) ∧ ∀ (x1 : List (List Int)), x1 = rowsT d (roX d).length ++ [marksL] → ∀ (x2 : Int), x2 = (((List.length (fullT d (roX d).length)) : Nat) : Int) → (0 : Int) ≤ x2 → InR IntKind.i64 x2 → ∀ (x3 : Int), x3 = (((List.length (headT d (roX d).length ++ [((roX d).length, (8 : Nat))])) : Nat) : Int) → (0 : Int) ≤ x3 → InR IntKind.i64 x3 → Need ((((frL (bytesI s) (List.map roL (roX d))).length : Nat) : Int) ≤ (70368744177664 : Int)) ∧ ∀ (x4 : List Int), x4 = frL (bytesI s) (List.map roL (roX d)) → AllR IntKind.u8 x4 → ∀ (x5 : Int), x5 = (((frL (bytesI s) (List.map roL (roX d))).length : Nat) : Int) → (0 : Int) ≤ x5 → InR IntKind.i64 x5 → Need ((0 : Int) + x5 ≤ ((x4.length : Nat) : Int)) ∧ Need (x2 ≤ x3) ∧ Need ((0 : Int) + x2 ≤ (((List.length (headT d (roX d).length ++ [((roX d).length, (8 : Nat))])) : Nat) : Int)) ∧ Need (∀ (h : Nat × Nat), h ∈ List.take x2.toNat (List.drop (0 : Nat) (headT d (roX d).length ++ [((roX d).length, (8 : Nat))])) → h.snd ≤ (x1.getD h.fst []).length) ∧ Need ((((frL (bytesI s) (List.map roL (roX (RO.r (List.map (fun h => RO.l (List.take h.snd (x1.getD h.fst []))) (List.take x2.toNat (List.drop (0 : Nat) (headT d (roX d).length ++ [((roX d).length, (8 : Nat))])))))))).length : Nat) : Int) ≤ (70368744177664 : Int)) ∧ ∀ (x6 : List Int), x6 = frL (bytesI s) (List.map roL (roX (RO.r (List.map (fun h => RO.l (List.take h.snd (x1.getD h.fst []))) (List.take x2.toNat (List.drop (0 : Nat) (headT d (roX d).length ++ [((roX d).length, (8 : Nat))]))))))) → AllR IntKind.u8 x6 → ∀ (x7 : Int), x7 = (((frL (bytesI s) (List.map roL (roX (RO.r (List.map (fun h => RO.l (List.take h.snd (x1.getD h.fst []))) (List.take x2.toNat (List.drop (0 : Nat) (headT d (roX d).length ++ [((roX d).length, (8 : Nat))])))))))).length : Nat) : Int) → (0 : Int) ≤ x7 → InR IntKind.i64 x7 → Need ((4 : Int) ≤ (4 : Int)) ∧ Need ((35 : Int) ≤ (70368744177664 : Int)) ∧ ∀ (x8 : List Int), x8 = frL (bytesI (ByteArray.mk #[(97 : UInt8), (110 : UInt8), (111 : UInt8), (116 : UInt8), (104 : UInt8), (101 : UInt8), (114 : UInt8)])) (List.map roL (roX (RO.r [RO.l (List.take (4 : Nat) (List.drop (0 : Nat) [(112 : Int), (97 : Int), (114 : Int), (116 : Int)]))]))) → AllR IntKind.u8 x8 → ∀ (x9 : Int), x9 = (35 : Int) → (0 : Int) ≤ x9 → InR IntKind.i64 x9 → Need (x2 ≤ x3) ∧ Need ((0 : Int) + x2 ≤ (((List.length (headT d (roX d).length ++ [((roX d).length, (8 : Nat))])) : Nat) : Int)) ∧ Need (∀ (h : Nat × Nat), h ∈ List.take x2.toNat (List.drop (0 : Nat) (headT d (roX d).length ++ [((roX d).length, (8 : Nat))])) → h.snd ≤ (x1.getD h.fst []).length) ∧ Need ((((frL (bytesI s) (List.map roL (roX (RO.r (List.map (fun h => RO.l (List.take h.snd (x1.getD h.fst []))) (List.take x2.toNat (List.drop (0 : Nat) (headT d (roX d).length ++ [((roX d).length, (8 : Nat))])))))))).length : Nat) : Int) ≤ (70368744177664 : Int)) ∧ ∀ (x10 : List Int), x10 = frL (bytesI s) (List.map roL (roX (RO.r (List.map (fun h => RO.l (List.take h.snd (x1.getD h.fst []))) (List.take x2.toNat (List.drop (0 : Nat) (headT d (roX d).length ++ [((roX d).length, (8 : Nat))]))))))) → AllR IntKind.u8 x10 → ∀ (x11 : Int), x11 = (((frL (bytesI s) (List.map roL (roX (RO.r (List.map (fun h => RO.l (List.take h.snd (x1.getD h.fst []))) (List.take x2.toNat (List.drop (0 : Nat) (headT d (roX d).length ++ [((roX d).length, (8 : Nat))])))))))).length : Nat) : Int) → (0 : Int) ≤ x11 → InR IntKind.i64 x11 → Need ((0 : Int) + x2 ≤ (((List.length (fullT d (roX d).length)) : Nat) : Int)) ∧ Need (∀ (h : Nat × Nat), h ∈ List.take x2.toNat (List.drop (0 : Nat) (fullT d (roX d).length)) → h.snd ≤ (x1.getD h.fst []).length) ∧ Need ((0 : Int) + x3 ≤ (((List.length (headT d (roX d).length ++ [((roX d).length, (8 : Nat))])) : Nat) : Int)) ∧ Need (∀ (h : Nat × Nat), h ∈ List.take x3.toNat (List.drop (0 : Nat) (headT d (roX d).length ++ [((roX d).length, (8 : Nat))])) → h.snd ≤ (x1.getD h.fst []).length) ∧ Need ((roX (roN (RO.r [RO.r (List.map (fun h => RO.l (List.take h.snd (x1.getD h.fst []))) (List.take x2.toNat (List.drop (0 : Nat) (fullT d (roX d).length)))), RO.r (List.map (fun h => RO.l (List.take h.snd (x1.getD h.fst []))) (List.take x3.toNat (List.drop (0 : Nat) (headT d (roX d).length ++ [((roX d).length, (8 : Nat))]))))]) (1 : Nat))).length = (roX d).length + (1 : Nat) ∧ (roX (roN (RO.r [RO.r (List.map (fun h => RO.l (List.take h.snd (x1.getD h.fst []))) (List.take x2.toNat (List.drop (0 : Nat) (fullT d (roX d).length)))), RO.r (List.map (fun h => RO.l (List.take h.snd (x1.getD h.fst []))) (List.take x3.toNat (List.drop (0 : Nat) (headT d (roX d).length ++ [((roX d).length, (8 : Nat))]))))]) (0 : Nat))).length = (roX d).length ∧ roL (roN (roN (RO.r [RO.r (List.map (fun h => RO.l (List.take h.snd (x1.getD h.fst []))) (List.take x2.toNat (List.drop (0 : Nat) (fullT d (roX d).length)))), RO.r (List.map (fun h => RO.l (List.take h.snd (x1.getD h.fst []))) (List.take x3.toNat (List.drop (0 : Nat) (headT d (roX d).length ++ [((roX d).length, (8 : Nat))]))))]) (1 : Nat)) (roX d).length) = marksL) ∧ Need (∀ (i : Nat), i < (roX d).length → roL (roN (roN (RO.r [RO.r (List.map (fun h => RO.l (List.take h.snd (x1.getD h.fst []))) (List.take x2.toNat (List.drop (0 : Nat) (fullT d (roX d).length)))), RO.r (List.map (fun h => RO.l (List.take h.snd (x1.getD h.fst []))) (List.take x3.toNat (List.drop (0 : Nat) (headT d (roX d).length ++ [((roX d).length, (8 : Nat))]))))]) (0 : Nat)) i) = roL (roN d i) ++ marksL ∧ roL (roN (roN (RO.r [RO.r (List.map (fun h => RO.l (List.take h.snd (x1.getD h.fst []))) (List.take x2.toNat (List.drop (0 : Nat) (fullT d (roX d).length)))), RO.r (List.map (fun h => RO.l (List.take h.snd (x1.getD h.fst []))) (List.take x3.toNat (List.drop (0 : Nat) (headT d (roX d).length ++ [((roX d).length, (8 : Nat))]))))]) (1 : Nat)) i) = roL (roN d i) ∧ (((roL (roN d i)).length : Nat) : Int) + (8 : Int) < (9223372036854775808 : Int)) ∧ ∀ (x12 : Bool), x12 = true → ((!x12) = true → K [RV.v (SV.b true false)] []) ∧ ((!x12) = false → Need (x2 = (((List.length (fullT d (roX d).length)) : Nat) : Int)) ∧ Need (x3 = (((List.length (headT d (roX d).length ++ [((roX d).length, (8 : Nat))])) : Nat) : Int)) ∧ Need (List.length (fullT d (roX d).length) ≤ List.length (headT d (roX d).length ++ [((roX d).length, (8 : Nat))]) ∧ List.length (fullT d (roX d).length) ≤ x1.length ∧ (((List.length (headT d (roX d).length ++ [((roX d).length, (8 : Nat))])) : Nat) : Int) < (9223372036854775807 : Int) ∧ (((List.length (fullT d (roX d).length)) : Nat) : Int) * (24 : Int) ≤ (70368744177664 : Int)) ∧ Need (∀ (i : Nat), i < List.length (fullT d (roX d).length) → (List.getD (fullT d (roX d).length) i ((0 : Nat), (0 : Nat))).fst = i ∧ (List.getD (headT d (roX d).length ++ [((roX d).length, (8 : Nat))]) i ((0 : Nat), (0 : Nat))).fst = i ∧ (List.getD (headT d (roX d).length ++ [((roX d).length, (8 : Nat))]) i ((0 : Nat), (0 : Nat))).snd ≤ (List.getD (fullT d (roX d).length) i ((0 : Nat), (0 : Nat))).snd ∧ (List.getD (headT d (roX d).length ++ [((roX d).length, (8 : Nat))]) i ((0 : Nat), (0 : Nat))).snd ≤ (x1.getD i []).length ∧ (List.getD (headT d (roX d).length ++ [((roX d).length, (8 : Nat))]) i ((0 : Nat), (0 : Nat))).snd ≤ (70368744177664 : Nat)) ∧ ∀ (x13 : List (List Int)), x13 = msT (headT d (roX d).length ++ [((roX d).length, (8 : Nat))]) x1 (List.length (fullT d (roX d).length)) (0 : Nat) → ∀ (x14 : List (List Int)), x14 = rows2 (headT d (roX d).length ++ [((roX d).length, (8 : Nat))]) x1 (List.length (fullT d (roX d).length)) → ∀ (x15 : Int), x15 = (((List.length (hs2 (headT d (roX d).length ++ [((roX d).length, (8 : Nat))]) (List.length (fullT d (roX d).length)))) : Nat) : Int) → (0 : Int) ≤ x15 → InR IntKind.i64 x15 → Need (x2 ≤ x3) ∧ Need ((0 : Int) + x2 ≤ (((List.length (headT d (roX d).length ++ [((roX d).length, (8 : Nat))])) : Nat) : Int)) ∧ Need (∀ (h : Nat × Nat), h ∈ List.take x2.toNat (List.drop (0 : Nat) (headT d (roX d).length ++ [((roX d).length, (8 : Nat))])) → h.snd ≤ (x13.getD h.fst []).length) ∧ Need ((((frL (bytesI s) (List.map roL (roX (RO.r (List.map (fun h => RO.l (List.take h.snd (x13.getD h.fst []))) (List.take x2.toNat (List.drop (0 : Nat) (headT d (roX d).length ++ [((roX d).length, (8 : Nat))])))))))).length : Nat) : Int) ≤ (70368744177664 : Int)) ∧ ∀ (x16 : List Int), x16 = frL (bytesI s) (List.map roL (roX (RO.r (List.map (fun h => RO.l (List.take h.snd (x13.getD h.fst []))) (List.take x2.toNat (List.drop (0 : Nat) (headT d (roX d).length ++ [((roX d).length, (8 : Nat))]))))))) → AllR IntKind.u8 x16 → ∀ (x17 : Int), x17 = (((frL (bytesI s) (List.map roL (roX (RO.r (List.map (fun h => RO.l (List.take h.snd (x13.getD h.fst []))) (List.take x2.toNat (List.drop (0 : Nat) (headT d (roX d).length ++ [((roX d).length, (8 : Nat))])))))))).length : Nat) : Int) → (0 : Int) ≤ x17 → InR IntKind.i64 x17 → Need ((4 : Int) ≤ (4 : Int)) ∧ Need ((35 : Int) ≤ (70368744177664 : Int)) ∧ ∀ (x18 : List Int), x18 = frL (bytesI (ByteArray.mk #[(97 : UInt8), (110 : UInt8), (111 : UInt8), (116 : UInt8), (104 : UInt8), (101 : UInt8), (114 : UInt8)])) (List.map roL (roX (RO.r [RO.l (List.take (4 : Nat) (List.drop (0 : Nat) [(112 : Int), (97 : Int), (114 : Int), (116 : Int)]))]))) → AllR IntKind.u8 x18 → ∀ (x19 : Int), x19 = (35 : Int) → (0 : Int) ≤ x19 → InR IntKind.i64 x19 → Need ((0 : Int) + x19 ≤ ((x18.length : Nat) : Int)) ∧ Need ((0 : Int) + x15 ≤ (((List.length (hs2 (headT d (roX d).length ++ [((roX d).length, (8 : Nat))]) (List.length (fullT d (roX d).length)))) : Nat) : Int)) ∧ Need (∀ (h : Nat × Nat), h ∈ List.take x15.toNat (List.drop (0 : Nat) (hs2 (headT d (roX d).length ++ [((roX d).length, (8 : Nat))]) (List.length (fullT d (roX d).length)))) → h.snd ≤ (x14.getD h.fst []).length) ∧ Need ((((frL (bytesI s) (List.map roL (roX (RO.r (List.map (fun h => RO.l (List.take h.snd (x14.getD h.fst []))) (List.take x15.toNat (List.drop (0 : Nat) (hs2 (headT d (roX d).length ++ [((roX d).length, (8 : Nat))]) (List.length (fullT d (roX d).length)))))))))).length : Nat) : Int) ≤ (70368744177664 : Int)) ∧ ∀ (x20 : List Int), x20 = frL (bytesI s) (List.map roL (roX (RO.r (List.map (fun h => RO.l (List.take h.snd (x14.getD h.fst []))) (List.take x15.toNat (List.drop (0 : Nat) (hs2 (headT d (roX d).length ++ [((roX d).length, (8 : Nat))]) (List.length (fullT d (roX d).length))))))))) → AllR IntKind.u8 x20 → ∀ (x21 : Int), x21 = (((frL (bytesI s) (List.map roL (roX (RO.r (List.map (fun h => RO.l (List.take h.snd (x14.getD h.fst []))) (List.take x15.toNat (List.drop (0 : Nat) (hs2 (headT d (roX d).length ++ [((roX d).length, (8 : Nat))]) (List.length (fullT d (roX d).length)))))))))).length : Nat) : Int) → (0 : Int) ≤ x21 → InR IntKind.i64 x21 → Need ((0 : Int) + x21 ≤ ((x20.length : Nat) : Int)) ∧ Need ((0 : Int) + x7 ≤ ((x6.length : Nat) : Int)) ∧ ((!(ofBytesI (List.take x7.toNat (List.drop (0 : Nat) x6))).toList == (ofBytesI (List.take x5.toNat (List.drop (0 : Nat) x4))).toList) = true → K [RV.v (SV.b true false)] []) ∧ ((!(ofBytesI (List.take x7.toNat (List.drop (0 : Nat) x6))).toList == (ofBytesI (List.take x5.toNat (List.drop (0 : Nat) x4))).toList) = false → Need ((0 : Int) + x11 ≤ ((x10.length : Nat) : Int)) ∧ ((!(ofBytesI (List.take x11.toNat (List.drop (0 : Nat) x10))).toList == (ofBytesI (List.take x5.toNat (List.drop (0 : Nat) x4))).toList) = true → K [RV.v (SV.b true false)] []) ∧ ((!(ofBytesI (List.take x11.toNat (List.drop (0 : Nat) x10))).toList == (ofBytesI (List.take x5.toNat (List.drop (0 : Nat) x4))).toList) = false → Need ((0 : Int) + x9 ≤ ((x8.length : Nat) : Int)) ∧ ((!(ofBytesI (List.take x9.toNat (List.drop (0 : Nat) x8))).toList == (ofBytesI (List.take x19.toNat (List.drop (0 : Nat) x18))).toList) = true → K [RV.v (SV.b true false)] []) ∧ ((!(ofBytesI (List.take x9.toNat (List.drop (0 : Nat) x8))).toList == (ofBytesI (List.take x19.toNat (List.drop (0 : Nat) x18))).toList) = false → Need ((0 : Int) + x17 ≤ ((x16.length : Nat) : Int)) ∧ ((!(ofBytesI (List.take x17.toNat (List.drop (0 : Nat) x16))).toList == (ofBytesI (List.take x21.toNat (List.drop (0 : Nat) x20))).toList) = true → K [RV.v (SV.b true false)] []) ∧ ((!(ofBytesI (List.take x17.toNat (List.drop (0 : Nat) x16))).toList == (ofBytesI (List.take x21.toNat (List.drop (0 : Nat) x20))).toList) = false → Same Try.f3 (15 : Nat) (itemsOf Try.f3 (15 : Nat)) ∧ Q (15 : Nat) [Pv.s (ofBytesI (List.take x5.toNat (List.drop (0 : Nat) x4))), Pv.z x7, Pv.z x9, Pv.z x11, Pv.z x17, Pv.s (ofBytesI (List.take x21.toNat (List.drop (0 : Nat) x20))), Pv.z (0 : Int), Pv.l x6, Pv.l x8, Pv.l x10, Pv.l x16])))))) := by
  intros
  kernel_rfl
theorem lc3a_eq : ∀ (s6 s13 : ByteArray) (za zo zb zd i : Int) (a o b e : List Int) (K : List RV → List (Option (List Seg)) → Prop) (Q : Nat → List Pv → Prop), lc3a s6 s13 za zo zb zd i a o b e K Q = ((decide (i < za) = true → Need ((0 : Int) ≤ i ∧ i < za) ∧ Need ((0 : Int) ≤ i ∧ i < ((a.length : Nat) : Int)) ∧ ∀ (x1 : Int), x1 = a.getD i.toNat (0 : Int) → InR IntKind.u8 x1 → ∀ (x2 : Int), x2 = xorI IntKind.u8 x1 (90 : Int) → InR IntKind.u8 x2 → Need ((0 : Int) ≤ i ∧ i < za) ∧ Need ((0 : Int) ≤ i ∧ i < ((a.length : Nat) : Int)) ∧ ∀ (x3 : List Int), x3 = a.set i.toNat x2 → AllR IntKind.u8 x3 → ∀ (x4 : Int), x4 = IntKind.i64.wrap (i + (1 : Int)) → InR IntKind.i64 x4 → Same Try.f3 (15 : Nat) (itemsOf Try.f3 (15 : Nat)) ∧ Q (15 : Nat) [Pv.s s6, Pv.z za, Pv.z zo, Pv.z zb, Pv.z zd, Pv.s s13, Pv.z x4, Pv.l x3, Pv.l o, Pv.l b, Pv.l e]) ∧ (decide (i < za) = false → Same Try.f3 (20 : Nat) (itemsOf Try.f3 (20 : Nat)) ∧ Q (20 : Nat) [Pv.s s6, Pv.z za, Pv.z zo, Pv.z zb, Pv.z zd, Pv.s s13, Pv.z za, Pv.z (0 : Int), Pv.l a, Pv.l o, Pv.l b, Pv.l e])) := by
  intros
  kernel_rfl
theorem lc3b_eq : ∀ (s6 s13 : ByteArray) (za zo zb zd zg i : Int) (a o b e : List Int) (K : List RV → List (Option (List Seg)) → Prop) (Q : Nat → List Pv → Prop), lc3b s6 s13 za zo zb zd zg i a o b e K Q = ((decide (i < (64 : Int)) = true → ∀ (x1 : Int), x1 = IntKind.i64.wrap ((100 : Int) + i) → InR IntKind.i64 x1 → ∀ (x2 : Int), x2 = IntKind.u8.wrap x1 → InR IntKind.u8 x2 → Need ((((a ++ List.take (1 : Nat) (List.drop (0 : Nat) [x2])).length : Nat) : Int) * (1 : Int) ≤ (70368744177664 : Int)) ∧ Need (zg = ((a.length : Nat) : Int)) ∧ Need ((1 : Int) ≤ (([x2].length : Nat) : Int)) ∧ ∀ (x3 : List Int), x3 = a ++ List.take (1 : Nat) (List.drop (0 : Nat) [x2]) → AllR IntKind.u8 x3 → ∀ (x4 : Int), x4 = (((a ++ List.take (1 : Nat) (List.drop (0 : Nat) [x2])).length : Nat) : Int) → (0 : Int) ≤ x4 → InR IntKind.i64 x4 → ∀ (x5 : Int), x5 = IntKind.i64.wrap (i + (1 : Int)) → InR IntKind.i64 x5 → Same Try.f3 (20 : Nat) (itemsOf Try.f3 (20 : Nat)) ∧ Q (1020 : Nat) [Pv.s s6, Pv.z za, Pv.z zo, Pv.z zb, Pv.z zd, Pv.s s13, Pv.z x4, Pv.z x5, Pv.l o, Pv.l b, Pv.l e, Pv.l x3]) ∧ (decide (i < (64 : Int)) = false → Same Try.f3 (24 : Nat) (itemsOf Try.f3 (24 : Nat)) ∧ False)) := by
  intros
  kernel_rfl
theorem lc3c_eq : ∀ (s6 s13 : ByteArray) (za zo zb zd zg i : Int) (o b e g : List Int) (K : List RV → List (Option (List Seg)) → Prop) (Q : Nat → List Pv → Prop), lc3c s6 s13 za zo zb zd zg i o b e g K Q = ((decide (i < (64 : Int)) = true → ∀ (x1 : Int), x1 = IntKind.i64.wrap ((100 : Int) + i) → InR IntKind.i64 x1 → ∀ (x2 : Int), x2 = IntKind.u8.wrap x1 → InR IntKind.u8 x2 → Need ((((g ++ List.take (1 : Nat) (List.drop (0 : Nat) [x2])).length : Nat) : Int) * (1 : Int) ≤ (70368744177664 : Int)) ∧ Need (zg = ((g.length : Nat) : Int)) ∧ Need ((1 : Int) ≤ (([x2].length : Nat) : Int)) ∧ ∀ (x3 : List Int), x3 = g ++ List.take (1 : Nat) (List.drop (0 : Nat) [x2]) → AllR IntKind.u8 x3 → ∀ (x4 : Int), x4 = (((g ++ List.take (1 : Nat) (List.drop (0 : Nat) [x2])).length : Nat) : Int) → (0 : Int) ≤ x4 → InR IntKind.i64 x4 → ∀ (x5 : Int), x5 = IntKind.i64.wrap (i + (1 : Int)) → InR IntKind.i64 x5 → Same Try.f3 (20 : Nat) (itemsOf Try.f3 (20 : Nat)) ∧ Q (1020 : Nat) [Pv.s s6, Pv.z za, Pv.z zo, Pv.z zb, Pv.z zd, Pv.s s13, Pv.z x4, Pv.z x5, Pv.l o, Pv.l b, Pv.l e, Pv.l x3]) ∧ (decide (i < (64 : Int)) = false → Same Try.f3 (24 : Nat) (itemsOf Try.f3 (24 : Nat)) ∧ Q (24 : Nat) [Pv.s s6, Pv.z za, Pv.z zo, Pv.z zb, Pv.z zd, Pv.s s13, Pv.z zg, Pv.z (0 : Int), Pv.l o, Pv.l b, Pv.l e, Pv.l g])) := by
  intros
  kernel_rfl
theorem lc3d_eq : ∀ (s6 s13 : ByteArray) (za zo zb zd zg i : Int) (o b e g : List Int) (K : List RV → List (Option (List Seg)) → Prop) (Q : Nat → List Pv → Prop), lc3d s6 s13 za zo zb zd zg i o b e g K Q = ((decide (i < zo) = true → Need ((0 : Int) ≤ i ∧ i < zo) ∧ Need ((0 : Int) ≤ i ∧ i < ((o.length : Nat) : Int)) ∧ ∀ (x1 : Int), x1 = o.getD i.toNat (0 : Int) → InR IntKind.u8 x1 → ∀ (x2 : Int), x2 = xorI IntKind.u8 x1 (105 : Int) → InR IntKind.u8 x2 → Need ((0 : Int) ≤ i ∧ i < zo) ∧ Need ((0 : Int) ≤ i ∧ i < ((o.length : Nat) : Int)) ∧ ∀ (x3 : List Int), x3 = o.set i.toNat x2 → AllR IntKind.u8 x3 → ∀ (x4 : Int), x4 = IntKind.i64.wrap (i + (1 : Int)) → InR IntKind.i64 x4 → Same Try.f3 (24 : Nat) (itemsOf Try.f3 (24 : Nat)) ∧ Q (24 : Nat) [Pv.s s6, Pv.z za, Pv.z zo, Pv.z zb, Pv.z zd, Pv.s s13, Pv.z zg, Pv.z x4, Pv.l x3, Pv.l b, Pv.l e, Pv.l g]) ∧ (decide (i < zo) = false → Same Try.f3 (28 : Nat) (itemsOf Try.f3 (28 : Nat)) ∧ Q (28 : Nat) [Pv.s s6, Pv.z za, Pv.z zo, Pv.z zb, Pv.z zd, Pv.s s13, Pv.z zg, Pv.z (0 : Int), Pv.l o, Pv.l b, Pv.l e, Pv.l g])) := by
  intros
  kernel_rfl
theorem lc3e_eq : ∀ (s6 s13 : ByteArray) (za zo zb zd zg i : Int) (o b e g : List Int) (K : List RV → List (Option (List Seg)) → Prop) (Q : Nat → List Pv → Prop), lc3e s6 s13 za zo zb zd zg i o b e g K Q = ((decide (i < (64 : Int)) = true → ∀ (x1 : Int), x1 = IntKind.i64.wrap (za + i) → InR IntKind.i64 x1 → Need ((0 : Int) ≤ x1 ∧ x1 < zg) ∧ Need ((0 : Int) ≤ x1 ∧ x1 < ((g.length : Nat) : Int)) ∧ ∀ (x2 : Int), x2 = g.getD x1.toNat (0 : Int) → InR IntKind.u8 x2 → ∀ (x3 : Int), x3 = IntKind.i64.wrap ((100 : Int) + i) → InR IntKind.i64 x3 → ∀ (x4 : Int), x4 = IntKind.u8.wrap x3 → InR IntKind.u8 x4 → ((x2 != x4) = true → K [RV.v (SV.b true false)] []) ∧ ((x2 != x4) = false → ∀ (x5 : Int), x5 = IntKind.i64.wrap (i + (1 : Int)) → InR IntKind.i64 x5 → Same Try.f3 (28 : Nat) (itemsOf Try.f3 (28 : Nat)) ∧ Q (28 : Nat) [Pv.s s6, Pv.z za, Pv.z zo, Pv.z zb, Pv.z zd, Pv.s s13, Pv.z zg, Pv.z x5, Pv.l o, Pv.l b, Pv.l e, Pv.l g])) ∧ (decide (i < (64 : Int)) = false → Need ((0 : Int) + zb ≤ ((b.length : Nat) : Int)) ∧ (((ofBytesI (List.take zb.toNat (List.drop (0 : Nat) b))).toList == s6.toList) = true → Need ((0 : Int) + zd ≤ ((e.length : Nat) : Int)) ∧ K [RV.v (SV.b false ((ofBytesI (List.take zd.toNat (List.drop (0 : Nat) e))).toList == s13.toList))] []) ∧ (((ofBytesI (List.take zb.toNat (List.drop (0 : Nat) b))).toList == s6.toList) = false → K [RV.v (SV.b true false)] []))) := by
  intros
  kernel_rfl

/-- A list whose first 'i' bytes are turned. -/
def xorT (c : Int) (l : List Int) (i : Nat) : List Int := (l.take i).map (fun z => xorI .u8 z c) ++ l.drop i
theorem xorT_len (c : Int) (m : List Int) (l : Nat) : (xorT c m l).length = m.length := by simp [xorT]; omega
theorem xorT_zero (c : Int) (m : List Int) : xorT c m 0 = m := by simp [xorT]
theorem xorT_getD (c : Int) (m : List Int) (j : Nat) (h : j < m.length) : (xorT c m j).getD j 0 = m.getD j 0 := by
  have : ((m.take j).map (fun z => xorI .u8 z c)).length = j := by simp; omega
  rw [xorT, List.getD_eq_getElem?_getD, List.getElem?_append_right (by omega), this, Nat.sub_self, List.getElem?_drop, List.getD_eq_getElem?_getD, Nat.add_zero]
theorem xorT_set (c : Int) (m : List Int) (j : Nat) (h : j < m.length) : (xorT c m j).set j (xorI .u8 (m.getD j 0) c) = xorT c m (j + 1) := by
  apply List.ext_getElem?
  intro i
  have hl := xorT_len c m j
  have e1 : ∀ l i, (xorT c m l)[i]? = if i < l then (m[i]?).map (fun z => xorI .u8 z c) else m[i]? := by
    intro l i
    simp only [xorT, List.getElem?_append, List.length_map, List.length_take, List.getElem?_map, List.getElem?_take, List.getElem?_drop]
    by_cases c : i < l
    · by_cases c2 : i < m.length
      · rw [if_pos (by omega), if_pos c, if_pos c]
      · rw [if_neg (by omega), if_pos c]
        rw [List.getElem?_eq_none (by omega), List.getElem?_eq_none (by omega)]; rfl
    · by_cases c2 : l ≤ m.length
      · rw [if_neg (by omega), if_neg c, show l + (i - min l m.length) = i by omega]
      · rw [if_neg (by omega), if_neg c]
        rw [List.getElem?_eq_none (by omega), List.getElem?_eq_none (by omega)]
  rw [e1]
  by_cases c : i = j
  · subst c
    rw [List.getElem?_set_self (by omega), if_pos (by omega), List.getD_eq_getElem?_getD, List.getElem?_eq_getElem h]
    rfl
  · rw [List.getElem?_set_ne (Ne.symm c), e1]
    by_cases c2 : i < j
    · rw [if_pos c2, if_pos (by omega)]
    · rw [if_neg c2, if_neg (by omega)]
/-- What the caller appends. -/
def gl (i : Nat) : List Int := (List.range i).map fun j : Nat => IntKind.u8.wrap (100 + (j : Int))
theorem gl_len (i : Nat) : (gl i).length = i := by simp [gl]
theorem gl_succ (i : Nat) : gl (i + 1) = gl i ++ [IntKind.u8.wrap (100 + (i : Int))] := by simp [gl, List.range_succ]
theorem gl_at (A : List Int) (i : Nat) (h : i < 64) : (A ++ gl 64).getD (A.length + i) 0 = IntKind.u8.wrap (100 + (i : Int)) := by
  rw [List.getD_eq_getElem?_getD, List.getElem?_append_right (by omega), show A.length + i - A.length = i by omega]
  simp [gl, h]
theorem take_all {l : List Int} : List.take l.length (List.drop 0 l) = l := by rw [List.drop_zero, List.take_of_length_le (Nat.le_refl _)]

def inv (s6 s13 : ByteArray) (A O B E : List Int) (key : Nat) (ps : List Pv) (mm : Nat) : Prop :=
  (key = 15 ∧ ∃ i : Nat, i ≤ A.length ∧ ps = [.s s6, .z (A.length : Int), .z (O.length : Int), .z (B.length : Int), .z (E.length : Int), .s s13, .z (i : Int), .l (xorT 90 A i), .l O, .l B, .l E] ∧ mm = 166 + O.length + (A.length - i)) ∨
  (key = 20 ∧ ps = [.s s6, .z (A.length : Int), .z (O.length : Int), .z (B.length : Int), .z (E.length : Int), .s s13, .z (A.length : Int), .z 0, .l (xorT 90 A A.length), .l O, .l B, .l E] ∧ mm = 165 + O.length) ∨
  (key = 1020 ∧ ∃ i : Nat, 0 < i ∧ i ≤ 64 ∧ ps = [.s s6, .z (A.length : Int), .z (O.length : Int), .z (B.length : Int), .z (E.length : Int), .s s13, .z ((A.length + i : Nat) : Int), .z (i : Int), .l O, .l B, .l E, .l (xorT 90 A A.length ++ gl i)] ∧ mm = 100 + O.length + (64 - i)) ∨
  (key = 24 ∧ ∃ i : Nat, i ≤ O.length ∧ ps = [.s s6, .z (A.length : Int), .z (O.length : Int), .z (B.length : Int), .z (E.length : Int), .s s13, .z ((A.length + 64 : Nat) : Int), .z (i : Int), .l (xorT 105 O i), .l B, .l E, .l (xorT 90 A A.length ++ gl 64)] ∧ mm = 66 + (O.length - i)) ∨
  (key = 28 ∧ ∃ i : Nat, ∃ O1 : List Int, i ≤ 64 ∧ ps = [.s s6, .z (A.length : Int), .z (O.length : Int), .z (B.length : Int), .z (E.length : Int), .s s13, .z ((A.length + 64 : Nat) : Int), .z (i : Int), .l O1, .l B, .l E, .l (xorT 90 A A.length ++ gl 64)] ∧ mm = 64 - i)

theorem str_arg {P : Program} {H : Type} {enc : TypeId × Value → H} {W : World} (N : Nat) {t : TypeId} {s : ByteArray} {d : DataW H} {ps : List MemPlace} (hs : shTyB P .ts t = true) (h : DataW.Trod enc P W 0 (fun _ => true) true t (.string s) d ps) :
    s.size + 1 ≤ Go.Proofs.Ythgclfedhgmpiaa.Rows.uptoBulk d ∧ ((∀ n ∈ d.weights P t, n ≤ N) → s.size ≤ N) := by
  obtain ⟨fuel, h⟩ := h
  obtain ⟨ro, u, e, q1, q2, q3⟩ := trod_ro N .ts t fuel _ _ hs h
  simp only [RoD] at q1
  obtain ⟨rfl, _⟩ := q1
  have e : s = roS ro := by simpa [Value.cells] using e
  rw [e]
  exact ⟨q2, q3⟩
/-- What the caller does with what is handed out. -/
theorem loops (s6 s13 : ByteArray) (A O B E : List Int) (hA : (A.length : Int) ≤ 60000000000000) (hO : (O.length : Int) ≤ 60000000000000) (h6 : s6 = ofBytesI B) (h13 : s13 = ofBytesI E) : ∀ vk t ps m, (vk, t) ∈ L3 → inv s6 s13 A O B E vk ps m →
    runLoop Γ5 Try.f3 (loopKeysM L3) (vk % 1000) (instSt t ps) (fun x h' => kvG 0 x h' fun rvs fin => ∃ e, rvs = [.v (.b e true)]) (handM L3 fun key' ps' => ∃ m', m' < m ∧ inv s6 s13 A O B E key' ps' m') := by
  rintro vk t ps mm ht (⟨rfl, i, hi, rfl, rfl⟩ | ⟨rfl, rfl, rfl⟩ | ⟨rfl, i, hi0, hi, rfl, rfl⟩ | ⟨rfl, i, hi, rfl, rfl⟩ | ⟨rfl, i, O1, hi, rfl, rfl⟩)
  all_goals simp only [L3, List.mem_cons, List.not_mem_nil, or_false, Prod.mk.injEq, Nat.reduceEqDiff, false_and, true_and, false_or, or_false] at ht
  · subst ht
    show lc3a s6 s13 (A.length : Int) (O.length : Int) (B.length : Int) (E.length : Int) (i : Int) (xorT 90 A i) O B E _ _
    rw [lc3a_eq]
    have hl := xorT_len 90 A i
    refine ⟨fun hlt => ?_, fun hge => ?_⟩
    · have hlt := of_decide_eq_true hlt
      refine ⟨need_of (by omega), need_of (by omega), ?_⟩
      intro x1 e1 _ x2 e2 _
      refine ⟨need_of (by omega), need_of (by omega), ?_⟩
      intro x3 e3 _ x4 e4 _
      rw [wrap_i64 (by omega)] at e4
      rw [Int.toNat_natCast] at e1 e3
      rw [xorT_getD _ _ _ (by omega)] at e1
      rw [e2, e1, xorT_set _ _ _ (by omega)] at e3
      subst e3; subst e4
      exact ⟨rfl, _, by omega, Or.inl ⟨rfl, i + 1, by omega, rfl, rfl⟩⟩
    · have hge := of_decide_eq_false hge
      obtain rfl : i = A.length := by omega
      exact ⟨rfl, _, by omega, Or.inr (Or.inl ⟨rfl, rfl, rfl⟩)⟩
  · subst ht
    show lc3b s6 s13 (A.length : Int) (O.length : Int) (B.length : Int) (E.length : Int) (A.length : Int) 0 (xorT 90 A A.length) O B E _ _
    rw [lc3b_eq]
    have hl := xorT_len 90 A A.length
    refine ⟨fun hlt => ?_, fun hge => absurd hge (by decide)⟩
    intro x1 e1 _ x2 e2 _
    rw [wrap_i64 (by omega)] at e1
    have ht : List.take 1 (List.drop 0 [x2]) = [x2] := rfl
    have hl2 : (xorT 90 A A.length ++ [x2]).length = A.length + 1 := by rw [List.length_append, hl]; rfl
    rw [ht, hl2]
    refine ⟨need_of (by omega), need_of (by omega), need_of (by simp), ?_⟩
    intro x3 e3 _ x4 e4 _ _ x5 e5 _
    rw [wrap_i64 (by omega)] at e5
    subst e1; subst e2; subst e3; subst e4; subst e5
    exact ⟨rfl, _, by omega, Or.inr (Or.inr (Or.inl ⟨rfl, 1, by omega, by omega, rfl, rfl⟩))⟩
  · subst ht
    show lc3c s6 s13 (A.length : Int) (O.length : Int) (B.length : Int) (E.length : Int) ((A.length + i : Nat) : Int) (i : Int) O B E (xorT 90 A A.length ++ gl i) _ _
    rw [lc3c_eq]
    have hl : (xorT 90 A A.length ++ gl i).length = A.length + i := by rw [List.length_append, xorT_len, gl_len]
    refine ⟨fun hlt => ?_, fun hge => ?_⟩
    · have hlt := of_decide_eq_true hlt
      intro x1 e1 _ x2 e2 _
      rw [wrap_i64 (by omega)] at e1
      have ht : List.take 1 (List.drop 0 [x2]) = [x2] := rfl
      have hl2 : (xorT 90 A A.length ++ gl i ++ [x2]).length = A.length + (i + 1) := by rw [List.length_append, hl]; rfl
      rw [ht, hl2]
      refine ⟨need_of (by omega), need_of (by omega), need_of (by simp), ?_⟩
      intro x3 e3 _ x4 e4 _ _ x5 e5 _
      rw [wrap_i64 (by omega)] at e5
      rw [e2, e1, List.append_assoc, ← gl_succ] at e3
      subst e3; subst e4; subst e5
      exact ⟨rfl, _, by omega, Or.inr (Or.inr (Or.inl ⟨rfl, i + 1, by omega, by omega, rfl, rfl⟩))⟩
    · have hge := of_decide_eq_false hge
      obtain rfl : i = 64 := by omega
      exact ⟨rfl, _, by omega, Or.inr (Or.inr (Or.inr (Or.inl ⟨rfl, 0, by omega, by rw [xorT_zero]; rfl, rfl⟩)))⟩
  · subst ht
    show lc3d s6 s13 (A.length : Int) (O.length : Int) (B.length : Int) (E.length : Int) ((A.length + 64 : Nat) : Int) (i : Int) (xorT 105 O i) B E (xorT 90 A A.length ++ gl 64) _ _
    rw [lc3d_eq]
    have hl := xorT_len 105 O i
    refine ⟨fun hlt => ?_, fun hge => ?_⟩
    · have hlt := of_decide_eq_true hlt
      refine ⟨need_of (by omega), need_of (by omega), ?_⟩
      intro x1 e1 _ x2 e2 _
      refine ⟨need_of (by omega), need_of (by omega), ?_⟩
      intro x3 e3 _ x4 e4 _
      rw [wrap_i64 (by omega)] at e4
      rw [Int.toNat_natCast] at e1 e3
      rw [xorT_getD _ _ _ (by omega)] at e1
      rw [e2, e1, xorT_set _ _ _ (by omega)] at e3
      subst e3; subst e4
      exact ⟨rfl, _, by omega, Or.inr (Or.inr (Or.inr (Or.inl ⟨rfl, i + 1, by omega, rfl, rfl⟩)))⟩
    · exact ⟨rfl, 64 - 0, by omega, Or.inr (Or.inr (Or.inr (Or.inr ⟨rfl, 0, xorT 105 O i, by omega, rfl, rfl⟩)))⟩
  · subst ht
    show lc3e s6 s13 (A.length : Int) (O.length : Int) (B.length : Int) (E.length : Int) ((A.length + 64 : Nat) : Int) (i : Int) O1 B E (xorT 90 A A.length ++ gl 64) _ _
    rw [lc3e_eq]
    have hl : (xorT 90 A A.length ++ gl 64).length = A.length + 64 := by rw [List.length_append, xorT_len, gl_len]
    refine ⟨fun hlt => ?_, fun hge => ?_⟩
    · have hlt := of_decide_eq_true hlt
      intro x1 e1 _
      rw [wrap_i64 (by omega)] at e1
      refine ⟨need_of (by omega), need_of (by omega), ?_⟩
      intro x2 e2 _ x3 e3 _ x4 e4 _
      rw [wrap_i64 (by omega)] at e3
      have ea : (xorT 90 A A.length).length = A.length := xorT_len _ _ _
      have hg := gl_at (xorT 90 A A.length) i (by omega)
      rw [ea] at hg
      rw [show x1.toNat = A.length + i by omega, hg] at e2
      have e24 : x2 = x4 := by rw [e2, e4, e3]
      refine ⟨fun h => by rw [e24] at h; simp at h, fun _ => ?_⟩
      intro x5 e5 _
      rw [wrap_i64 (by omega)] at e5
      subst e5
      exact ⟨rfl, _, by omega, Or.inr (Or.inr (Or.inr (Or.inr ⟨rfl, i + 1, O1, by omega, rfl, rfl⟩)))⟩
    · rw [Int.toNat_natCast, Int.toNat_natCast, take_all, take_all, h6, h13]
      refine ⟨need_of (by omega), fun _ => ⟨need_of (by omega), false, by simp⟩, fun h => by simp at h⟩

theorem le_sum : ∀ {l : List Nat} {x : Nat}, x ∈ l → x ≤ l.sum
  | y :: l, x, h => by
    rcases List.mem_cons.1 h with rfl | h
    · simp
    · have := le_sum h
      simp only [List.sum_cons]; omega
theorem partsL_cons (x : List Int) (r : List (List Int)) : partsL (x :: r) = le8 (x.length : Int) ++ x ++ partsL r := by simp [partsL]
/-- Another frame. -/
def another : List Int := frL (bytesI (ByteArray.mk #[(97 : UInt8), (110 : UInt8), (111 : UInt8), (116 : UInt8), (104 : UInt8), (101 : UInt8), (114 : UInt8)])) (List.map roL (roX (RO.r [RO.l (List.take (4 : Nat) (List.drop (0 : Nat) [(112 : Int), (97 : Int), (114 : Int), (116 : Int)]))])))
theorem another_len : another.length = 35 := rfl
theorem partsB : ∀ xs : List RO, (partsL (xs.map roL)).length ≤ 8 * xs.length + (xs.map (roM (.ints .u8))).sum
  | [] => by simp [partsL]
  | x :: xs => by
      have := partsB xs
      have h : roM (.ints .u8) x = (roL x).length := rfl
      simp only [List.map_cons, partsL_cons, List.length_append, le8_len, List.length_cons, List.sum_cons]
      omega
theorem lens_eq {xs ys : List RO} (h : xs.map (fun x => (roL x).length) = ys.map fun x => (roL x).length) : (partsL (xs.map roL)).length = (partsL (ys.map roL)).length := by
  have : ∀ l : List RO, (partsL (l.map roL)).length = ((l.map fun x => (roL x).length).map (8 + ·)).sum := by
    intro l
    induction l with
    | nil => rfl
    | cons x r ih => simp only [List.map_cons, partsL_cons, List.length_append, le8_len, List.sum_cons, ih]
  rw [this, this, h]
theorem frLen (b : List Int) (ls : List (List Int)) : (frL b ls).length = 16 + b.length + (partsL ls).length := by
  unfold frL
  simp only [List.length_append, le8_len]; omega
theorem law (W : World) (s : ByteArray) (d : RO) (v : Value) (hv : RoD W (OutB W fun _ => False) (.l (.ints .u8)) d v) (hs : ∃ ad n cap, v = .slice ad n cap)
    (hM : s.size + roM (.l (.ints .u8)) d ≤ 1048576) :
    Calls Try.prog 3 #[.string s, v] W fun e w' => e = .returned (.bool true) ∧ Below W.heap.size W w' := by
  have hM : s.size + ((roX d).length + ((roX d).map (roM (.ints .u8))).sum) ≤ 1048576 := hM
  have hpb := partsB (roX d)
  have hfl := frLen (bytesI s) ((roX d).map roL)
  have hft := frLen (bytesI s) ((tx d).map roL)
  have htx : (partsL ((tx d).map roL)).length = (partsL ((roX d).map roL)).length := by rw [← hx_map]; exact lens_eq (tx_lens d)
  have hbl := bytesI_length s
  have he : ∀ i, i < (roX d).length → (roL (roN d i)).length ≤ ((roX d).map (roM (.ints .u8))).sum := fun i hi => by
    have : (roL (roN d i)).length ∈ (roX d).map (roM (.ints .u8)) := List.mem_map.2 ⟨roN d i, by rw [show roN d i = (roX d)[i] by simp [roN, List.getD_eq_getElem?_getD, hi]]; exact List.getElem_mem hi, rfl⟩
    exact le_sum this
  have hb : ∀ i, i < (roX d).length → ((roL (roN d i)).length : Int) + 8 ≤ 70368744177664 := fun i hi => by have := he i hi; omega
  refine law_gen Γ5_ok rfl glow rfl (fn := Try.f3) (L := L3) (av := [.v (.s s), .d (.l (.ints .u8)) d]) (args' := [.s s, .ro 490 (.l (.ints .u8)) d]) (K := fun rvs fin => ∃ e, rvs = [.v (.b e true)])
    (inv := inv (ofBytesI (frL (bytesI s) ((roX d).map roL))) (ofBytesI (frL (bytesI s) ((tx d).map roL))) (frL (bytesI s) ((roX d).map roL)) another (frL (bytesI s) ((roX d).map roL)) (frL (bytesI s) ((tx d).map roL)))
    ⟨rfl, rfl, trivial⟩ (Nat.le_of_ble_eq_true (by kernel_rfl)) ⟨?_, loops _ _ _ _ _ _ (by omega) (by rw [another_len]; omega) rfl rfl, ?_⟩ (fun _ _ h => h) (fun _ _ h => by cases h) ⟨_, _, rfl, ⟨rfl, by omega⟩, v, _, rfl, hv, rfl, rfl⟩
  · intro kk t ht g hg
    have hg : g ∈ [490] := hg
    simp only [List.mem_cons, List.not_mem_nil, or_false] at hg
    subst hg
    simp only [L3, List.mem_cons, List.not_mem_nil, or_false, Prod.mk.injEq] at ht
    obtain ⟨rfl, rfl⟩ | ⟨rfl, rfl⟩ | ⟨rfl, rfl⟩ | ⟨rfl, rfl⟩ | ⟨rfl, rfl⟩ := ht <;> exact ⟨by omega, rfl⟩
  show vc3 s d _ _
  rw [vc3_eq]
  have hxm : List.map roL (roX (RO.r (hx d))) = (roX d).map roL := hx_map d
  have htm : List.map roL (roX (RO.r (tx d))) = (tx d).map roL := rfl
  refine ⟨need_of hb, need_of (by omega), ?_⟩
  intro x1 e1 x2 e2 _ _ x3 e3 _ _
  rw [fullT_len] at e2
  rw [heads_length] at e3
  subst e1; subst e2; subst e3
  simp only [Int.toNat_natCast, fullT_len, heads_length, heads_take, heads_all, full_all, v_head, v_full, v_all, rows_length, hxm]
  refine ⟨need_of (by omega), ?_⟩
  intro x4 e4 _ x5 e5 _ _
  rw [← e4] at e5
  refine ⟨need_of (by omega), need_of (by omega), need_of (by omega), need_of (b_head d), need_of (by omega), ?_⟩
  intro x6 e6 _ x7 e7 _ _
  rw [← e6] at e7
  refine ⟨need_of (by omega), need_of (by omega), ?_⟩
  intro x8 e8 _ x9 e9 _ _
  refine ⟨need_of (by omega), need_of (by omega), need_of (b_head d), need_of (by omega), ?_⟩
  intro x10 e10 _ x11 e11 _ _
  rw [← e10] at e11
  refine ⟨need_of (by omega), need_of (b_full d), need_of (by omega), need_of (b_all d), need_of (l_1 d), need_of (l_2 d hb), ?_⟩
  intro x12 e12
  refine ⟨fun h => by rw [e12] at h; simp at h, fun _ => ?_⟩
  refine ⟨need_of trivial, need_of trivial, need_of ⟨by omega, by omega, by omega, by omega⟩, need_of (t_pre d (by omega) hb), ?_⟩
  intro x13 e13 x14 e14 x15 e15 _ _
  rw [t_hs, headT_len] at e15
  subst e13; subst e14; subst e15
  simp only [Int.toNat_natCast, t_hs, headT_len, head_all, t_view, n_view, htm]
  refine ⟨need_of (by omega), need_of (by omega), need_of (t_b d), need_of (by omega), ?_⟩
  intro x16 e16 _ x17 e17 _ _
  rw [← e16] at e17
  refine ⟨need_of (by omega), need_of (by omega), ?_⟩
  intro x18 e18 _ x19 e19 _ _
  have l18 : x18.length = 35 := by rw [e18]; rfl
  refine ⟨need_of (by omega), need_of (by omega), need_of (n_b d), need_of (by omega), ?_⟩
  intro x20 e20 _ x21 e21 _ _
  rw [← e20] at e21
  have h8 : x8 = x18 := by rw [e8, e18]
  have l8 : x8.length = 35 := by rw [h8]; exact l18
  have l9 : x9 = (x8.length : Int) := by omega
  have l19 : x19 = (x18.length : Int) := by omega
  subst e5; subst e7; subst e11; subst e17; subst l9; subst l19; subst e21
  simp only [Int.toNat_natCast, take_all]
  have h46 : x6 = x4 := by rw [e6, e4]
  have h410 : x10 = x4 := by rw [e10, e4]
  have h16 : x16 = x20 := by rw [e16, e20]
  rw [h46, h410, h16, ← h8]
  refine ⟨need_of (by omega), need_of (by omega), fun h => by simp at h, fun _ => ⟨need_of (by omega), fun h => by simp at h, fun _ => ⟨need_of (by omega), fun h => by simp at h, fun _ => ⟨need_of (by omega), fun h => by simp at h, fun _ => ?_⟩⟩⟩⟩
  have hAn : x8 = another := e8
  rw [hAn, e4, e20]
  exact ⟨rfl, _, Or.inl ⟨rfl, 0, by omega, by rw [xorT_zero]; rfl, rfl⟩⟩
end TranscriptFrames

namespace TranscriptFrames
open Go.Proofs.Ythgclfedhgmpiaa
open Go.ChangeShapes Go.WideShapes Go.ChangeAt Go.RowKit
theorem own : ownKnob Try.prog.godebug = none := by kernel_rfl
theorem laidOut : laidOutB Try.prog = true := by kernel_rfl
theorem reads (t : Nat) (h : t ∈ Try.f3.params.toList) : Try.prog.readableRec t = true ∧ t < Try.prog.types.size := by
  have hp : Try.f3.params.toList = [9, 22] := by kernel_rfl
  rw [hp] at h
  simp only [List.mem_cons, List.not_mem_nil, or_false] at h
  rcases h with rfl | rfl <;> exact ⟨by kernel_rfl, Nat.le_of_ble_eq_true (by kernel_rfl)⟩

set_option maxRecDepth 100000 in
/-- What the call gives, for every argument and every world. -/
theorem contract (H : Type) (enc : TypeId × Value → H) (W : World) (base : Nat) (args : Array Value) (ds gs : List (DataW H)) (before : List MemPlace)
    (hval : ∀ (j : Nat) t v, Try.f3.params[j]? = some t → args[j]? = some v → Value.okWide Try.prog W .any base t v)
    (hW : DataW.Whole enc Try.prog Try.f3.params.toList Rows.transcriptFramesSpec.vars false W args.toList ds gs before)
    (hw : (DataW.weightsEach Try.prog (Try.f3.params.toList ++ (Rows.OpenSpec.upto Rows.transcriptFramesSpec).bare.plain.varTypes Try.prog) (ds ++ gs)).all (· ≤ reachBytes) = true) (hC : Rows.uptoSmall H (ds ++ gs) = true) :
    Calls Try.prog 3 args W fun e W' => ∃ v, e = .returned v ∧ Rows.transcriptFramesSpec.post enc Try.prog Try.f3 false true false false W args v W' := by
  have hA : DataW.TrodAll enc Try.prog W 0 (fun _ => true) true [9, 22] args.toList ds _ := hW.choose_spec.choose_spec.1
  obtain ⟨v0, vs0, d0, ds0, p0, q0, hargs, hds, _, h0, r0⟩ := trodAll_cons hA
  obtain ⟨v1, vs1, d1, ds1, p1, q1, rfl, hds1, _, h1, r1⟩ := trodAll_cons r0
  obtain ⟨rfl, hdsn, _⟩ := trodAll_nil r1
  obtain rfl : args = #[v0, v1] := by cases args; simp_all
  have hds : ds = [d0, d1] := by rw [hds, hds1, hdsn]
  have hp : Try.f3.params = #[9, 22] := by kernel_rfl
  rw [hp] at hval
  have hp2 : Try.f3.params.toList = [9, 22] := by kernel_rfl
  rw [hds, hp2] at hw
  have hC : Rows.uptoBulkAll (ds ++ gs) ≤ 1048576 := of_decide_eq_true hC
  rw [hds, bulkAll_app] at hC
  simp only [Rows.uptoBulkAll] at hC
  obtain ⟨s0, rfl⟩ := okWide_string (by kernel_rfl) (hval 0 9 v0 rfl rfl)
  obtain ⟨b0, x0⟩ := str_arg reachBytes (by kernel_rfl) h0
  have x0 := x0 fun n hn => by simpa using List.all_eq_true.1 hw n (DataW.weights_mem_each (j := 0) rfl rfl n hn)
  have hc1 : v1.cells.toList = [v1] := by
    obtain ⟨a, len, cap, e⟩ := okWide_slice (e := 26) (by kernel_rfl) (hval 1 22 v1 rfl rfl)
    rw [e]; rfl
  obtain ⟨o1, e1, s1, b1, x1⟩ := arg_ro reachBytes (.l (.ints .u8)) (by kernel_rfl) rfl hc1 h1
  have x1 := x1 fun n hn => by simpa using List.all_eq_true.1 hw n (DataW.weights_mem_each (j := 1) rfl rfl n hn)
  refine (law W s0 o1 v1 e1 s1 (by omega)).mono fun e W' ⟨he, hB⟩ => ?_
  subst he
  refine ⟨_, rfl, post_true (tb := 4) laidOut rfl (by kernel_rfl) (by kernel_rfl) reads ?_ hW hB⟩
  intro ds hds
  have hds : ds.length = 2 := hds
  match ds, hds with
  | [a0, a1], _ => exact ⟨rfl, rfl, rfl⟩

def wargs : Array Value := #[.string ByteArray.empty, .slice none 0 0]
noncomputable def start (os : Os) : World := World.holding Try.prog os ⟨#[], #[], []⟩
theorem reads0 (os : Os) {H : Type} (enc : TypeId × Value → H) : ∃ places, DataW.whole enc Try.prog ((start os).forCall (fun _ _ => 0) ⟨#[], wargs, []⟩).memory Try.f3.params.toList Rows.transcriptFramesSpec.vars false wargs.toList 8 = some ([.lit (.string []), .nil], [], places) :=
  ⟨[], by kernel_rfl⟩

set_option maxRecDepth 100000 in
theorem lifted (os : Os) (started : os.Started) (H : Type) (enc : TypeId × Value → H) (F : Stop.Interp) :
    ReturnsInHanded {} Try.checked os 3 .any ((Rows.OpenSpec.upto Rows.transcriptFramesSpec).preRow enc Try.prog Try.f3 Rows.transcriptFramesUptoRow.domain false Rows.transcriptFramesUptoRow.laid) (((Rows.OpenSpec.upto Rows.transcriptFramesSpec).at F).post enc Try.prog Try.f3 false true false false) := by
  obtain ⟨places, hx⟩ := reads0 os enc
  refine returnsInHanded_of_row (C := Try.checked) (s := (Rows.OpenSpec.upto Rows.transcriptFramesSpec)) own started (by kernel_rfl) Try.func3
    (witness_row_at (enc := enc) (C := Try.checked) false (start os) wargs rfl (by kernel_rfl) (by kernel_rfl) (by kernel_rfl)
      (OpenSpec.preRow_of_cond 8 hx (by kernel_rfl) (fun k hk => by cases hk; kernel_rfl) (by kernel_rfl) (laidMet_of_run' 8 (by kernel_rfl) (by kernel_rfl)))) ?_
  intro W base args ds gs before hval hW hw1 hcond hw hL _ _
  exact contract H enc W base args ds gs before hval hW hw (hcond _ rfl)

theorem said : Rows.TranscriptFramesUptoSaid :=
  OpenClaim.holds_of_cond 3 Try.f3 rfl rfl rfl rfl rfl rfl rfl ⟨rfl, rfl, rfl, rfl, rfl⟩ rfl rfl rfl rfl rfl (by kernel_rfl) Try.func3 (by kernel_rfl)
    (of_decide_eq_true (by kernel_rfl)) (by unfold Func.isWrapper; first | (rw [if_pos (by decide +kernel)]; kernel_rfl) | (rw [if_neg (by decide +kernel)]; exact ⟨rfl, rfl⟩))
    (fun os started H enc _ F => by rw [OpenClaim.pre_eq_preRow]; exact lifted os started H enc F)
end TranscriptFrames
end Go.Gx

namespace Go.Proofs.Ythgclfedhgmpiaa
theorem transcriptFramesProved : Rows.TranscriptFramesUptoSaid := Go.Gx.TranscriptFrames.said
end Go.Proofs.Ythgclfedhgmpiaa
#print axioms Go.Proofs.Ythgclfedhgmpiaa.transcriptFramesProved
