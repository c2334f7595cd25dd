/- TranscriptGiven: a Script answers just what it was given, and hears just what it was told; what it was given, what was handed to it and what it answered is spoilt meanwhile, and that changes nothing. For lists that are not more than the second form's bound. The table lies as the program's text lays it. -/
import Derived.Test.YthgclfedhgmpiaaDoorM7
import Derived.Test.YthgclfedhgmpiaaDoorM5
import Derived.Test.YthgclfedhgmpiaaDoorCards
import Derived.Test.YthgclfedhgmpiaaDoorTie
import Derived.WalkKit
import Derived.ProofKit
import Derived.OpenShut
import Derived.Carry
import Derived.Deep.DeepHandedRow
import Derived.Lib.LaidTab
import Derived.ChangeSlices
import Derived.SizedLaws
import Derived.Stop.LaidErr
import Derived.Test.YthgclfedhgmpiaaDoorRows

/- TranscriptGiven: the loops' shape. -/
namespace Go.Gx
open Go.Proofs Go.Sp
set_option linter.unusedVariables false
set_option maxRecDepth 100000
namespace TranscriptGiven
def Γg : Tab := ⟨tys, [(18, scqCtr none [] heardG), (19, genCtr [.d (.l shSt), .d (.l shSay)] hrdG), (9, newCtr), (11, scrCtr [.v, .d (.l (.ints .u8))] scAbsG), (15, scrCtr [.v] scDrawG1), (14, spoil2), (13, genCtr [.d shH, .d (.l (.ints .u8))] leftG), (12, givenCtr), (10, famCtr .u8 [.d (.l (.ints .u8))] handG), (16, pureCtr Sc.rleastS), (17, genCtr [.v] nuG1)], [1], Sc.gh⟩
def t3 (o : SV) (h : Heap) : St := ⟨[.ro 490 (.l (.arr 4 .u64)) (.r []), .ro 490 (.l shSay) (.r []), .any, .any, .any, o, .i .i64 ⟨false, 0⟩] ++ reps .any 140, Sc.gh ++ (490, .world) :: h, 5000⟩
def iSl (k : Nat) : SV := .sl k 0 4 ⟨true, .ofNat 0⟩ ⟨false, 0⟩
def scrP : Heap := [(1001, .segs false [.one (.sl 1002 0 4 ⟨false, 0⟩ ⟨false, 0⟩), .one (.sl 1003 0 3 ⟨true, .ofNat 0⟩ ⟨false, 0⟩), .one (.b false false)]), (1002, .segs false [.rowA .u64 4 []]), (1003, .segs false [.rowD 1004 shSt []]), (1004, .pool .z [])]
def t10 (o : SV) (h : Heap) : St := ⟨[.ro 490 (.l (.arr 4 .u64)) (.r []), .ro 490 (.l shSay) (.r []), .any, .any, .any, o, .any, .p 1001 0, .i .i64 ⟨false, 0⟩] ++ reps .any 138, Sc.gh ++ (490, .world) :: (scrP ++ h), 5000⟩
def t16 (o : SV) (h : Heap) : St := ⟨[.ro 490 (.l (.arr 4 .u64)) (.r []), .ro 490 (.l shSay) (.r []), .any, .any, .any, .any, .any, .p 1001 0, .any, .i .i64 ⟨false, 0⟩, o, .i .i64 ⟨false, 0⟩] ++ reps .any 135, Sc.gh ++ (490, .world) :: (scrP ++ h), 5000⟩
def t45 (k : PK) (o : SV) (h : Heap) : St := ⟨[.ro 490 (.l (.arr 4 .u64)) (.r []), .ro 490 (.l shSay) (.r []), .any, .any, .any, .any, .any, .p 1001 0, .any, .i .i64 ⟨false, 0⟩, o, .i .i64 ⟨false, 0⟩] ++ reps .any 6 ++ [.sl 1006 0 3 ⟨true, .ofNat 0⟩ ⟨false, 0⟩, .i .i64 ⟨false, 0⟩] ++ reps .any 127, Sc.gh ++ (490, .world) :: (scrP ++ (1006, .segs false [.rowD 1007 shSt []]) :: (1007, .pool k []) :: h), 5000⟩
def hIn : Heap := [(1000, .segs false [.rowA .u64 4 []])]
def hWn : Heap := [(1005, .segs false [.rowD 490 shSay []])]
def L3g : Loops := [(3, t3 .nsl []), (1003, t3 (iSl 1000) hIn), (10, t10 .nsl []), (1010, t10 (iSl 1000) hIn), (16, t16 .nsl []), (1016, t16 (iSl 1005) hWn), (45, t45 .z .nsl []), (1045, t45 .z (iSl 1005) hWn), (2045, t45 .h (iSl 1005) hWn)]
abbrev KG := List RV → List (Option (List Seg)) → Prop
def vc3 (d c : RO) (K : KG) (Q : Nat → List Pv → Prop) : Prop := fnVcG 0 Γg Tryd.f3 L3g [.ro 490 (.l (.arr 4 .u64)) d, .ro 490 (.l shSay) c] (Sc.gh ++ [(490, .world)]) K Q
def lc3a (d c : RO) (i : Int) (K : KG) (Q : Nat → List Pv → Prop) : Prop := loopVcG 0 Γg Tryd.f3 L3g 3 [.ro d, .ro c, .z i] K Q
def lc3b (d c : RO) (n i : Int) (l : List (List Int)) (K : KG) (Q : Nat → List Pv → Prop) : Prop := loopVcG 0 Γg Tryd.f3 L3g 1003 [.ro d, .ro c, .z n, .z i, .ll l] K Q
def lc10a (d c : RO) (i off len n : Int) (b : Bool) (zs al : List (List Int)) (ds : List RO) (K : KG) (Q : Nat → List Pv → Prop) : Prop := loopVcG 0 Γg Tryd.f3 L3g 10 [.ro d, .ro c, .z i, .z off, .z len, .z n, .b b, .ll al, .ro (.r ds), .ll zs] K Q
def lc10b (d c : RO) (m i off len n : Int) (b : Bool) (zs al : List (List Int)) (ds : List RO) (l : List (List Int)) (K : KG) (Q : Nat → List Pv → Prop) : Prop := loopVcG 0 Γg Tryd.f3 L3g 1010 [.ro d, .ro c, .z m, .z i, .z off, .z len, .z n, .b b, .ll al, .ro (.r ds), .ll zs, .ll l] K Q
def lc16a (d c : RO) (tk i off len n : Int) (b : Bool) (zs al : List (List Int)) (ds : List RO) (K : KG) (Q : Nat → List Pv → Prop) : Prop := loopVcG 0 Γg Tryd.f3 L3g 16 [.ro d, .ro c, .z tk, .z i, .z off, .z len, .z n, .b b, .ll al, .ro (.r ds), .ll zs] K Q
def lc16b (d c : RO) (tk nw i off len n : Int) (b : Bool) (zs al : List (List Int)) (ds ws : List RO) (K : KG) (Q : Nat → List Pv → Prop) : Prop := loopVcG 0 Γg Tryd.f3 L3g 1016 [.ro d, .ro c, .z tk, .z nw, .z i, .z off, .z len, .z n, .b b, .ll al, .ro (.r ds), .ll zs, .ro (.r ws)] K Q
def lc45a (d c : RO) (tk i nh j off len n : Int) (b : Bool) (zs al : List (List Int)) (ds : List RO) (hz : List (List Int)) (hs : List RO) (K : KG) (Q : Nat → List Pv → Prop) : Prop := loopVcG 0 Γg Tryd.f3 L3g 45 [.ro d, .ro c, .z tk, .z i, .z nh, .z j, .z off, .z len, .z n, .b b, .ll al, .ro (.r ds), .ll zs, .ro (.r hs), .ll hz] K Q
def lc45b (d c : RO) (tk nw i nh j off len n : Int) (b : Bool) (zs al : List (List Int)) (ds : List RO) (hz : List (List Int)) (hs ws : List RO) (K : KG) (Q : Nat → List Pv → Prop) : Prop := loopVcG 0 Γg Tryd.f3 L3g 1045 [.ro d, .ro c, .z tk, .z nw, .z i, .z nh, .z j, .z off, .z len, .z n, .b b, .ll al, .ro (.r ds), .ll zs, .ro (.r hs), .ll hz, .ro (.r ws)] K Q
def lc45c (d c : RO) (tk nw i nh j off len n : Int) (b : Bool) (zs al : List (List Int)) (ds : List RO) (hz : List (List Int)) (hs ws : List RO) (K : KG) (Q : Nat → List Pv → Prop) : Prop := loopVcG 0 Γg Tryd.f3 L3g 2045 [.ro d, .ro c, .z tk, .z nw, .z i, .z nh, .z j, .z off, .z len, .z n, .b b, .ll al, .ro (.r ds), .ll zs, .ro (.r hs), .ll hz, .ro (.r ws)] K Q
theorem Γg_ok : TabOk Tryd.prog Γg := ((((((((((Sc.Γ0_ok.cons (CallOk.mono subS nuG1_ok)).cons Sc.rleast_ok).cons (CallOk.mono subS handG_ok)).cons (CallOk.mono subS given_ok)).cons (CallOk.mono subS left_ok)).cons (CallOk.mono subS spoil2_ok)).cons scDraw1_ok).cons (CallOk.mono subS scAbs_ok)).cons (CallOk.mono subS newScr_ok)).cons (CallOk.mono subS hrdG_ok)).cons (CallOk.mono subS heard18_ok)
theorem vc3_eq : ∀ (d c : RO) (K : KG) (Q : Nat → List Pv → Prop), vc3 d c K Q = (Same Tryd.f3 3 (itemsOf Tryd.f3 3) ∧ Q 3 [Pv.ro d, Pv.ro c, Pv.z 0]) := by
 intros
 kernel_rfl
theorem lc3a_eq : ∀ (d c : RO) (i : Int) (K : KG) (Q : Nat → List Pv → Prop), lc3a d c i K Q = ((decide (i < (((roX d).length : Nat) : Int)) = true → Need (0 ≤ i ∧ i < (((roX d).length : Nat) : Int)) ∧ ForA .u64 4 (roL (roN d i.toNat)) fun x1 => Need (((([] ++ List.take 1 (List.drop 0 [x1])).length : Nat) : Int) * 32 ≤ (70368744177664 : Int)) ∧ Need ((1 : Int) ≤ (([x1].length : Nat) : Int)) ∧ ∀ (x2 : List (List Int)), x2 = [] ++ List.take 1 (List.drop 0 [x1]) → AllA .u64 (4 : Nat) x2 → ForN ((([] ++ List.take 1 (List.drop 0 [x1])).length : Nat) : Int) fun x3 => ForI .i64 (IntKind.i64.wrap (i + 1)) fun x4 => Same Tryd.f3 3 (itemsOf Tryd.f3 3) ∧ Q 1003 [Pv.ro d, Pv.ro c, Pv.z x3, Pv.z x4, Pv.ll x2]) ∧ (decide (i < (((roX d).length : Nat) : Int)) = false → Need ((0 : Int) ≤ 70368744177664) ∧ ∀ (x5 : List (List Int)), x5 = [] → ∀ (x6 : List (List Int)), x6 = List.map roL (roX (RO.r [])) → AllA .u64 (4 : Nat) x6 → Same Tryd.f3 10 (itemsOf Tryd.f3 10) ∧ Q 10 [Pv.ro d, Pv.ro c, Pv.z 0, Pv.z 0, Pv.z 0, Pv.z 0, Pv.b true, Pv.ll x6, Pv.ro (RO.r []), Pv.ll x5])) := by
 intros
 kernel_rfl
theorem lc3b_eq : ∀ (d c : RO) (n i : Int) (l : List (List Int)) (K : KG) (Q : Nat → List Pv → Prop), lc3b d c n i l K Q = ((decide (i < (((roX d).length : Nat) : Int)) = true → Need (0 ≤ i ∧ i < (((roX d).length : Nat) : Int)) ∧ ForA .u64 4 (roL (roN d i.toNat)) fun x1 => Need ((((l ++ List.take 1 (List.drop 0 [x1])).length : Nat) : Int) * 32 ≤ (70368744177664 : Int)) ∧ Need (n = ((l.length : Nat) : Int)) ∧ Need ((1 : Int) ≤ (([x1].length : Nat) : Int)) ∧ ∀ (x2 : List (List Int)), x2 = l ++ List.take 1 (List.drop 0 [x1]) → AllA .u64 (4 : Nat) x2 → ForN (((l ++ List.take 1 (List.drop 0 [x1])).length : Nat) : Int) fun x3 => ForI .i64 (IntKind.i64.wrap (i + 1)) fun x4 => Same Tryd.f3 3 (itemsOf Tryd.f3 3) ∧ Q 1003 [Pv.ro d, Pv.ro c, Pv.z x3, Pv.z x4, Pv.ll x2]) ∧ (decide (i < (((roX d).length : Nat) : Int)) = false → Need ((0 : Int) + n ≤ ((l.length : Nat) : Int)) ∧ Need ((((roX (RO.r (List.map RO.l (List.take n.toNat (List.drop 0 l))))).length : Nat) : Int) * 32 ≤ (70368744177664 : Int)) ∧ ∀ (x5 : List (List Int)), x5 = [] → ∀ (x6 : List (List Int)), x6 = List.map roL (roX (RO.r (List.map RO.l (List.take n.toNat (List.drop 0 l))))) → AllA .u64 (4 : Nat) x6 → Same Tryd.f3 10 (itemsOf Tryd.f3 10) ∧ Q 1010 [Pv.ro d, Pv.ro c, Pv.z n, Pv.z 0, Pv.z 0, Pv.z (((roX (RO.r (List.map RO.l (List.take n.toNat (List.drop 0 l))))).length : Nat) : Int), Pv.z ((([] : List RO).length : Nat) : Int), Pv.b true, Pv.ll x6, Pv.ro (RO.r []), Pv.ll x5, Pv.ll l])) := by
 intros
 kernel_rfl
theorem lc10a_eq : ∀ (d c : RO) (i off len n : Int) (b : Bool) (zs al : List (List Int)) (ds : List RO) (K : KG) (Q : Nat → List Pv → Prop), lc10a d c i off len n b zs al ds K Q = ((decide (i < 0) = true → False) ∧ (decide (i < 0) = false → Same Tryd.f3 16 (itemsOf Tryd.f3 16) ∧ Q 16 [Pv.ro d, Pv.ro c, Pv.z 0, Pv.z 0, Pv.z off, Pv.z len, Pv.z n, Pv.b b, Pv.ll al, Pv.ro (RO.r (roX (RO.r ds))), Pv.ll zs])) := by
 intros
 kernel_rfl
theorem lc10b_eq : ∀ (d c : RO) (m i off len n : Int) (b : Bool) (zs al : List (List Int)) (ds : List RO) (l : List (List Int)) (K : KG) (Q : Nat → List Pv → Prop), lc10b d c m i off len n b zs al ds l K Q = ((decide (i < m) = true → Need (0 ≤ i ∧ i < m) ∧ Need (0 ≤ i ∧ i < ((l.length : Nat) : Int)) ∧ ∀ (x1 : List (List Int)), x1 = l.set i.toNat [(9 : Int), (9 : Int), (9 : Int), (9 : Int)] → AllA .u64 (4 : Nat) x1 → ForI .i64 (IntKind.i64.wrap (i + 1)) fun x2 => Same Tryd.f3 10 (itemsOf Tryd.f3 10) ∧ Q 1010 [Pv.ro d, Pv.ro c, Pv.z m, Pv.z x2, Pv.z off, Pv.z len, Pv.z n, Pv.b b, Pv.ll al, Pv.ro (RO.r (roX (RO.r ds))), Pv.ll zs, Pv.ll x1]) ∧ (decide (i < m) = false → Same Tryd.f3 16 (itemsOf Tryd.f3 16) ∧ Q 16 [Pv.ro d, Pv.ro c, Pv.z 0, Pv.z 0, Pv.z off, Pv.z len, Pv.z n, Pv.b b, Pv.ll al, Pv.ro (RO.r (roX (RO.r ds))), Pv.ll zs])) := by
 intros
 kernel_rfl
theorem lc45a_eq : ∀ (d c : RO) (tk i nh j off len n : Int) (b : Bool) (zs al : List (List Int)) (ds : List RO) (hz : List (List Int)) (hs : List RO) (K : KG) (Q : Nat → List Pv → Prop), lc45a d c tk i nh j off len n b zs al ds hz hs K Q = ((decide (j < nh) = true → Need (0 ≤ j ∧ j < nh) ∧ Need (0 ≤ j ∧ j < (((roX (RO.r hs)).length : Nat) : Int)) ∧ Need (0 ≤ j ∧ j < nh) ∧ Need (0 ≤ j ∧ j < (((roX (RO.r hs)).length : Nat) : Int)) ∧ ForI .i64 (IntKind.i64.wrap (j + 1)) fun x1 => Same Tryd.f3 (45 : Nat) (itemsOf Tryd.f3 (45 : Nat)) ∧ False) ∧ (decide (j < nh) = false → ForI .i64 (IntKind.i64.wrap (i + 1)) fun x2 => Same Tryd.f3 16 (itemsOf Tryd.f3 16) ∧ Q 16 [Pv.ro d, Pv.ro c, Pv.z tk, Pv.z x2, Pv.z off, Pv.z len, Pv.z n, Pv.b b, Pv.ll al, Pv.ro (RO.r (roX (RO.r ds))), Pv.ll zs])) := by
 intros
 kernel_rfl
theorem lc45b_eq : ∀ (d c : RO) (tk nw i nh j off len n : Int) (b : Bool) (zs al : List (List Int)) (ds : List RO) (hz : List (List Int)) (hs ws : List RO) (K : KG) (Q : Nat → List Pv → Prop), lc45b d c tk nw i nh j off len n b zs al ds hz hs ws K Q = ((decide (j < nh) = true → Need (0 ≤ j ∧ j < nh) ∧ Need (0 ≤ j ∧ j < (((roX (RO.r hs)).length : Nat) : Int)) ∧ Need (0 ≤ j ∧ j < nh) ∧ Need (0 ≤ j ∧ j < (((roX (RO.r hs)).length : Nat) : Int)) ∧ ForI .i64 (IntKind.i64.wrap (j + 1)) fun x1 => Same Tryd.f3 45 (itemsOf Tryd.f3 45) ∧ Q 2045 [Pv.ro d, Pv.ro c, Pv.z tk, Pv.z nw, Pv.z i, Pv.z nh, Pv.z x1, Pv.z off, Pv.z len, Pv.z n, Pv.b b, Pv.ll al, Pv.ro (RO.r (roX (RO.r ds))), Pv.ll zs, Pv.ro (RO.r ((roX (RO.r hs)).set j.toNat (RO.r [RO.b false, RO.s (ByteArray.mk #[115, 112, 111, 105, 108, 116]), RO.r []]))), Pv.ll (List.replicate hz.length []), Pv.ro (RO.r (roX (RO.r ws)))]) ∧ (decide (j < nh) = false → ForI .i64 (IntKind.i64.wrap (i + 1)) fun x2 => Same Tryd.f3 16 (itemsOf Tryd.f3 16) ∧ Q 1016 [Pv.ro d, Pv.ro c, Pv.z tk, Pv.z nw, Pv.z x2, Pv.z off, Pv.z len, Pv.z n, Pv.b b, Pv.ll al, Pv.ro (RO.r (roX (RO.r ds))), Pv.ll zs, Pv.ro (RO.r (roX (RO.r ws)))])) := by
 intros
 kernel_rfl
theorem lc45c_eq : ∀ (d c : RO) (tk nw i nh j off len n : Int) (b : Bool) (zs al : List (List Int)) (ds : List RO) (hz : List (List Int)) (hs ws : List RO) (K : KG) (Q : Nat → List Pv → Prop), lc45c d c tk nw i nh j off len n b zs al ds hz hs ws K Q = ((decide (j < nh) = true → Need (0 ≤ j ∧ j < nh) ∧ Need (0 ≤ j ∧ j < (((roX (RO.r hs)).length : Nat) : Int)) ∧ Need (0 ≤ j ∧ j < nh) ∧ Need (0 ≤ j ∧ j < (((roX (RO.r hs)).length : Nat) : Int)) ∧ ForI .i64 (IntKind.i64.wrap (j + 1)) fun x1 => Same Tryd.f3 45 (itemsOf Tryd.f3 45) ∧ Q 2045 [Pv.ro d, Pv.ro c, Pv.z tk, Pv.z nw, Pv.z i, Pv.z nh, Pv.z x1, Pv.z off, Pv.z len, Pv.z n, Pv.b b, Pv.ll al, Pv.ro (RO.r (roX (RO.r ds))), Pv.ll zs, Pv.ro (RO.r ((roX (RO.r hs)).set j.toNat (RO.r [RO.b false, RO.s (ByteArray.mk #[115, 112, 111, 105, 108, 116]), RO.r []]))), Pv.ll (List.replicate hz.length []), Pv.ro (RO.r (roX (RO.r ws)))]) ∧ (decide (j < nh) = false → ForI .i64 (IntKind.i64.wrap (i + 1)) fun x2 => Same Tryd.f3 16 (itemsOf Tryd.f3 16) ∧ Q 1016 [Pv.ro d, Pv.ro c, Pv.z tk, Pv.z nw, Pv.z x2, Pv.z off, Pv.z len, Pv.z n, Pv.b b, Pv.ll al, Pv.ro (RO.r (roX (RO.r ds))), Pv.ll zs, Pv.ro (RO.r (roX (RO.r ws)))])) := by
 intros
 kernel_rfl
def G1 (d c : RO) (tk i off len n : Int) (b : Bool) (zs al : List (List Int)) (ds W : List RO) (NW : (Int → Prop) → Prop) (K : KG) (Q : Nat → List Pv → Prop) (q : RO) (s : ByteArray) (x1 x2 : Int) : Prop := Need (∀ (i_1 : Nat), i_1 < (roX q).length → (((roL (roN q i_1)).length : Nat) : Int) + (8 : Int) ≤ (70368744177664 : Int)) ∧ Need (((((roX q).length + (1 : Nat)) : Nat) : Int) * (24 : Int) ≤ (70368744177664 : Int)) ∧ ∀ (x3 : List (List Int)), x3 = rowsT q (roX q).length ++ [marksL] → ∀ (x4 : Int), x4 = (((List.length (fullT q (roX q).length)) : Nat) : Int) → (0 : Int) ≤ x4 → InR IntKind.i64 x4 → ∀ (x5 : Int), x5 = (((List.length (headT q (roX q).length ++ [((roX q).length, (8 : Nat))])) : Nat) : Int) → (0 : Int) ≤ x5 → InR IntKind.i64 x5 → Need (x4 ≤ x5) ∧ Need (n = (((roX (RO.r ds)).length : Nat) : Int)) ∧ Need ((0 : Int) + x4 ≤ (((List.length (headT q (roX q).length ++ [((roX q).length, (8 : Nat))])) : Nat) : Int)) ∧ Need (∀ (h : Nat × Nat), h ∈ List.take x4.toNat (List.drop (0 : Nat) (headT q (roX q).length ++ [((roX q).length, (8 : Nat))])) → h.snd ≤ (x3.getD h.fst []).length) ∧ Need (b = true) ∧ Need ((((roX (RO.r (List.map (fun h => RO.l (List.take h.snd (x3.getD h.fst []))) (List.take x4.toNat (List.drop (0 : Nat) (headT q (roX q).length ++ [((roX q).length, (8 : Nat))])))))).length : Nat) : Int) * (24 : Int) ≤ (70368744177664 : Int) ∧ (∀ (i_1 : Nat), i_1 < (roX (RO.r (List.map (fun h => RO.l (List.take h.snd (x3.getD h.fst []))) (List.take x4.toNat (List.drop (0 : Nat) (headT q (roX q).length ++ [((roX q).length, (8 : Nat))])))))).length → (((roL (roN (RO.r (List.map (fun h => RO.l (List.take h.snd (x3.getD h.fst []))) (List.take x4.toNat (List.drop (0 : Nat) (headT q (roX q).length ++ [((roX q).length, (8 : Nat))]))))) i_1)).length : Nat) : Int) ≤ (70368744177664 : Int)) ∧ True) ∧ Need (((((roX (RO.r ds)).length + (1 : Nat)) : Nat) : Int) * (48 : Int) ≤ (70368744177664 : Int)) ∧ ∀ (x6 : List (List Int)), x6 = al → AllA IntKind.u64 (4 : Nat) x6 → ∀ (x7 : List (List Int)), x7 = zs ++ List.replicate ((roX (RO.r (List.map (fun h => RO.l (List.take h.snd (x3.getD h.fst []))) (List.take x4.toNat (List.drop (0 : Nat) (headT q (roX q).length ++ [((roX q).length, (8 : Nat))])))))).length + (1 : Nat)) [] → Need ((0 : Int) + x4 ≤ (((List.length (fullT q (roX q).length)) : Nat) : Int)) ∧ Need (∀ (h : Nat × Nat), h ∈ List.take x4.toNat (List.drop (0 : Nat) (fullT q (roX q).length)) → h.snd ≤ (x3.getD h.fst []).length) ∧ Need ((0 : Int) + x5 ≤ (((List.length (headT q (roX q).length ++ [((roX q).length, (8 : Nat))])) : Nat) : Int)) ∧ Need (∀ (h : Nat × Nat), h ∈ List.take x5.toNat (List.drop (0 : Nat) (headT q (roX q).length ++ [((roX q).length, (8 : Nat))])) → h.snd ≤ (x3.getD h.fst []).length) ∧ Need ((roX (roN (RO.r [RO.r (List.map (fun h => RO.l (List.take h.snd (x3.getD h.fst []))) (List.take x4.toNat (List.drop (0 : Nat) (fullT q (roX q).length)))), RO.r (List.map (fun h => RO.l (List.take h.snd (x3.getD h.fst []))) (List.take x5.toNat (List.drop (0 : Nat) (headT q (roX q).length ++ [((roX q).length, (8 : Nat))]))))]) (1 : Nat))).length = (roX q).length + (1 : Nat) ∧ (roX (roN (RO.r [RO.r (List.map (fun h => RO.l (List.take h.snd (x3.getD h.fst []))) (List.take x4.toNat (List.drop (0 : Nat) (fullT q (roX q).length)))), RO.r (List.map (fun h => RO.l (List.take h.snd (x3.getD h.fst []))) (List.take x5.toNat (List.drop (0 : Nat) (headT q (roX q).length ++ [((roX q).length, (8 : Nat))]))))]) (0 : Nat))).length = (roX q).length ∧ roL (roN (roN (RO.r [RO.r (List.map (fun h => RO.l (List.take h.snd (x3.getD h.fst []))) (List.take x4.toNat (List.drop (0 : Nat) (fullT q (roX q).length)))), RO.r (List.map (fun h => RO.l (List.take h.snd (x3.getD h.fst []))) (List.take x5.toNat (List.drop (0 : Nat) (headT q (roX q).length ++ [((roX q).length, (8 : Nat))]))))]) (1 : Nat)) (roX q).length) = marksL) ∧ Need (∀ (i_1 : Nat), i_1 < (roX q).length → roL (roN (roN (RO.r [RO.r (List.map (fun h => RO.l (List.take h.snd (x3.getD h.fst []))) (List.take x4.toNat (List.drop (0 : Nat) (fullT q (roX q).length)))), RO.r (List.map (fun h => RO.l (List.take h.snd (x3.getD h.fst []))) (List.take x5.toNat (List.drop (0 : Nat) (headT q (roX q).length ++ [((roX q).length, (8 : Nat))]))))]) (0 : Nat)) i_1) = roL (roN q i_1) ++ marksL ∧ roL (roN (roN (RO.r [RO.r (List.map (fun h => RO.l (List.take h.snd (x3.getD h.fst []))) (List.take x4.toNat (List.drop (0 : Nat) (fullT q (roX q).length)))), RO.r (List.map (fun h => RO.l (List.take h.snd (x3.getD h.fst []))) (List.take x5.toNat (List.drop (0 : Nat) (headT q (roX q).length ++ [((roX q).length, (8 : Nat))]))))]) (1 : Nat)) i_1) = roL (roN q i_1) ∧ (((roL (roN q i_1)).length : Nat) : Int) + (8 : Int) < (9223372036854775808 : Int)) ∧ ∀ (x8 : Bool), x8 = true → ((!x8) = true → K [RV.v (SV.b true false)] []) ∧ ((!x8) = false → Need (x4 ≤ x5) ∧ Need ((0 : Int) ≤ x4 ∧ x4 ≤ (((List.length (headT q (roX q).length ++ [((roX q).length, (8 : Nat))])) : Nat) : Int) ∧ List.length (headT q (roX q).length ++ [((roX q).length, (8 : Nat))]) ≤ (70368744177664 : Nat) ∧ ∀ (i_1 : Nat), ((i_1 : Nat) : Int) < x4 → (List.getD (headT q (roX q).length ++ [((roX q).length, (8 : Nat))]) i_1 ((0 : Nat), (0 : Nat))).snd ≤ (x3.getD (List.getD (headT q (roX q).length ++ [((roX q).length, (8 : Nat))]) i_1 ((0 : Nat), (0 : Nat))).fst []).length ∧ (List.getD (headT q (roX q).length ++ [((roX q).length, (8 : Nat))]) i_1 ((0 : Nat), (0 : Nat))).snd ≤ (70368744177664 : Nat)) ∧ NW fun x9 => ∀ (x10 : Int), x10 = IntKind.i64.wrap (i + (1 : Int)) → InR IntKind.i64 x10 → Same Tryd.f3 (16 : Nat) (itemsOf Tryd.f3 (16 : Nat)) ∧ Q (1016 : Nat) [Pv.ro d, Pv.ro c, Pv.z tk, Pv.z x9, Pv.z x10, Pv.z off, Pv.z len, Pv.z (((roX (RO.r ds) ++ [heardA s (RO.r (List.map (fun h => RO.l (List.take h.snd (x3.getD h.fst []))) (List.take x4.toNat (List.drop (0 : Nat) (headT q (roX q).length ++ [((roX q).length, (8 : Nat))])))))]).length : Nat) : Int), Pv.b b, Pv.ll x6, Pv.ro (RO.r (roX (RO.r ds) ++ [heardA s (RO.r (List.map (fun h => RO.l (List.take h.snd (x3.getD h.fst []))) (List.take x4.toNat (List.drop (0 : Nat) (headT q (roX q).length ++ [((roX q).length, (8 : Nat))])))))])), Pv.ll x7, Pv.ro (RO.r (W ++ [RO.r [RO.i x1, RO.i x2, RO.s s, q]]))])
def G2 (d c : RO) (tk i off len n : Int) (b : Bool) (zs al : List (List Int)) (ds W : List RO) (NW : (Int → Prop) → Prop) (K : KG) (Q : Nat → List Pv → Prop) (q : RO) (s : ByteArray) (x1 x2 : Int) : Prop := Need (n = (((roX (RO.r ds)).length : Nat) : Int)) ∧ Need (b = true) ∧ Need (((((roX (RO.r ds)).length + (1 : Nat)) : Nat) : Int) * (48 : Int) ≤ (70368744177664 : Int)) ∧ Need (off + len ≤ ((al.length : Nat) : Int)) ∧ ∀ (x11 : List (List Int)), x11 = al → AllA IntKind.u64 (4 : Nat) x11 → ∀ (x12 : List (List Int)), x12 = zs ++ List.replicate (0 : Nat) [] → ∀ (x13 : List Int), x13 = ansD al off len → x13.length = (4 : Nat) → AllR IntKind.u64 x13 → ∀ (x14 : Int), x14 = errD al off len → InR IntKind.i64 x14 → (decide (tk < (((roX d).length : Nat) : Int)) = true → Need ((0 : Int) ≤ tk ∧ tk < (((roX d).length : Nat) : Int)) ∧ ∀ (x15 : List Int), x15 = roL (roN d tk.toNat) → x15.length = (4 : Nat) → AllR IntKind.u64 x15 → ∀ (x16 : Int), x16 = Sc.w0 (Sc.val4 x15 % (7237005577332262213973186563042994240857116359379907606001950938285454250989 : Int)) → InR IntKind.u64 x16 → ∀ (x17 : Int), x17 = Sc.w1 (Sc.val4 x15 % (7237005577332262213973186563042994240857116359379907606001950938285454250989 : Int)) → InR IntKind.u64 x17 → ∀ (x18 : Int), x18 = Sc.w2 (Sc.val4 x15 % (7237005577332262213973186563042994240857116359379907606001950938285454250989 : Int)) → InR IntKind.u64 x18 → ∀ (x19 : Int), x19 = Sc.w3 (Sc.val4 x15 % (7237005577332262213973186563042994240857116359379907606001950938285454250989 : Int)) → InR IntKind.u64 x19 → (([x16, x17, x18, x19] == [(0 : Int), (0 : Int), (0 : Int), (0 : Int)]) = true → ∀ (x20 : Int), x20 = IntKind.i64.wrap (tk + (1 : Int)) → InR IntKind.i64 x20 → ((!x13 == [x16, x17, x18, x19]) = true → K [RV.v (SV.b true false)] []) ∧ ((!x13 == [x16, x17, x18, x19]) = false → ∀ (x21 : Int), x21 = x14 → InR IntKind.i64 x21 → ((x21 != (4 : Int)) = true → K [RV.v (SV.b true false)] []) ∧ ((x21 != (4 : Int)) = false → NW fun x22 => ∀ (x23 : Int), x23 = IntKind.i64.wrap (i + (1 : Int)) → InR IntKind.i64 x23 → Same Tryd.f3 (16 : Nat) (itemsOf Tryd.f3 (16 : Nat)) ∧ Q (1016 : Nat) [Pv.ro d, Pv.ro c, Pv.z x20, Pv.z x22, Pv.z x23, Pv.z (offD off len), Pv.z (lenD len), Pv.z (((roX (RO.r ds) ++ [heardD s]).length : Nat) : Int), Pv.b b, Pv.ll x11, Pv.ro (RO.r (roX (RO.r ds) ++ [heardD s])), Pv.ll x12, Pv.ro (RO.r (W ++ [RO.r [RO.i x1, RO.i x2, RO.s s, q]]))]))) ∧ (([x16, x17, x18, x19] == [(0 : Int), (0 : Int), (0 : Int), (0 : Int)]) = false → ∀ (x24 : Int), x24 = IntKind.i64.wrap (tk + (1 : Int)) → InR IntKind.i64 x24 → ((!x13 == [x16, x17, x18, x19]) = true → K [RV.v (SV.b true false)] []) ∧ ((!x13 == [x16, x17, x18, x19]) = false → ∀ (x25 : Int), x25 = x14 → InR IntKind.i64 x25 → ((x25 != (0 : Int)) = true → K [RV.v (SV.b true false)] []) ∧ ((x25 != (0 : Int)) = false → NW fun x26 => ∀ (x27 : Int), x27 = IntKind.i64.wrap (i + (1 : Int)) → InR IntKind.i64 x27 → Same Tryd.f3 (16 : Nat) (itemsOf Tryd.f3 (16 : Nat)) ∧ Q (1016 : Nat) [Pv.ro d, Pv.ro c, Pv.z x24, Pv.z x26, Pv.z x27, Pv.z (offD off len), Pv.z (lenD len), Pv.z (((roX (RO.r ds) ++ [heardD s]).length : Nat) : Int), Pv.b b, Pv.ll x11, Pv.ro (RO.r (roX (RO.r ds) ++ [heardD s])), Pv.ll x12, Pv.ro (RO.r (W ++ [RO.r [RO.i x1, RO.i x2, RO.s s, q]]))])))) ∧ (decide (tk < (((roX d).length : Nat) : Int)) = false → ((!x13 == [(0 : Int), (0 : Int), (0 : Int), (0 : Int)]) = true → K [RV.v (SV.b true false)] []) ∧ ((!x13 == [(0 : Int), (0 : Int), (0 : Int), (0 : Int)]) = false → ∀ (x28 : Int), x28 = x14 → InR IntKind.i64 x28 → ((x28 != (5 : Int)) = true → K [RV.v (SV.b true false)] []) ∧ ((x28 != (5 : Int)) = false → NW fun x29 => ∀ (x30 : Int), x30 = IntKind.i64.wrap (i + (1 : Int)) → InR IntKind.i64 x30 → Same Tryd.f3 (16 : Nat) (itemsOf Tryd.f3 (16 : Nat)) ∧ Q (1016 : Nat) [Pv.ro d, Pv.ro c, Pv.z tk, Pv.z x29, Pv.z x30, Pv.z (offD off len), Pv.z (lenD len), Pv.z (((roX (RO.r ds) ++ [heardD s]).length : Nat) : Int), Pv.b b, Pv.ll x11, Pv.ro (RO.r (roX (RO.r ds) ++ [heardD s])), Pv.ll x12, Pv.ro (RO.r (W ++ [RO.r [RO.i x1, RO.i x2, RO.s s, q]]))])))
def G4 (n : Int) (b : Bool) (zs al : List (List Int)) (ds W : List RO) (NH : Prop → Prop) (R45 : Int → List (List Int) → List (List Int) → List (List Int) → Prop) (K : KG) : Prop := Need (n = (((roX (RO.r ds)).length : Nat) : Int)) ∧ Need (b = true) ∧ Need ((((roX (RO.r ds)).length : Nat) : Int) * (48 : Int) ≤ (70368744177664 : Int)) ∧ Need (∀ (i : Nat), i < (roX (RO.r ds)).length → (((roX (roN ((roX (RO.r ds)).getD i (RO.r [])) (2 : Nat))).length : Nat) : Int) * (24 : Int) ≤ (70368744177664 : Int) ∧ (∀ (i_1 : Nat), i_1 < (roX (roN ((roX (RO.r ds)).getD i (RO.r [])) (2 : Nat))).length → (((roL (roN (roN ((roX (RO.r ds)).getD i (RO.r [])) (2 : Nat)) i_1)).length : Nat) : Int) ≤ (70368744177664 : Int)) ∧ True) ∧ ∀ (x31 : List (List Int)), x31 = al → AllA IntKind.u64 (4 : Nat) x31 → ∀ (x32 : List (List Int)), x32 = zs ++ List.replicate (0 : Nat) [] → ∀ (x33 : List (List Int)), x33 = List.replicate (cntN (roX (RO.r ds)) (roX (RO.r ds)).length) [] → ∀ (x34 : Int), x34 = (((List.map recN (roX (RO.r ds))).length : Nat) : Int) → (0 : Int) ≤ x34 → InR IntKind.i64 x34 → Need ((0 : Int) = (0 : Int)) ∧ Need (x34 = (((List.map recN (roX (RO.r ds))).length : Nat) : Int)) ∧ NH (∀ (x35 : Bool), x35 = heardB (RO.r (List.map recN (roX (RO.r ds)))) (RO.r W) → ((!x35) = true → K [RV.v (SV.b true false)] []) ∧ ((!x35) = false → R45 x34 x31 x32 x33))
def G5 (n : Int) (b : Bool) (zs al : List (List Int)) (ds W : List RO) (NH : Prop → Prop) (K : KG) : Prop := Need (n = (((roX (RO.r ds)).length : Nat) : Int)) ∧ Need (b = true) ∧ Need ((((roX (RO.r ds)).length : Nat) : Int) * (48 : Int) ≤ (70368744177664 : Int)) ∧ Need (∀ (i : Nat), i < (roX (RO.r ds)).length → (((roX (roN ((roX (RO.r ds)).getD i (RO.r [])) (2 : Nat))).length : Nat) : Int) * (24 : Int) ≤ (70368744177664 : Int) ∧ (∀ (i_1 : Nat), i_1 < (roX (roN ((roX (RO.r ds)).getD i (RO.r [])) (2 : Nat))).length → (((roL (roN (roN ((roX (RO.r ds)).getD i (RO.r [])) (2 : Nat)) i_1)).length : Nat) : Int) ≤ (70368744177664 : Int)) ∧ True) ∧ ∀ (x37 : List (List Int)), x37 = al → AllA IntKind.u64 (4 : Nat) x37 → ∀ (x38 : List (List Int)), x38 = zs ++ List.replicate (0 : Nat) [] → ∀ (x39 : List (List Int)), x39 = List.replicate (cntN (roX (RO.r ds)) (roX (RO.r ds)).length) [] → ∀ (x40 : Int), x40 = (((List.map recN (roX (RO.r ds))).length : Nat) : Int) → (0 : Int) ≤ x40 → InR IntKind.i64 x40 → Need ((0 : Int) = (0 : Int)) ∧ Need (x40 = (((List.map recN (roX (RO.r ds))).length : Nat) : Int)) ∧ NH (∀ (x41 : Bool), x41 = heardB (RO.r (List.map recN (roX (RO.r ds)))) (RO.r W) → K [RV.v (SV.b false x41)] [])
def F16 (d c : RO) (tk i off len n : Int) (b : Bool) (zs al : List (List Int)) (ds W : List RO) (NW : (Int → Prop) → Prop) (NH : Prop → Prop) (R45 : Int → List (List Int) → List (List Int) → List (List Int) → Prop) (R0 : Int → Prop) (K : KG) (Q : Nat → List Pv → Prop) : Prop := ((decide (i < (((roX c).length : Nat) : Int)) = true → Need ((0 : Int) ≤ i ∧ i < (((roX c).length : Nat) : Int)) ∧ ∀ (x1 : Int), x1 = roZ (roN (roN c i.toNat) (0 : Nat)) → InR IntKind.i64 x1 → ∀ (x2 : Int), x2 = roZ (roN (roN c i.toNat) (1 : Nat)) → InR IntKind.i64 x2 → ((x1 == (1 : Int)) = true → G1 d c tk i off len n b zs al ds W NW K Q (roN (roN c i.toNat) (3 : Nat)) (roS (roN (roN c i.toNat) (2 : Nat))) x1 x2) ∧ ((x1 == (1 : Int)) = false → ((x1 == (2 : Int)) = true → G2 d c tk i off len n b zs al ds W NW K Q (roN (roN c i.toNat) (3 : Nat)) (roS (roN (roN c i.toNat) (2 : Nat))) x1 x2) ∧ ((x1 == (2 : Int)) = false → ((x1 == (4 : Int)) = true → G4 n b zs al ds W NH R45 K) ∧ ((x1 == (4 : Int)) = false → ∀ (x36 : Int), x36 = IntKind.i64.wrap (i + (1 : Int)) → InR IntKind.i64 x36 → R0 x36)))) ∧ (decide (i < (((roX c).length : Nat) : Int)) = false → G5 n b zs al ds W NH K))
theorem lc16a_eq : ∀ (d c : RO) (tk i off len n : Int) (b : Bool) (zs al : List (List Int)) (ds : List RO) (K : KG) (Q : Nat → List Pv → Prop), lc16a d c tk i off len n b zs al ds K Q = F16 d c tk i off len n b zs al ds [] (fun f => Need ((56 : Int) ≤ 70368744177664) ∧ ∀ (x : Int), x = 1 → 0 ≤ x → InR .i64 x → f x) (fun P => P) (fun x34 x31 x32 x33 => Same Tryd.f3 45 (itemsOf Tryd.f3 45) ∧ Q 45 [Pv.ro d, Pv.ro c, Pv.z tk, Pv.z i, Pv.z x34, Pv.z 0, Pv.z off, Pv.z len, Pv.z (((roX (RO.r ds)).length : Nat) : Int), Pv.b b, Pv.ll x31, Pv.ro (RO.r (roX (RO.r ds))), Pv.ll x32, Pv.ro (RO.r (List.map recN (roX (RO.r ds)))), Pv.ll x33]) (fun x36 => Same Tryd.f3 16 (itemsOf Tryd.f3 16) ∧ Q 16 [Pv.ro d, Pv.ro c, Pv.z tk, Pv.z x36, Pv.z off, Pv.z len, Pv.z n, Pv.b b, Pv.ll al, Pv.ro (RO.r (roX (RO.r ds))), Pv.ll zs]) K Q := by
 intros
 kernel_rfl
theorem lc16b_eq : ∀ (d c : RO) (tk nw i off len n : Int) (b : Bool) (zs al : List (List Int)) (ds ws : List RO) (K : KG) (Q : Nat → List Pv → Prop), lc16b d c tk nw i off len n b zs al ds ws K Q = F16 d c tk i off len n b zs al ds (roX (RO.r ws)) (fun f => Need (((((roX (RO.r ws)).length + (1 : Nat)) : Nat) : Int) * 56 ≤ (70368744177664 : Int)) ∧ Need (nw = (((roX (RO.r ws)).length : Nat) : Int)) ∧ ∀ (x : Int), x = ((((roX (RO.r ws)).length + (1 : Nat)) : Nat) : Int) → 0 ≤ x → InR .i64 x → f x) (fun P => Need ((0 : Int) = (0 : Int)) ∧ Need (nw = (((roX (RO.r ws)).length : Nat) : Int)) ∧ P) (fun x34 x31 x32 x33 => Same Tryd.f3 45 (itemsOf Tryd.f3 45) ∧ Q 1045 [Pv.ro d, Pv.ro c, Pv.z tk, Pv.z nw, Pv.z i, Pv.z x34, Pv.z 0, Pv.z off, Pv.z len, Pv.z (((roX (RO.r ds)).length : Nat) : Int), Pv.b b, Pv.ll x31, Pv.ro (RO.r (roX (RO.r ds))), Pv.ll x32, Pv.ro (RO.r (List.map recN (roX (RO.r ds)))), Pv.ll x33, Pv.ro (RO.r (roX (RO.r ws)))]) (fun x36 => Same Tryd.f3 16 (itemsOf Tryd.f3 16) ∧ Q 1016 [Pv.ro d, Pv.ro c, Pv.z tk, Pv.z nw, Pv.z x36, Pv.z off, Pv.z len, Pv.z n, Pv.b b, Pv.ll al, Pv.ro (RO.r (roX (RO.r ds))), Pv.ll zs, Pv.ro (RO.r (roX (RO.r ws)))]) K Q := by
 intros
 kernel_rfl
end TranscriptGiven
end Go.Gx

/- TranscriptGiven: the plain law of a round. -/
namespace Go.Gx
open Go.Proofs Go.Sp
set_option linter.unusedVariables false
set_option maxRecDepth 100000
namespace TranscriptGiven

def stX (x1 x2 : Int) (w : RO) : RO := .r [.i x1, .i x2, .s (roS (roN w 2)), roN w 3]
def wantX (c : RO) : Nat → List RO
 | 0 => []
 | j + 1 => if roZ (roN (roN c j) 0) = 1 ∨ roZ (roN (roN c j) 0) = 2 then wantX c j ++ [stX (roZ (roN (roN c j) 0)) (roZ (roN (roN c j) 1)) (roN c j)] else wantX c j
def hrdX (c : RO) : Nat → List RO
 | 0 => []
 | j + 1 => if roZ (roN (roN c j) 0) = 1 then hrdX c j ++ [heardA (roS (roN (roN c j) 2)) (.r (hx (roN (roN c j) 3)))] else if roZ (roN (roN c j) 0) = 2 then hrdX c j ++ [heardD (roS (roN (roN c j) 2))] else hrdX c j
def tkX (c : RO) (N : Nat) : Nat → Nat
 | 0 => 0
 | j + 1 => if roZ (roN (roN c j) 0) = 2 then (if tkX c N j < N then tkX c N j + 1 else tkX c N j) else tkX c N j

theorem tk_le (c : RO) (N : Nat) : ∀ j, tkX c N j ≤ N
 | 0 => Nat.zero_le _
 | j + 1 => by
  have := tk_le c N j
  rw [tkX]; split
  ·split <;> omega
  ·exact this
theorem wx_len (c : RO) : ∀ j, (wantX c j).length ≤ j
 | 0 => Nat.le_refl _
 | j + 1 => by
  have := wx_len c j
  rw [wantX]; split
  ·simp only [List.length_append, List.length_singleton]; omega
  ·omega
theorem gDl {α : Type} (l m : List α) (z : α) (i : Nat) (h : i < l.length) : (l ++ m).getD i z = l.getD i z := by
 rw [List.getD_eq_getElem?_getD, List.getD_eq_getElem?_getD, List.getElem?_append_left h]
theorem gDr {α : Type} (l m : List α) (z : α) (i : Nat) (h : l.length ≤ i) : (l ++ m).getD i z = m.getD (i - l.length) z := by
 rw [List.getD_eq_getElem?_getD, List.getD_eq_getElem?_getD, List.getElem?_append_right h]
theorem same_self (x : ByteArray) (l : List (List Int)) : sameB x l x l = true := decide_eq_true ⟨rfl, rfl⟩
theorem eq_1 (w : RO) (h : roZ (roN w 0) = 1) : eqH (recN (heardA (roS (roN w 2)) (.r (hx (roN w 3))))) (stX (roZ (roN w 0)) (roZ (roN w 1)) w) = true := by
 show ((false == (roZ (roN w 0) == 2)) && sameB (roS (roN w 2)) ((hx (roN w 3)).map roL) (roS (roN w 2)) (if roZ (roN w 0) = 2 then [] else (roX (roN w 3)).map roL)) = true
 rw [hx_map, h, if_neg (by decide), same_self]; rfl
theorem eq_2 (w : RO) (h : roZ (roN w 0) = 2) : eqH (recN (heardD (roS (roN w 2)))) (stX (roZ (roN w 0)) (roZ (roN w 1)) w) = true := by
 show ((true == (roZ (roN w 0) == 2)) && sameB (roS (roN w 2)) (([] : List RO).map roL) (roS (roN w 2)) (if roZ (roN w 0) = 2 then [] else (roX (roN w 3)).map roL)) = true
 rw [h, if_pos rfl]
 exact same_self _ _
theorem snoc {l m : List RO} {x y : RO} (hl : l.length = m.length) (h : ∀ i, i < m.length → eqH (roN (.r l) i) (roN (.r m) i) = true) (hx : eqH x y = true) :
  (l ++ [x]).length = (m ++ [y]).length ∧ ∀ i, i < (m ++ [y]).length → eqH (roN (.r (l ++ [x])) i) (roN (.r (m ++ [y])) i) = true := by
 refine ⟨by simp [hl], fun i hi => ?_⟩
 have er : ∀ l : List RO, roN (.r l) i = l.getD i (.r []) := fun _ => rfl
 rw [er, er]
 rcases Nat.lt_trichotomy i m.length with h' | h' | h'
 ·have := h i h'
  rw [er, er] at this
  rw [gDl _ _ _ _ (by omega), gDl _ _ _ _ h']
  exact this
 ·subst h'
  rw [gDr _ _ _ _ (by omega), gDr _ _ _ _ (Nat.le_refl _), hl, Nat.sub_self]
  exact hx
 ·simp at hi; omega
theorem w_1 {c : RO} {j : Nat} (h : roZ (roN (roN c j) 0) = 1) : wantX c (j + 1) = wantX c j ++ [stX (roZ (roN (roN c j) 0)) (roZ (roN (roN c j) 1)) (roN c j)] := by rw [wantX, if_pos (.inl h)]
theorem w_2 {c : RO} {j : Nat} (h : roZ (roN (roN c j) 0) = 2) : wantX c (j + 1) = wantX c j ++ [stX (roZ (roN (roN c j) 0)) (roZ (roN (roN c j) 1)) (roN c j)] := by rw [wantX, if_pos (.inr h)]
theorem w_3 {c : RO} {j : Nat} (h1 : ¬ roZ (roN (roN c j) 0) = 1) (h2 : ¬ roZ (roN (roN c j) 0) = 2) : wantX c (j + 1) = wantX c j := by rw [wantX, if_neg (fun h => h.elim h1 h2)]
theorem h_1 {c : RO} {j : Nat} (h : roZ (roN (roN c j) 0) = 1) : hrdX c (j + 1) = hrdX c j ++ [heardA (roS (roN (roN c j) 2)) (.r (hx (roN (roN c j) 3)))] := by rw [hrdX, if_pos h]
theorem h_2 {c : RO} {j : Nat} (h : roZ (roN (roN c j) 0) = 2) : hrdX c (j + 1) = hrdX c j ++ [heardD (roS (roN (roN c j) 2))] := by rw [hrdX, if_neg (by omega), if_pos h]
theorem h_3 {c : RO} {j : Nat} (h1 : ¬ roZ (roN (roN c j) 0) = 1) (h2 : ¬ roZ (roN (roN c j) 0) = 2) : hrdX c (j + 1) = hrdX c j := by rw [hrdX, if_neg h1, if_neg h2]
theorem k_2 {c : RO} {N j : Nat} (h : roZ (roN (roN c j) 0) = 2) : tkX c N (j + 1) = if tkX c N j < N then tkX c N j + 1 else tkX c N j := by rw [tkX, if_pos h]
theorem k_3 {c : RO} {N j : Nat} (h : ¬ roZ (roN (roN c j) 0) = 2) : tkX c N (j + 1) = tkX c N j := by rw [tkX, if_neg h]
theorem all_hrd (c : RO) : ∀ j, ((hrdX c j).map recN).length = (wantX c j).length ∧ ∀ i, i < (wantX c j).length → eqH (roN (.r ((hrdX c j).map recN)) i) (roN (.r (wantX c j)) i) = true
 | 0 => ⟨rfl, fun i hi => absurd hi (Nat.not_lt_zero i)⟩
 | j + 1 => by
  obtain ⟨h1, h2⟩ := all_hrd c j
  by_cases e : roZ (roN (roN c j) 0) = 1
  ·rw [w_1 e, h_1 e, List.map_append]
   exact snoc h1 h2 (eq_1 _ e)
  ·by_cases e2 : roZ (roN (roN c j) 0) = 2
   ·rw [w_2 e2, h_2 e2, List.map_append]
    exact snoc h1 h2 (eq_2 _ e2)
   ·rw [w_3 e e2, h_3 e e2]
    exact ⟨h1, h2⟩
theorem hrd_law (c : RO) (j : Nat) : heardB (.r ((hrdX c j).map recN)) (.r (wantX c j)) = true := decide_eq_true (all_hrd c j)
theorem hw_len (c : RO) (j : Nat) : (hrdX c j).length = (wantX c j).length := by
 have := (all_hrd c j).1
 rwa [List.length_map] at this

def okG (w : RO) : Prop := (∀ i, i < (roX (roN w 3)).length → ((roL (roN (roN w 3) i)).length : Int) + 8 ≤ 70368744177664) ∧ (((roX (roN w 3)).length + 1 : Nat) : Int) * 24 ≤ 70368744177664
theorem okH {c : RO} (h : ∀ j, j < (roX c).length → okG (roN c j)) : ∀ j, j ≤ (roX c).length → ∀ x ∈ hrdX c j, ((roX (roN x 2)).length : Int) * 24 ≤ 70368744177664 ∧ (∀ i, i < (roX (roN x 2)).length → ((roL (roN (roN x 2) i)).length : Int) ≤ 70368744177664) ∧ True
 | 0, _, x, hx => by cases hx
 | j + 1, hj, x, hx => by
  have ih := okH h j (by omega)
  obtain ⟨o1, o2⟩ := h j (by omega)
  rw [hrdX] at hx
  split at hx
  ·rcases List.mem_append.1 hx with hx | hx
   ·exact ih x hx
   ·rw [List.mem_singleton.1 hx]
    show ((Sp.hx (roN (roN c j) 3)).length : Int) * 24 ≤ _ ∧ (∀ i, i < (Sp.hx (roN (roN c j) 3)).length → ((roL (roN (.r (Sp.hx (roN (roN c j) 3))) i)).length : Int) ≤ _) ∧ True
    rw [hx_len]
    refine ⟨by omega, fun i hi => ?_, trivial⟩
    have := rN_map (fun i => RO.l (roL (roN (roN (roN c j) 3) i))) _ i hi []
    rw [List.append_nil] at this
    rw [show roN (.r (Sp.hx (roN (roN c j) 3))) i = _ from this]
    have := o1 i hi
    show ((roL (roN (roN (roN c j) 3) i)).length : Int) ≤ _
    omega
  ·split at hx
   ·rcases List.mem_append.1 hx with hx | hx
    ·exact ih x hx
    ·rw [List.mem_singleton.1 hx]
     exact ⟨(show ((0 : Nat) : Int) * 24 ≤ 70368744177664 by decide), fun i hi => absurd hi (Nat.not_lt_zero i), trivial⟩
   ·exact ih x hx
end TranscriptGiven
end Go.Gx

/- TranscriptGiven: what a round asks holds. -/
namespace Go.Gx
open Go.Proofs Go.Sp
set_option linter.unusedVariables false
set_option maxRecDepth 100000
namespace TranscriptGiven

abbrev KK : KG := fun rvs fin => ∃ e, rvs = [.v (.b e true)]

section
variable {d c : RO} {zs al : List (List Int)} {ds W : List RO} {NW : (Int → Prop) → Prop} {NH : Prop → Prop} {Q : Nat → List Pv → Prop}

theorem g1_ok {tk i off len n : Int} {i' : Nat} {q : RO} {s : ByteArray} {x1 x2 : Int} (hp1 : ∀ i, i < (roX q).length → ((roL (roN q i)).length : Int) + 8 ≤ 70368744177664) (hp2 : (((roX q).length + 1 : Nat) : Int) * 24 ≤ 70368744177664) (hn : n = ((ds.length : Nat) : Int)) (hd : (((ds.length + 1 : Nat)) : Int) * 48 ≤ 70368744177664)
  (hi : i = (i' : Int)) (hi2 : i' < 9223372036854775806) (hNW : ∀ f : Int → Prop, f (((W.length + 1 : Nat)) : Int) → NW f)
  (hQ : ∀ zs', Q 1016 [.ro d, .ro c, .z tk, .z ((W.length + 1 : Nat) : Int), .z ((i' + 1 : Nat) : Int), .z off, .z len, .z (((ds ++ [heardA s (.r (hx q))]).length : Nat) : Int), .b true, .ll al, .ro (.r (ds ++ [heardA s (.r (hx q))])), .ll zs', .ro (.r (W ++ [RO.r [RO.i x1, RO.i x2, RO.s s, q]]))]) :
  G1 d c tk i off len n true zs al ds W NW KK Q q s x1 x2 := by
 unfold G1
 have er : (roX (RO.r ds)) = ds := rfl
 rw [er]
 refine ⟨need_of hp1, need_of hp2, ?_⟩
 intro x3 e3 x4 e4 _ _ x5 e5 _ _
 rw [fullT_len] at e4
 rw [heads_length] at e5
 have e4' : x4.toNat = (roX q).length := by omega
 have e5' : x5.toNat = (roX q).length + 1 := by omega
 rw [e3, e4', e5', heads_take, full_all, heads_all, v_head, v_full, v_all]
 refine ⟨need_of (by omega), need_of hn, need_of (by rw [heads_length]; omega), need_of (b_head q), need_of rfl, need_of ?_, need_of hd, ?_⟩
 ·show ((hx q).length : Int) * 24 ≤ _ ∧ (∀ i, i < (hx q).length → ((roL (roN (.r (hx q)) i)).length : Int) ≤ _) ∧ True
  rw [hx_len]
  refine ⟨by omega, fun j hj => ?_, trivial⟩
  have := rN_map (fun i => RO.l (roL (roN q i))) _ j hj []
  rw [List.append_nil] at this
  rw [show roN (.r (hx q)) j = _ from this]
  have := hp1 j hj
  show ((roL (roN q j)).length : Int) ≤ _
  omega
 intro x6 e6 _ x7 e7
 refine ⟨need_of (by rw [fullT_len]; omega), need_of (b_full q), need_of (by rw [heads_length]; omega), need_of (b_all q), need_of (l_1 q), need_of (l_2 q hp1), ?_⟩
 intro x8 e8
 refine ⟨fun h => (by rw [e8] at h; cases h), fun _ => ⟨need_of (by omega), need_of ⟨by omega, by rw [heads_length]; omega, by rw [heads_length]; omega, fun j hj => ?_⟩, ?_⟩⟩
 ·have hj' : j < (roX q).length := by omega
  have h8 := hp1 j hj'
  show ((headT q (roX q).length ++ [((roX q).length, 8)]).getD j (0, 0)).2 ≤ ((rowsT q (roX q).length ++ [marksL]).getD ((headT q (roX q).length ++ [((roX q).length, 8)]).getD j (0, 0)).1 []).length ∧ ((headT q (roX q).length ++ [((roX q).length, 8)]).getD j (0, 0)).2 ≤ 70368744177664
  rw [heads_at q j hj']
  refine ⟨?_, by show (roL (roN q j)).length ≤ _; omega⟩
  show (roL (roN q j)).length ≤ ((rowsT q (roX q).length ++ [marksL]).getD j []).length
  rw [rows_at q j hj', List.length_append]; exact Nat.le_add_right _ _
 ·refine hNW _ ?_
  intro x10 e10 _
  rw [hi, wrap_i64 (by omega)] at e10
  have e10 : x10 = ((i' + 1 : Nat) : Int) := by omega
  rw [e10, e6]
  exact ⟨rfl, hQ x7⟩

theorem w4_zero {v : Int} {x y z t : Int} (h0 : x = Sc.w0 (v % Sc.ell)) (h1 : y = Sc.w1 (v % Sc.ell)) (h2 : z = Sc.w2 (v % Sc.ell)) (h3 : t = Sc.w3 (v % Sc.ell)) : ([x, y, z, t] == [(0 : Int), 0, 0, 0]) = decide (v % Sc.ell = 0) := by
 have hv := Sc.val_ell h0 h1 h2 h3
 by_cases h : v % Sc.ell = 0
 ·rw [decide_eq_true h, h0, h1, h2, h3, h]
  decide +kernel
 ·rw [decide_eq_false h]
  cases e : ([x, y, z, t] == [(0 : Int), 0, 0, 0]) with
  | false => rfl
  | true =>
   have e := eq_of_beq e
   rw [e] at hv
   exact absurd (hv.symm.trans (by decide +kernel)) h

theorem g2_ok {N tk i' : Nat} {i n : Int} {q : RO} {s : ByteArray} {x1 x2 : Int} (hal : al = (roX d).map roL) (hN : N = (roX d).length) (htk : tk ≤ N) (hN2 : N < 9223372036854775806) (hn : n = ((ds.length : Nat) : Int)) (hd : (((ds.length + 1 : Nat)) : Int) * 48 ≤ 70368744177664)
  (hi : i = (i' : Int)) (hi2 : i' < 9223372036854775806) (hNW : ∀ f : Int → Prop, f (((W.length + 1 : Nat)) : Int) → NW f)
  (hQ : ∀ zs' tk', tk' = (if tk < N then tk + 1 else tk) → Q 1016 [.ro d, .ro c, .z (tk' : Int), .z ((W.length + 1 : Nat) : Int), .z ((i' + 1 : Nat) : Int), .z (tk' : Int), .z ((N - tk' : Nat) : Int), .z (((ds ++ [heardD s]).length : Nat) : Int), .b true, .ll al, .ro (.r (ds ++ [heardD s])), .ll zs', .ro (.r (W ++ [RO.r [RO.i x1, RO.i x2, RO.s s, q]]))]) :
  G2 d c (tk : Int) i (tk : Int) ((N - tk : Nat) : Int) n true zs al ds W NW KK Q q s x1 x2 := by
 unfold G2
 have er : (roX (RO.r ds)) = ds := rfl
 rw [er]
 have hall : al.length = N := by rw [hal, List.length_map, hN]
 have fin : ∀ (x4 : List (List Int)) (f l : Int) (tk' : Nat) (y : Int), tk' = (if tk < N then tk + 1 else tk) → x4 = al → f = (tk' : Int) → l = ((N - tk' : Nat) : Int) → y = (tk' : Int) → ∀ zs', NW fun x22 => ∀ (x23 : Int), x23 = IntKind.i64.wrap (i + 1) → InR .i64 x23 → Same Tryd.f3 16 (itemsOf Tryd.f3 16) ∧
   Q 1016 [.ro d, .ro c, .z y, .z x22, .z x23, .z f, .z l, .z (((ds ++ [heardD s]).length : Nat) : Int), .b true, .ll x4, .ro (.r (ds ++ [heardD s])), .ll zs', .ro (.r (W ++ [RO.r [RO.i x1, RO.i x2, RO.s s, q]]))] := fun x4 f l tk' y h1 h2 h3 h4 h5 zs' => by
  refine hNW _ ?_
  intro x23 e23 _
  rw [hi, wrap_i64 (by omega)] at e23
  have e23 : x23 = ((i' + 1 : Nat) : Int) := by omega
  rw [e23, h2, h3, h4, h5]
  exact ⟨rfl, hQ zs' tk' h1⟩
 refine ⟨need_of hn, need_of rfl, need_of hd, need_of (by omega), ?_⟩
 intro x11 e11 _ x12 e12 x13 e13 _ _ x14 e14 _
 refine ⟨fun h => ?_, fun h => ?_⟩
 ·have h := of_decide_eq_true h
  have hlt : tk < N := by omega
  refine ⟨need_of (by omega), ?_⟩
  intro x15 e15 _ _ x16 e16 _ x17 e17 _ x18 e18 _ x19 e19 _
  have hne : ¬ ((N - tk : Nat) : Int) = 0 := by omega
  have hget : al.getD (tk : Int).toNat [] = x15 := by
   have hl : tk < (roX d).length := by omega
   rw [e15, hal, Int.toNat_natCast, List.getD_eq_getElem?_getD, List.getElem?_map, List.getElem?_eq_getElem hl]
   simp [roN, List.getD_eq_getElem?_getD, List.getElem?_eq_getElem hl]
  have h13 : x13 = [x16, x17, x18, x19] := by
   rw [e13]; unfold ansD; rw [if_neg hne, hget, e16, e17, e18, e19]; rfl
  have hz := w4_zero (v := Sc.val4 x15) e16 e17 e18 e19
  have h14 : x14 = if Sc.val4 x15 % Sc.ell = 0 then 4 else 0 := by
   rw [e14]; unfold errD; rw [if_neg hne, hget]
  have ho : offD (tk : Int) ((N - tk : Nat) : Int) = ((tk + 1 : Nat) : Int) := by unfold offD; rw [if_neg hne]; omega
  have hl : lenD ((N - tk : Nat) : Int) = ((N - (tk + 1) : Nat) : Int) := by unfold lenD; rw [if_neg hne]; omega
  rw [hz]
  refine ⟨fun h0 => ?_, fun h0 => ?_⟩
  ·have h0 := of_decide_eq_true h0
   intro x20 e20 _
   rw [wrap_i64 (by omega)] at e20
   refine ⟨fun e => (by rw [h13] at e; simp at e), fun _ => ?_⟩
   intro x21 e21 _
   rw [if_pos h0] at h14
   refine ⟨fun e => (by rw [e21, h14] at e; cases e), fun _ => ?_⟩
   exact fin x11 _ _ (tk + 1) x20 (by rw [if_pos hlt]) e11 ho hl (by omega) x12
  ·have h0 := of_decide_eq_false h0
   intro x20 e20 _
   rw [wrap_i64 (by omega)] at e20
   refine ⟨fun e => (by rw [h13] at e; simp at e), fun _ => ?_⟩
   intro x21 e21 _
   rw [if_neg h0] at h14
   refine ⟨fun e => (by rw [e21, h14] at e; cases e), fun _ => ?_⟩
   exact fin x11 _ _ (tk + 1) x20 (by rw [if_pos hlt]) e11 ho hl (by omega) x12
 ·have h := of_decide_eq_false h
  have hlt : ¬ tk < N := by omega
  have he : ((N - tk : Nat) : Int) = 0 := by omega
  have h13 : x13 = [0, 0, 0, 0] := by rw [e13]; unfold ansD; rw [if_pos he]
  have h14 : x14 = 5 := by rw [e14]; unfold errD; rw [if_pos he]
  have ho : offD (tk : Int) ((N - tk : Nat) : Int) = (tk : Int) := by unfold offD; rw [if_pos he]
  have hl : lenD ((N - tk : Nat) : Int) = ((N - tk : Nat) : Int) := by unfold lenD; rw [if_pos he]
  refine ⟨fun e => (by rw [h13] at e; cases e), fun _ => ?_⟩
  intro x28 e28 _
  refine ⟨fun e => (by rw [e28, h14] at e; cases e), fun _ => ?_⟩
  exact fin x11 _ _ tk (tk : Int) (by rw [if_neg hlt]) e11 ho hl rfl x12

theorem g4_ok {n : Int} {R45 : Int → List (List Int) → List (List Int) → List (List Int) → Prop} (hn : n = ((ds.length : Nat) : Int)) (hd : ((ds.length : Nat) : Int) * 48 ≤ 70368744177664)
  (hb : ∀ x ∈ ds, ((roX (roN x 2)).length : Int) * 24 ≤ 70368744177664 ∧ (∀ i, i < (roX (roN x 2)).length → ((roL (roN (roN x 2) i)).length : Int) ≤ 70368744177664) ∧ True) (hNH : ∀ P, P → NH P) (hh : heardB (.r (ds.map recN)) (.r W) = true)
  (hR : ∀ zs' hz, R45 ((ds.length : Nat) : Int) al zs' hz) : G4 n true zs al ds W NH R45 KK := by
 unfold G4
 have er : (roX (RO.r ds)) = ds := rfl
 rw [er]
 refine ⟨need_of hn, need_of rfl, need_of hd, need_of fun i hi => hb _ ?_, ?_⟩
 ·rw [List.getD_eq_getElem?_getD, List.getElem?_eq_getElem hi]; exact List.getElem_mem hi
 intro x31 e31 _ x32 e32 x33 e33 x34 e34 _ _
 rw [List.length_map] at e34
 refine ⟨need_of rfl, need_of (by rw [List.length_map]; exact e34), hNH _ ?_⟩
 intro x35 e35
 rw [hh] at e35
 refine ⟨fun e => (by rw [e35] at e; cases e), fun _ => ?_⟩
 rw [e31, e34]
 exact hR _ _

theorem g5_ok {n : Int} (hn : n = ((ds.length : Nat) : Int)) (hd : ((ds.length : Nat) : Int) * 48 ≤ 70368744177664)
  (hb : ∀ x ∈ ds, ((roX (roN x 2)).length : Int) * 24 ≤ 70368744177664 ∧ (∀ i, i < (roX (roN x 2)).length → ((roL (roN (roN x 2) i)).length : Int) ≤ 70368744177664) ∧ True) (hNH : ∀ P, P → NH P) (hh : heardB (.r (ds.map recN)) (.r W) = true) : G5 n true zs al ds W NH KK := by
 unfold G5
 have er : (roX (RO.r ds)) = ds := rfl
 rw [er]
 refine ⟨need_of hn, need_of rfl, need_of hd, need_of fun i hi => hb _ ?_, ?_⟩
 ·rw [List.getD_eq_getElem?_getD, List.getElem?_eq_getElem hi]; exact List.getElem_mem hi
 intro x31 e31 _ x32 e32 x33 e33 x34 e34 _ _
 rw [List.length_map] at e34
 refine ⟨need_of rfl, need_of (by rw [List.length_map]; exact e34), hNH _ ?_⟩
 intro x35 e35
 rw [hh] at e35
 exact ⟨false, by rw [e35]⟩
end
end TranscriptGiven
end Go.Gx

/- From a law's call to what its row asks, for laws that only read. -/
namespace Go.Gx
open Go.ChangeShapes Go.WideShapes Go.ChangeAt Go.RowKit
set_option linter.unusedVariables false

section
variable {P : Program}

theorem below_trodAll {H : Type} {enc : TypeId × Value → H} {W W' : World} (hl : laidOutB P = true) (hB : Below W.heap.size W W') {sp : Nat → Bool} : ∀ {ts : List TypeId} {vs : List Value} {ds : List (DataW H)} {ps : List MemPlace},
  (∀ t ∈ ts, P.readableRec t = true ∧ t < P.types.size) → DataW.TrodAll enc P W 0 (fun _ => true) true ts vs ds ps → (∀ p ∈ ps, p.block < W.heap.size) → (∀ p ∈ ps, sp p.block = true) → DataW.TrodAll enc P W' 0 sp true ts vs ds ps
 | [], _, _, _, _, h, _, _ => by
  obtain ⟨rfl, rfl, rfl⟩ := trodAll_nil h
  exact trodAll_mk0
 | t :: ts, _, _, _, ht, h, hlt, hs => by
  obtain ⟨v, vs1, d, ds1, p, q, rfl, rfl, rfl, h1, h2⟩ := trodAll_cons h
  have := ht t (by simp)
  exact trodAll_cons_mk (WideElems.Trod_stays hl this.1 this.2 h1 (fun x hx => hB.same (hlt x (by simp [hx]))) fun x hx => hs x (by simp [hx]))
   (below_trodAll hl hB (fun t h => ht t (by simp [h])) h2 (fun x hx => hlt x (by simp [hx])) fun x hx => hs x (by simp [hx]))

theorem post_true {H : Type} {enc : TypeId × Value → H} {f : Func} {s : ChangeSpec} {tb : TypeId} {W W' : World} {args : Array Value} {ds gs : List (DataW H)} {before : List MemPlace}
  (hl : laidOutB P = true) (hv : s.vars = []) (hr : f.resultTypes = #[tb]) (hb : P.underlying tb = some .bool) (hread : ∀ t ∈ f.params.toList, P.readableRec t = true ∧ t < P.types.size)
  (hfn : ∀ ds : List (DataW H), ds.length = f.params.size → (s.fn H ds).results = [.lit (.bool true)] ∧ (s.fn H ds).args = ds ∧ (s.fn H ds).vars = [])
  (hW : DataW.Whole enc P f.params.toList s.vars false W args.toList ds gs before) (hB : Below W.heap.size W W') : s.post enc P f false true false false W args (.bool true) W' := by
 have hW' := hW
 obtain ⟨p, q, hA0, hV, rfl, hz, hn⟩ := hW
 have hA : DataW.TrodAll enc P W 0 (fun _ => true) true f.params.toList args.toList ds p := hA0
 rw [hv] at hV
 obtain ⟨rfl, rfl⟩ := trodVars_none hV
 have hlen : ds.length = f.params.size := by
  have : ∀ {ts : List TypeId} {vs : List Value} {ds : List (DataW H)} {ps : List MemPlace}, DataW.TrodAll enc P W 0 (fun _ => true) true ts vs ds ps → ds.length = ts.length := by
   intro ts
   induction ts with
   | nil => intro vs ds ps h; obtain ⟨_, rfl, _⟩ := trodAll_nil h; rfl
   | cons t ts ih => intro vs ds ps h; obtain ⟨_, _, _, _, _, _, rfl, rfl, rfl, _, h2⟩ := trodAll_cons h; simp [ih h2]
  simpa using this hA
 obtain ⟨k1, k2, k3⟩ := hfn ds hlen
 have hlt : ∀ x ∈ p, x.block < W.heap.size := fun x hx => hW'.lt x (by simp [hx])
 have hres : ∀ (b : Nat) (sp : Nat → Bool) (hd : Bool), DataW.TrodAll enc P W' b sp hd f.resultTypes.toList ((Value.bool true).resultList f.resultTypes.size) (s.fn H (ds ++ [])).results [] := fun b sp hd => by
  rw [List.append_nil, k1, hr]
  exact trodAll_cons_mk (shut_bool hb _) trodAll_mk0
 have hargs : ∀ sp : Nat → Bool, (∀ x ∈ p, sp x.block = true) → DataW.TrodAll enc P W' 0 sp true f.params.toList args.toList (s.fn H (ds ++ [])).args p := fun sp hs => by
  rw [List.append_nil, k2]
  exact below_trodAll hl hB hread hA hlt hs
 have hvars : ∀ sp : Nat → Bool, DataW.TrodVars enc P W' sp s.vars (s.fn H (ds ++ [])).vars [] := fun sp => by
  rw [List.append_nil, k3, hv]; rfl
 refine ⟨ds, [], p ++ [], [], p, [], hW', hres _ _ _, hargs _ (fun x hx => by simpa using hlt x hx), hvars _, hB.frame _, fun _ => ?_⟩
 refine ⟨ok_one hr rfl (okWide_bool_mk hb _), _, _, ([] ++ p) ++ [], ⟨[] ++ p, [], trodAll_append (hargs _ (fun _ _ => rfl)) (hres _ _ _), hvars _, rfl, ?_, ?_⟩, ?_⟩
 ·intro b off hp
  have hp' : MemPlace.cell b off ∈ p := by simpa using hp
  rw [hB.frozen (hlt _ hp')]
  exact hz b off (by simpa using hp')
 ·intro ha
  have := hn ha
  simpa using this
 ·intro x hx _
  simpa using hx

theorem chunks {α : Type} {n : Nat} : ∀ (m : Nat) (cs : List α) (f : Nat → List α), cs.length = m * n → (∀ i, i < m → (cs.drop (i * n)).take n = f i) → cs = ((List.range m).map f).flatten
 | 0, cs, f, hl, _ => by
  have : cs = [] := List.length_eq_zero_iff.1 (by simpa using hl)
  simp [this]
 | m + 1, cs, f, hl, h => by
  have ih := chunks (n := n) m (cs.drop n) (fun i => f (i + 1)) (by rw [List.length_drop, hl, Nat.succ_mul]; omega) fun i hi => by
   rw [List.drop_drop, ← h (i + 1) (by omega), Nat.succ_mul, Nat.add_comm n]
  have h0 := h 0 (by omega)
  rw [Nat.zero_mul, List.drop_zero] at h0
  rw [List.range_succ_eq_map, List.map_cons, List.flatten_cons, List.map_map]
  conv => lhs; rw [← List.take_append_drop n cs]
  rw [h0, ih]
  rfl

theorem tab2_of_head {W : World} {name : String} {k : IntKind} {rows : List (List Int)} {rest : List (String × DataW Unit)} {g : Nat} {t e1 e : TypeId} {m n : Nat}
  (hg : P.globalNamed name = some g) (hty : (P.globals[g]?).map (·.type) = some t) (ht : P.underlying t = some (.array m e1)) (ht1 : P.underlying e1 = some (.array n e)) (he : P.underlying e = some (.int k)) (hce : P.cellsOf e = 1) (hc1 : P.cellsOf e1 = n) (hct : P.cellsOf t = m * n)
  (h : laidMet P ((name, .agg (rows.map (Lib.tabData k))) :: rest) W) : W.rangeAt g 0 ((List.range m).map fun i => (rows.getD i []).map (Value.int k)).flatten ∧ g < W.heap.size := by
 obtain ⟨ps, ⟨g', t', cs, fuel, p, q, hg', ht', hvar, hd, _, _⟩, _⟩ := h
 obtain rfl := Option.some.inj (hg.symm.trans hg')
 obtain rfl := Option.some.inj (hty.symm.trans ht')
 have hcs : cs.toList = ((List.range m).map fun i => (rows.getD i []).map (Value.int k)).flatten := by
  cases fuel with
  | zero => simp [DataW.trod] at hd
  | succ fuel =>
   simp only [DataW.trod, ht, hc1, hct] at hd
   split at hd
   ·rename_i hl
    obtain ⟨xs, hm, hx⟩ := Option.map_eq_some_iff.1 hd
    have hxs : xs.map (·.1) = rows.map (Lib.tabData k) := by
     have := congrArg Prod.fst hx
     simpa using this
    have hxl : xs.length = m := by simpa using Lib.mapM_length hm
    have hrl : rows.length = m := by
     have := congrArg List.length hxs
     simp at this
     omega
    refine chunks m _ _ hl fun i hi => ?_
    obtain ⟨b, hb, hf⟩ := Lib.mapM_at hm i i (by simp [hi])
    have h2 : (xs.map (·.1))[i]? = some b.1 := by simp [hb]
    rw [hxs] at h2
    simp only [List.getElem?_map, Option.map_eq_some_iff] at h2
    obtain ⟨r, hr, hrb⟩ := h2
    have hf' : DataW.trod (fun _ => ()) P W 0 (fun _ => true) false fuel e1 ((cs.toList.drop (i * n)).take n) = some (Lib.tabData k r, b.2) := by
     rw [hrb]; exact hf
    rw [Lib.cells_of_tab ht1 he hce hc1 hf']
    simp [List.getD, hr]
   ·cases hd
 constructor
 ·rw [← hcs]
  intro j v hj
  have := World.var?_cell hg hvar j
  rw [Nat.zero_add, this]
  simpa using hj
 ·unfold World.var? at hvar
  rw [hg] at hvar
  simp only [Option.bind_some] at hvar
  split at hvar
  ·rename_i hh
   exact (Array.getElem?_eq_some_iff.1 hh).1
  ·cases hvar

theorem mem_start (W : World) (ρ : Nat → Pl) : Mem W (fun _ => False) ρ (fun _ => none) W :=
 ⟨by constructor <;> (intros; contradiction), FrameW.refl _ _, by intros; contradiction, by intros; contradiction, by intros; contradiction, .none (fun _ _ _ h => by cases h)⟩

end
end Go.Gx

/- The tables of both packages, and their cells in a row's world. -/
namespace Go.Gx
open Go.Proofs Go.Sp Go.Proofs.YthgclfedhgmpiaaDoor
open Go.ChangeShapes Go.WideShapes Go.ChangeAt Go.RowKit
set_option linter.unusedVariables false

def layC (cs : Array Value) : Obj → Obj
 | .cells _ t frozen => .cells cs t frozen
 | o => o
theorem own : ownKnob Tryd.prog.godebug = none := by kernel_rfl
theorem laidOut : laidOutB Tryd.prog = true := by kernel_rfl

end Go.Gx

/- A law off a world that holds the globals: its arguments as data that is only read. -/
namespace Go.Gx
open Go.RowKit Go.ChangeShapes Go.WideShapes Go.ChangeAt
open Go.Proofs.YthgclfedhgmpiaaDoor.Rows (uptoBulk uptoBulkAll uptoSmall)
set_option linter.unusedVariables false

mutual
def shTyB (P : Program) : Sh → TypeId → Bool
 | .i k, t => (match P.underlying t with | some (.int k') => keq k k' | _ => false)
 | .tb, t => (match P.underlying t with | some .bool => true | _ => false)
 | .ts, t => (match P.underlying t with | some .string => true | _ => false)
 | .ints k, t => (match P.underlying t with
  | some (.slice e) => (match P.underlying e with | some (.int k') => keq k k' && (Nat.beq (P.cellsOf e) 1 && Nat.blt 0 (P.bytesOf e)) | _ => false)
  | _ => false)
 | .l sh, t => (match P.underlying t with
  | some (.slice e) => shTyB P sh e && (Nat.beq (P.cellsOf e) (shSize sh) && (Nat.blt 0 (shSize sh) && Nat.blt 0 (P.bytesOf e)))
  | _ => false)
 | .r fs, t => (match P.underlying t with
  | some (.struct ff) => shTysB P fs ff.toList 0 && Nat.beq (P.cellsOf t) (shSizes fs)
  | _ => false)
 | .arr n k, t => (match P.underlying t with
  | some (.array m e) => Nat.beq m n && (Nat.beq (P.cellsOf t) n && (Nat.beq (P.cellsOf e) 1 && (match P.underlying e with | some (.int k') => keq k k' | _ => false)))
  | _ => false)
def shTysB (P : Program) : List Sh → List Field → Nat → Bool
 | [], ff, _ => (match ff with | [] => true | _ => false)
 | s :: r, ff, o => (match ff with
  | f :: ff => Nat.beq f.offset o && (shTyB P s f.type && (Nat.beq (P.cellsOf f.type) (shSize s) && shTysB P r ff (o + shSize s)))
  | [] => false)
end

mutual
def roM : Sh → RO → Nat
 | .ts, d => (roS d).size
 | .ints _, d => (roL d).length
 | .l e, d => (roX d).length + ((roX d).map (roM e)).sum
 | .r fs, d => roMs fs d 0
 | .i _, _ => 0
 | .tb, _ => 0
 | .arr _ _, _ => 0
def roMs : List Sh → RO → Nat → Nat
 | [], _, _ => 0
 | s :: r, d, i => roM s (roN d i) + roMs r d (i + 1)
end

mutual
def roMx (N : Nat) : Sh → RO → Prop
 | .ts, d => (roS d).size ≤ N
 | .ints _, d => (roL d).length ≤ N
 | .l e, d => (roX d).length ≤ N ∧ ∀ x ∈ roX d, roMx N e x
 | .r fs, d => roMxs N fs d 0
 | .i _, _ => True
 | .tb, _ => True
 | .arr _ _, _ => True
def roMxs (N : Nat) : List Sh → RO → Nat → Prop
 | [], _, _ => True
 | s :: r, d, i => roMx N s (roN d i) ∧ roMxs N r d (i + 1)
end

section
variable {P : Program}

theorem weightsAll_mem {H : Type} {e : TypeId} {d : DataW H} : ∀ {l : List (DataW H)}, d ∈ l → ∀ n ∈ d.weights P e, n ∈ DataW.weightsAll P e l
 | y :: r, h, n, hn => by
  simp only [DataW.weightsAll, List.mem_append]
  rcases List.mem_cons.1 h with rfl | h
  ·exact .inl hn
  ·exact .inr (weightsAll_mem h n hn)

theorem bulk_pos {H : Type} (d : DataW H) : 1 ≤ uptoBulk d := by unfold uptoBulk; split <;> omega
theorem bulkAll_len {H : Type} : ∀ (l : List (DataW H)), l.length ≤ uptoBulkAll l
 | [] => by simp [uptoBulkAll]
 | d :: r => by have := bulk_pos d; have := bulkAll_len r; simp only [uptoBulkAll, List.length_cons]; omega
theorem bulkAll_app {H : Type} : ∀ (a b : List (DataW H)), uptoBulkAll (a ++ b) = uptoBulkAll a + uptoBulkAll b
 | [], b => by simp [uptoBulkAll]
 | d :: r, b => by simp only [List.cons_append, uptoBulkAll, bulkAll_app r b]; omega

theorem ChainR.snoc {R : RO → Value → Prop} {x : RO} {v : Value} (hx : R x v) : ∀ (xs : List RO) (cs : List Value), ChainR R xs cs → ChainR R (xs ++ [x]) (cs ++ v.cells.toList)
 | [], cs, h => by rw [show cs = [] from h]; exact ⟨v, [], hx, by simp, rfl⟩
 | y :: r, cs, h => by
  obtain ⟨u, c, h1, rfl, h3⟩ := h
  exact ⟨u, c ++ v.cells.toList, h1, by simp [List.append_assoc], ChainR.snoc hx r c h3⟩

theorem addr_of_cell {W : World} {a : Addr} {v : Value} (h : W.cell? a = some v) : a = ⟨a.block, a.off, none⟩ ∧ a.block < W.heap.size := by
 obtain ⟨bk, of, sp⟩ := a
 unfold World.cell? at h
 split at h
 ·rename_i hb
  have hb : W.heap[bk]? = _ := hb
  refine ⟨?_, (Array.getElem?_eq_some_iff.1 hb).1⟩
  split at h
  ·cases h
  ·rename_i hs
   have hs : ¬ sp.isSome = true := hs
   have : sp = none := by simpa using hs
   rw [this]
 ·cases h

theorem add_add_addr (a : Addr) (i j : Nat) : (a.add i).add j = a.add (i + j) := by
 unfold Addr.add
 by_cases h1 : i = 0 <;> by_cases h2 : j = 0 <;> simp [h1, h2, Nat.add_assoc]
theorem add_zero_addr (a : Addr) : a.add 0 = a := by simp [Addr.add]

mutual
theorem trod_ro {H : Type} {enc : TypeId × Value → H} {W : World} (N : Nat) : ∀ (sh : Sh) (t : TypeId) (fuel : Nat) (cs : List Value) (x : DataW H × List MemPlace), shTyB P sh t = true → DataW.trod enc P W 0 (fun _ => true) true fuel t cs = some x →
  ∃ ro v, cs = v.cells.toList ∧ RoD W (OutB W fun _ => False) sh ro v ∧ roM sh ro + 1 ≤ uptoBulk x.1 ∧ ((∀ n ∈ x.1.weights P t, n ≤ N) → roMx N sh ro)
 | .i k, t, fuel, cs, x, hs, h => by
  simp only [shTyB] at hs
  split at hs
  ·rename_i k' hu
   have hk := keq_eq hs
   subst hk
   cases fuel with
   | zero => simp [DataW.trod] at h
   | succ n =>
    unfold DataW.trod at h
    rw [hu] at h
    rcases cs with _ | ⟨c, _ | ⟨c2, r⟩⟩
    ·simp at h
    ·cases c <;> simp at h
     rename_i k2 z
     obtain ⟨⟨rfl, hz⟩, rfl⟩ := h
     refine ⟨.i z, .int k2 z, rfl, ?_, by simp [roM, uptoBulk], fun _ => trivial⟩
     simp only [RoD, roZ]
     refine ⟨trivial, ?_⟩
     simp only [Lit.wf, Bool.and_eq_true, decide_eq_true_eq] at hz
     cases k2 <;> simp [InR, IntKind.min, IntKind.max, IntKind.bits, IntKind.signed] at hz ⊢ <;> omega
    ·simp at h
  ·cases hs
 | .tb, t, fuel, cs, x, hs, h => by
  simp only [shTyB] at hs
  split at hs
  ·rename_i hu
   cases fuel with
   | zero => simp [DataW.trod] at h
   | succ n =>
    unfold DataW.trod at h
    rw [hu] at h
    rcases cs with _ | ⟨c, _ | ⟨c2, r⟩⟩
    ·simp at h
    ·cases c <;> simp at h
     rename_i b
     subst h
     exact ⟨.b b, .bool b, rfl, by simp only [RoD, roB], by simp [roM, uptoBulk], fun _ => trivial⟩
    ·simp at h
  ·cases hs
 | .ts, t, fuel, cs, x, hs, h => by
  simp only [shTyB] at hs
  split at hs
  ·rename_i hu
   cases fuel with
   | zero => simp [DataW.trod] at h
   | succ n =>
    unfold DataW.trod at h
    rw [hu] at h
    rcases cs with _ | ⟨c, _ | ⟨c2, r⟩⟩
    ·simp at h
    ·cases c <;> simp at h
     rename_i s
     obtain ⟨hz, rfl⟩ := h
     refine ⟨.s s, .string s, rfl, ?_, ?_, fun hw => ?_⟩
     ·simp only [RoD, roS]
      refine ⟨trivial, ?_⟩
      have : s.size ≤ maxLen := hz
      simp only [maxLen] at this
      omega
     ·simp only [roM, roS, uptoBulk]
      have : s.data.toList.length = s.size := by simp
      omega
     ·have := hw s.data.toList.length (by simp [DataW.weights])
      have e : s.data.toList.length = s.size := by simp
      simp only [roMx, roS]
      omega
    ·simp at h
  ·cases hs
 | .ints k, t, fuel, cs, x, hs, h => by
  simp only [shTyB] at hs
  split at hs
  ·rename_i e hu
   split at hs
   ·rename_i k' hue
    simp only [Bool.and_eq_true] at hs
    have hk := keq_eq hs.1
    subst hk
    have hbs : 0 < P.bytesOf e := by have := hs.2.2; simp [Nat.blt] at this; omega
    rcases open_ints hu hue (Nat.eq_of_beq_eq_true hs.2.1) h with ⟨rfl, rfl⟩ | ⟨a, len, cap, zs, rfl, h2, h3, h4, h5, h6, h7, h8⟩
    ·refine ⟨.l [], .slice none 0 0, rfl, ?_, by simp [roM, roL, uptoBulk], fun _ => Nat.zero_le _⟩
     simp only [RoD]
     exact ⟨none, 0, rfl, Nat.le_refl _, by simp [roL], (fun z hz => by cases hz), .inr ⟨rfl, rfl⟩⟩
    ·have hzl : zs.length = cap := by simpa using h5
     have hR : AllR k zs := fun z hz => by
      have := h8 z hz
      simp only [Lit.wf, Bool.and_eq_true, decide_eq_true_eq] at this
      cases k <;> simp [InR, IntKind.min, IntKind.max, IntKind.bits, IntKind.signed] at this ⊢ <;> omega
     have hlen : (zs.take len).length = len := by rw [List.length_take]; omega
     have hmax : cap ≤ 140737488355328 ∨ True := .inr trivial
     refine ⟨.l (zs.take len), .slice (some a) len cap, rfl, ?_, ?_, fun hw => ?_⟩
     ·simp only [RoD]
      have er : roL (.l (zs.take len)) = zs.take len := rfl
      rw [er]
      refine ⟨some a, cap, by rw [hlen], by omega, ?_, fun z hz => hR z (List.mem_of_mem_take hz), ?_⟩
      ·rw [hlen]; simp only [maxLen] at h4; omega
      ·rcases Nat.eq_zero_or_pos cap with h0 | h0
       ·exact .inr ⟨by omega, h0⟩
       ·have h00 := h7 0 (by omega)
        rw [add_zero_addr] at h00
        obtain ⟨ha, hb⟩ := addr_of_cell h00
        refine .inl ⟨a.block, a.off, by rw [← ha], ⟨hb, fun h => h⟩, fun i u hu => ?_⟩
        rw [List.getElem?_map, Option.map_eq_some_iff] at hu
        obtain ⟨z, hz, rfl⟩ := hu
        rw [List.getElem?_take] at hz
        split at hz
        ·rename_i hi
         have := h7 i (by omega)
         have ea : a.add i = ⟨a.block, a.off + i, none⟩ := by rw [ha]; exact Addr.add_mid _ _ _
         rw [ea] at this
         rw [this]
         simp [List.getD, hz]
        ·cases hz
     ·rw [h6]
      simp only [roM, roL, uptoBulk]
      have := bulkAll_len (lits (H := H) k (zs.take len))
      have e : (lits (H := H) k (zs.take len)).length = (zs.take len).length := by simp [lits]
      omega
     ·rw [h6] at hw
      have elen : ∀ l : List Int, (lits (H := H) k l).length = l.length := fun l => by simp [lits]
      have := hw (((lits (H := H) k (zs.take len)).length + (lits (H := H) k (zs.drop len)).length) * P.bytesOf e) (by simp [DataW.weights, hu])
      rw [elen, elen] at this
      have h9 : ((zs.take len).length + (zs.drop len).length) * 1 ≤ ((zs.take len).length + (zs.drop len).length) * P.bytesOf e := Nat.mul_le_mul_left _ hbs
      show (zs.take len).length ≤ N
      omega
   ·cases hs
  ·cases hs
 | .l sh, t, fuel, cs, x, hs, h => by
  simp only [shTyB] at hs
  split at hs
  ·rename_i e hu
   simp only [Bool.and_eq_true] at hs
   obtain ⟨hs1, hs2, hs3, hs4⟩ := hs
   have hbs : 0 < P.bytesOf e := by simp [Nat.blt] at hs4; omega
   have hc := Nat.eq_of_beq_eq_true hs2
   have hpos : 0 < shSize sh := by simp [Nat.blt] at hs3; omega
   rcases DataW.trod_slice hu h with ⟨rfl, rfl⟩ | ⟨a, len, cap, elems, rest, n, rfl, rfl, rfl, hb, hl, hm, hlen, hel, hsp, hns⟩
   ·refine ⟨.r [], .slice none 0 0, rfl, ?_, by simp [roM, roX, uptoBulk], fun _ => ⟨Nat.zero_le _, fun x hx => by cases hx⟩⟩
    simp only [RoD]
    exact ⟨none, 0, [], rfl, Nat.le_refl _, by simp [roX], rfl, .inr ⟨rfl, rfl⟩⟩
   ·obtain ⟨hrl, hrest⟩ := hsp rfl
    have hall : ∀ i, i < cap → ∃ ccs y, W.cells? 0 (a.add (i * P.cellsOf e)) (P.cellsOf e) = some ccs ∧ DataW.trod enc P W 0 (fun _ => true) true n e ccs = some y ∧ (i < len → elems[i]? = some y) := fun i hi => by
     by_cases hil : i < len
     ·have h1 := hel i hil
      have h2 : elems[i]? = some elems[i] := List.getElem?_eq_getElem (by omega)
      rw [h2, Option.bind_eq_some_iff] at h1
      obtain ⟨ccs, q1, q2⟩ := h1
      exact ⟨ccs, _, q1, q2, fun _ => h2⟩
     ·have h1 := hrest (i - len) (by omega)
      have h2 : rest[i - len]? = some rest[i - len] := List.getElem?_eq_getElem (by omega)
      rw [h2, Option.bind_eq_some_iff, show len + (i - len) = i by omega] at h1
      obtain ⟨ccs, q1, q2⟩ := h1
      exact ⟨ccs, _, q1, q2, fun h => absurd h hil⟩
    have hblk : 0 < cap → a = ⟨a.block, a.off, none⟩ ∧ a.block < W.heap.size := fun h0 => by
     obtain ⟨ccs, y, q1, q2, _⟩ := hall 0 h0
     obtain ⟨_, q3, q4⟩ := World.cells?_some q1
     have := q4 0 (by omega)
     rw [Nat.zero_mul, add_zero_addr, add_zero_addr] at this
     obtain ⟨v, hv⟩ : ∃ v, ccs[0]? = some v := ⟨ccs[0]'(by omega), List.getElem?_eq_getElem _⟩
     rw [hv] at this
     exact addr_of_cell this
    have hchain : ∀ m, m ≤ len → ∃ ros cs', ros.length = m ∧ ChainR (RoD W (OutB W fun _ => False) sh) ros cs' ∧ cs'.length = shSize sh * m ∧ (∀ i u, cs'[i]? = some u → W.cell? (a.add i) = some u) ∧ ros.length + (ros.map (roM sh)).sum ≤ uptoBulkAll ((elems.take m).map (·.1)) ∧ ((∀ y ∈ elems, ∀ n ∈ y.1.weights P e, n ≤ N) → ∀ ro ∈ ros, roMx N sh ro) := by
     intro m
     induction m with
     | zero => intro _; exact ⟨[], [], rfl, rfl, by simp, (fun i u h => by simp at h), by simp, fun _ x hx => by cases hx⟩
     | succ m ih =>
      intro hm'
      obtain ⟨ros, cs', r1, r2, r3, r4, r5, r6⟩ := ih (by omega)
      obtain ⟨ccs, y, q1, q2, q3⟩ := hall m (by omega)
      have q3 := q3 (by omega)
      obtain ⟨ro, v, rfl, s2, s3, s4⟩ := trod_ro N sh e n ccs y hs1 q2
      obtain ⟨_, q5, q6⟩ := World.cells?_some q1
      have hvl := RoD_cells sh ro v s2
      refine ⟨ros ++ [ro], cs' ++ v.cells.toList, by simp [r1], ChainR.snoc s2 ros cs' r2, by rw [List.length_append, r3, hvl, Nat.mul_add]; omega, fun i u hu => ?_, ?_, fun hy ro' hr => ?_⟩
      ·rcases Nat.lt_or_ge i cs'.length with hi | hi
       ·rw [List.getElem?_append_left hi] at hu; exact r4 i u hu
       ·rw [List.getElem?_append_right hi] at hu
        have hi2 : i - cs'.length < v.cells.toList.length := (List.getElem?_eq_some_iff.1 hu).1
        have := q6 (i - cs'.length) (by omega)
        rw [hu] at this
        have e1 : m * P.cellsOf e = cs'.length := by rw [hc, r3, Nat.mul_comm]
        rw [← this, add_add_addr, e1, Nat.add_sub_cancel' hi]
      ·rw [List.map_append, List.sum_append, List.length_append, List.take_add_one, q3, List.map_append, bulkAll_app]
       simp only [List.map_cons, List.map_nil, List.sum_cons, List.sum_nil, List.length_cons, List.length_nil, Option.toList_some, uptoBulkAll]
       omega
      ·rcases List.mem_append.1 hr with hr | hr
       ·exact r6 hy ro' hr
       ·simp only [List.mem_cons, List.not_mem_nil, or_false] at hr
        subst hr
        exact s4 fun k hk => hy y (List.mem_of_getElem? q3) k hk
    obtain ⟨ros, cs', r1, r2, r3, r4, r5, r6⟩ := hchain len (Nat.le_refl _)
    refine ⟨.r ros, .slice (some a) len cap, rfl, ?_, ?_, fun hw => ⟨?_, ?_⟩⟩
    ·simp only [RoD]
     have er : roX (.r ros) = ros := rfl
     rw [er]
     refine ⟨some a, cap, cs', by rw [r1], by omega, ?_, r2, ?_⟩
     ·rw [r1]; simp only [maxLen] at hm; omega
     ·rcases Nat.eq_zero_or_pos cap with h0 | h0
      ·exact .inr ⟨by omega, h0⟩
      ·obtain ⟨ha, hb⟩ := hblk h0
       refine .inl ⟨a.block, a.off, by rw [← ha], ⟨hb, fun h => h⟩, fun i u hu => ?_⟩
       have := r4 i u hu
       have ea : a.add i = ⟨a.block, a.off + i, none⟩ := by rw [ha]; exact Addr.add_mid _ _ _
       rwa [ea] at this
    ·simp only [roM, roX, uptoBulk]
     rw [List.take_of_length_le (by omega)] at r5
     have := bulkAll_len (elems.map (·.1))
     rw [List.length_map] at this
     omega
    ·have := hw (((elems.map (·.1)).length + (rest.map (·.1)).length) * P.bytesOf e) (by simp [DataW.weights, hu])
     rw [List.length_map, List.length_map] at this
     have h9 : (elems.length + rest.length) * 1 ≤ (elems.length + rest.length) * P.bytesOf e := Nat.mul_le_mul_left _ hbs
     show ros.length ≤ N
     omega
    ·refine r6 fun y hy k hk => hw k ?_
     simp only [DataW.weights, hu, List.mem_cons, List.mem_append]
     exact .inr (.inl (weightsAll_mem (List.mem_map.2 ⟨y, hy, rfl⟩) k hk))
  ·cases hs
 | .arr n k, t, fuel, cs, x, hs, h => by
  simp only [shTyB] at hs
  split at hs
  ·rename_i m e hu
   simp only [Bool.and_eq_true] at hs
   obtain ⟨h1, h2, h3, h4⟩ := hs
   have h1 := Nat.eq_of_beq_eq_true h1
   have h2 := Nat.eq_of_beq_eq_true h2
   have h3 := Nat.eq_of_beq_eq_true h3
   subst h1
   split at h4
   ·rename_i k' hue
    have hk := keq_eq h4
    subst hk
    obtain ⟨xs, q, rfl, rfl, hl, hxl, hel⟩ := DataW.trod_array hu h
    have hcell : ∀ i, i < cs.length → ∃ z, cs[i]? = some (.int k z) ∧ InR k z := fun i hi => by
     have := hel i (by omega)
     rw [h3, Nat.mul_one, List.drop_eq_getElem_cons hi, List.take_succ_cons, List.take_zero, List.getElem?_eq_getElem (by omega)] at this
     cases q with
     | zero => simp [DataW.trod] at this
     | succ q =>
      unfold DataW.trod at this
      rw [hue] at this
      rw [List.getElem?_eq_getElem hi]
      generalize cs[i] = c at *
      cases c <;> simp at this
      rename_i k2 z
      obtain ⟨⟨rfl, hz⟩, _⟩ := this
      refine ⟨z, rfl, ?_⟩
      simp only [Lit.wf, Bool.and_eq_true, decide_eq_true_eq] at hz
      cases k2 <;> simp [InR, IntKind.min, IntKind.max, IntKind.bits, IntKind.signed] at hz ⊢ <;> omega
    have hall : ∀ (cs : List Value), (∀ i, i < cs.length → ∃ z, cs[i]? = some (.int k z) ∧ InR k z) → ∃ l : List Int, cs = l.map (Value.int k) ∧ AllR k l := by
     intro cs
     induction cs with
     | nil => intro _; exact ⟨[], rfl, fun z hz => by cases hz⟩
     | cons c r ih =>
      intro hc
      obtain ⟨l, e1, e2⟩ := ih fun i hi => by
       have := hc (i + 1) (by simpa using hi)
       simpa using this
      obtain ⟨z, z1, z2⟩ := hc 0 (by simp)
      simp only [List.getElem?_cons_zero, Option.some.injEq] at z1
      refine ⟨z :: l, by rw [List.map_cons, ← e1, z1], fun y hy => ?_⟩
      rcases List.mem_cons.1 hy with rfl | hy
      ·exact z2
      ·exact e2 y hy
    obtain ⟨l, e1, e2⟩ := hall cs hcell
    refine ⟨.l l, .agg (l.map (Value.int k)).toArray, by rw [e1]; simp [Value.cells], ?_, by simp [roM, uptoBulk], fun _ => trivial⟩
    simp only [RoD]
    have er : roL (.l l) = l := rfl
    rw [er]
    refine ⟨?_, e2, rfl⟩
    have : cs.length = l.length := by rw [e1, List.length_map]
    omega
   ·cases h4
  ·cases hs
 | .r fs, t, fuel, cs, x, hs, h => by
  simp only [shTyB] at hs
  split at hs
  ·rename_i ff hu
   simp only [Bool.and_eq_true] at hs
   obtain ⟨xs, n, rfl, rfl, hl, hxl, hel⟩ := DataW.trod_struct hu h
   have hsz := Nat.eq_of_beq_eq_true hs.2
   obtain ⟨ros, r1, r2, r3, r4⟩ := trods_ro N fs ff.toList 0 n cs xs hs.1 (by simpa using hxl) (fun i f hf => hel i f (by simpa using hf)) (by omega)
   have r2 := r2 []
   have r3 := r3 []
   rw [List.drop_zero] at r2
   refine ⟨.r ros, .agg cs.toArray, by simp [Value.cells], ?_, ?_, fun hw => ?_⟩
   ·simp only [RoD]
    exact ⟨cs, r2, rfl⟩
   ·simp only [roM, uptoBulk]
    have : roMs fs (.r ros) 0 + fs.length ≤ uptoBulkAll (xs.map (·.1)) := r3
    omega
   ·simp only [roMx]
    refine r4 (fun k hk => hw k ?_) []
    simp only [DataW.weights, hu]
    exact hk
  ·cases hs
theorem trods_ro {H : Type} {enc : TypeId × Value → H} {W : World} (N : Nat) : ∀ (fs : List Sh) (ff : List Field) (o n : Nat) (cs : List Value) (xs : List (DataW H × List MemPlace)), shTysB P fs ff o = true → xs.length = ff.length →
  (∀ (i : Nat) (f : Field), ff[i]? = some f → DataW.trod enc P W 0 (fun _ => true) true n f.type ((cs.drop f.offset).take (P.cellsOf f.type)) = xs[i]?) → cs.length = o + shSizes fs →
  ∃ ros : List RO, ros.length = fs.length ∧ (∀ pre : List RO, RoCs W (OutB W fun _ => False) fs (.r (pre ++ ros)) pre.length (cs.drop o)) ∧ (∀ pre : List RO, roMs fs (.r (pre ++ ros)) pre.length + fs.length ≤ uptoBulkAll (xs.map (·.1))) ∧
   ((∀ k ∈ DataW.weightsEach P (ff.map (·.type)) (xs.map (·.1)), k ≤ N) → ∀ pre : List RO, roMxs N fs (.r (pre ++ ros)) pre.length)
 | [], ff, o, n, cs, xs, hs, hx, hel, hl => by
  refine ⟨[], rfl, fun pre => ?_, fun pre => by simp [roMs], fun _ pre => by simp only [roMxs]⟩
  simp only [RoCs]
  exact List.drop_eq_nil_of_le (by simp only [shSizes] at hl; omega)
 | s :: r, ff, o, n, cs, xs, hs, hx, hel, hl => by
  simp only [shTysB] at hs
  split at hs
  ·rename_i f ff
   simp only [Bool.and_eq_true] at hs
   obtain ⟨h1, h2, h3, h4⟩ := hs
   have h1 := Nat.eq_of_beq_eq_true h1
   have h3 := Nat.eq_of_beq_eq_true h3
   rcases xs with _ | ⟨x, xt⟩
   ·simp at hx
   simp only [shSizes] at hl
   have e0 := hel 0 f rfl
   rw [h1, h3] at e0
   obtain ⟨ro, v, q1, q2, q3, q4⟩ := trod_ro N s f.type n _ x h2 e0
   obtain ⟨ros, r1, r2, r3, r4⟩ := trods_ro N r ff (o + shSize s) n cs xt h4 (by simpa using hx) (fun i f' hf => by have := hel (i + 1) f' (by simpa using hf); simpa using this) (by omega)
   have hro : ∀ pre : List RO, roN (.r (pre ++ ro :: ros)) pre.length = ro := fun pre => by simp [roN, roX, List.getD_eq_getElem?_getD]
   have hpre : ∀ pre : List RO, (pre ++ [ro]) ++ ros = pre ++ ro :: ros := fun pre => by simp
   refine ⟨ro :: ros, by simp [r1], fun pre => ?_, fun pre => ?_, fun hw pre => ?_⟩
   ·simp only [RoCs]
    refine ⟨v, cs.drop (o + shSize s), by rw [hro]; exact q2, ?_, ?_⟩
    ·rw [← q1, ← List.drop_drop, List.take_append_drop]
    ·have := r2 (pre ++ [ro])
     rw [hpre, List.length_append] at this
     exact this
   ·have := r3 (pre ++ [ro])
    rw [hpre, List.length_append] at this
    have h5 : roMs r (.r (pre ++ ro :: ros)) (pre.length + 1) + r.length ≤ uptoBulkAll (xt.map (·.1)) := this
    simp only [roMs, hro, List.map_cons, uptoBulkAll, List.length_cons]
    omega
   ·simp only [List.map_cons, DataW.weightsEach, List.mem_append] at hw
    have := r4 (fun k hk => hw k (.inr hk)) (pre ++ [ro])
    rw [hpre, List.length_append] at this
    simp only [roMxs, hro]
    exact ⟨q4 fun k hk => hw k (.inl hk), this⟩
  ·cases hs
end

def slSh : Sh → Bool
 | .ints _ => true
 | .l _ => true
 | _ => false

theorem arg_ro {H : Type} {enc : TypeId × Value → H} {W : World} (N : Nat) (sh : Sh) {t : TypeId} {v : Value} {d : DataW H} {ps : List MemPlace} (hs : shTyB P sh t = true) (hsl : slSh sh = true) (hv : v.cells.toList = [v]) (h : DataW.Trod enc P W 0 (fun _ => true) true t v d ps) :
  ∃ ro, RoD W (OutB W fun _ => False) sh ro v ∧ (∃ ad n cap, v = .slice ad n cap) ∧ roM sh ro + 1 ≤ uptoBulk d ∧ ((∀ n ∈ d.weights P t, n ≤ N) → roMx N sh ro) := by
 obtain ⟨fuel, h⟩ := h
 obtain ⟨ro, u, e, q1, q2, q3⟩ := trod_ro N sh t fuel _ _ hs h
 have hu : ∃ ad n cap, u = .slice ad n cap := by
  cases sh <;> simp only [slSh, Bool.false_eq_true] at hsl <;> simp only [RoD] at q1
  ·obtain ⟨a, cap, rfl, _⟩ := q1; exact ⟨_, _, _, rfl⟩
  ·obtain ⟨a, cap, cs, rfl, _⟩ := q1; exact ⟨_, _, _, rfl⟩
 have huv : v = u := by
  obtain ⟨ad, n, cap, rfl⟩ := hu
  rw [hv] at e
  simpa [Value.cells] using e
 subst huv
 exact ⟨ro, q1, hu, q2, q3⟩

theorem law_gen {Γ : Tab} (hΓ : TabOk P Γ) (hgl : Γ.gl = keysOf Γ.gh) (hlow : ∀ g ∈ keysOf Γ.gh, g < 490) {f : FuncId} {fn : Func} (hf : P.funcs[f]? = some fn) {av : List AV} {args' : List SV} {L : Loops} {K : List RV → List (Option (List Seg)) → Prop} {inv : Nat → List Pv → Nat → Prop}
  (k1 : okA 600 av args' []) (k2 : args'.length ≤ fn.ntmps) (k3 : VcG 0 Γ fn L (Γ.gh ++ (490, .world) :: []) args' K inv) (hK : ∀ rvs fin, K rvs fin → ∃ e, rvs = [.v (.b e true)])
  {W : World} {vs : List Value} (hG : Glob Γ.gh W fun _ => False) (hA : AsD W (OutB W fun _ => False) (fun _ => none) (fun _ => { blk := 0, off := 0, cap := 0 }) av vs []) :
  Calls P f vs.toArray W fun e w' => e = .returned (.bool true) ∧ Below W.heap.size W w' := by
 have hm := mem_start W fun _ => { blk := 0, off := 0, cap := 0 }
 obtain ⟨hh1, hh2⟩ := okA_heap av vs [] 600 args' [] hA k1
 obtain ⟨ρ1, m1, m2, m3, m4, m5⟩ := gen_mem hG hgl hlow hm (ks := []) (fun k hk => by cases hk) List.nodup_nil (M' := fun _ => False) (fun b => ⟨fun h => h.elim, fun ⟨k, hk, _⟩ => by cases hk⟩) hh1 hh2
 have hargs := okA_args m3 m4 av vs [] 600 args' [] hA k1 (fun i hi => by simp at hi)
 refine (vcG_calls hΓ hf k3 k2 m2 m1 hargs).mono fun e w' he => ?_
 obtain ⟨x, v, h', ρ', rfl, r1, r2, r3, r4⟩ := he
 obtain ⟨rvs', fin', t1, t3, t4, t5⟩ := kvG_sound r3 r2 r1
 obtain ⟨e, rfl⟩ := hK _ _ t1
 rcases t3 with ⟨r, hr, hd⟩ | ⟨hn, _⟩
 ·simp only [List.cons.injEq, and_true] at hr
  subst hr
  simp only [RvD, D] at hd
  exact ⟨by rw [hd], r3.frame.below fun _ h => h⟩
 ·exact absurd rfl hn

end
end Go.Gx

/- TranscriptGiven: a Script answers just what it was given, and hears just what it was told; what it was given, what was handed to it and what it answered is spoilt meanwhile, and that changes nothing. For lists that are not more than the second form's bound. The table lies as the program's text lays it. -/
namespace Go.Gx
open Go.Proofs Go.Sp Go.RowKit
set_option linter.unusedVariables false
set_option maxRecDepth 100000
namespace TranscriptGiven
def T16 (d c : RO) (i : Nat) (zs : List (List Int)) : List Pv := [.ro d, .ro c, .z (tkX c (roX d).length i : Int), .z ((wantX c i).length : Int), .z (i : Int), .z (tkX c (roX d).length i : Int), .z (((roX d).length - tkX c (roX d).length i : Nat) : Int), .z ((hrdX c i).length : Int), .b true, .ll ((roX d).map roL), .ro (.r (hrdX c i)), .ll zs, .ro (.r (wantX c i))]
def T16n (d c : RO) (i : Nat) (zs : List (List Int)) : List Pv := [.ro d, .ro c, .z (tkX c (roX d).length i : Int), .z (i : Int), .z (tkX c (roX d).length i : Int), .z (((roX d).length - tkX c (roX d).length i : Nat) : Int), .z ((hrdX c i).length : Int), .b true, .ll ((roX d).map roL), .ro (.r (hrdX c i)), .ll zs]

theorem f16_ok {d c : RO} {i : Nat} (hNb : (roX d).length ≤ 1048576) (hCb : (roX c).length ≤ 1048576) (hok : ∀ j, j < (roX c).length → okG (roN c j)) (hi : i ≤ (roX c).length) {zs : List (List Int)} {NW : (Int → Prop) → Prop} {NH : Prop → Prop} {R45 : Int → List (List Int) → List (List Int) → List (List Int) → Prop} {R0 : Int → Prop} {Q : Nat → List Pv → Prop}
  (hNW : ∀ f : Int → Prop, f ((((wantX c i).length + 1 : Nat)) : Int) → NW f) (hNH : ∀ P, P → NH P)
  (h1 : i < (roX c).length → roZ (roN (roN c i) 0) = 1 ∨ roZ (roN (roN c i) 0) = 2 → ∀ zs', Q 1016 (T16 d c (i + 1) zs'))
  (h4 : i < (roX c).length → ¬ roZ (roN (roN c i) 0) = 1 → ¬ roZ (roN (roN c i) 0) = 2 → ∀ zs' hz, R45 (((hrdX c i).length : Nat) : Int) ((roX d).map roL) zs' hz)
  (h0 : i < (roX c).length → ¬ roZ (roN (roN c i) 0) = 1 → ¬ roZ (roN (roN c i) 0) = 2 → R0 ((i + 1 : Nat) : Int)) :
  F16 d c (tkX c (roX d).length i : Int) (i : Int) (tkX c (roX d).length i : Int) (((roX d).length - tkX c (roX d).length i : Nat) : Int) ((hrdX c i).length : Int) true zs ((roX d).map roL) (hrdX c i) (wantX c i) NW NH R45 R0 KK Q := by
 have hwl := wx_len c i
 have hhl := hw_len c i
 have hle := tk_le c (roX d).length i
 unfold F16
 rw [Int.toNat_natCast]
 refine ⟨fun hlt => ?_, fun hge => ?_⟩
 ·have hlt := of_decide_eq_true hlt
  have hic : i < (roX c).length := by omega
  refine ⟨need_of (by omega), ?_⟩
  intro x1 e1 _ x2 e2 _
  refine ⟨fun k => ?_, fun k => ⟨fun k2 => ?_, fun k2 => ⟨fun k4 => ?_, fun _ => ?_⟩⟩⟩
  ·have k : roZ (roN (roN c i) 0) = 1 := by rw [← e1]; simpa using k
   have el : (wantX c (i + 1)).length = (wantX c i).length + 1 := by rw [w_1 k]; simp
   refine g1_ok (i' := i) (hok i hic).1 (hok i hic).2 rfl (by omega) rfl (by omega) hNW fun zs' => ?_
   have := h1 hic (.inl k) zs'
   rw [T16, el, w_1 k, h_1 k, k_3 (by omega)] at this
   rw [e1, e2]
   exact this
  ·have k2 : roZ (roN (roN c i) 0) = 2 := by rw [← e1]; simpa using k2
   have el : (wantX c (i + 1)).length = (wantX c i).length + 1 := by rw [w_2 k2]; simp
   refine g2_ok (i' := i) rfl rfl hle (by omega) rfl (by omega) rfl (by omega) hNW fun zs' tk' htk => ?_
   have := h1 hic (.inr k2) zs'
   rw [T16, el, w_2 k2, h_2 k2] at this
   rw [htk, ← k_2 k2, e1, e2]
   exact this
  ·have k : ¬ roZ (roN (roN c i) 0) = 1 := by rw [← e1]; simpa using k
   have k2 : ¬ roZ (roN (roN c i) 0) = 2 := by rw [← e1]; simpa using k2
   exact g4_ok rfl (by omega) (okH hok i hi) hNH (hrd_law c i) (h4 hic k k2)
  ·have k : ¬ roZ (roN (roN c i) 0) = 1 := by rw [← e1]; simpa using k
   have k2 : ¬ roZ (roN (roN c i) 0) = 2 := by rw [← e1]; simpa using k2
   intro x36 e36 _
   rw [wrap_i64 (by omega)] at e36
   rw [e36]
   exact h0 hic k k2
 ·exact g5_ok rfl (by omega) (okH hok i hi) hNH (hrd_law c i)

def T45 (d c : RO) (i j : Nat) (zs hz : List (List Int)) (hs : List RO) : List Pv := [.ro d, .ro c, .z (tkX c (roX d).length i : Int), .z ((wantX c i).length : Int), .z (i : Int), .z ((hrdX c i).length : Int), .z (j : Int), .z (tkX c (roX d).length i : Int), .z (((roX d).length - tkX c (roX d).length i : Nat) : Int), .z ((hrdX c i).length : Int), .b true, .ll ((roX d).map roL), .ro (.r (hrdX c i)), .ll zs, .ro (.r hs), .ll hz, .ro (.r (wantX c i))]
def T45n (d c : RO) (i j : Nat) (zs hz : List (List Int)) (hs : List RO) : List Pv := [.ro d, .ro c, .z (tkX c (roX d).length i : Int), .z (i : Int), .z ((hrdX c i).length : Int), .z (j : Int), .z (tkX c (roX d).length i : Int), .z (((roX d).length - tkX c (roX d).length i : Nat) : Int), .z ((hrdX c i).length : Int), .b true, .ll ((roX d).map roL), .ro (.r (hrdX c i)), .ll zs, .ro (.r hs), .ll hz]

def inv3 (d c : RO) (key : Nat) (ps : List Pv) (m : Nat) : Prop :=
 (key = 3 ∧ ps = [.ro d, .ro c, .z 0] ∧ m = (roX c).length * ((roX c).length + 2) + 2 * (roX d).length + 3) ∨
 (key = 1003 ∧ ∃ j : Nat, 0 < j ∧ j ≤ (roX d).length ∧ ps = [.ro d, .ro c, .z (j : Int), .z (j : Int), .ll (((roX d).map roL).take j)] ∧ m = (roX c).length * ((roX c).length + 2) + 2 * (roX d).length + 2 - j) ∨
 (key = 10 ∧ (roX d).length = 0 ∧ ∃ zs, ps = [.ro d, .ro c, .z 0, .z 0, .z 0, .z 0, .b true, .ll [], .ro (.r []), .ll zs] ∧ m = (roX c).length * ((roX c).length + 2) + 1) ∨
 (key = 1010 ∧ ∃ (zs : List (List Int)) (j : Nat) (l : List (List Int)), j ≤ (roX d).length ∧ l.length = (roX d).length ∧ ps = [.ro d, .ro c, .z ((roX d).length : Int), .z (j : Int), .z 0, .z ((roX d).length : Int), .z 0, .b true, .ll ((roX d).map roL), .ro (.r []), .ll zs, .ll l] ∧ m = (roX c).length * ((roX c).length + 2) + 1 + ((roX d).length - j)) ∨
 (∃ zs i, i ≤ (roX c).length ∧ m = ((roX c).length - i) * ((roX c).length + 2) ∧ ((key = 16 ∧ wantX c i = [] ∧ ps = T16n d c i zs) ∨ (key = 1016 ∧ ps = T16 d c i zs))) ∨
 (∃ zs i hz j hs, i < (roX c).length ∧ j ≤ (hrdX c i).length ∧ hs.length = (hrdX c i).length ∧ ¬ roZ (roN (roN c i) 0) = 1 ∧ ¬ roZ (roN (roN c i) 0) = 2 ∧ m = ((roX c).length - (i + 1)) * ((roX c).length + 2) + 1 + ((hrdX c i).length - j) ∧
  ((key = 45 ∧ wantX c i = [] ∧ ps = T45n d c i j zs hz hs) ∨ (key = 1045 ∧ ps = T45 d c i j zs hz hs) ∨ (key = 2045 ∧ ps = T45 d c i j zs hz hs)))

theorem flat_mem : ∀ {l : List Nat} {x : Nat}, x ∈ l → x ≤ l.sum
 | y :: r, x, h => by
  rw [List.sum_cons]
  rcases List.mem_cons.1 h with rfl | h
  ·omega
  ·have := flat_mem h; omega
theorem roN_in {d : RO} {j : Nat} (h : j < (roX d).length) : roN d j ∈ roX d := by
 rw [show roN d j = (roX d)[j] by simp [roN, List.getD_eq_getElem?_getD, h]]; exact List.getElem_mem h
theorem ok_small {c : RO} (h : roM (.l (.r [.i .i64, .i .i64, .ts, .l (.ints .u8)])) c ≤ 1048576) : ∀ j, j < (roX c).length → okG (roN c j) := fun j hj => by
 have h : (roX c).length + ((roX c).map (roM (.r [.i .i64, .i .i64, .ts, .l (.ints .u8)]))).sum ≤ 1048576 := h
 have hm : roM (.r [.i .i64, .i .i64, .ts, .l (.ints .u8)]) (roN c j) ∈ (roX c).map (roM (.r [.i .i64, .i .i64, .ts, .l (.ints .u8)])) := List.mem_map.2 ⟨roN c j, roN_in hj, rfl⟩
 have hle := flat_mem hm
 have e : roM (.r [.i .i64, .i .i64, .ts, .l (.ints .u8)]) (roN c j) = 0 + (0 + ((roS (roN (roN c j) 2)).size + ((roX (roN (roN c j) 3)).length + ((roX (roN (roN c j) 3)).map (roM (.ints .u8))).sum + 0))) := rfl
 refine ⟨fun i hi => ?_, by omega⟩
 have hmi : roM (.ints .u8) (roN (roN (roN c j) 3) i) ∈ (roX (roN (roN c j) 3)).map (roM (.ints .u8)) := List.mem_map.2 ⟨roN (roN (roN c j) 3) i, roN_in hi, rfl⟩
 have h1 := flat_mem hmi
 have h2 : roM (.ints .u8) (roN (roN (roN c j) 3) i) = (roL (roN (roN (roN c j) 3) i)).length := rfl
 omega
theorem mul_step {C i : Nat} (h : i < C) : (C - i) * (C + 2) = (C - (i + 1)) * (C + 2) + (C + 2) := by
 rw [← Nat.succ_mul]; congr 1; omega
theorem take_at {d : RO} {j : Nat} (h : j < (roX d).length) : ((roX d).map roL).take j ++ List.take 1 (List.drop 0 [roL (roN d j)]) = ((roX d).map roL).take (j + 1) := by
 have e : ((roX d).map roL).take (j + 1) = ((roX d).map roL).take j ++ ((roX d).map roL)[j]?.toList := List.take_add_one
 rw [e, List.getElem?_map, List.getElem?_eq_getElem h]
 simp [roN, List.getD_eq_getElem?_getD, List.getElem?_eq_getElem h]

theorem law (W : World) (hG : Glob Sc.gh W fun _ => False)
  (d : RO) (v : Value) (hv : RoD W (OutB W fun _ => False) (.l (.arr 4 .u64)) d v) (hs : ∃ ad n cap, v = .slice ad n cap) (hx1 : roMx reachBytes (.l (.arr 4 .u64)) d)
  (c : RO) (v1 : Value) (hv1 : RoD W (OutB W fun _ => False) (.l (.r [.i .i64, .i .i64, .ts, .l (.ints .u8)])) c v1) (hs1 : ∃ ad n cap, v1 = .slice ad n cap) (hx2 : roMx reachBytes (.l (.r [.i .i64, .i .i64, .ts, .l (.ints .u8)])) c)
  (hM : roM (.l (.arr 4 .u64)) d + roM (.l (.r [.i .i64, .i .i64, .ts, .l (.ints .u8)])) c ≤ 1048576) :
  Calls Tryd.prog 3 #[v, v1] W fun e w' => e = .returned (.bool true) ∧ Below W.heap.size W w' := by
 have hok := ok_small (c := c) (by omega)
 have hCb : (roX c).length ≤ 1048576 := by
  have : roM (.l (.r [.i .i64, .i .i64, .ts, .l (.ints .u8)])) c = (roX c).length + ((roX c).map (roM (.r [.i .i64, .i .i64, .ts, .l (.ints .u8)]))).sum := rfl
  omega
 have hNb : (roX d).length ≤ 1048576 := by
  have : roM (.l (.arr 4 .u64)) d = (roX d).length + ((roX d).map (roM (.arr 4 .u64))).sum := rfl
  omega
 refine law_gen Γg_ok rfl lowS rfl (fn := Tryd.f3) (L := L3g) (inv := inv3 d c) (av := [.d (.l (.arr 4 .u64)) d, .d (.l (.r [.i .i64, .i .i64, .ts, .l (.ints .u8)])) c]) (args' := [.ro 490 (.l (.arr 4 .u64)) d, .ro 490 (.l shSay) c]) (K := KK) ⟨rfl, rfl, trivial⟩ (Nat.le_of_ble_eq_true (by kernel_rfl)) ⟨?_, ?_, ?_⟩ (fun _ _ h => h) hG
  ⟨v, _, rfl, hv, v1, _, rfl, hv1, rfl, rfl⟩
 ·intro kk t ht g hg
  have hg : g ∈ [1, 490] := hg
  simp only [List.mem_cons, List.not_mem_nil, or_false] at hg
  simp only [L3g, List.mem_cons, List.not_mem_nil, or_false, Prod.mk.injEq] at ht
  rcases ht with ⟨rfl, rfl⟩ | ⟨rfl, rfl⟩ | ⟨rfl, rfl⟩ | ⟨rfl, rfl⟩ | ⟨rfl, rfl⟩ | ⟨rfl, rfl⟩ | ⟨rfl, rfl⟩ | ⟨rfl, rfl⟩ | ⟨rfl, rfl⟩ <;> rcases hg with rfl | rfl <;> exact ⟨by omega, rfl⟩
 ·have hlm : ((roX d).map roL).length = (roX d).length := List.length_map ..
  have hNWb : ∀ (i : Nat), i ≤ (roX c).length → ∀ f : Int → Prop, f ((((wantX c i).length + 1 : Nat)) : Int) → Need (((((roX (RO.r (wantX c i))).length + (1 : Nat)) : Nat) : Int) * (56 : Int) ≤ (70368744177664 : Int)) ∧ Need (((wantX c i).length : Int) = (((roX (RO.r (wantX c i))).length : Nat) : Int)) ∧ ∀ (x : Int), x = ((((roX (RO.r (wantX c i))).length + (1 : Nat)) : Nat) : Int) → (0 : Int) ≤ x → InR IntKind.i64 x → f x := fun i hi f hf => by
   have := wx_len c i
   have er : (roX (RO.r (wantX c i))) = wantX c i := rfl
   rw [er]
   exact ⟨need_of (by omega), need_of rfl, fun x e _ _ => by rw [e]; exact hf⟩
  have same : ∀ i, ¬ roZ (roN (roN c i) 0) = 1 → ¬ roZ (roN (roN c i) 0) = 2 → wantX c (i + 1) = wantX c i ∧ hrdX c (i + 1) = hrdX c i ∧ tkX c (roX d).length (i + 1) = tkX c (roX d).length i := fun i h1 h2 => ⟨w_3 h1 h2, h_3 h1 h2, k_3 h2⟩
  rintro vk t ps mm ht (⟨rfl, rfl, rfl⟩ | ⟨rfl, j, hj0, hj, rfl, rfl⟩ | ⟨rfl, hN0, zs, rfl, rfl⟩ | ⟨rfl, zs, j, l, hj, hl, rfl, rfl⟩ | ⟨zs, i, hi, rfl, ⟨rfl, hw0, rfl⟩ | ⟨rfl, rfl⟩⟩ | ⟨zs, i, hz, j, hs, hi, hj, hsl, k1, k2, rfl, ⟨rfl, hw0, rfl⟩ | ⟨rfl, rfl⟩ | ⟨rfl, rfl⟩⟩)
  all_goals simp only [L3g, List.mem_cons, List.not_mem_nil, or_false, Prod.mk.injEq, Nat.reduceEqDiff, false_and, true_and, false_or, or_false] at ht
  all_goals subst ht
  ·show lc3a d c 0 KK _
   rw [lc3a_eq]
   refine ⟨fun h => ?_, fun h => ?_⟩
   ·have h := of_decide_eq_true h
    refine ⟨need_of (by omega), ?_⟩
    intro x1 e1 _ _
    refine ⟨need_of (by simp), need_of (by simp), ?_⟩
    intro x2 e2 _ x3 e3 _ _ x4 e4 _
    have h0 : 0 < (roX d).length := by omega
    have et := take_at (d := d) (j := 0) h0
    rw [e1] at e2 e3
    have e2 : x2 = List.take 1 ((roX d).map roL) := e2.trans et
    rw [wrap_i64 (by omega)] at e4
    refine ⟨rfl, _, ?_, .inr (.inl ⟨rfl, 1, by omega, by omega, ?_, rfl⟩)⟩
    ·omega
    ·rw [e2, e3, e4]; rfl
   ·have h := of_decide_eq_false h
    have h0 : (roX d).length = 0 := by omega
    refine ⟨need_of (by omega), ?_⟩
    intro x5 _ x6 e6 _
    refine ⟨rfl, _, ?_, .inr (.inr (.inl ⟨rfl, h0, x5, ?_, rfl⟩))⟩
    ·omega
    ·rw [e6]; rfl
  ·show lc3b d c (j : Int) (j : Int) (((roX d).map roL).take j) KK _
   rw [lc3b_eq]
   have htl : (((roX d).map roL).take j).length = j := by rw [List.length_take, hlm]; omega
   refine ⟨fun h => ?_, fun h => ?_⟩
   ·have h := of_decide_eq_true h
    refine ⟨need_of (by omega), ?_⟩
    intro x1 e1 _ _
    have et := take_at (d := d) (j := j) (by omega)
    rw [Int.toNat_natCast] at e1
    rw [e1, et]
    have htl1 : (((roX d).map roL).take (j + 1)).length = j + 1 := by rw [List.length_take, hlm]; omega
    rw [htl1]
    refine ⟨need_of (by omega), need_of (by omega), need_of (by simp), ?_⟩
    intro x2 e2 _ x3 e3 _ _ x4 e4 _
    rw [wrap_i64 (by omega)] at e4
    refine ⟨rfl, _, ?_, .inr (.inl ⟨rfl, j + 1, by omega, by omega, ?_, rfl⟩)⟩
    ·omega
    ·rw [e2, e3, e4]; rfl
   ·have h := of_decide_eq_false h
    obtain rfl : j = (roX d).length := by omega
    have ett : List.take (((roX d).length : Nat) : Int).toNat (List.drop 0 (List.take (roX d).length ((roX d).map roL))) = (roX d).map roL := by
     rw [Int.toNat_natCast, List.drop_zero, List.take_take, Nat.min_self, List.take_of_length_le (by rw [hlm]; exact Nat.le_refl _)]
    have er : roX (RO.r (((roX d).map roL).map RO.l)) = ((roX d).map roL).map RO.l := rfl
    have eml : (((roX d).map roL).map RO.l).map roL = (roX d).map roL := by rw [List.map_map]; exact List.map_id _
    rw [ett, er, List.length_map, hlm, eml]
    refine ⟨need_of (by omega), need_of (by omega), ?_⟩
    intro x5 _ x6 e6 _
    refine ⟨rfl, _, ?_, .inr (.inr (.inr (.inl ⟨rfl, x5, 0, List.take (roX d).length ((roX d).map roL), Nat.zero_le _, htl, ?_, rfl⟩)))⟩
    ·omega
    ·rw [e6]; rfl
  ·show lc10a d c 0 0 0 0 true zs [] [] KK _
   rw [lc10a_eq]
   refine ⟨fun h => absurd (of_decide_eq_true h) (by omega), fun _ => ?_⟩
   refine ⟨rfl, _, ?_, .inr (.inr (.inr (.inr (.inl ⟨zs, 0, Nat.zero_le _, rfl, .inl ⟨rfl, rfl, ?_⟩⟩))))⟩
   ·rw [Nat.sub_zero]; omega
   ·have e1 : ((((roX d).length - tkX c (roX d).length 0 : Nat)) : Int) = 0 := by rw [hN0]; rfl
    have e2 : (roX d).map roL = [] := List.eq_nil_of_length_eq_zero (by rw [hlm, hN0])
    unfold T16n
    rw [e1, e2]; rfl
  ·show lc10b d c ((roX d).length : Int) (j : Int) 0 ((roX d).length : Int) 0 true zs ((roX d).map roL) [] l KK _
   rw [lc10b_eq]
   refine ⟨fun h => ?_, fun h => ?_⟩
   ·have h := of_decide_eq_true h
    refine ⟨need_of (by omega), need_of (by omega), ?_⟩
    intro x1 e1 _ x2 e2 _
    rw [wrap_i64 (by omega)] at e2
    refine ⟨rfl, _, ?_, .inr (.inr (.inr (.inl ⟨rfl, zs, j + 1, x1, by omega, by rw [e1, List.length_set]; exact hl, ?_, rfl⟩)))⟩
    ·omega
    ·rw [e2]; rfl
   ·refine ⟨rfl, _, ?_, .inr (.inr (.inr (.inr (.inl ⟨zs, 0, Nat.zero_le _, rfl, .inl ⟨rfl, rfl, rfl⟩⟩))))⟩
    rw [Nat.sub_zero]; omega
  ·show lc16a d c (tkX c (roX d).length i : Int) (i : Int) (tkX c (roX d).length i : Int) (((roX d).length - tkX c (roX d).length i : Nat) : Int) ((hrdX c i).length : Int) true zs ((roX d).map roL) (hrdX c i) KK _
   rw [lc16a_eq]
   have hf := fun NW NH R45 R0 Q hNW hNH h1 h4 h0 => f16_ok (d := d) (c := c) (i := i) (zs := zs) (NW := NW) (NH := NH) (R45 := R45) (R0 := R0) (Q := Q) hNb hCb hok hi hNW hNH h1 h4 h0
   rw [hw0] at hf
   refine hf _ _ _ _ _ (fun f hf => ⟨need_of (by decide), fun x e _ _ => by rw [e]; exact hf⟩) (fun P h => h) (fun hlt hk zs' => ?_) (fun hlt k1 k2 zs' hz => ?_) (fun hlt k1 k2 => ?_)
   ·have := mul_step hlt
    exact ⟨_, by omega, .inr (.inr (.inr (.inr (.inl ⟨zs', i + 1, hlt, rfl, .inr ⟨rfl, rfl⟩⟩))))⟩
   ·have := mul_step hlt
    have hwl := wx_len c i
    have hhl := hw_len c i
    exact ⟨rfl, _, by omega, .inr (.inr (.inr (.inr (.inr ⟨zs', i, hz, 0, (hrdX c i).map recN, hlt, Nat.zero_le _, List.length_map .., k1, k2, rfl, .inl ⟨rfl, hw0, rfl⟩⟩))))⟩
   ·have := mul_step hlt
    obtain ⟨s1, s2, s3⟩ := same i k1 k2
    refine ⟨rfl, _, ?_, .inr (.inr (.inr (.inr (.inl ⟨zs, i + 1, hlt, rfl, .inl ⟨rfl, by rw [s1]; exact hw0, ?_⟩⟩))))⟩
    ·omega
    ·unfold T16n; rw [s2, s3]; rfl
  ·show lc16b d c (tkX c (roX d).length i : Int) ((wantX c i).length : Int) (i : Int) (tkX c (roX d).length i : Int) (((roX d).length - tkX c (roX d).length i : Nat) : Int) ((hrdX c i).length : Int) true zs ((roX d).map roL) (hrdX c i) (wantX c i) KK _
   rw [lc16b_eq]
   refine f16_ok hNb hCb hok hi (hNWb i hi) (fun P h => ⟨need_of rfl, need_of rfl, h⟩) (fun hlt hk zs' => ?_) (fun hlt k1 k2 zs' hz => ?_) (fun hlt k1 k2 => ?_)
   ·have := mul_step hlt
    exact ⟨_, by omega, .inr (.inr (.inr (.inr (.inl ⟨zs', i + 1, hlt, rfl, .inr ⟨rfl, rfl⟩⟩))))⟩
   ·have := mul_step hlt
    have hwl := wx_len c i
    have hhl := hw_len c i
    exact ⟨rfl, _, by omega, .inr (.inr (.inr (.inr (.inr ⟨zs', i, hz, 0, (hrdX c i).map recN, hlt, Nat.zero_le _, List.length_map .., k1, k2, rfl, .inr (.inl ⟨rfl, rfl⟩)⟩))))⟩
   ·have := mul_step hlt
    obtain ⟨s1, s2, s3⟩ := same i k1 k2
    refine ⟨rfl, _, ?_, .inr (.inr (.inr (.inr (.inl ⟨zs, i + 1, hlt, rfl, .inr ⟨rfl, ?_⟩⟩))))⟩
    ·omega
    ·unfold T16; rw [s1, s2, s3]; rfl
  ·show lc45a d c (tkX c (roX d).length i : Int) (i : Int) ((hrdX c i).length : Int) (j : Int) (tkX c (roX d).length i : Int) (((roX d).length - tkX c (roX d).length i : Nat) : Int) ((hrdX c i).length : Int) true zs ((roX d).map roL) (hrdX c i) hz hs KK _
   rw [lc45a_eq]
   have hhl := hw_len c i
   rw [hw0] at hhl
   have hhl : (hrdX c i).length = 0 := hhl
   refine ⟨fun h => absurd (of_decide_eq_true h) (by omega), fun _ => ?_⟩
   intro x2 e2 _
   rw [wrap_i64 (by omega)] at e2
   obtain ⟨s1, s2, s3⟩ := same i k1 k2
   refine ⟨rfl, _, ?_, .inr (.inr (.inr (.inr (.inl ⟨zs, i + 1, hi, rfl, .inl ⟨rfl, by rw [s1]; exact hw0, ?_⟩⟩))))⟩
   ·omega
   ·unfold T16n; rw [s2, s3, e2]; rfl
  ·show lc45b d c (tkX c (roX d).length i : Int) ((wantX c i).length : Int) (i : Int) ((hrdX c i).length : Int) (j : Int) (tkX c (roX d).length i : Int) (((roX d).length - tkX c (roX d).length i : Nat) : Int) ((hrdX c i).length : Int) true zs ((roX d).map roL) (hrdX c i) hz hs (wantX c i) KK _
   rw [lc45b_eq]
   have er : (roX (RO.r hs)) = hs := rfl
   rw [er]
   have hwl := wx_len c i
   have hhl := hw_len c i
   refine ⟨fun h => ?_, fun _ => ?_⟩
   ·have h := of_decide_eq_true h
    refine ⟨need_of (by omega), need_of (by omega), need_of (by omega), need_of (by omega), ?_⟩
    intro x1 e1 _
    rw [wrap_i64 (by omega)] at e1
    refine ⟨rfl, _, ?_, .inr (.inr (.inr (.inr (.inr ⟨zs, i, List.replicate hz.length [], j + 1, hs.set (j : Int).toNat (RO.r [RO.b false, RO.s (ByteArray.mk #[(115 : UInt8), (112 : UInt8), (111 : UInt8), (105 : UInt8), (108 : UInt8), (116 : UInt8)]), RO.r []]), hi, by omega, by rw [List.length_set]; exact hsl, k1, k2, rfl, .inr (.inr ⟨rfl, ?_⟩)⟩))))⟩
    ·omega
    ·rw [e1]; rfl
   ·intro x2 e2 _
    rw [wrap_i64 (by omega)] at e2
    obtain ⟨s1, s2, s3⟩ := same i k1 k2
    refine ⟨rfl, _, ?_, .inr (.inr (.inr (.inr (.inl ⟨zs, i + 1, hi, rfl, .inr ⟨rfl, ?_⟩⟩))))⟩
    ·omega
    ·unfold T16; rw [s1, s2, s3, e2]; rfl
  ·show lc45c d c (tkX c (roX d).length i : Int) ((wantX c i).length : Int) (i : Int) ((hrdX c i).length : Int) (j : Int) (tkX c (roX d).length i : Int) (((roX d).length - tkX c (roX d).length i : Nat) : Int) ((hrdX c i).length : Int) true zs ((roX d).map roL) (hrdX c i) hz hs (wantX c i) KK _
   rw [lc45c_eq]
   have er : (roX (RO.r hs)) = hs := rfl
   rw [er]
   have hwl := wx_len c i
   have hhl := hw_len c i
   refine ⟨fun h => ?_, fun _ => ?_⟩
   ·have h := of_decide_eq_true h
    refine ⟨need_of (by omega), need_of (by omega), need_of (by omega), need_of (by omega), ?_⟩
    intro x1 e1 _
    rw [wrap_i64 (by omega)] at e1
    refine ⟨rfl, _, ?_, .inr (.inr (.inr (.inr (.inr ⟨zs, i, List.replicate hz.length [], j + 1, hs.set (j : Int).toNat (RO.r [RO.b false, RO.s (ByteArray.mk #[(115 : UInt8), (112 : UInt8), (111 : UInt8), (105 : UInt8), (108 : UInt8), (116 : UInt8)]), RO.r []]), hi, by omega, by rw [List.length_set]; exact hsl, k1, k2, rfl, .inr (.inr ⟨rfl, ?_⟩)⟩))))⟩
    ·omega
    ·rw [e1]; rfl
   ·intro x2 e2 _
    rw [wrap_i64 (by omega)] at e2
    obtain ⟨s1, s2, s3⟩ := same i k1 k2
    refine ⟨rfl, _, ?_, .inr (.inr (.inr (.inr (.inl ⟨zs, i + 1, hi, rfl, .inr ⟨rfl, ?_⟩⟩))))⟩
    ·omega
    ·unfold T16; rw [s1, s2, s3, e2]; rfl
 ·show vc3 d c KK _
  rw [vc3_eq]
  exact ⟨rfl, _, .inl ⟨rfl, rfl, rfl⟩⟩
end TranscriptGiven

namespace TranscriptGiven
open Go.Proofs.YthgclfedhgmpiaaDoor
open Go.ChangeShapes Go.WideShapes Go.ChangeAt Go.RowKit
theorem gTab1 : Tryd.prog.globalNamed "veil/scalar.table" = some 1 := by kernel_rfl
theorem gTabType1 : (Tryd.prog.globals[1]?).map (·.type) = some 102 := by kernel_rfl
def tabRows1 : List (List Int) := [[6346243789798364141, 1503914060200516822, 0, 1152921504606846976], [15486807595281847581, 14334777244411350896, 18446744073709551614, 1152921504606846975], [11819153939886771969, 14991950615390032711, 14910419812499177061, 259310039853996605], [6346243789798364139, 1503914060200516822, 0, 1152921504606846976]]
theorem tab_globS {W : World} (h : laidMetH Tryd.prog [("veil/scalar.table", Rows.laid_veil_scalar_table)] W) : Glob Sc.gh W fun _ => False := by
 intro g b hb
 have h' : laidMet Tryd.prog (("veil/scalar.table", .agg (tabRows1.map (Lib.tabData .u64))) :: []) W := h
 obtain ⟨h1, h2⟩ := tab2_of_head (m := 4) (n := 4) gTab1 gTabType1 (e1 := 27) (e := 25) (by kernel_rfl) (by kernel_rfl) (by kernel_rfl) (by kernel_rfl) (by kernel_rfl) (by kernel_rfl) h'
 simp only [Sc.gh, List.mem_singleton, Prod.mk.injEq] at hb
 obtain ⟨rfl, rfl⟩ := hb
 refine ⟨_, _, rfl, ?_, h1, fun x => x, h2⟩
 have ok : ∀ r ∈ tabRows1, r.length = 4 ∧ AllR .u64 r := by
  intro r hr
  simp only [tabRows1, List.mem_cons, List.not_mem_nil, or_false] at hr
  rcases hr with rfl | rfl | rfl | rfl <;> refine ⟨rfl, fun z hz => ?_⟩ <;> simp only [List.mem_cons, List.not_mem_nil, or_false] at hz <;> rcases hz with rfl | rfl | rfl | rfl <;> exact ⟨by decide, by decide⟩
 have o0 := ok _ (List.mem_of_getElem? (show tabRows1[0]? = some _ from rfl))
 have o1 := ok _ (List.mem_of_getElem? (show tabRows1[1]? = some _ from rfl))
 have o2 := ok _ (List.mem_of_getElem? (show tabRows1[2]? = some _ from rfl))
 have o3 := ok _ (List.mem_of_getElem? (show tabRows1[3]? = some _ from rfl))
 exact ⟨_, _, ⟨o0.1, o0.2, rfl⟩, rfl, _, _, ⟨o1.1, o1.2, rfl⟩, rfl, _, _, ⟨o2.1, o2.2, rfl⟩, rfl, _, _, ⟨o3.1, o3.2, rfl⟩, rfl, rfl⟩
noncomputable def laidWorld1 (os : Os) : World :=
 { World.holding Tryd.prog os ⟨#[], #[], []⟩ with heap := (World.holding Tryd.prog os ⟨#[], #[], []⟩).heap.modify 1 (layC #[.int .u64 6346243789798364141, .int .u64 1503914060200516822, .int .u64 0, .int .u64 1152921504606846976, .int .u64 15486807595281847581, .int .u64 14334777244411350896, .int .u64 18446744073709551614, .int .u64 1152921504606846975, .int .u64 11819153939886771969, .int .u64 14991950615390032711, .int .u64 14910419812499177061, .int .u64 259310039853996605, .int .u64 6346243789798364139, .int .u64 1503914060200516822, .int .u64 0, .int .u64 1152921504606846976]) }
end TranscriptGiven

namespace TranscriptGiven
open Go.Proofs.YthgclfedhgmpiaaDoor
open Go.ChangeShapes Go.WideShapes Go.ChangeAt Go.RowKit
theorem reads (t : Nat) (h : t ∈ Tryd.f3.params.toList) : Tryd.prog.readableRec t = true ∧ t < Tryd.prog.types.size := by
 have hp : Tryd.f3.params.toList = [22, 23] := by kernel_rfl
 rw [hp] at h
 simp only [List.mem_cons, List.not_mem_nil, or_false] at h
 rcases h with rfl | rfl <;> exact ⟨by kernel_rfl, Nat.le_of_ble_eq_true (by kernel_rfl)⟩

set_option maxRecDepth 100000 in
/-- What the call gives, for every argument and every world that holds the tables. -/
theorem contract (H : Type) (enc : TypeId × Value → H) (W : World) (base : Nat) (args : Array Value) (ds gs : List (DataW H)) (before : List MemPlace)
  (hval : ∀ (j : Nat) t v, Tryd.f3.params[j]? = some t → args[j]? = some v → Value.okWide Tryd.prog W .any base t v)
  (hW : DataW.Whole enc Tryd.prog Tryd.f3.params.toList Rows.transcriptGivenSpec.vars false W args.toList ds gs before)
  (hw : (DataW.weightsEach Tryd.prog (Tryd.f3.params.toList ++ (Rows.OpenSpec.upto Rows.transcriptGivenSpec).bare.plain.varTypes Tryd.prog) (ds ++ gs)).all (· ≤ reachBytes) = true) (hL : laidMetH Tryd.prog Rows.transcriptGivenUptoRow.laid W) (hC : Rows.uptoSmall H (ds ++ gs) = true) :
  Calls Tryd.prog 3 args W fun e W' => ∃ v, e = .returned v ∧ Rows.transcriptGivenSpec.post enc Tryd.prog Tryd.f3 false true false false W args v W' := by
 have hA : DataW.TrodAll enc Tryd.prog W 0 (fun _ => true) true [22, 23] args.toList ds _ := hW.choose_spec.choose_spec.1
 obtain ⟨v0, vs0, d0, ds0, p0, q0, hargs, hds, _, h0, r0⟩ := trodAll_cons hA
 obtain ⟨v1, vs1, d1, ds1, p1, q1, rfl, hds1, _, h1, r1⟩ := trodAll_cons r0
 obtain ⟨rfl, hdsn, _⟩ := trodAll_nil r1
 obtain rfl : args = #[v0, v1] := by cases args; simp_all
 have hds : ds = [d0, d1] := by rw [hds, hds1, hdsn]
 have hp : Tryd.f3.params = #[22, 23] := by kernel_rfl
 rw [hp] at hval
 have hp2 : Tryd.f3.params.toList = [22, 23] := by kernel_rfl
 rw [hds, hp2] at hw
 have hC : Rows.uptoBulkAll (ds ++ gs) ≤ 1048576 := of_decide_eq_true hC
 rw [hds, bulkAll_app] at hC
 simp only [Rows.uptoBulkAll] at hC
 have hc0 : v0.cells.toList = [v0] := by
  obtain ⟨a, len, cap, e⟩ := okWide_slice (e := 26) (by kernel_rfl) (hval 0 22 v0 rfl rfl)
  rw [e]; rfl
 obtain ⟨o0, e0, s0, b0, x0⟩ := arg_ro reachBytes (.l (.arr 4 .u64)) (by kernel_rfl) rfl hc0 h0
 have x0 := x0 fun n hn => by simpa using List.all_eq_true.1 hw n (DataW.weights_mem_each (j := 0) rfl rfl n hn)
 have hc1 : v1.cells.toList = [v1] := by
  obtain ⟨a, len, cap, e⟩ := okWide_slice (e := 32) (by kernel_rfl) (hval 1 23 v1 rfl rfl)
  rw [e]; rfl
 obtain ⟨o1, e1, s1, b1, x1⟩ := arg_ro reachBytes (.l (.r [.i .i64, .i .i64, .ts, .l (.ints .u8)])) (by kernel_rfl) rfl hc1 h1
 have x1 := x1 fun n hn => by simpa using List.all_eq_true.1 hw n (DataW.weights_mem_each (j := 1) rfl rfl n hn)
 refine (law W (tab_globS hL) o0 v0 e0 s0 x0 o1 v1 e1 s1 x1 (by omega)).mono fun e W' ⟨he, hB⟩ => ?_
 subst he
 refine ⟨_, rfl, post_true (tb := 4) laidOut rfl (by kernel_rfl) (by kernel_rfl) reads ?_ hW hB⟩
 intro ds hds
 have hds : ds.length = 2 := hds
 match ds, hds with
 | [a0, a1], _ => exact ⟨rfl, rfl, rfl⟩

def wargs : Array Value := #[.slice none 0 0, .slice none 0 0]
theorem laid_met (os : Os) : laidMet Tryd.prog Rows.transcriptGivenUptoRow.laid ((laidWorld1 os).forCall (fun _ _ => 0) ⟨#[], wargs, []⟩).memory :=
 laidMet_of_run' 8 (by kernel_rfl) (by kernel_rfl)
theorem reads0 (os : Os) {H : Type} (enc : TypeId × Value → H) : ∃ places, DataW.whole enc Tryd.prog ((laidWorld1 os).forCall (fun _ _ => 0) ⟨#[], wargs, []⟩).memory Tryd.f3.params.toList Rows.transcriptGivenSpec.vars false wargs.toList 8 = some ([.nil, .nil], [], places) :=
 ⟨[], by kernel_rfl⟩

set_option maxRecDepth 100000 in
theorem lifted (os : Os) (started : os.Started) (H : Type) (enc : TypeId × Value → H) (F : Stop.Interp) :
  ReturnsInHanded {} Tryd.checked os 3 .any ((Rows.OpenSpec.upto Rows.transcriptGivenSpec).preRow enc Tryd.prog Tryd.f3 Rows.transcriptGivenUptoRow.domain false Rows.transcriptGivenUptoRow.laid) (((Rows.OpenSpec.upto Rows.transcriptGivenSpec).at F).post enc Tryd.prog Tryd.f3 false true false false) := by
 obtain ⟨places, hx⟩ := reads0 os enc
 refine returnsInHanded_of_row (C := Tryd.checked) (s := (Rows.OpenSpec.upto Rows.transcriptGivenSpec)) own started (by kernel_rfl) Tryd.func3
  (witness_row_at (enc := enc) (C := Tryd.checked) false (laidWorld1 os) wargs rfl (by kernel_rfl) (by kernel_rfl) (by kernel_rfl)
   (OpenSpec.preRow_of_cond 8 hx (by kernel_rfl) (fun k hk => by cases hk; kernel_rfl) (by kernel_rfl) (laid_met os))) ?_
 intro W base args ds gs before hval hW _ hcond hw hL _ _
 exact contract H enc W base args ds gs before hval hW hw hL (hcond _ rfl)

theorem said : Rows.TranscriptGivenUptoSaid :=
 OpenClaim.holds_of_cond 3 Tryd.f3 rfl rfl rfl rfl rfl rfl rfl ⟨rfl, rfl, rfl, rfl, rfl⟩ rfl rfl rfl rfl rfl (by kernel_rfl) Tryd.func3 (by kernel_rfl)
  (of_decide_eq_true (by kernel_rfl)) (by unfold Func.isWrapper; first | (rw [if_pos (by decide +kernel)]; kernel_rfl) | (rw [if_neg (by decide +kernel)]; exact ⟨rfl, rfl⟩))
  (fun os started H enc _ F => by rw [OpenClaim.pre_eq_preRow]; exact lifted os started H enc F)

theorem plain (f : FuncId) (fn : Func) (hf : Tryd.pinned.checked.prog.funcNamed "veil/veillaw08.TranscriptGiven" = some f) (hfn : Tryd.pinned.checked.prog.funcs[f]? = some fn) :
  false = Tryd.pinned.checked.prog.looks [] ∧ ∀ (j : Nat) t, fn.params[j]? = some t → Tryd.pinned.checked.prog.wantsStandIn t = false := by
 obtain rfl : f = 3 := Option.some.inj ((show Tryd.prog.funcNamed "veil/veillaw08.TranscriptGiven" = some 3 by kernel_rfl).symm.trans hf) |>.symm
 obtain rfl : fn = Tryd.f3 := (Option.some.inj (Tryd.func3.symm.trans hfn)).symm
 refine ⟨by kernel_rfl, fun j t ht => ?_⟩
 have hp : Tryd.f3.params = #[22, 23] := by kernel_rfl
 rw [hp] at ht
 have := Array.mem_of_getElem? ht
 simp only [List.mem_toArray, List.mem_cons, List.not_mem_nil, or_false] at this
 rcases this with rfl | rfl <;> exact (show Tryd.prog.wantsStandIn _ = false by kernel_rfl)

theorem card : Rows.TranscriptGivenUptoCardSaid :=
 Claim7.holds_tied_plain_at .later [] _ _ _ _ said (fun _ h => by cases h) (by kernel_rfl) (fun _ h => by cases h) transcriptGivenUpto_row_tie rfl ⟨rfl, rfl⟩ (by kernel_rfl) rfl plain (by kernel_rfl)
end TranscriptGiven
end Go.Gx

namespace Go.Proofs.YthgclfedhgmpiaaDoor
theorem transcriptGivenProved : Rows.TranscriptGivenUptoCardSaid := Go.Gx.TranscriptGiven.card
end Go.Proofs.YthgclfedhgmpiaaDoor
#print axioms Go.Proofs.YthgclfedhgmpiaaDoor.transcriptGivenProved
