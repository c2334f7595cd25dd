/- A state that takes and tells nothing. -/
import Derived.Test.YtihihilhfijloaaDoorHaH
namespace Go.Gx
open Go.Proofs Go.Sp
set_option linter.unusedVariables false
set_option maxRecDepth 100000

theorem rep64 : (List.replicate 64 (0 : Int) == [(0 : Int), 0, 0, 0, 0, 0, 0, 0, 0, 0, 0, 0, 0, 0, 0, 0, 0, 0, 0, 0, 0, 0, 0, 0, 0, 0, 0, 0, 0, 0, 0, 0, 0, 0, 0, 0, 0, 0, 0, 0, 0, 0, 0, 0, 0, 0, 0, 0, 0, 0, 0, 0, 0, 0, 0, 0, 0, 0, 0, 0, 0, 0, 0, 0]) = true := by decide
theorem wr_false (s : HS) (b : List Int) : wr false s b = s := by unfold wr; rw [if_neg (fun h => by cases h.1)]
def vc25 (ws bl : List Int) (n : Int) (b : List Int) (K : SV → List Seg → Prop) (Q : Nat → List Pv → Prop) : Prop := fnVcM Γ6 Tryd.f25 [] [.p 600 0, .sl 500 0 1 ⟨true, 0⟩ ⟨false, ((b.length : Nat) : Int)⟩] (W23 b [.arr .u64 8 false ws, .arr .u8 128 false bl, .one (.i .i64 ⟨false, n⟩), .one (.b false false)]) K Q
def vc25z (ws bl : List Int) (n : Int) (K : SV → List Seg → Prop) (Q : Nat → List Pv → Prop) : Prop := fnVcM Γ6 Tryd.f25 [] [.p 600 0, .nsl] (rec8 ws bl n false) K Q
def vc25b (b : List Int) (K : SV → Prop) (Q : Nat → List Pv → Prop) : Prop := fnVc Γ6 Tryd.f25 [] [.np, .sl 500 0 1 ⟨true, 0⟩ ⟨false, ((b.length : Nat) : Int)⟩] (gh ++ [(500, .segs true [.rowI .u8 b])]) K Q
def vc25c (K : SV → Prop) (Q : Nat → List Pv → Prop) : Prop := fnVc Γ6 Tryd.f25 [] [.np, .nsl] gh K Q
theorem vc25_eq : ∀ (ws bl : List Int) (n : Int) (b : List Int) (K : SV → List Seg → Prop) (Q : Nat → List Pv → Prop), vc25 ws bl n b K Q = (Need ((0 : Int) + (b.length : Int) ≤ (b.length : Int)) ∧ Need (false = true → (0 : Int) ≤ n ∧ n ≤ (1152921504606846976 : Int)) ∧ ∀ (x1 : List Int), x1 = (wr false { ws := ws, bl := bl, n := n } (List.take ((b.length : Int)).toNat (List.drop (0 : Nat) b))).ws → x1.length = (8 : Nat) → AllR IntKind.u64 x1 → ∀ (x2 : List Int), x2 = (wr false { ws := ws, bl := bl, n := n } (List.take ((b.length : Int)).toNat (List.drop (0 : Nat) b))).bl → x2.length = (128 : Nat) → AllR IntKind.u8 x2 → ∀ (x3 : Int), x3 = (wr false { ws := ws, bl := bl, n := n } (List.take ((b.length : Int)).toNat (List.drop (0 : Nat) b))).n → InR IntKind.i64 x3 → ∀ (x4 : List Int), (x4 = if false = true then [(7640891576956012808 : Int), (13503953896175478587 : Int), (4354685564936845355 : Int), (11912009170470909681 : Int), (5840696475078001361 : Int), (11170449401992604703 : Int), (2270897969802886507 : Int), (6620516959819538809 : Int)] else x1) → x4.length = (8 : Nat) → AllR IntKind.u64 x4 → ∀ (x5 : List Int), (x5 = if false = true then List.replicate (128 : Nat) (0 : Int) else x2) → x5.length = (128 : Nat) → AllR IntKind.u8 x5 → ∀ (x6 : Int), (x6 = if false = true then (0 : Int) else x3) → InR IntKind.i64 x6 → Need ((0 : Int) + (b.length : Int) ≤ (b.length : Int)) ∧ Need (false = true → (0 : Int) ≤ x6 ∧ x6 ≤ (1152921504606846976 : Int)) ∧ ∀ (x7 : List Int), x7 = (wr false { ws := x4, bl := x5, n := x6 } (List.take ((b.length : Int)).toNat (List.drop (0 : Nat) b))).ws → x7.length = (8 : Nat) → AllR IntKind.u64 x7 → ∀ (x8 : List Int), x8 = (wr false { ws := x4, bl := x5, n := x6 } (List.take ((b.length : Int)).toNat (List.drop (0 : Nat) b))).bl → x8.length = (128 : Nat) → AllR IntKind.u8 x8 → ∀ (x9 : Int), x9 = (wr false { ws := x4, bl := x5, n := x6 } (List.take ((b.length : Int)).toNat (List.drop (0 : Nat) b))).n → InR IntKind.i64 x9 → Need ((0 : Int) ≤ x9) ∧ ∀ (x10 : List Int), x10 = x7 → x10.length = (8 : Nat) → AllR IntKind.u64 x10 → ∀ (x11 : List Int), x11 = x8 → x11.length = (128 : Nat) → AllR IntKind.u8 x11 → ∀ (x12 : Int), x12 = x9 → InR IntKind.i64 x12 → ∀ (x13 : List Int), x13 = sumL x7 x8 x9 false → x13.length = (64 : Nat) → AllR IntKind.u8 x13 → ((x13 == [(0 : Int), (0 : Int), (0 : Int), (0 : Int), (0 : Int), (0 : Int), (0 : Int), (0 : Int), (0 : Int), (0 : Int), (0 : Int), (0 : Int), (0 : Int), (0 : Int), (0 : Int), (0 : Int), (0 : Int), (0 : Int), (0 : Int), (0 : Int), (0 : Int), (0 : Int), (0 : Int), (0 : Int), (0 : Int), (0 : Int), (0 : Int), (0 : Int), (0 : Int), (0 : Int), (0 : Int), (0 : Int), (0 : Int), (0 : Int), (0 : Int), (0 : Int), (0 : Int), (0 : Int), (0 : Int), (0 : Int), (0 : Int), (0 : Int), (0 : Int), (0 : Int), (0 : Int), (0 : Int), (0 : Int), (0 : Int), (0 : Int), (0 : Int), (0 : Int), (0 : Int), (0 : Int), (0 : Int), (0 : Int), (0 : Int), (0 : Int), (0 : Int), (0 : Int), (0 : Int), (0 : Int), (0 : Int), (0 : Int), (0 : Int)]) = true → ∀ (x14 : List Int), x14 = x10 → x14.length = (8 : Nat) → AllR IntKind.u64 x14 → ∀ (x15 : List Int), x15 = x11 → x15.length = (128 : Nat) → AllR IntKind.u8 x15 → ∀ (x16 : Int), x16 = x12 → InR IntKind.i64 x16 → ∀ (x17 : Int), x17 = sizeL x12 false → InR IntKind.i64 x17 → ((x17 == (0 : Int)) = true → Need (false = false) ∧ ∀ (x18 : List Int), x18 = x14 → x18.length = (8 : Nat) → AllR IntKind.u64 x18 → ∀ (x19 : List Int), x19 = x15 → x19.length = (128 : Nat) → AllR IntKind.u8 x19 → ∀ (x20 : Int), x20 = x16 → InR IntKind.i64 x20 → K (SV.b true true) [Seg.arr IntKind.u64 (8 : Nat) false x18, Seg.arr IntKind.u8 (128 : Nat) false x19, Seg.one (SV.i IntKind.i64 { st := false, z := x20 }), Seg.one (SV.b false false)]) ∧ ((x17 == (0 : Int)) = false → K (SV.b true false) [Seg.arr IntKind.u64 (8 : Nat) false x14, Seg.arr IntKind.u8 (128 : Nat) false x15, Seg.one (SV.i IntKind.i64 { st := false, z := x16 }), Seg.one (SV.b false false)])) ∧ ((x13 == [(0 : Int), (0 : Int), (0 : Int), (0 : Int), (0 : Int), (0 : Int), (0 : Int), (0 : Int), (0 : Int), (0 : Int), (0 : Int), (0 : Int), (0 : Int), (0 : Int), (0 : Int), (0 : Int), (0 : Int), (0 : Int), (0 : Int), (0 : Int), (0 : Int), (0 : Int), (0 : Int), (0 : Int), (0 : Int), (0 : Int), (0 : Int), (0 : Int), (0 : Int), (0 : Int), (0 : Int), (0 : Int), (0 : Int), (0 : Int), (0 : Int), (0 : Int), (0 : Int), (0 : Int), (0 : Int), (0 : Int), (0 : Int), (0 : Int), (0 : Int), (0 : Int), (0 : Int), (0 : Int), (0 : Int), (0 : Int), (0 : Int), (0 : Int), (0 : Int), (0 : Int), (0 : Int), (0 : Int), (0 : Int), (0 : Int), (0 : Int), (0 : Int), (0 : Int), (0 : Int), (0 : Int), (0 : Int), (0 : Int), (0 : Int)]) = false → K (SV.b true false) [Seg.arr IntKind.u64 (8 : Nat) false x10, Seg.arr IntKind.u8 (128 : Nat) false x11, Seg.one (SV.i IntKind.i64 { st := false, z := x12 }), Seg.one (SV.b false false)])) := by
  intros
  kernel_rfl
theorem vc25z_eq : ∀ (ws bl : List Int) (n : Int) (K : SV → List Seg → Prop) (Q : Nat → List Pv → Prop), vc25z ws bl n K Q = ∀ (x1 : List Int), x1 = ws → x1.length = (8 : Nat) → AllR IntKind.u64 x1 → ∀ (x2 : List Int), x2 = bl → x2.length = (128 : Nat) → AllR IntKind.u8 x2 → ∀ (x3 : Int), x3 = n → InR IntKind.i64 x3 → ∀ (x4 : List Int), (x4 = if false = true then [(7640891576956012808 : Int), (13503953896175478587 : Int), (4354685564936845355 : Int), (11912009170470909681 : Int), (5840696475078001361 : Int), (11170449401992604703 : Int), (2270897969802886507 : Int), (6620516959819538809 : Int)] else x1) → x4.length = (8 : Nat) → AllR IntKind.u64 x4 → ∀ (x5 : List Int), (x5 = if false = true then List.replicate (128 : Nat) (0 : Int) else x2) → x5.length = (128 : Nat) → AllR IntKind.u8 x5 → ∀ (x6 : Int), (x6 = if false = true then (0 : Int) else x3) → InR IntKind.i64 x6 → ∀ (x7 : List Int), x7 = x4 → x7.length = (8 : Nat) → AllR IntKind.u64 x7 → ∀ (x8 : List Int), x8 = x5 → x8.length = (128 : Nat) → AllR IntKind.u8 x8 → ∀ (x9 : Int), x9 = x6 → InR IntKind.i64 x9 → Need ((0 : Int) ≤ x9) ∧ ∀ (x10 : List Int), x10 = x7 → x10.length = (8 : Nat) → AllR IntKind.u64 x10 → ∀ (x11 : List Int), x11 = x8 → x11.length = (128 : Nat) → AllR IntKind.u8 x11 → ∀ (x12 : Int), x12 = x9 → InR IntKind.i64 x12 → ∀ (x13 : List Int), x13 = sumL x7 x8 x9 false → x13.length = (64 : Nat) → AllR IntKind.u8 x13 → ((x13 == [(0 : Int), (0 : Int), (0 : Int), (0 : Int), (0 : Int), (0 : Int), (0 : Int), (0 : Int), (0 : Int), (0 : Int), (0 : Int), (0 : Int), (0 : Int), (0 : Int), (0 : Int), (0 : Int), (0 : Int), (0 : Int), (0 : Int), (0 : Int), (0 : Int), (0 : Int), (0 : Int), (0 : Int), (0 : Int), (0 : Int), (0 : Int), (0 : Int), (0 : Int), (0 : Int), (0 : Int), (0 : Int), (0 : Int), (0 : Int), (0 : Int), (0 : Int), (0 : Int), (0 : Int), (0 : Int), (0 : Int), (0 : Int), (0 : Int), (0 : Int), (0 : Int), (0 : Int), (0 : Int), (0 : Int), (0 : Int), (0 : Int), (0 : Int), (0 : Int), (0 : Int), (0 : Int), (0 : Int), (0 : Int), (0 : Int), (0 : Int), (0 : Int), (0 : Int), (0 : Int), (0 : Int), (0 : Int), (0 : Int), (0 : Int)]) = true → ∀ (x14 : List Int), x14 = x10 → x14.length = (8 : Nat) → AllR IntKind.u64 x14 → ∀ (x15 : List Int), x15 = x11 → x15.length = (128 : Nat) → AllR IntKind.u8 x15 → ∀ (x16 : Int), x16 = x12 → InR IntKind.i64 x16 → ∀ (x17 : Int), x17 = sizeL x12 false → InR IntKind.i64 x17 → ((x17 == (0 : Int)) = true → Need (false = false) ∧ ∀ (x18 : List Int), x18 = x14 → x18.length = (8 : Nat) → AllR IntKind.u64 x18 → ∀ (x19 : List Int), x19 = x15 → x19.length = (128 : Nat) → AllR IntKind.u8 x19 → ∀ (x20 : Int), x20 = x16 → InR IntKind.i64 x20 → K (SV.b true true) [Seg.arr IntKind.u64 (8 : Nat) false x18, Seg.arr IntKind.u8 (128 : Nat) false x19, Seg.one (SV.i IntKind.i64 { st := false, z := x20 }), Seg.one (SV.b false false)]) ∧ ((x17 == (0 : Int)) = false → K (SV.b true false) [Seg.arr IntKind.u64 (8 : Nat) false x14, Seg.arr IntKind.u8 (128 : Nat) false x15, Seg.one (SV.i IntKind.i64 { st := false, z := x16 }), Seg.one (SV.b false false)])) ∧ ((x13 == [(0 : Int), (0 : Int), (0 : Int), (0 : Int), (0 : Int), (0 : Int), (0 : Int), (0 : Int), (0 : Int), (0 : Int), (0 : Int), (0 : Int), (0 : Int), (0 : Int), (0 : Int), (0 : Int), (0 : Int), (0 : Int), (0 : Int), (0 : Int), (0 : Int), (0 : Int), (0 : Int), (0 : Int), (0 : Int), (0 : Int), (0 : Int), (0 : Int), (0 : Int), (0 : Int), (0 : Int), (0 : Int), (0 : Int), (0 : Int), (0 : Int), (0 : Int), (0 : Int), (0 : Int), (0 : Int), (0 : Int), (0 : Int), (0 : Int), (0 : Int), (0 : Int), (0 : Int), (0 : Int), (0 : Int), (0 : Int), (0 : Int), (0 : Int), (0 : Int), (0 : Int), (0 : Int), (0 : Int), (0 : Int), (0 : Int), (0 : Int), (0 : Int), (0 : Int), (0 : Int), (0 : Int), (0 : Int), (0 : Int), (0 : Int)]) = false → K (SV.b true false) [Seg.arr IntKind.u64 (8 : Nat) false x10, Seg.arr IntKind.u8 (128 : Nat) false x11, Seg.one (SV.i IntKind.i64 { st := false, z := x12 }), Seg.one (SV.b false false)]) := by
  intros
  kernel_rfl
theorem vc25b_eq : ∀ (b : List Int) (K : SV → Prop) (Q : Nat → List Pv → Prop), vc25b b K Q = (Need ((0 : Int) + (b.length : Int) ≤ (b.length : Int)) ∧ Need ((0 : Int) + (b.length : Int) ≤ (b.length : Int)) ∧ ∀ (x1 : List Int), x1 = List.replicate (64 : Nat) (0 : Int) → x1.length = (64 : Nat) → AllR IntKind.u8 x1 → ((x1 == [(0 : Int), (0 : Int), (0 : Int), (0 : Int), (0 : Int), (0 : Int), (0 : Int), (0 : Int), (0 : Int), (0 : Int), (0 : Int), (0 : Int), (0 : Int), (0 : Int), (0 : Int), (0 : Int), (0 : Int), (0 : Int), (0 : Int), (0 : Int), (0 : Int), (0 : Int), (0 : Int), (0 : Int), (0 : Int), (0 : Int), (0 : Int), (0 : Int), (0 : Int), (0 : Int), (0 : Int), (0 : Int), (0 : Int), (0 : Int), (0 : Int), (0 : Int), (0 : Int), (0 : Int), (0 : Int), (0 : Int), (0 : Int), (0 : Int), (0 : Int), (0 : Int), (0 : Int), (0 : Int), (0 : Int), (0 : Int), (0 : Int), (0 : Int), (0 : Int), (0 : Int), (0 : Int), (0 : Int), (0 : Int), (0 : Int), (0 : Int), (0 : Int), (0 : Int), (0 : Int), (0 : Int), (0 : Int), (0 : Int), (0 : Int)]) = true → K (SV.b true true)) ∧ ((x1 == [(0 : Int), (0 : Int), (0 : Int), (0 : Int), (0 : Int), (0 : Int), (0 : Int), (0 : Int), (0 : Int), (0 : Int), (0 : Int), (0 : Int), (0 : Int), (0 : Int), (0 : Int), (0 : Int), (0 : Int), (0 : Int), (0 : Int), (0 : Int), (0 : Int), (0 : Int), (0 : Int), (0 : Int), (0 : Int), (0 : Int), (0 : Int), (0 : Int), (0 : Int), (0 : Int), (0 : Int), (0 : Int), (0 : Int), (0 : Int), (0 : Int), (0 : Int), (0 : Int), (0 : Int), (0 : Int), (0 : Int), (0 : Int), (0 : Int), (0 : Int), (0 : Int), (0 : Int), (0 : Int), (0 : Int), (0 : Int), (0 : Int), (0 : Int), (0 : Int), (0 : Int), (0 : Int), (0 : Int), (0 : Int), (0 : Int), (0 : Int), (0 : Int), (0 : Int), (0 : Int), (0 : Int), (0 : Int), (0 : Int), (0 : Int)]) = false → K (SV.b true false))) := by
  intros
  kernel_rfl
theorem vc25c_eq : ∀ (K : SV → Prop) (Q : Nat → List Pv → Prop), vc25c K Q = ∀ (x1 : List Int), x1 = List.replicate (64 : Nat) (0 : Int) → x1.length = (64 : Nat) → AllR IntKind.u8 x1 → ((x1 == [(0 : Int), (0 : Int), (0 : Int), (0 : Int), (0 : Int), (0 : Int), (0 : Int), (0 : Int), (0 : Int), (0 : Int), (0 : Int), (0 : Int), (0 : Int), (0 : Int), (0 : Int), (0 : Int), (0 : Int), (0 : Int), (0 : Int), (0 : Int), (0 : Int), (0 : Int), (0 : Int), (0 : Int), (0 : Int), (0 : Int), (0 : Int), (0 : Int), (0 : Int), (0 : Int), (0 : Int), (0 : Int), (0 : Int), (0 : Int), (0 : Int), (0 : Int), (0 : Int), (0 : Int), (0 : Int), (0 : Int), (0 : Int), (0 : Int), (0 : Int), (0 : Int), (0 : Int), (0 : Int), (0 : Int), (0 : Int), (0 : Int), (0 : Int), (0 : Int), (0 : Int), (0 : Int), (0 : Int), (0 : Int), (0 : Int), (0 : Int), (0 : Int), (0 : Int), (0 : Int), (0 : Int), (0 : Int), (0 : Int), (0 : Int)]) = true → K (SV.b true true)) ∧ ((x1 == [(0 : Int), (0 : Int), (0 : Int), (0 : Int), (0 : Int), (0 : Int), (0 : Int), (0 : Int), (0 : Int), (0 : Int), (0 : Int), (0 : Int), (0 : Int), (0 : Int), (0 : Int), (0 : Int), (0 : Int), (0 : Int), (0 : Int), (0 : Int), (0 : Int), (0 : Int), (0 : Int), (0 : Int), (0 : Int), (0 : Int), (0 : Int), (0 : Int), (0 : Int), (0 : Int), (0 : Int), (0 : Int), (0 : Int), (0 : Int), (0 : Int), (0 : Int), (0 : Int), (0 : Int), (0 : Int), (0 : Int), (0 : Int), (0 : Int), (0 : Int), (0 : Int), (0 : Int), (0 : Int), (0 : Int), (0 : Int), (0 : Int), (0 : Int), (0 : Int), (0 : Int), (0 : Int), (0 : Int), (0 : Int), (0 : Int), (0 : Int), (0 : Int), (0 : Int), (0 : Int), (0 : Int), (0 : Int), (0 : Int), (0 : Int)]) = false → K (SV.b true false)) := by
  intros
  kernel_rfl

def nothN : List RA → Option (List Prop × SV)
  | [.v .np, .c (.ints .u8 b)] => some ([], .b true true)
  | [.v .np, .n] => some ([], .b true true)
  | _ => none
theorem nothN_ok : CallOk Tryd.prog gh 25 (readCtr [false, true] nothN) := by
  refine call_read (fn := Tryd.f25) Γ6_ok rfl (fun g hg => by have hg : g ∈ [0, 2] := hg; simp at hg; omega) rfl (by kernel_rfl) (by kernel_rfl) [false, true] nothN fun ras P0 Y0 hs hp hv hc => ?_
  unfold nothN at hs
  split at hs
  · rename_i b
    simp only [Option.some.injEq, Prod.mk.injEq] at hs
    obtain ⟨rfl, rfl⟩ := hs
    refine ⟨[.np, .sl 500 0 1 ⟨true, 0⟩ ⟨false, ((b.length : Nat) : Int)⟩], [], _, ⟨trivial, rfl, trivial⟩, Nat.le_of_ble_eq_true (by kernel_rfl), vc_noloops ?_⟩
    show vc25b b _ _
    rw [vc25b_eq]
    refine ⟨need_of (by omega), need_of (by omega), ?_⟩
    rintro x1 rfl _ _
    exact ⟨fun _ => rfl, fun h => absurd (rep64.symm.trans h) (by decide)⟩
  · simp only [Option.some.injEq, Prod.mk.injEq] at hs
    obtain ⟨rfl, rfl⟩ := hs
    refine ⟨[.np, .nsl], [], _, ⟨trivial, rfl, trivial⟩, Nat.le_of_ble_eq_true (by kernel_rfl), vc_noloops ?_⟩
    show vc25c _ _
    rw [vc25c_eq]
    rintro x1 rfl _ _
    exact ⟨fun _ => rfl, fun h => absurd (rep64.symm.trans h) (by decide)⟩
  · cases hs

def nothS : List Seg → Con → Option (List Prop × SV × List Seg)
  | [.arr .u64 8 _ ws, .arr .u8 128 _ bl, .one (.i .i64 n), .one (.b _ false)], .ints .u8 b => some ([0 ≤ n.z], .b true true, [.arr .u64 8 false ws, .arr .u8 128 false bl, .one (.i .i64 ⟨false, n.z⟩), .one (.b false false)])
  | _, _ => none
theorem nothV_ok : CallOk Tryd.prog gh 25 (methvCtr nothS) := by
  refine call_methv (fn := Tryd.f25) Γ6_ok rfl (fun g hg => by have hg : g ∈ [0, 2] := hg; simp at hg; omega) (by kernel_rfl) (by kernel_rfl) (by kernel_rfl) nothS (Nat.le_of_ble_eq_true (by kernel_rfl)) fun l q p v l' hs hp hf hq hlq => ?_
  unfold nothS at hs
  split at hs
  · rename_i e1 ws e2 bl n e3 b
    simp only [Option.some.injEq, Prod.mk.injEq] at hs
    obtain ⟨rfl, rfl, rfl⟩ := hs
    obtain ⟨nT, n⟩ := n
    dsimp only at *
    have hp : 0 ≤ n := hp.1
    refine ⟨fun dm ρ cs hcs => rec_pos (k' := .u64) (e' := true) (bl := []) dm ρ cs hcs, [.arr .u64 8 false ws, .arr .u8 128 false bl, .one (.i .i64 ⟨false, n⟩), .one (.b false false)], [], _, ⟨⟨rfl, rfl, rfl⟩, ⟨rfl, rfl, rfl⟩, ⟨rfl, rfl⟩, ⟨rfl, rfl⟩, trivial⟩, vcM_noloops ?_⟩
    show vc25 ws bl n b _ _
    rw [vc25_eq]
    simp only [wr_false]
    refine ⟨need_of (by omega), need_of (by intro h; cases h), ?_⟩
    rintro x1 rfl _ _ x2 rfl _ _ x3 rfl _ x4 e4 _ _ x5 e5 _ _ x6 e6 _
    rw [if_neg (by decide)] at e4 e5 e6
    subst e4 e5 e6
    refine ⟨need_of (by omega), need_of (by intro h; cases h), ?_⟩
    rintro x7 rfl _ _ x8 rfl _ _ x9 rfl _
    refine ⟨need_of hp, ?_⟩
    rintro x10 rfl _ _ x11 rfl _ _ x12 rfl _ x13 rfl _ _
    refine ⟨fun _ => ?_, fun h => absurd (rep64.symm.trans h) (by decide)⟩
    rintro x14 rfl _ _ x15 rfl _ _ x16 rfl _ x17 rfl _
    refine ⟨fun _ => ⟨need_of (by simp), ?_⟩, fun h => absurd h (by simp [sizeL])⟩
    rintro x18 rfl _ _ x19 rfl _ _ x20 rfl _
    exact ⟨rfl, ⟨rfl, rfl, rfl⟩, ⟨rfl, rfl, rfl⟩, ⟨rfl, rfl⟩, ⟨rfl, rfl⟩, trivial⟩
  · cases hs
def nothZ : List Seg → List SV → Option (List Prop × SV × List Seg)
  | [.arr .u64 8 _ ws, .arr .u8 128 _ bl, .one (.i .i64 n), .one (.b _ false)], [.nsl] => some ([0 ≤ n.z], .b true true, [.arr .u64 8 false ws, .arr .u8 128 false bl, .one (.i .i64 ⟨false, n.z⟩), .one (.b false false)])
  | _, _ => none
theorem nothZ_ok : CallOk Tryd.prog gh 25 (methCtr nothZ) := by
  refine call_meth (fn := Tryd.f25) Γ6_ok rfl (fun g hg => by have hg : g ∈ [0, 2] := hg; simp at hg; omega) (by kernel_rfl) (by kernel_rfl) (by kernel_rfl) nothZ fun l rest p v l' hs hp hf hr => ?_
  unfold nothZ at hs
  split at hs
  · rename_i e1 ws e2 bl n e3
    simp only [Option.some.injEq, Prod.mk.injEq] at hs
    obtain ⟨rfl, rfl, rfl⟩ := hs
    obtain ⟨nT, n⟩ := n
    dsimp only at *
    have hp : 0 ≤ n := hp.1
    refine ⟨fun dm ρ cs hcs => rec_pos (k' := .u64) (e' := true) (bl := []) dm ρ cs hcs, [.arr .u64 8 false ws, .arr .u8 128 false bl, .one (.i .i64 ⟨false, n⟩), .one (.b false false)], [.nsl], [], _, ⟨⟨rfl, rfl, rfl⟩, ⟨rfl, rfl, rfl⟩, ⟨rfl, rfl⟩, ⟨rfl, rfl⟩, trivial⟩, ⟨trivial, trivial⟩, Nat.le_of_ble_eq_true (by kernel_rfl), vcM_noloops ?_⟩
    show vc25z ws bl n _ _
    rw [vc25z_eq]
    rintro x1 rfl _ _ x2 rfl _ _ x3 rfl _ x4 e4 _ _ x5 e5 _ _ x6 e6 _
    rw [if_neg (by decide)] at e4 e5 e6
    subst e4 e5 e6
    rintro x7 rfl _ _ x8 rfl _ _ x9 rfl _
    refine ⟨need_of hp, ?_⟩
    rintro x10 rfl _ _ x11 rfl _ _ x12 rfl _ x13 rfl _ _
    refine ⟨fun _ => ?_, fun h => absurd (rep64.symm.trans h) (by decide)⟩
    rintro x14 rfl _ _ x15 rfl _ _ x16 rfl _ x17 rfl _
    refine ⟨fun _ => ⟨need_of (by simp), ?_⟩, fun h => absurd h (by simp [sizeL])⟩
    rintro x18 rfl _ _ x19 rfl _ _ x20 rfl _
    exact ⟨rfl, ⟨rfl, rfl, rfl⟩, ⟨rfl, rfl, rfl⟩, ⟨rfl, rfl⟩, ⟨rfl, rfl⟩, trivial⟩
  · cases hs
theorem noth_ok : CallOk Tryd.prog gh 25 (wrCtr (readCtr [false, true] nothN) (methCtr nothZ) (methvCtr nothS)) := wr_ok nothN_ok nothZ_ok nothV_ok
def Γ7 : Tab := ⟨tys, (25, wrCtr (readCtr [false, true] nothN) (methCtr nothZ) (methvCtr nothS)) :: Γ6.ctr, [0, 2], gh⟩
theorem Γ7_ok : TabOk Tryd.prog Γ7 := Γ6_ok.cons noth_ok
end Go.Gx
