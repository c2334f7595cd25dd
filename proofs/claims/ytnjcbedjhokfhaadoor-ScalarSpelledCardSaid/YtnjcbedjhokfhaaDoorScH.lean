/- The reference's order, its constant. -/
import Derived.Test.YtnjcbedjhokfhaaDoorScG
namespace Go.Gx
open Go.Proofs Go.Sp
set_option linter.unusedVariables false

def ellS : List SV → Option (List Prop × SV)
  | [] => some ([], .arr .u64 4 true [6346243789798364141, 1503914060200516822, 0, 1152921504606846976])
  | _ => none
def vc75 (K : SV → Prop) (Q : Nat → List Pv → Prop) : Prop := fnVc Γ3 Tryd.f75 [] [] gh K Q
theorem vc75_eq : ∀ (K : SV → Prop) (Q : Nat → List Pv → Prop), vc75 K Q = K (SV.arr IntKind.u64 (4 : Nat) true [(6346243789798364141 : Int), (1503914060200516822 : Int), (0 : Int), (1152921504606846976 : Int)]) := by
  intros
  kernel_rfl


theorem ell_ok : CallOk Tryd.prog gh 75 (pureCtr ellS) := by
  refine call_pure (fn := Tryd.f75) Γ3_ok rfl (by kernel_rfl) (by kernel_rfl) (by kernel_rfl) ellS fun args p y hs hp hf => ?_
  unfold ellS at hs
  split at hs
  · simp only [Option.some.injEq, Prod.mk.injEq] at hs
    obtain ⟨rfl, rfl⟩ := hs
    refine ⟨[], [], _, trivial, Nat.zero_le _, vc_noloops ?_⟩
    show vc75 _ _
    rw [vc75_eq]
    rfl
  · cases hs

def belowS : List SV → Option (List Prop × SV)
  | [.arr .u64 4 _ l, .arr .u64 4 _ l'] => some ([], .b false (decide (val4 l < val4 l')))
  | _ => none
def vc74 (a0 a1 a2 a3 b0 b1 b2 b3 : Int) (K : SV → Prop) (Q : Nat → List Pv → Prop) : Prop := fnVc Γ3 Tryd.f74 [] [.arr .u64 4 true [a0, a1, a2, a3], .arr .u64 4 true [b0, b1, b2, b3]] gh K Q
theorem vc74_eq : ∀ (a0 a1 a2 a3 b0 b1 b2 b3 : Int) (K : SV → Prop) (Q : Nat → List Pv → Prop), vc74 a0 a1 a2 a3 b0 b1 b2 b3 K Q = (((a3 != b3) = true → K (SV.b false (decide (a3 < b3)))) ∧ ((a3 != b3) = false → ((a2 != b2) = true → K (SV.b false (decide (a2 < b2)))) ∧ ((a2 != b2) = false → ((a1 != b1) = true → K (SV.b false (decide (a1 < b1)))) ∧ ((a1 != b1) = false → ((a0 != b0) = true → K (SV.b false (decide (a0 < b0)))) ∧ ((a0 != b0) = false → K (SV.b true false)))))) := by
  intros
  kernel_rfl


theorem below_ok : CallOk Tryd.prog gh 74 (pureCtr belowS) := by
  refine call_pure (fn := Tryd.f74) Γ3_ok rfl (by kernel_rfl) (by kernel_rfl) (by kernel_rfl) belowS fun args p y hs hp hf => ?_
  unfold belowS at hs
  split at hs
  · rename_i e1 l e2 l'
    simp only [Option.some.injEq, Prod.mk.injEq] at hs
    obtain ⟨rfl, rfl⟩ := hs
    simp only [FactVs, FactV] at hf
    obtain ⟨⟨hl, h1⟩, ⟨hl', h2⟩, _⟩ := hf
    obtain ⟨a0, a1, a2, a3, rfl⟩ := len4 hl
    obtain ⟨b0, b1, b2, b3, rfl⟩ := len4 hl'
    have i0 := h1 a0 (by simp); have i1 := h1 a1 (by simp); have i2 := h1 a2 (by simp); have i3 := h1 a3 (by simp)
    have j0 := h2 b0 (by simp); have j1 := h2 b1 (by simp); have j2 := h2 b2 (by simp); have j3 := h2 b3 (by simp)
    simp only [InR] at i0 i1 i2 i3 j0 j1 j2 j3
    refine ⟨[.arr .u64 4 true [a0, a1, a2, a3], .arr .u64 4 true [b0, b1, b2, b3]], [], _, ⟨rfl, rfl, trivial⟩, Nat.le_of_ble_eq_true (by kernel_rfl), vc_noloops ?_⟩
    show vc74 a0 a1 a2 a3 b0 b1 b2 b3 _ _
    rw [vc74_eq]
    have key : ∀ {x y : Int} {p : Prop} [Decidable p], (x < y ↔ p) → decide (x < y) = decide p := fun h => by simp [h]
    refine ⟨fun h3 => ?_, fun h3 => ⟨fun h2 => ?_, fun h2 => ⟨fun h1 => ?_, fun h1 => ⟨fun h0 => ?_, fun h0 => ?_⟩⟩⟩⟩
    · have h3 : a3 ≠ b3 := by simpa using h3
      exact key (by simp only [val4]; omega)
    · have h3 : a3 = b3 := by simpa using h3
      have h2 : a2 ≠ b2 := by simpa using h2
      exact key (by simp only [val4]; omega)
    · have h3 : a3 = b3 := by simpa using h3
      have h2 : a2 = b2 := by simpa using h2
      have h1 : a1 ≠ b1 := by simpa using h1
      exact key (by simp only [val4]; omega)
    · have h3 : a3 = b3 := by simpa using h3
      have h2 : a2 = b2 := by simpa using h2
      have h1 : a1 = b1 := by simpa using h1
      have h0 : a0 ≠ b0 := by simpa using h0
      exact key (by simp only [val4]; omega)
    · have h3 : a3 = b3 := by simpa using h3
      have h2 : a2 = b2 := by simpa using h2
      have h1 : a1 = b1 := by simpa using h1
      have h0 : a0 = b0 := by simpa using h0
      show false = decide _
      rw [h0, h1, h2, h3]; simp
  · cases hs

def Γ4 : Tab := ⟨tys, [(46, pureCtr leastS), (76, pureCtr minusS), (73, pureCtr plusS), (75, pureCtr ellS), (74, pureCtr belowS), (72, pureCtr lowerS), (69, pureCtr chooseS), (71, pureCtr plusS), (77, pureCtr minusS), (83, pureCtr mul64S), (84, c84), (88, c88)], [0], gh⟩
theorem Γ4_ok : TabOk Tryd.prog Γ4 := ((((Γ3_ok.cons below_ok).cons ell_ok).cons refPlus_ok).cons refMinus_ok).cons least_ok

end Go.Gx
