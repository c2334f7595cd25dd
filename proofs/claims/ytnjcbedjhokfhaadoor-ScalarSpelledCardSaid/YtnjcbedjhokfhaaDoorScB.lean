/- Differences. -/
import Derived.Test.YtnjcbedjhokfhaaDoorScA
namespace Go.Sp
/-- The number that four words are. -/
def val4 : List Int → Int
  | [a, b, c, d] => a + 18446744073709551616 * b + 340282366920938463463374607431768211456 * c + 6277101735386680763835789423207666416102355444464034512896 * d
  | _ => 0
def w0 (n : Int) : Int := n % 18446744073709551616
def w1 (n : Int) : Int := n / 18446744073709551616 % 18446744073709551616
def w2 (n : Int) : Int := n / 340282366920938463463374607431768211456 % 18446744073709551616
def w3 (n : Int) : Int := n / 6277101735386680763835789423207666416102355444464034512896 % 18446744073709551616
def ltI (a b : Int) : Int := if a < b then 1 else 0
def chI (m a b : Int) : Int := if m = 0 then b else a
end Go.Sp
namespace Go.Gx
open Go.Proofs Go.Sp
set_option linter.unusedVariables false

/-- The four words of a number. -/
def words4 (n : Int) : List Int := [w0 n, w1 n, w2 n, w3 n]
def ge (l : List Int) (i : Nat) : Int := match nth l i with | some x => x | none => 0

theorem len4 {l : List Int} (h : l.length = 4) : ∃ a b c d, l = [a, b, c, d] := by
  match l, h with
  | [a, b, c, d], _ => exact ⟨a, b, c, d, rfl⟩

def minusS : List SV → Option (List Prop × SV)
  | [.arr .u64 4 _ l, .arr .u64 4 _ l'] => some ([], .tup [.arr .u64 4 true (words4 (val4 l - val4 l')), .i .u64 ⟨false, ltI (val4 l) (val4 l')⟩])
  | _ => none

def vc77 (a0 a1 a2 a3 b0 b1 b2 b3 : Int) (K : SV → Prop) (Q : Nat → List Pv → Prop) : Prop :=
  fnVc Γ1 Tryd.f77 [] [.arr .u64 4 true [a0, a1, a2, a3], .arr .u64 4 true [b0, b1, b2, b3]] gh K Q
theorem vc77_eq : ∀ (a0 a1 a2 a3 b0 b1 b2 b3 : Int) (K : SV → Prop) (Q : Nat → List Pv → Prop), vc77 a0 a1 a2 a3 b0 b1 b2 b3 K Q = (Need ((0 : Int) ≤ (1 : Int)) ∧ ∀ (x1 : Int), x1 = (a0 - b0 - (0 : Int)) % (18446744073709551616 : Int) → InR IntKind.u64 x1 → ∀ (x2 : Int), x2 = borI a0 b0 (0 : Int) → InR IntKind.u64 x2 → Need (x2 ≤ (1 : Int)) ∧ ∀ (x3 : Int), x3 = (a1 - b1 - x2) % (18446744073709551616 : Int) → InR IntKind.u64 x3 → ∀ (x4 : Int), x4 = borI a1 b1 x2 → InR IntKind.u64 x4 → Need (x4 ≤ (1 : Int)) ∧ ∀ (x5 : Int), x5 = (a2 - b2 - x4) % (18446744073709551616 : Int) → InR IntKind.u64 x5 → ∀ (x6 : Int), x6 = borI a2 b2 x4 → InR IntKind.u64 x6 → Need (x6 ≤ (1 : Int)) ∧ ∀ (x7 : Int), x7 = (a3 - b3 - x6) % (18446744073709551616 : Int) → InR IntKind.u64 x7 → ∀ (x8 : Int), x8 = borI a3 b3 x6 → InR IntKind.u64 x8 → K (SV.tup [SV.arr IntKind.u64 (4 : Nat) true [x1, x3, x5, x7], SV.i IntKind.u64 { st := false, z := x8 }])) := by
  intros
  kernel_rfl

theorem minus_ok : CallOk Tryd.prog gh 77 (pureCtr minusS) := by
  refine call_pure (fn := Tryd.f77) Γ1_ok rfl (by kernel_rfl) (by kernel_rfl) (by kernel_rfl) minusS fun args p y hs hp hf => ?_
  unfold minusS at hs
  split at hs
  · rename_i e1 l e2 l'
    simp only [Option.some.injEq, Prod.mk.injEq] at hs
    obtain ⟨rfl, rfl⟩ := hs
    simp only [FactVs, FactV] at hf
    obtain ⟨⟨hl, h1⟩, ⟨hl', h2⟩, _⟩ := hf
    obtain ⟨a0, a1, a2, a3, rfl⟩ := len4 hl
    obtain ⟨b0, b1, b2, b3, rfl⟩ := len4 hl'
    have i0 := h1 a0 (by simp); have i1 := h1 a1 (by simp); have i2 := h1 a2 (by simp); have i3 := h1 a3 (by simp)
    have j0 := h2 b0 (by simp); have j1 := h2 b1 (by simp); have j2 := h2 b2 (by simp); have j3 := h2 b3 (by simp)
    simp only [InR] at i0 i1 i2 i3 j0 j1 j2 j3
    refine ⟨[.arr .u64 4 true [a0, a1, a2, a3], .arr .u64 4 true [b0, b1, b2, b3]], [], _, ⟨rfl, rfl, trivial⟩, Nat.le_of_ble_eq_true (by kernel_rfl), vc_noloops ?_⟩
    show vc77 a0 a1 a2 a3 b0 b1 b2 b3 _ _
    rw [vc77_eq]
    refine ⟨by unfold Need; omega, fun x1 e1 r1 x2 e2 r2 => ⟨?_, fun x3 e3 r3 x4 e4 r4 => ⟨?_, fun x5 e5 r5 x6 e6 r6 => ⟨?_, fun x7 e7 r7 x8 e8 r8 => ?_⟩⟩⟩⟩
    · unfold Need; subst e2; unfold borI; split <;> omega
    · unfold Need; subst e4; unfold borI; split <;> omega
    · unfold Need; subst e6; unfold borI; split <;> omega
    · simp only [InR] at r1 r2 r3 r4 r5 r6 r7 r8
      simp only [borI] at e2 e4 e6 e8
      show eqVs _ _
      refine ⟨?_, ?_, trivial⟩
      · show [x1, x3, x5, x7] = words4 (val4 [a0, a1, a2, a3] - val4 [b0, b1, b2, b3])
        simp only [words4, val4, w0, w1, w2, w3, List.cons.injEq, and_true]
        refine ⟨?_, ?_, ?_, ?_⟩ <;> omega
      · show x8 = ltI (val4 [a0, a1, a2, a3]) (val4 [b0, b1, b2, b3])
        simp only [val4, ltI]
        omega
  · cases hs

end Go.Gx
