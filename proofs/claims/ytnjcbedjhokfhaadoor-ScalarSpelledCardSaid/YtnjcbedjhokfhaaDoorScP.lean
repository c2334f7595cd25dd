/- Products in Montgomery's form. -/
import Derived.Test.YtnjcbedjhokfhaaDoorScO
namespace Go.Gx
open Go.Proofs Go.Sp
set_option linter.unusedVariables false

def vc89 (x y z w : Int) (K : SV → Prop) (Q : Nat → List Pv → Prop) : Prop := fnVc Γ8 Tryd.f89 [] [.i .u64 ⟨false, x⟩, .i .u64 ⟨false, y⟩, .i .u64 ⟨false, z⟩, .i .u64 ⟨false, w⟩] gh K Q
theorem vc89_eq : ∀ (x y z w : Int) (K : SV → Prop) (Q : Nat → List Pv → Prop), vc89 x y z w K Q = ∀ (x1 : Int), x1 = x * y / (18446744073709551616 : Int) → InR IntKind.u64 x1 → ∀ (x2 : Int), x2 = x * y % (18446744073709551616 : Int) → InR IntKind.u64 x2 → Need ((0 : Int) ≤ (1 : Int)) ∧ ∀ (x3 : Int), x3 = (x2 + z + (0 : Int)) % (18446744073709551616 : Int) → InR IntKind.u64 x3 → ∀ (x4 : Int), x4 = (x2 + z + (0 : Int)) / (18446744073709551616 : Int) → InR IntKind.u64 x4 → ∀ (x5 : Int), x5 = IntKind.u64.wrap (x1 + x4) → InR IntKind.u64 x5 → Need ((0 : Int) ≤ (1 : Int)) ∧ ∀ (x6 : Int), x6 = (x3 + w + (0 : Int)) % (18446744073709551616 : Int) → InR IntKind.u64 x6 → ∀ (x7 : Int), x7 = (x3 + w + (0 : Int)) / (18446744073709551616 : Int) → InR IntKind.u64 x7 → ∀ (x8 : Int), x8 = IntKind.u64.wrap (x5 + x7) → InR IntKind.u64 x8 → K (SV.tup [SV.i IntKind.u64 { st := false, z := x6 }, SV.i IntKind.u64 { st := false, z := x8 }]) := by
  intros
  kernel_rfl

def intoS : List SV → Option (List Prop × SV)
  | [.i .u64 xV, .i .u64 yV, .i .u64 zV, .i .u64 wV] => some ([], .tup [.i .u64 ⟨false, (xV.z * yV.z + zV.z + wV.z) % 18446744073709551616⟩, .i .u64 ⟨false, (xV.z * yV.z + zV.z + wV.z) / 18446744073709551616⟩])
  | _ => none

theorem into_ok : CallOk Tryd.prog gh 89 (pureCtr intoS) := by
  refine call_pure (fn := Tryd.f89) Γ8_ok rfl (by kernel_rfl) (by kernel_rfl) (by kernel_rfl) intoS fun args P0 Y0 hs hp hf => ?_
  unfold intoS at hs
  split at hs
  · rename_i xV yV zV wV
    simp only [Option.some.injEq, Prod.mk.injEq] at hs
    obtain ⟨rfl, rfl⟩ := hs
    simp only [FactVs, FactV] at hf
    obtain ⟨hx, hy, hz, hw, _⟩ := hf
    refine ⟨[.i .u64 ⟨false, xV.z⟩, .i .u64 ⟨false, yV.z⟩, .i .u64 ⟨false, zV.z⟩, .i .u64 ⟨false, wV.z⟩], [], _, ⟨rfl, rfl, rfl, rfl, trivial⟩, Nat.le_of_ble_eq_true (by kernel_rfl), vc_noloops ?_⟩
    show vc89 xV.z yV.z zV.z wV.z _ _
    rw [vc89_eq]
    generalize xV.z = x at *
    generalize yV.z = y at *
    generalize zV.z = z at *
    generalize wV.z = w at *
    have hp : 0 ≤ x * y ∧ x * y ≤ 340282366920938463426481119284349108225 := ⟨Int.mul_nonneg hx.1 hy.1, Int.le_trans (Int.mul_le_mul (show x ≤ 18446744073709551615 by have := hx.2; omega) (show y ≤ 18446744073709551615 by have := hy.2; omega) hy.1 (by omega)) (by decide)⟩
    simp only [InR] at hz hw
    generalize x * y = q at *
    intro x1 e1 r1 x2 e2 r2
    refine ⟨by unfold Need; omega, fun x3 e3 r3 x4 e4 r4 x5 e5 r5 => ⟨by unfold Need; omega, fun x6 e6 r6 x7 e7 r7 x8 e8 r8 => ?_⟩⟩
    rw [wrap_u64] at e5 e8
    have k6 : x6 = (q + z + w) % 18446744073709551616 := by omega
    have k8 : x8 = (q + z + w) / 18446744073709551616 := by omega
    exact ⟨k6, k8, trivial⟩
  · cases hs

def Γ9 : Tab := ⟨tys, (89, pureCtr intoS) :: Γ8.ctr, [0], gh⟩
theorem Γ9_ok : TabOk Tryd.prog Γ9 := Γ8_ok.cons into_ok
end Go.Gx
