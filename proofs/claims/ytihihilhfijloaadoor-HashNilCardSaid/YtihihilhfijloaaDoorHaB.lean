/- A rotation. -/
import Derived.Test.YtihihilhfijloaaDoorHaA
namespace Go.Sp
open Go.Gx
def rotL (x k : Int) : Int := orI .u64 (shlI .u64 x (andI .u64 (IntKind.u64.wrap k) 63)) (shrI .u64 x (IntKind.u64.wrap (64 - andI .u64 (IntKind.u64.wrap k) 63)))
end Go.Sp
namespace Go.Gx
open Go.Proofs Go.Sp
set_option linter.unusedVariables false

theorem need_of {p : Prop} (h : p) : Need p := h
def vc48 (x k : Int) (K : SV → Prop) (Q : Nat → List Pv → Prop) : Prop := fnVc Γ0 Tryd.f48 [] [.i .u64 ⟨false, x⟩, .i .i64 ⟨false, k⟩] gh K Q
theorem vc48_eq : ∀ (x k : Int) (K : SV → Prop) (Q : Nat → List Pv → Prop), vc48 x k K Q = ∀ (x1 : Int), x1 = IntKind.u64.wrap k → InR IntKind.u64 x1 → ∀ (x2 : Int), x2 = andI IntKind.u64 x1 (63 : Int) → InR IntKind.u64 x2 → Need ((0 : Int) ≤ x2) ∧ ∀ (x3 : Int), x3 = shlI IntKind.u64 x x2 → InR IntKind.u64 x3 → ∀ (x4 : Int), x4 = IntKind.u64.wrap ((64 : Int) - x2) → InR IntKind.u64 x4 → Need ((0 : Int) ≤ x4) ∧ ∀ (x5 : Int), x5 = shrI IntKind.u64 x x4 → InR IntKind.u64 x5 → ∀ (x6 : Int), x6 = orI IntKind.u64 x3 x5 → InR IntKind.u64 x6 → K (SV.i IntKind.u64 { st := false, z := x6 }) := by
  intros
  kernel_rfl
def rotS : List SV → Option (List Prop × SV)
  | [.i .u64 x, .i .i64 k] => some ([], .i .u64 ⟨false, rotL x.z k.z⟩)
  | _ => none
theorem rot_ok : CallOk Tryd.prog gh 48 (pureCtr rotS) := by
  refine call_pure (fn := Tryd.f48) Γ0_ok rfl (by kernel_rfl) (by kernel_rfl) (by kernel_rfl) rotS fun args P0 Y0 hs hp hf => ?_
  unfold rotS at hs
  split at hs
  · rename_i x k
    simp only [Option.some.injEq, Prod.mk.injEq] at hs
    obtain ⟨rfl, rfl⟩ := hs
    refine ⟨[.i .u64 ⟨false, x.z⟩, .i .i64 ⟨false, k.z⟩], [], _, ⟨rfl, rfl, trivial⟩, Nat.le_of_ble_eq_true (by kernel_rfl), vc_noloops ?_⟩
    show vc48 x.z k.z _ _
    rw [vc48_eq]
    intro x1 e1 r1 x2 e2 r2
    refine ⟨need_of r2.1, fun x3 e3 r3 x4 e4 r4 => ⟨need_of r4.1, fun x5 e5 r5 x6 e6 r6 => ?_⟩⟩
    show x6 = rotL x.z k.z
    unfold rotL
    rw [e6, e3, e5, e4, e2, e1]
  · cases hs
def Γ1 : Tab := ⟨tys, [(48, pureCtr rotS)], [0, 2], gh⟩
theorem Γ1_ok : TabOk Tryd.prog Γ1 := Γ0_ok.cons rot_ok
end Go.Gx
