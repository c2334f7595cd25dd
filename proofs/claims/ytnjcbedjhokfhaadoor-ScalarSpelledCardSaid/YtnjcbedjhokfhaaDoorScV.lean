/- It is alive. -/
import Derived.Test.YtnjcbedjhokfhaaDoorScU
namespace Go.Gx
open Go.Proofs Go.Sp
open Go.Sp (prI mlL adL sbL pwL halfI invL)
set_option linter.unusedVariables false

def vc45 (K : SV → Prop) (Q : Nat → List Pv → Prop) : Prop := fnVc Γ14 Tryd.f45 [] [] gh K Q
theorem vc45_eq : ∀ (K : SV → Prop) (Q : Nat → List Pv → Prop), vc45 K Q = ∀ (x1 : Int), x1 = (2 : Int) → InR IntKind.u64 x1 → ∀ (x2 : Int), x2 = (0 : Int) → InR IntKind.u64 x2 → ∀ (x3 : Int), x3 = (0 : Int) → InR IntKind.u64 x3 → ∀ (x4 : Int), x4 = (0 : Int) → InR IntKind.u64 x4 → ∀ (x5 : Int), x5 = (3 : Int) → InR IntKind.u64 x5 → ∀ (x6 : Int), x6 = (0 : Int) → InR IntKind.u64 x6 → ∀ (x7 : Int), x7 = (0 : Int) → InR IntKind.u64 x7 → ∀ (x8 : Int), x8 = (0 : Int) → InR IntKind.u64 x8 → ∀ (x9 : Int), x9 = w0 (adL (val4 [x1, x2, x3, x4]) (val4 [x5, x6, x7, x8])) → InR IntKind.u64 x9 → ∀ (x10 : Int), x10 = w1 (adL (val4 [x1, x2, x3, x4]) (val4 [x5, x6, x7, x8])) → InR IntKind.u64 x10 → ∀ (x11 : Int), x11 = w2 (adL (val4 [x1, x2, x3, x4]) (val4 [x5, x6, x7, x8])) → InR IntKind.u64 x11 → ∀ (x12 : Int), x12 = w3 (adL (val4 [x1, x2, x3, x4]) (val4 [x5, x6, x7, x8])) → InR IntKind.u64 x12 → (([x9, x10, x11, x12] == [(5 : Int), (0 : Int), (0 : Int), (0 : Int)]) = true → ∀ (x13 : Int), x13 = w0 (mlL (val4 [x1, x2, x3, x4]) (val4 [x5, x6, x7, x8])) → InR IntKind.u64 x13 → ∀ (x14 : Int), x14 = w1 (mlL (val4 [x1, x2, x3, x4]) (val4 [x5, x6, x7, x8])) → InR IntKind.u64 x14 → ∀ (x15 : Int), x15 = w2 (mlL (val4 [x1, x2, x3, x4]) (val4 [x5, x6, x7, x8])) → InR IntKind.u64 x15 → ∀ (x16 : Int), x16 = w3 (mlL (val4 [x1, x2, x3, x4]) (val4 [x5, x6, x7, x8])) → InR IntKind.u64 x16 → (([x13, x14, x15, x16] == [(6 : Int), (0 : Int), (0 : Int), (0 : Int)]) = true → ∀ (x17 : Int), x17 = w0 (invL (val4 [x1, x2, x3, x4])) → InR IntKind.u64 x17 → ∀ (x18 : Int), x18 = w1 (invL (val4 [x1, x2, x3, x4])) → InR IntKind.u64 x18 → ∀ (x19 : Int), x19 = w2 (invL (val4 [x1, x2, x3, x4])) → InR IntKind.u64 x19 → ∀ (x20 : Int), x20 = w3 (invL (val4 [x1, x2, x3, x4])) → InR IntKind.u64 x20 → ∀ (x21 : Int), x21 = w0 (mlL (val4 [x1, x2, x3, x4]) (val4 [x17, x18, x19, x20])) → InR IntKind.u64 x21 → ∀ (x22 : Int), x22 = w1 (mlL (val4 [x1, x2, x3, x4]) (val4 [x17, x18, x19, x20])) → InR IntKind.u64 x22 → ∀ (x23 : Int), x23 = w2 (mlL (val4 [x1, x2, x3, x4]) (val4 [x17, x18, x19, x20])) → InR IntKind.u64 x23 → ∀ (x24 : Int), x24 = w3 (mlL (val4 [x1, x2, x3, x4]) (val4 [x17, x18, x19, x20])) → InR IntKind.u64 x24 → K (SV.b false ([x21, x22, x23, x24] == [(1 : Int), (0 : Int), (0 : Int), (0 : Int)]))) ∧ (([x13, x14, x15, x16] == [(6 : Int), (0 : Int), (0 : Int), (0 : Int)]) = false → K (SV.b true false))) ∧ (([x9, x10, x11, x12] == [(5 : Int), (0 : Int), (0 : Int), (0 : Int)]) = false → K (SV.b true false)) := by
  intros
  kernel_rfl

def aliveS : List SV → Option (List Prop × SV)
  | [] => some ([], .b false true)
  | _ => none

theorem alive_ok : CallOk Tryd.prog gh 45 (pureCtr aliveS) := by
  refine call_pure (fn := Tryd.f45) Γ14_ok rfl (by kernel_rfl) (by kernel_rfl) (by kernel_rfl) aliveS fun args P0 Y0 hs hp hf => ?_
  unfold aliveS at hs
  split at hs
  · simp only [Option.some.injEq, Prod.mk.injEq] at hs
    obtain ⟨rfl, rfl⟩ := hs
    refine ⟨[], [], _, trivial, Nat.le_of_ble_eq_true (by kernel_rfl), vc_noloops ?_⟩
    show vc45 _ _
    rw [vc45_eq]
    intro x1 e1 r1 x2 e2 r2 x3 e3 r3 x4 e4 r4 x5 e5 r5 x6 e6 r6 x7 e7 r7 x8 e8 r8 x9 e9 r9 x10 e10 r10 x11 e11 r11 x12 e12 r12
    have h2 : val4 [x1, x2, x3, x4] = 2 := by rw [e1, e2, e3, e4]; rfl
    have h3 : val4 [x5, x6, x7, x8] = 3 := by rw [e5, e6, e7, e8]; rfl
    rw [h2, h3] at e9 e10 e11 e12
    refine ⟨fun _ => ?_, fun h => ?_⟩
    · intro x13 e13 r13 x14 e14 r14 x15 e15 r15 x16 e16 r16
      rw [h2, h3] at e13 e14 e15 e16
      refine ⟨fun _ => ?_, fun h => ?_⟩
      · intro x17 e17 r17 x18 e18 r18 x19 e19 r19 x20 e20 r20 x21 e21 r21 x22 e22 r22 x23 e23 r23 x24 e24 r24
        have hi := val_in e17 e18 e19 e20 (pow_bd _ _).1 (lt_r (pow_bd _ _).2)
        rw [hi, h2, show mlL 2 (invL 2) = 1 from inv_law (by decide)] at e21 e22 e23 e24
        show ([x21, x22, x23, x24] == [1, 0, 0, 0]) = true
        rw [e21, e22, e23, e24]; rfl
      · exfalso
        rw [e13, e14, e15, e16, show mlL 2 3 = 6 by decide] at h
        exact absurd h (by decide)
    · exfalso
      rw [e9, e10, e11, e12, show adL 2 3 = 5 by decide] at h
      exact absurd h (by decide)
  · cases hs

def vc47 (K : SV → Prop) (Q : Nat → List Pv → Prop) : Prop := fnVc Γ14 Tryd.f47 [] [] gh K Q
theorem vc47_eq : ∀ (K : SV → Prop) (Q : Nat → List Pv → Prop), vc47 K Q = K (SV.arr IntKind.u64 (4 : Nat) true [(6346243789798364141 : Int), (1503914060200516822 : Int), (0 : Int), (1152921504606846976 : Int)]) := by
  intros
  kernel_rfl

def primeS : List SV → Option (List Prop × SV)
  | [] => some ([], .arr .u64 4 true [6346243789798364141, 1503914060200516822, 0, 1152921504606846976])
  | _ => none

theorem prime_ok : CallOk Tryd.prog gh 47 (pureCtr primeS) := by
  refine call_pure (fn := Tryd.f47) Γ14_ok rfl (by kernel_rfl) (by kernel_rfl) (by kernel_rfl) primeS fun args P0 Y0 hs hp hf => ?_
  unfold primeS at hs
  split at hs
  · simp only [Option.some.injEq, Prod.mk.injEq] at hs
    obtain ⟨rfl, rfl⟩ := hs
    refine ⟨[], [], _, trivial, Nat.le_of_ble_eq_true (by kernel_rfl), vc_noloops ?_⟩
    show vc47 _ _
    rw [vc47_eq]
    exact rfl
  · cases hs

def Γ15 : Tab := ⟨tys, [(45, pureCtr aliveS), (47, pureCtr primeS)] ++ Γ14.ctr, [0], gh⟩
theorem Γ15_ok : TabOk Tryd.prog Γ15 := (Γ14_ok.cons prime_ok).cons alive_ok
end Go.Gx
