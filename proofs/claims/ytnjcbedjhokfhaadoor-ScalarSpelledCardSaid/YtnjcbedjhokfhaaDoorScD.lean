/- The least number. -/
import Derived.Test.YtnjcbedjhokfhaaDoorScC
namespace Go.Sp
/-- The order of the group. -/
def ell : Int := 7237005577332262213973186563042994240857116359379907606001950938285454250989
def lowI (n : Int) : Int := if n < ell then n else n - ell
end Go.Sp
namespace Go.Gx
open Go.Proofs Go.Sp
set_option linter.unusedVariables false

def Γ2 : Tab := ⟨tys, [(69, pureCtr chooseS), (71, pureCtr plusS), (77, pureCtr minusS), (83, pureCtr mul64S), (84, c84), (88, c88)], [0], gh⟩
theorem Γ2_ok : TabOk Tryd.prog Γ2 := (((Γ1_ok.cons mul64_ok).cons minus_ok).cons plus_ok).cons choose_ok

theorem ell_lit : ell = 7237005577332262213973186563042994240857116359379907606001950938285454250989 := rfl

theorem words_val {a b c d : Int} (ha : InR .u64 a) (hb : InR .u64 b) (hc : InR .u64 c) (hd : InR .u64 d) : words4 (val4 [a, b, c, d]) = [a, b, c, d] := by
  simp only [InR] at ha hb hc hd
  simp only [words4, val4, w0, w1, w2, w3, List.cons.injEq, and_true]
  refine ⟨?_, ?_, ?_, ?_⟩ <;> omega

theorem mask_ok {x y : Int} (hx : x = 0 ∨ x = 1) (hy : y = IntKind.u64.wrap (0 - x)) : (x = 0 ∧ y = 0) ∨ (x = 1 ∧ y = 18446744073709551615) := by
  rw [wrap_u64] at hy
  omega

theorem ltI_bit (a b : Int) : ltI a b = 0 ∨ ltI a b = 1 := by unfold ltI; split <;> simp

def lowerS : List SV → Option (List Prop × SV)
  | [.arr .u64 4 _ l] => some ([], .arr .u64 4 true (words4 (lowI (val4 l))))
  | _ => none

def vc72 (a0 a1 a2 a3 : Int) (K : SV → Prop) (Q : Nat → List Pv → Prop) : Prop := fnVc Γ2 Tryd.f72 [] [.arr .u64 4 true [a0, a1, a2, a3]] gh K Q
theorem vc72_eq : ∀ (a0 a1 a2 a3 : Int) (K : SV → Prop) (Q : Nat → List Pv → Prop), vc72 a0 a1 a2 a3 K Q = ∀ (x1 : Int), x1 = w0 (val4 [a0, a1, a2, a3] - (7237005577332262213973186563042994240857116359379907606001950938285454250989 : Int)) → InR IntKind.u64 x1 → ∀ (x2 : Int), x2 = w1 (val4 [a0, a1, a2, a3] - (7237005577332262213973186563042994240857116359379907606001950938285454250989 : Int)) → InR IntKind.u64 x2 → ∀ (x3 : Int), x3 = w2 (val4 [a0, a1, a2, a3] - (7237005577332262213973186563042994240857116359379907606001950938285454250989 : Int)) → InR IntKind.u64 x3 → ∀ (x4 : Int), x4 = w3 (val4 [a0, a1, a2, a3] - (7237005577332262213973186563042994240857116359379907606001950938285454250989 : Int)) → InR IntKind.u64 x4 → ∀ (x5 : Int), x5 = ltI (val4 [a0, a1, a2, a3]) (7237005577332262213973186563042994240857116359379907606001950938285454250989 : Int) → InR IntKind.u64 x5 → ∀ (x6 : Int), x6 = IntKind.u64.wrap ((0 : Int) - x5) → InR IntKind.u64 x6 → Need (x6 = (0 : Int) ∨ x6 = (18446744073709551615 : Int)) ∧ ∀ (x7 : Int), x7 = chI x6 a0 x1 → InR IntKind.u64 x7 → ∀ (x8 : Int), x8 = chI x6 a1 x2 → InR IntKind.u64 x8 → ∀ (x9 : Int), x9 = chI x6 a2 x3 → InR IntKind.u64 x9 → ∀ (x10 : Int), x10 = chI x6 a3 x4 → InR IntKind.u64 x10 → K (SV.arr IntKind.u64 (4 : Nat) true [x7, x8, x9, x10]) := by
  intros
  kernel_rfl

theorem lower_ok : CallOk Tryd.prog gh 72 (pureCtr lowerS) := by
  refine call_pure (fn := Tryd.f72) Γ2_ok rfl (by kernel_rfl) (by kernel_rfl) (by kernel_rfl) lowerS fun args p y hs hp hf => ?_
  unfold lowerS at hs
  split at hs
  · rename_i e1 l
    simp only [Option.some.injEq, Prod.mk.injEq] at hs
    obtain ⟨rfl, rfl⟩ := hs
    simp only [FactVs, FactV] at hf
    obtain ⟨⟨hl, h1⟩, _⟩ := hf
    obtain ⟨a0, a1, a2, a3, rfl⟩ := len4 hl
    have i0 := h1 a0 (by simp); have i1 := h1 a1 (by simp); have i2 := h1 a2 (by simp); have i3 := h1 a3 (by simp)
    refine ⟨[.arr .u64 4 true [a0, a1, a2, a3]], [], _, ⟨rfl, trivial⟩, Nat.le_of_ble_eq_true (by kernel_rfl), vc_noloops ?_⟩
    show vc72 a0 a1 a2 a3 _ _
    rw [vc72_eq]
    intro x1 e1 r1 x2 e2 r2 x3 e3 r3 x4 e4 r4 x5 e5 r5 x6 e6 r6
    have hL : (7237005577332262213973186563042994240857116359379907606001950938285454250989 : Int) = ell := rfl
    rw [hL] at e1 e2 e3 e4 e5
    have hm := mask_ok (by rw [e5]; exact ltI_bit _ _) e6
    refine ⟨by unfold Need; omega, fun x7 e7 r7 x8 e8 r8 x9 e9 r9 x10 e10 r10 => ?_⟩
    show [x7, x8, x9, x10] = words4 (lowI (val4 [a0, a1, a2, a3]))
    unfold ltI at e5
    rcases hm with ⟨h0, hm⟩ | ⟨h0, hm⟩
    · have hge : ¬ val4 [a0, a1, a2, a3] < ell := by
        intro hlt
        rw [if_pos hlt] at e5; omega
      unfold lowI
      rw [if_neg hge]
      simp only [chI, hm, if_true] at e7 e8 e9 e10
      rw [e7, e8, e9, e10, e1, e2, e3, e4]; rfl
    · have hlt : val4 [a0, a1, a2, a3] < ell := by
        rcases Int.lt_or_le (val4 [a0, a1, a2, a3]) ell with h | h
        · exact h
        · rw [if_neg (Int.not_lt.2 h)] at e5; omega
      unfold lowI
      rw [if_pos hlt, words_val i0 i1 i2 i3]
      have : ¬ (x6 = 0) := by omega
      simp only [chI, this, if_false] at e7 e8 e9 e10
      rw [e7, e8, e9, e10]
  · cases hs

def Γ3 : Tab := ⟨tys, [(72, pureCtr lowerS), (69, pureCtr chooseS), (71, pureCtr plusS), (77, pureCtr minusS), (83, pureCtr mul64S), (84, c84), (88, c88)], [0], gh⟩
theorem Γ3_ok : TabOk Tryd.prog Γ3 := Γ2_ok.cons lower_ok

end Go.Gx
