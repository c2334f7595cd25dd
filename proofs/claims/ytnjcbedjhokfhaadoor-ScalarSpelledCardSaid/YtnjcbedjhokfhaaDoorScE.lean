/- The least number of any four words. -/
import Derived.Test.YtnjcbedjhokfhaaDoorScD
namespace Go.Gx
open Go.Proofs Go.Sp
set_option linter.unusedVariables false

theorem val_of {n x y z t : Int} (h0 : x = w0 n) (h1 : y = w1 n) (h2 : z = w2 n) (h3 : t = w3 n) : val4 [x, y, z, t] = n % 115792089237316195423570985008687907853269984665640564039457584007913129639936 := by
  simp only [w0, w1, w2, w3] at h0 h1 h2 h3
  simp only [val4]
  omega

theorem shr60 (a : Int) : shrI .u64 a 60 = a / 1152921504606846976 := shrI_u64 a 60 (by omega)
theorem and60 {a : Int} (ha : InR .u64 a) : andI .u64 a 1152921504606846975 = a % 1152921504606846976 := and_mask 60 (by omega) ha

theorem val4_bd {a b c d : Int} (ha : InR .u64 a) (hb : InR .u64 b) (hc : InR .u64 c) (hd : InR .u64 d) : 0 ≤ val4 [a, b, c, d] ∧ val4 [a, b, c, d] < 115792089237316195423570985008687907853269984665640564039457584007913129639936 := by
  simp only [InR] at ha hb hc hd
  simp only [val4]
  omega

theorem mod_of {a r k : Int} (h : a = r + k * ell) (h0 : 0 ≤ r) (h1 : r < ell) : a % ell = r := by
  rw [h, Int.add_mul_emod_self_right, Int.emod_eq_of_lt h0 h1]

def leastS : List SV → Option (List Prop × SV)
  | [.arr .u64 4 _ l] => some ([], .arr .u64 4 true (words4 (val4 l % ell)))
  | _ => none

def vc46 (a0 a1 a2 a3 : Int) (K : SV → Prop) (Q : Nat → List Pv → Prop) : Prop := fnVc Γ3 Tryd.f46 [] [.arr .u64 4 true [a0, a1, a2, a3]] gh K Q
theorem vc46_eq : ∀ (a0 a1 a2 a3 : Int) (K : SV → Prop) (Q : Nat → List Pv → Prop), vc46 a0 a1 a2 a3 K Q = ((decide (a3 < (1152921504606846976 : Int)) = true → K (SV.arr IntKind.u64 (4 : Nat) true [a0, a1, a2, a3])) ∧ (decide (a3 < (1152921504606846976 : Int)) = false → ∀ (x1 : Int), x1 = shrI IntKind.u64 a3 (60 : Int) → InR IntKind.u64 x1 → ∀ (x2 : Int), x2 = andI IntKind.u64 a3 (1152921504606846975 : Int) → InR IntKind.u64 x2 → ∀ (x3 : Int), x3 = x1 * (6346243789798364141 : Int) / (18446744073709551616 : Int) → InR IntKind.u64 x3 → ∀ (x4 : Int), x4 = x1 * (6346243789798364141 : Int) % (18446744073709551616 : Int) → InR IntKind.u64 x4 → ∀ (x5 : Int), x5 = x1 * (1503914060200516822 : Int) / (18446744073709551616 : Int) → InR IntKind.u64 x5 → ∀ (x6 : Int), x6 = x1 * (1503914060200516822 : Int) % (18446744073709551616 : Int) → InR IntKind.u64 x6 → Need ((0 : Int) ≤ (1 : Int)) ∧ ∀ (x7 : Int), x7 = (x6 + x3 + (0 : Int)) % (18446744073709551616 : Int) → InR IntKind.u64 x7 → ∀ (x8 : Int), x8 = (x6 + x3 + (0 : Int)) / (18446744073709551616 : Int) → InR IntKind.u64 x8 → ∀ (x9 : Int), x9 = IntKind.u64.wrap (x5 + x8) → InR IntKind.u64 x9 → ∀ (x10 : Int), x10 = w0 (val4 [a0, a1, a2, x2] - val4 [x4, x7, x9, (0 : Int)]) → InR IntKind.u64 x10 → ∀ (x11 : Int), x11 = w1 (val4 [a0, a1, a2, x2] - val4 [x4, x7, x9, (0 : Int)]) → InR IntKind.u64 x11 → ∀ (x12 : Int), x12 = w2 (val4 [a0, a1, a2, x2] - val4 [x4, x7, x9, (0 : Int)]) → InR IntKind.u64 x12 → ∀ (x13 : Int), x13 = w3 (val4 [a0, a1, a2, x2] - val4 [x4, x7, x9, (0 : Int)]) → InR IntKind.u64 x13 → ∀ (x14 : Int), x14 = ltI (val4 [a0, a1, a2, x2]) (val4 [x4, x7, x9, (0 : Int)]) → InR IntKind.u64 x14 → ∀ (x15 : Int), x15 = w0 (val4 [x10, x11, x12, x13] + (7237005577332262213973186563042994240857116359379907606001950938285454250989 : Int)) → InR IntKind.u64 x15 → ∀ (x16 : Int), x16 = w1 (val4 [x10, x11, x12, x13] + (7237005577332262213973186563042994240857116359379907606001950938285454250989 : Int)) → InR IntKind.u64 x16 → ∀ (x17 : Int), x17 = w2 (val4 [x10, x11, x12, x13] + (7237005577332262213973186563042994240857116359379907606001950938285454250989 : Int)) → InR IntKind.u64 x17 → ∀ (x18 : Int), x18 = w3 (val4 [x10, x11, x12, x13] + (7237005577332262213973186563042994240857116359379907606001950938285454250989 : Int)) → InR IntKind.u64 x18 → ∀ (x19 : Int), x19 = (val4 [x10, x11, x12, x13] + (7237005577332262213973186563042994240857116359379907606001950938285454250989 : Int)) / (115792089237316195423570985008687907853269984665640564039457584007913129639936 : Int) → InR IntKind.u64 x19 → ∀ (x20 : Int), x20 = IntKind.u64.wrap ((0 : Int) - x14) → InR IntKind.u64 x20 → Need (x20 = (0 : Int) ∨ x20 = (18446744073709551615 : Int)) ∧ ∀ (x21 : Int), x21 = chI x20 x15 x10 → InR IntKind.u64 x21 → ∀ (x22 : Int), x22 = chI x20 x16 x11 → InR IntKind.u64 x22 → ∀ (x23 : Int), x23 = chI x20 x17 x12 → InR IntKind.u64 x23 → ∀ (x24 : Int), x24 = chI x20 x18 x13 → InR IntKind.u64 x24 → ∀ (x25 : Int), x25 = w0 (lowI (val4 [x21, x22, x23, x24])) → InR IntKind.u64 x25 → ∀ (x26 : Int), x26 = w1 (lowI (val4 [x21, x22, x23, x24])) → InR IntKind.u64 x26 → ∀ (x27 : Int), x27 = w2 (lowI (val4 [x21, x22, x23, x24])) → InR IntKind.u64 x27 → ∀ (x28 : Int), x28 = w3 (lowI (val4 [x21, x22, x23, x24])) → InR IntKind.u64 x28 → K (SV.arr IntKind.u64 (4 : Nat) true [x25, x26, x27, x28]))) := by
  intros
  kernel_rfl


theorem least_law {a0 a1 a2 a3 x1 x2 x3 x4 x5 x6 x7 x8 x9 x10 x11 x12 x13 x14 x15 x16 x17 x18 x20 x21 x22 x23 x24 : Int} (i0 : InR .u64 a0) (i1 : InR .u64 a1) (i2 : InR .u64 a2) (i3 : InR .u64 a3) (e1 : x1 = a3 / 1152921504606846976) (e2 : x2 = a3 % 1152921504606846976)
    (e3 : x3 = x1 * 6346243789798364141 / 18446744073709551616) (e4 : x4 = x1 * 6346243789798364141 % 18446744073709551616) (e5 : x5 = x1 * 1503914060200516822 / 18446744073709551616) (e6 : x6 = x1 * 1503914060200516822 % 18446744073709551616)
    (e7 : x7 = (x6 + x3 + 0) % 18446744073709551616) (e8 : x8 = (x6 + x3 + 0) / 18446744073709551616) (e9 : x9 = (x5 + x8) % 18446744073709551616)
    (e10 : x10 = w0 (val4 [a0, a1, a2, x2] - val4 [x4, x7, x9, 0])) (e11 : x11 = w1 (val4 [a0, a1, a2, x2] - val4 [x4, x7, x9, 0])) (e12 : x12 = w2 (val4 [a0, a1, a2, x2] - val4 [x4, x7, x9, 0])) (e13 : x13 = w3 (val4 [a0, a1, a2, x2] - val4 [x4, x7, x9, 0]))
    (e14 : x14 = ltI (val4 [a0, a1, a2, x2]) (val4 [x4, x7, x9, 0]))
    (e15 : x15 = w0 (val4 [x10, x11, x12, x13] + ell)) (e16 : x16 = w1 (val4 [x10, x11, x12, x13] + ell)) (e17 : x17 = w2 (val4 [x10, x11, x12, x13] + ell)) (e18 : x18 = w3 (val4 [x10, x11, x12, x13] + ell))
    (hm : (x14 = 0 ∧ x20 = 0) ∨ (x14 = 1 ∧ x20 = 18446744073709551615)) (e21 : x21 = chI x20 x15 x10) (e22 : x22 = chI x20 x16 x11) (e23 : x23 = chI x20 x17 x12) (e24 : x24 = chI x20 x18 x13) :
    lowI (val4 [x21, x22, x23, x24]) = val4 [a0, a1, a2, a3] % ell := by
  have hT : val4 [x4, x7, x9, 0] = x1 * 27742317777372353535851937790883648493 := by
    simp only [val4]; simp only [InR] at i3; omega
  have hX : val4 [a0, a1, a2, a3] = val4 [a0, a1, a2, x2] + x1 * 7237005577332262213973186563042994240829374041602535252466099000494570602496 := by
    simp only [val4]; omega
  have hXb : 0 ≤ val4 [a0, a1, a2, x2] ∧ val4 [a0, a1, a2, x2] < 7237005577332262213973186563042994240829374041602535252466099000494570602496 := by
    simp only [val4]; simp only [InR] at i0 i1 i2 i3; omega
  have hn : 0 ≤ x1 ∧ x1 ≤ 15 := by simp only [InR] at i3; omega
  have hD := val_of e10 e11 e12 e13
  have hE := val_of e15 e16 e17 e18
  rw [hT] at hD e14
  rw [hX]
  clear e10 e11 e12 e13 e15 e16 e17 e18 hT hX e3 e4 e5 e6 e7 e8 e9 e1 e2
  generalize val4 [a0, a1, a2, x2] = X at *
  generalize hdv : val4 [x10, x11, x12, x13] = Dv at *
  rcases hm with ⟨h0, hm⟩ | ⟨h0, hm⟩
  · simp only [chI, hm, if_true] at e21 e22 e23 e24
    rw [e21, e22, e23, e24, hdv]
    have hge : X - x1 * 27742317777372353535851937790883648493 ≥ 0 := by
      unfold ltI at e14; split at e14 <;> omega
    have hr : Dv = X - x1 * 27742317777372353535851937790883648493 := by omega
    have hlt : Dv < ell := by rw [ell_lit]; omega
    have hmod : (X + x1 * 7237005577332262213973186563042994240829374041602535252466099000494570602496) % ell = Dv := mod_of (k := x1) (by rw [ell_lit]; omega) (by omega) hlt
    rw [hmod]
    unfold lowI
    rw [if_pos hlt]
  · have hne : ¬ (x20 = 0) := by omega
    simp only [chI, hne, if_false] at e21 e22 e23 e24
    rw [e21, e22, e23, e24, hE]
    have hge : X - x1 * 27742317777372353535851937790883648493 < 0 := by
      unfold ltI at e14; split at e14 <;> omega
    rw [ell_lit]
    have hr : (Dv + 7237005577332262213973186563042994240857116359379907606001950938285454250989) % 115792089237316195423570985008687907853269984665640564039457584007913129639936 = X - x1 * 27742317777372353535851937790883648493 + 7237005577332262213973186563042994240857116359379907606001950938285454250989 := by omega
    rw [hr, ← ell_lit]
    have hlt : X - x1 * 27742317777372353535851937790883648493 + ell < ell := by omega
    have hmod : (X + x1 * 7237005577332262213973186563042994240829374041602535252466099000494570602496) % ell = X - x1 * 27742317777372353535851937790883648493 + ell := mod_of (k := x1 - 1) (by rw [ell_lit]; omega) (by rw [ell_lit]; omega) hlt
    rw [hmod]
    unfold lowI
    rw [if_pos hlt]

theorem least_ok : CallOk Tryd.prog gh 46 (pureCtr leastS) := by
  refine call_pure (fn := Tryd.f46) Γ3_ok rfl (by kernel_rfl) (by kernel_rfl) (by kernel_rfl) leastS fun args p y hs hp hf => ?_
  unfold leastS at hs
  split at hs
  · rename_i e1 l
    simp only [Option.some.injEq, Prod.mk.injEq] at hs
    obtain ⟨rfl, rfl⟩ := hs
    simp only [FactVs, FactV] at hf
    obtain ⟨⟨hl, h1⟩, _⟩ := hf
    obtain ⟨a0, a1, a2, a3, rfl⟩ := len4 hl
    have i0 := h1 a0 (by simp); have i1 := h1 a1 (by simp); have i2 := h1 a2 (by simp); have i3 := h1 a3 (by simp)
    refine ⟨[.arr .u64 4 true [a0, a1, a2, a3]], [], _, ⟨rfl, trivial⟩, Nat.le_of_ble_eq_true (by kernel_rfl), vc_noloops ?_⟩
    show vc46 a0 a1 a2 a3 _ _
    rw [vc46_eq]
    refine ⟨fun hlt => ?_, fun hge x1 e1 r1 x2 e2 r2 x3 e3 r3 x4 e4 r4 x5 e5 r5 x6 e6 r6 => ⟨by unfold Need; omega, fun x7 e7 r7 x8 e8 r8 x9 e9 r9 x10 e10 r10 x11 e11 r11 x12 e12 r12 x13 e13 r13 x14 e14 r14 x15 e15 r15 x16 e16 r16 x17 e17 r17 x18 e18 r18 x19 e19 r19 x20 e20 r20 => ?_⟩⟩
    · have hlt := of_decide_eq_true hlt
      show [a0, a1, a2, a3] = words4 (val4 [a0, a1, a2, a3] % ell)
      have hb := val4_bd i0 i1 i2 i3
      rw [Int.emod_eq_of_lt hb.1, words_val i0 i1 i2 i3]
      rw [ell_lit]
      simp only [InR] at i0 i1 i2 i3
      simp only [val4]; omega
    · rw [shr60] at e1
      rw [and60 i3] at e2
      rw [wrap_u64] at e9
      rw [← ell_lit] at e15 e16 e17 e18
      have hm := mask_ok (by rw [e14]; exact ltI_bit _ _) e20
      refine ⟨by unfold Need; omega, fun x21 e21 r21 x22 e22 r22 x23 e23 r23 x24 e24 r24 x25 e25 r25 x26 e26 r26 x27 e27 r27 x28 e28 r28 => ?_⟩
      show [x25, x26, x27, x28] = words4 (val4 [a0, a1, a2, a3] % ell)
      rw [← least_law i0 i1 i2 i3 e1 e2 e3 e4 e5 e6 e7 e8 e9 e10 e11 e12 e13 e14 e15 e16 e17 e18 hm e21 e22 e23 e24, e25, e26, e27, e28]
      rfl
  · cases hs

end Go.Gx
