/- A word more: the reference's step. -/
import Derived.Test.YtnjcbedjhokfhaaDoorScH
namespace Go.Gx
open Go.Proofs Go.Sp
set_option linter.unusedVariables false

theorem shlI_u64 (a : Int) (k : Nat) (hk : k ≤ 64) : shlI .u64 a (k : Int) = a * ((2 ^ k : Nat) : Int) % 18446744073709551616 := by
  unfold shlI
  have : min ((k : Int).toNat) IntKind.u64.bits = k := by simp [IntKind.bits]; omega
  rw [this, wrap_u64]
  simp
theorem shl16 (a : Int) : shlI .u64 a 16 = a * 65536 % 18446744073709551616 := shlI_u64 a 16 (by omega)
theorem shl32 (a : Int) : shlI .u64 a 32 = a * 4294967296 % 18446744073709551616 := shlI_u64 a 32 (by omega)
theorem shr44 (a : Int) : shrI .u64 a 44 = a / 17592186044416 := shrI_u64 a 44 (by omega)
theorem shr48 (a : Int) : shrI .u64 a 48 = a / 281474976710656 := shrI_u64 a 48 (by omega)

/-- Bits that do not meet. -/
theorem or_add (k : Nat) {x y z : Int} (hx : InR .u64 x) (hy : InR .u64 y) (hd : x = z * ((2 ^ k : Nat) : Int)) (hlt : y < ((2 ^ k : Nat) : Int)) : orI .u64 x y = x + y := by
  rw [orI_u64 hx hy]
  simp only [InR] at hx hy
  have hpos : 0 < 2 ^ k := Nat.two_pow_pos k
  have hz : 0 ≤ z := by
    rcases Int.lt_or_le z 0 with h | h
    · have h2 : z * ((2 ^ k : Nat) : Int) < 0 := Int.mul_neg_of_neg_of_pos h (by omega)
      omega
    · exact h
  obtain ⟨n, rfl⟩ := Int.eq_ofNat_of_zero_le hz
  have e : x.toNat = 2 ^ k * n := by
    rw [hd, ← Int.natCast_mul, Int.toNat_natCast, Nat.mul_comm]
  have hl : y.toNat < 2 ^ k := by omega
  rw [e, ← Nat.two_pow_add_eq_or_of_lt hl, ← e]
  omega

theorem or16 {x y z : Int} (hx : InR .u64 x) (hy : InR .u64 y) (hd : x = z * 65536) (hlt : y < 65536) : orI .u64 x y = x + y := or_add 16 hx hy hd hlt
theorem or32 {x y z : Int} (hx : InR .u64 x) (hy : InR .u64 y) (hd : x = z * 4294967296) (hlt : y < 4294967296) : orI .u64 x y = x + y := or_add 32 hx hy hd hlt

def stepS : List SV → Option (List Prop × SV)
  | [.arr .u64 4 _ l, .i .u64 y] => some ([val4 l < ell, y.z < 65536], .arr .u64 4 true (words4 ((val4 l * 65536 + y.z) % ell)))
  | _ => none

def vc80 (a0 a1 a2 a3 y : Int) (K : SV → Prop) (Q : Nat → List Pv → Prop) : Prop := fnVc Γ4 Tryd.f80 [] [.arr .u64 4 true [a0, a1, a2, a3], .i .u64 ⟨false, y⟩] gh K Q
theorem vc80_eq : ∀ (a0 a1 a2 a3 y : Int) (K : SV → Prop) (Q : Nat → List Pv → Prop), vc80 a0 a1 a2 a3 y K Q = ∀ (x1 : Int), x1 = shrI IntKind.u64 a3 (44 : Int) → InR IntKind.u64 x1 → ∀ (x2 : Int), x2 = shlI IntKind.u64 a0 (16 : Int) → InR IntKind.u64 x2 → ∀ (x3 : Int), x3 = orI IntKind.u64 x2 y → InR IntKind.u64 x3 → ∀ (x4 : Int), x4 = shlI IntKind.u64 a1 (16 : Int) → InR IntKind.u64 x4 → ∀ (x5 : Int), x5 = shrI IntKind.u64 a0 (48 : Int) → InR IntKind.u64 x5 → ∀ (x6 : Int), x6 = orI IntKind.u64 x4 x5 → InR IntKind.u64 x6 → ∀ (x7 : Int), x7 = shlI IntKind.u64 a2 (16 : Int) → InR IntKind.u64 x7 → ∀ (x8 : Int), x8 = shrI IntKind.u64 a1 (48 : Int) → InR IntKind.u64 x8 → ∀ (x9 : Int), x9 = orI IntKind.u64 x7 x8 → InR IntKind.u64 x9 → ∀ (x10 : Int), x10 = shlI IntKind.u64 a3 (16 : Int) → InR IntKind.u64 x10 → ∀ (x11 : Int), x11 = shrI IntKind.u64 a2 (48 : Int) → InR IntKind.u64 x11 → ∀ (x12 : Int), x12 = orI IntKind.u64 x10 x11 → InR IntKind.u64 x12 → ∀ (x13 : Int), x13 = andI IntKind.u64 x12 (1152921504606846975 : Int) → InR IntKind.u64 x13 → ∀ (x14 : Int), x14 = (6346243789798364141 : Int) → InR IntKind.u64 x14 → ∀ (x15 : Int), x15 = (1503914060200516822 : Int) → InR IntKind.u64 x15 → ∀ (x16 : Int), x16 = (0 : Int) → InR IntKind.u64 x16 → ∀ (x17 : Int), x17 = (1152921504606846976 : Int) → InR IntKind.u64 x17 → ∀ (x18 : Int), x18 = andI IntKind.u64 x14 (4294967295 : Int) → InR IntKind.u64 x18 → ∀ (x19 : Int), x19 = shrI IntKind.u64 x14 (32 : Int) → InR IntKind.u64 x19 → ∀ (x20 : Int), x20 = andI IntKind.u64 x15 (4294967295 : Int) → InR IntKind.u64 x20 → ∀ (x21 : Int), x21 = shrI IntKind.u64 x15 (32 : Int) → InR IntKind.u64 x21 → ∀ (x22 : Int), x22 = IntKind.u64.wrap (x18 * x1) → InR IntKind.u64 x22 → ∀ (x23 : Int), x23 = IntKind.u64.wrap (x22 + (0 : Int)) → InR IntKind.u64 x23 → ∀ (x24 : Int), x24 = andI IntKind.u64 x23 (4294967295 : Int) → InR IntKind.u64 x24 → ∀ (x25 : Int), x25 = shrI IntKind.u64 x23 (32 : Int) → InR IntKind.u64 x25 → ∀ (x26 : Int), x26 = IntKind.u64.wrap (x19 * x1) → InR IntKind.u64 x26 → ∀ (x27 : Int), x27 = IntKind.u64.wrap (x26 + x25) → InR IntKind.u64 x27 → ∀ (x28 : Int), x28 = andI IntKind.u64 x27 (4294967295 : Int) → InR IntKind.u64 x28 → ∀ (x29 : Int), x29 = shrI IntKind.u64 x27 (32 : Int) → InR IntKind.u64 x29 → ∀ (x30 : Int), x30 = IntKind.u64.wrap (x20 * x1) → InR IntKind.u64 x30 → ∀ (x31 : Int), x31 = IntKind.u64.wrap (x30 + x29) → InR IntKind.u64 x31 → ∀ (x32 : Int), x32 = andI IntKind.u64 x31 (4294967295 : Int) → InR IntKind.u64 x32 → ∀ (x33 : Int), x33 = shrI IntKind.u64 x31 (32 : Int) → InR IntKind.u64 x33 → ∀ (x34 : Int), x34 = IntKind.u64.wrap (x21 * x1) → InR IntKind.u64 x34 → ∀ (x35 : Int), x35 = IntKind.u64.wrap (x34 + x33) → InR IntKind.u64 x35 → ∀ (x36 : Int), x36 = andI IntKind.u64 x35 (4294967295 : Int) → InR IntKind.u64 x36 → ∀ (x37 : Int), x37 = shrI IntKind.u64 x35 (32 : Int) → InR IntKind.u64 x37 → ∀ (x38 : Int), x38 = shlI IntKind.u64 x28 (32 : Int) → InR IntKind.u64 x38 → ∀ (x39 : Int), x39 = orI IntKind.u64 x24 x38 → InR IntKind.u64 x39 → ∀ (x40 : Int), x40 = shlI IntKind.u64 x36 (32 : Int) → InR IntKind.u64 x40 → ∀ (x41 : Int), x41 = orI IntKind.u64 x32 x40 → InR IntKind.u64 x41 → ∀ (x42 : Int), x42 = w0 (val4 [x3, x6, x9, x13] - val4 [x39, x41, x37, (0 : Int)]) → InR IntKind.u64 x42 → ∀ (x43 : Int), x43 = w1 (val4 [x3, x6, x9, x13] - val4 [x39, x41, x37, (0 : Int)]) → InR IntKind.u64 x43 → ∀ (x44 : Int), x44 = w2 (val4 [x3, x6, x9, x13] - val4 [x39, x41, x37, (0 : Int)]) → InR IntKind.u64 x44 → ∀ (x45 : Int), x45 = w3 (val4 [x3, x6, x9, x13] - val4 [x39, x41, x37, (0 : Int)]) → InR IntKind.u64 x45 → ∀ (x46 : Int), x46 = ltI (val4 [x3, x6, x9, x13]) (val4 [x39, x41, x37, (0 : Int)]) → InR IntKind.u64 x46 → ((x46 == (1 : Int)) = true → ∀ (x47 : Int), x47 = w0 (val4 [x42, x43, x44, x45] + val4 [x14, x15, x16, x17]) → InR IntKind.u64 x47 → ∀ (x48 : Int), x48 = w1 (val4 [x42, x43, x44, x45] + val4 [x14, x15, x16, x17]) → InR IntKind.u64 x48 → ∀ (x49 : Int), x49 = w2 (val4 [x42, x43, x44, x45] + val4 [x14, x15, x16, x17]) → InR IntKind.u64 x49 → ∀ (x50 : Int), x50 = w3 (val4 [x42, x43, x44, x45] + val4 [x14, x15, x16, x17]) → InR IntKind.u64 x50 → ∀ (x51 : Int), x51 = (val4 [x42, x43, x44, x45] + val4 [x14, x15, x16, x17]) / (115792089237316195423570985008687907853269984665640564039457584007913129639936 : Int) → InR IntKind.u64 x51 → ∀ (x52 : Bool), x52 = decide (val4 [x47, x48, x49, x50] < val4 [x14, x15, x16, x17]) → ((!x52) = true → ∀ (x53 : Int), x53 = w0 (val4 [x47, x48, x49, x50] - val4 [x14, x15, x16, x17]) → InR IntKind.u64 x53 → ∀ (x54 : Int), x54 = w1 (val4 [x47, x48, x49, x50] - val4 [x14, x15, x16, x17]) → InR IntKind.u64 x54 → ∀ (x55 : Int), x55 = w2 (val4 [x47, x48, x49, x50] - val4 [x14, x15, x16, x17]) → InR IntKind.u64 x55 → ∀ (x56 : Int), x56 = w3 (val4 [x47, x48, x49, x50] - val4 [x14, x15, x16, x17]) → InR IntKind.u64 x56 → ∀ (x57 : Int), x57 = ltI (val4 [x47, x48, x49, x50]) (val4 [x14, x15, x16, x17]) → InR IntKind.u64 x57 → K (SV.arr IntKind.u64 (4 : Nat) true [x53, x54, x55, x56])) ∧ ((!x52) = false → K (SV.arr IntKind.u64 (4 : Nat) true [x47, x48, x49, x50]))) ∧ ((x46 == (1 : Int)) = false → ∀ (x58 : Bool), x58 = decide (val4 [x42, x43, x44, x45] < val4 [x14, x15, x16, x17]) → ((!x58) = true → ∀ (x59 : Int), x59 = w0 (val4 [x42, x43, x44, x45] - val4 [x14, x15, x16, x17]) → InR IntKind.u64 x59 → ∀ (x60 : Int), x60 = w1 (val4 [x42, x43, x44, x45] - val4 [x14, x15, x16, x17]) → InR IntKind.u64 x60 → ∀ (x61 : Int), x61 = w2 (val4 [x42, x43, x44, x45] - val4 [x14, x15, x16, x17]) → InR IntKind.u64 x61 → ∀ (x62 : Int), x62 = w3 (val4 [x42, x43, x44, x45] - val4 [x14, x15, x16, x17]) → InR IntKind.u64 x62 → ∀ (x63 : Int), x63 = ltI (val4 [x42, x43, x44, x45]) (val4 [x14, x15, x16, x17]) → InR IntKind.u64 x63 → K (SV.arr IntKind.u64 (4 : Nat) true [x59, x60, x61, x62])) ∧ ((!x58) = false → K (SV.arr IntKind.u64 (4 : Nat) true [x42, x43, x44, x45]))) := by
  intros
  kernel_rfl


theorem mulc_law {n x22 x23 x24 x25 x26 x27 x28 x29 x30 x31 x32 x33 x34 x35 x36 x37 : Int} (hn : 0 ≤ n ∧ n ≤ 65536) (e22 : x22 = 1559614445 * n % 18446744073709551616) (e23 : x23 = (x22 + 0) % 18446744073709551616) (e24 : x24 = x23 % 4294967296) (e25 : x25 = x23 / 4294967296)
    (e26 : x26 = 1477600026 * n % 18446744073709551616) (e27 : x27 = (x26 + x25) % 18446744073709551616) (e28 : x28 = x27 % 4294967296) (e29 : x29 = x27 / 4294967296)
    (e30 : x30 = 2734136534 * n % 18446744073709551616) (e31 : x31 = (x30 + x29) % 18446744073709551616) (e32 : x32 = x31 % 4294967296) (e33 : x33 = x31 / 4294967296)
    (e34 : x34 = 350157278 * n % 18446744073709551616) (e35 : x35 = (x34 + x33) % 18446744073709551616) (e36 : x36 = x35 % 4294967296) (e37 : x37 = x35 / 4294967296) :
    x24 + 4294967296 * x28 + 18446744073709551616 * x32 + 79228162514264337593543950336 * x36 + 340282366920938463463374607431768211456 * x37 = n * 27742317777372353535851937790883648493 := by
  have h1 : x24 + 4294967296 * x25 = 1559614445 * n := by omega
  have b1 : 0 ≤ x25 ∧ x25 ≤ 65536 := by omega
  have h2 : x28 + 4294967296 * x29 = 1477600026 * n + x25 := by clear e22 e23 e24 e25 h1; omega
  have b2 : 0 ≤ x29 ∧ x29 ≤ 65536 := by clear e22 e23 e24 e25 h1 e26 e27; omega
  have h3 : x32 + 4294967296 * x33 = 2734136534 * n + x29 := by clear e22 e23 e24 e25 h1 e26 e27 e28 e29 h2; omega
  have b3 : 0 ≤ x33 ∧ x33 ≤ 65536 := by clear e22 e23 e24 e25 h1 e26 e27 e28 e29 h2 e30 e31; omega
  have h4 : x36 + 4294967296 * x37 = 350157278 * n + x33 := by clear e22 e23 e24 e25 h1 e26 e27 e28 e29 h2 e30 e31 e32 e33 h3; omega
  clear e22 e23 e24 e25 e26 e27 e28 e29 e30 e31 e32 e33 e34 e35 e36 e37
  omega

theorem step_ok : CallOk Tryd.prog gh 80 (pureCtr stepS) := by
  refine call_pure (fn := Tryd.f80) Γ4_ok rfl (by kernel_rfl) (by kernel_rfl) (by kernel_rfl) stepS fun args p y hs hp hf => ?_
  unfold stepS at hs
  split at hs
  · rename_i e1 l y
    simp only [Option.some.injEq, Prod.mk.injEq] at hs
    obtain ⟨rfl, rfl⟩ := hs
    simp only [FactVs, FactV] at hf
    obtain ⟨⟨hl, h1⟩, hy, _⟩ := hf
    obtain ⟨a0, a1, a2, a3, rfl⟩ := len4 hl
    obtain ⟨y, hyz⟩ : ∃ z, z = y.z := ⟨_, rfl⟩
    have i0 := h1 a0 (by simp); have i1 := h1 a1 (by simp); have i2 := h1 a2 (by simp); have i3 := h1 a3 (by simp)
    obtain ⟨hA, hyl, _⟩ := hp
    rw [← hyz] at hy hyl ⊢
    refine ⟨[.arr .u64 4 true [a0, a1, a2, a3], .i .u64 ⟨false, y⟩], [], _, ⟨rfl, hyz.symm, trivial⟩, Nat.le_of_ble_eq_true (by kernel_rfl), vc_noloops ?_⟩
    show vc80 a0 a1 a2 a3 y _ _
    rw [vc80_eq]
    intro x1 e1 r1 x2 e2 r2 x3 e3 r3 x4 e4 r4 x5 e5 r5 x6 e6 r6 x7 e7 r7 x8 e8 r8 x9 e9 r9 x10 e10 r10 x11 e11 r11 x12 e12 r12 x13 e13 r13 x14 e14 r14 x15 e15 r15 x16 e16 r16 x17 e17 r17 x18 e18 r18 x19 e19 r19 x20 e20 r20 x21 e21 r21 x22 e22 r22 x23 e23 r23 x24 e24 r24 x25 e25 r25 x26 e26 r26 x27 e27 r27 x28 e28 r28 x29 e29 r29 x30 e30 r30 x31 e31 r31 x32 e32 r32 x33 e33 r33 x34 e34 r34 x35 e35 r35 x36 e36 r36 x37 e37 r37 x38 e38 r38 x39 e39 r39 x40 e40 r40 x41 e41 r41 x42 e42 r42 x43 e43 r43 x44 e44 r44 x45 e45 r45 x46 e46 r46
    have b0 := i0; have b1 := i1; have b2 := i2; have b3 := i3; have by_ := hy
    simp only [InR] at b0 b1 b2 b3 by_
    rw [ell_lit] at hA
    simp only [val4] at hA
    have hn : 0 ≤ x1 ∧ x1 ≤ 65536 := by rw [shr44] at e1; omega
    rw [shr44] at e1
    rw [shl16] at e2 e4 e7 e10
    rw [shr48] at e5 e8 e11
    have q3 : x3 = x2 + y := by rw [e3]; exact or16 (z := a0 % 281474976710656) r2 hy (by omega) hyl
    have q6 : x6 = x4 + x5 := by rw [e6]; exact or16 (z := a1 % 281474976710656) r4 r5 (by omega) (by omega)
    have q9 : x9 = x7 + x8 := by rw [e9]; exact or16 (z := a2 % 281474976710656) r7 r8 (by omega) (by omega)
    have q12 : x12 = x10 + x11 := by rw [e12]; exact or16 (z := a3 % 281474976710656) r10 r11 (by omega) (by omega)
    rw [and60 r12] at e13
    have hX : val4 [x3, x6, x9, x13] = (a0 + 18446744073709551616 * a1 + 340282366920938463463374607431768211456 * a2 + 6277101735386680763835789423207666416102355444464034512896 * a3) * 65536 + y - x1 * 7237005577332262213973186563042994240829374041602535252466099000494570602496 := by
      simp only [val4]; omega
    have hXb : 0 ≤ val4 [x3, x6, x9, x13] ∧ val4 [x3, x6, x9, x13] < 7237005577332262213973186563042994240829374041602535252466099000494570602496 := by
      simp only [InR] at r3 r6 r9 r13
      simp only [val4]; omega
    rw [and32 r14] at e18
    rw [shr32] at e19 e21 e25 e29 e33 e37
    rw [and32 r15] at e20
    rw [and32 r23] at e24
    rw [and32 r27] at e28
    rw [and32 r31] at e32
    rw [and32 r35] at e36
    rw [wrap_u64] at e22 e23 e26 e27 e30 e31 e34 e35
    rw [shl32] at e38 e40
    have k18 : x18 = 1559614445 := by omega
    have k19 : x19 = 1477600026 := by omega
    have k20 : x20 = 2734136534 := by omega
    have k21 : x21 = 350157278 := by omega
    rw [k18] at e22; rw [k19] at e26; rw [k20] at e30; rw [k21] at e34
    have q39 : x39 = x24 + x38 := by
      rw [e39]
      have := r24; have := r38
      simp only [InR] at *
      rw [show orI .u64 x24 x38 = orI .u64 x38 x24 by rw [orI_u64 r24 r38, orI_u64 r38 r24, Nat.or_comm]]
      rw [or32 (z := x28) r38 r24 (by omega) (by omega)]; omega
    have q41 : x41 = x32 + x40 := by
      rw [e41]
      rw [show orI .u64 x32 x40 = orI .u64 x40 x32 by rw [orI_u64 r32 r40, orI_u64 r40 r32, Nat.or_comm]]
      rw [or32 (z := x36) r40 r32 (by omega) (by omega)]; omega
    have hT : val4 [x39, x41, x37, 0] = x1 * 27742317777372353535851937790883648493 := by
      rw [← mulc_law hn e22 e23 e24 e25 e26 e27 e28 e29 e30 e31 e32 e33 e34 e35 e36 e37]
      simp only [val4]
      have q38 : x38 = x28 * 4294967296 := by omega
      have q40 : x40 = x36 * 4294967296 := by omega
      rw [q39, q41, q38, q40]; omega
    rw [hT] at e42 e43 e44 e45 e46
    have hV : val4 [x14, x15, x16, x17] = ell := by rw [e14, e15, e16, e17]; rfl
    rw [hV]
    have hS : val4 [a0, a1, a2, a3] * 65536 + y = val4 [x3, x6, x9, x13] + x1 * 7237005577332262213973186563042994240829374041602535252466099000494570602496 := by
      rw [hX]; simp only [val4]; omega
    rw [hS]
    have hD := val_of e42 e43 e44 e45
    clear e1 e2 e3 e4 e5 e6 e7 e8 e9 e10 e11 e12 e13 e18 e19 e20 e21 e22 e23 e24 e25 e26 e27 e28 e29 e30 e31 e32 e33 e34 e35 e36 e37 e38 e39 e40 e41 q3 q6 q9 q12 q39 q41 hX hS hT hV
    generalize val4 [x3, x6, x9, x13] = X at *
    have hell := ell_lit
    have hDb := val4_bd r42 r43 r44 r45
    have hwD := words_val r42 r43 r44 r45
    refine ⟨fun h46 x47 f47 g47 x48 f48 g48 x49 f49 g49 x50 f50 g50 x51 f51 g51 x52 f52 => ?_, fun h46 x58 f58 => ?_⟩
    · have h46 : x46 = 1 := by simpa using h46
      have hneg : X - x1 * 27742317777372353535851937790883648493 < 0 := by
        unfold ltI at e46; split at e46 <;> omega
      have hE := val_of f47 f48 f49 f50
      have hr : val4 [x47, x48, x49, x50] = X - x1 * 27742317777372353535851937790883648493 + ell := by
        rw [hE, hD, hell]; omega
      have hlt : val4 [x47, x48, x49, x50] < ell := by rw [hr]; omega
      have hmod : (X + x1 * 7237005577332262213973186563042994240829374041602535252466099000494570602496) % ell = val4 [x47, x48, x49, x50] := mod_of (k := x1 - 1) (by rw [hr, hell]; omega) (by rw [hr, hell]; omega) hlt
      rw [hmod]
      refine ⟨fun hn => ?_, fun _ => ?_⟩
      · rw [f52, decide_eq_true hlt] at hn; cases hn
      · show [x47, x48, x49, x50] = words4 (val4 [x47, x48, x49, x50])
        rw [words_val g47 g48 g49 g50]
    · have h46 : ¬ x46 = 1 := by simpa using h46
      have hnn : 0 ≤ X - x1 * 27742317777372353535851937790883648493 := by
        unfold ltI at e46; split at e46 <;> omega
      have hr : val4 [x42, x43, x44, x45] = X - x1 * 27742317777372353535851937790883648493 := by
        rw [hD]; omega
      have hlt : val4 [x42, x43, x44, x45] < ell := by rw [hr, hell]; omega
      have hmod : (X + x1 * 7237005577332262213973186563042994240829374041602535252466099000494570602496) % ell = val4 [x42, x43, x44, x45] := mod_of (k := x1) (by rw [hr, hell]; omega) (by omega) hlt
      rw [hmod]
      refine ⟨fun hn => ?_, fun _ => ?_⟩
      · rw [f58, decide_eq_true hlt] at hn; cases hn
      · show [x42, x43, x44, x45] = words4 (val4 [x42, x43, x44, x45])
        rw [hwD]
  · cases hs

end Go.Gx
