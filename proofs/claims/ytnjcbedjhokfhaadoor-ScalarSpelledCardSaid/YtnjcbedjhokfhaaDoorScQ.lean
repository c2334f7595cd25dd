/- The product in Montgomery's form. -/
import Derived.Test.YtnjcbedjhokfhaaDoorScP
namespace Go.Gx
open Go.Proofs Go.Sp
set_option linter.unusedVariables false

theorem round_full {a0 a1 a2 a3 b t0 t1 t2 t3 t4 x1 x2 x3 x4 x5 x6 x7 x8 x9 x10 x11 x13 x14 x15 x16 x17 x18 x19 x20 x21 x22 : Int} (e1 : x1 = (a0 * b + t0 + 0) % 18446744073709551616) (e2 : x2 = (a0 * b + t0 + 0) / 18446744073709551616) (e3 : x3 = (a1 * b + t1 + x2) % 18446744073709551616) (e4 : x4 = (a1 * b + t1 + x2) / 18446744073709551616) (e5 : x5 = (a2 * b + t2 + x4) % 18446744073709551616) (e6 : x6 = (a2 * b + t2 + x4) / 18446744073709551616) (e7 : x7 = (a3 * b + t3 + x6) % 18446744073709551616) (e8 : x8 = (a3 * b + t3 + x6) / 18446744073709551616) (e9 : x9 = (t4 + x8 + 0) % 18446744073709551616) (e10 : x10 = (t4 + x8 + 0) / 18446744073709551616) (e11 : x11 = IntKind.u64.wrap (x1 * 15183074304973897243)) (e13 : x13 = (x11 * 6346243789798364141 + x1 + 0) / 18446744073709551616) (e14 : x14 = (x11 * 1503914060200516822 + x3 + x13) % 18446744073709551616) (e15 : x15 = (x11 * 1503914060200516822 + x3 + x13) / 18446744073709551616) (e16 : x16 = (x11 * 0 + x5 + x15) % 18446744073709551616) (e17 : x17 = (x11 * 0 + x5 + x15) / 18446744073709551616) (e18 : x18 = (x11 * 1152921504606846976 + x7 + x17) % 18446744073709551616) (e19 : x19 = (x11 * 1152921504606846976 + x7 + x17) / 18446744073709551616) (e20 : x20 = (x9 + x19 + 0) % 18446744073709551616) (e21 : x21 = (x9 + x19 + 0) / 18446744073709551616) (e22 : x22 = IntKind.u64.wrap (x10 + x21))
    (hb : InR .u64 b) (h4 : InR .u64 t4) (r1 : InR .u64 x1) (r3 : InR .u64 x3) (r5 : InR .u64 x5) (r7 : InR .u64 x7) (r8 : InR .u64 x8) (r9 : InR .u64 x9) (r11 : InR .u64 x11) (r14 : InR .u64 x14) (r16 : InR .u64 x16) (r18 : InR .u64 x18) (r19 : InR .u64 x19) (r20 : InR .u64 x20) (r22 : InR .u64 x22) (hA : val4 [a0, a1, a2, a3] < 7237005577332262213973186563042994240857116359379907606001950938285454250989) (hA0 : 0 ≤ val4 [a0, a1, a2, a3]) (hT : (t0 + 18446744073709551616 * t1 + 340282366920938463463374607431768211456 * t2 + 6277101735386680763835789423207666416102355444464034512896 * t3 + 115792089237316195423570985008687907853269984665640564039457584007913129639936 * t4) < 2 * 7237005577332262213973186563042994240857116359379907606001950938285454250989) (hT0 : 0 ≤ (t0 + 18446744073709551616 * t1 + 340282366920938463463374607431768211456 * t2 + 6277101735386680763835789423207666416102355444464034512896 * t3 + 115792089237316195423570985008687907853269984665640564039457584007913129639936 * t4)) :
    18446744073709551616 * (x14 + 18446744073709551616 * x16 + 340282366920938463463374607431768211456 * x18 + 6277101735386680763835789423207666416102355444464034512896 * x20 + 115792089237316195423570985008687907853269984665640564039457584007913129639936 * x22) = (t0 + 18446744073709551616 * t1 + 340282366920938463463374607431768211456 * t2 + 6277101735386680763835789423207666416102355444464034512896 * t3 + 115792089237316195423570985008687907853269984665640564039457584007913129639936 * t4) + val4 [a0, a1, a2, a3] * b + x11 * 7237005577332262213973186563042994240857116359379907606001950938285454250989 ∧ (x14 + 18446744073709551616 * x16 + 340282366920938463463374607431768211456 * x18 + 6277101735386680763835789423207666416102355444464034512896 * x20 + 115792089237316195423570985008687907853269984665640564039457584007913129639936 * x22) < 2 * 7237005577332262213973186563042994240857116359379907606001950938285454250989 ∧ 0 ≤ (x14 + 18446744073709551616 * x16 + 340282366920938463463374607431768211456 * x18 + 6277101735386680763835789423207666416102355444464034512896 * x20 + 115792089237316195423570985008687907853269984665640564039457584007913129639936 * x22) := by
  simp only [InR] at hb h4 r1 r3 r5 r7 r8 r9 r11 r14 r16 r18 r19 r20 r22
  rw [wrap_u64] at e11 e22
  have s0 := split_w e1 e2
  have s1 := split_w e3 e4
  have s2 := split_w e5 e6
  have s3 := split_w e7 e8
  have s4 := split_w e9 e10
  have m0 := low_zero r1 e11 rfl (show x13 = (x11 * 6346243789798364141 + x1) / 18446744073709551616 by rw [e13, Int.add_zero])
  have m1 := split_w e14 e15
  have m2 := split_w e16 e17
  have m3 := split_w e18 e19
  have m4 := split_w e20 e21
  have k1 : 0 ≤ x10 ∧ x10 ≤ 1 := by clear e1 e2 e3 e4 e5 e6 e7 e8 e11 e13 e14 e15 e16 e17 e18 e19 hA hA0 hT hT0 m0; omega
  have k2 : 0 ≤ x21 ∧ x21 ≤ 1 := by clear e1 e2 e3 e4 e5 e6 e7 e8 e11 e13 e14 e15 e16 e17 e18 e19 hA hA0 hT hT0 m0; omega
  have k3 : x22 = x10 + x21 := by clear e1 e2 e3 e4 e5 e6 e7 e8 e11 e13 e14 e15 e16 e17 e18 e19 hA hA0 hT hT0 m0; omega
  have hAb : val4 [a0, a1, a2, a3] * b = a0 * b + 18446744073709551616 * (a1 * b) + 340282366920938463463374607431768211456 * (a2 * b) + 6277101735386680763835789423207666416102355444464034512896 * (a3 * b) := by
    simp only [val4, Int.add_mul, Int.mul_assoc]
  have key := round_law (p0 := a0 * b) (p1 := a1 * b) (p2 := a2 * b) (p3 := a3 * b) (t0 := t0) (t1 := t1) (t2 := t2) (t3 := t3) (t4 := t4) (by rw [← s0.1, Int.add_zero]) s1.1 s2.1 s3.1 (by rw [← s4.1, Int.add_zero]) m0 m1.1 (by rw [← m2.1, Int.mul_zero, Int.zero_add]) m3.1 (by rw [← m4.1, Int.add_zero]) k3
  rw [← hAb] at key
  have hbd : val4 [a0, a1, a2, a3] * b ≤ (7237005577332262213973186563042994240857116359379907606001950938285454250989 - 1) * 18446744073709551615 := Int.mul_le_mul (by omega) (by omega) hb.1 (by decide)
  have hbd0 : 0 ≤ val4 [a0, a1, a2, a3] * b := Int.mul_nonneg hA0 hb.1
  generalize val4 [a0, a1, a2, a3] * b = Q at *
  clear e1 e2 e3 e4 e5 e6 e7 e8 e9 e10 e11 e13 e14 e15 e16 e17 e18 e19 e20 e21 e22 s0 s1 s2 s3 s4 m0 m1 m2 m3 m4 hAb k1 k2 k3
  omega

def vc78 (a0 a1 a2 a3 b0 b1 b2 b3 : Int) (K : SV → Prop) (Q : Nat → List Pv → Prop) : Prop := fnVc Γ9 Tryd.f78 [] [.arr .u64 4 true [a0, a1, a2, a3], .arr .u64 4 true [b0, b1, b2, b3]] gh K Q
theorem vc78_eq : ∀ (a0 a1 a2 a3 b0 b1 b2 b3 : Int) (K : SV → Prop) (Q : Nat → List Pv → Prop), vc78 a0 a1 a2 a3 b0 b1 b2 b3 K Q = ∀ (x1 : Int), x1 = (a0 * b0 + (0 : Int) + (0 : Int)) % (18446744073709551616 : Int) → InR IntKind.u64 x1 → ∀ (x2 : Int), x2 = (a0 * b0 + (0 : Int) + (0 : Int)) / (18446744073709551616 : Int) → InR IntKind.u64 x2 → ∀ (x3 : Int), x3 = (a1 * b0 + (0 : Int) + x2) % (18446744073709551616 : Int) → InR IntKind.u64 x3 → ∀ (x4 : Int), x4 = (a1 * b0 + (0 : Int) + x2) / (18446744073709551616 : Int) → InR IntKind.u64 x4 → ∀ (x5 : Int), x5 = (a2 * b0 + (0 : Int) + x4) % (18446744073709551616 : Int) → InR IntKind.u64 x5 → ∀ (x6 : Int), x6 = (a2 * b0 + (0 : Int) + x4) / (18446744073709551616 : Int) → InR IntKind.u64 x6 → ∀ (x7 : Int), x7 = (a3 * b0 + (0 : Int) + x6) % (18446744073709551616 : Int) → InR IntKind.u64 x7 → ∀ (x8 : Int), x8 = (a3 * b0 + (0 : Int) + x6) / (18446744073709551616 : Int) → InR IntKind.u64 x8 → Need ((0 : Int) ≤ (1 : Int)) ∧ ∀ (x9 : Int), x9 = ((0 : Int) + x8 + (0 : Int)) % (18446744073709551616 : Int) → InR IntKind.u64 x9 → ∀ (x10 : Int), x10 = ((0 : Int) + x8 + (0 : Int)) / (18446744073709551616 : Int) → InR IntKind.u64 x10 → ∀ (x11 : Int), x11 = IntKind.u64.wrap (x1 * (15183074304973897243 : Int)) → InR IntKind.u64 x11 → ∀ (x12 : Int), x12 = (x11 * (6346243789798364141 : Int) + x1 + (0 : Int)) % (18446744073709551616 : Int) → InR IntKind.u64 x12 → ∀ (x13 : Int), x13 = (x11 * (6346243789798364141 : Int) + x1 + (0 : Int)) / (18446744073709551616 : Int) → InR IntKind.u64 x13 → ∀ (x14 : Int), x14 = (x11 * (1503914060200516822 : Int) + x3 + x13) % (18446744073709551616 : Int) → InR IntKind.u64 x14 → ∀ (x15 : Int), x15 = (x11 * (1503914060200516822 : Int) + x3 + x13) / (18446744073709551616 : Int) → InR IntKind.u64 x15 → ∀ (x16 : Int), x16 = (x11 * (0 : Int) + x5 + x15) % (18446744073709551616 : Int) → InR IntKind.u64 x16 → ∀ (x17 : Int), x17 = (x11 * (0 : Int) + x5 + x15) / (18446744073709551616 : Int) → InR IntKind.u64 x17 → ∀ (x18 : Int), x18 = (x11 * (1152921504606846976 : Int) + x7 + x17) % (18446744073709551616 : Int) → InR IntKind.u64 x18 → ∀ (x19 : Int), x19 = (x11 * (1152921504606846976 : Int) + x7 + x17) / (18446744073709551616 : Int) → InR IntKind.u64 x19 → Need ((0 : Int) ≤ (1 : Int)) ∧ ∀ (x20 : Int), x20 = (x9 + x19 + (0 : Int)) % (18446744073709551616 : Int) → InR IntKind.u64 x20 → ∀ (x21 : Int), x21 = (x9 + x19 + (0 : Int)) / (18446744073709551616 : Int) → InR IntKind.u64 x21 → ∀ (x22 : Int), x22 = IntKind.u64.wrap (x10 + x21) → InR IntKind.u64 x22 → ∀ (x23 : Int), x23 = (a0 * b1 + x14 + (0 : Int)) % (18446744073709551616 : Int) → InR IntKind.u64 x23 → ∀ (x24 : Int), x24 = (a0 * b1 + x14 + (0 : Int)) / (18446744073709551616 : Int) → InR IntKind.u64 x24 → ∀ (x25 : Int), x25 = (a1 * b1 + x16 + x24) % (18446744073709551616 : Int) → InR IntKind.u64 x25 → ∀ (x26 : Int), x26 = (a1 * b1 + x16 + x24) / (18446744073709551616 : Int) → InR IntKind.u64 x26 → ∀ (x27 : Int), x27 = (a2 * b1 + x18 + x26) % (18446744073709551616 : Int) → InR IntKind.u64 x27 → ∀ (x28 : Int), x28 = (a2 * b1 + x18 + x26) / (18446744073709551616 : Int) → InR IntKind.u64 x28 → ∀ (x29 : Int), x29 = (a3 * b1 + x20 + x28) % (18446744073709551616 : Int) → InR IntKind.u64 x29 → ∀ (x30 : Int), x30 = (a3 * b1 + x20 + x28) / (18446744073709551616 : Int) → InR IntKind.u64 x30 → Need ((0 : Int) ≤ (1 : Int)) ∧ ∀ (x31 : Int), x31 = (x22 + x30 + (0 : Int)) % (18446744073709551616 : Int) → InR IntKind.u64 x31 → ∀ (x32 : Int), x32 = (x22 + x30 + (0 : Int)) / (18446744073709551616 : Int) → InR IntKind.u64 x32 → ∀ (x33 : Int), x33 = IntKind.u64.wrap (x23 * (15183074304973897243 : Int)) → InR IntKind.u64 x33 → ∀ (x34 : Int), x34 = (x33 * (6346243789798364141 : Int) + x23 + (0 : Int)) % (18446744073709551616 : Int) → InR IntKind.u64 x34 → ∀ (x35 : Int), x35 = (x33 * (6346243789798364141 : Int) + x23 + (0 : Int)) / (18446744073709551616 : Int) → InR IntKind.u64 x35 → ∀ (x36 : Int), x36 = (x33 * (1503914060200516822 : Int) + x25 + x35) % (18446744073709551616 : Int) → InR IntKind.u64 x36 → ∀ (x37 : Int), x37 = (x33 * (1503914060200516822 : Int) + x25 + x35) / (18446744073709551616 : Int) → InR IntKind.u64 x37 → ∀ (x38 : Int), x38 = (x33 * (0 : Int) + x27 + x37) % (18446744073709551616 : Int) → InR IntKind.u64 x38 → ∀ (x39 : Int), x39 = (x33 * (0 : Int) + x27 + x37) / (18446744073709551616 : Int) → InR IntKind.u64 x39 → ∀ (x40 : Int), x40 = (x33 * (1152921504606846976 : Int) + x29 + x39) % (18446744073709551616 : Int) → InR IntKind.u64 x40 → ∀ (x41 : Int), x41 = (x33 * (1152921504606846976 : Int) + x29 + x39) / (18446744073709551616 : Int) → InR IntKind.u64 x41 → Need ((0 : Int) ≤ (1 : Int)) ∧ ∀ (x42 : Int), x42 = (x31 + x41 + (0 : Int)) % (18446744073709551616 : Int) → InR IntKind.u64 x42 → ∀ (x43 : Int), x43 = (x31 + x41 + (0 : Int)) / (18446744073709551616 : Int) → InR IntKind.u64 x43 → ∀ (x44 : Int), x44 = IntKind.u64.wrap (x32 + x43) → InR IntKind.u64 x44 → ∀ (x45 : Int), x45 = (a0 * b2 + x36 + (0 : Int)) % (18446744073709551616 : Int) → InR IntKind.u64 x45 → ∀ (x46 : Int), x46 = (a0 * b2 + x36 + (0 : Int)) / (18446744073709551616 : Int) → InR IntKind.u64 x46 → ∀ (x47 : Int), x47 = (a1 * b2 + x38 + x46) % (18446744073709551616 : Int) → InR IntKind.u64 x47 → ∀ (x48 : Int), x48 = (a1 * b2 + x38 + x46) / (18446744073709551616 : Int) → InR IntKind.u64 x48 → ∀ (x49 : Int), x49 = (a2 * b2 + x40 + x48) % (18446744073709551616 : Int) → InR IntKind.u64 x49 → ∀ (x50 : Int), x50 = (a2 * b2 + x40 + x48) / (18446744073709551616 : Int) → InR IntKind.u64 x50 → ∀ (x51 : Int), x51 = (a3 * b2 + x42 + x50) % (18446744073709551616 : Int) → InR IntKind.u64 x51 → ∀ (x52 : Int), x52 = (a3 * b2 + x42 + x50) / (18446744073709551616 : Int) → InR IntKind.u64 x52 → Need ((0 : Int) ≤ (1 : Int)) ∧ ∀ (x53 : Int), x53 = (x44 + x52 + (0 : Int)) % (18446744073709551616 : Int) → InR IntKind.u64 x53 → ∀ (x54 : Int), x54 = (x44 + x52 + (0 : Int)) / (18446744073709551616 : Int) → InR IntKind.u64 x54 → ∀ (x55 : Int), x55 = IntKind.u64.wrap (x45 * (15183074304973897243 : Int)) → InR IntKind.u64 x55 → ∀ (x56 : Int), x56 = (x55 * (6346243789798364141 : Int) + x45 + (0 : Int)) % (18446744073709551616 : Int) → InR IntKind.u64 x56 → ∀ (x57 : Int), x57 = (x55 * (6346243789798364141 : Int) + x45 + (0 : Int)) / (18446744073709551616 : Int) → InR IntKind.u64 x57 → ∀ (x58 : Int), x58 = (x55 * (1503914060200516822 : Int) + x47 + x57) % (18446744073709551616 : Int) → InR IntKind.u64 x58 → ∀ (x59 : Int), x59 = (x55 * (1503914060200516822 : Int) + x47 + x57) / (18446744073709551616 : Int) → InR IntKind.u64 x59 → ∀ (x60 : Int), x60 = (x55 * (0 : Int) + x49 + x59) % (18446744073709551616 : Int) → InR IntKind.u64 x60 → ∀ (x61 : Int), x61 = (x55 * (0 : Int) + x49 + x59) / (18446744073709551616 : Int) → InR IntKind.u64 x61 → ∀ (x62 : Int), x62 = (x55 * (1152921504606846976 : Int) + x51 + x61) % (18446744073709551616 : Int) → InR IntKind.u64 x62 → ∀ (x63 : Int), x63 = (x55 * (1152921504606846976 : Int) + x51 + x61) / (18446744073709551616 : Int) → InR IntKind.u64 x63 → Need ((0 : Int) ≤ (1 : Int)) ∧ ∀ (x64 : Int), x64 = (x53 + x63 + (0 : Int)) % (18446744073709551616 : Int) → InR IntKind.u64 x64 → ∀ (x65 : Int), x65 = (x53 + x63 + (0 : Int)) / (18446744073709551616 : Int) → InR IntKind.u64 x65 → ∀ (x66 : Int), x66 = IntKind.u64.wrap (x54 + x65) → InR IntKind.u64 x66 → ∀ (x67 : Int), x67 = (a0 * b3 + x58 + (0 : Int)) % (18446744073709551616 : Int) → InR IntKind.u64 x67 → ∀ (x68 : Int), x68 = (a0 * b3 + x58 + (0 : Int)) / (18446744073709551616 : Int) → InR IntKind.u64 x68 → ∀ (x69 : Int), x69 = (a1 * b3 + x60 + x68) % (18446744073709551616 : Int) → InR IntKind.u64 x69 → ∀ (x70 : Int), x70 = (a1 * b3 + x60 + x68) / (18446744073709551616 : Int) → InR IntKind.u64 x70 → ∀ (x71 : Int), x71 = (a2 * b3 + x62 + x70) % (18446744073709551616 : Int) → InR IntKind.u64 x71 → ∀ (x72 : Int), x72 = (a2 * b3 + x62 + x70) / (18446744073709551616 : Int) → InR IntKind.u64 x72 → ∀ (x73 : Int), x73 = (a3 * b3 + x64 + x72) % (18446744073709551616 : Int) → InR IntKind.u64 x73 → ∀ (x74 : Int), x74 = (a3 * b3 + x64 + x72) / (18446744073709551616 : Int) → InR IntKind.u64 x74 → Need ((0 : Int) ≤ (1 : Int)) ∧ ∀ (x75 : Int), x75 = (x66 + x74 + (0 : Int)) % (18446744073709551616 : Int) → InR IntKind.u64 x75 → ∀ (x76 : Int), x76 = (x66 + x74 + (0 : Int)) / (18446744073709551616 : Int) → InR IntKind.u64 x76 → ∀ (x77 : Int), x77 = IntKind.u64.wrap (x67 * (15183074304973897243 : Int)) → InR IntKind.u64 x77 → ∀ (x78 : Int), x78 = (x77 * (6346243789798364141 : Int) + x67 + (0 : Int)) % (18446744073709551616 : Int) → InR IntKind.u64 x78 → ∀ (x79 : Int), x79 = (x77 * (6346243789798364141 : Int) + x67 + (0 : Int)) / (18446744073709551616 : Int) → InR IntKind.u64 x79 → ∀ (x80 : Int), x80 = (x77 * (1503914060200516822 : Int) + x69 + x79) % (18446744073709551616 : Int) → InR IntKind.u64 x80 → ∀ (x81 : Int), x81 = (x77 * (1503914060200516822 : Int) + x69 + x79) / (18446744073709551616 : Int) → InR IntKind.u64 x81 → ∀ (x82 : Int), x82 = (x77 * (0 : Int) + x71 + x81) % (18446744073709551616 : Int) → InR IntKind.u64 x82 → ∀ (x83 : Int), x83 = (x77 * (0 : Int) + x71 + x81) / (18446744073709551616 : Int) → InR IntKind.u64 x83 → ∀ (x84 : Int), x84 = (x77 * (1152921504606846976 : Int) + x73 + x83) % (18446744073709551616 : Int) → InR IntKind.u64 x84 → ∀ (x85 : Int), x85 = (x77 * (1152921504606846976 : Int) + x73 + x83) / (18446744073709551616 : Int) → InR IntKind.u64 x85 → Need ((0 : Int) ≤ (1 : Int)) ∧ ∀ (x86 : Int), x86 = (x75 + x85 + (0 : Int)) % (18446744073709551616 : Int) → InR IntKind.u64 x86 → ∀ (x87 : Int), x87 = (x75 + x85 + (0 : Int)) / (18446744073709551616 : Int) → InR IntKind.u64 x87 → ∀ (x88 : Int), x88 = IntKind.u64.wrap (x76 + x87) → InR IntKind.u64 x88 → ∀ (x89 : Int), x89 = w0 (lowI (val4 [x80, x82, x84, x86])) → InR IntKind.u64 x89 → ∀ (x90 : Int), x90 = w1 (lowI (val4 [x80, x82, x84, x86])) → InR IntKind.u64 x90 → ∀ (x91 : Int), x91 = w2 (lowI (val4 [x80, x82, x84, x86])) → InR IntKind.u64 x91 → ∀ (x92 : Int), x92 = w3 (lowI (val4 [x80, x82, x84, x86])) → InR IntKind.u64 x92 → K (SV.arr IntKind.u64 (4 : Nat) true [x89, x90, x91, x92]) := by
  intros
  kernel_rfl

open Go.Sp (prI)
def prodS : List SV → Option (List Prop × SV)
  | [.arr .u64 4 _ aL, .arr .u64 4 _ bL] => some ([val4 aL < ell], .arr .u64 4 true (words4 (prI (val4 aL) (val4 bL))))
  | _ => none

theorem prod_ok : CallOk Tryd.prog gh 78 (pureCtr prodS) := by
  refine call_pure (fn := Tryd.f78) Γ9_ok rfl (by kernel_rfl) (by kernel_rfl) (by kernel_rfl) prodS fun args P0 Y0 hs hp hf => ?_
  unfold prodS at hs
  split at hs
  · rename_i ea aL eb bL
    simp only [Option.some.injEq, Prod.mk.injEq] at hs
    obtain ⟨rfl, rfl⟩ := hs
    simp only [FactVs, FactV] at hf
    obtain ⟨⟨hal, ha⟩, ⟨hbl, hb⟩, _⟩ := hf
    obtain ⟨hpre, _⟩ := hp
    obtain ⟨a0, a1, a2, a3, rfl⟩ := len4 hal
    have ia0 := ha a0 (by simp); have ia1 := ha a1 (by simp); have ia2 := ha a2 (by simp); have ia3 := ha a3 (by simp)
    obtain ⟨b0, b1, b2, b3, rfl⟩ := len4 hbl
    have ib0 := hb b0 (by simp); have ib1 := hb b1 (by simp); have ib2 := hb b2 (by simp); have ib3 := hb b3 (by simp)
    refine ⟨[.arr .u64 4 true [a0, a1, a2, a3], .arr .u64 4 true [b0, b1, b2, b3]], [], _, ⟨rfl, rfl, trivial⟩, Nat.le_of_ble_eq_true (by kernel_rfl), vc_noloops ?_⟩
    show vc78 a0 a1 a2 a3 b0 b1 b2 b3 _ _
    rw [vc78_eq]
    intro x1 e1 r1 x2 e2 r2 x3 e3 r3 x4 e4 r4 x5 e5 r5 x6 e6 r6 x7 e7 r7 x8 e8 r8
    refine ⟨by unfold Need; omega, ?_⟩
    intro x9 e9 r9 x10 e10 r10 x11 e11 r11 x12 e12 r12 x13 e13 r13 x14 e14 r14 x15 e15 r15 x16 e16 r16 x17 e17 r17 x18 e18 r18 x19 e19 r19
    refine ⟨by unfold Need; omega, ?_⟩
    intro x20 e20 r20 x21 e21 r21 x22 e22 r22
    intro x23 e23 r23 x24 e24 r24 x25 e25 r25 x26 e26 r26 x27 e27 r27 x28 e28 r28 x29 e29 r29 x30 e30 r30
    refine ⟨by unfold Need; omega, ?_⟩
    intro x31 e31 r31 x32 e32 r32 x33 e33 r33 x34 e34 r34 x35 e35 r35 x36 e36 r36 x37 e37 r37 x38 e38 r38 x39 e39 r39 x40 e40 r40 x41 e41 r41
    refine ⟨by unfold Need; omega, ?_⟩
    intro x42 e42 r42 x43 e43 r43 x44 e44 r44
    intro x45 e45 r45 x46 e46 r46 x47 e47 r47 x48 e48 r48 x49 e49 r49 x50 e50 r50 x51 e51 r51 x52 e52 r52
    refine ⟨by unfold Need; omega, ?_⟩
    intro x53 e53 r53 x54 e54 r54 x55 e55 r55 x56 e56 r56 x57 e57 r57 x58 e58 r58 x59 e59 r59 x60 e60 r60 x61 e61 r61 x62 e62 r62 x63 e63 r63
    refine ⟨by unfold Need; omega, ?_⟩
    intro x64 e64 r64 x65 e65 r65 x66 e66 r66
    intro x67 e67 r67 x68 e68 r68 x69 e69 r69 x70 e70 r70 x71 e71 r71 x72 e72 r72 x73 e73 r73 x74 e74 r74
    refine ⟨by unfold Need; omega, ?_⟩
    intro x75 e75 r75 x76 e76 r76 x77 e77 r77 x78 e78 r78 x79 e79 r79 x80 e80 r80 x81 e81 r81 x82 e82 r82 x83 e83 r83 x84 e84 r84 x85 e85 r85
    refine ⟨by unfold Need; omega, ?_⟩
    intro x86 e86 r86 x87 e87 r87 x88 e88 r88
    intro x89 e89 _ x90 e90 _ x91 e91 _ x92 e92 _
    have hA0 : 0 ≤ val4 [a0, a1, a2, a3] := by simp only [InR] at ia0 ia1 ia2 ia3; simp only [val4]; omega
    have z0 : InR .u64 0 := ⟨by omega, by omega⟩
    have R0 := round_full (t0 := 0) (t1 := 0) (t2 := 0) (t3 := 0) (t4 := 0) e1 e2 e3 e4 e5 e6 e7 e8 e9 e10 e11 e13 e14 e15 e16 e17 e18 e19 e20 e21 e22 ib0 z0 r1 r3 r5 r7 r8 r9 r11 r14 r16 r18 r19 r20 r22 hpre hA0 (by decide) (by decide)
    have R1 := round_full (t0 := x14) (t1 := x16) (t2 := x18) (t3 := x20) (t4 := x22) e23 e24 e25 e26 e27 e28 e29 e30 e31 e32 e33 e35 e36 e37 e38 e39 e40 e41 e42 e43 e44 ib1 r22 r23 r25 r27 r29 r30 r31 r33 r36 r38 r40 r41 r42 r44 hpre hA0 R0.2.1 R0.2.2
    have R2 := round_full (t0 := x36) (t1 := x38) (t2 := x40) (t3 := x42) (t4 := x44) e45 e46 e47 e48 e49 e50 e51 e52 e53 e54 e55 e57 e58 e59 e60 e61 e62 e63 e64 e65 e66 ib2 r44 r45 r47 r49 r51 r52 r53 r55 r58 r60 r62 r63 r64 r66 hpre hA0 R1.2.1 R1.2.2
    have R3 := round_full (t0 := x58) (t1 := x60) (t2 := x62) (t3 := x64) (t4 := x66) e67 e68 e69 e70 e71 e72 e73 e74 e75 e76 e77 e79 e80 e81 e82 e83 e84 e85 e86 e87 e88 ib3 r66 r67 r69 r71 r73 r74 r75 r77 r80 r82 r84 r85 r86 r88 hpre hA0 R2.2.1 R2.2.2
    have hx : 18446744073709551616 * (18446744073709551616 * (18446744073709551616 * (18446744073709551616 * (x80 + 18446744073709551616 * x82 + 340282366920938463463374607431768211456 * x84 + 6277101735386680763835789423207666416102355444464034512896 * x86 + 115792089237316195423570985008687907853269984665640564039457584007913129639936 * x88)))) = val4 [a0, a1, a2, a3] * val4 [b0, b1, b2, b3] + (x11 + 18446744073709551616 * x33 + 340282366920938463463374607431768211456 * x55 + 6277101735386680763835789423207666416102355444464034512896 * x77) * 7237005577332262213973186563042994240857116359379907606001950938285454250989 := by
      have hB : val4 [a0, a1, a2, a3] * val4 [b0, b1, b2, b3] = val4 [a0, a1, a2, a3] * b0 + 18446744073709551616 * (val4 [a0, a1, a2, a3] * b1) + 340282366920938463463374607431768211456 * (val4 [a0, a1, a2, a3] * b2) + 6277101735386680763835789423207666416102355444464034512896 * (val4 [a0, a1, a2, a3] * b3) := by
        rw [show val4 [b0, b1, b2, b3] = b0 + 18446744073709551616 * b1 + 340282366920938463463374607431768211456 * b2 + 6277101735386680763835789423207666416102355444464034512896 * b3 from rfl]
        simp only [Int.mul_add, Int.mul_left_comm (val4 [a0, a1, a2, a3]) 18446744073709551616, Int.mul_left_comm (val4 [a0, a1, a2, a3]) 340282366920938463463374607431768211456, Int.mul_left_comm (val4 [a0, a1, a2, a3]) 6277101735386680763835789423207666416102355444464034512896]
      rw [hB]
      have q0 := R0.1; have q1 := R1.1; have q2 := R2.1; have q3 := R3.1
      generalize val4 [a0, a1, a2, a3] * b0 = Q0 at *
      generalize val4 [a0, a1, a2, a3] * b1 = Q1 at *
      generalize val4 [a0, a1, a2, a3] * b2 = Q2 at *
      generalize val4 [a0, a1, a2, a3] * b3 = Q3 at *
      clear R0 R1 R2 R3 e1 e2 e3 e4 e5 e6 e7 e8 e9 e10 e11 e12 e13 e14 e15 e16 e17 e18 e19 e20 e21 e22 e23 e24 e25 e26 e27 e28 e29 e30 e31 e32 e33 e34 e35 e36 e37 e38 e39 e40 e41 e42 e43 e44 e45 e46 e47 e48 e49 e50 e51 e52 e53 e54 e55 e56 e57 e58 e59 e60 e61 e62 e63 e64 e65 e66 e67 e68 e69 e70 e71 e72 e73 e74 e75 e76 e77 e78 e79 e80 e81 e82 e83 e84 e85 e86 e87 e88 e89 e90 e91 e92
      omega
    have hlt := R3.2.1
    have h0 := R3.2.2
    simp only [InR] at r80 r82 r84 r86 r88
    have h88 : x88 = 0 := by clear hx R0 R1 R2 R3 e1 e2 e3 e4 e5 e6 e7 e8 e9 e10 e11 e12 e13 e14 e15 e16 e17 e18 e19 e20 e21 e22 e23 e24 e25 e26 e27 e28 e29 e30 e31 e32 e33 e34 e35 e36 e37 e38 e39 e40 e41 e42 e43 e44 e45 e46 e47 e48 e49 e50 e51 e52 e53 e54 e55 e56 e57 e58 e59 e60 e61 e62 e63 e64 e65 e66 e67 e68 e69 e70 e71 e72 e73 e74 e75 e76 e77 e78 e79 e80 e81 e82 e83 e84 e85 e86 e87 e88 e89 e90 e91 e92; omega
    have hv : val4 [x80, x82, x84, x86] = (x80 + 18446744073709551616 * x82 + 340282366920938463463374607431768211456 * x84 + 6277101735386680763835789423207666416102355444464034512896 * x86 + 115792089237316195423570985008687907853269984665640564039457584007913129639936 * x88) := by rw [h88]; simp only [val4]; omega
    rw [← hv] at hx hlt h0
    have hl : lowI (val4 [x80, x82, x84, x86]) = prI (val4 [a0, a1, a2, a3]) (val4 [b0, b1, b2, b3]) := by
      rw [← pr_of (t := val4 [x80, x82, x84, x86]) (k := x11 + 18446744073709551616 * x33 + 340282366920938463463374607431768211456 * x55 + 6277101735386680763835789423207666416102355444464034512896 * x77) (by rw [ell_lit, ← hx]; omega)]
      unfold lowI
      have he := ell_lit
      split
      · rename_i hh
        rw [Int.emod_eq_of_lt h0 hh]
      · rename_i hh
        rw [← Int.sub_emod_right (val4 [x80, x82, x84, x86]) ell, Int.emod_eq_of_lt (by omega) (by rw [he] at hh ⊢; omega)]
    show [x89, x90, x91, x92] = words4 (prI (val4 [a0, a1, a2, a3]) (val4 [b0, b1, b2, b3]))
    rw [e89, e90, e91, e92, hl]; rfl
  · cases hs

def Γ10 : Tab := ⟨tys, (78, pureCtr prodS) :: Γ9.ctr, [0], gh⟩
theorem Γ10_ok : TabOk Tryd.prog Γ10 := Γ9_ok.cons prod_ok
end Go.Gx
