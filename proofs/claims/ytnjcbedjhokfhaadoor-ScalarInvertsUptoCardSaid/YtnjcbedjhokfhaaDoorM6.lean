/- Part 6 of the proof: the evaluator of the code, its soundness, and what it shows of the functions. -/
import Derived.Test.YtnjcbedjhokfhaaDoorM5
import Derived.Test.YtnjcbedjhokfhaaDoorM4

/- Negatives; the document's difference and product. -/
namespace Go.Gx
open Go.Proofs Go.Sp
open Go.Sp (prI mlL adL sbL pwL)
set_option linter.unusedVariables false

theorem piece {x y p c m s t q d : Int} (hx : 0 ≤ x ∧ x < 4294967296) (hy : 0 ≤ y ∧ y < 4294967296) (hp : 0 ≤ p ∧ p < 4294967296) (hc : 0 ≤ c ∧ c < 4294967296) (em : m = IntKind.u64.wrap (x * y)) (es : s = IntKind.u64.wrap (m + p)) (et : t = IntKind.u64.wrap (s + c)) (eq : q = andI .u64 t 4294967295) (rt : InR .u64 t) (ed : d = shrI .u64 t 32) :
    x * y + p + c = q + 4294967296 * d ∧ (0 ≤ q ∧ q < 4294967296) ∧ (0 ≤ d ∧ d < 4294967296) := by
  rw [wrap_u64] at em es et
  rw [and32 rt] at eq
  rw [shr32] at ed
  have hb : 0 ≤ x * y ∧ x * y ≤ 18446744065119617025 := ⟨Int.mul_nonneg hx.1 hy.1, Int.le_trans (Int.mul_le_mul (show x ≤ 4294967295 by omega) (show y ≤ 4294967295 by omega) hy.1 (by omega)) (by decide)⟩
  simp only [InR] at rt
  generalize x * y = z at *
  omega

theorem row_law {x y0 y1 y2 y3 y4 y5 y6 y7 p0 p1 p2 p3 p4 p5 p6 p7 q0 q1 q2 q3 q4 q5 q6 q7 c1 c2 c3 c4 c5 c6 c7 c8 : Int} (h0 : x * y0 + p0 + 0 = q0 + 4294967296 * c1) (h1 : x * y1 + p1 + c1 = q1 + 4294967296 * c2) (h2 : x * y2 + p2 + c2 = q2 + 4294967296 * c3) (h3 : x * y3 + p3 + c3 = q3 + 4294967296 * c4) (h4 : x * y4 + p4 + c4 = q4 + 4294967296 * c5) (h5 : x * y5 + p5 + c5 = q5 + 4294967296 * c6) (h6 : x * y6 + p6 + c6 = q6 + 4294967296 * c7) (h7 : x * y7 + p7 + c7 = q7 + 4294967296 * c8) :
    q0 + 4294967296 * q1 + 18446744073709551616 * q2 + 79228162514264337593543950336 * q3 + 340282366920938463463374607431768211456 * q4 + 1461501637330902918203684832716283019655932542976 * q5 + 6277101735386680763835789423207666416102355444464034512896 * q6 + 26959946667150639794667015087019630673637144422540572481103610249216 * q7 + 115792089237316195423570985008687907853269984665640564039457584007913129639936 * c8 = (p0 + 4294967296 * p1 + 18446744073709551616 * p2 + 79228162514264337593543950336 * p3 + 340282366920938463463374607431768211456 * p4 + 1461501637330902918203684832716283019655932542976 * p5 + 6277101735386680763835789423207666416102355444464034512896 * p6 + 26959946667150639794667015087019630673637144422540572481103610249216 * p7) + x * (y0 + 4294967296 * y1 + 18446744073709551616 * y2 + 79228162514264337593543950336 * y3 + 340282366920938463463374607431768211456 * y4 + 1461501637330902918203684832716283019655932542976 * y5 + 6277101735386680763835789423207666416102355444464034512896 * y6 + 26959946667150639794667015087019630673637144422540572481103610249216 * y7) := by
  simp only [Int.mul_add, Int.mul_left_comm x]
  generalize x * y0 = z0 at *
  generalize x * y1 = z1 at *
  generalize x * y2 = z2 at *
  generalize x * y3 = z3 at *
  generalize x * y4 = z4 at *
  generalize x * y5 = z5 at *
  generalize x * y6 = z6 at *
  generalize x * y7 = z7 at *
  omega

theorem rows_law {g0 g1 g2 g3 g4 g5 g6 g7 Y u0_0 u0_1 u0_2 u0_3 u0_4 u0_5 u0_6 u0_7 k0 u1_0 u1_1 u1_2 u1_3 u1_4 u1_5 u1_6 u1_7 k1 u2_0 u2_1 u2_2 u2_3 u2_4 u2_5 u2_6 u2_7 k2 u3_0 u3_1 u3_2 u3_3 u3_4 u3_5 u3_6 u3_7 k3 u4_0 u4_1 u4_2 u4_3 u4_4 u4_5 u4_6 u4_7 k4 u5_0 u5_1 u5_2 u5_3 u5_4 u5_5 u5_6 u5_7 k5 u6_0 u6_1 u6_2 u6_3 u6_4 u6_5 u6_6 u6_7 k6 u7_0 u7_1 u7_2 u7_3 u7_4 u7_5 u7_6 u7_7 k7 : Int} (h0 : u0_0 + 4294967296 * u0_1 + 18446744073709551616 * u0_2 + 79228162514264337593543950336 * u0_3 + 340282366920938463463374607431768211456 * u0_4 + 1461501637330902918203684832716283019655932542976 * u0_5 + 6277101735386680763835789423207666416102355444464034512896 * u0_6 + 26959946667150639794667015087019630673637144422540572481103610249216 * u0_7 + 115792089237316195423570985008687907853269984665640564039457584007913129639936 * k0 = (0 + 4294967296 * 0 + 18446744073709551616 * 0 + 79228162514264337593543950336 * 0 + 340282366920938463463374607431768211456 * 0 + 1461501637330902918203684832716283019655932542976 * 0 + 6277101735386680763835789423207666416102355444464034512896 * 0 + 26959946667150639794667015087019630673637144422540572481103610249216 * 0) + g0 * Y) (h1 : u1_0 + 4294967296 * u1_1 + 18446744073709551616 * u1_2 + 79228162514264337593543950336 * u1_3 + 340282366920938463463374607431768211456 * u1_4 + 1461501637330902918203684832716283019655932542976 * u1_5 + 6277101735386680763835789423207666416102355444464034512896 * u1_6 + 26959946667150639794667015087019630673637144422540572481103610249216 * u1_7 + 115792089237316195423570985008687907853269984665640564039457584007913129639936 * k1 = (u0_1 + 4294967296 * u0_2 + 18446744073709551616 * u0_3 + 79228162514264337593543950336 * u0_4 + 340282366920938463463374607431768211456 * u0_5 + 1461501637330902918203684832716283019655932542976 * u0_6 + 6277101735386680763835789423207666416102355444464034512896 * u0_7 + 26959946667150639794667015087019630673637144422540572481103610249216 * k0) + g1 * Y) (h2 : u2_0 + 4294967296 * u2_1 + 18446744073709551616 * u2_2 + 79228162514264337593543950336 * u2_3 + 340282366920938463463374607431768211456 * u2_4 + 1461501637330902918203684832716283019655932542976 * u2_5 + 6277101735386680763835789423207666416102355444464034512896 * u2_6 + 26959946667150639794667015087019630673637144422540572481103610249216 * u2_7 + 115792089237316195423570985008687907853269984665640564039457584007913129639936 * k2 = (u1_1 + 4294967296 * u1_2 + 18446744073709551616 * u1_3 + 79228162514264337593543950336 * u1_4 + 340282366920938463463374607431768211456 * u1_5 + 1461501637330902918203684832716283019655932542976 * u1_6 + 6277101735386680763835789423207666416102355444464034512896 * u1_7 + 26959946667150639794667015087019630673637144422540572481103610249216 * k1) + g2 * Y) (h3 : u3_0 + 4294967296 * u3_1 + 18446744073709551616 * u3_2 + 79228162514264337593543950336 * u3_3 + 340282366920938463463374607431768211456 * u3_4 + 1461501637330902918203684832716283019655932542976 * u3_5 + 6277101735386680763835789423207666416102355444464034512896 * u3_6 + 26959946667150639794667015087019630673637144422540572481103610249216 * u3_7 + 115792089237316195423570985008687907853269984665640564039457584007913129639936 * k3 = (u2_1 + 4294967296 * u2_2 + 18446744073709551616 * u2_3 + 79228162514264337593543950336 * u2_4 + 340282366920938463463374607431768211456 * u2_5 + 1461501637330902918203684832716283019655932542976 * u2_6 + 6277101735386680763835789423207666416102355444464034512896 * u2_7 + 26959946667150639794667015087019630673637144422540572481103610249216 * k2) + g3 * Y) (h4 : u4_0 + 4294967296 * u4_1 + 18446744073709551616 * u4_2 + 79228162514264337593543950336 * u4_3 + 340282366920938463463374607431768211456 * u4_4 + 1461501637330902918203684832716283019655932542976 * u4_5 + 6277101735386680763835789423207666416102355444464034512896 * u4_6 + 26959946667150639794667015087019630673637144422540572481103610249216 * u4_7 + 115792089237316195423570985008687907853269984665640564039457584007913129639936 * k4 = (u3_1 + 4294967296 * u3_2 + 18446744073709551616 * u3_3 + 79228162514264337593543950336 * u3_4 + 340282366920938463463374607431768211456 * u3_5 + 1461501637330902918203684832716283019655932542976 * u3_6 + 6277101735386680763835789423207666416102355444464034512896 * u3_7 + 26959946667150639794667015087019630673637144422540572481103610249216 * k3) + g4 * Y) (h5 : u5_0 + 4294967296 * u5_1 + 18446744073709551616 * u5_2 + 79228162514264337593543950336 * u5_3 + 340282366920938463463374607431768211456 * u5_4 + 1461501637330902918203684832716283019655932542976 * u5_5 + 6277101735386680763835789423207666416102355444464034512896 * u5_6 + 26959946667150639794667015087019630673637144422540572481103610249216 * u5_7 + 115792089237316195423570985008687907853269984665640564039457584007913129639936 * k5 = (u4_1 + 4294967296 * u4_2 + 18446744073709551616 * u4_3 + 79228162514264337593543950336 * u4_4 + 340282366920938463463374607431768211456 * u4_5 + 1461501637330902918203684832716283019655932542976 * u4_6 + 6277101735386680763835789423207666416102355444464034512896 * u4_7 + 26959946667150639794667015087019630673637144422540572481103610249216 * k4) + g5 * Y) (h6 : u6_0 + 4294967296 * u6_1 + 18446744073709551616 * u6_2 + 79228162514264337593543950336 * u6_3 + 340282366920938463463374607431768211456 * u6_4 + 1461501637330902918203684832716283019655932542976 * u6_5 + 6277101735386680763835789423207666416102355444464034512896 * u6_6 + 26959946667150639794667015087019630673637144422540572481103610249216 * u6_7 + 115792089237316195423570985008687907853269984665640564039457584007913129639936 * k6 = (u5_1 + 4294967296 * u5_2 + 18446744073709551616 * u5_3 + 79228162514264337593543950336 * u5_4 + 340282366920938463463374607431768211456 * u5_5 + 1461501637330902918203684832716283019655932542976 * u5_6 + 6277101735386680763835789423207666416102355444464034512896 * u5_7 + 26959946667150639794667015087019630673637144422540572481103610249216 * k5) + g6 * Y) (h7 : u7_0 + 4294967296 * u7_1 + 18446744073709551616 * u7_2 + 79228162514264337593543950336 * u7_3 + 340282366920938463463374607431768211456 * u7_4 + 1461501637330902918203684832716283019655932542976 * u7_5 + 6277101735386680763835789423207666416102355444464034512896 * u7_6 + 26959946667150639794667015087019630673637144422540572481103610249216 * u7_7 + 115792089237316195423570985008687907853269984665640564039457584007913129639936 * k7 = (u6_1 + 4294967296 * u6_2 + 18446744073709551616 * u6_3 + 79228162514264337593543950336 * u6_4 + 340282366920938463463374607431768211456 * u6_5 + 1461501637330902918203684832716283019655932542976 * u6_6 + 6277101735386680763835789423207666416102355444464034512896 * u6_7 + 26959946667150639794667015087019630673637144422540572481103610249216 * k6) + g7 * Y) :
    u0_0 + 4294967296 * u1_0 + 18446744073709551616 * u2_0 + 79228162514264337593543950336 * u3_0 + 340282366920938463463374607431768211456 * u4_0 + 1461501637330902918203684832716283019655932542976 * u5_0 + 6277101735386680763835789423207666416102355444464034512896 * u6_0 + 26959946667150639794667015087019630673637144422540572481103610249216 * u7_0 + 115792089237316195423570985008687907853269984665640564039457584007913129639936 * u7_1 + 497323236409786642155382248146820840100456150797347717440463976893159497012533375533056 * u7_2 + 2135987035920910082395021706169552114602704522356652769947041607822219725780640550022962086936576 * u7_3 + 9173994463960286046443283581208347763186259956673124494950355357547691504353939232280074212440502746218496 * u7_4 + 39402006196394479212279040100143613805079739270465446667948293404245721771497210611414266254884915640806627990306816 * u7_5 + 169230328010303641331690318856389386196071598838855992136870091590247882556495704531248437872567112920983350278405979725889536 * u7_6 + 726838724295606890549323807888004534353641360687318060281490199180639288113397923326191050713763565560762521606266177933534601628614656 * u7_7 + 3121748550315992231381597229793166305748598142664971150859156959625371738819765620120306103063491971159826931121406622895447975679288285306290176 * k7 = (g0 + 4294967296 * g1 + 18446744073709551616 * g2 + 79228162514264337593543950336 * g3 + 340282366920938463463374607431768211456 * g4 + 1461501637330902918203684832716283019655932542976 * g5 + 6277101735386680763835789423207666416102355444464034512896 * g6 + 26959946667150639794667015087019630673637144422540572481103610249216 * g7) * Y := by
  simp only [Int.add_mul, Int.mul_assoc]
  generalize g0 * Y = z0 at *
  generalize g1 * Y = z1 at *
  generalize g2 * Y = z2 at *
  generalize g3 * Y = z3 at *
  generalize g4 * Y = z4 at *
  generalize g5 * Y = z5 at *
  generalize g6 * Y = z6 at *
  generalize g7 * Y = z7 at *
  omega

theorem horner {P0 P1 P2 P3 P4 P5 P6 P7 P8 P9 P10 P11 P12 P13 P14 P15 H0 H1 H2 H3 H4 H5 H6 H7 H8 H9 H10 H11 H12 H13 H14 H15 L0 L1 L2 L3 L4 L5 L6 L7 L8 L9 L10 L11 L12 L13 L14 L15 : Int} (q0 : H0 * 65536 + L0 = P0) (q1 : H1 * 65536 + L1 = P1) (q2 : H2 * 65536 + L2 = P2) (q3 : H3 * 65536 + L3 = P3) (q4 : H4 * 65536 + L4 = P4) (q5 : H5 * 65536 + L5 = P5) (q6 : H6 * 65536 + L6 = P6) (q7 : H7 * 65536 + L7 = P7) (q8 : H8 * 65536 + L8 = P8) (q9 : H9 * 65536 + L9 = P9) (q10 : H10 * 65536 + L10 = P10) (q11 : H11 * 65536 + L11 = P11) (q12 : H12 * 65536 + L12 = P12) (q13 : H13 * 65536 + L13 = P13) (q14 : H14 * 65536 + L14 = P14) (q15 : H15 * 65536 + L15 = P15) :
    ((((((((((((((((((((((((((((((((0 + H15) * 65536 + L15) * 65536 + H14) * 65536 + L14) * 65536 + H13) * 65536 + L13) * 65536 + H12) * 65536 + L12) * 65536 + H11) * 65536 + L11) * 65536 + H10) * 65536 + L10) * 65536 + H9) * 65536 + L9) * 65536 + H8) * 65536 + L8) * 65536 + H7) * 65536 + L7) * 65536 + H6) * 65536 + L6) * 65536 + H5) * 65536 + L5) * 65536 + H4) * 65536 + L4) * 65536 + H3) * 65536 + L3) * 65536 + H2) * 65536 + L2) * 65536 + H1) * 65536 + L1) * 65536 + H0) * 65536 + L0) = P0 + 4294967296 * P1 + 18446744073709551616 * P2 + 79228162514264337593543950336 * P3 + 340282366920938463463374607431768211456 * P4 + 1461501637330902918203684832716283019655932542976 * P5 + 6277101735386680763835789423207666416102355444464034512896 * P6 + 26959946667150639794667015087019630673637144422540572481103610249216 * P7 + 115792089237316195423570985008687907853269984665640564039457584007913129639936 * P8 + 497323236409786642155382248146820840100456150797347717440463976893159497012533375533056 * P9 + 2135987035920910082395021706169552114602704522356652769947041607822219725780640550022962086936576 * P10 + 9173994463960286046443283581208347763186259956673124494950355357547691504353939232280074212440502746218496 * P11 + 39402006196394479212279040100143613805079739270465446667948293404245721771497210611414266254884915640806627990306816 * P12 + 169230328010303641331690318856389386196071598838855992136870091590247882556495704531248437872567112920983350278405979725889536 * P13 + 726838724295606890549323807888004534353641360687318060281490199180639288113397923326191050713763565560762521606266177933534601628614656 * P14 + 3121748550315992231381597229793166305748598142664971150859156959625371738819765620120306103063491971159826931121406622895447975679288285306290176 * P15 := by
  omega

theorem hstep {a b c d n v x y z t : Int} (hV : val4 [a, b, c, d] = n % ell) (h0 : x = w0 ((val4 [a, b, c, d] * 65536 + v) % ell)) (h1 : y = w1 ((val4 [a, b, c, d] * 65536 + v) % ell)) (h2 : z = w2 ((val4 [a, b, c, d] * 65536 + v) % ell)) (h3 : t = w3 ((val4 [a, b, c, d] * 65536 + v) % ell)) :
    val4 [x, y, z, t] = (n * 65536 + v) % ell := by
  rw [val_ell h0 h1 h2 h3, hV, Int.add_emod, mm, ← Int.add_emod]
theorem hilo {p h l : Int} (hp : 0 ≤ p ∧ p < 4294967296) (eh : h = shrI .u64 p 16) (el : l = andI .u64 p 65535) : h * 65536 + l = p ∧ h < 65536 ∧ l < 65536 := by
  rw [shr16] at eh
  rw [and16 ⟨hp.1, by omega⟩] at el
  omega
theorem hi_lt {p h : Int} (hp : 0 ≤ p ∧ p < 4294967296) (eh : h = shrI .u64 p 16) : h < 65536 := by rw [shr16] at eh; omega
theorem lo_lt {p l : Int} (hp : 0 ≤ p ∧ p < 4294967296) (el : l = andI .u64 p 65535) : l < 65536 := by
  rw [and16 ⟨hp.1, by omega⟩] at el
  omega
theorem half_lo {a x : Int} (e : x = a % 4294967296) : 0 ≤ x ∧ x < 4294967296 := by omega
theorem half_hi {a x : Int} (ha : InR .u64 a) (e : x = a / 4294967296) : 0 ≤ x ∧ x < 4294967296 := by simp only [InR] at ha; omega
theorem zero_b : (0 : Int) ≤ 0 ∧ (0 : Int) < 4294967296 := by decide
theorem need_of {p : Prop} (h : p) : Need p := h

def vc28 (a0 a1 a2 a3 : Int) (K : SV → Prop) (Q : Nat → List Pv → Prop) : Prop := fnVc Γ11 Tryd.f28 [] [.arr .u64 4 true [a0, a1, a2, a3]] gh K Q
theorem vc28_eq : ∀ (a0 a1 a2 a3 : Int) (K : SV → Prop) (Q : Nat → List Pv → Prop), vc28 a0 a1 a2 a3 K Q = ∀ (x1 : Int), x1 = w0 (sbL (0 : Int) (val4 [a0, a1, a2, a3])) → InR IntKind.u64 x1 → ∀ (x2 : Int), x2 = w1 (sbL (0 : Int) (val4 [a0, a1, a2, a3])) → InR IntKind.u64 x2 → ∀ (x3 : Int), x3 = w2 (sbL (0 : Int) (val4 [a0, a1, a2, a3])) → InR IntKind.u64 x3 → ∀ (x4 : Int), x4 = w3 (sbL (0 : Int) (val4 [a0, a1, a2, a3])) → InR IntKind.u64 x4 → K (SV.arr IntKind.u64 (4 : Nat) true [x1, x2, x3, x4]) := by
  intros
  kernel_rfl

def negS : List SV → Option (List Prop × SV)
  | [.arr .u64 4 _ aL] => some ([], .arr .u64 4 true (words4 (sbL 0 (val4 aL))))
  | _ => none

theorem neg_ok : CallOk Tryd.prog gh 28 (pureCtr negS) := by
  refine call_pure (fn := Tryd.f28) Γ11_ok rfl (by kernel_rfl) (by kernel_rfl) (by kernel_rfl) negS fun args P0 Y0 hs hp hf => ?_
  unfold negS at hs
  split at hs
  · rename_i ea aL
    simp only [Option.some.injEq, Prod.mk.injEq] at hs
    obtain ⟨rfl, rfl⟩ := hs
    simp only [FactVs, FactV] at hf
    obtain ⟨⟨hal, ha⟩, _⟩ := hf
    obtain ⟨a0, a1, a2, a3, rfl⟩ := len4 hal
    have ia0 := ha a0 (by simp); have ia1 := ha a1 (by simp); have ia2 := ha a2 (by simp); have ia3 := ha a3 (by simp)
    refine ⟨[.arr .u64 4 true [a0, a1, a2, a3]], [], _, ⟨rfl, trivial⟩, Nat.le_of_ble_eq_true (by kernel_rfl), vc_noloops ?_⟩
    show vc28 a0 a1 a2 a3 _ _
    rw [vc28_eq]
    intro x1 e1 r1 x2 e2 r2 x3 e3 r3 x4 e4 r4
    show [x1, x2, x3, x4] = words4 (sbL 0 (val4 [a0, a1, a2, a3]))
    rw [e1, e2, e3, e4]; rfl
  · cases hs

def vc35 (a0 a1 a2 a3 b0 b1 b2 b3 : Int) (K : SV → Prop) (Q : Nat → List Pv → Prop) : Prop := fnVc Γ11 Tryd.f35 [] [.arr .u64 4 true [a0, a1, a2, a3], .arr .u64 4 true [b0, b1, b2, b3]] gh K Q
theorem vc35_eq : ∀ (a0 a1 a2 a3 b0 b1 b2 b3 : Int) (K : SV → Prop) (Q : Nat → List Pv → Prop), vc35 a0 a1 a2 a3 b0 b1 b2 b3 K Q = (Need (val4 [b0, b1, b2, b3] < (7237005577332262213973186563042994240857116359379907606001950938285454250989 : Int)) ∧ ∀ (x1 : Int), x1 = w0 (sbL (0 : Int) (val4 [b0, b1, b2, b3])) → InR IntKind.u64 x1 → ∀ (x2 : Int), x2 = w1 (sbL (0 : Int) (val4 [b0, b1, b2, b3])) → InR IntKind.u64 x2 → ∀ (x3 : Int), x3 = w2 (sbL (0 : Int) (val4 [b0, b1, b2, b3])) → InR IntKind.u64 x3 → ∀ (x4 : Int), x4 = w3 (sbL (0 : Int) (val4 [b0, b1, b2, b3])) → InR IntKind.u64 x4 → Need (val4 [a0, a1, a2, a3] < (7237005577332262213973186563042994240857116359379907606001950938285454250989 : Int)) ∧ Need (val4 [x1, x2, x3, x4] < (7237005577332262213973186563042994240857116359379907606001950938285454250989 : Int)) ∧ ∀ (x5 : Int), x5 = w0 (adL (val4 [a0, a1, a2, a3]) (val4 [x1, x2, x3, x4])) → InR IntKind.u64 x5 → ∀ (x6 : Int), x6 = w1 (adL (val4 [a0, a1, a2, a3]) (val4 [x1, x2, x3, x4])) → InR IntKind.u64 x6 → ∀ (x7 : Int), x7 = w2 (adL (val4 [a0, a1, a2, a3]) (val4 [x1, x2, x3, x4])) → InR IntKind.u64 x7 → ∀ (x8 : Int), x8 = w3 (adL (val4 [a0, a1, a2, a3]) (val4 [x1, x2, x3, x4])) → InR IntKind.u64 x8 → K (SV.arr IntKind.u64 (4 : Nat) true [x5, x6, x7, x8])) := by
  intros
  kernel_rfl

def rsubS : List SV → Option (List Prop × SV)
  | [.arr .u64 4 _ aL, .arr .u64 4 _ bL] => some ([val4 aL < ell, val4 bL < ell], .arr .u64 4 true (words4 (sbL (val4 aL) (val4 bL))))
  | _ => none

theorem rsub_ok : CallOk Tryd.prog gh 35 (pureCtr rsubS) := by
  refine call_pure (fn := Tryd.f35) Γ11_ok rfl (by kernel_rfl) (by kernel_rfl) (by kernel_rfl) rsubS fun args P0 Y0 hs hp hf => ?_
  unfold rsubS at hs
  split at hs
  · rename_i ea aL eb bL
    simp only [Option.some.injEq, Prod.mk.injEq] at hs
    obtain ⟨rfl, rfl⟩ := hs
    simp only [FactVs, FactV] at hf
    obtain ⟨⟨hal, ha⟩, ⟨hbl, hb⟩, _⟩ := hf
    obtain ⟨hpa, hpb, _⟩ := hp
    obtain ⟨a0, a1, a2, a3, rfl⟩ := len4 hal
    have ia0 := ha a0 (by simp); have ia1 := ha a1 (by simp); have ia2 := ha a2 (by simp); have ia3 := ha a3 (by simp)
    obtain ⟨b0, b1, b2, b3, rfl⟩ := len4 hbl
    have ib0 := hb b0 (by simp); have ib1 := hb b1 (by simp); have ib2 := hb b2 (by simp); have ib3 := hb b3 (by simp)
    refine ⟨[.arr .u64 4 true [a0, a1, a2, a3], .arr .u64 4 true [b0, b1, b2, b3]], [], _, ⟨rfl, rfl, trivial⟩, Nat.le_of_ble_eq_true (by kernel_rfl), vc_noloops ?_⟩
    show vc35 a0 a1 a2 a3 b0 b1 b2 b3 _ _
    rw [vc35_eq]
    rw [← ell_lit]
    refine ⟨hpb, fun x1 e1 r1 x2 e2 r2 x3 e3 r3 x4 e4 r4 => ?_⟩
    have hS := val_in e1 e2 e3 e4 (sub_bd _ _).1 (lt_r (sub_bd _ _).2)
    rw [hS]
    refine ⟨hpa, (sub_bd _ _).2, fun x5 e5 r5 x6 e6 r6 x7 e7 r7 x8 e8 r8 => ?_⟩
    have hk : adL (val4 [a0, a1, a2, a3]) (sbL 0 (val4 [b0, b1, b2, b3])) = sbL (val4 [a0, a1, a2, a3]) (val4 [b0, b1, b2, b3]) := by
      unfold adL sbL
      rw [Int.add_emod_emod]
      congr 1; omega
    rw [hk] at e5 e6 e7 e8
    show [x5, x6, x7, x8] = words4 (sbL (val4 [a0, a1, a2, a3]) (val4 [b0, b1, b2, b3]))
    rw [e5, e6, e7, e8]; rfl
  · cases hs

theorem halves_val (a b c d : Int) : a % 4294967296 + 4294967296 * (a / 4294967296) + 18446744073709551616 * (b % 4294967296) + 79228162514264337593543950336 * (b / 4294967296) + 340282366920938463463374607431768211456 * (c % 4294967296) + 1461501637330902918203684832716283019655932542976 * (c / 4294967296) + 6277101735386680763835789423207666416102355444464034512896 * (d % 4294967296) + 26959946667150639794667015087019630673637144422540572481103610249216 * (d / 4294967296) = val4 [a, b, c, d] := by
  simp only [val4]
  omega

def vc38 (a0 a1 a2 a3 b0 b1 b2 b3 : Int) (K : SV → Prop) (Q : Nat → List Pv → Prop) : Prop := fnVc Γ11 Tryd.f38 [] [.arr .u64 4 true [a0, a1, a2, a3], .arr .u64 4 true [b0, b1, b2, b3]] gh K Q
set_option maxRecDepth 100000 in
theorem vc38_eq : ∀ (a0 a1 a2 a3 b0 b1 b2 b3 : Int) (K : SV → Prop) (Q : Nat → List Pv → Prop), vc38 a0 a1 a2 a3 b0 b1 b2 b3 K Q = ∀ (x1 : Int), x1 = a0 % (4294967296 : Int) → InR IntKind.u64 x1 → ∀ (x2 : Int), x2 = a0 / (4294967296 : Int) → InR IntKind.u64 x2 → ∀ (x3 : Int), x3 = a1 % (4294967296 : Int) → InR IntKind.u64 x3 → ∀ (x4 : Int), x4 = a1 / (4294967296 : Int) → InR IntKind.u64 x4 → ∀ (x5 : Int), x5 = a2 % (4294967296 : Int) → InR IntKind.u64 x5 → ∀ (x6 : Int), x6 = a2 / (4294967296 : Int) → InR IntKind.u64 x6 → ∀ (x7 : Int), x7 = a3 % (4294967296 : Int) → InR IntKind.u64 x7 → ∀ (x8 : Int), x8 = a3 / (4294967296 : Int) → InR IntKind.u64 x8 → ∀ (x9 : Int), x9 = b0 % (4294967296 : Int) → InR IntKind.u64 x9 → ∀ (x10 : Int), x10 = b0 / (4294967296 : Int) → InR IntKind.u64 x10 → ∀ (x11 : Int), x11 = b1 % (4294967296 : Int) → InR IntKind.u64 x11 → ∀ (x12 : Int), x12 = b1 / (4294967296 : Int) → InR IntKind.u64 x12 → ∀ (x13 : Int), x13 = b2 % (4294967296 : Int) → InR IntKind.u64 x13 → ∀ (x14 : Int), x14 = b2 / (4294967296 : Int) → InR IntKind.u64 x14 → ∀ (x15 : Int), x15 = b3 % (4294967296 : Int) → InR IntKind.u64 x15 → ∀ (x16 : Int), x16 = b3 / (4294967296 : Int) → InR IntKind.u64 x16 → ∀ (x17 : Int), x17 = IntKind.u64.wrap (x1 * x9) → InR IntKind.u64 x17 → ∀ (x18 : Int), x18 = IntKind.u64.wrap (x17 + (0 : Int)) → InR IntKind.u64 x18 → ∀ (x19 : Int), x19 = IntKind.u64.wrap (x18 + (0 : Int)) → InR IntKind.u64 x19 → ∀ (x20 : Int), x20 = andI IntKind.u64 x19 (4294967295 : Int) → InR IntKind.u64 x20 → ∀ (x21 : Int), x21 = shrI IntKind.u64 x19 (32 : Int) → InR IntKind.u64 x21 → ∀ (x22 : Int), x22 = IntKind.u64.wrap (x1 * x10) → InR IntKind.u64 x22 → ∀ (x23 : Int), x23 = IntKind.u64.wrap (x22 + (0 : Int)) → InR IntKind.u64 x23 → ∀ (x24 : Int), x24 = IntKind.u64.wrap (x23 + x21) → InR IntKind.u64 x24 → ∀ (x25 : Int), x25 = andI IntKind.u64 x24 (4294967295 : Int) → InR IntKind.u64 x25 → ∀ (x26 : Int), x26 = shrI IntKind.u64 x24 (32 : Int) → InR IntKind.u64 x26 → ∀ (x27 : Int), x27 = IntKind.u64.wrap (x1 * x11) → InR IntKind.u64 x27 → ∀ (x28 : Int), x28 = IntKind.u64.wrap (x27 + (0 : Int)) → InR IntKind.u64 x28 → ∀ (x29 : Int), x29 = IntKind.u64.wrap (x28 + x26) → InR IntKind.u64 x29 → ∀ (x30 : Int), x30 = andI IntKind.u64 x29 (4294967295 : Int) → InR IntKind.u64 x30 → ∀ (x31 : Int), x31 = shrI IntKind.u64 x29 (32 : Int) → InR IntKind.u64 x31 → ∀ (x32 : Int), x32 = IntKind.u64.wrap (x1 * x12) → InR IntKind.u64 x32 → ∀ (x33 : Int), x33 = IntKind.u64.wrap (x32 + (0 : Int)) → InR IntKind.u64 x33 → ∀ (x34 : Int), x34 = IntKind.u64.wrap (x33 + x31) → InR IntKind.u64 x34 → ∀ (x35 : Int), x35 = andI IntKind.u64 x34 (4294967295 : Int) → InR IntKind.u64 x35 → ∀ (x36 : Int), x36 = shrI IntKind.u64 x34 (32 : Int) → InR IntKind.u64 x36 → ∀ (x37 : Int), x37 = IntKind.u64.wrap (x1 * x13) → InR IntKind.u64 x37 → ∀ (x38 : Int), x38 = IntKind.u64.wrap (x37 + (0 : Int)) → InR IntKind.u64 x38 → ∀ (x39 : Int), x39 = IntKind.u64.wrap (x38 + x36) → InR IntKind.u64 x39 → ∀ (x40 : Int), x40 = andI IntKind.u64 x39 (4294967295 : Int) → InR IntKind.u64 x40 → ∀ (x41 : Int), x41 = shrI IntKind.u64 x39 (32 : Int) → InR IntKind.u64 x41 → ∀ (x42 : Int), x42 = IntKind.u64.wrap (x1 * x14) → InR IntKind.u64 x42 → ∀ (x43 : Int), x43 = IntKind.u64.wrap (x42 + (0 : Int)) → InR IntKind.u64 x43 → ∀ (x44 : Int), x44 = IntKind.u64.wrap (x43 + x41) → InR IntKind.u64 x44 → ∀ (x45 : Int), x45 = andI IntKind.u64 x44 (4294967295 : Int) → InR IntKind.u64 x45 → ∀ (x46 : Int), x46 = shrI IntKind.u64 x44 (32 : Int) → InR IntKind.u64 x46 → ∀ (x47 : Int), x47 = IntKind.u64.wrap (x1 * x15) → InR IntKind.u64 x47 → ∀ (x48 : Int), x48 = IntKind.u64.wrap (x47 + (0 : Int)) → InR IntKind.u64 x48 → ∀ (x49 : Int), x49 = IntKind.u64.wrap (x48 + x46) → InR IntKind.u64 x49 → ∀ (x50 : Int), x50 = andI IntKind.u64 x49 (4294967295 : Int) → InR IntKind.u64 x50 → ∀ (x51 : Int), x51 = shrI IntKind.u64 x49 (32 : Int) → InR IntKind.u64 x51 → ∀ (x52 : Int), x52 = IntKind.u64.wrap (x1 * x16) → InR IntKind.u64 x52 → ∀ (x53 : Int), x53 = IntKind.u64.wrap (x52 + (0 : Int)) → InR IntKind.u64 x53 → ∀ (x54 : Int), x54 = IntKind.u64.wrap (x53 + x51) → InR IntKind.u64 x54 → ∀ (x55 : Int), x55 = andI IntKind.u64 x54 (4294967295 : Int) → InR IntKind.u64 x55 → ∀ (x56 : Int), x56 = shrI IntKind.u64 x54 (32 : Int) → InR IntKind.u64 x56 → ∀ (x57 : Int), x57 = IntKind.u64.wrap (x2 * x9) → InR IntKind.u64 x57 → ∀ (x58 : Int), x58 = IntKind.u64.wrap (x57 + x25) → InR IntKind.u64 x58 → ∀ (x59 : Int), x59 = IntKind.u64.wrap (x58 + (0 : Int)) → InR IntKind.u64 x59 → ∀ (x60 : Int), x60 = andI IntKind.u64 x59 (4294967295 : Int) → InR IntKind.u64 x60 → ∀ (x61 : Int), x61 = shrI IntKind.u64 x59 (32 : Int) → InR IntKind.u64 x61 → ∀ (x62 : Int), x62 = IntKind.u64.wrap (x2 * x10) → InR IntKind.u64 x62 → ∀ (x63 : Int), x63 = IntKind.u64.wrap (x62 + x30) → InR IntKind.u64 x63 → ∀ (x64 : Int), x64 = IntKind.u64.wrap (x63 + x61) → InR IntKind.u64 x64 → ∀ (x65 : Int), x65 = andI IntKind.u64 x64 (4294967295 : Int) → InR IntKind.u64 x65 → ∀ (x66 : Int), x66 = shrI IntKind.u64 x64 (32 : Int) → InR IntKind.u64 x66 → ∀ (x67 : Int), x67 = IntKind.u64.wrap (x2 * x11) → InR IntKind.u64 x67 → ∀ (x68 : Int), x68 = IntKind.u64.wrap (x67 + x35) → InR IntKind.u64 x68 → ∀ (x69 : Int), x69 = IntKind.u64.wrap (x68 + x66) → InR IntKind.u64 x69 → ∀ (x70 : Int), x70 = andI IntKind.u64 x69 (4294967295 : Int) → InR IntKind.u64 x70 → ∀ (x71 : Int), x71 = shrI IntKind.u64 x69 (32 : Int) → InR IntKind.u64 x71 → ∀ (x72 : Int), x72 = IntKind.u64.wrap (x2 * x12) → InR IntKind.u64 x72 → ∀ (x73 : Int), x73 = IntKind.u64.wrap (x72 + x40) → InR IntKind.u64 x73 → ∀ (x74 : Int), x74 = IntKind.u64.wrap (x73 + x71) → InR IntKind.u64 x74 → ∀ (x75 : Int), x75 = andI IntKind.u64 x74 (4294967295 : Int) → InR IntKind.u64 x75 → ∀ (x76 : Int), x76 = shrI IntKind.u64 x74 (32 : Int) → InR IntKind.u64 x76 → ∀ (x77 : Int), x77 = IntKind.u64.wrap (x2 * x13) → InR IntKind.u64 x77 → ∀ (x78 : Int), x78 = IntKind.u64.wrap (x77 + x45) → InR IntKind.u64 x78 → ∀ (x79 : Int), x79 = IntKind.u64.wrap (x78 + x76) → InR IntKind.u64 x79 → ∀ (x80 : Int), x80 = andI IntKind.u64 x79 (4294967295 : Int) → InR IntKind.u64 x80 → ∀ (x81 : Int), x81 = shrI IntKind.u64 x79 (32 : Int) → InR IntKind.u64 x81 → ∀ (x82 : Int), x82 = IntKind.u64.wrap (x2 * x14) → InR IntKind.u64 x82 → ∀ (x83 : Int), x83 = IntKind.u64.wrap (x82 + x50) → InR IntKind.u64 x83 → ∀ (x84 : Int), x84 = IntKind.u64.wrap (x83 + x81) → InR IntKind.u64 x84 → ∀ (x85 : Int), x85 = andI IntKind.u64 x84 (4294967295 : Int) → InR IntKind.u64 x85 → ∀ (x86 : Int), x86 = shrI IntKind.u64 x84 (32 : Int) → InR IntKind.u64 x86 → ∀ (x87 : Int), x87 = IntKind.u64.wrap (x2 * x15) → InR IntKind.u64 x87 → ∀ (x88 : Int), x88 = IntKind.u64.wrap (x87 + x55) → InR IntKind.u64 x88 → ∀ (x89 : Int), x89 = IntKind.u64.wrap (x88 + x86) → InR IntKind.u64 x89 → ∀ (x90 : Int), x90 = andI IntKind.u64 x89 (4294967295 : Int) → InR IntKind.u64 x90 → ∀ (x91 : Int), x91 = shrI IntKind.u64 x89 (32 : Int) → InR IntKind.u64 x91 → ∀ (x92 : Int), x92 = IntKind.u64.wrap (x2 * x16) → InR IntKind.u64 x92 → ∀ (x93 : Int), x93 = IntKind.u64.wrap (x92 + x56) → InR IntKind.u64 x93 → ∀ (x94 : Int), x94 = IntKind.u64.wrap (x93 + x91) → InR IntKind.u64 x94 → ∀ (x95 : Int), x95 = andI IntKind.u64 x94 (4294967295 : Int) → InR IntKind.u64 x95 → ∀ (x96 : Int), x96 = shrI IntKind.u64 x94 (32 : Int) → InR IntKind.u64 x96 → ∀ (x97 : Int), x97 = IntKind.u64.wrap (x3 * x9) → InR IntKind.u64 x97 → ∀ (x98 : Int), x98 = IntKind.u64.wrap (x97 + x65) → InR IntKind.u64 x98 → ∀ (x99 : Int), x99 = IntKind.u64.wrap (x98 + (0 : Int)) → InR IntKind.u64 x99 → ∀ (x100 : Int), x100 = andI IntKind.u64 x99 (4294967295 : Int) → InR IntKind.u64 x100 → ∀ (x101 : Int), x101 = shrI IntKind.u64 x99 (32 : Int) → InR IntKind.u64 x101 → ∀ (x102 : Int), x102 = IntKind.u64.wrap (x3 * x10) → InR IntKind.u64 x102 → ∀ (x103 : Int), x103 = IntKind.u64.wrap (x102 + x70) → InR IntKind.u64 x103 → ∀ (x104 : Int), x104 = IntKind.u64.wrap (x103 + x101) → InR IntKind.u64 x104 → ∀ (x105 : Int), x105 = andI IntKind.u64 x104 (4294967295 : Int) → InR IntKind.u64 x105 → ∀ (x106 : Int), x106 = shrI IntKind.u64 x104 (32 : Int) → InR IntKind.u64 x106 → ∀ (x107 : Int), x107 = IntKind.u64.wrap (x3 * x11) → InR IntKind.u64 x107 → ∀ (x108 : Int), x108 = IntKind.u64.wrap (x107 + x75) → InR IntKind.u64 x108 → ∀ (x109 : Int), x109 = IntKind.u64.wrap (x108 + x106) → InR IntKind.u64 x109 → ∀ (x110 : Int), x110 = andI IntKind.u64 x109 (4294967295 : Int) → InR IntKind.u64 x110 → ∀ (x111 : Int), x111 = shrI IntKind.u64 x109 (32 : Int) → InR IntKind.u64 x111 → ∀ (x112 : Int), x112 = IntKind.u64.wrap (x3 * x12) → InR IntKind.u64 x112 → ∀ (x113 : Int), x113 = IntKind.u64.wrap (x112 + x80) → InR IntKind.u64 x113 → ∀ (x114 : Int), x114 = IntKind.u64.wrap (x113 + x111) → InR IntKind.u64 x114 → ∀ (x115 : Int), x115 = andI IntKind.u64 x114 (4294967295 : Int) → InR IntKind.u64 x115 → ∀ (x116 : Int), x116 = shrI IntKind.u64 x114 (32 : Int) → InR IntKind.u64 x116 → ∀ (x117 : Int), x117 = IntKind.u64.wrap (x3 * x13) → InR IntKind.u64 x117 → ∀ (x118 : Int), x118 = IntKind.u64.wrap (x117 + x85) → InR IntKind.u64 x118 → ∀ (x119 : Int), x119 = IntKind.u64.wrap (x118 + x116) → InR IntKind.u64 x119 → ∀ (x120 : Int), x120 = andI IntKind.u64 x119 (4294967295 : Int) → InR IntKind.u64 x120 → ∀ (x121 : Int), x121 = shrI IntKind.u64 x119 (32 : Int) → InR IntKind.u64 x121 → ∀ (x122 : Int), x122 = IntKind.u64.wrap (x3 * x14) → InR IntKind.u64 x122 → ∀ (x123 : Int), x123 = IntKind.u64.wrap (x122 + x90) → InR IntKind.u64 x123 → ∀ (x124 : Int), x124 = IntKind.u64.wrap (x123 + x121) → InR IntKind.u64 x124 → ∀ (x125 : Int), x125 = andI IntKind.u64 x124 (4294967295 : Int) → InR IntKind.u64 x125 → ∀ (x126 : Int), x126 = shrI IntKind.u64 x124 (32 : Int) → InR IntKind.u64 x126 → ∀ (x127 : Int), x127 = IntKind.u64.wrap (x3 * x15) → InR IntKind.u64 x127 → ∀ (x128 : Int), x128 = IntKind.u64.wrap (x127 + x95) → InR IntKind.u64 x128 → ∀ (x129 : Int), x129 = IntKind.u64.wrap (x128 + x126) → InR IntKind.u64 x129 → ∀ (x130 : Int), x130 = andI IntKind.u64 x129 (4294967295 : Int) → InR IntKind.u64 x130 → ∀ (x131 : Int), x131 = shrI IntKind.u64 x129 (32 : Int) → InR IntKind.u64 x131 → ∀ (x132 : Int), x132 = IntKind.u64.wrap (x3 * x16) → InR IntKind.u64 x132 → ∀ (x133 : Int), x133 = IntKind.u64.wrap (x132 + x96) → InR IntKind.u64 x133 → ∀ (x134 : Int), x134 = IntKind.u64.wrap (x133 + x131) → InR IntKind.u64 x134 → ∀ (x135 : Int), x135 = andI IntKind.u64 x134 (4294967295 : Int) → InR IntKind.u64 x135 → ∀ (x136 : Int), x136 = shrI IntKind.u64 x134 (32 : Int) → InR IntKind.u64 x136 → ∀ (x137 : Int), x137 = IntKind.u64.wrap (x4 * x9) → InR IntKind.u64 x137 → ∀ (x138 : Int), x138 = IntKind.u64.wrap (x137 + x105) → InR IntKind.u64 x138 → ∀ (x139 : Int), x139 = IntKind.u64.wrap (x138 + (0 : Int)) → InR IntKind.u64 x139 → ∀ (x140 : Int), x140 = andI IntKind.u64 x139 (4294967295 : Int) → InR IntKind.u64 x140 → ∀ (x141 : Int), x141 = shrI IntKind.u64 x139 (32 : Int) → InR IntKind.u64 x141 → ∀ (x142 : Int), x142 = IntKind.u64.wrap (x4 * x10) → InR IntKind.u64 x142 → ∀ (x143 : Int), x143 = IntKind.u64.wrap (x142 + x110) → InR IntKind.u64 x143 → ∀ (x144 : Int), x144 = IntKind.u64.wrap (x143 + x141) → InR IntKind.u64 x144 → ∀ (x145 : Int), x145 = andI IntKind.u64 x144 (4294967295 : Int) → InR IntKind.u64 x145 → ∀ (x146 : Int), x146 = shrI IntKind.u64 x144 (32 : Int) → InR IntKind.u64 x146 → ∀ (x147 : Int), x147 = IntKind.u64.wrap (x4 * x11) → InR IntKind.u64 x147 → ∀ (x148 : Int), x148 = IntKind.u64.wrap (x147 + x115) → InR IntKind.u64 x148 → ∀ (x149 : Int), x149 = IntKind.u64.wrap (x148 + x146) → InR IntKind.u64 x149 → ∀ (x150 : Int), x150 = andI IntKind.u64 x149 (4294967295 : Int) → InR IntKind.u64 x150 → ∀ (x151 : Int), x151 = shrI IntKind.u64 x149 (32 : Int) → InR IntKind.u64 x151 → ∀ (x152 : Int), x152 = IntKind.u64.wrap (x4 * x12) → InR IntKind.u64 x152 → ∀ (x153 : Int), x153 = IntKind.u64.wrap (x152 + x120) → InR IntKind.u64 x153 → ∀ (x154 : Int), x154 = IntKind.u64.wrap (x153 + x151) → InR IntKind.u64 x154 → ∀ (x155 : Int), x155 = andI IntKind.u64 x154 (4294967295 : Int) → InR IntKind.u64 x155 → ∀ (x156 : Int), x156 = shrI IntKind.u64 x154 (32 : Int) → InR IntKind.u64 x156 → ∀ (x157 : Int), x157 = IntKind.u64.wrap (x4 * x13) → InR IntKind.u64 x157 → ∀ (x158 : Int), x158 = IntKind.u64.wrap (x157 + x125) → InR IntKind.u64 x158 → ∀ (x159 : Int), x159 = IntKind.u64.wrap (x158 + x156) → InR IntKind.u64 x159 → ∀ (x160 : Int), x160 = andI IntKind.u64 x159 (4294967295 : Int) → InR IntKind.u64 x160 → ∀ (x161 : Int), x161 = shrI IntKind.u64 x159 (32 : Int) → InR IntKind.u64 x161 → ∀ (x162 : Int), x162 = IntKind.u64.wrap (x4 * x14) → InR IntKind.u64 x162 → ∀ (x163 : Int), x163 = IntKind.u64.wrap (x162 + x130) → InR IntKind.u64 x163 → ∀ (x164 : Int), x164 = IntKind.u64.wrap (x163 + x161) → InR IntKind.u64 x164 → ∀ (x165 : Int), x165 = andI IntKind.u64 x164 (4294967295 : Int) → InR IntKind.u64 x165 → ∀ (x166 : Int), x166 = shrI IntKind.u64 x164 (32 : Int) → InR IntKind.u64 x166 → ∀ (x167 : Int), x167 = IntKind.u64.wrap (x4 * x15) → InR IntKind.u64 x167 → ∀ (x168 : Int), x168 = IntKind.u64.wrap (x167 + x135) → InR IntKind.u64 x168 → ∀ (x169 : Int), x169 = IntKind.u64.wrap (x168 + x166) → InR IntKind.u64 x169 → ∀ (x170 : Int), x170 = andI IntKind.u64 x169 (4294967295 : Int) → InR IntKind.u64 x170 → ∀ (x171 : Int), x171 = shrI IntKind.u64 x169 (32 : Int) → InR IntKind.u64 x171 → ∀ (x172 : Int), x172 = IntKind.u64.wrap (x4 * x16) → InR IntKind.u64 x172 → ∀ (x173 : Int), x173 = IntKind.u64.wrap (x172 + x136) → InR IntKind.u64 x173 → ∀ (x174 : Int), x174 = IntKind.u64.wrap (x173 + x171) → InR IntKind.u64 x174 → ∀ (x175 : Int), x175 = andI IntKind.u64 x174 (4294967295 : Int) → InR IntKind.u64 x175 → ∀ (x176 : Int), x176 = shrI IntKind.u64 x174 (32 : Int) → InR IntKind.u64 x176 → ∀ (x177 : Int), x177 = IntKind.u64.wrap (x5 * x9) → InR IntKind.u64 x177 → ∀ (x178 : Int), x178 = IntKind.u64.wrap (x177 + x145) → InR IntKind.u64 x178 → ∀ (x179 : Int), x179 = IntKind.u64.wrap (x178 + (0 : Int)) → InR IntKind.u64 x179 → ∀ (x180 : Int), x180 = andI IntKind.u64 x179 (4294967295 : Int) → InR IntKind.u64 x180 → ∀ (x181 : Int), x181 = shrI IntKind.u64 x179 (32 : Int) → InR IntKind.u64 x181 → ∀ (x182 : Int), x182 = IntKind.u64.wrap (x5 * x10) → InR IntKind.u64 x182 → ∀ (x183 : Int), x183 = IntKind.u64.wrap (x182 + x150) → InR IntKind.u64 x183 → ∀ (x184 : Int), x184 = IntKind.u64.wrap (x183 + x181) → InR IntKind.u64 x184 → ∀ (x185 : Int), x185 = andI IntKind.u64 x184 (4294967295 : Int) → InR IntKind.u64 x185 → ∀ (x186 : Int), x186 = shrI IntKind.u64 x184 (32 : Int) → InR IntKind.u64 x186 → ∀ (x187 : Int), x187 = IntKind.u64.wrap (x5 * x11) → InR IntKind.u64 x187 → ∀ (x188 : Int), x188 = IntKind.u64.wrap (x187 + x155) → InR IntKind.u64 x188 → ∀ (x189 : Int), x189 = IntKind.u64.wrap (x188 + x186) → InR IntKind.u64 x189 → ∀ (x190 : Int), x190 = andI IntKind.u64 x189 (4294967295 : Int) → InR IntKind.u64 x190 → ∀ (x191 : Int), x191 = shrI IntKind.u64 x189 (32 : Int) → InR IntKind.u64 x191 → ∀ (x192 : Int), x192 = IntKind.u64.wrap (x5 * x12) → InR IntKind.u64 x192 → ∀ (x193 : Int), x193 = IntKind.u64.wrap (x192 + x160) → InR IntKind.u64 x193 → ∀ (x194 : Int), x194 = IntKind.u64.wrap (x193 + x191) → InR IntKind.u64 x194 → ∀ (x195 : Int), x195 = andI IntKind.u64 x194 (4294967295 : Int) → InR IntKind.u64 x195 → ∀ (x196 : Int), x196 = shrI IntKind.u64 x194 (32 : Int) → InR IntKind.u64 x196 → ∀ (x197 : Int), x197 = IntKind.u64.wrap (x5 * x13) → InR IntKind.u64 x197 → ∀ (x198 : Int), x198 = IntKind.u64.wrap (x197 + x165) → InR IntKind.u64 x198 → ∀ (x199 : Int), x199 = IntKind.u64.wrap (x198 + x196) → InR IntKind.u64 x199 → ∀ (x200 : Int), x200 = andI IntKind.u64 x199 (4294967295 : Int) → InR IntKind.u64 x200 → ∀ (x201 : Int), x201 = shrI IntKind.u64 x199 (32 : Int) → InR IntKind.u64 x201 → ∀ (x202 : Int), x202 = IntKind.u64.wrap (x5 * x14) → InR IntKind.u64 x202 → ∀ (x203 : Int), x203 = IntKind.u64.wrap (x202 + x170) → InR IntKind.u64 x203 → ∀ (x204 : Int), x204 = IntKind.u64.wrap (x203 + x201) → InR IntKind.u64 x204 → ∀ (x205 : Int), x205 = andI IntKind.u64 x204 (4294967295 : Int) → InR IntKind.u64 x205 → ∀ (x206 : Int), x206 = shrI IntKind.u64 x204 (32 : Int) → InR IntKind.u64 x206 → ∀ (x207 : Int), x207 = IntKind.u64.wrap (x5 * x15) → InR IntKind.u64 x207 → ∀ (x208 : Int), x208 = IntKind.u64.wrap (x207 + x175) → InR IntKind.u64 x208 → ∀ (x209 : Int), x209 = IntKind.u64.wrap (x208 + x206) → InR IntKind.u64 x209 → ∀ (x210 : Int), x210 = andI IntKind.u64 x209 (4294967295 : Int) → InR IntKind.u64 x210 → ∀ (x211 : Int), x211 = shrI IntKind.u64 x209 (32 : Int) → InR IntKind.u64 x211 → ∀ (x212 : Int), x212 = IntKind.u64.wrap (x5 * x16) → InR IntKind.u64 x212 → ∀ (x213 : Int), x213 = IntKind.u64.wrap (x212 + x176) → InR IntKind.u64 x213 → ∀ (x214 : Int), x214 = IntKind.u64.wrap (x213 + x211) → InR IntKind.u64 x214 → ∀ (x215 : Int), x215 = andI IntKind.u64 x214 (4294967295 : Int) → InR IntKind.u64 x215 → ∀ (x216 : Int), x216 = shrI IntKind.u64 x214 (32 : Int) → InR IntKind.u64 x216 → ∀ (x217 : Int), x217 = IntKind.u64.wrap (x6 * x9) → InR IntKind.u64 x217 → ∀ (x218 : Int), x218 = IntKind.u64.wrap (x217 + x185) → InR IntKind.u64 x218 → ∀ (x219 : Int), x219 = IntKind.u64.wrap (x218 + (0 : Int)) → InR IntKind.u64 x219 → ∀ (x220 : Int), x220 = andI IntKind.u64 x219 (4294967295 : Int) → InR IntKind.u64 x220 → ∀ (x221 : Int), x221 = shrI IntKind.u64 x219 (32 : Int) → InR IntKind.u64 x221 → ∀ (x222 : Int), x222 = IntKind.u64.wrap (x6 * x10) → InR IntKind.u64 x222 → ∀ (x223 : Int), x223 = IntKind.u64.wrap (x222 + x190) → InR IntKind.u64 x223 → ∀ (x224 : Int), x224 = IntKind.u64.wrap (x223 + x221) → InR IntKind.u64 x224 → ∀ (x225 : Int), x225 = andI IntKind.u64 x224 (4294967295 : Int) → InR IntKind.u64 x225 → ∀ (x226 : Int), x226 = shrI IntKind.u64 x224 (32 : Int) → InR IntKind.u64 x226 → ∀ (x227 : Int), x227 = IntKind.u64.wrap (x6 * x11) → InR IntKind.u64 x227 → ∀ (x228 : Int), x228 = IntKind.u64.wrap (x227 + x195) → InR IntKind.u64 x228 → ∀ (x229 : Int), x229 = IntKind.u64.wrap (x228 + x226) → InR IntKind.u64 x229 → ∀ (x230 : Int), x230 = andI IntKind.u64 x229 (4294967295 : Int) → InR IntKind.u64 x230 → ∀ (x231 : Int), x231 = shrI IntKind.u64 x229 (32 : Int) → InR IntKind.u64 x231 → ∀ (x232 : Int), x232 = IntKind.u64.wrap (x6 * x12) → InR IntKind.u64 x232 → ∀ (x233 : Int), x233 = IntKind.u64.wrap (x232 + x200) → InR IntKind.u64 x233 → ∀ (x234 : Int), x234 = IntKind.u64.wrap (x233 + x231) → InR IntKind.u64 x234 → ∀ (x235 : Int), x235 = andI IntKind.u64 x234 (4294967295 : Int) → InR IntKind.u64 x235 → ∀ (x236 : Int), x236 = shrI IntKind.u64 x234 (32 : Int) → InR IntKind.u64 x236 → ∀ (x237 : Int), x237 = IntKind.u64.wrap (x6 * x13) → InR IntKind.u64 x237 → ∀ (x238 : Int), x238 = IntKind.u64.wrap (x237 + x205) → InR IntKind.u64 x238 → ∀ (x239 : Int), x239 = IntKind.u64.wrap (x238 + x236) → InR IntKind.u64 x239 → ∀ (x240 : Int), x240 = andI IntKind.u64 x239 (4294967295 : Int) → InR IntKind.u64 x240 → ∀ (x241 : Int), x241 = shrI IntKind.u64 x239 (32 : Int) → InR IntKind.u64 x241 → ∀ (x242 : Int), x242 = IntKind.u64.wrap (x6 * x14) → InR IntKind.u64 x242 → ∀ (x243 : Int), x243 = IntKind.u64.wrap (x242 + x210) → InR IntKind.u64 x243 → ∀ (x244 : Int), x244 = IntKind.u64.wrap (x243 + x241) → InR IntKind.u64 x244 → ∀ (x245 : Int), x245 = andI IntKind.u64 x244 (4294967295 : Int) → InR IntKind.u64 x245 → ∀ (x246 : Int), x246 = shrI IntKind.u64 x244 (32 : Int) → InR IntKind.u64 x246 → ∀ (x247 : Int), x247 = IntKind.u64.wrap (x6 * x15) → InR IntKind.u64 x247 → ∀ (x248 : Int), x248 = IntKind.u64.wrap (x247 + x215) → InR IntKind.u64 x248 → ∀ (x249 : Int), x249 = IntKind.u64.wrap (x248 + x246) → InR IntKind.u64 x249 → ∀ (x250 : Int), x250 = andI IntKind.u64 x249 (4294967295 : Int) → InR IntKind.u64 x250 → ∀ (x251 : Int), x251 = shrI IntKind.u64 x249 (32 : Int) → InR IntKind.u64 x251 → ∀ (x252 : Int), x252 = IntKind.u64.wrap (x6 * x16) → InR IntKind.u64 x252 → ∀ (x253 : Int), x253 = IntKind.u64.wrap (x252 + x216) → InR IntKind.u64 x253 → ∀ (x254 : Int), x254 = IntKind.u64.wrap (x253 + x251) → InR IntKind.u64 x254 → ∀ (x255 : Int), x255 = andI IntKind.u64 x254 (4294967295 : Int) → InR IntKind.u64 x255 → ∀ (x256 : Int), x256 = shrI IntKind.u64 x254 (32 : Int) → InR IntKind.u64 x256 → ∀ (x257 : Int), x257 = IntKind.u64.wrap (x7 * x9) → InR IntKind.u64 x257 → ∀ (x258 : Int), x258 = IntKind.u64.wrap (x257 + x225) → InR IntKind.u64 x258 → ∀ (x259 : Int), x259 = IntKind.u64.wrap (x258 + (0 : Int)) → InR IntKind.u64 x259 → ∀ (x260 : Int), x260 = andI IntKind.u64 x259 (4294967295 : Int) → InR IntKind.u64 x260 → ∀ (x261 : Int), x261 = shrI IntKind.u64 x259 (32 : Int) → InR IntKind.u64 x261 → ∀ (x262 : Int), x262 = IntKind.u64.wrap (x7 * x10) → InR IntKind.u64 x262 → ∀ (x263 : Int), x263 = IntKind.u64.wrap (x262 + x230) → InR IntKind.u64 x263 → ∀ (x264 : Int), x264 = IntKind.u64.wrap (x263 + x261) → InR IntKind.u64 x264 → ∀ (x265 : Int), x265 = andI IntKind.u64 x264 (4294967295 : Int) → InR IntKind.u64 x265 → ∀ (x266 : Int), x266 = shrI IntKind.u64 x264 (32 : Int) → InR IntKind.u64 x266 → ∀ (x267 : Int), x267 = IntKind.u64.wrap (x7 * x11) → InR IntKind.u64 x267 → ∀ (x268 : Int), x268 = IntKind.u64.wrap (x267 + x235) → InR IntKind.u64 x268 → ∀ (x269 : Int), x269 = IntKind.u64.wrap (x268 + x266) → InR IntKind.u64 x269 → ∀ (x270 : Int), x270 = andI IntKind.u64 x269 (4294967295 : Int) → InR IntKind.u64 x270 → ∀ (x271 : Int), x271 = shrI IntKind.u64 x269 (32 : Int) → InR IntKind.u64 x271 → ∀ (x272 : Int), x272 = IntKind.u64.wrap (x7 * x12) → InR IntKind.u64 x272 → ∀ (x273 : Int), x273 = IntKind.u64.wrap (x272 + x240) → InR IntKind.u64 x273 → ∀ (x274 : Int), x274 = IntKind.u64.wrap (x273 + x271) → InR IntKind.u64 x274 → ∀ (x275 : Int), x275 = andI IntKind.u64 x274 (4294967295 : Int) → InR IntKind.u64 x275 → ∀ (x276 : Int), x276 = shrI IntKind.u64 x274 (32 : Int) → InR IntKind.u64 x276 → ∀ (x277 : Int), x277 = IntKind.u64.wrap (x7 * x13) → InR IntKind.u64 x277 → ∀ (x278 : Int), x278 = IntKind.u64.wrap (x277 + x245) → InR IntKind.u64 x278 → ∀ (x279 : Int), x279 = IntKind.u64.wrap (x278 + x276) → InR IntKind.u64 x279 → ∀ (x280 : Int), x280 = andI IntKind.u64 x279 (4294967295 : Int) → InR IntKind.u64 x280 → ∀ (x281 : Int), x281 = shrI IntKind.u64 x279 (32 : Int) → InR IntKind.u64 x281 → ∀ (x282 : Int), x282 = IntKind.u64.wrap (x7 * x14) → InR IntKind.u64 x282 → ∀ (x283 : Int), x283 = IntKind.u64.wrap (x282 + x250) → InR IntKind.u64 x283 → ∀ (x284 : Int), x284 = IntKind.u64.wrap (x283 + x281) → InR IntKind.u64 x284 → ∀ (x285 : Int), x285 = andI IntKind.u64 x284 (4294967295 : Int) → InR IntKind.u64 x285 → ∀ (x286 : Int), x286 = shrI IntKind.u64 x284 (32 : Int) → InR IntKind.u64 x286 → ∀ (x287 : Int), x287 = IntKind.u64.wrap (x7 * x15) → InR IntKind.u64 x287 → ∀ (x288 : Int), x288 = IntKind.u64.wrap (x287 + x255) → InR IntKind.u64 x288 → ∀ (x289 : Int), x289 = IntKind.u64.wrap (x288 + x286) → InR IntKind.u64 x289 → ∀ (x290 : Int), x290 = andI IntKind.u64 x289 (4294967295 : Int) → InR IntKind.u64 x290 → ∀ (x291 : Int), x291 = shrI IntKind.u64 x289 (32 : Int) → InR IntKind.u64 x291 → ∀ (x292 : Int), x292 = IntKind.u64.wrap (x7 * x16) → InR IntKind.u64 x292 → ∀ (x293 : Int), x293 = IntKind.u64.wrap (x292 + x256) → InR IntKind.u64 x293 → ∀ (x294 : Int), x294 = IntKind.u64.wrap (x293 + x291) → InR IntKind.u64 x294 → ∀ (x295 : Int), x295 = andI IntKind.u64 x294 (4294967295 : Int) → InR IntKind.u64 x295 → ∀ (x296 : Int), x296 = shrI IntKind.u64 x294 (32 : Int) → InR IntKind.u64 x296 → ∀ (x297 : Int), x297 = IntKind.u64.wrap (x8 * x9) → InR IntKind.u64 x297 → ∀ (x298 : Int), x298 = IntKind.u64.wrap (x297 + x265) → InR IntKind.u64 x298 → ∀ (x299 : Int), x299 = IntKind.u64.wrap (x298 + (0 : Int)) → InR IntKind.u64 x299 → ∀ (x300 : Int), x300 = andI IntKind.u64 x299 (4294967295 : Int) → InR IntKind.u64 x300 → ∀ (x301 : Int), x301 = shrI IntKind.u64 x299 (32 : Int) → InR IntKind.u64 x301 → ∀ (x302 : Int), x302 = IntKind.u64.wrap (x8 * x10) → InR IntKind.u64 x302 → ∀ (x303 : Int), x303 = IntKind.u64.wrap (x302 + x270) → InR IntKind.u64 x303 → ∀ (x304 : Int), x304 = IntKind.u64.wrap (x303 + x301) → InR IntKind.u64 x304 → ∀ (x305 : Int), x305 = andI IntKind.u64 x304 (4294967295 : Int) → InR IntKind.u64 x305 → ∀ (x306 : Int), x306 = shrI IntKind.u64 x304 (32 : Int) → InR IntKind.u64 x306 → ∀ (x307 : Int), x307 = IntKind.u64.wrap (x8 * x11) → InR IntKind.u64 x307 → ∀ (x308 : Int), x308 = IntKind.u64.wrap (x307 + x275) → InR IntKind.u64 x308 → ∀ (x309 : Int), x309 = IntKind.u64.wrap (x308 + x306) → InR IntKind.u64 x309 → ∀ (x310 : Int), x310 = andI IntKind.u64 x309 (4294967295 : Int) → InR IntKind.u64 x310 → ∀ (x311 : Int), x311 = shrI IntKind.u64 x309 (32 : Int) → InR IntKind.u64 x311 → ∀ (x312 : Int), x312 = IntKind.u64.wrap (x8 * x12) → InR IntKind.u64 x312 → ∀ (x313 : Int), x313 = IntKind.u64.wrap (x312 + x280) → InR IntKind.u64 x313 → ∀ (x314 : Int), x314 = IntKind.u64.wrap (x313 + x311) → InR IntKind.u64 x314 → ∀ (x315 : Int), x315 = andI IntKind.u64 x314 (4294967295 : Int) → InR IntKind.u64 x315 → ∀ (x316 : Int), x316 = shrI IntKind.u64 x314 (32 : Int) → InR IntKind.u64 x316 → ∀ (x317 : Int), x317 = IntKind.u64.wrap (x8 * x13) → InR IntKind.u64 x317 → ∀ (x318 : Int), x318 = IntKind.u64.wrap (x317 + x285) → InR IntKind.u64 x318 → ∀ (x319 : Int), x319 = IntKind.u64.wrap (x318 + x316) → InR IntKind.u64 x319 → ∀ (x320 : Int), x320 = andI IntKind.u64 x319 (4294967295 : Int) → InR IntKind.u64 x320 → ∀ (x321 : Int), x321 = shrI IntKind.u64 x319 (32 : Int) → InR IntKind.u64 x321 → ∀ (x322 : Int), x322 = IntKind.u64.wrap (x8 * x14) → InR IntKind.u64 x322 → ∀ (x323 : Int), x323 = IntKind.u64.wrap (x322 + x290) → InR IntKind.u64 x323 → ∀ (x324 : Int), x324 = IntKind.u64.wrap (x323 + x321) → InR IntKind.u64 x324 → ∀ (x325 : Int), x325 = andI IntKind.u64 x324 (4294967295 : Int) → InR IntKind.u64 x325 → ∀ (x326 : Int), x326 = shrI IntKind.u64 x324 (32 : Int) → InR IntKind.u64 x326 → ∀ (x327 : Int), x327 = IntKind.u64.wrap (x8 * x15) → InR IntKind.u64 x327 → ∀ (x328 : Int), x328 = IntKind.u64.wrap (x327 + x295) → InR IntKind.u64 x328 → ∀ (x329 : Int), x329 = IntKind.u64.wrap (x328 + x326) → InR IntKind.u64 x329 → ∀ (x330 : Int), x330 = andI IntKind.u64 x329 (4294967295 : Int) → InR IntKind.u64 x330 → ∀ (x331 : Int), x331 = shrI IntKind.u64 x329 (32 : Int) → InR IntKind.u64 x331 → ∀ (x332 : Int), x332 = IntKind.u64.wrap (x8 * x16) → InR IntKind.u64 x332 → ∀ (x333 : Int), x333 = IntKind.u64.wrap (x332 + x296) → InR IntKind.u64 x333 → ∀ (x334 : Int), x334 = IntKind.u64.wrap (x333 + x331) → InR IntKind.u64 x334 → ∀ (x335 : Int), x335 = andI IntKind.u64 x334 (4294967295 : Int) → InR IntKind.u64 x335 → ∀ (x336 : Int), x336 = shrI IntKind.u64 x334 (32 : Int) → InR IntKind.u64 x336 → ∀ (x337 : Int), x337 = shrI IntKind.u64 x336 (16 : Int) → InR IntKind.u64 x337 → Need ((0 : Int) < (7237005577332262213973186563042994240857116359379907606001950938285454250989 : Int)) ∧ Need (x337 < (65536 : Int)) ∧ ∀ (x338 : Int), x338 = w0 (((0 : Int) + x337) % (7237005577332262213973186563042994240857116359379907606001950938285454250989 : Int)) → InR IntKind.u64 x338 → ∀ (x339 : Int), x339 = w1 (((0 : Int) + x337) % (7237005577332262213973186563042994240857116359379907606001950938285454250989 : Int)) → InR IntKind.u64 x339 → ∀ (x340 : Int), x340 = w2 (((0 : Int) + x337) % (7237005577332262213973186563042994240857116359379907606001950938285454250989 : Int)) → InR IntKind.u64 x340 → ∀ (x341 : Int), x341 = w3 (((0 : Int) + x337) % (7237005577332262213973186563042994240857116359379907606001950938285454250989 : Int)) → InR IntKind.u64 x341 → ∀ (x342 : Int), x342 = andI IntKind.u64 x336 (65535 : Int) → InR IntKind.u64 x342 → Need (val4 [x338, x339, x340, x341] < (7237005577332262213973186563042994240857116359379907606001950938285454250989 : Int)) ∧ Need (x342 < (65536 : Int)) ∧ ∀ (x343 : Int), x343 = w0 ((val4 [x338, x339, x340, x341] * (65536 : Int) + x342) % (7237005577332262213973186563042994240857116359379907606001950938285454250989 : Int)) → InR IntKind.u64 x343 → ∀ (x344 : Int), x344 = w1 ((val4 [x338, x339, x340, x341] * (65536 : Int) + x342) % (7237005577332262213973186563042994240857116359379907606001950938285454250989 : Int)) → InR IntKind.u64 x344 → ∀ (x345 : Int), x345 = w2 ((val4 [x338, x339, x340, x341] * (65536 : Int) + x342) % (7237005577332262213973186563042994240857116359379907606001950938285454250989 : Int)) → InR IntKind.u64 x345 → ∀ (x346 : Int), x346 = w3 ((val4 [x338, x339, x340, x341] * (65536 : Int) + x342) % (7237005577332262213973186563042994240857116359379907606001950938285454250989 : Int)) → InR IntKind.u64 x346 → ∀ (x347 : Int), x347 = shrI IntKind.u64 x335 (16 : Int) → InR IntKind.u64 x347 → Need (val4 [x343, x344, x345, x346] < (7237005577332262213973186563042994240857116359379907606001950938285454250989 : Int)) ∧ Need (x347 < (65536 : Int)) ∧ ∀ (x348 : Int), x348 = w0 ((val4 [x343, x344, x345, x346] * (65536 : Int) + x347) % (7237005577332262213973186563042994240857116359379907606001950938285454250989 : Int)) → InR IntKind.u64 x348 → ∀ (x349 : Int), x349 = w1 ((val4 [x343, x344, x345, x346] * (65536 : Int) + x347) % (7237005577332262213973186563042994240857116359379907606001950938285454250989 : Int)) → InR IntKind.u64 x349 → ∀ (x350 : Int), x350 = w2 ((val4 [x343, x344, x345, x346] * (65536 : Int) + x347) % (7237005577332262213973186563042994240857116359379907606001950938285454250989 : Int)) → InR IntKind.u64 x350 → ∀ (x351 : Int), x351 = w3 ((val4 [x343, x344, x345, x346] * (65536 : Int) + x347) % (7237005577332262213973186563042994240857116359379907606001950938285454250989 : Int)) → InR IntKind.u64 x351 → ∀ (x352 : Int), x352 = andI IntKind.u64 x335 (65535 : Int) → InR IntKind.u64 x352 → Need (val4 [x348, x349, x350, x351] < (7237005577332262213973186563042994240857116359379907606001950938285454250989 : Int)) ∧ Need (x352 < (65536 : Int)) ∧ ∀ (x353 : Int), x353 = w0 ((val4 [x348, x349, x350, x351] * (65536 : Int) + x352) % (7237005577332262213973186563042994240857116359379907606001950938285454250989 : Int)) → InR IntKind.u64 x353 → ∀ (x354 : Int), x354 = w1 ((val4 [x348, x349, x350, x351] * (65536 : Int) + x352) % (7237005577332262213973186563042994240857116359379907606001950938285454250989 : Int)) → InR IntKind.u64 x354 → ∀ (x355 : Int), x355 = w2 ((val4 [x348, x349, x350, x351] * (65536 : Int) + x352) % (7237005577332262213973186563042994240857116359379907606001950938285454250989 : Int)) → InR IntKind.u64 x355 → ∀ (x356 : Int), x356 = w3 ((val4 [x348, x349, x350, x351] * (65536 : Int) + x352) % (7237005577332262213973186563042994240857116359379907606001950938285454250989 : Int)) → InR IntKind.u64 x356 → ∀ (x357 : Int), x357 = shrI IntKind.u64 x330 (16 : Int) → InR IntKind.u64 x357 → Need (val4 [x353, x354, x355, x356] < (7237005577332262213973186563042994240857116359379907606001950938285454250989 : Int)) ∧ Need (x357 < (65536 : Int)) ∧ ∀ (x358 : Int), x358 = w0 ((val4 [x353, x354, x355, x356] * (65536 : Int) + x357) % (7237005577332262213973186563042994240857116359379907606001950938285454250989 : Int)) → InR IntKind.u64 x358 → ∀ (x359 : Int), x359 = w1 ((val4 [x353, x354, x355, x356] * (65536 : Int) + x357) % (7237005577332262213973186563042994240857116359379907606001950938285454250989 : Int)) → InR IntKind.u64 x359 → ∀ (x360 : Int), x360 = w2 ((val4 [x353, x354, x355, x356] * (65536 : Int) + x357) % (7237005577332262213973186563042994240857116359379907606001950938285454250989 : Int)) → InR IntKind.u64 x360 → ∀ (x361 : Int), x361 = w3 ((val4 [x353, x354, x355, x356] * (65536 : Int) + x357) % (7237005577332262213973186563042994240857116359379907606001950938285454250989 : Int)) → InR IntKind.u64 x361 → ∀ (x362 : Int), x362 = andI IntKind.u64 x330 (65535 : Int) → InR IntKind.u64 x362 → Need (val4 [x358, x359, x360, x361] < (7237005577332262213973186563042994240857116359379907606001950938285454250989 : Int)) ∧ Need (x362 < (65536 : Int)) ∧ ∀ (x363 : Int), x363 = w0 ((val4 [x358, x359, x360, x361] * (65536 : Int) + x362) % (7237005577332262213973186563042994240857116359379907606001950938285454250989 : Int)) → InR IntKind.u64 x363 → ∀ (x364 : Int), x364 = w1 ((val4 [x358, x359, x360, x361] * (65536 : Int) + x362) % (7237005577332262213973186563042994240857116359379907606001950938285454250989 : Int)) → InR IntKind.u64 x364 → ∀ (x365 : Int), x365 = w2 ((val4 [x358, x359, x360, x361] * (65536 : Int) + x362) % (7237005577332262213973186563042994240857116359379907606001950938285454250989 : Int)) → InR IntKind.u64 x365 → ∀ (x366 : Int), x366 = w3 ((val4 [x358, x359, x360, x361] * (65536 : Int) + x362) % (7237005577332262213973186563042994240857116359379907606001950938285454250989 : Int)) → InR IntKind.u64 x366 → ∀ (x367 : Int), x367 = shrI IntKind.u64 x325 (16 : Int) → InR IntKind.u64 x367 → Need (val4 [x363, x364, x365, x366] < (7237005577332262213973186563042994240857116359379907606001950938285454250989 : Int)) ∧ Need (x367 < (65536 : Int)) ∧ ∀ (x368 : Int), x368 = w0 ((val4 [x363, x364, x365, x366] * (65536 : Int) + x367) % (7237005577332262213973186563042994240857116359379907606001950938285454250989 : Int)) → InR IntKind.u64 x368 → ∀ (x369 : Int), x369 = w1 ((val4 [x363, x364, x365, x366] * (65536 : Int) + x367) % (7237005577332262213973186563042994240857116359379907606001950938285454250989 : Int)) → InR IntKind.u64 x369 → ∀ (x370 : Int), x370 = w2 ((val4 [x363, x364, x365, x366] * (65536 : Int) + x367) % (7237005577332262213973186563042994240857116359379907606001950938285454250989 : Int)) → InR IntKind.u64 x370 → ∀ (x371 : Int), x371 = w3 ((val4 [x363, x364, x365, x366] * (65536 : Int) + x367) % (7237005577332262213973186563042994240857116359379907606001950938285454250989 : Int)) → InR IntKind.u64 x371 → ∀ (x372 : Int), x372 = andI IntKind.u64 x325 (65535 : Int) → InR IntKind.u64 x372 → Need (val4 [x368, x369, x370, x371] < (7237005577332262213973186563042994240857116359379907606001950938285454250989 : Int)) ∧ Need (x372 < (65536 : Int)) ∧ ∀ (x373 : Int), x373 = w0 ((val4 [x368, x369, x370, x371] * (65536 : Int) + x372) % (7237005577332262213973186563042994240857116359379907606001950938285454250989 : Int)) → InR IntKind.u64 x373 → ∀ (x374 : Int), x374 = w1 ((val4 [x368, x369, x370, x371] * (65536 : Int) + x372) % (7237005577332262213973186563042994240857116359379907606001950938285454250989 : Int)) → InR IntKind.u64 x374 → ∀ (x375 : Int), x375 = w2 ((val4 [x368, x369, x370, x371] * (65536 : Int) + x372) % (7237005577332262213973186563042994240857116359379907606001950938285454250989 : Int)) → InR IntKind.u64 x375 → ∀ (x376 : Int), x376 = w3 ((val4 [x368, x369, x370, x371] * (65536 : Int) + x372) % (7237005577332262213973186563042994240857116359379907606001950938285454250989 : Int)) → InR IntKind.u64 x376 → ∀ (x377 : Int), x377 = shrI IntKind.u64 x320 (16 : Int) → InR IntKind.u64 x377 → Need (val4 [x373, x374, x375, x376] < (7237005577332262213973186563042994240857116359379907606001950938285454250989 : Int)) ∧ Need (x377 < (65536 : Int)) ∧ ∀ (x378 : Int), x378 = w0 ((val4 [x373, x374, x375, x376] * (65536 : Int) + x377) % (7237005577332262213973186563042994240857116359379907606001950938285454250989 : Int)) → InR IntKind.u64 x378 → ∀ (x379 : Int), x379 = w1 ((val4 [x373, x374, x375, x376] * (65536 : Int) + x377) % (7237005577332262213973186563042994240857116359379907606001950938285454250989 : Int)) → InR IntKind.u64 x379 → ∀ (x380 : Int), x380 = w2 ((val4 [x373, x374, x375, x376] * (65536 : Int) + x377) % (7237005577332262213973186563042994240857116359379907606001950938285454250989 : Int)) → InR IntKind.u64 x380 → ∀ (x381 : Int), x381 = w3 ((val4 [x373, x374, x375, x376] * (65536 : Int) + x377) % (7237005577332262213973186563042994240857116359379907606001950938285454250989 : Int)) → InR IntKind.u64 x381 → ∀ (x382 : Int), x382 = andI IntKind.u64 x320 (65535 : Int) → InR IntKind.u64 x382 → Need (val4 [x378, x379, x380, x381] < (7237005577332262213973186563042994240857116359379907606001950938285454250989 : Int)) ∧ Need (x382 < (65536 : Int)) ∧ ∀ (x383 : Int), x383 = w0 ((val4 [x378, x379, x380, x381] * (65536 : Int) + x382) % (7237005577332262213973186563042994240857116359379907606001950938285454250989 : Int)) → InR IntKind.u64 x383 → ∀ (x384 : Int), x384 = w1 ((val4 [x378, x379, x380, x381] * (65536 : Int) + x382) % (7237005577332262213973186563042994240857116359379907606001950938285454250989 : Int)) → InR IntKind.u64 x384 → ∀ (x385 : Int), x385 = w2 ((val4 [x378, x379, x380, x381] * (65536 : Int) + x382) % (7237005577332262213973186563042994240857116359379907606001950938285454250989 : Int)) → InR IntKind.u64 x385 → ∀ (x386 : Int), x386 = w3 ((val4 [x378, x379, x380, x381] * (65536 : Int) + x382) % (7237005577332262213973186563042994240857116359379907606001950938285454250989 : Int)) → InR IntKind.u64 x386 → ∀ (x387 : Int), x387 = shrI IntKind.u64 x315 (16 : Int) → InR IntKind.u64 x387 → Need (val4 [x383, x384, x385, x386] < (7237005577332262213973186563042994240857116359379907606001950938285454250989 : Int)) ∧ Need (x387 < (65536 : Int)) ∧ ∀ (x388 : Int), x388 = w0 ((val4 [x383, x384, x385, x386] * (65536 : Int) + x387) % (7237005577332262213973186563042994240857116359379907606001950938285454250989 : Int)) → InR IntKind.u64 x388 → ∀ (x389 : Int), x389 = w1 ((val4 [x383, x384, x385, x386] * (65536 : Int) + x387) % (7237005577332262213973186563042994240857116359379907606001950938285454250989 : Int)) → InR IntKind.u64 x389 → ∀ (x390 : Int), x390 = w2 ((val4 [x383, x384, x385, x386] * (65536 : Int) + x387) % (7237005577332262213973186563042994240857116359379907606001950938285454250989 : Int)) → InR IntKind.u64 x390 → ∀ (x391 : Int), x391 = w3 ((val4 [x383, x384, x385, x386] * (65536 : Int) + x387) % (7237005577332262213973186563042994240857116359379907606001950938285454250989 : Int)) → InR IntKind.u64 x391 → ∀ (x392 : Int), x392 = andI IntKind.u64 x315 (65535 : Int) → InR IntKind.u64 x392 → Need (val4 [x388, x389, x390, x391] < (7237005577332262213973186563042994240857116359379907606001950938285454250989 : Int)) ∧ Need (x392 < (65536 : Int)) ∧ ∀ (x393 : Int), x393 = w0 ((val4 [x388, x389, x390, x391] * (65536 : Int) + x392) % (7237005577332262213973186563042994240857116359379907606001950938285454250989 : Int)) → InR IntKind.u64 x393 → ∀ (x394 : Int), x394 = w1 ((val4 [x388, x389, x390, x391] * (65536 : Int) + x392) % (7237005577332262213973186563042994240857116359379907606001950938285454250989 : Int)) → InR IntKind.u64 x394 → ∀ (x395 : Int), x395 = w2 ((val4 [x388, x389, x390, x391] * (65536 : Int) + x392) % (7237005577332262213973186563042994240857116359379907606001950938285454250989 : Int)) → InR IntKind.u64 x395 → ∀ (x396 : Int), x396 = w3 ((val4 [x388, x389, x390, x391] * (65536 : Int) + x392) % (7237005577332262213973186563042994240857116359379907606001950938285454250989 : Int)) → InR IntKind.u64 x396 → ∀ (x397 : Int), x397 = shrI IntKind.u64 x310 (16 : Int) → InR IntKind.u64 x397 → Need (val4 [x393, x394, x395, x396] < (7237005577332262213973186563042994240857116359379907606001950938285454250989 : Int)) ∧ Need (x397 < (65536 : Int)) ∧ ∀ (x398 : Int), x398 = w0 ((val4 [x393, x394, x395, x396] * (65536 : Int) + x397) % (7237005577332262213973186563042994240857116359379907606001950938285454250989 : Int)) → InR IntKind.u64 x398 → ∀ (x399 : Int), x399 = w1 ((val4 [x393, x394, x395, x396] * (65536 : Int) + x397) % (7237005577332262213973186563042994240857116359379907606001950938285454250989 : Int)) → InR IntKind.u64 x399 → ∀ (x400 : Int), x400 = w2 ((val4 [x393, x394, x395, x396] * (65536 : Int) + x397) % (7237005577332262213973186563042994240857116359379907606001950938285454250989 : Int)) → InR IntKind.u64 x400 → ∀ (x401 : Int), x401 = w3 ((val4 [x393, x394, x395, x396] * (65536 : Int) + x397) % (7237005577332262213973186563042994240857116359379907606001950938285454250989 : Int)) → InR IntKind.u64 x401 → ∀ (x402 : Int), x402 = andI IntKind.u64 x310 (65535 : Int) → InR IntKind.u64 x402 → Need (val4 [x398, x399, x400, x401] < (7237005577332262213973186563042994240857116359379907606001950938285454250989 : Int)) ∧ Need (x402 < (65536 : Int)) ∧ ∀ (x403 : Int), x403 = w0 ((val4 [x398, x399, x400, x401] * (65536 : Int) + x402) % (7237005577332262213973186563042994240857116359379907606001950938285454250989 : Int)) → InR IntKind.u64 x403 → ∀ (x404 : Int), x404 = w1 ((val4 [x398, x399, x400, x401] * (65536 : Int) + x402) % (7237005577332262213973186563042994240857116359379907606001950938285454250989 : Int)) → InR IntKind.u64 x404 → ∀ (x405 : Int), x405 = w2 ((val4 [x398, x399, x400, x401] * (65536 : Int) + x402) % (7237005577332262213973186563042994240857116359379907606001950938285454250989 : Int)) → InR IntKind.u64 x405 → ∀ (x406 : Int), x406 = w3 ((val4 [x398, x399, x400, x401] * (65536 : Int) + x402) % (7237005577332262213973186563042994240857116359379907606001950938285454250989 : Int)) → InR IntKind.u64 x406 → ∀ (x407 : Int), x407 = shrI IntKind.u64 x305 (16 : Int) → InR IntKind.u64 x407 → Need (val4 [x403, x404, x405, x406] < (7237005577332262213973186563042994240857116359379907606001950938285454250989 : Int)) ∧ Need (x407 < (65536 : Int)) ∧ ∀ (x408 : Int), x408 = w0 ((val4 [x403, x404, x405, x406] * (65536 : Int) + x407) % (7237005577332262213973186563042994240857116359379907606001950938285454250989 : Int)) → InR IntKind.u64 x408 → ∀ (x409 : Int), x409 = w1 ((val4 [x403, x404, x405, x406] * (65536 : Int) + x407) % (7237005577332262213973186563042994240857116359379907606001950938285454250989 : Int)) → InR IntKind.u64 x409 → ∀ (x410 : Int), x410 = w2 ((val4 [x403, x404, x405, x406] * (65536 : Int) + x407) % (7237005577332262213973186563042994240857116359379907606001950938285454250989 : Int)) → InR IntKind.u64 x410 → ∀ (x411 : Int), x411 = w3 ((val4 [x403, x404, x405, x406] * (65536 : Int) + x407) % (7237005577332262213973186563042994240857116359379907606001950938285454250989 : Int)) → InR IntKind.u64 x411 → ∀ (x412 : Int), x412 = andI IntKind.u64 x305 (65535 : Int) → InR IntKind.u64 x412 → Need (val4 [x408, x409, x410, x411] < (7237005577332262213973186563042994240857116359379907606001950938285454250989 : Int)) ∧ Need (x412 < (65536 : Int)) ∧ ∀ (x413 : Int), x413 = w0 ((val4 [x408, x409, x410, x411] * (65536 : Int) + x412) % (7237005577332262213973186563042994240857116359379907606001950938285454250989 : Int)) → InR IntKind.u64 x413 → ∀ (x414 : Int), x414 = w1 ((val4 [x408, x409, x410, x411] * (65536 : Int) + x412) % (7237005577332262213973186563042994240857116359379907606001950938285454250989 : Int)) → InR IntKind.u64 x414 → ∀ (x415 : Int), x415 = w2 ((val4 [x408, x409, x410, x411] * (65536 : Int) + x412) % (7237005577332262213973186563042994240857116359379907606001950938285454250989 : Int)) → InR IntKind.u64 x415 → ∀ (x416 : Int), x416 = w3 ((val4 [x408, x409, x410, x411] * (65536 : Int) + x412) % (7237005577332262213973186563042994240857116359379907606001950938285454250989 : Int)) → InR IntKind.u64 x416 → ∀ (x417 : Int), x417 = shrI IntKind.u64 x300 (16 : Int) → InR IntKind.u64 x417 → Need (val4 [x413, x414, x415, x416] < (7237005577332262213973186563042994240857116359379907606001950938285454250989 : Int)) ∧ Need (x417 < (65536 : Int)) ∧ ∀ (x418 : Int), x418 = w0 ((val4 [x413, x414, x415, x416] * (65536 : Int) + x417) % (7237005577332262213973186563042994240857116359379907606001950938285454250989 : Int)) → InR IntKind.u64 x418 → ∀ (x419 : Int), x419 = w1 ((val4 [x413, x414, x415, x416] * (65536 : Int) + x417) % (7237005577332262213973186563042994240857116359379907606001950938285454250989 : Int)) → InR IntKind.u64 x419 → ∀ (x420 : Int), x420 = w2 ((val4 [x413, x414, x415, x416] * (65536 : Int) + x417) % (7237005577332262213973186563042994240857116359379907606001950938285454250989 : Int)) → InR IntKind.u64 x420 → ∀ (x421 : Int), x421 = w3 ((val4 [x413, x414, x415, x416] * (65536 : Int) + x417) % (7237005577332262213973186563042994240857116359379907606001950938285454250989 : Int)) → InR IntKind.u64 x421 → ∀ (x422 : Int), x422 = andI IntKind.u64 x300 (65535 : Int) → InR IntKind.u64 x422 → Need (val4 [x418, x419, x420, x421] < (7237005577332262213973186563042994240857116359379907606001950938285454250989 : Int)) ∧ Need (x422 < (65536 : Int)) ∧ ∀ (x423 : Int), x423 = w0 ((val4 [x418, x419, x420, x421] * (65536 : Int) + x422) % (7237005577332262213973186563042994240857116359379907606001950938285454250989 : Int)) → InR IntKind.u64 x423 → ∀ (x424 : Int), x424 = w1 ((val4 [x418, x419, x420, x421] * (65536 : Int) + x422) % (7237005577332262213973186563042994240857116359379907606001950938285454250989 : Int)) → InR IntKind.u64 x424 → ∀ (x425 : Int), x425 = w2 ((val4 [x418, x419, x420, x421] * (65536 : Int) + x422) % (7237005577332262213973186563042994240857116359379907606001950938285454250989 : Int)) → InR IntKind.u64 x425 → ∀ (x426 : Int), x426 = w3 ((val4 [x418, x419, x420, x421] * (65536 : Int) + x422) % (7237005577332262213973186563042994240857116359379907606001950938285454250989 : Int)) → InR IntKind.u64 x426 → ∀ (x427 : Int), x427 = shrI IntKind.u64 x260 (16 : Int) → InR IntKind.u64 x427 → Need (val4 [x423, x424, x425, x426] < (7237005577332262213973186563042994240857116359379907606001950938285454250989 : Int)) ∧ Need (x427 < (65536 : Int)) ∧ ∀ (x428 : Int), x428 = w0 ((val4 [x423, x424, x425, x426] * (65536 : Int) + x427) % (7237005577332262213973186563042994240857116359379907606001950938285454250989 : Int)) → InR IntKind.u64 x428 → ∀ (x429 : Int), x429 = w1 ((val4 [x423, x424, x425, x426] * (65536 : Int) + x427) % (7237005577332262213973186563042994240857116359379907606001950938285454250989 : Int)) → InR IntKind.u64 x429 → ∀ (x430 : Int), x430 = w2 ((val4 [x423, x424, x425, x426] * (65536 : Int) + x427) % (7237005577332262213973186563042994240857116359379907606001950938285454250989 : Int)) → InR IntKind.u64 x430 → ∀ (x431 : Int), x431 = w3 ((val4 [x423, x424, x425, x426] * (65536 : Int) + x427) % (7237005577332262213973186563042994240857116359379907606001950938285454250989 : Int)) → InR IntKind.u64 x431 → ∀ (x432 : Int), x432 = andI IntKind.u64 x260 (65535 : Int) → InR IntKind.u64 x432 → Need (val4 [x428, x429, x430, x431] < (7237005577332262213973186563042994240857116359379907606001950938285454250989 : Int)) ∧ Need (x432 < (65536 : Int)) ∧ ∀ (x433 : Int), x433 = w0 ((val4 [x428, x429, x430, x431] * (65536 : Int) + x432) % (7237005577332262213973186563042994240857116359379907606001950938285454250989 : Int)) → InR IntKind.u64 x433 → ∀ (x434 : Int), x434 = w1 ((val4 [x428, x429, x430, x431] * (65536 : Int) + x432) % (7237005577332262213973186563042994240857116359379907606001950938285454250989 : Int)) → InR IntKind.u64 x434 → ∀ (x435 : Int), x435 = w2 ((val4 [x428, x429, x430, x431] * (65536 : Int) + x432) % (7237005577332262213973186563042994240857116359379907606001950938285454250989 : Int)) → InR IntKind.u64 x435 → ∀ (x436 : Int), x436 = w3 ((val4 [x428, x429, x430, x431] * (65536 : Int) + x432) % (7237005577332262213973186563042994240857116359379907606001950938285454250989 : Int)) → InR IntKind.u64 x436 → ∀ (x437 : Int), x437 = shrI IntKind.u64 x220 (16 : Int) → InR IntKind.u64 x437 → Need (val4 [x433, x434, x435, x436] < (7237005577332262213973186563042994240857116359379907606001950938285454250989 : Int)) ∧ Need (x437 < (65536 : Int)) ∧ ∀ (x438 : Int), x438 = w0 ((val4 [x433, x434, x435, x436] * (65536 : Int) + x437) % (7237005577332262213973186563042994240857116359379907606001950938285454250989 : Int)) → InR IntKind.u64 x438 → ∀ (x439 : Int), x439 = w1 ((val4 [x433, x434, x435, x436] * (65536 : Int) + x437) % (7237005577332262213973186563042994240857116359379907606001950938285454250989 : Int)) → InR IntKind.u64 x439 → ∀ (x440 : Int), x440 = w2 ((val4 [x433, x434, x435, x436] * (65536 : Int) + x437) % (7237005577332262213973186563042994240857116359379907606001950938285454250989 : Int)) → InR IntKind.u64 x440 → ∀ (x441 : Int), x441 = w3 ((val4 [x433, x434, x435, x436] * (65536 : Int) + x437) % (7237005577332262213973186563042994240857116359379907606001950938285454250989 : Int)) → InR IntKind.u64 x441 → ∀ (x442 : Int), x442 = andI IntKind.u64 x220 (65535 : Int) → InR IntKind.u64 x442 → Need (val4 [x438, x439, x440, x441] < (7237005577332262213973186563042994240857116359379907606001950938285454250989 : Int)) ∧ Need (x442 < (65536 : Int)) ∧ ∀ (x443 : Int), x443 = w0 ((val4 [x438, x439, x440, x441] * (65536 : Int) + x442) % (7237005577332262213973186563042994240857116359379907606001950938285454250989 : Int)) → InR IntKind.u64 x443 → ∀ (x444 : Int), x444 = w1 ((val4 [x438, x439, x440, x441] * (65536 : Int) + x442) % (7237005577332262213973186563042994240857116359379907606001950938285454250989 : Int)) → InR IntKind.u64 x444 → ∀ (x445 : Int), x445 = w2 ((val4 [x438, x439, x440, x441] * (65536 : Int) + x442) % (7237005577332262213973186563042994240857116359379907606001950938285454250989 : Int)) → InR IntKind.u64 x445 → ∀ (x446 : Int), x446 = w3 ((val4 [x438, x439, x440, x441] * (65536 : Int) + x442) % (7237005577332262213973186563042994240857116359379907606001950938285454250989 : Int)) → InR IntKind.u64 x446 → ∀ (x447 : Int), x447 = shrI IntKind.u64 x180 (16 : Int) → InR IntKind.u64 x447 → Need (val4 [x443, x444, x445, x446] < (7237005577332262213973186563042994240857116359379907606001950938285454250989 : Int)) ∧ Need (x447 < (65536 : Int)) ∧ ∀ (x448 : Int), x448 = w0 ((val4 [x443, x444, x445, x446] * (65536 : Int) + x447) % (7237005577332262213973186563042994240857116359379907606001950938285454250989 : Int)) → InR IntKind.u64 x448 → ∀ (x449 : Int), x449 = w1 ((val4 [x443, x444, x445, x446] * (65536 : Int) + x447) % (7237005577332262213973186563042994240857116359379907606001950938285454250989 : Int)) → InR IntKind.u64 x449 → ∀ (x450 : Int), x450 = w2 ((val4 [x443, x444, x445, x446] * (65536 : Int) + x447) % (7237005577332262213973186563042994240857116359379907606001950938285454250989 : Int)) → InR IntKind.u64 x450 → ∀ (x451 : Int), x451 = w3 ((val4 [x443, x444, x445, x446] * (65536 : Int) + x447) % (7237005577332262213973186563042994240857116359379907606001950938285454250989 : Int)) → InR IntKind.u64 x451 → ∀ (x452 : Int), x452 = andI IntKind.u64 x180 (65535 : Int) → InR IntKind.u64 x452 → Need (val4 [x448, x449, x450, x451] < (7237005577332262213973186563042994240857116359379907606001950938285454250989 : Int)) ∧ Need (x452 < (65536 : Int)) ∧ ∀ (x453 : Int), x453 = w0 ((val4 [x448, x449, x450, x451] * (65536 : Int) + x452) % (7237005577332262213973186563042994240857116359379907606001950938285454250989 : Int)) → InR IntKind.u64 x453 → ∀ (x454 : Int), x454 = w1 ((val4 [x448, x449, x450, x451] * (65536 : Int) + x452) % (7237005577332262213973186563042994240857116359379907606001950938285454250989 : Int)) → InR IntKind.u64 x454 → ∀ (x455 : Int), x455 = w2 ((val4 [x448, x449, x450, x451] * (65536 : Int) + x452) % (7237005577332262213973186563042994240857116359379907606001950938285454250989 : Int)) → InR IntKind.u64 x455 → ∀ (x456 : Int), x456 = w3 ((val4 [x448, x449, x450, x451] * (65536 : Int) + x452) % (7237005577332262213973186563042994240857116359379907606001950938285454250989 : Int)) → InR IntKind.u64 x456 → ∀ (x457 : Int), x457 = shrI IntKind.u64 x140 (16 : Int) → InR IntKind.u64 x457 → Need (val4 [x453, x454, x455, x456] < (7237005577332262213973186563042994240857116359379907606001950938285454250989 : Int)) ∧ Need (x457 < (65536 : Int)) ∧ ∀ (x458 : Int), x458 = w0 ((val4 [x453, x454, x455, x456] * (65536 : Int) + x457) % (7237005577332262213973186563042994240857116359379907606001950938285454250989 : Int)) → InR IntKind.u64 x458 → ∀ (x459 : Int), x459 = w1 ((val4 [x453, x454, x455, x456] * (65536 : Int) + x457) % (7237005577332262213973186563042994240857116359379907606001950938285454250989 : Int)) → InR IntKind.u64 x459 → ∀ (x460 : Int), x460 = w2 ((val4 [x453, x454, x455, x456] * (65536 : Int) + x457) % (7237005577332262213973186563042994240857116359379907606001950938285454250989 : Int)) → InR IntKind.u64 x460 → ∀ (x461 : Int), x461 = w3 ((val4 [x453, x454, x455, x456] * (65536 : Int) + x457) % (7237005577332262213973186563042994240857116359379907606001950938285454250989 : Int)) → InR IntKind.u64 x461 → ∀ (x462 : Int), x462 = andI IntKind.u64 x140 (65535 : Int) → InR IntKind.u64 x462 → Need (val4 [x458, x459, x460, x461] < (7237005577332262213973186563042994240857116359379907606001950938285454250989 : Int)) ∧ Need (x462 < (65536 : Int)) ∧ ∀ (x463 : Int), x463 = w0 ((val4 [x458, x459, x460, x461] * (65536 : Int) + x462) % (7237005577332262213973186563042994240857116359379907606001950938285454250989 : Int)) → InR IntKind.u64 x463 → ∀ (x464 : Int), x464 = w1 ((val4 [x458, x459, x460, x461] * (65536 : Int) + x462) % (7237005577332262213973186563042994240857116359379907606001950938285454250989 : Int)) → InR IntKind.u64 x464 → ∀ (x465 : Int), x465 = w2 ((val4 [x458, x459, x460, x461] * (65536 : Int) + x462) % (7237005577332262213973186563042994240857116359379907606001950938285454250989 : Int)) → InR IntKind.u64 x465 → ∀ (x466 : Int), x466 = w3 ((val4 [x458, x459, x460, x461] * (65536 : Int) + x462) % (7237005577332262213973186563042994240857116359379907606001950938285454250989 : Int)) → InR IntKind.u64 x466 → ∀ (x467 : Int), x467 = shrI IntKind.u64 x100 (16 : Int) → InR IntKind.u64 x467 → Need (val4 [x463, x464, x465, x466] < (7237005577332262213973186563042994240857116359379907606001950938285454250989 : Int)) ∧ Need (x467 < (65536 : Int)) ∧ ∀ (x468 : Int), x468 = w0 ((val4 [x463, x464, x465, x466] * (65536 : Int) + x467) % (7237005577332262213973186563042994240857116359379907606001950938285454250989 : Int)) → InR IntKind.u64 x468 → ∀ (x469 : Int), x469 = w1 ((val4 [x463, x464, x465, x466] * (65536 : Int) + x467) % (7237005577332262213973186563042994240857116359379907606001950938285454250989 : Int)) → InR IntKind.u64 x469 → ∀ (x470 : Int), x470 = w2 ((val4 [x463, x464, x465, x466] * (65536 : Int) + x467) % (7237005577332262213973186563042994240857116359379907606001950938285454250989 : Int)) → InR IntKind.u64 x470 → ∀ (x471 : Int), x471 = w3 ((val4 [x463, x464, x465, x466] * (65536 : Int) + x467) % (7237005577332262213973186563042994240857116359379907606001950938285454250989 : Int)) → InR IntKind.u64 x471 → ∀ (x472 : Int), x472 = andI IntKind.u64 x100 (65535 : Int) → InR IntKind.u64 x472 → Need (val4 [x468, x469, x470, x471] < (7237005577332262213973186563042994240857116359379907606001950938285454250989 : Int)) ∧ Need (x472 < (65536 : Int)) ∧ ∀ (x473 : Int), x473 = w0 ((val4 [x468, x469, x470, x471] * (65536 : Int) + x472) % (7237005577332262213973186563042994240857116359379907606001950938285454250989 : Int)) → InR IntKind.u64 x473 → ∀ (x474 : Int), x474 = w1 ((val4 [x468, x469, x470, x471] * (65536 : Int) + x472) % (7237005577332262213973186563042994240857116359379907606001950938285454250989 : Int)) → InR IntKind.u64 x474 → ∀ (x475 : Int), x475 = w2 ((val4 [x468, x469, x470, x471] * (65536 : Int) + x472) % (7237005577332262213973186563042994240857116359379907606001950938285454250989 : Int)) → InR IntKind.u64 x475 → ∀ (x476 : Int), x476 = w3 ((val4 [x468, x469, x470, x471] * (65536 : Int) + x472) % (7237005577332262213973186563042994240857116359379907606001950938285454250989 : Int)) → InR IntKind.u64 x476 → ∀ (x477 : Int), x477 = shrI IntKind.u64 x60 (16 : Int) → InR IntKind.u64 x477 → Need (val4 [x473, x474, x475, x476] < (7237005577332262213973186563042994240857116359379907606001950938285454250989 : Int)) ∧ Need (x477 < (65536 : Int)) ∧ ∀ (x478 : Int), x478 = w0 ((val4 [x473, x474, x475, x476] * (65536 : Int) + x477) % (7237005577332262213973186563042994240857116359379907606001950938285454250989 : Int)) → InR IntKind.u64 x478 → ∀ (x479 : Int), x479 = w1 ((val4 [x473, x474, x475, x476] * (65536 : Int) + x477) % (7237005577332262213973186563042994240857116359379907606001950938285454250989 : Int)) → InR IntKind.u64 x479 → ∀ (x480 : Int), x480 = w2 ((val4 [x473, x474, x475, x476] * (65536 : Int) + x477) % (7237005577332262213973186563042994240857116359379907606001950938285454250989 : Int)) → InR IntKind.u64 x480 → ∀ (x481 : Int), x481 = w3 ((val4 [x473, x474, x475, x476] * (65536 : Int) + x477) % (7237005577332262213973186563042994240857116359379907606001950938285454250989 : Int)) → InR IntKind.u64 x481 → ∀ (x482 : Int), x482 = andI IntKind.u64 x60 (65535 : Int) → InR IntKind.u64 x482 → Need (val4 [x478, x479, x480, x481] < (7237005577332262213973186563042994240857116359379907606001950938285454250989 : Int)) ∧ Need (x482 < (65536 : Int)) ∧ ∀ (x483 : Int), x483 = w0 ((val4 [x478, x479, x480, x481] * (65536 : Int) + x482) % (7237005577332262213973186563042994240857116359379907606001950938285454250989 : Int)) → InR IntKind.u64 x483 → ∀ (x484 : Int), x484 = w1 ((val4 [x478, x479, x480, x481] * (65536 : Int) + x482) % (7237005577332262213973186563042994240857116359379907606001950938285454250989 : Int)) → InR IntKind.u64 x484 → ∀ (x485 : Int), x485 = w2 ((val4 [x478, x479, x480, x481] * (65536 : Int) + x482) % (7237005577332262213973186563042994240857116359379907606001950938285454250989 : Int)) → InR IntKind.u64 x485 → ∀ (x486 : Int), x486 = w3 ((val4 [x478, x479, x480, x481] * (65536 : Int) + x482) % (7237005577332262213973186563042994240857116359379907606001950938285454250989 : Int)) → InR IntKind.u64 x486 → ∀ (x487 : Int), x487 = shrI IntKind.u64 x20 (16 : Int) → InR IntKind.u64 x487 → Need (val4 [x483, x484, x485, x486] < (7237005577332262213973186563042994240857116359379907606001950938285454250989 : Int)) ∧ Need (x487 < (65536 : Int)) ∧ ∀ (x488 : Int), x488 = w0 ((val4 [x483, x484, x485, x486] * (65536 : Int) + x487) % (7237005577332262213973186563042994240857116359379907606001950938285454250989 : Int)) → InR IntKind.u64 x488 → ∀ (x489 : Int), x489 = w1 ((val4 [x483, x484, x485, x486] * (65536 : Int) + x487) % (7237005577332262213973186563042994240857116359379907606001950938285454250989 : Int)) → InR IntKind.u64 x489 → ∀ (x490 : Int), x490 = w2 ((val4 [x483, x484, x485, x486] * (65536 : Int) + x487) % (7237005577332262213973186563042994240857116359379907606001950938285454250989 : Int)) → InR IntKind.u64 x490 → ∀ (x491 : Int), x491 = w3 ((val4 [x483, x484, x485, x486] * (65536 : Int) + x487) % (7237005577332262213973186563042994240857116359379907606001950938285454250989 : Int)) → InR IntKind.u64 x491 → ∀ (x492 : Int), x492 = andI IntKind.u64 x20 (65535 : Int) → InR IntKind.u64 x492 → Need (val4 [x488, x489, x490, x491] < (7237005577332262213973186563042994240857116359379907606001950938285454250989 : Int)) ∧ Need (x492 < (65536 : Int)) ∧ ∀ (x493 : Int), x493 = w0 ((val4 [x488, x489, x490, x491] * (65536 : Int) + x492) % (7237005577332262213973186563042994240857116359379907606001950938285454250989 : Int)) → InR IntKind.u64 x493 → ∀ (x494 : Int), x494 = w1 ((val4 [x488, x489, x490, x491] * (65536 : Int) + x492) % (7237005577332262213973186563042994240857116359379907606001950938285454250989 : Int)) → InR IntKind.u64 x494 → ∀ (x495 : Int), x495 = w2 ((val4 [x488, x489, x490, x491] * (65536 : Int) + x492) % (7237005577332262213973186563042994240857116359379907606001950938285454250989 : Int)) → InR IntKind.u64 x495 → ∀ (x496 : Int), x496 = w3 ((val4 [x488, x489, x490, x491] * (65536 : Int) + x492) % (7237005577332262213973186563042994240857116359379907606001950938285454250989 : Int)) → InR IntKind.u64 x496 → K (SV.arr IntKind.u64 (4 : Nat) true [x493, x494, x495, x496]) := by
  intros
  kernel_rfl

def rmulS : List SV → Option (List Prop × SV)
  | [.arr .u64 4 _ aL, .arr .u64 4 _ bL] => some ([], .arr .u64 4 true (words4 (mlL (val4 aL) (val4 bL))))
  | _ => none

set_option maxRecDepth 100000 in
theorem rmul_ok : CallOk Tryd.prog gh 38 (pureCtr rmulS) := by
  refine call_pure (fn := Tryd.f38) Γ11_ok rfl (by kernel_rfl) (by kernel_rfl) (by kernel_rfl) rmulS fun args P0 Y0 hs hp hf => ?_
  unfold rmulS at hs
  split at hs
  · rename_i ea aL eb bL
    simp only [Option.some.injEq, Prod.mk.injEq] at hs
    obtain ⟨rfl, rfl⟩ := hs
    simp only [FactVs, FactV] at hf
    obtain ⟨⟨hal, ha⟩, ⟨hbl, hb⟩, _⟩ := hf
    obtain ⟨a0, a1, a2, a3, rfl⟩ := len4 hal
    have ia0 := ha a0 (by simp); have ia1 := ha a1 (by simp); have ia2 := ha a2 (by simp); have ia3 := ha a3 (by simp)
    obtain ⟨b0, b1, b2, b3, rfl⟩ := len4 hbl
    have ib0 := hb b0 (by simp); have ib1 := hb b1 (by simp); have ib2 := hb b2 (by simp); have ib3 := hb b3 (by simp)
    refine ⟨[.arr .u64 4 true [a0, a1, a2, a3], .arr .u64 4 true [b0, b1, b2, b3]], [], _, ⟨rfl, rfl, trivial⟩, Nat.le_of_ble_eq_true (by kernel_rfl), vc_noloops ?_⟩
    show vc38 a0 a1 a2 a3 b0 b1 b2 b3 _ _
    rw [vc38_eq]
    rw [← ell_lit]
    intro x1 e1 r1 x2 e2 r2 x3 e3 r3 x4 e4 r4 x5 e5 r5 x6 e6 r6 x7 e7 r7 x8 e8 r8 x9 e9 r9 x10 e10 r10 x11 e11 r11 x12 e12 r12 x13 e13 r13 x14 e14 r14 x15 e15 r15 x16 e16 r16 x17 e17 r17 x18 e18 r18 x19 e19 r19 x20 e20 r20 x21 e21 r21 x22 e22 r22 x23 e23 r23 x24 e24 r24 x25 e25 r25 x26 e26 r26 x27 e27 r27 x28 e28 r28 x29 e29 r29 x30 e30 r30 x31 e31 r31 x32 e32 r32 x33 e33 r33 x34 e34 r34 x35 e35 r35 x36 e36 r36 x37 e37 r37 x38 e38 r38 x39 e39 r39 x40 e40 r40 x41 e41 r41 x42 e42 r42 x43 e43 r43 x44 e44 r44 x45 e45 r45 x46 e46 r46 x47 e47 r47 x48 e48 r48 x49 e49 r49 x50 e50 r50 x51 e51 r51 x52 e52 r52 x53 e53 r53 x54 e54 r54 x55 e55 r55 x56 e56 r56 x57 e57 r57 x58 e58 r58 x59 e59 r59 x60 e60 r60 x61 e61 r61 x62 e62 r62 x63 e63 r63 x64 e64 r64 x65 e65 r65 x66 e66 r66 x67 e67 r67 x68 e68 r68 x69 e69 r69 x70 e70 r70 x71 e71 r71 x72 e72 r72 x73 e73 r73 x74 e74 r74 x75 e75 r75 x76 e76 r76 x77 e77 r77 x78 e78 r78 x79 e79 r79 x80 e80 r80 x81 e81 r81 x82 e82 r82 x83 e83 r83 x84 e84 r84 x85 e85 r85 x86 e86 r86 x87 e87 r87 x88 e88 r88 x89 e89 r89 x90 e90 r90 x91 e91 r91 x92 e92 r92 x93 e93 r93 x94 e94 r94 x95 e95 r95 x96 e96 r96 x97 e97 r97 x98 e98 r98 x99 e99 r99 x100 e100 r100 x101 e101 r101 x102 e102 r102 x103 e103 r103 x104 e104 r104 x105 e105 r105 x106 e106 r106 x107 e107 r107 x108 e108 r108 x109 e109 r109 x110 e110 r110 x111 e111 r111 x112 e112 r112 x113 e113 r113 x114 e114 r114 x115 e115 r115 x116 e116 r116 x117 e117 r117 x118 e118 r118 x119 e119 r119 x120 e120 r120 x121 e121 r121 x122 e122 r122 x123 e123 r123 x124 e124 r124 x125 e125 r125 x126 e126 r126 x127 e127 r127 x128 e128 r128 x129 e129 r129 x130 e130 r130 x131 e131 r131 x132 e132 r132 x133 e133 r133 x134 e134 r134 x135 e135 r135 x136 e136 r136 x137 e137 r137 x138 e138 r138 x139 e139 r139 x140 e140 r140 x141 e141 r141 x142 e142 r142 x143 e143 r143 x144 e144 r144 x145 e145 r145 x146 e146 r146 x147 e147 r147 x148 e148 r148 x149 e149 r149 x150 e150 r150 x151 e151 r151 x152 e152 r152 x153 e153 r153 x154 e154 r154 x155 e155 r155 x156 e156 r156 x157 e157 r157 x158 e158 r158 x159 e159 r159 x160 e160 r160 x161 e161 r161 x162 e162 r162 x163 e163 r163 x164 e164 r164 x165 e165 r165 x166 e166 r166 x167 e167 r167 x168 e168 r168 x169 e169 r169 x170 e170 r170 x171 e171 r171 x172 e172 r172 x173 e173 r173 x174 e174 r174 x175 e175 r175 x176 e176 r176 x177 e177 r177 x178 e178 r178 x179 e179 r179 x180 e180 r180 x181 e181 r181 x182 e182 r182 x183 e183 r183 x184 e184 r184 x185 e185 r185 x186 e186 r186 x187 e187 r187 x188 e188 r188 x189 e189 r189 x190 e190 r190 x191 e191 r191 x192 e192 r192 x193 e193 r193 x194 e194 r194 x195 e195 r195 x196 e196 r196 x197 e197 r197 x198 e198 r198 x199 e199 r199 x200 e200 r200 x201 e201 r201 x202 e202 r202 x203 e203 r203 x204 e204 r204 x205 e205 r205 x206 e206 r206 x207 e207 r207 x208 e208 r208 x209 e209 r209 x210 e210 r210 x211 e211 r211 x212 e212 r212 x213 e213 r213 x214 e214 r214 x215 e215 r215 x216 e216 r216 x217 e217 r217 x218 e218 r218 x219 e219 r219 x220 e220 r220 x221 e221 r221 x222 e222 r222 x223 e223 r223 x224 e224 r224 x225 e225 r225 x226 e226 r226 x227 e227 r227 x228 e228 r228 x229 e229 r229 x230 e230 r230 x231 e231 r231 x232 e232 r232 x233 e233 r233 x234 e234 r234 x235 e235 r235 x236 e236 r236 x237 e237 r237 x238 e238 r238 x239 e239 r239 x240 e240 r240 x241 e241 r241 x242 e242 r242 x243 e243 r243 x244 e244 r244 x245 e245 r245 x246 e246 r246 x247 e247 r247 x248 e248 r248 x249 e249 r249 x250 e250 r250 x251 e251 r251 x252 e252 r252 x253 e253 r253 x254 e254 r254 x255 e255 r255 x256 e256 r256 x257 e257 r257 x258 e258 r258 x259 e259 r259 x260 e260 r260 x261 e261 r261 x262 e262 r262 x263 e263 r263 x264 e264 r264 x265 e265 r265 x266 e266 r266 x267 e267 r267 x268 e268 r268 x269 e269 r269 x270 e270 r270 x271 e271 r271 x272 e272 r272 x273 e273 r273 x274 e274 r274 x275 e275 r275 x276 e276 r276 x277 e277 r277 x278 e278 r278 x279 e279 r279 x280 e280 r280 x281 e281 r281 x282 e282 r282 x283 e283 r283 x284 e284 r284 x285 e285 r285 x286 e286 r286 x287 e287 r287 x288 e288 r288 x289 e289 r289 x290 e290 r290 x291 e291 r291 x292 e292 r292 x293 e293 r293 x294 e294 r294 x295 e295 r295 x296 e296 r296 x297 e297 r297 x298 e298 r298 x299 e299 r299 x300 e300 r300 x301 e301 r301 x302 e302 r302 x303 e303 r303 x304 e304 r304 x305 e305 r305 x306 e306 r306 x307 e307 r307 x308 e308 r308 x309 e309 r309 x310 e310 r310 x311 e311 r311 x312 e312 r312 x313 e313 r313 x314 e314 r314 x315 e315 r315 x316 e316 r316 x317 e317 r317 x318 e318 r318 x319 e319 r319 x320 e320 r320 x321 e321 r321 x322 e322 r322 x323 e323 r323 x324 e324 r324 x325 e325 r325 x326 e326 r326 x327 e327 r327 x328 e328 r328 x329 e329 r329 x330 e330 r330 x331 e331 r331 x332 e332 r332 x333 e333 r333 x334 e334 r334 x335 e335 r335 x336 e336 r336
    have m1 := half_lo e1
    have m2 := half_hi ia0 e2
    have m9 := half_lo e9
    have m10 := half_hi ib0 e10
    have m3 := half_lo e3
    have m4 := half_hi ia1 e4
    have m11 := half_lo e11
    have m12 := half_hi ib1 e12
    have m5 := half_lo e5
    have m6 := half_hi ia2 e6
    have m13 := half_lo e13
    have m14 := half_hi ib2 e14
    have m7 := half_lo e7
    have m8 := half_hi ia3 e8
    have m15 := half_lo e15
    have m16 := half_hi ib3 e16
    have k17 := piece m1 m9 zero_b zero_b e17 e18 e19 e20 r19 e21
    have k22 := piece m1 m10 zero_b k17.2.2 e22 e23 e24 e25 r24 e26
    have k27 := piece m1 m11 zero_b k22.2.2 e27 e28 e29 e30 r29 e31
    have k32 := piece m1 m12 zero_b k27.2.2 e32 e33 e34 e35 r34 e36
    have k37 := piece m1 m13 zero_b k32.2.2 e37 e38 e39 e40 r39 e41
    have k42 := piece m1 m14 zero_b k37.2.2 e42 e43 e44 e45 r44 e46
    have k47 := piece m1 m15 zero_b k42.2.2 e47 e48 e49 e50 r49 e51
    have k52 := piece m1 m16 zero_b k47.2.2 e52 e53 e54 e55 r54 e56
    have w0 := row_law k17.1 k22.1 k27.1 k32.1 k37.1 k42.1 k47.1 k52.1
    have k57 := piece m2 m9 k22.2.1 zero_b e57 e58 e59 e60 r59 e61
    have k62 := piece m2 m10 k27.2.1 k57.2.2 e62 e63 e64 e65 r64 e66
    have k67 := piece m2 m11 k32.2.1 k62.2.2 e67 e68 e69 e70 r69 e71
    have k72 := piece m2 m12 k37.2.1 k67.2.2 e72 e73 e74 e75 r74 e76
    have k77 := piece m2 m13 k42.2.1 k72.2.2 e77 e78 e79 e80 r79 e81
    have k82 := piece m2 m14 k47.2.1 k77.2.2 e82 e83 e84 e85 r84 e86
    have k87 := piece m2 m15 k52.2.1 k82.2.2 e87 e88 e89 e90 r89 e91
    have k92 := piece m2 m16 k52.2.2 k87.2.2 e92 e93 e94 e95 r94 e96
    have w1 := row_law k57.1 k62.1 k67.1 k72.1 k77.1 k82.1 k87.1 k92.1
    have k97 := piece m3 m9 k62.2.1 zero_b e97 e98 e99 e100 r99 e101
    have k102 := piece m3 m10 k67.2.1 k97.2.2 e102 e103 e104 e105 r104 e106
    have k107 := piece m3 m11 k72.2.1 k102.2.2 e107 e108 e109 e110 r109 e111
    have k112 := piece m3 m12 k77.2.1 k107.2.2 e112 e113 e114 e115 r114 e116
    have k117 := piece m3 m13 k82.2.1 k112.2.2 e117 e118 e119 e120 r119 e121
    have k122 := piece m3 m14 k87.2.1 k117.2.2 e122 e123 e124 e125 r124 e126
    have k127 := piece m3 m15 k92.2.1 k122.2.2 e127 e128 e129 e130 r129 e131
    have k132 := piece m3 m16 k92.2.2 k127.2.2 e132 e133 e134 e135 r134 e136
    have w2 := row_law k97.1 k102.1 k107.1 k112.1 k117.1 k122.1 k127.1 k132.1
    have k137 := piece m4 m9 k102.2.1 zero_b e137 e138 e139 e140 r139 e141
    have k142 := piece m4 m10 k107.2.1 k137.2.2 e142 e143 e144 e145 r144 e146
    have k147 := piece m4 m11 k112.2.1 k142.2.2 e147 e148 e149 e150 r149 e151
    have k152 := piece m4 m12 k117.2.1 k147.2.2 e152 e153 e154 e155 r154 e156
    have k157 := piece m4 m13 k122.2.1 k152.2.2 e157 e158 e159 e160 r159 e161
    have k162 := piece m4 m14 k127.2.1 k157.2.2 e162 e163 e164 e165 r164 e166
    have k167 := piece m4 m15 k132.2.1 k162.2.2 e167 e168 e169 e170 r169 e171
    have k172 := piece m4 m16 k132.2.2 k167.2.2 e172 e173 e174 e175 r174 e176
    have w3 := row_law k137.1 k142.1 k147.1 k152.1 k157.1 k162.1 k167.1 k172.1
    have k177 := piece m5 m9 k142.2.1 zero_b e177 e178 e179 e180 r179 e181
    have k182 := piece m5 m10 k147.2.1 k177.2.2 e182 e183 e184 e185 r184 e186
    have k187 := piece m5 m11 k152.2.1 k182.2.2 e187 e188 e189 e190 r189 e191
    have k192 := piece m5 m12 k157.2.1 k187.2.2 e192 e193 e194 e195 r194 e196
    have k197 := piece m5 m13 k162.2.1 k192.2.2 e197 e198 e199 e200 r199 e201
    have k202 := piece m5 m14 k167.2.1 k197.2.2 e202 e203 e204 e205 r204 e206
    have k207 := piece m5 m15 k172.2.1 k202.2.2 e207 e208 e209 e210 r209 e211
    have k212 := piece m5 m16 k172.2.2 k207.2.2 e212 e213 e214 e215 r214 e216
    have w4 := row_law k177.1 k182.1 k187.1 k192.1 k197.1 k202.1 k207.1 k212.1
    have k217 := piece m6 m9 k182.2.1 zero_b e217 e218 e219 e220 r219 e221
    have k222 := piece m6 m10 k187.2.1 k217.2.2 e222 e223 e224 e225 r224 e226
    have k227 := piece m6 m11 k192.2.1 k222.2.2 e227 e228 e229 e230 r229 e231
    have k232 := piece m6 m12 k197.2.1 k227.2.2 e232 e233 e234 e235 r234 e236
    have k237 := piece m6 m13 k202.2.1 k232.2.2 e237 e238 e239 e240 r239 e241
    have k242 := piece m6 m14 k207.2.1 k237.2.2 e242 e243 e244 e245 r244 e246
    have k247 := piece m6 m15 k212.2.1 k242.2.2 e247 e248 e249 e250 r249 e251
    have k252 := piece m6 m16 k212.2.2 k247.2.2 e252 e253 e254 e255 r254 e256
    have w5 := row_law k217.1 k222.1 k227.1 k232.1 k237.1 k242.1 k247.1 k252.1
    have k257 := piece m7 m9 k222.2.1 zero_b e257 e258 e259 e260 r259 e261
    have k262 := piece m7 m10 k227.2.1 k257.2.2 e262 e263 e264 e265 r264 e266
    have k267 := piece m7 m11 k232.2.1 k262.2.2 e267 e268 e269 e270 r269 e271
    have k272 := piece m7 m12 k237.2.1 k267.2.2 e272 e273 e274 e275 r274 e276
    have k277 := piece m7 m13 k242.2.1 k272.2.2 e277 e278 e279 e280 r279 e281
    have k282 := piece m7 m14 k247.2.1 k277.2.2 e282 e283 e284 e285 r284 e286
    have k287 := piece m7 m15 k252.2.1 k282.2.2 e287 e288 e289 e290 r289 e291
    have k292 := piece m7 m16 k252.2.2 k287.2.2 e292 e293 e294 e295 r294 e296
    have w6 := row_law k257.1 k262.1 k267.1 k272.1 k277.1 k282.1 k287.1 k292.1
    have k297 := piece m8 m9 k262.2.1 zero_b e297 e298 e299 e300 r299 e301
    have k302 := piece m8 m10 k267.2.1 k297.2.2 e302 e303 e304 e305 r304 e306
    have k307 := piece m8 m11 k272.2.1 k302.2.2 e307 e308 e309 e310 r309 e311
    have k312 := piece m8 m12 k277.2.1 k307.2.2 e312 e313 e314 e315 r314 e316
    have k317 := piece m8 m13 k282.2.1 k312.2.2 e317 e318 e319 e320 r319 e321
    have k322 := piece m8 m14 k287.2.1 k317.2.2 e322 e323 e324 e325 r324 e326
    have k327 := piece m8 m15 k292.2.1 k322.2.2 e327 e328 e329 e330 r329 e331
    have k332 := piece m8 m16 k292.2.2 k327.2.2 e332 e333 e334 e335 r334 e336
    have w7 := row_law k297.1 k302.1 k307.1 k312.1 k317.1 k322.1 k327.1 k332.1
    have hT := rows_law w0 w1 w2 w3 w4 w5 w6 w7
    intro x337 e337 _
    refine ⟨need_of (by decide), need_of (hi_lt k332.2.2 e337), fun x338 e338 r338 x339 e339 r339 x340 e340 r340 x341 e341 r341 => ?_⟩
    have V337 := val_ell e338 e339 e340 e341
    intro x342 e342 _
    refine ⟨need_of (by rw [V337]; exact (mod_bd _).2), need_of (lo_lt k332.2.2 e342), fun x343 e343 r343 x344 e344 r344 x345 e345 r345 x346 e346 r346 => ?_⟩
    have V342 := hstep V337 e343 e344 e345 e346
    intro x347 e347 _
    refine ⟨need_of (by rw [V342]; exact (mod_bd _).2), need_of (hi_lt k332.2.1 e347), fun x348 e348 r348 x349 e349 r349 x350 e350 r350 x351 e351 r351 => ?_⟩
    have V347 := hstep V342 e348 e349 e350 e351
    intro x352 e352 _
    refine ⟨need_of (by rw [V347]; exact (mod_bd _).2), need_of (lo_lt k332.2.1 e352), fun x353 e353 r353 x354 e354 r354 x355 e355 r355 x356 e356 r356 => ?_⟩
    have V352 := hstep V347 e353 e354 e355 e356
    intro x357 e357 _
    refine ⟨need_of (by rw [V352]; exact (mod_bd _).2), need_of (hi_lt k327.2.1 e357), fun x358 e358 r358 x359 e359 r359 x360 e360 r360 x361 e361 r361 => ?_⟩
    have V357 := hstep V352 e358 e359 e360 e361
    intro x362 e362 _
    refine ⟨need_of (by rw [V357]; exact (mod_bd _).2), need_of (lo_lt k327.2.1 e362), fun x363 e363 r363 x364 e364 r364 x365 e365 r365 x366 e366 r366 => ?_⟩
    have V362 := hstep V357 e363 e364 e365 e366
    intro x367 e367 _
    refine ⟨need_of (by rw [V362]; exact (mod_bd _).2), need_of (hi_lt k322.2.1 e367), fun x368 e368 r368 x369 e369 r369 x370 e370 r370 x371 e371 r371 => ?_⟩
    have V367 := hstep V362 e368 e369 e370 e371
    intro x372 e372 _
    refine ⟨need_of (by rw [V367]; exact (mod_bd _).2), need_of (lo_lt k322.2.1 e372), fun x373 e373 r373 x374 e374 r374 x375 e375 r375 x376 e376 r376 => ?_⟩
    have V372 := hstep V367 e373 e374 e375 e376
    intro x377 e377 _
    refine ⟨need_of (by rw [V372]; exact (mod_bd _).2), need_of (hi_lt k317.2.1 e377), fun x378 e378 r378 x379 e379 r379 x380 e380 r380 x381 e381 r381 => ?_⟩
    have V377 := hstep V372 e378 e379 e380 e381
    intro x382 e382 _
    refine ⟨need_of (by rw [V377]; exact (mod_bd _).2), need_of (lo_lt k317.2.1 e382), fun x383 e383 r383 x384 e384 r384 x385 e385 r385 x386 e386 r386 => ?_⟩
    have V382 := hstep V377 e383 e384 e385 e386
    intro x387 e387 _
    refine ⟨need_of (by rw [V382]; exact (mod_bd _).2), need_of (hi_lt k312.2.1 e387), fun x388 e388 r388 x389 e389 r389 x390 e390 r390 x391 e391 r391 => ?_⟩
    have V387 := hstep V382 e388 e389 e390 e391
    intro x392 e392 _
    refine ⟨need_of (by rw [V387]; exact (mod_bd _).2), need_of (lo_lt k312.2.1 e392), fun x393 e393 r393 x394 e394 r394 x395 e395 r395 x396 e396 r396 => ?_⟩
    have V392 := hstep V387 e393 e394 e395 e396
    intro x397 e397 _
    refine ⟨need_of (by rw [V392]; exact (mod_bd _).2), need_of (hi_lt k307.2.1 e397), fun x398 e398 r398 x399 e399 r399 x400 e400 r400 x401 e401 r401 => ?_⟩
    have V397 := hstep V392 e398 e399 e400 e401
    intro x402 e402 _
    refine ⟨need_of (by rw [V397]; exact (mod_bd _).2), need_of (lo_lt k307.2.1 e402), fun x403 e403 r403 x404 e404 r404 x405 e405 r405 x406 e406 r406 => ?_⟩
    have V402 := hstep V397 e403 e404 e405 e406
    intro x407 e407 _
    refine ⟨need_of (by rw [V402]; exact (mod_bd _).2), need_of (hi_lt k302.2.1 e407), fun x408 e408 r408 x409 e409 r409 x410 e410 r410 x411 e411 r411 => ?_⟩
    have V407 := hstep V402 e408 e409 e410 e411
    intro x412 e412 _
    refine ⟨need_of (by rw [V407]; exact (mod_bd _).2), need_of (lo_lt k302.2.1 e412), fun x413 e413 r413 x414 e414 r414 x415 e415 r415 x416 e416 r416 => ?_⟩
    have V412 := hstep V407 e413 e414 e415 e416
    intro x417 e417 _
    refine ⟨need_of (by rw [V412]; exact (mod_bd _).2), need_of (hi_lt k297.2.1 e417), fun x418 e418 r418 x419 e419 r419 x420 e420 r420 x421 e421 r421 => ?_⟩
    have V417 := hstep V412 e418 e419 e420 e421
    intro x422 e422 _
    refine ⟨need_of (by rw [V417]; exact (mod_bd _).2), need_of (lo_lt k297.2.1 e422), fun x423 e423 r423 x424 e424 r424 x425 e425 r425 x426 e426 r426 => ?_⟩
    have V422 := hstep V417 e423 e424 e425 e426
    intro x427 e427 _
    refine ⟨need_of (by rw [V422]; exact (mod_bd _).2), need_of (hi_lt k257.2.1 e427), fun x428 e428 r428 x429 e429 r429 x430 e430 r430 x431 e431 r431 => ?_⟩
    have V427 := hstep V422 e428 e429 e430 e431
    intro x432 e432 _
    refine ⟨need_of (by rw [V427]; exact (mod_bd _).2), need_of (lo_lt k257.2.1 e432), fun x433 e433 r433 x434 e434 r434 x435 e435 r435 x436 e436 r436 => ?_⟩
    have V432 := hstep V427 e433 e434 e435 e436
    intro x437 e437 _
    refine ⟨need_of (by rw [V432]; exact (mod_bd _).2), need_of (hi_lt k217.2.1 e437), fun x438 e438 r438 x439 e439 r439 x440 e440 r440 x441 e441 r441 => ?_⟩
    have V437 := hstep V432 e438 e439 e440 e441
    intro x442 e442 _
    refine ⟨need_of (by rw [V437]; exact (mod_bd _).2), need_of (lo_lt k217.2.1 e442), fun x443 e443 r443 x444 e444 r444 x445 e445 r445 x446 e446 r446 => ?_⟩
    have V442 := hstep V437 e443 e444 e445 e446
    intro x447 e447 _
    refine ⟨need_of (by rw [V442]; exact (mod_bd _).2), need_of (hi_lt k177.2.1 e447), fun x448 e448 r448 x449 e449 r449 x450 e450 r450 x451 e451 r451 => ?_⟩
    have V447 := hstep V442 e448 e449 e450 e451
    intro x452 e452 _
    refine ⟨need_of (by rw [V447]; exact (mod_bd _).2), need_of (lo_lt k177.2.1 e452), fun x453 e453 r453 x454 e454 r454 x455 e455 r455 x456 e456 r456 => ?_⟩
    have V452 := hstep V447 e453 e454 e455 e456
    intro x457 e457 _
    refine ⟨need_of (by rw [V452]; exact (mod_bd _).2), need_of (hi_lt k137.2.1 e457), fun x458 e458 r458 x459 e459 r459 x460 e460 r460 x461 e461 r461 => ?_⟩
    have V457 := hstep V452 e458 e459 e460 e461
    intro x462 e462 _
    refine ⟨need_of (by rw [V457]; exact (mod_bd _).2), need_of (lo_lt k137.2.1 e462), fun x463 e463 r463 x464 e464 r464 x465 e465 r465 x466 e466 r466 => ?_⟩
    have V462 := hstep V457 e463 e464 e465 e466
    intro x467 e467 _
    refine ⟨need_of (by rw [V462]; exact (mod_bd _).2), need_of (hi_lt k97.2.1 e467), fun x468 e468 r468 x469 e469 r469 x470 e470 r470 x471 e471 r471 => ?_⟩
    have V467 := hstep V462 e468 e469 e470 e471
    intro x472 e472 _
    refine ⟨need_of (by rw [V467]; exact (mod_bd _).2), need_of (lo_lt k97.2.1 e472), fun x473 e473 r473 x474 e474 r474 x475 e475 r475 x476 e476 r476 => ?_⟩
    have V472 := hstep V467 e473 e474 e475 e476
    intro x477 e477 _
    refine ⟨need_of (by rw [V472]; exact (mod_bd _).2), need_of (hi_lt k57.2.1 e477), fun x478 e478 r478 x479 e479 r479 x480 e480 r480 x481 e481 r481 => ?_⟩
    have V477 := hstep V472 e478 e479 e480 e481
    intro x482 e482 _
    refine ⟨need_of (by rw [V477]; exact (mod_bd _).2), need_of (lo_lt k57.2.1 e482), fun x483 e483 r483 x484 e484 r484 x485 e485 r485 x486 e486 r486 => ?_⟩
    have V482 := hstep V477 e483 e484 e485 e486
    intro x487 e487 _
    refine ⟨need_of (by rw [V482]; exact (mod_bd _).2), need_of (hi_lt k17.2.1 e487), fun x488 e488 r488 x489 e489 r489 x490 e490 r490 x491 e491 r491 => ?_⟩
    have V487 := hstep V482 e488 e489 e490 e491
    intro x492 e492 _
    refine ⟨need_of (by rw [V487]; exact (mod_bd _).2), need_of (lo_lt k17.2.1 e492), fun x493 e493 r493 x494 e494 r494 x495 e495 r495 x496 e496 r496 => ?_⟩
    have V492 := hstep V487 e493 e494 e495 e496
    have z0 := (hilo k17.2.1 e487 e492).1
    have z1 := (hilo k57.2.1 e477 e482).1
    have z2 := (hilo k97.2.1 e467 e472).1
    have z3 := (hilo k137.2.1 e457 e462).1
    have z4 := (hilo k177.2.1 e447 e452).1
    have z5 := (hilo k217.2.1 e437 e442).1
    have z6 := (hilo k257.2.1 e427 e432).1
    have z7 := (hilo k297.2.1 e417 e422).1
    have z8 := (hilo k302.2.1 e407 e412).1
    have z9 := (hilo k307.2.1 e397 e402).1
    have z10 := (hilo k312.2.1 e387 e392).1
    have z11 := (hilo k317.2.1 e377 e382).1
    have z12 := (hilo k322.2.1 e367 e372).1
    have z13 := (hilo k327.2.1 e357 e362).1
    have z14 := (hilo k332.2.1 e347 e352).1
    have z15 := (hilo k332.2.2 e337 e342).1
    rw [horner z0 z1 z2 z3 z4 z5 z6 z7 z8 z9 z10 z11 z12 z13 z14 z15, hT] at V492
    have hA : x1 + 4294967296 * x2 + 18446744073709551616 * x3 + 79228162514264337593543950336 * x4 + 340282366920938463463374607431768211456 * x5 + 1461501637330902918203684832716283019655932542976 * x6 + 6277101735386680763835789423207666416102355444464034512896 * x7 + 26959946667150639794667015087019630673637144422540572481103610249216 * x8 = val4 [a0, a1, a2, a3] := by
      rw [e1, e2, e3, e4, e5, e6, e7, e8]; exact halves_val a0 a1 a2 a3
    have hB : x9 + 4294967296 * x10 + 18446744073709551616 * x11 + 79228162514264337593543950336 * x12 + 340282366920938463463374607431768211456 * x13 + 1461501637330902918203684832716283019655932542976 * x14 + 6277101735386680763835789423207666416102355444464034512896 * x15 + 26959946667150639794667015087019630673637144422540572481103610249216 * x16 = val4 [b0, b1, b2, b3] := by
      rw [e9, e10, e11, e12, e13, e14, e15, e16]; exact halves_val b0 b1 b2 b3
    rw [hA, hB] at V492
    exact arr_eq r493 r494 r495 r496 V492
  · cases hs

def Γ12 : Tab := ⟨tys, [(28, pureCtr negS), (35, pureCtr rsubS), (38, pureCtr rmulS)] ++ Γ11.ctr, [0], gh⟩
theorem Γ12_ok : TabOk Tryd.prog Γ12 := ((Γ11_ok.cons rmul_ok).cons rsub_ok).cons neg_ok
end Go.Gx

/- Powers. -/
namespace Go.Gx
open Go.Proofs Go.Sp
open Go.Sp (prI mlL adL sbL pwL)
set_option linter.unusedVariables false

theorem pow_mod (a : Int) : ∀ n : Nat, (a % ell) ^ n % ell = a ^ n % ell
  | 0 => by simp
  | n + 1 => by rw [Int.pow_succ, Int.pow_succ, Int.mul_emod, Int.emod_emod, pow_mod a n, ← Int.mul_emod]

/-- What is left of an exponent above its k lowest bits. -/
def ex (E : Int) (k : Nat) : Nat := (E / ((2 ^ k : Nat) : Int)).toNat
theorem ex_succ {E : Int} (hE : 0 ≤ E) (k : Nat) : ex E k = 2 * ex E (k + 1) + (E / ((2 ^ k : Nat) : Int) % 2).toNat := by
  obtain ⟨n, rfl⟩ := Int.eq_ofNat_of_zero_le hE
  unfold ex
  have h1 : ((n : Int) / ((2 ^ k : Nat) : Int)) = ((n / 2 ^ k : Nat) : Int) := by exact_mod_cast rfl
  have h2 : ((n : Int) / ((2 ^ (k + 1) : Nat) : Int)) = ((n / 2 ^ k / 2 : Nat) : Int) := by rw [Nat.div_div_eq_div_mul, ← Nat.pow_succ]; exact_mod_cast rfl
  rw [h1, h2]
  generalize n / 2 ^ k = q
  omega
theorem ex_zero {E : Int} (hE : 0 ≤ E) : ex E 0 = E.toNat := by unfold ex; simp
theorem ex_top {E : Int} {k : Nat} (hE : 0 ≤ E) (h : E < ((2 ^ k : Nat) : Int)) : ex E k = 0 := by
  unfold ex
  rw [Int.ediv_eq_zero_of_lt hE h]; rfl
theorem pow_sq (a : Int) (q : Nat) : a ^ (2 * q) = a ^ q * a ^ q := by rw [Nat.two_mul, Int.pow_add]

theorem bit9 {n i x6 x7 x8 x9 : Int} {j : Nat} (hi : 0 ≤ i ∧ i < 256) (hn : 0 ≤ n) (hj : (j : Int) = i / 64) (e6 : x6 = n / ((2 ^ (64 * j) : Nat) : Int) % 18446744073709551616) (e7 : x7 = i % 64) (e8 : x8 = shrI .u64 x6 x7) (r8 : InR .u64 x8) (e9 : x9 = andI .u64 x8 1) :
    x9 = n / ((2 ^ i.toNat : Nat) : Int) % 2 := by
  have hb := bit_at hi hn hj e6 e7 e8 r8 e9 (rfl : IntKind.i64.wrap x9 = IntKind.i64.wrap x9)
  rw [and1 r8] at e9
  have h2 : 0 ≤ x9 ∧ x9 < 2 := by omega
  rw [wrap_i64 (by omega)] at hb
  rw [hb]
  unfold bitI
  rw [if_pos hi]

/-- A bit of the words of a number. -/
theorem bit_words {b0 b1 b2 b3 i x5 x6 x7 x8 x9 : Int} (hi : 0 ≤ i ∧ i < 256) (hb0 : InR .u64 b0) (hb1 : InR .u64 b1) (hb2 : InR .u64 b2) (hb3 : InR .u64 b3) (e5 : x5 = IntKind.i64.wrap (i.tdiv 64)) (e6 : x6 = [b0, b1, b2, b3].getD x5.toNat 0) (e7 : x7 = i.tmod 64) (e8 : x8 = shrI .u64 x6 x7) (r8 : InR .u64 x8) (e9 : x9 = andI .u64 x8 1) :
    x9 = val4 [b0, b1, b2, b3] / ((2 ^ i.toNat : Nat) : Int) % 2 := by
  rw [tdiv64 hi.1, wrap_i64 (by omega)] at e5
  rw [tmod64 hi.1] at e7
  obtain ⟨j, hj⟩ : ∃ j : Nat, (j : Int) = i / 64 := ⟨(i / 64).toNat, by omega⟩
  have hx : x5.toNat = j := by omega
  have hw : ([b0, b1, b2, b3] : List Int) = [w0 (val4 [b0, b1, b2, b3]), w1 (val4 [b0, b1, b2, b3]), w2 (val4 [b0, b1, b2, b3]), w3 (val4 [b0, b1, b2, b3])] := (words_val hb0 hb1 hb2 hb3).symm
  have hp := (val_pos hb0 hb1 hb2 hb3).1
  rw [hx, hw, getD_words _ j (by omega)] at e6
  exact bit9 hi hp hj e6 e7 e8 r8 e9
theorem idx_ok {i x5 : Int} (hi : 0 ≤ i ∧ i < 256) (e5 : x5 = IntKind.i64.wrap (i.tdiv 64)) : 0 ≤ x5 ∧ x5 < 4 := by
  rw [tdiv64 hi.1, wrap_i64 (by omega)] at e5
  omega
theorem rem_ok {i x7 : Int} (hi : 0 ≤ i ∧ i < 256) (e7 : x7 = i.tmod 64) : 0 ≤ x7 := by
  rw [tmod64 hi.1] at e7; omega

def L81 : Loops := [(5, ⟨[.any, .any, .any, .p 1000 0, .p 1001 0, .any, .p 1002 0, .p 1008 0, .p 1012 0, .b false false, .i .i64 ⟨false, 0⟩] ++ reps .any 32, gh ++ [(1000, .segs false [.arr .u64 4 false []]), (1001, .segs false [.arr .u64 4 false []]), (1002, .segs false [.arr .u64 4 false []]), (1008, .segs false [.arr .u64 4 false []]), (1012, .segs false [.arr .u64 4 false []])], 1018⟩)]
def vc81 (a0 a1 a2 a3 b0 b1 b2 b3 x : Int) (K : SV → Prop) (Q : Nat → List Pv → Prop) : Prop := fnVc Γ12 Tryd.f81 L81 [.arr .u64 4 true [a0, a1, a2, a3], .arr .u64 4 true [b0, b1, b2, b3], .i .i64 ⟨false, x⟩] gh K Q
def lc81 (s : Bool) (i : Int) (a e r x o : List Int) (K : SV → Prop) (Q : Nat → List Pv → Prop) : Prop := loopVc Γ12 Tryd.f81 L81 5 [.b s, .z i, .l a, .l e, .l r, .l x, .l o] K Q
theorem vc81_eq : ∀ (a0 a1 a2 a3 b0 b1 b2 b3 x : Int) (K : SV → Prop) (Q : Nat → List Pv → Prop), vc81 a0 a1 a2 a3 b0 b1 b2 b3 x K Q = ∀ (x1 : Int), x1 = w0 (val4 [a0, a1, a2, a3] % (7237005577332262213973186563042994240857116359379907606001950938285454250989 : Int)) → InR IntKind.u64 x1 → ∀ (x2 : Int), x2 = w1 (val4 [a0, a1, a2, a3] % (7237005577332262213973186563042994240857116359379907606001950938285454250989 : Int)) → InR IntKind.u64 x2 → ∀ (x3 : Int), x3 = w2 (val4 [a0, a1, a2, a3] % (7237005577332262213973186563042994240857116359379907606001950938285454250989 : Int)) → InR IntKind.u64 x3 → ∀ (x4 : Int), x4 = w3 (val4 [a0, a1, a2, a3] % (7237005577332262213973186563042994240857116359379907606001950938285454250989 : Int)) → InR IntKind.u64 x4 → Need (val4 [x1, x2, x3, x4] < (7237005577332262213973186563042994240857116359379907606001950938285454250989 : Int)) ∧ ∀ (x5 : Int), x5 = w0 (prI (val4 [x1, x2, x3, x4]) (1627715501170711445284395025044413883736156588369414752970002579683115011841 : Int)) → InR IntKind.u64 x5 → ∀ (x6 : Int), x6 = w1 (prI (val4 [x1, x2, x3, x4]) (1627715501170711445284395025044413883736156588369414752970002579683115011841 : Int)) → InR IntKind.u64 x6 → ∀ (x7 : Int), x7 = w2 (prI (val4 [x1, x2, x3, x4]) (1627715501170711445284395025044413883736156588369414752970002579683115011841 : Int)) → InR IntKind.u64 x7 → ∀ (x8 : Int), x8 = w3 (prI (val4 [x1, x2, x3, x4]) (1627715501170711445284395025044413883736156588369414752970002579683115011841 : Int)) → InR IntKind.u64 x8 → ∀ (x9 : Int), x9 = IntKind.i64.wrap (x - (1 : Int)) → InR IntKind.i64 x9 → Same Tryd.f81 (5 : Nat) (itemsOf Tryd.f81 (5 : Nat)) ∧ Q (5 : Nat) [Pv.b false, Pv.z x9, Pv.l [a0, a1, a2, a3], Pv.l [b0, b1, b2, b3], Pv.l [(0 : Int), (0 : Int), (0 : Int), (0 : Int)], Pv.l [x5, x6, x7, x8], Pv.l [(15486807595281847581 : Int), (14334777244411350896 : Int), (18446744073709551614 : Int), (1152921504606846975 : Int)]] := by
  intros
  kernel_rfl
theorem lc81_eq : ∀ (s : Bool) (i : Int) (a e r x o : List Int) (K : SV → Prop) (Q : Nat → List Pv → Prop), lc81 s i a e r x o K Q = ((decide (i ≥ (0 : Int)) = true → (s = true → Need (val4 o < (7237005577332262213973186563042994240857116359379907606001950938285454250989 : Int)) ∧ ∀ (x1 : Int), x1 = w0 (prI (val4 o) (val4 o)) → InR IntKind.u64 x1 → ∀ (x2 : Int), x2 = w1 (prI (val4 o) (val4 o)) → InR IntKind.u64 x2 → ∀ (x3 : Int), x3 = w2 (prI (val4 o) (val4 o)) → InR IntKind.u64 x3 → ∀ (x4 : Int), x4 = w3 (prI (val4 o) (val4 o)) → InR IntKind.u64 x4 → ∀ (x5 : Int), x5 = IntKind.i64.wrap (i.tdiv (64 : Int)) → InR IntKind.i64 x5 → Need ((0 : Int) ≤ x5 ∧ x5 < (4 : Int)) ∧ Need ((0 : Int) ≤ x5 ∧ x5 < (4 : Int)) ∧ ∀ (x6 : Int), x6 = e.getD x5.toNat (0 : Int) → InR IntKind.u64 x6 → ∀ (x7 : Int), x7 = i.tmod (64 : Int) → InR IntKind.i64 x7 → Need ((0 : Int) ≤ x7) ∧ ∀ (x8 : Int), x8 = shrI IntKind.u64 x6 x7 → InR IntKind.u64 x8 → ∀ (x9 : Int), x9 = andI IntKind.u64 x8 (1 : Int) → InR IntKind.u64 x9 → ((x9 == (1 : Int)) = true → Need (val4 [x1, x2, x3, x4] < (7237005577332262213973186563042994240857116359379907606001950938285454250989 : Int)) ∧ ∀ (x10 : Int), x10 = w0 (prI (val4 [x1, x2, x3, x4]) (val4 x)) → InR IntKind.u64 x10 → ∀ (x11 : Int), x11 = w1 (prI (val4 [x1, x2, x3, x4]) (val4 x)) → InR IntKind.u64 x11 → ∀ (x12 : Int), x12 = w2 (prI (val4 [x1, x2, x3, x4]) (val4 x)) → InR IntKind.u64 x12 → ∀ (x13 : Int), x13 = w3 (prI (val4 [x1, x2, x3, x4]) (val4 x)) → InR IntKind.u64 x13 → ∀ (x14 : Int), x14 = IntKind.i64.wrap (i - (1 : Int)) → InR IntKind.i64 x14 → Same Tryd.f81 (5 : Nat) (itemsOf Tryd.f81 (5 : Nat)) ∧ Q (5 : Nat) [Pv.b true, Pv.z x14, Pv.l a, Pv.l e, Pv.l r, Pv.l x, Pv.l [x10, x11, x12, x13]]) ∧ ((x9 == (1 : Int)) = false → ∀ (x15 : Int), x15 = IntKind.i64.wrap (i - (1 : Int)) → InR IntKind.i64 x15 → Same Tryd.f81 (5 : Nat) (itemsOf Tryd.f81 (5 : Nat)) ∧ Q (5 : Nat) [Pv.b s, Pv.z x15, Pv.l a, Pv.l e, Pv.l r, Pv.l x, Pv.l [x1, x2, x3, x4]])) ∧ (s = false → ∀ (x16 : Int), x16 = IntKind.i64.wrap (i.tdiv (64 : Int)) → InR IntKind.i64 x16 → Need ((0 : Int) ≤ x16 ∧ x16 < (4 : Int)) ∧ Need ((0 : Int) ≤ x16 ∧ x16 < (4 : Int)) ∧ ∀ (x17 : Int), x17 = e.getD x16.toNat (0 : Int) → InR IntKind.u64 x17 → ∀ (x18 : Int), x18 = i.tmod (64 : Int) → InR IntKind.i64 x18 → Need ((0 : Int) ≤ x18) ∧ ∀ (x19 : Int), x19 = shrI IntKind.u64 x17 x18 → InR IntKind.u64 x19 → ∀ (x20 : Int), x20 = andI IntKind.u64 x19 (1 : Int) → InR IntKind.u64 x20 → ((x20 == (1 : Int)) = true → Need (val4 o < (7237005577332262213973186563042994240857116359379907606001950938285454250989 : Int)) ∧ ∀ (x21 : Int), x21 = w0 (prI (val4 o) (val4 x)) → InR IntKind.u64 x21 → ∀ (x22 : Int), x22 = w1 (prI (val4 o) (val4 x)) → InR IntKind.u64 x22 → ∀ (x23 : Int), x23 = w2 (prI (val4 o) (val4 x)) → InR IntKind.u64 x23 → ∀ (x24 : Int), x24 = w3 (prI (val4 o) (val4 x)) → InR IntKind.u64 x24 → ∀ (x25 : Int), x25 = IntKind.i64.wrap (i - (1 : Int)) → InR IntKind.i64 x25 → Same Tryd.f81 (5 : Nat) (itemsOf Tryd.f81 (5 : Nat)) ∧ Q (5 : Nat) [Pv.b true, Pv.z x25, Pv.l a, Pv.l e, Pv.l r, Pv.l x, Pv.l [x21, x22, x23, x24]]) ∧ ((x20 == (1 : Int)) = false → ∀ (x26 : Int), x26 = IntKind.i64.wrap (i - (1 : Int)) → InR IntKind.i64 x26 → Same Tryd.f81 (5 : Nat) (itemsOf Tryd.f81 (5 : Nat)) ∧ Q (5 : Nat) [Pv.b s, Pv.z x26, Pv.l a, Pv.l e, Pv.l r, Pv.l x, Pv.l o]))) ∧ (decide (i ≥ (0 : Int)) = false → Need (val4 o < (7237005577332262213973186563042994240857116359379907606001950938285454250989 : Int)) ∧ ∀ (x27 : Int), x27 = w0 (prI (val4 o) (1 : Int)) → InR IntKind.u64 x27 → ∀ (x28 : Int), x28 = w1 (prI (val4 o) (1 : Int)) → InR IntKind.u64 x28 → ∀ (x29 : Int), x29 = w2 (prI (val4 o) (1 : Int)) → InR IntKind.u64 x29 → ∀ (x30 : Int), x30 = w3 (prI (val4 o) (1 : Int)) → InR IntKind.u64 x30 → K (SV.arr IntKind.u64 (4 : Nat) true [x27, x28, x29, x30]))) := by
  intros
  kernel_rfl

/-- One round of the power. -/
theorem round81 {s : Bool} {i Av : Int} {a r x o : List Int} {b0 b1 b2 b3 : Int} {K : SV → Prop} {Q : Nat → List Pv → Prop} (hi : 0 ≤ i ∧ i < 256) (hb0 : InR .u64 b0) (hb1 : InR .u64 b1) (hb2 : InR .u64 b2) (hb3 : InR .u64 b3)
    (hx : val4 x = Av * r1 % ell) (ho : val4 o = Av ^ ex (val4 [b0, b1, b2, b3]) (i.toNat + 1) * r1 % ell) (hs : s = false → ex (val4 [b0, b1, b2, b3]) (i.toNat + 1) = 0)
    (h : ∀ s' o', val4 o' = Av ^ ex (val4 [b0, b1, b2, b3]) i.toNat * r1 % ell → (s' = false → ex (val4 [b0, b1, b2, b3]) i.toNat = 0) → Q 5 [.b s', .z (i - 1), .l a, .l [b0, b1, b2, b3], .l r, .l x, .l o']) : lc81 s i a [b0, b1, b2, b3] r x o K Q := by
  rw [lc81_eq, ← ell_lit]
  have hp := (val_pos hb0 hb1 hb2 hb3).1
  have hsc := ex_succ hp i.toNat
  have hw : IntKind.i64.wrap (i - 1) = i - 1 := wrap_i64 (by omega)
  have hol : val4 o < ell := by rw [ho]; exact (mod_bd _).2
  refine ⟨fun _ => ⟨fun hst => ?_, fun hsf => ?_⟩, fun hn => by have := of_decide_eq_false hn; omega⟩
  · refine ⟨hol, fun x1 e1 r1 x2 e2 r2 x3 e3 r3 x4 e4 r4 x5 e5 r5 => ⟨idx_ok hi e5, idx_ok hi e5, fun x6 e6 r6 x7 e7 r7 => ⟨rem_ok hi e7, fun x8 e8 r8 x9 e9 r9 => ?_⟩⟩⟩
    have hbit := bit_words hi hb0 hb1 hb2 hb3 e5 e6 e7 e8 r8 e9
    have hsq := val_in e1 e2 e3 e4 (pr_bd _ _).1 (lt_r (pr_bd _ _).2)
    rw [ho, mont_mul, ← pow_sq] at hsq
    refine ⟨fun h1 => ?_, fun h1 => ?_⟩
    · have h1 : x9 = 1 := by simpa using h1
      refine ⟨by rw [hsq]; exact (mod_bd _).2, fun x10 e10 r10 x11 e11 r11 x12 e12 r12 x13 e13 r13 x14 e14 r14 => ⟨rfl, ?_⟩⟩
      have hm := val_in e10 e11 e12 e13 (pr_bd _ _).1 (lt_r (pr_bd _ _).2)
      rw [hsq, hx, mont_mul, ← Int.pow_succ] at hm
      rw [e14, hw]
      refine h true _ ?_ (fun h => by cases h)
      rw [hsc, ← hbit, h1]; exact hm
    · have h1 : ¬ x9 = 1 := by simpa using h1
      intro x15 e15 r15
      refine ⟨rfl, ?_⟩
      have h0 : x9 = 0 := by omega
      rw [e15, hw]
      refine h s _ ?_ (fun h => by rw [hst] at h; cases h)
      rw [hsc, ← hbit, h0]; exact hsq
  · intro x16 e16 r16
    have hq0 := hs hsf
    refine ⟨idx_ok hi e16, idx_ok hi e16, fun x17 e17 r17 x18 e18 r18 => ⟨rem_ok hi e18, fun x19 e19 r19 x20 e20 r20 => ?_⟩⟩
    have hbit := bit_words hi hb0 hb1 hb2 hb3 e16 e17 e18 e19 r19 e20
    rw [hq0] at ho hsc
    refine ⟨fun h1 => ?_, fun h1 => ?_⟩
    · have h1 : x20 = 1 := by simpa using h1
      refine ⟨hol, fun x21 e21 r21 x22 e22 r22 x23 e23 r23 x24 e24 r24 x25 e25 r25 => ⟨rfl, ?_⟩⟩
      have hm := val_in e21 e22 e23 e24 (pr_bd _ _).1 (lt_r (pr_bd _ _).2)
      rw [ho, hx, mont_mul, ← Int.pow_succ] at hm
      rw [e25, hw]
      refine h true _ ?_ (fun h => by cases h)
      rw [hsc, ← hbit, h1]; exact hm
    · have h1 : ¬ x20 = 1 := by simpa using h1
      intro x26 e26 r26
      refine ⟨rfl, ?_⟩
      have h0 : x20 = 0 := by omega
      rw [e26, hw]
      have hz : ex (val4 [b0, b1, b2, b3]) i.toNat = 0 := by rw [hsc, ← hbit, h0]; rfl
      refine h s _ ?_ (fun _ => hz)
      rw [hz]; exact ho

def inv81 (Av E : Int) (la le : List Int) (key : Nat) (ps : List Pv) (m : Nat) : Prop :=
  key = 5 ∧ ∃ s i r x o, ps = [.b s, .z i, .l la, .l le, .l r, .l x, .l o] ∧ (m : Int) = i + 1 ∧ i < 256 ∧ val4 x = Av * r1 % ell ∧ val4 o = Av ^ ex E (i + 1).toNat * r1 % ell ∧ (s = false → ex E (i + 1).toNat = 0)

def powerS : List SV → Option (List Prop × SV)
  | [.arr .u64 4 _ aL, .arr .u64 4 _ bL, .i .i64 xV] => some ([0 ≤ xV.z, xV.z ≤ 256, val4 bL < ((2 ^ xV.z.toNat : Nat) : Int)], .arr .u64 4 true (words4 (pwL (val4 aL) (val4 bL))))
  | _ => none

theorem power_ok : CallOk Tryd.prog gh 81 (pureCtr powerS) := by
  refine call_pure (fn := Tryd.f81) Γ12_ok rfl (by kernel_rfl) (by kernel_rfl) (by kernel_rfl) powerS fun args P0 Y0 hs hp hf => ?_
  unfold powerS at hs
  split at hs
  · rename_i ea aL eb bL xV
    simp only [Option.some.injEq, Prod.mk.injEq] at hs
    obtain ⟨rfl, rfl⟩ := hs
    simp only [FactVs, FactV] at hf
    obtain ⟨⟨hal, ha⟩, ⟨hbl, hb⟩, hx, _⟩ := hf
    obtain ⟨hn0, hn1, hE, _⟩ := hp
    obtain ⟨xT, x⟩ := xV
    dsimp only at *
    obtain ⟨a0, a1, a2, a3, rfl⟩ := len4 hal
    have ia0 := ha a0 (by simp); have ia1 := ha a1 (by simp); have ia2 := ha a2 (by simp); have ia3 := ha a3 (by simp)
    obtain ⟨b0, b1, b2, b3, rfl⟩ := len4 hbl
    have ib0 := hb b0 (by simp); have ib1 := hb b1 (by simp); have ib2 := hb b2 (by simp); have ib3 := hb b3 (by simp)
    refine ⟨[.arr .u64 4 true [a0, a1, a2, a3], .arr .u64 4 true [b0, b1, b2, b3], .i .i64 ⟨false, x⟩], L81, inv81 (val4 [a0, a1, a2, a3]) (val4 [b0, b1, b2, b3]) [a0, a1, a2, a3] [b0, b1, b2, b3], ⟨rfl, rfl, rfl, trivial⟩, Nat.le_of_ble_eq_true (by kernel_rfl), ?_, ?_, ?_⟩
    · intro k t ht g hg
      simp only [L81, List.mem_singleton, Prod.mk.injEq] at ht
      obtain ⟨rfl, rfl⟩ := ht
      have hg : g ∈ keysOf gh := hg
      simp only [gh, keysOf, List.mem_singleton] at hg
      subst hg
      exact ⟨by omega, rfl⟩
    · rintro key ps m ⟨rfl, s, i, r, x, o, rfl, hm, hlt, hxv, hov, hsv⟩
      show lc81 s i [a0, a1, a2, a3] [b0, b1, b2, b3] r x o _ _
      rcases Int.lt_or_le i 0 with hi | hi
      · rw [lc81_eq, ← ell_lit]
        refine ⟨fun h => by have := of_decide_eq_true h; omega, fun _ => ?_⟩
        have hi1 : i = -1 := by omega
        subst hi1
        rw [show (-1 + 1 : Int).toNat = 0 from rfl, ex_zero (val_pos ib0 ib1 ib2 ib3).1] at hov
        refine ⟨by rw [hov]; exact (mod_bd _).2, fun x27 e27 r27 x28 e28 r28 x29 e29 r29 x30 e30 r30 => ?_⟩
        rw [hov, from_mont] at e27 e28 e29 e30
        show [x27, x28, x29, x30] = words4 (pwL (val4 [a0, a1, a2, a3]) (val4 [b0, b1, b2, b3]))
        rw [e27, e28, e29, e30]; rfl
      · have hk : (i + 1).toNat = i.toNat + 1 := by omega
        rw [hk] at hov hsv
        refine round81 ⟨hi, hlt⟩ ib0 ib1 ib2 ib3 hxv hov hsv fun s' o' ho' hs' => ⟨m - 1, by omega, rfl, s', i - 1, r, x, o', rfl, by omega, by omega, hxv, ?_, ?_⟩
        · rw [show (i - 1 + 1).toNat = i.toNat by congr 1; omega]; exact ho'
        · rw [show (i - 1 + 1).toNat = i.toNat by congr 1; omega]; exact hs'
    · show vc81 a0 a1 a2 a3 b0 b1 b2 b3 x _ _
      rw [vc81_eq, ← ell_lit]
      intro x1 e1 r1 x2 e2 r2 x3 e3 r3 x4 e4 r4
      have hA := val_ell e1 e2 e3 e4
      rw [hA]
      refine ⟨(mod_bd _).2, fun x5 e5 r5 x6 e6 r6 x7 e7 r7 x8 e8 r8 x9 e9 r9 => ⟨rfl, (x9 + 1).toNat, rfl, false, x9, _, _, _, rfl, ?_, ?_, ?_, ?_, ?_⟩⟩ <;> rw [wrap_i64 (by omega)] at e9
      · omega
      · omega
      · rw [val_in e5 e6 e7 e8 (pr_bd _ _).1 (lt_r (pr_bd _ _).2), show (1627715501170711445284395025044413883736156588369414752970002579683115011841 : Int) = Go.Gx.r2 from rfl, to_mont, mm]
      · rw [show (x9 + 1).toNat = x.toNat by congr 1; omega, ex_top (val_pos ib0 ib1 ib2 ib3).1 hE, Int.pow_zero]
        decide
      · intro _
        rw [show (x9 + 1).toNat = x.toNat by congr 1; omega, ex_top (val_pos ib0 ib1 ib2 ib3).1 hE]
  · cases hs

def Γ13 : Tab := ⟨tys, (81, pureCtr powerS) :: Γ12.ctr, [0], gh⟩
theorem Γ13_ok : TabOk Tryd.prog Γ13 := Γ12_ok.cons power_ok
end Go.Gx

/- Powers and inverses, the program's and the document's. -/
namespace Go.Gx
open Go.Proofs Go.Sp
open Go.Sp (prI mlL adL sbL pwL halfI)
set_option linter.unusedVariables false

def em2 : Int := 7237005577332262213973186563042994240857116359379907606001950938285454250987
/-- The inverse. -/
def _root_.Go.Sp.invL (a : Int) : Int := pwL a em2
open Go.Sp (invL)

theorem inv_law {a : Int} (h : a % ell ≠ 0) : a * invL a % ell = 1 := by
  have hb := mod_bd a
  obtain ⟨n, hn⟩ := Int.eq_ofNat_of_zero_le hb.1
  have hL : ell = ((7237005577332262213973186563042994240857116359379907606001950938285454250989 : Nat) : Int) := by kernel_rfl
  have hd : ¬ 7237005577332262213973186563042994240857116359379907606001950938285454250989 ∣ n := fun hd => by
    rcases Nat.eq_zero_or_pos n with h0 | h0
    · rw [hn, h0] at h; exact h rfl
    · have := Nat.le_of_dvd h0 hd
      have h2 := hb.2
      rw [hn, hL] at h2
      omega
  have hf := Nt.fermat Nt.prL hd
  obtain ⟨k, hk⟩ : ∃ k : Nat, k = em2.toNat := ⟨_, rfl⟩
  have hk1 : 7237005577332262213973186563042994240857116359379907606001950938285454250989 - 1 = k + 1 := by rw [hk]; kernel_rfl
  rw [hk1] at hf
  show a * (a ^ em2.toNat % ell) % ell = 1
  rw [← hk, mm2, Int.mul_comm, ← Int.pow_succ, ← pow_mod, hn, hL]
  exact_mod_cast congrArg (fun x : Nat => (x : Int)) hf

theorem pow_zero_mod {a : Int} (h : a % ell = 0) : invL a = 0 := by
  obtain ⟨k, hk⟩ : ∃ k : Nat, k + 1 = em2.toNat := ⟨7237005577332262213973186563042994240857116359379907606001950938285454250986, by kernel_rfl⟩
  show a ^ em2.toNat % ell = 0
  rw [← hk, Int.pow_succ, Int.mul_emod, h, Int.mul_zero, Int.zero_emod]

/-- There is one inverse. -/
theorem inv_one {a x : Int} (hx : 0 ≤ x ∧ x < ell) (h : a * x % ell = 1) : x = invL a := by
  have ha : a % ell ≠ 0 := fun e => by
    rw [Int.mul_emod, e, Int.zero_mul, Int.zero_emod] at h; cases h
  have hi := inv_law ha
  have hb : 0 ≤ invL a ∧ invL a < ell := pow_bd a em2
  have h1 : x % ell = invL a % ell := by
    have e1 : invL a * (a * x) % ell = invL a % ell := by rw [Int.mul_emod, h, Int.mul_one, Int.emod_emod]
    have e2 : x * (a * invL a) % ell = x % ell := by rw [Int.mul_emod, hi, Int.mul_one, Int.emod_emod]
    rw [← e2, ← e1]
    congr 1; ac_rfl
  rw [Int.emod_eq_of_lt hx.1 hx.2, Int.emod_eq_of_lt hb.1 hb.2] at h1
  exact h1

theorem dbl {x : Int} (h : x % 2 = 0) : 2 * halfI x = x := by unfold halfI; rw [if_pos h]; omega
def eh : Int := 3618502788666131106986593281521497120428558179689953803000975469142727125494
theorem ell_eh : ell = 2 * eh + 1 := by decide
theorem dbl' {x : Int} (h : ¬ x % 2 = 0) : 2 * halfI x = x + ell := by
  have he := ell_eh
  unfold halfI; rw [if_neg h]
  generalize ell = L at *
  generalize eh = M at *
  omega
theorem cancel2 {z k : Int} (hk : 2 * z = ell * k) : z % ell = 0 := by
  have h1 : ell * k = 2 * (eh * k) + k := by rw [ell_eh, Int.add_mul, Int.one_mul, Int.mul_assoc]
  have h2 : k = 2 * (z - eh * k) := by
    generalize eh * k = y at *
    generalize ell * k = q at *
    omega
  have h3 : 2 * z = 2 * (ell * (z - eh * k)) := by
    rw [hk, ← Int.mul_left_comm, ← h2]
  have h4 : z = ell * (z - eh * k) := Int.eq_of_mul_eq_mul_left (by decide) h3
  rw [h4, Int.mul_emod_right]
theorem half_cong {a x u : Int} (h : (a * x - u) % ell = 0) (hu : u % 2 = 0) : (a * halfI x - u / 2) % ell = 0 := by
  obtain ⟨k, hk⟩ := Int.dvd_of_emod_eq_zero h
  by_cases hx : x % 2 = 0
  · refine cancel2 (k := k) ?_
    rw [← hk, Int.mul_sub, Int.mul_left_comm, dbl hx, show 2 * (u / 2) = u by omega]
  · refine cancel2 (k := k + a) ?_
    rw [Int.mul_add, ← hk, Int.mul_sub, Int.mul_left_comm, dbl' hx, show 2 * (u / 2) = u by omega, Int.mul_add, Int.mul_comm ell a]
    generalize a * x = p
    generalize a * ell = q
    omega
theorem half_bd {x : Int} (hx : 0 ≤ x ∧ x < ell) : 0 ≤ halfI x ∧ halfI x < ell := by
  have he := ell_lit
  unfold halfI
  split <;> omega
theorem half_even {u : Int} (h : u % 2 = 0) : halfI u = u / 2 := by unfold halfI; rw [if_pos h]
theorem sub_cong {a x y u v : Int} (h1 : (a * x - u) % ell = 0) (h2 : (a * y - v) % ell = 0) : (a * sbL x y - (u - v)) % ell = 0 := by
  unfold sbL
  rw [Int.sub_emod, mm2, ← Int.sub_emod, Int.mul_sub]
  have : a * x - a * y - (u - v) = (a * x - u) - (a * y - v) := by omega
  rw [this, Int.sub_emod, h1, h2]; rfl

theorem gcd_half {u v : Nat} (h : Nat.gcd u v = 1) (hu : u % 2 = 0) : Nat.gcd (u / 2) v = 1 :=
  Nat.Coprime.coprime_dvd_left (Nat.div_dvd_of_dvd (Nat.dvd_of_mod_eq_zero hu)) h
theorem gcd_half' {u v : Nat} (h : Nat.gcd u v = 1) (hv : v % 2 = 0) : Nat.gcd u (v / 2) = 1 := by
  rw [Nat.gcd_comm] at h ⊢
  exact gcd_half h hv

def vc41 (a0 a1 a2 a3 x : Int) (K : SV → Prop) (Q : Nat → List Pv → Prop) : Prop := fnVc Γ13 Tryd.f41 [] [.arr .u64 4 true [a0, a1, a2, a3], .i .u64 ⟨false, x⟩] gh K Q
theorem vc41_eq : ∀ (a0 a1 a2 a3 x : Int) (K : SV → Prop) (Q : Nat → List Pv → Prop), vc41 a0 a1 a2 a3 x K Q = (Need ((0 : Int) ≤ (64 : Int)) ∧ Need ((64 : Int) ≤ (256 : Int)) ∧ Need (val4 [x, (0 : Int), (0 : Int), (0 : Int)] < (18446744073709551616 : Int)) ∧ ∀ (x1 : Int), x1 = w0 (pwL (val4 [a0, a1, a2, a3]) (val4 [x, (0 : Int), (0 : Int), (0 : Int)])) → InR IntKind.u64 x1 → ∀ (x2 : Int), x2 = w1 (pwL (val4 [a0, a1, a2, a3]) (val4 [x, (0 : Int), (0 : Int), (0 : Int)])) → InR IntKind.u64 x2 → ∀ (x3 : Int), x3 = w2 (pwL (val4 [a0, a1, a2, a3]) (val4 [x, (0 : Int), (0 : Int), (0 : Int)])) → InR IntKind.u64 x3 → ∀ (x4 : Int), x4 = w3 (pwL (val4 [a0, a1, a2, a3]) (val4 [x, (0 : Int), (0 : Int), (0 : Int)])) → InR IntKind.u64 x4 → K (SV.arr IntKind.u64 (4 : Nat) true [x1, x2, x3, x4])) := by
  intros
  kernel_rfl

def powS : List SV → Option (List Prop × SV)
  | [.arr .u64 4 _ aL, .i .u64 xV] => some ([], .arr .u64 4 true (words4 (pwL (val4 aL) xV.z)))
  | _ => none

theorem pow_ok : CallOk Tryd.prog gh 41 (pureCtr powS) := by
  refine call_pure (fn := Tryd.f41) Γ13_ok rfl (by kernel_rfl) (by kernel_rfl) (by kernel_rfl) powS fun args P0 Y0 hs hp hf => ?_
  unfold powS at hs
  split at hs
  · rename_i ea aL xV
    simp only [Option.some.injEq, Prod.mk.injEq] at hs
    obtain ⟨rfl, rfl⟩ := hs
    simp only [FactVs, FactV] at hf
    obtain ⟨⟨hal, ha⟩, hx, _⟩ := hf
    obtain ⟨a0, a1, a2, a3, rfl⟩ := len4 hal
    have ia0 := ha a0 (by simp); have ia1 := ha a1 (by simp); have ia2 := ha a2 (by simp); have ia3 := ha a3 (by simp)
    refine ⟨[.arr .u64 4 true [a0, a1, a2, a3], .i .u64 ⟨false, xV.z⟩], [], _, ⟨rfl, rfl, trivial⟩, Nat.le_of_ble_eq_true (by kernel_rfl), vc_noloops ?_⟩
    show vc41 a0 a1 a2 a3 xV.z _ _
    rw [vc41_eq]
    generalize xV.z = x at *
    have hv : val4 [x, 0, 0, 0] = x := by simp only [val4]; omega
    rw [hv]
    simp only [InR] at hx
    refine ⟨need_of (by omega), need_of (by omega), need_of hx.2, fun x1 e1 r1 x2 e2 r2 x3 e3 r3 x4 e4 r4 => ?_⟩
    show [x1, x2, x3, x4] = words4 (pwL (val4 [a0, a1, a2, a3]) x)
    rw [e1, e2, e3, e4]; rfl
  · cases hs

def vc43 (a0 a1 a2 a3 : Int) (K : SV → Prop) (Q : Nat → List Pv → Prop) : Prop := fnVc Γ13 Tryd.f43 [] [.arr .u64 4 true [a0, a1, a2, a3]] gh K Q
theorem vc43_eq : ∀ (a0 a1 a2 a3 : Int) (K : SV → Prop) (Q : Nat → List Pv → Prop), vc43 a0 a1 a2 a3 K Q = (Need ((0 : Int) ≤ (253 : Int)) ∧ Need ((253 : Int) ≤ (256 : Int)) ∧ Need ((7237005577332262213973186563042994240857116359379907606001950938285454250987 : Int) < (14474011154664524427946373126085988481658748083205070504932198000989141204992 : Int)) ∧ ∀ (x1 : Int), x1 = w0 (pwL (val4 [a0, a1, a2, a3]) (7237005577332262213973186563042994240857116359379907606001950938285454250987 : Int)) → InR IntKind.u64 x1 → ∀ (x2 : Int), x2 = w1 (pwL (val4 [a0, a1, a2, a3]) (7237005577332262213973186563042994240857116359379907606001950938285454250987 : Int)) → InR IntKind.u64 x2 → ∀ (x3 : Int), x3 = w2 (pwL (val4 [a0, a1, a2, a3]) (7237005577332262213973186563042994240857116359379907606001950938285454250987 : Int)) → InR IntKind.u64 x3 → ∀ (x4 : Int), x4 = w3 (pwL (val4 [a0, a1, a2, a3]) (7237005577332262213973186563042994240857116359379907606001950938285454250987 : Int)) → InR IntKind.u64 x4 → K (SV.arr IntKind.u64 (4 : Nat) true [x1, x2, x3, x4])) := by
  intros
  kernel_rfl

def invS : List SV → Option (List Prop × SV)
  | [.arr .u64 4 _ aL] => some ([], .arr .u64 4 true (words4 (invL (val4 aL))))
  | _ => none

theorem inv_ok : CallOk Tryd.prog gh 43 (pureCtr invS) := by
  refine call_pure (fn := Tryd.f43) Γ13_ok rfl (by kernel_rfl) (by kernel_rfl) (by kernel_rfl) invS fun args P0 Y0 hs hp hf => ?_
  unfold invS at hs
  split at hs
  · rename_i ea aL
    simp only [Option.some.injEq, Prod.mk.injEq] at hs
    obtain ⟨rfl, rfl⟩ := hs
    simp only [FactVs, FactV] at hf
    obtain ⟨⟨hal, ha⟩, _⟩ := hf
    obtain ⟨a0, a1, a2, a3, rfl⟩ := len4 hal
    have ia0 := ha a0 (by simp); have ia1 := ha a1 (by simp); have ia2 := ha a2 (by simp); have ia3 := ha a3 (by simp)
    refine ⟨[.arr .u64 4 true [a0, a1, a2, a3]], [], _, ⟨rfl, trivial⟩, Nat.le_of_ble_eq_true (by kernel_rfl), vc_noloops ?_⟩
    show vc43 a0 a1 a2 a3 _ _
    rw [vc43_eq]
    refine ⟨need_of (by omega), need_of (by omega), need_of (by omega), fun x1 e1 r1 x2 e2 r2 x3 e3 r3 x4 e4 r4 => ?_⟩
    show [x1, x2, x3, x4] = words4 (invL (val4 [a0, a1, a2, a3]))
    rw [e1, e2, e3, e4]; rfl
  · cases hs

def L42 : Loops := [(3, ⟨[.any, .i .u64 ⟨false, 0⟩, .p 1000 0, .any, .p 1001 0, .p 1003 0, .i .i64 ⟨false, 0⟩] ++ reps .any 17, gh ++ [(1000, .segs false [.arr .u64 4 false []]), (1001, .segs false [.arr .u64 4 false []]), (1003, .segs false [.arr .u64 4 false []])], 1006⟩)]
def vc42 (a0 a1 a2 a3 x : Int) (K : SV → Prop) (Q : Nat → List Pv → Prop) : Prop := fnVc Γ12 Tryd.f42 L42 [.arr .u64 4 true [a0, a1, a2, a3], .i .u64 ⟨false, x⟩] gh K Q
def lc42 (e i : Int) (a r o : List Int) (K : SV → Prop) (Q : Nat → List Pv → Prop) : Prop := loopVc Γ12 Tryd.f42 L42 3 [.z e, .z i, .l a, .l r, .l o] K Q
theorem vc42_eq : ∀ (a0 a1 a2 a3 x : Int) (K : SV → Prop) (Q : Nat → List Pv → Prop), vc42 a0 a1 a2 a3 x K Q = ∀ (x1 : Int), x1 = (1 : Int) → InR IntKind.u64 x1 → ∀ (x2 : Int), x2 = (0 : Int) → InR IntKind.u64 x2 → ∀ (x3 : Int), x3 = (0 : Int) → InR IntKind.u64 x3 → ∀ (x4 : Int), x4 = (0 : Int) → InR IntKind.u64 x4 → Same Tryd.f42 (3 : Nat) (itemsOf Tryd.f42 (3 : Nat)) ∧ Q (3 : Nat) [Pv.z x, Pv.z (63 : Int), Pv.l [a0, a1, a2, a3], Pv.l [(0 : Int), (0 : Int), (0 : Int), (0 : Int)], Pv.l [x1, x2, x3, x4]] := by
  intros
  kernel_rfl
theorem lc42_eq : ∀ (e i : Int) (a r o : List Int) (K : SV → Prop) (Q : Nat → List Pv → Prop), lc42 e i a r o K Q = ((decide (i ≥ (0 : Int)) = true → ∀ (x1 : Int), x1 = w0 (mlL (val4 o) (val4 o)) → InR IntKind.u64 x1 → ∀ (x2 : Int), x2 = w1 (mlL (val4 o) (val4 o)) → InR IntKind.u64 x2 → ∀ (x3 : Int), x3 = w2 (mlL (val4 o) (val4 o)) → InR IntKind.u64 x3 → ∀ (x4 : Int), x4 = w3 (mlL (val4 o) (val4 o)) → InR IntKind.u64 x4 → Need ((0 : Int) ≤ i) ∧ ∀ (x5 : Int), x5 = shrI IntKind.u64 e i → InR IntKind.u64 x5 → ∀ (x6 : Int), x6 = andI IntKind.u64 x5 (1 : Int) → InR IntKind.u64 x6 → ((x6 == (1 : Int)) = true → ∀ (x7 : Int), x7 = w0 (mlL (val4 [x1, x2, x3, x4]) (val4 a)) → InR IntKind.u64 x7 → ∀ (x8 : Int), x8 = w1 (mlL (val4 [x1, x2, x3, x4]) (val4 a)) → InR IntKind.u64 x8 → ∀ (x9 : Int), x9 = w2 (mlL (val4 [x1, x2, x3, x4]) (val4 a)) → InR IntKind.u64 x9 → ∀ (x10 : Int), x10 = w3 (mlL (val4 [x1, x2, x3, x4]) (val4 a)) → InR IntKind.u64 x10 → ∀ (x11 : Int), x11 = IntKind.i64.wrap (i - (1 : Int)) → InR IntKind.i64 x11 → Same Tryd.f42 (3 : Nat) (itemsOf Tryd.f42 (3 : Nat)) ∧ Q (3 : Nat) [Pv.z e, Pv.z x11, Pv.l a, Pv.l r, Pv.l [x7, x8, x9, x10]]) ∧ ((x6 == (1 : Int)) = false → ∀ (x12 : Int), x12 = IntKind.i64.wrap (i - (1 : Int)) → InR IntKind.i64 x12 → Same Tryd.f42 (3 : Nat) (itemsOf Tryd.f42 (3 : Nat)) ∧ Q (3 : Nat) [Pv.z e, Pv.z x12, Pv.l a, Pv.l r, Pv.l [x1, x2, x3, x4]])) ∧ (decide (i ≥ (0 : Int)) = false → K (SV.arr IntKind.u64 (4 : Nat) false o))) := by
  intros
  kernel_rfl

theorem pw_mul (a : Int) (m n : Nat) : mlL (a ^ m % ell) (a ^ n % ell) = a ^ (m + n) % ell := by
  unfold mlL
  rw [← Int.mul_emod, Int.pow_add]
theorem pw_mul1 (a : Int) (m : Nat) : mlL (a ^ m % ell) a = a ^ (m + 1) % ell := by
  unfold mlL
  rw [mm, Int.pow_succ]

/-- One round of the document's power. -/
theorem round42 {i e Av : Int} {a r o : List Int} {K : SV → Prop} {Q : Nat → List Pv → Prop} (hi : 0 ≤ i ∧ i < 64) (he : InR .u64 e) (ha : val4 a = Av) (ho : o = words4 (Av ^ ex e (i.toNat + 1) % ell))
    (h : Q 3 [.z e, .z (i - 1), .l a, .l r, .l (words4 (Av ^ ex e i.toNat % ell))]) : lc42 e i a r o K Q := by
  rw [lc42_eq]
  have hsc := ex_succ he.1 i.toNat
  have hw : IntKind.i64.wrap (i - 1) = i - 1 := wrap_i64 (by omega)
  have hov : val4 o = Av ^ ex e (i.toNat + 1) % ell := by rw [ho]; exact (val_mod _).1
  refine ⟨fun _ x1 e1 r1 x2 e2 r2 x3 e3 r3 x4 e4 r4 => ⟨hi.1, fun x5 e5 r5 x6 e6 r6 => ?_⟩, fun hn => by have := of_decide_eq_false hn; omega⟩
  have hsq := val_in e1 e2 e3 e4 (mul_bd _ _).1 (lt_r (mul_bd _ _).2)
  have hsw : [x1, x2, x3, x4] = words4 (Av ^ (2 * ex e (i.toNat + 1)) % ell) := by
    rw [hov, pw_mul, ← Nat.two_mul] at e1 e2 e3 e4
    rw [e1, e2, e3, e4]; rfl
  rw [hov, pw_mul, ← Nat.two_mul] at hsq
  obtain ⟨k, hk⟩ : ∃ k : Nat, (k : Int) = i := ⟨i.toNat, by omega⟩
  have hbit : x6 = e / ((2 ^ i.toNat : Nat) : Int) % 2 := by
    rw [and1 r5, e5, ← hk, shrI_u64 e k (by omega)] at e6
    rw [e6, ← hk]; rfl
  refine ⟨fun h1 => ?_, fun h1 => ?_⟩
  · have h1 : x6 = 1 := by simpa using h1
    intro x7 e7 r7 x8 e8 r8 x9 e9 r9 x10 e10 r10 x11 e11 r11
    refine ⟨rfl, ?_⟩
    rw [hsq, ha, pw_mul1] at e7 e8 e9 e10
    have : [x7, x8, x9, x10] = words4 (Av ^ ex e i.toNat % ell) := by
      rw [hsc, ← hbit, h1, e7, e8, e9, e10]; rfl
    rw [this, e11, hw]; exact h
  · have h1 : ¬ x6 = 1 := by simpa using h1
    intro x12 e12 r12
    refine ⟨rfl, ?_⟩
    have h0 : x6 = 0 := by omega
    have : [x1, x2, x3, x4] = words4 (Av ^ ex e i.toNat % ell) := by
      rw [hsc, ← hbit, h0, hsw]; rfl
    rw [this, e12, hw]; exact h

def inv42 (Av e : Int) (la : List Int) (key : Nat) (ps : List Pv) (m : Nat) : Prop :=
  key = 3 ∧ ∃ i r, ps = [.z e, .z i, .l la, .l r, .l (words4 (Av ^ ex e (i + 1).toNat % ell))] ∧ (m : Int) = i + 1 ∧ i < 64

def rpowS : List SV → Option (List Prop × SV)
  | [.arr .u64 4 _ aL, .i .u64 xV] => some ([], .arr .u64 4 true (words4 (pwL (val4 aL) xV.z)))
  | _ => none

theorem rpow_ok : CallOk Tryd.prog gh 42 (pureCtr rpowS) := by
  refine call_pure (fn := Tryd.f42) Γ12_ok rfl (by kernel_rfl) (by kernel_rfl) (by kernel_rfl) rpowS fun args P0 Y0 hs hp hf => ?_
  unfold rpowS at hs
  split at hs
  · rename_i ea aL xV
    simp only [Option.some.injEq, Prod.mk.injEq] at hs
    obtain ⟨rfl, rfl⟩ := hs
    simp only [FactVs, FactV] at hf
    obtain ⟨⟨hal, ha⟩, hx, _⟩ := hf
    obtain ⟨xT, x⟩ := xV
    dsimp only at *
    obtain ⟨a0, a1, a2, a3, rfl⟩ := len4 hal
    have ia0 := ha a0 (by simp); have ia1 := ha a1 (by simp); have ia2 := ha a2 (by simp); have ia3 := ha a3 (by simp)
    refine ⟨[.arr .u64 4 true [a0, a1, a2, a3], .i .u64 ⟨false, x⟩], L42, inv42 (val4 [a0, a1, a2, a3]) x [a0, a1, a2, a3], ⟨rfl, rfl, trivial⟩, Nat.le_of_ble_eq_true (by kernel_rfl), ?_, ?_, ?_⟩
    · intro k t ht g hg
      simp only [L42, List.mem_cons, List.not_mem_nil, or_false, Prod.mk.injEq] at ht
      have hg : g ∈ keysOf gh := hg
      simp only [gh, keysOf, List.mem_singleton] at hg
      subst hg
      obtain ⟨rfl, rfl⟩ := ht
      exact ⟨by omega, rfl⟩
    · rintro key ps m ⟨rfl, i, r, rfl, hm, hlt⟩
      show lc42 x i [a0, a1, a2, a3] r (words4 (val4 [a0, a1, a2, a3] ^ ex x (i + 1).toNat % ell)) _ _
      rcases Int.lt_or_le i 0 with hi | hi
      · rw [lc42_eq]
        refine ⟨fun h => by have := of_decide_eq_true h; omega, fun _ => ?_⟩
        have hi1 : i = -1 := by omega
        subst hi1
        rw [show (-1 + 1 : Int).toNat = 0 from rfl, ex_zero hx.1]
        exact rfl
      · have hk : (i + 1).toNat = i.toNat + 1 := by omega
        rw [hk]
        refine round42 ⟨hi, hlt⟩ hx rfl rfl ⟨m - 1, by omega, rfl, i - 1, r, ?_, by omega, by omega⟩
        rw [show (i - 1 + 1).toNat = i.toNat by congr 1; omega]
    · show vc42 a0 a1 a2 a3 x _ _
      rw [vc42_eq]
      intro x1 e1 r1 x2 e2 r2 x3 e3 r3 x4 e4 r4
      refine ⟨rfl, 64, rfl, 63, [0, 0, 0, 0], ?_, by omega, by omega⟩
      rw [show (63 + 1 : Int).toNat = 64 from rfl, ex_top hx.1 hx.2, Int.pow_zero, e1, e2, e3, e4]
      rfl
  · cases hs

def P44 : St := ⟨[.any, .p 1000 0, .p 1001 0, .p 1005 0, .p 1008 0, .p 1011 0, .p 1014 0, .p 1017 0] ++ reps .any 58, gh ++ [(1000, .segs false [.arr .u64 4 false []]), (1001, .segs false [.arr .u64 4 false []]), (1005, .segs false [.arr .u64 4 false []]), (1008, .segs false [.arr .u64 4 false []]), (1011, .segs false [.arr .u64 4 false []]), (1014, .segs false [.arr .u64 4 false []]), (1017, .segs false [.arr .u64 4 false []])], 1019⟩
def L44 : Loops := [(8, P44), (9, P44), (12, P44)]
def vc44 (a0 a1 a2 a3 : Int) (K : SV → Prop) (Q : Nat → List Pv → Prop) : Prop := fnVc Γ12 Tryd.f44 L44 [.arr .u64 4 true [a0, a1, a2, a3]] gh K Q
def lc44a (a r u v x y o : List Int) (K : SV → Prop) (Q : Nat → List Pv → Prop) : Prop := loopVc Γ12 Tryd.f44 L44 8 [.l a, .l r, .l u, .l v, .l x, .l y, .l o] K Q
def lc44b (a r u v x y o : List Int) (K : SV → Prop) (Q : Nat → List Pv → Prop) : Prop := loopVc Γ12 Tryd.f44 L44 9 [.l a, .l r, .l u, .l v, .l x, .l y, .l o] K Q
def lc44c (a r u v x y o : List Int) (K : SV → Prop) (Q : Nat → List Pv → Prop) : Prop := loopVc Γ12 Tryd.f44 L44 12 [.l a, .l r, .l u, .l v, .l x, .l y, .l o] K Q
theorem vc44_eq : ∀ (a0 a1 a2 a3 : Int) (K : SV → Prop) (Q : Nat → List Pv → Prop), vc44 a0 a1 a2 a3 K Q = ∀ (x1 : Bool), x1 = ([a0, a1, a2, a3] == [(0 : Int), (0 : Int), (0 : Int), (0 : Int)]) → (x1 = true → K (SV.arr IntKind.u64 (4 : Nat) true [a0, a1, a2, a3])) ∧ (x1 = false → ∀ (x2 : Int), x2 = (6346243789798364141 : Int) → InR IntKind.u64 x2 → ∀ (x3 : Int), x3 = (1503914060200516822 : Int) → InR IntKind.u64 x3 → ∀ (x4 : Int), x4 = (0 : Int) → InR IntKind.u64 x4 → ∀ (x5 : Int), x5 = (1152921504606846976 : Int) → InR IntKind.u64 x5 → ∀ (x6 : Int), x6 = (1 : Int) → InR IntKind.u64 x6 → ∀ (x7 : Int), x7 = (0 : Int) → InR IntKind.u64 x7 → ∀ (x8 : Int), x8 = (0 : Int) → InR IntKind.u64 x8 → ∀ (x9 : Int), x9 = (0 : Int) → InR IntKind.u64 x9 → ∀ (x10 : Int), x10 = (1 : Int) → InR IntKind.u64 x10 → ∀ (x11 : Int), x11 = (0 : Int) → InR IntKind.u64 x11 → ∀ (x12 : Int), x12 = (0 : Int) → InR IntKind.u64 x12 → ∀ (x13 : Int), x13 = (0 : Int) → InR IntKind.u64 x13 → Same Tryd.f44 (8 : Nat) (itemsOf Tryd.f44 (8 : Nat)) ∧ Q (8 : Nat) [Pv.l [a0, a1, a2, a3], Pv.l [(0 : Int), (0 : Int), (0 : Int), (0 : Int)], Pv.l [a0, a1, a2, a3], Pv.l [x2, x3, x4, x5], Pv.l [x6, x7, x8, x9], Pv.l [(0 : Int), (0 : Int), (0 : Int), (0 : Int)], Pv.l [x10, x11, x12, x13]]) := by
  intros
  kernel_rfl
theorem lc44a_eq : ∀ (a r u v x y o : List Int) (K : SV → Prop) (Q : Nat → List Pv → Prop), lc44a a r u v x y o K Q = (((!u == o) = true → ((!v == o) = true → Same Tryd.f44 (9 : Nat) (itemsOf Tryd.f44 (9 : Nat)) ∧ Q (9 : Nat) [Pv.l a, Pv.l r, Pv.l u, Pv.l v, Pv.l x, Pv.l y, Pv.l o]) ∧ ((!v == o) = false → ((u == o) = true → K (SV.arr IntKind.u64 (4 : Nat) false x)) ∧ ((u == o) = false → K (SV.arr IntKind.u64 (4 : Nat) false y)))) ∧ ((!u == o) = false → ((u == o) = true → K (SV.arr IntKind.u64 (4 : Nat) false x)) ∧ ((u == o) = false → K (SV.arr IntKind.u64 (4 : Nat) false y)))) := by
  intros
  kernel_rfl
theorem lc44b_eq : ∀ (a r u v x y o : List Int) (K : SV → Prop) (Q : Nat → List Pv → Prop), lc44b a r u v x y o K Q = ∀ (x1 : Int), x1 = andI IntKind.u64 (u.getD (0 : Nat) (0 : Int)) (1 : Int) → InR IntKind.u64 x1 → ((x1 == (0 : Int)) = true → ∀ (x2 : Int), x2 = w0 (halfI (val4 u)) → InR IntKind.u64 x2 → ∀ (x3 : Int), x3 = w1 (halfI (val4 u)) → InR IntKind.u64 x3 → ∀ (x4 : Int), x4 = w2 (halfI (val4 u)) → InR IntKind.u64 x4 → ∀ (x5 : Int), x5 = w3 (halfI (val4 u)) → InR IntKind.u64 x5 → ∀ (x6 : Int), x6 = w0 (halfI (val4 x)) → InR IntKind.u64 x6 → ∀ (x7 : Int), x7 = w1 (halfI (val4 x)) → InR IntKind.u64 x7 → ∀ (x8 : Int), x8 = w2 (halfI (val4 x)) → InR IntKind.u64 x8 → ∀ (x9 : Int), x9 = w3 (halfI (val4 x)) → InR IntKind.u64 x9 → Same Tryd.f44 (9 : Nat) (itemsOf Tryd.f44 (9 : Nat)) ∧ Q (9 : Nat) [Pv.l a, Pv.l r, Pv.l [x2, x3, x4, x5], Pv.l v, Pv.l [x6, x7, x8, x9], Pv.l y, Pv.l o]) ∧ ((x1 == (0 : Int)) = false → Same Tryd.f44 (12 : Nat) (itemsOf Tryd.f44 (12 : Nat)) ∧ Q (12 : Nat) [Pv.l a, Pv.l r, Pv.l u, Pv.l v, Pv.l x, Pv.l y, Pv.l o]) := by
  intros
  kernel_rfl
theorem lc44c_eq : ∀ (a r u v x y o : List Int) (K : SV → Prop) (Q : Nat → List Pv → Prop), lc44c a r u v x y o K Q = ∀ (x1 : Int), x1 = andI IntKind.u64 (v.getD (0 : Nat) (0 : Int)) (1 : Int) → InR IntKind.u64 x1 → ((x1 == (0 : Int)) = true → ∀ (x2 : Int), x2 = w0 (halfI (val4 v)) → InR IntKind.u64 x2 → ∀ (x3 : Int), x3 = w1 (halfI (val4 v)) → InR IntKind.u64 x3 → ∀ (x4 : Int), x4 = w2 (halfI (val4 v)) → InR IntKind.u64 x4 → ∀ (x5 : Int), x5 = w3 (halfI (val4 v)) → InR IntKind.u64 x5 → ∀ (x6 : Int), x6 = w0 (halfI (val4 y)) → InR IntKind.u64 x6 → ∀ (x7 : Int), x7 = w1 (halfI (val4 y)) → InR IntKind.u64 x7 → ∀ (x8 : Int), x8 = w2 (halfI (val4 y)) → InR IntKind.u64 x8 → ∀ (x9 : Int), x9 = w3 (halfI (val4 y)) → InR IntKind.u64 x9 → Same Tryd.f44 (12 : Nat) (itemsOf Tryd.f44 (12 : Nat)) ∧ Q (12 : Nat) [Pv.l a, Pv.l r, Pv.l u, Pv.l [x2, x3, x4, x5], Pv.l x, Pv.l [x6, x7, x8, x9], Pv.l o]) ∧ ((x1 == (0 : Int)) = false → ∀ (x10 : Bool), x10 = decide (val4 u < val4 v) → (x10 = true → ∀ (x11 : Int), x11 = w0 (val4 v - val4 u) → InR IntKind.u64 x11 → ∀ (x12 : Int), x12 = w1 (val4 v - val4 u) → InR IntKind.u64 x12 → ∀ (x13 : Int), x13 = w2 (val4 v - val4 u) → InR IntKind.u64 x13 → ∀ (x14 : Int), x14 = w3 (val4 v - val4 u) → InR IntKind.u64 x14 → ∀ (x15 : Int), x15 = ltI (val4 v) (val4 u) → InR IntKind.u64 x15 → Need (val4 y < (7237005577332262213973186563042994240857116359379907606001950938285454250989 : Int)) ∧ Need (val4 x < (7237005577332262213973186563042994240857116359379907606001950938285454250989 : Int)) ∧ ∀ (x16 : Int), x16 = w0 (sbL (val4 y) (val4 x)) → InR IntKind.u64 x16 → ∀ (x17 : Int), x17 = w1 (sbL (val4 y) (val4 x)) → InR IntKind.u64 x17 → ∀ (x18 : Int), x18 = w2 (sbL (val4 y) (val4 x)) → InR IntKind.u64 x18 → ∀ (x19 : Int), x19 = w3 (sbL (val4 y) (val4 x)) → InR IntKind.u64 x19 → Same Tryd.f44 (8 : Nat) (itemsOf Tryd.f44 (8 : Nat)) ∧ Q (8 : Nat) [Pv.l a, Pv.l r, Pv.l u, Pv.l [x11, x12, x13, x14], Pv.l x, Pv.l [x16, x17, x18, x19], Pv.l o]) ∧ (x10 = false → ∀ (x20 : Int), x20 = w0 (val4 u - val4 v) → InR IntKind.u64 x20 → ∀ (x21 : Int), x21 = w1 (val4 u - val4 v) → InR IntKind.u64 x21 → ∀ (x22 : Int), x22 = w2 (val4 u - val4 v) → InR IntKind.u64 x22 → ∀ (x23 : Int), x23 = w3 (val4 u - val4 v) → InR IntKind.u64 x23 → ∀ (x24 : Int), x24 = ltI (val4 u) (val4 v) → InR IntKind.u64 x24 → Need (val4 x < (7237005577332262213973186563042994240857116359379907606001950938285454250989 : Int)) ∧ Need (val4 y < (7237005577332262213973186563042994240857116359379907606001950938285454250989 : Int)) ∧ ∀ (x25 : Int), x25 = w0 (sbL (val4 x) (val4 y)) → InR IntKind.u64 x25 → ∀ (x26 : Int), x26 = w1 (sbL (val4 x) (val4 y)) → InR IntKind.u64 x26 → ∀ (x27 : Int), x27 = w2 (sbL (val4 x) (val4 y)) → InR IntKind.u64 x27 → ∀ (x28 : Int), x28 = w3 (sbL (val4 x) (val4 y)) → InR IntKind.u64 x28 → Same Tryd.f44 (8 : Nat) (itemsOf Tryd.f44 (8 : Nat)) ∧ Q (8 : Nat) [Pv.l a, Pv.l r, Pv.l [x20, x21, x22, x23], Pv.l v, Pv.l [x25, x26, x27, x28], Pv.l y, Pv.l o])) := by
  intros
  kernel_rfl

/-- The numbers of the loops, at each head. -/
def good44 (Av : Int) (key : Nat) (u v : Nat) (x y : Int) : Prop :=
  (0 ≤ x ∧ x < ell) ∧ (0 ≤ y ∧ y < ell) ∧ (u : Int) < ell ∧ (v : Int) ≤ ell ∧ (Av * x - u) % ell = 0 ∧ (Av * y - v) % ell = 0 ∧ Nat.gcd u v = 1 ∧
    ((key = 8) ∨ (key = 9 ∧ 0 < u ∧ 0 < v) ∨ (key = 12 ∧ 0 < v ∧ u % 2 = 1))
def meas44 (key u v : Nat) : Nat := 3 * (u + v) + (if key = 8 then 2 else if key = 9 then 1 else 0)
def inv44 (Av : Int) (key : Nat) (ps : List Pv) (m : Nat) : Prop :=
  ∃ a r u v x y, ps = [.l a, .l r, .l (words4 (u : Nat)), .l (words4 (v : Nat)), .l (words4 x), .l (words4 y), .l (words4 1)] ∧ good44 Av key u v x y ∧ m = meas44 key u v

theorem val_nat {n : Int} (h0 : 0 ≤ n) (h : n < 115792089237316195423570985008687907853269984665640564039457584007913129639936) : val4 (words4 n) = n := by
  rw [val_words, Int.emod_eq_of_lt h0 h]
theorem words_eqb {m n : Int} (hm : 0 ≤ m ∧ m < 115792089237316195423570985008687907853269984665640564039457584007913129639936) (hn : 0 ≤ n ∧ n < 115792089237316195423570985008687907853269984665640564039457584007913129639936) : (words4 m == words4 n) = decide (m = n) := by
  rw [Bool.eq_iff_iff, beq_iff_eq, decide_eq_true_eq]
  constructor
  · intro h
    rw [← val_nat hm.1 hm.2, h, val_nat hn.1 hn.2]
  · rintro rfl; rfl
theorem getD0 (n : Int) : (words4 n).getD 0 0 = w0 n := rfl
theorem w0_in (n : Int) : InR .u64 (w0 n) := by unfold w0; simp only [InR]; omega
theorem low_bit {n x1 : Int} (e1 : x1 = andI .u64 ((words4 n).getD 0 0) 1) : x1 = n % 2 := by
  rw [getD0, and1 (w0_in n)] at e1
  rw [e1]; unfold w0; omega
theorem ans44 {Av x u : Int} (hx : 0 ≤ x ∧ x < ell) (h : (Av * x - u) % ell = 0) (hu : u = 1) : x = invL Av := by
  refine inv_one hx ?_
  subst hu
  have he := ell_lit
  generalize Av * x = z at h
  rw [he] at h ⊢
  omega
theorem head44 {Av : Int} {a r : List Int} {u v : Nat} {x y : Int} {K : SV → Prop} {Q : Nat → List Pv → Prop} (g : good44 Av 8 u v x y) (hK : ∀ z, eqV z (.arr .u64 4 true (words4 (invL Av))) → K z)
    (h : good44 Av 9 u v x y → Q 9 [.l a, .l r, .l (words4 u), .l (words4 v), .l (words4 x), .l (words4 y), .l (words4 1)]) : lc44a a r (words4 u) (words4 v) (words4 x) (words4 y) (words4 1) K Q := by
  rw [lc44a_eq]
  obtain ⟨hx, hy, hu, hv, cx, cy, hg, _⟩ := g
  have he := ell_lit
  have k1 := words_eqb (m := u) (n := 1) ⟨by omega, by omega⟩ ⟨by omega, by omega⟩
  have k2 := words_eqb (m := v) (n := 1) ⟨by omega, by omega⟩ ⟨by omega, by omega⟩
  rw [k1, k2]
  by_cases h1 : (u : Int) = 1
  · simp only [h1, decide_true]
    refine ⟨fun h => by simp at h, fun _ => ⟨fun _ => hK _ ?_, fun h => by simp at h⟩⟩
    rw [ans44 hx cx h1]; exact rfl
  · by_cases h2 : (v : Int) = 1
    · simp only [h1, h2, decide_true, decide_false]
      refine ⟨fun _ => ⟨fun h => by simp at h, fun _ => ⟨fun h => by simp at h, fun _ => hK _ ?_⟩⟩, fun h => by simp at h⟩
      rw [ans44 hy cy h2]; exact rfl
    · simp only [h1, h2, decide_false]
      refine ⟨fun _ => ⟨fun _ => ⟨rfl, h ⟨hx, hy, hu, hv, cx, cy, hg, .inr (.inl ⟨rfl, ?_, ?_⟩)⟩⟩, fun h => by simp at h⟩, fun h => by simp at h⟩
      · rcases Nat.eq_zero_or_pos u with h0 | h0
        · subst h0; rw [Nat.gcd_zero_left] at hg; omega
        · exact h0
      · rcases Nat.eq_zero_or_pos v with h0 | h0
        · subst h0; rw [Nat.gcd_zero_right] at hg; omega
        · exact h0

theorem nat_half (u : Nat) (h : (u : Int) % 2 = 0) : halfI (u : Int) = ((u / 2 : Nat) : Int) := by rw [half_even h]; omega

theorem u44 {Av : Int} {a r : List Int} {u v : Nat} {x y : Int} {K : SV → Prop} {Q : Nat → List Pv → Prop} (g : good44 Av 9 u v x y)
    (h : ∀ key u' x', good44 Av key u' v x' y → meas44 key u' v < meas44 9 u v → Q key [.l a, .l r, .l (words4 (u' : Nat)), .l (words4 v), .l (words4 x'), .l (words4 y), .l (words4 1)]) : lc44b a r (words4 u) (words4 v) (words4 x) (words4 y) (words4 1) K Q := by
  rw [lc44b_eq]
  obtain ⟨hx, hy, hu, hv, cx, cy, hg, hc⟩ := g
  have he := ell_lit
  have hu0 : 0 < u ∧ 0 < v := by rcases hc with hc | hc | hc <;> omega
  have vu : val4 (words4 u) = u := val_nat (by omega) (by omega)
  have vx : val4 (words4 x) = x := val_nat hx.1 (by omega)
  rw [vu, vx]
  intro x1 e1 r1
  have hb := low_bit e1
  refine ⟨fun h1 => ?_, fun h1 => ?_⟩
  · have h1 : x1 = 0 := by simpa using h1
    intro x2 e2 r2 x3 e3 r3 x4 e4 r4 x5 e5 r5 x6 e6 r6 x7 e7 r7 x8 e8 r8 x9 e9 r9
    refine ⟨rfl, ?_⟩
    rw [nat_half u (by omega)] at e2 e3 e4 e5
    have w1 : [x2, x3, x4, x5] = words4 ((u / 2 : Nat) : Int) := by rw [e2, e3, e4, e5]; rfl
    have w2 : [x6, x7, x8, x9] = words4 (halfI x) := by rw [e6, e7, e8, e9]; rfl
    rw [w1, w2]
    refine h 9 (u / 2) _ ⟨half_bd hx, hy, by omega, hv, ?_, cy, gcd_half hg (by omega), .inr (.inl ⟨rfl, by omega, hu0.2⟩)⟩ (by unfold meas44; simp; omega)
    have := half_cong cx (by omega)
    rwa [show ((u / 2 : Nat) : Int) = (u : Int) / 2 by omega]
  · have h1 : ¬ x1 = 0 := by simpa using h1
    exact ⟨rfl, h 12 u x ⟨hx, hy, hu, hv, cx, cy, hg, .inr (.inr ⟨rfl, hu0.2, by omega⟩)⟩ (by unfold meas44; simp)⟩

theorem v44 {Av : Int} {a r : List Int} {u v : Nat} {x y : Int} {K : SV → Prop} {Q : Nat → List Pv → Prop} (g : good44 Av 12 u v x y)
    (h : ∀ key u' v' x' y', good44 Av key u' v' x' y' → meas44 key u' v' < meas44 12 u v → Q key [.l a, .l r, .l (words4 (u' : Nat)), .l (words4 (v' : Nat)), .l (words4 x'), .l (words4 y'), .l (words4 1)]) : lc44c a r (words4 u) (words4 v) (words4 x) (words4 y) (words4 1) K Q := by
  rw [lc44c_eq, ← ell_lit]
  obtain ⟨hx, hy, hu, hv, cx, cy, hg, hc⟩ := g
  have he := ell_lit
  have hu0 : u % 2 = 1 ∧ 0 < v := by rcases hc with hc | hc | hc <;> omega
  have vu : val4 (words4 u) = u := val_nat (by omega) (by omega)
  have vv : val4 (words4 v) = v := val_nat (by omega) (by omega)
  have vx : val4 (words4 x) = x := val_nat hx.1 (by omega)
  have vy : val4 (words4 y) = y := val_nat hy.1 (by omega)
  rw [vu, vv, vx, vy]
  intro x1 e1 r1
  have hb := low_bit e1
  refine ⟨fun h1 => ?_, fun h1 => ?_⟩
  · have h1 : x1 = 0 := by simpa using h1
    intro x2 e2 r2 x3 e3 r3 x4 e4 r4 x5 e5 r5 x6 e6 r6 x7 e7 r7 x8 e8 r8 x9 e9 r9
    refine ⟨rfl, ?_⟩
    rw [nat_half v (by omega)] at e2 e3 e4 e5
    have w1 : [x2, x3, x4, x5] = words4 ((v / 2 : Nat) : Int) := by rw [e2, e3, e4, e5]; rfl
    have w2 : [x6, x7, x8, x9] = words4 (halfI y) := by rw [e6, e7, e8, e9]; rfl
    rw [w1, w2]
    refine h 12 u (v / 2) x _ ⟨hx, half_bd hy, hu, by omega, cx, ?_, gcd_half' hg (by omega), .inr (.inr ⟨rfl, by omega, hu0.1⟩)⟩ (by unfold meas44; simp; omega)
    have := half_cong cy (by omega)
    rwa [show ((v / 2 : Nat) : Int) = (v : Int) / 2 by omega]
  · have h1 : ¬ x1 = 0 := by simpa using h1
    intro x10 e10
    refine ⟨fun h2 => ?_, fun h2 => ?_⟩
    · have h2 : u < v := by rw [e10] at h2; have := of_decide_eq_true h2; omega
      intro x11 e11 r11 x12 e12 r12 x13 e13 r13 x14 e14 r14 x15 e15 r15
      refine ⟨hy.2, hx.2, fun x16 e16 r16 x17 e17 r17 x18 e18 r18 x19 e19 r19 => ⟨rfl, ?_⟩⟩
      have w1 : [x11, x12, x13, x14] = words4 ((v - u : Nat) : Int) := by
        rw [e11, e12, e13, e14, show ((v - u : Nat) : Int) = (v : Int) - u by omega]; rfl
      have w2 : [x16, x17, x18, x19] = words4 (sbL y x) := by rw [e16, e17, e18, e19]; rfl
      rw [w1, w2]
      refine h 8 u (v - u) x _ ⟨hx, sub_bd _ _, hu, by omega, cx, ?_, ?_, .inl rfl⟩ (by unfold meas44; simp; omega)
      · rw [show ((v - u : Nat) : Int) = (v : Int) - u by omega]; exact sub_cong cy cx
      · rw [Nat.gcd_sub_self_right (by omega)]; exact hg
    · have h2 : v ≤ u := by rw [e10] at h2; have := of_decide_eq_false h2; omega
      intro x20 e20 r20 x21 e21 r21 x22 e22 r22 x23 e23 r23 x24 e24 r24
      refine ⟨hx.2, hy.2, fun x25 e25 r25 x26 e26 r26 x27 e27 r27 x28 e28 r28 => ⟨rfl, ?_⟩⟩
      have w1 : [x20, x21, x22, x23] = words4 ((u - v : Nat) : Int) := by
        rw [e20, e21, e22, e23, show ((u - v : Nat) : Int) = (u : Int) - v by omega]; rfl
      have w2 : [x25, x26, x27, x28] = words4 (sbL x y) := by rw [e25, e26, e27, e28]; rfl
      rw [w1, w2]
      refine h 8 (u - v) v _ y ⟨sub_bd _ _, hy, by omega, hv, ?_, cy, ?_, .inl rfl⟩ (by unfold meas44; simp; omega)
      · rw [show ((u - v : Nat) : Int) = (u : Int) - v by omega]; exact sub_cong cx cy
      · rw [Nat.gcd_sub_self_left (by omega)]; exact hg

def rinvertS : List SV → Option (List Prop × SV)
  | [.arr .u64 4 _ aL] => some ([val4 aL < ell], .arr .u64 4 true (words4 (invL (val4 aL))))
  | _ => none

theorem rinvert_ok : CallOk Tryd.prog gh 44 (pureCtr rinvertS) := by
  refine call_pure (fn := Tryd.f44) Γ12_ok rfl (by kernel_rfl) (by kernel_rfl) (by kernel_rfl) rinvertS fun args P0 Y0 hs hp hf => ?_
  unfold rinvertS at hs
  split at hs
  · rename_i ea aL
    simp only [Option.some.injEq, Prod.mk.injEq] at hs
    obtain ⟨rfl, rfl⟩ := hs
    simp only [FactVs, FactV] at hf
    obtain ⟨⟨hal, ha⟩, _⟩ := hf
    obtain ⟨hpa, _⟩ := hp
    obtain ⟨a0, a1, a2, a3, rfl⟩ := len4 hal
    have ia0 := ha a0 (by simp); have ia1 := ha a1 (by simp); have ia2 := ha a2 (by simp); have ia3 := ha a3 (by simp)
    refine ⟨[.arr .u64 4 true [a0, a1, a2, a3]], L44, inv44 (val4 [a0, a1, a2, a3]), ⟨rfl, trivial⟩, Nat.le_of_ble_eq_true (by kernel_rfl), ?_, ?_, ?_⟩
    · intro k t ht g hg
      simp only [L44, List.mem_cons, List.not_mem_nil, or_false, Prod.mk.injEq] at ht
      have hg : g ∈ keysOf gh := hg
      simp only [gh, keysOf, List.mem_singleton] at hg
      subst hg
      rcases ht with ⟨rfl, rfl⟩ | ⟨rfl, rfl⟩ | ⟨rfl, rfl⟩ <;> exact ⟨by omega, rfl⟩
    · rintro key ps m ⟨a, r, u, v, x, y, rfl, g, rfl⟩
      rcases g.2.2.2.2.2.2.2 with hk | ⟨hk, _⟩ | ⟨hk, _⟩ <;> subst hk
      · show lc44a a r (words4 u) (words4 v) (words4 x) (words4 y) (words4 1) _ _
        exact head44 g (fun z hz => hz) fun g' => ⟨meas44 9 u v, by unfold meas44; simp, _, _, u, v, x, y, rfl, g', rfl⟩
      · show lc44b a r (words4 u) (words4 v) (words4 x) (words4 y) (words4 1) _ _
        exact u44 g fun key u' x' g' hm => ⟨meas44 key u' v, hm, _, _, u', v, x', y, rfl, g', rfl⟩
      · show lc44c a r (words4 u) (words4 v) (words4 x) (words4 y) (words4 1) _ _
        exact v44 g fun key u' v' x' y' g' hm => ⟨meas44 key u' v', hm, _, _, u', v', x', y', rfl, g', rfl⟩
    · show vc44 a0 a1 a2 a3 _ _
      rw [vc44_eq]
      have pA := val_pos ia0 ia1 ia2 ia3
      have hz : ([a0, a1, a2, a3] == [0, 0, 0, 0]) = true ↔ val4 [a0, a1, a2, a3] = 0 := by
        simp only [InR] at ia0 ia1 ia2 ia3
        rw [beq_iff_eq]
        simp only [List.cons.injEq, and_true, val4]
        omega
      intro x1 e1
      refine ⟨fun h => ?_, fun h => ?_⟩
      · have h0 := hz.1 (by rw [← e1]; exact h)
        refine arr_eq ia0 ia1 ia2 ia3 ?_
        rw [h0, pow_zero_mod (by decide)]
      · have h0 : ¬ val4 [a0, a1, a2, a3] = 0 := fun e => by rw [e1, hz.2 e] at h; cases h
        intro x2 e2 r2 x3 e3 r3 x4 e4 r4 x5 e5 r5 x6 e6 r6 x7 e7 r7 x8 e8 r8 x9 e9 r9 x10 e10 r10 x11 e11 r11 x12 e12 r12 x13 e13 r13
        obtain ⟨n, hn⟩ := Int.eq_ofNat_of_zero_le pA.1
        refine ⟨rfl, meas44 8 n 7237005577332262213973186563042994240857116359379907606001950938285454250989, [a0, a1, a2, a3], [0, 0, 0, 0], n, 7237005577332262213973186563042994240857116359379907606001950938285454250989, 1, 0, ?_, ?_, rfl⟩
        · rw [← hn]
          rw [words_val ia0 ia1 ia2 ia3, e2, e3, e4, e5, e6, e7, e8, e9, e10, e11, e12, e13]; rfl
        · have he := ell_lit
          refine ⟨⟨by omega, by omega⟩, ⟨by omega, by omega⟩, by omega, by omega, ?_, ?_, ?_, .inl rfl⟩
          · rw [Int.mul_one, hn, Int.sub_self]; rfl
          · rw [Int.mul_zero]; decide
          · exact Nt.Pr.cop Nt.prL fun hd => by have := Nat.le_of_dvd (by omega) hd; omega
  · cases hs

def Γ14 : Tab := ⟨tys, [(41, pureCtr powS), (43, pureCtr invS), (42, pureCtr rpowS), (44, pureCtr rinvertS)] ++ Γ13.ctr, [0], gh⟩
theorem Γ14_ok : TabOk Tryd.prog Γ14 := (((Γ13_ok.cons rinvert_ok).cons rpow_ok).cons inv_ok).cons pow_ok
end Go.Gx

/- A law's words read as numbers: equations for the simplifier; the field's laws. -/
namespace Go.Gx
open Go.Proofs Go.Sp
open Go.Sp (prI mlL adL sbL pwL halfI invL)
set_option linter.unusedVariables false

theorem inv_bd (a : Int) : 0 ≤ invL a ∧ invL a < ell := pow_bd _ _
end Go.Gx

/- Contracts of functions that answer a slice of numbers in memory of its own. -/
namespace Go.Gx
open Go.RowKit
set_option linter.unusedVariables false

/-- The loops' heads, each with one pattern or more: a pattern's number is that of the head, plus thousands. -/
def handM : Loops → (Nat → List Pv → Prop) → Nat → St → Prop
  | [], _, _, _ => False
  | (vk, t) :: L, Q, key, σ => (match Nat.beq (vk % 1000) key with
    | true => (match matchSt t σ with | some ps => Q vk ps | none => handM L Q key σ)
    | false => handM L Q key σ)
def loopKeysM : Loops → List Nat
  | [] => []
  | (vk, _) :: L => vk % 1000 :: loopKeysM L

theorem handM_of : ∀ {L : Loops} {Q : Nat → List Pv → Prop} {key : Nat} {σ : St}, handM L Q key σ → ∃ vk t ps, (vk, t) ∈ L ∧ vk % 1000 = key ∧ matchSt t σ = some ps ∧ Q vk ps
  | [], _, _, _, h => h.elim
  | (vk, t) :: L, Q, key, σ, h => by
    simp only [handM] at h
    split at h
    · rename_i e
      split at h
      · rename_i ps hps
        exact ⟨vk, t, ps, by simp, Nat.eq_of_beq_eq_true e, hps, h⟩
      · obtain ⟨vk', t', ps', h1, h2⟩ := handM_of h
        exact ⟨vk', t', ps', by simp [h1], h2⟩
    · obtain ⟨vk', t', ps', h1, h2⟩ := handM_of h
      exact ⟨vk', t', ps', by simp [h1], h2⟩

section
variable {P : Program} {Γ : Tab}

/-- A block that a call has made. -/
theorem Mem.add {w0 : World} {M : Nat → Prop} {ρ : Nat → Pl} {H : Nat → Option SB} {w w' : World} (h0 : Mem w0 M ρ H w) (hb : Below w.heap.size w w') {key : Nat} (hn : H key = none) {p : Pl} {l : List Seg} {vs : List Value}
    (hl : SegsD (fun _ => False) (fun _ => ({ blk := 0, off := 0, cap := 0 } : Pl)) l vs) (h1 : vs.length ≤ p.cap) (h2 : w'.rangeAt p.blk p.off vs) (h3 : w'.there p.blk p.off p.cap) (h4 : 0 < p.cap → w.heap.size ≤ p.blk ∧ p.blk < w'.heap.size) (h5 : 0 < p.cap → Clean w' p.blk) :
    Mem w0 M (updP ρ key p) (updH H key (.segs false l)) w' := by
  have h := h0.keep hb
  have hk := updP_keeps (ρ := ρ) (p := p) hn
  have hlt : ∀ k ro l, H k = some (.segs ro l) → 0 < (ρ k).cap → (ρ k).blk < w.heap.size := h0.heap.lt
  refine ⟨⟨fun k b hb => ?_, fun k k' ro ro' l1 l2 e1 e2 hkk hr c1 c2 => ?_, fun k ro l1 e1 c1 => ?_⟩, h.frame, fun k l1 e1 c1 => ?_, view_up h.view (by simp), fun k l1 e1 c1 => ?_,
    h0.pools.step (fun k kd ms hk' => by
      have e : k ≠ key := fun e => by subst e; rw [updH_same] at hk'; cases hk'
      rw [updH_ne e] at hk'
      rw [updP_ne e]; exact ⟨hk', rfl⟩)
    (fun k ro l1 h1 c1 => by
      by_cases e : k = key
      · subst e; rw [updP_same] at c1 ⊢; exact .inr (h4 c1).1
      · rw [updH_ne e] at h1; rw [updP_ne e] at c1 ⊢; exact .inl ⟨k, ro, l1, h1, c1, rfl⟩)
    hb.size (fun _ hb => hb) (fun k kd ms i hk' hi h9 => hb.block _ ((h0.pools.pool k kd ms hk').lt i hi h9))⟩
  · by_cases e : k = key
    · subst e
      rw [updH_same] at hb
      simp only [Option.some.injEq] at hb; subst hb
      exact ⟨vs, SegsD.mono (fun _ h => h.elim) (fun _ h => h.elim) l vs hl, by rw [updP_same]; exact h1, by rw [updP_same]; exact h2, fun _ => by rw [updP_same]; exact h3⟩
    · rw [updH_ne e] at hb
      exact (h.heap.blk k b hb).of_block (dm_updH _ _ _) hk (updP_ne e) (fun _ _ _ _ => rfl)
  · by_cases e : k = key
    · subst e
      rw [updH_ne (Ne.symm hkk)] at e2
      rw [updP_ne (Ne.symm hkk)] at c2
      rw [updP_same] at c1
      have a := hlt k' ro' l2 e2 c2
      have b := (h4 c1).1
      rw [updP_same, updP_ne (Ne.symm hkk)]; omega
    · rw [updH_ne e] at e1
      rw [updP_ne e] at c1 ⊢
      by_cases e' : k' = key
      · subst e'
        rw [updP_same] at c2
        have a := hlt k ro l1 e1 c1
        have b := (h4 c2).1
        rw [updP_same]; omega
      · rw [updH_ne e'] at e2
        rw [updP_ne e'] at c2 ⊢
        exact h.heap.sep k k' ro ro' l1 l2 e1 e2 hkk hr c1 c2
  · by_cases e : k = key
    · subst e; rw [updP_same] at c1 ⊢; exact (h4 c1).2
    · rw [updH_ne e] at e1; rw [updP_ne e] at c1 ⊢; exact h.heap.lt k ro l1 e1 c1
  · by_cases e : k = key
    · subst e; rw [updP_same] at c1 ⊢; exact .inl (Nat.le_trans h0.frame.size (h4 c1).1)
    · rw [updH_ne e] at e1; rw [updP_ne e] at c1 ⊢; exact h.own k l1 e1 c1
  · by_cases e : k = key
    · subst e; rw [updP_same] at c1 ⊢; exact h5 c1
    · rw [updH_ne e] at e1; rw [updP_ne e] at c1 ⊢; exact h.clean k l1 e1 c1

end
end Go.Gx

/- Contracts of methods that turn a record of the caller's, through a pointer. -/
namespace Go.Gx
open Go.RowKit
set_option linter.unusedVariables false

/-- The same parts of a block. -/
def eqSeg : Seg → Seg → Prop
  | .one x, .one y => single y = true ∧ eqV x y
  | .arr k n _ l, .arr k' n' _ l' => keq k k' = true ∧ n = n' ∧ l = l'
  | .rowI k l, .rowI k' l' => keq k k' = true ∧ l = l'
  | _, _ => False
def eqSegs : List Seg → List Seg → Prop
  | [], [] => True
  | x :: r, y :: t => eqSeg x y ∧ eqSegs r t
  | _, _ => False
def FactSeg : Seg → Prop
  | .one x => FactV x
  | .arr k n _ l => l.length = n ∧ AllR k l
  | .rowI k l => AllR k l
  | _ => True
def FactSegs : List Seg → Prop
  | [] => True
  | x :: r => FactSeg x ∧ FactSegs r

theorem eqSeg_D {dm dm' : Nat → Prop} {ρ ρ' : Nat → Pl} : ∀ (x y : Seg) (cs : List Value), eqSeg x y → SegD dm ρ x cs → SegD dm' ρ' y cs
  | .one x, y, cs, h, hd => by
    cases y <;> simp only [eqSeg] at h
    obtain ⟨h1, h2⟩ := h
    obtain ⟨_, v, hv, rfl⟩ := hd
    exact ⟨h1, v, eqV_D _ _ v h2 hv, rfl⟩
  | .arr k n e l, y, cs, h, hd => by
    cases y <;> simp only [eqSeg] at h
    obtain ⟨h1, rfl, rfl⟩ := h
    obtain rfl := keq_eq h1
    exact hd
  | .rowI k l, y, cs, h, hd => by
    cases y <;> simp only [eqSeg] at h
    obtain ⟨h1, rfl⟩ := h
    obtain rfl := keq_eq h1
    exact hd
  | .rowA k n l, y, cs, h, hd => by cases y <;> simp only [eqSeg] at h
theorem eqSegs_D {dm dm' : Nat → Prop} {ρ ρ' : Nat → Pl} : ∀ (xs ys : List Seg) (cs : List Value), eqSegs xs ys → SegsD dm ρ xs cs → SegsD dm' ρ' ys cs
  | [], [], cs, h, hd => hd
  | x :: r, y :: t, cs, h, hd => by
    obtain ⟨c1, c2, h1, rfl, h2⟩ := hd
    exact ⟨c1, c2, eqSeg_D x y c1 h.1 h1, rfl, eqSegs_D r t c2 h.2 h2⟩
  | [], _ :: _, cs, h, hd => h.elim
  | _ :: _, [], cs, h, hd => h.elim

section
variable {P : Program} {Γ : Tab}

theorem SegsD.fact {dm : Nat → Prop} {ρ : Nat → Pl} : ∀ (l : List Seg) (cs : List Value), SegsD dm ρ l cs → FactSegs l
  | [], cs, h => trivial
  | g :: r, cs, h => by
    obtain ⟨c1, c2, h1, rfl, h2⟩ := h
    refine ⟨?_, SegsD.fact r c2 h2⟩
    cases g with
    | one x => obtain ⟨_, v, hv, _⟩ := h1; exact D.fact x v hv
    | arr k n e l => exact ⟨h1.1, h1.2.1⟩
    | rowI k l => exact h1.1
    | rowA k n l => trivial
    | rowH key hs => trivial

end
end Go.Gx

/- Contracts of methods that turn a record and read slices. -/
namespace Go.Gx
open Go.RowKit
set_option linter.unusedVariables false

section
variable {P : Program} {Γ : Tab}

theorem con_est {est : Nat} {q : Con} (h : ∃ g off len p, conSeg g est off len = some (p, q)) : conSize q = est := by
  obtain ⟨g, off, len, p, h⟩ := h
  cases g <;> simp only [conSeg] at h
  · cases h
  · split at h
    · rename_i e _; simp only [Option.some.injEq, Prod.mk.injEq] at h; rw [← h.2]; exact (Nat.eq_of_beq_eq_true e).symm
    · cases h
  · split at h
    · rename_i e; simp only [Option.some.injEq, Prod.mk.injEq] at h; rw [← h.2]; exact (Nat.eq_of_beq_eq_true e).symm
    · cases h
  · split at h
    · rename_i e; simp only [Option.some.injEq, Prod.mk.injEq] at h; rw [← h.2]; exact (Nat.eq_of_beq_eq_true e).symm
    · cases h
  · cases h

/-- 'withCon' of a slice: its row too. -/
theorem withCon_more {w0 : World} {M : Nat → Prop} {ρ : Nat → Pl} {H : Nat → Option SB} {w : World} (hm : Mem w0 M ρ H w) {key c est : Nat} {off len : SI} {v : Value} (hx : D (dmOf H) ρ (.sl key c est off len) v) {f : List Prop → Con → RP Delta} {d : Delta} {rs rs' : List Nat} (h : (withCon (.sl key c est off len) f).run H rs = some (d, rs')) :
    ∃ p q rs1, (f p q).run H rs1 = some (d, rs') ∧ (AllP p → ConAt P w v q) ∧ ∃ ro l, H key = some (.segs ro l) ∧ ∃ g off len p, conSeg g est off len = some (p, q) := by
  have h0 := h
  unfold withCon at h
  simp only [RP.run] at h
  split at h
  · rename_i ro l hkey
    split at h
    · rename_i g hs
      split at h
      · rename_i p q hq
        obtain ⟨p', q', rs1, a1, a2⟩ := withCon_sound (P := P) hm hx (f := fun p' q' => .ret ⟨[q' = q ∧ p' = p], .any, [], false⟩) (d := ⟨[q = q ∧ p = p], .any, [], false⟩) (rs := rs) (rs' := key :: rs) (by
          unfold withCon
          simp only [RP.run, hkey, hs, hq])
        simp only [RP.run, Option.some.injEq, Prod.mk.injEq, Delta.mk.injEq, List.cons.injEq, and_true] at a1
        have e : (q' = q ∧ p' = p) := by have e0 := a1.1; simp only [eq_iff_iff, iff_true] at e0; exact e0
        obtain ⟨rfl, rfl⟩ := e
        exact ⟨p', q', _, h, a2, ro, l, hkey, g, off, len, p', hq⟩
      · simp [RP.run] at h
    · simp [RP.run] at h
  · simp [RP.run] at h

end
end Go.Gx

/- Contracts in general: arguments that are values, data that is only read, records and rows of the caller's; answers that are values, fresh rows, fresh records. -/
namespace Go.Gx
open Go.RowKit
set_option linter.unusedVariables false

/-- How an argument is handed on. -/
inductive Md where
  | v
  | d (sh : Sh)
  | m
  | o

/-- An argument, as a contract sees it. -/
inductive AV where
  | v (x : SV)
  | d (sh : Sh) (d : RO)
  | m (l : List Seg)
  | o (q : Con)

/-- An answer, as a contract tells it. -/
inductive RV where
  | v (x : SV)
  | row (q : Con)
  | ptr (l : List Seg)

def onesOf : List Seg → Option (List SV)
  | [] => some []
  | .one x :: r => (match onesOf r with | some xs => some (x :: xs) | none => none)
  | _ => none

/-- Each of a list, handed on together. -/
def eachRO (g : SV → (List Prop → RO → RP Delta) → RP Delta) : List SV → (List Prop → List RO → RP Delta) → RP Delta
  | [], f => f [] []
  | x :: r, f => g x fun p d => eachRO g r fun p' ds => f (p ++ p') (d :: ds)

/-- Headers of a pool's rows, as data. -/
def hdrRO (k : IntKind) (off len : SI) (pk : Nat) (hs : List (Nat × Nat)) (f : List Prop → RO → RP Delta) : RP Delta :=
  .get pk fun b => (match b with
    | some (.pool k' ms) => (match keq k' k with
      | true => f [off.z + len.z ≤ (hs.length : Int), ∀ h ∈ (hs.drop off.z.toNat).take len.z.toNat, h.2 ≤ (ms.getD h.1 []).length] (.r (((hs.drop off.z.toNat).take len.z.toNat).map fun h => .l ((ms.getD h.1 []).take h.2)))
      | false => .fail)
    | _ => .fail)

mutual
/-- What a value holds, as data of a shape. -/
def viewRO (ban : List Nat) : Sh → SV → (List Prop → RO → RP Delta) → RP Delta
  | .ints k, x, f => (match x with
    | .ro key sh d => .get key fun b => (match b with
      | some .world => (match shEq sh (.ints k) with | true => f [] d | false => .fail)
      | _ => .fail)
    | .nsl => f [] (.l [])
    | .sl key c est off len => (match memN key ban with
      | true => .fail
      | false => withCon (.sl key c est off len) fun p q => (match q with
        | .ints k' l => (match keq k' k with | true => f p (.l l) | false => .fail)
        | _ => .fail))
    | .ps key r len => withCon (.ps key r len) fun p q => (match q with
        | .ints k' l => (match keq k' k with | true => f p (.l l) | false => .fail)
        | _ => .fail)
    | _ => .fail)
  | .l e, x, f => (match x with
    | .ro key sh d => .get key fun b => (match b with
      | some .world => (match shEq sh (.l e) with | true => f [] d | false => .fail)
      | _ => .fail)
    | .nsl => f [] (.r [])
    | .sl key 0 1 ⟨true, .ofNat 0⟩ ⟨true, .ofNat n⟩ => (match memN key ban with
      | true => .fail
      | false => .get key fun b => (match b with
        | some (.segs _ l) => (match onesOf l with
          | some xs => (match Nat.beq xs.length n && Nat.blt 0 n with
            | true => eachRO (viewRO ban e) xs fun p ds => f p (.r ds)
            | false => .fail)
          | none => .fail)
        | _ => .fail))
    | .sl key 0 1 off len => (match memN key ban with
      | true => .fail
      | false => .get key fun b => (match b with
        | some (.segs _ [.rowH pk hs]) => (match e with
          | .ints k => hdrRO k off len pk hs f
          | _ => .fail)
        | _ => .fail))
    | .sl key c est off len => (match e with
      | .arr n k => (match memN key ban, Nat.blt 0 n with
        | false, true => withCon (.sl key c est off len) fun p q => (match q with
          | .arrs k' m l => (match keq k' k && Nat.beq m n with | true => f p (.r (l.map RO.l)) | false => .fail)
          | _ => .fail)
        | _, _ => .fail)
      | _ => .fail)
    | _ => .fail)
  | .r fs, x, f => (match x with
    | .agg xs => viewROs ban fs xs fun p ds => f p (.r ds)
    | _ => .fail)
  | .i k, x, f => (match x with
    | .i k' a => (match keq k' k with | true => f [] (.i a.z) | false => .fail)
    | _ => .fail)
  | .tb, x, f => (match x with
    | .b _ v => f [] (.b v)
    | _ => .fail)
  | .ts, x, f => (match x with
    | .s v => f [] (.s v)
    | _ => .fail)
  | .arr n k, x, f => (match x with
    | .arr k' m _ l => (match keq k' k && Nat.beq m n with | true => f [] (.l l) | false => .fail)
    | _ => .fail)
def viewROs (ban : List Nat) : List Sh → List SV → (List Prop → List RO → RP Delta) → RP Delta
  | [], xs, f => (match xs with | [] => f [] [] | _ => .fail)
  | s :: fs, xs, f => (match xs with
    | x :: xs => viewRO ban s x fun p d => viewROs ban fs xs fun p' ds => f (p ++ p') (d :: ds)
    | [] => .fail)
end

def ownKeys : List Md → List SV → List Nat
  | .m :: ms, .p key _ :: xs => key :: ownKeys ms xs
  | .o :: ms, .sl key _ _ _ _ :: xs => key :: ownKeys ms xs
  | _ :: ms, _ :: xs => ownKeys ms xs
  | _, _ => []

def getA (ban : List Nat) : List Md → List SV → (List Prop → List AV → RP Delta) → RP Delta
  | [], [], f => f [] []
  | .v :: ms, x :: xs, f => getA ban ms xs fun p avs => f p (.v x :: avs)
  | .d sh :: ms, x :: xs, f => viewRO ban sh x fun p d => getA ban ms xs fun p' avs => f (p ++ p') (.d sh d :: avs)
  | .m :: ms, x :: xs, f => (match x with
    | .p key 0 => .get key fun b => (match b with
      | some (.segs false l) => getA ban ms xs fun p avs => f p (.m l :: avs)
      | _ => .fail)
    | .np => getA ban ms xs fun p avs => f p (.v .np :: avs)
    | _ => .fail)
  | .o :: ms, x :: xs, f => (match x with
    | .sl key 0 est ⟨true, .ofNat 0⟩ len => .get key fun b => (match b with
      | some (.segs false [g]) => (match rowCon g with
        | some q => (match Nat.beq est (conSize q) with
          | true => getA ban ms xs fun p avs => f ((len.z = ((conLen q : Nat) : Int)) :: p) (.o q :: avs)
          | false => .fail)
        | none => .fail)
      | _ => .fail)
    | .nsl => getA ban ms xs fun p avs => f p (.v .nsl :: avs)
    | _ => .fail)
  | _, _, _ => .fail

/-- The fresh block among the answers. -/
def frOf : List RV → Option (List Seg)
  | [] => none
  | .v _ :: r => frOf r
  | .row q :: _ => some [conRow q]
  | .ptr l :: _ => some l
def oneFr : List RV → Bool
  | [] => true
  | .v _ :: r => oneFr r
  | _ :: r => (match frOf r with | some _ => false | none => true)

def resG (stamp : Nat) : RV → SV
  | .v x => x
  | .row q => .sl stamp 0 (conSize q) ⟨true, 0⟩ ⟨false, ((conLen q : Nat) : Int)⟩
  | .ptr _ => .p stamp 0
def resGs (stamp : Nat) : List RV → List SV
  | [] => []
  | r :: t => resG stamp r :: resGs stamp t
def resOf (stamp : Nat) : List RV → SV
  | [r] => resG stamp r
  | rs => .tup (resGs stamp rs)

def finW : List Nat → List (Option (List Seg)) → Option (List (Nat × SB))
  | [], [] => some []
  | k :: ks, some l :: r => (match finW ks r with | some ws => some ((k, .segs false l) :: ws) | none => none)
  | k :: ks, none :: r => (match finW ks r with | some ws => some ((k, .gone) :: ws) | none => none)
  | _, _ => none

def genCtr (ms : List Md) (spec : List AV → Option (List Prop × List RV × List (Option (List Seg)))) : Ctr := fun stamp args =>
  match ownKeys ms args with
  | ks => (match nodupN ks with
    | true => getA ks ms args fun p avs => (match spec avs with
      | some (p', rvs, fin) => (match finW ks fin, oneFr rvs && Nat.ble fin.length 100 with
        | some ws, true => (match frOf rvs with
          | none => .ret ⟨p ++ p', resOf stamp rvs, ws, true⟩
          | some l => .get stamp fun b => (match b with
            | none => .ret ⟨p ++ p', resOf stamp rvs, (stamp, .segs false l) :: ws, true⟩
            | some _ => .fail))
        | _, _ => .fail)
      | none => .fail)
    | false => .fail)

/-! ### The callee's side -/

/-- An answer with what it points to. -/
def canV (h : Heap) (x : SV) (K : RV → Prop) : Prop :=
  match x with
  | .sl key c est off len => (match Nat.ble 1000 key, assoc h key with
    | true, some (.segs false l) => (match segAt l c with
      | some (g, 0) => (match conSeg g est off len with | some (p, q) => preK p (K (.row q)) | none => False)
      | _ => False)
    | _, _ => False)
  | .p key 0 => (match Nat.ble 1000 key, assoc h key with
    | true, some (.segs false l) => K (.ptr l)
    | _, _ => False)
  | x => K (.v x)
def canVs (h : Heap) : List SV → (List RV → Prop) → Prop
  | [], K => K []
  | x :: r, K => canV h x fun y => canVs h r fun ys => K (y :: ys)
def canF (h : Heap) : (j n : Nat) → (List (Option (List Seg)) → Prop) → Prop
  | _, 0, K => K []
  | j, n + 1, K => (match assoc h j with
    | some (.segs false l) => canF h (j + 1) n fun r => K (some l :: r)
    | some .gone => canF h (j + 1) n fun r => K (none :: r)
    | _ => False)
/-- All answers, and what the caller's records hold then. -/
def kvG (n : Nat) (x : SV) (h : Heap) (K : List RV → List (Option (List Seg)) → Prop) : Prop :=
  match x with
  | .tup xs => (match Nat.beq xs.length 1 with | true => False | false => canVs h xs fun rs => canF h 600 n fun fs => K rs fs)
  | x => canV h x fun r => canF h 600 n fun fs => K [r] fs

def eqCon : Con → Con → Prop
  | .ints k l, .ints k' l' => keq k k' = true ∧ l = l'
  | .arrs k n l, .arrs k' n' l' => keq k k' = true ∧ n = n' ∧ l = l'
  | _, _ => False
def eqRV : RV → RV → Prop
  | .v x, .v y => eqV x y
  | .row q, .row q' => eqCon q q'
  | .ptr l, .ptr l' => eqSegs l l'
  | _, _ => False
def eqRV1 (x y : RV) : Prop :=
  match x, y with
  | .v .nsl, .row q => conLen q = 0 ∧ conOk q
  | x, y => eqRV x y
def eqRVs : List RV → List RV → Prop
  | [], [] => True
  | x :: r, y :: t => eqRV1 x y ∧ eqRVs r t
  | _, _ => False
def eqFin : List (Option (List Seg)) → List (Option (List Seg)) → Prop
  | [], [] => True
  | x :: r, y :: t => (match x, y with
    | some l, some l' => eqSegs l l'
    | _, none => True
    | none, some _ => False) ∧ eqFin r t
  | _, _ => False

def fnVcG (n : Nat) (Γ : Tab) (fn : Func) (L : Loops) (args : List SV) (h : Heap) (K : List RV → List (Option (List Seg)) → Prop) (Q : Nat → List Pv → Prop) : Prop :=
  runFn Γ fn (loopKeysM L) args h (fun x h' => kvG n x h' K) (handM L Q)
def loopVcG (n : Nat) (Γ : Tab) (fn : Func) (L : Loops) (key : Nat) (ps : List Pv) (K : List RV → List (Option (List Seg)) → Prop) (Q : Nat → List Pv → Prop) : Prop :=
  match assoc L key with
  | some t => runLoop Γ fn (loopKeysM L) (key % 1000) (instSt t ps) (fun x h' => kvG n x h' K) (handM L Q)
  | none => False

structure VcG (n : Nat) (Γ : Tab) (fn : Func) (L : Loops) (h : Heap) (args : List SV) (K : List RV → List (Option (List Seg)) → Prop) (inv : Nat → List Pv → Nat → Prop) : Prop where
  low : ∀ k t, (k, t) ∈ L → ∀ g, g ∈ keysOf h → g < 1000 ∧ (assoc t.heap g).isSome = true
  loop : ∀ vk t ps m, (vk, t) ∈ L → inv vk ps m → runLoop Γ fn (loopKeysM L) (vk % 1000) (instSt t ps) (fun x h' => kvG n x h' K) (handM L fun key' ps' => ∃ m', m' < m ∧ inv key' ps' m')
  entry : fnVcG n Γ fn L args h K fun key' ps' => ∃ m', inv key' ps' m'

/-- The callee's arguments and what he finds of the caller's records. -/
def okA : Nat → List AV → List SV → Heap → Prop
  | _, [], [], [] => True
  | j, .v x :: r, y :: t, h => eqV x y ∧ okA j r t h
  | j, .d sh d :: r, y :: t, h => y = svOf 490 sh d ∧ okA j r t h
  | j, .m l :: r, y :: t, (k, b) :: h => y = .p j 0 ∧ k = j ∧ (∃ l', b = .segs false l' ∧ eqSegs l l') ∧ okA (j + 1) r t h
  | j, .o q :: r, y :: t, (k, b) :: h => y = .sl j 0 (conSize q) ⟨true, 0⟩ ⟨false, ((conLen q : Nat) : Int)⟩ ∧ k = j ∧ b = .segs false [conRow q] ∧ okA (j + 1) r t h
  | _, _, _, _ => False

def FactA : List AV → Prop
  | [] => True
  | .v x :: r => FactV x ∧ FactA r
  | .d sh d :: r => RoF sh d ∧ FactA r
  | .m l :: r => FactSegs l ∧ FactA r
  | .o q :: r => (conOk q ∧ ((conLen q : Nat) : Int) < 9223372036854775808) ∧ FactA r

section
variable {P : Program} {Γ : Tab}

/-- What a call has turned and made, in the caller's memory. -/
theorem Mem.merge {w0 : World} {M : Nat → Prop} {ρ ρ' : Nat → Pl} {H H' : Nat → Option SB} {w w' : World} (hm : Mem w0 M ρ H w) {M' : Nat → Prop} (hf : FrameW M' w w') {T : Nat → Prop}
    (hkeep : ∀ k, ¬ T k → H' k = H k) (hρ : ∀ k, dmOf H k → ρ' k = ρ k) (hdm : ∀ k, dmOf H k → dmOf H' k) (hM : ∀ b, M' b → w0.heap.size ≤ b ∨ M b)
    (hsep : ∀ k ro l, ¬ T k → H k = some (.segs ro l) → 0 < (ρ k).cap → ¬ M' (ρ k).blk)
    (hT : ∀ k b, T k → H' k = some b → (b ≠ .world ∧ ∀ a i, b ≠ .alias a i) ∧ ∀ ro l, b = .segs ro l → ro = false ∧ (∃ vs, SegsD (fun _ => False) (fun _ => ({ blk := 0, off := 0, cap := 0 } : Pl)) l vs ∧ vs.length ≤ (ρ' k).cap ∧ w'.rangeAt (ρ' k).blk (ρ' k).off vs ∧ w'.there (ρ' k).blk (ρ' k).off (ρ' k).cap) ∧
      (0 < (ρ' k).cap → (ρ' k).blk < w'.heap.size ∧ (w.heap.size ≤ (ρ' k).blk ∨ M' (ρ' k).blk) ∧ Clean w' (ρ' k).blk))
    (hPT : ∀ k kd ms, T k → H' k ≠ some (.pool kd ms)) (hPM : ∀ k kd ms i, H k = some (.pool kd ms) → i < ms.length → 0 < (ρ k).pc i → ¬ M' ((ρ k).pb i))
    (hTT : ∀ k k' l l', T k → T k' → k ≠ k' → H' k = some (.segs false l) → H' k' = some (.segs false l') → 0 < (ρ' k).cap → 0 < (ρ' k').cap → (ρ' k).blk ≠ (ρ' k').blk) : Mem w0 M ρ' H' w' := by
  have hdk : ∀ k b, H k = some b → dmOf H k := fun k b h => dm_of h
  have hun : ∀ k ro l, ¬ T k → H' k = some (.segs ro l) → 0 < (ρ' k).cap → H k = some (.segs ro l) ∧ ρ' k = ρ k ∧ (ρ' k).blk < w.heap.size ∧ ¬ M' (ρ' k).blk := fun k ro l ht hk hc => by
    rw [hkeep k ht] at hk
    have e := hρ k (hdk k _ hk)
    rw [e] at hc ⊢
    exact ⟨hk, rfl, hm.heap.lt k ro l hk hc, hsep k ro l ht hk hc⟩
  refine ⟨⟨fun k b hb => ?_, fun k k' ro ro' l l' h1 h2 hkk hr c1 c2 => ?_, fun k ro l h1 c1 => ?_⟩, ⟨hf.os.trans hm.frame.os, hf.tape.trans hm.frame.tape, hf.output.trans hm.frame.output, Nat.le_trans hm.frame.size hf.size, fun k hk1 hk2 => ?_⟩, fun k l h1 c1 => ?_, fun k h1 => ?_, fun k l h1 c1 => ?_, ?_⟩
  · by_cases ht : T k
    · obtain ⟨q1, q2⟩ := hT k b ht hb
      cases b with
      | gone => trivial
      | world => trivial
      | pool _ _ => trivial
      | alias a i => exact absurd rfl (q1.2 a i)
      | segs ro l =>
        obtain ⟨rfl, ⟨vs, s1, s2, s3, s4⟩, _⟩ := q2 ro l rfl
        exact ⟨vs, SegsD.mono (fun _ h => h.elim) (fun _ h => h.elim) l vs s1, s2, s3, fun _ => s4⟩
    · rw [hkeep k ht] at hb
      exact (hm.heap.blk k b hb).of_block hdm (fun k hk => .of_eq (hρ k hk)) (hρ k (hdk k _ hb)) fun ro l e c => by
        subst e
        exact hf.block _ (hm.heap.lt k ro l hb c) (hsep k ro l ht hb c)
  · by_cases t1 : T k
    · obtain ⟨rfl, _, q1⟩ := (hT k _ t1 h1).2 ro l rfl
      by_cases t2 : T k'
      · obtain ⟨rfl, _, _⟩ := (hT k' _ t2 h2).2 ro' l' rfl
        exact hTT k k' l l' t1 t2 hkk h1 h2 c1 c2
      · obtain ⟨_, _, a1, a2⟩ := hun k' ro' l' t2 h2 c2
        intro e
        rcases (q1 c1).2.1 with q | q
        · omega
        · rw [e] at q; exact a2 q
    · obtain ⟨b1, b2, a1, a2⟩ := hun k ro l t1 h1 c1
      by_cases t2 : T k'
      · obtain ⟨rfl, _, q1⟩ := (hT k' _ t2 h2).2 ro' l' rfl
        intro e
        rcases (q1 c2).2.1 with q | q
        · omega
        · rw [← e] at q; exact a2 q
      · obtain ⟨d1, d2, _, _⟩ := hun k' ro' l' t2 h2 c2
        rw [b2] at c1 ⊢
        rw [d2] at c2 ⊢
        exact hm.heap.sep k k' ro ro' l l' b1 d1 hkk hr c1 c2
  · by_cases t1 : T k
    · obtain ⟨rfl, _, q1⟩ := (hT k _ t1 h1).2 ro l rfl
      exact (q1 c1).1
    · obtain ⟨_, _, a1, _⟩ := hun k ro l t1 h1 c1
      exact Nat.lt_of_lt_of_le a1 hf.size
  · have hn : ¬ M' k := fun h => by
      rcases hM k h with h | h
      · omega
      · exact hk2 h
    rw [hf.block k (Nat.lt_of_lt_of_le hk1 hm.frame.size) hn]
    exact hm.frame.block k hk1 hk2
  · by_cases t1 : T k
    · obtain ⟨_, _, q1⟩ := (hT k _ t1 h1).2 false l rfl
      rcases (q1 c1).2.1 with q | q
      · exact .inl (Nat.le_trans hm.frame.size q)
      · exact hM _ q
    · obtain ⟨b1, b2, _, _⟩ := hun k false l t1 h1 c1
      rw [b2] at c1 ⊢
      exact hm.own k l b1 c1
  · by_cases t1 : T k
    · exact absurd rfl (hT k _ t1 h1).1.1
    · rw [hkeep k t1] at h1
      rw [hρ k (hdk k _ h1)]
      exact hm.view k h1
  · by_cases t1 : T k
    · obtain ⟨_, _, q1⟩ := (hT k _ t1 h1).2 false l rfl
      exact (q1 c1).2.2
    · obtain ⟨b1, b2, a1, a2⟩ := hun k false l t1 h1 c1
      rw [b2] at c1 ⊢
      rw [b2] at a2
      exact (hm.clean k l b1 c1).of_block (hf.block _ (hm.heap.lt k false l b1 c1) a2)
  · have hpk : ∀ k kd ms, H' k = some (.pool kd ms) → ¬ T k ∧ H k = some (.pool kd ms) ∧ ρ' k = ρ k := fun k kd ms h => by
      have ht : ¬ T k := fun t => hPT k kd ms t h
      rw [hkeep k ht] at h
      exact ⟨ht, h, hρ k (hdk k _ h)⟩
    refine ⟨fun key kd ms hk => ?_, fun key kd ms key' ro l i h1 h2 h3 h4 h5 => ?_, fun key kd ms key' kd' ms' i j h1 h2 h3 h4 h5 h6 h7 => ?_⟩
    · obtain ⟨_, a, b⟩ := hpk key kd ms hk
      rw [b]
      exact (hm.pools.pool key kd ms a).step rfl hf.size (fun _ _ _ h => h) (fun i hi h0 => hf.block _ ((hm.pools.pool key kd ms a).lt i hi h0) (hPM key kd ms i a hi h0))
    · obtain ⟨_, a, b⟩ := hpk key kd ms h1
      rw [b] at h5 ⊢
      have hlt := (hm.pools.pool key kd ms a).lt i h4 h5
      by_cases t : T key'
      · obtain ⟨rfl, _, q⟩ := (hT key' _ t h2).2 ro l rfl
        rcases (q h3).2.1 with q | q
        · omega
        · intro e
          rw [e] at q
          exact hPM key kd ms i a h4 h5 q
      · obtain ⟨b1, b2, _, _⟩ := hun key' ro l t h2 h3
        rw [b2] at h3 ⊢
        exact hm.pools.apart key kd ms key' ro l i a b1 h3 h4 h5
    · obtain ⟨_, a, b⟩ := hpk key kd ms h1
      obtain ⟨_, a', b'⟩ := hpk key' kd' ms' h2
      rw [b] at h6 ⊢
      rw [b'] at h7 ⊢
      exact hm.pools.two key kd ms key' kd' ms' i j a a' h3 h4 h5 h6 h7

theorem vcG_calls {n : Nat} (hΓ : TabOk P Γ) {f : FuncId} {fn : Func} (hf : P.funcs[f]? = some fn) {L : Loops} {h : Heap} {args : List SV} {K : List RV → List (Option (List Seg)) → Prop} {inv : Nat → List Pv → Nat → Prop} (hv : VcG n Γ fn L h args K inv) (hlen : args.length ≤ fn.ntmps)
    {w : World} {M : Nat → Prop} {ρg : Nat → Pl} {vs : List Value} (hgo : GlOk Γ w M ρg (assoc h)) (g1 : Mem w M ρg (assoc h) w) (ha : Ds (dmOf (assoc h)) ρg args vs) :
    Calls P f vs.toArray w fun e w' => ∃ x v h' ρ', e = .returned v ∧ kvG n x h' K ∧ D (dmOf (assoc h')) ρ' x v ∧ Mem w M ρ' (assoc h') w' ∧ ∀ k, dmOf (assoc h) k → dmOf (assoc h') k ∧ PlLe (ρg k) (ρ' k) := by
  have hweak : ∀ vk t σ' ps, (vk, t) ∈ L → matchSt t σ' = some ps → Weak (assoc h) σ' (instSt t ps) := fun vk t σ' ps ht hm =>
    weak_of_match hm fun k hk => hv.low vk t ht k (keysOf_of_dm hk)
  refine (fn_calls hΓ hf hgo hlen ha g1 (fun m key σ => ∃ vk t ps, (vk, t) ∈ L ∧ vk % 1000 = key ∧ σ = instSt t ps ∧ inv vk ps m) (fun m => handM L fun key' ps' => ∃ m', m' < m ∧ inv key' ps' m') (fun m key σ hj => ?_) (fun m key σ' h => ?_)
    (handM L fun key' ps' => ∃ m', inv key' ps' m') (fun key σ' h => ?_) hv.entry).mono fun e w' he => ?_
  · obtain ⟨vk, t, ps, ht, rfl, rfl, hinv⟩ := hj
    exact hv.loop vk t ps m ht hinv
  · obtain ⟨vk, t, ps, ht, hk, hps, m', hlt, hinv⟩ := handM_of h
    exact ⟨m', hlt, _, hweak _ _ _ _ ht hps, vk, t, ps, ht, hk, rfl, hinv⟩
  · obtain ⟨vk, t, ps, ht, hk, hps, m', hinv⟩ := handM_of h
    exact ⟨m', _, hweak _ _ _ _ ht hps, vk, t, ps, ht, hk, rfl, hinv⟩
  · obtain ⟨x, v, h', ρ', rfl, k1, k2, k3, k4⟩ := he
    exact ⟨x, v, h', ρ', rfl, k1, k2, k3, k4⟩

end
end Go.Gx
