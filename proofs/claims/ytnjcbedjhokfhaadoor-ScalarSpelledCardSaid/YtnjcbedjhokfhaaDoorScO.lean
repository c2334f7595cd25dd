/- Numbers modulo the order. -/
import Derived.Test.YtnjcbedjhokfhaaDoorScN
import Derived.Test.YtnjcbedjhokfhaaDoorNt
namespace Go.Gx
open Go.Proofs Go.Sp
set_option linter.unusedVariables false

/-- 1 / 2^256 modulo the order. -/
def _root_.Go.Sp.rinv : Int := 4458503529701987551646482192314240623644693141688353256590997718326214331684
open Go.Sp (rinv)
/-- a b / 2^256 modulo the order. -/
def _root_.Go.Sp.prI (a b : Int) : Int := a * b * rinv % ell
def _root_.Go.Sp.mlL (a b : Int) : Int := a * b % ell
def _root_.Go.Sp.adL (a b : Int) : Int := (a + b) % ell
def _root_.Go.Sp.sbL (a b : Int) : Int := (a - b) % ell
def _root_.Go.Sp.pwL (a e : Int) : Int := a ^ e.toNat % ell
open Go.Sp (prI mlL adL sbL pwL)

theorem ell_pos : (0 : Int) < ell := by decide
theorem rr : (115792089237316195423570985008687907853269984665640564039457584007913129639936 * rinv) % ell = 1 := by decide

theorem bd (x : Int) : 0 ≤ x % ell ∧ x % ell < ell := ⟨Int.emod_nonneg _ (by decide), Int.emod_lt_of_pos _ ell_pos⟩

theorem pr_of {a b t k : Int} (h : 115792089237316195423570985008687907853269984665640564039457584007913129639936 * t = a * b + k * ell) : t % ell = prI a b := by
  unfold prI
  have h1 : a * b * rinv = t * (115792089237316195423570985008687907853269984665640564039457584007913129639936 * rinv) - k * rinv * ell := by
    have : a * b = 115792089237316195423570985008687907853269984665640564039457584007913129639936 * t - k * ell := by omega
    rw [this, Int.sub_mul, Int.mul_assoc k, Int.mul_comm ell, ← Int.mul_assoc k]
    congr 1
    rw [Int.mul_comm _ t, Int.mul_assoc]
  rw [h1, Int.sub_mul_emod_self_right, Int.mul_emod, rr, Int.mul_one, Int.emod_emod_of_dvd _ (Int.dvd_refl _)]

theorem mm (a b : Int) : (a % ell) * b % ell = a * b % ell := by rw [Int.mul_emod, Int.emod_emod, ← Int.mul_emod]
theorem mm2 (a b : Int) : a * (b % ell) % ell = a * b % ell := by rw [Int.mul_emod, Int.emod_emod, ← Int.mul_emod]
theorem mm3 (u v w : Int) : (u % ell) * (v % ell) * w % ell = u * v * w % ell := by rw [Int.mul_emod, ← Int.mul_emod u v, ← Int.mul_emod]
theorem one_r {x c : Int} (hc : c % ell = 1) : x * c % ell = x % ell := by rw [Int.mul_emod, hc, Int.mul_one, Int.emod_emod]

/-- 2^256 and 2^512 modulo the order: the table's. -/
def r1 : Int := 7237005577332262213973186563042994240413239274941949949428319933631315875101
def r2 : Int := 1627715501170711445284395025044413883736156588369414752970002579683115011841
theorem r1_val : val4 [15486807595281847581, 14334777244411350896, 18446744073709551614, 1152921504606846975] = r1 := by decide
theorem r2_val : val4 [11819153939886771969, 14991950615390032711, 14910419812499177061, 259310039853996605] = r2 := by decide
theorem r1_one : (r1 * rinv) % ell = 1 := by decide
theorem r2_one : (r2 * rinv) % ell = r1 := by decide
theorem r2_two : (rinv * r2 * rinv) % ell = 1 := by decide

theorem mul_mont (a b : Int) : prI (prI a b) r2 = mlL a b := by
  unfold prI mlL
  rw [Int.mul_assoc (a * b * rinv % ell), mm, show a * b * rinv * (r2 * rinv) = a * b * (rinv * r2 * rinv) by ac_rfl, one_r r2_two]

theorem to_mont (a : Int) : prI a r2 = a * r1 % ell := by
  unfold prI
  rw [Int.mul_assoc, ← mm2, r2_one]
theorem mont_mul (x y : Int) : prI (x * r1 % ell) (y * r1 % ell) = x * y * r1 % ell := by
  unfold prI
  rw [mm3, show x * r1 * (y * r1) * rinv = x * y * r1 * (r1 * rinv) by ac_rfl, one_r r1_one]
theorem from_mont (x : Int) : prI (x * r1 % ell) 1 = x % ell := by
  unfold prI
  rw [Int.mul_one, mm, Int.mul_assoc, one_r r1_one]

/-- A sum's word and what is carried. -/
theorem split_w {s lo hi : Int} (h1 : lo = s % 18446744073709551616) (h2 : hi = s / 18446744073709551616) : s = lo + 18446744073709551616 * hi ∧ 0 ≤ lo ∧ lo < 18446744073709551616 := by omega

/-- One round of the product. -/
theorem round_law {p0 p1 p2 p3 t0 t1 t2 t3 t4 u0 u1 u2 u3 u4 c1 c2 c3 c4 k1 m d1 d2 d3 d4 v0 v1 v2 v3 v4 k2 : Int}
    (h0 : p0 + t0 = u0 + 18446744073709551616 * c1) (h1 : p1 + t1 + c1 = u1 + 18446744073709551616 * c2) (h2 : p2 + t2 + c2 = u2 + 18446744073709551616 * c3) (h3 : p3 + t3 + c3 = u3 + 18446744073709551616 * c4)
    (h4 : t4 + c4 = u4 + 18446744073709551616 * k1) (g0 : m * 6346243789798364141 + u0 = 18446744073709551616 * d1) (g1 : m * 1503914060200516822 + u1 + d1 = v0 + 18446744073709551616 * d2) (g2 : u2 + d2 = v1 + 18446744073709551616 * d3)
    (g3 : m * 1152921504606846976 + u3 + d3 = v2 + 18446744073709551616 * d4) (g4 : u4 + d4 = v3 + 18446744073709551616 * k2) (g5 : v4 = k1 + k2) :
    18446744073709551616 * (v0 + 18446744073709551616 * v1 + 340282366920938463463374607431768211456 * v2 + 6277101735386680763835789423207666416102355444464034512896 * v3 + 115792089237316195423570985008687907853269984665640564039457584007913129639936 * v4) =
      t0 + 18446744073709551616 * t1 + 340282366920938463463374607431768211456 * t2 + 6277101735386680763835789423207666416102355444464034512896 * t3 + 115792089237316195423570985008687907853269984665640564039457584007913129639936 * t4 +
      (p0 + 18446744073709551616 * p1 + 340282366920938463463374607431768211456 * p2 + 6277101735386680763835789423207666416102355444464034512896 * p3) + m * 7237005577332262213973186563042994240857116359379907606001950938285454250989 := by
  omega

theorem low_zero {u m s d : Int} (hu : 0 ≤ u ∧ u < 18446744073709551616) (hm : m = u * 15183074304973897243 % 18446744073709551616) (hs : s = m * 6346243789798364141 + u) (hd : d = s / 18446744073709551616) : s = 18446744073709551616 * d := by
  omega
end Go.Gx
