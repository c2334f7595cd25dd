/- Sums, differences, products, halves. -/
import Derived.Test.YtnjcbedjhokfhaaDoorScQ
namespace Go.Gx
open Go.Proofs Go.Sp
open Go.Sp (prI mlL adL sbL pwL)
set_option linter.unusedVariables false

theorem arr_eq {a b c d n : Int} (ha : InR .u64 a) (hb : InR .u64 b) (hc : InR .u64 c) (hd : InR .u64 d) (h : val4 [a, b, c, d] = n) : [a, b, c, d] = words4 n := by rw [← h, words_val ha hb hc hd]
theorem val_in {n x y z t : Int} (h0 : x = w0 n) (h1 : y = w1 n) (h2 : z = w2 n) (h3 : t = w3 n) (hn : 0 ≤ n) (hn' : n < 115792089237316195423570985008687907853269984665640564039457584007913129639936) : val4 [x, y, z, t] = n := by
  rw [val_of h0 h1 h2 h3, Int.emod_eq_of_lt hn hn']
theorem val_ell {n x y z t : Int} (h0 : x = w0 (n % ell)) (h1 : y = w1 (n % ell)) (h2 : z = w2 (n % ell)) (h3 : t = w3 (n % ell)) : val4 [x, y, z, t] = n % ell := by
  have := mod_bd n
  rw [ell_lit] at this
  exact val_in h0 h1 h2 h3 this.1 (by rw [ell_lit]; omega)
theorem val_pos {a b c d : Int} (ha : InR .u64 a) (hb : InR .u64 b) (hc : InR .u64 c) (hd : InR .u64 d) : 0 ≤ val4 [a, b, c, d] ∧ val4 [a, b, c, d] < 115792089237316195423570985008687907853269984665640564039457584007913129639936 := by
  simp only [InR] at ha hb hc hd
  simp only [val4]
  omega
theorem low_add {a b : Int} (ha : 0 ≤ a ∧ a < ell) (hb : 0 ≤ b ∧ b < ell) : lowI (a + b) = (a + b) % ell := by
  have he := ell_lit
  unfold lowI
  split
  · rename_i h; rw [Int.emod_eq_of_lt (by omega) h]
  · rename_i h; rw [← Int.sub_emod_right (a + b) ell, Int.emod_eq_of_lt (by omega) (by omega)]
theorem add_ell (a b : Int) : adL (a % ell) (b % ell) = adL a b := by unfold adL; rw [← Int.add_emod]
theorem sub_ell (a b : Int) : sbL (a % ell) (b % ell) = sbL a b := by unfold sbL; rw [← Int.sub_emod]
theorem mul_ell (a b : Int) : mlL (a % ell) (b % ell) = mlL a b := by unfold mlL; rw [← Int.mul_emod]
theorem add_ell1 (a b : Int) : adL (a % ell) b = adL a b := by unfold adL; rw [Int.emod_add_emod]
theorem add_bd (a b : Int) : 0 ≤ adL a b ∧ adL a b < ell := bd _
theorem sub_bd (a b : Int) : 0 ≤ sbL a b ∧ sbL a b < ell := bd _
theorem mul_bd (a b : Int) : 0 ≤ mlL a b ∧ mlL a b < ell := bd _
theorem pow_bd (a b : Int) : 0 ≤ pwL a b ∧ pwL a b < ell := bd _
theorem pr_bd (a b : Int) : 0 ≤ prI a b ∧ prI a b < ell := bd _
theorem sub_eq {a b : Int} (ha : 0 ≤ a ∧ a < ell) (hb : 0 ≤ b ∧ b < ell) : sbL a b = if a < b then a - b + ell else a - b := by
  have he := ell_lit
  unfold sbL
  split
  · rw [← Int.add_emod_right (a - b) ell, Int.emod_eq_of_lt (by omega) (by omega)]
  · rw [Int.emod_eq_of_lt (by omega) (by omega)]
theorem lt_r {n : Int} (h : n < ell) : n < 115792089237316195423570985008687907853269984665640564039457584007913129639936 := by rw [ell_lit] at h; omega
theorem orI_comm (a b : Int) : orI .u64 a b = orI .u64 b a := by
  unfold orI
  rw [BitVec.or_comm]
/-- A half. -/
def _root_.Go.Sp.halfI (a : Int) : Int := if a % 2 = 0 then a / 2 else (a + ell) / 2
open Go.Sp (halfI)
theorem half_word {x y u v w : Int} (hx : InR .u64 x) (hy : InR .u64 y) (e1 : u = shrI .u64 x 1) (e2 : v = shlI .u64 y 63) (r1 : InR .u64 u) (r2 : InR .u64 v) (e3 : w = orI .u64 u v) : w = x / 2 + y % 2 * 9223372036854775808 := by
  have h1 := shrI_u64 x 1 (by omega)
  have h2 := shlI_u64 y 63 (by omega)
  have k1 : u = x / 2 := by rw [e1]; exact h1
  have k2 : v = y * 9223372036854775808 % 18446744073709551616 := by rw [e2]; exact h2
  have k3 : v = y % 2 * 9223372036854775808 := by omega
  simp only [InR] at hx
  have := or_add 63 (x := v) (y := u) (z := y % 2) r2 r1 k3 (by rw [k1]; show x / 2 < 9223372036854775808; omega)
  rw [e3, orI_comm, this, k1, k3]
  omega
theorem shr1_word {x u : Int} (e1 : u = shrI .u64 x 1) : u = x / 2 := by
  have h1 := shrI_u64 x 1 (by omega)
  rw [e1]; exact h1

def vc32 (a0 a1 a2 a3 b0 b1 b2 b3 : Int) (K : SV → Prop) (Q : Nat → List Pv → Prop) : Prop := fnVc Γ10 Tryd.f32 [] [.arr .u64 4 true [a0, a1, a2, a3], .arr .u64 4 true [b0, b1, b2, b3]] gh K Q
theorem vc32_eq : ∀ (a0 a1 a2 a3 b0 b1 b2 b3 : Int) (K : SV → Prop) (Q : Nat → List Pv → Prop), vc32 a0 a1 a2 a3 b0 b1 b2 b3 K Q = ∀ (x1 : Int), x1 = w0 (val4 [a0, a1, a2, a3] % (7237005577332262213973186563042994240857116359379907606001950938285454250989 : Int)) → InR IntKind.u64 x1 → ∀ (x2 : Int), x2 = w1 (val4 [a0, a1, a2, a3] % (7237005577332262213973186563042994240857116359379907606001950938285454250989 : Int)) → InR IntKind.u64 x2 → ∀ (x3 : Int), x3 = w2 (val4 [a0, a1, a2, a3] % (7237005577332262213973186563042994240857116359379907606001950938285454250989 : Int)) → InR IntKind.u64 x3 → ∀ (x4 : Int), x4 = w3 (val4 [a0, a1, a2, a3] % (7237005577332262213973186563042994240857116359379907606001950938285454250989 : Int)) → InR IntKind.u64 x4 → ∀ (x5 : Int), x5 = w0 (val4 [b0, b1, b2, b3] % (7237005577332262213973186563042994240857116359379907606001950938285454250989 : Int)) → InR IntKind.u64 x5 → ∀ (x6 : Int), x6 = w1 (val4 [b0, b1, b2, b3] % (7237005577332262213973186563042994240857116359379907606001950938285454250989 : Int)) → InR IntKind.u64 x6 → ∀ (x7 : Int), x7 = w2 (val4 [b0, b1, b2, b3] % (7237005577332262213973186563042994240857116359379907606001950938285454250989 : Int)) → InR IntKind.u64 x7 → ∀ (x8 : Int), x8 = w3 (val4 [b0, b1, b2, b3] % (7237005577332262213973186563042994240857116359379907606001950938285454250989 : Int)) → InR IntKind.u64 x8 → ∀ (x9 : Int), x9 = w0 (val4 [x1, x2, x3, x4] + val4 [x5, x6, x7, x8]) → InR IntKind.u64 x9 → ∀ (x10 : Int), x10 = w1 (val4 [x1, x2, x3, x4] + val4 [x5, x6, x7, x8]) → InR IntKind.u64 x10 → ∀ (x11 : Int), x11 = w2 (val4 [x1, x2, x3, x4] + val4 [x5, x6, x7, x8]) → InR IntKind.u64 x11 → ∀ (x12 : Int), x12 = w3 (val4 [x1, x2, x3, x4] + val4 [x5, x6, x7, x8]) → InR IntKind.u64 x12 → ∀ (x13 : Int), x13 = (val4 [x1, x2, x3, x4] + val4 [x5, x6, x7, x8]) / (115792089237316195423570985008687907853269984665640564039457584007913129639936 : Int) → InR IntKind.u64 x13 → ∀ (x14 : Int), x14 = w0 (lowI (val4 [x9, x10, x11, x12])) → InR IntKind.u64 x14 → ∀ (x15 : Int), x15 = w1 (lowI (val4 [x9, x10, x11, x12])) → InR IntKind.u64 x15 → ∀ (x16 : Int), x16 = w2 (lowI (val4 [x9, x10, x11, x12])) → InR IntKind.u64 x16 → ∀ (x17 : Int), x17 = w3 (lowI (val4 [x9, x10, x11, x12])) → InR IntKind.u64 x17 → K (SV.arr IntKind.u64 (4 : Nat) true [x14, x15, x16, x17]) := by
  intros
  kernel_rfl

def addS : List SV → Option (List Prop × SV)
  | [.arr .u64 4 _ aL, .arr .u64 4 _ bL] => some ([], .arr .u64 4 true (words4 (adL (val4 aL) (val4 bL))))
  | _ => none

theorem add_ok : CallOk Tryd.prog gh 32 (pureCtr addS) := by
  refine call_pure (fn := Tryd.f32) Γ10_ok rfl (by kernel_rfl) (by kernel_rfl) (by kernel_rfl) addS fun args P0 Y0 hs hp hf => ?_
  unfold addS at hs
  split at hs
  · rename_i ea aL eb bL
    simp only [Option.some.injEq, Prod.mk.injEq] at hs
    obtain ⟨rfl, rfl⟩ := hs
    simp only [FactVs, FactV] at hf
    obtain ⟨⟨hal, ha⟩, ⟨hbl, hb⟩, _⟩ := hf
    obtain ⟨a0, a1, a2, a3, rfl⟩ := len4 hal
    have ia0 := ha a0 (by simp); have ia1 := ha a1 (by simp); have ia2 := ha a2 (by simp); have ia3 := ha a3 (by simp)
    obtain ⟨b0, b1, b2, b3, rfl⟩ := len4 hbl
    have ib0 := hb b0 (by simp); have ib1 := hb b1 (by simp); have ib2 := hb b2 (by simp); have ib3 := hb b3 (by simp)
    refine ⟨[.arr .u64 4 true [a0, a1, a2, a3], .arr .u64 4 true [b0, b1, b2, b3]], [], _, ⟨rfl, rfl, trivial⟩, Nat.le_of_ble_eq_true (by kernel_rfl), vc_noloops ?_⟩
    show vc32 a0 a1 a2 a3 b0 b1 b2 b3 _ _
    rw [vc32_eq]
    rw [← ell_lit]
    intro x1 e1 r1 x2 e2 r2 x3 e3 r3 x4 e4 r4 x5 e5 r5 x6 e6 r6 x7 e7 r7 x8 e8 r8 x9 e9 r9 x10 e10 r10 x11 e11 r11 x12 e12 r12 x13 e13 r13 x14 e14 r14 x15 e15 r15 x16 e16 r16 x17 e17 r17
    have hA := val_ell e1 e2 e3 e4
    have hB := val_ell e5 e6 e7 e8
    have bA := mod_bd (val4 [a0, a1, a2, a3])
    have bB := mod_bd (val4 [b0, b1, b2, b3])
    rw [hA, hB] at e9 e10 e11 e12
    have hS := val_in e9 e10 e11 e12 (by omega) (by rw [ell_lit] at *; omega)
    rw [hS, low_add bA bB, show (val4 [a0, a1, a2, a3] % ell + val4 [b0, b1, b2, b3] % ell) % ell = adL (val4 [a0, a1, a2, a3]) (val4 [b0, b1, b2, b3]) from add_ell _ _] at e14 e15 e16 e17
    show [x14, x15, x16, x17] = words4 (adL (val4 [a0, a1, a2, a3]) (val4 [b0, b1, b2, b3]))
    rw [e14, e15, e16, e17]; rfl
  · cases hs

def vc34 (a0 a1 a2 a3 b0 b1 b2 b3 : Int) (K : SV → Prop) (Q : Nat → List Pv → Prop) : Prop := fnVc Γ10 Tryd.f34 [] [.arr .u64 4 true [a0, a1, a2, a3], .arr .u64 4 true [b0, b1, b2, b3]] gh K Q
theorem vc34_eq : ∀ (a0 a1 a2 a3 b0 b1 b2 b3 : Int) (K : SV → Prop) (Q : Nat → List Pv → Prop), vc34 a0 a1 a2 a3 b0 b1 b2 b3 K Q = ∀ (x1 : Int), x1 = w0 (val4 [a0, a1, a2, a3] % (7237005577332262213973186563042994240857116359379907606001950938285454250989 : Int)) → InR IntKind.u64 x1 → ∀ (x2 : Int), x2 = w1 (val4 [a0, a1, a2, a3] % (7237005577332262213973186563042994240857116359379907606001950938285454250989 : Int)) → InR IntKind.u64 x2 → ∀ (x3 : Int), x3 = w2 (val4 [a0, a1, a2, a3] % (7237005577332262213973186563042994240857116359379907606001950938285454250989 : Int)) → InR IntKind.u64 x3 → ∀ (x4 : Int), x4 = w3 (val4 [a0, a1, a2, a3] % (7237005577332262213973186563042994240857116359379907606001950938285454250989 : Int)) → InR IntKind.u64 x4 → ∀ (x5 : Int), x5 = w0 (val4 [b0, b1, b2, b3] % (7237005577332262213973186563042994240857116359379907606001950938285454250989 : Int)) → InR IntKind.u64 x5 → ∀ (x6 : Int), x6 = w1 (val4 [b0, b1, b2, b3] % (7237005577332262213973186563042994240857116359379907606001950938285454250989 : Int)) → InR IntKind.u64 x6 → ∀ (x7 : Int), x7 = w2 (val4 [b0, b1, b2, b3] % (7237005577332262213973186563042994240857116359379907606001950938285454250989 : Int)) → InR IntKind.u64 x7 → ∀ (x8 : Int), x8 = w3 (val4 [b0, b1, b2, b3] % (7237005577332262213973186563042994240857116359379907606001950938285454250989 : Int)) → InR IntKind.u64 x8 → ∀ (x9 : Int), x9 = w0 (val4 [x1, x2, x3, x4] - val4 [x5, x6, x7, x8]) → InR IntKind.u64 x9 → ∀ (x10 : Int), x10 = w1 (val4 [x1, x2, x3, x4] - val4 [x5, x6, x7, x8]) → InR IntKind.u64 x10 → ∀ (x11 : Int), x11 = w2 (val4 [x1, x2, x3, x4] - val4 [x5, x6, x7, x8]) → InR IntKind.u64 x11 → ∀ (x12 : Int), x12 = w3 (val4 [x1, x2, x3, x4] - val4 [x5, x6, x7, x8]) → InR IntKind.u64 x12 → ∀ (x13 : Int), x13 = ltI (val4 [x1, x2, x3, x4]) (val4 [x5, x6, x7, x8]) → InR IntKind.u64 x13 → ∀ (x14 : Int), x14 = w0 (val4 [x9, x10, x11, x12] + (7237005577332262213973186563042994240857116359379907606001950938285454250989 : Int)) → InR IntKind.u64 x14 → ∀ (x15 : Int), x15 = w1 (val4 [x9, x10, x11, x12] + (7237005577332262213973186563042994240857116359379907606001950938285454250989 : Int)) → InR IntKind.u64 x15 → ∀ (x16 : Int), x16 = w2 (val4 [x9, x10, x11, x12] + (7237005577332262213973186563042994240857116359379907606001950938285454250989 : Int)) → InR IntKind.u64 x16 → ∀ (x17 : Int), x17 = w3 (val4 [x9, x10, x11, x12] + (7237005577332262213973186563042994240857116359379907606001950938285454250989 : Int)) → InR IntKind.u64 x17 → ∀ (x18 : Int), x18 = (val4 [x9, x10, x11, x12] + (7237005577332262213973186563042994240857116359379907606001950938285454250989 : Int)) / (115792089237316195423570985008687907853269984665640564039457584007913129639936 : Int) → InR IntKind.u64 x18 → ∀ (x19 : Int), x19 = IntKind.u64.wrap ((0 : Int) - x13) → InR IntKind.u64 x19 → Need (x19 = (0 : Int) ∨ x19 = (18446744073709551615 : Int)) ∧ ∀ (x20 : Int), x20 = chI x19 x14 x9 → InR IntKind.u64 x20 → ∀ (x21 : Int), x21 = chI x19 x15 x10 → InR IntKind.u64 x21 → ∀ (x22 : Int), x22 = chI x19 x16 x11 → InR IntKind.u64 x22 → ∀ (x23 : Int), x23 = chI x19 x17 x12 → InR IntKind.u64 x23 → K (SV.arr IntKind.u64 (4 : Nat) true [x20, x21, x22, x23]) := by
  intros
  kernel_rfl

def subS : List SV → Option (List Prop × SV)
  | [.arr .u64 4 _ aL, .arr .u64 4 _ bL] => some ([], .arr .u64 4 true (words4 (sbL (val4 aL) (val4 bL))))
  | _ => none

theorem sub_ok : CallOk Tryd.prog gh 34 (pureCtr subS) := by
  refine call_pure (fn := Tryd.f34) Γ10_ok rfl (by kernel_rfl) (by kernel_rfl) (by kernel_rfl) subS fun args P0 Y0 hs hp hf => ?_
  unfold subS at hs
  split at hs
  · rename_i ea aL eb bL
    simp only [Option.some.injEq, Prod.mk.injEq] at hs
    obtain ⟨rfl, rfl⟩ := hs
    simp only [FactVs, FactV] at hf
    obtain ⟨⟨hal, ha⟩, ⟨hbl, hb⟩, _⟩ := hf
    obtain ⟨a0, a1, a2, a3, rfl⟩ := len4 hal
    have ia0 := ha a0 (by simp); have ia1 := ha a1 (by simp); have ia2 := ha a2 (by simp); have ia3 := ha a3 (by simp)
    obtain ⟨b0, b1, b2, b3, rfl⟩ := len4 hbl
    have ib0 := hb b0 (by simp); have ib1 := hb b1 (by simp); have ib2 := hb b2 (by simp); have ib3 := hb b3 (by simp)
    refine ⟨[.arr .u64 4 true [a0, a1, a2, a3], .arr .u64 4 true [b0, b1, b2, b3]], [], _, ⟨rfl, rfl, trivial⟩, Nat.le_of_ble_eq_true (by kernel_rfl), vc_noloops ?_⟩
    show vc34 a0 a1 a2 a3 b0 b1 b2 b3 _ _
    rw [vc34_eq]
    rw [← ell_lit]
    intro x1 e1 r1 x2 e2 r2 x3 e3 r3 x4 e4 r4 x5 e5 r5 x6 e6 r6 x7 e7 r7 x8 e8 r8 x9 e9 r9 x10 e10 r10 x11 e11 r11 x12 e12 r12 x13 e13 r13 x14 e14 r14 x15 e15 r15 x16 e16 r16 x17 e17 r17 x18 e18 r18 x19 e19 r19
    have hA := val_ell e1 e2 e3 e4
    have hB := val_ell e5 e6 e7 e8
    have bA := mod_bd (val4 [a0, a1, a2, a3])
    have bB := mod_bd (val4 [b0, b1, b2, b3])
    have he := ell_lit
    rw [hA, hB] at e9 e10 e11 e12 e13
    have hD := val_of e9 e10 e11 e12
    have hE := val_of e14 e15 e16 e17
    have hm := mask_ok (by rw [e13]; exact ltI_bit _ _) e19
    refine ⟨by unfold Need; omega, fun x20 e20 r20 x21 e21 r21 x22 e22 r22 x23 e23 r23 => ?_⟩
    show [x20, x21, x22, x23] = words4 (sbL (val4 [a0, a1, a2, a3]) (val4 [b0, b1, b2, b3]))
    refine arr_eq r20 r21 r22 r23 ?_
    rw [← sub_ell, sub_eq bA bB]
    rw [e20, e21, e22, e23]
    generalize val4 [a0, a1, a2, a3] % ell = a at *
    generalize val4 [b0, b1, b2, b3] % ell = b at *
    unfold ltI at e13
    rcases hm with ⟨h0, hm⟩ | ⟨h0, hm⟩
    · have hlt : ¬ a < b := fun h => by rw [if_pos h] at e13; omega
      rw [if_neg hlt]
      simp only [chI, hm, if_true]
      rw [hD]; omega
    · have hlt : a < b := by
        rcases Int.lt_or_le a b with h | h
        · exact h
        · rw [if_neg (Int.not_lt.2 h)] at e13; omega
      rw [if_pos hlt]
      have : ¬ (x19 = 0) := by omega
      simp only [chI, this, if_false]
      rw [hE, hD]; omega
  · cases hs

def vc37 (a0 a1 a2 a3 b0 b1 b2 b3 : Int) (K : SV → Prop) (Q : Nat → List Pv → Prop) : Prop := fnVc Γ10 Tryd.f37 [] [.arr .u64 4 true [a0, a1, a2, a3], .arr .u64 4 true [b0, b1, b2, b3]] gh K Q
theorem vc37_eq : ∀ (a0 a1 a2 a3 b0 b1 b2 b3 : Int) (K : SV → Prop) (Q : Nat → List Pv → Prop), vc37 a0 a1 a2 a3 b0 b1 b2 b3 K Q = ∀ (x1 : Int), x1 = w0 (val4 [a0, a1, a2, a3] % (7237005577332262213973186563042994240857116359379907606001950938285454250989 : Int)) → InR IntKind.u64 x1 → ∀ (x2 : Int), x2 = w1 (val4 [a0, a1, a2, a3] % (7237005577332262213973186563042994240857116359379907606001950938285454250989 : Int)) → InR IntKind.u64 x2 → ∀ (x3 : Int), x3 = w2 (val4 [a0, a1, a2, a3] % (7237005577332262213973186563042994240857116359379907606001950938285454250989 : Int)) → InR IntKind.u64 x3 → ∀ (x4 : Int), x4 = w3 (val4 [a0, a1, a2, a3] % (7237005577332262213973186563042994240857116359379907606001950938285454250989 : Int)) → InR IntKind.u64 x4 → ∀ (x5 : Int), x5 = w0 (val4 [b0, b1, b2, b3] % (7237005577332262213973186563042994240857116359379907606001950938285454250989 : Int)) → InR IntKind.u64 x5 → ∀ (x6 : Int), x6 = w1 (val4 [b0, b1, b2, b3] % (7237005577332262213973186563042994240857116359379907606001950938285454250989 : Int)) → InR IntKind.u64 x6 → ∀ (x7 : Int), x7 = w2 (val4 [b0, b1, b2, b3] % (7237005577332262213973186563042994240857116359379907606001950938285454250989 : Int)) → InR IntKind.u64 x7 → ∀ (x8 : Int), x8 = w3 (val4 [b0, b1, b2, b3] % (7237005577332262213973186563042994240857116359379907606001950938285454250989 : Int)) → InR IntKind.u64 x8 → Need (val4 [x1, x2, x3, x4] < (7237005577332262213973186563042994240857116359379907606001950938285454250989 : Int)) ∧ ∀ (x9 : Int), x9 = w0 (prI (val4 [x1, x2, x3, x4]) (val4 [x5, x6, x7, x8])) → InR IntKind.u64 x9 → ∀ (x10 : Int), x10 = w1 (prI (val4 [x1, x2, x3, x4]) (val4 [x5, x6, x7, x8])) → InR IntKind.u64 x10 → ∀ (x11 : Int), x11 = w2 (prI (val4 [x1, x2, x3, x4]) (val4 [x5, x6, x7, x8])) → InR IntKind.u64 x11 → ∀ (x12 : Int), x12 = w3 (prI (val4 [x1, x2, x3, x4]) (val4 [x5, x6, x7, x8])) → InR IntKind.u64 x12 → Need (val4 [x9, x10, x11, x12] < (7237005577332262213973186563042994240857116359379907606001950938285454250989 : Int)) ∧ ∀ (x13 : Int), x13 = w0 (prI (val4 [x9, x10, x11, x12]) (1627715501170711445284395025044413883736156588369414752970002579683115011841 : Int)) → InR IntKind.u64 x13 → ∀ (x14 : Int), x14 = w1 (prI (val4 [x9, x10, x11, x12]) (1627715501170711445284395025044413883736156588369414752970002579683115011841 : Int)) → InR IntKind.u64 x14 → ∀ (x15 : Int), x15 = w2 (prI (val4 [x9, x10, x11, x12]) (1627715501170711445284395025044413883736156588369414752970002579683115011841 : Int)) → InR IntKind.u64 x15 → ∀ (x16 : Int), x16 = w3 (prI (val4 [x9, x10, x11, x12]) (1627715501170711445284395025044413883736156588369414752970002579683115011841 : Int)) → InR IntKind.u64 x16 → K (SV.arr IntKind.u64 (4 : Nat) true [x13, x14, x15, x16]) := by
  intros
  kernel_rfl

def mulS : List SV → Option (List Prop × SV)
  | [.arr .u64 4 _ aL, .arr .u64 4 _ bL] => some ([], .arr .u64 4 true (words4 (mlL (val4 aL) (val4 bL))))
  | _ => none

theorem mul_ok : CallOk Tryd.prog gh 37 (pureCtr mulS) := by
  refine call_pure (fn := Tryd.f37) Γ10_ok rfl (by kernel_rfl) (by kernel_rfl) (by kernel_rfl) mulS fun args P0 Y0 hs hp hf => ?_
  unfold mulS at hs
  split at hs
  · rename_i ea aL eb bL
    simp only [Option.some.injEq, Prod.mk.injEq] at hs
    obtain ⟨rfl, rfl⟩ := hs
    simp only [FactVs, FactV] at hf
    obtain ⟨⟨hal, ha⟩, ⟨hbl, hb⟩, _⟩ := hf
    obtain ⟨a0, a1, a2, a3, rfl⟩ := len4 hal
    have ia0 := ha a0 (by simp); have ia1 := ha a1 (by simp); have ia2 := ha a2 (by simp); have ia3 := ha a3 (by simp)
    obtain ⟨b0, b1, b2, b3, rfl⟩ := len4 hbl
    have ib0 := hb b0 (by simp); have ib1 := hb b1 (by simp); have ib2 := hb b2 (by simp); have ib3 := hb b3 (by simp)
    refine ⟨[.arr .u64 4 true [a0, a1, a2, a3], .arr .u64 4 true [b0, b1, b2, b3]], [], _, ⟨rfl, rfl, trivial⟩, Nat.le_of_ble_eq_true (by kernel_rfl), vc_noloops ?_⟩
    show vc37 a0 a1 a2 a3 b0 b1 b2 b3 _ _
    rw [vc37_eq]
    rw [← ell_lit]
    intro x1 e1 r1 x2 e2 r2 x3 e3 r3 x4 e4 r4 x5 e5 r5 x6 e6 r6 x7 e7 r7 x8 e8 r8
    have hA := val_ell e1 e2 e3 e4
    have hB := val_ell e5 e6 e7 e8
    rw [hA, hB]
    refine ⟨(mod_bd _).2, fun x9 e9 r9 x10 e10 r10 x11 e11 r11 x12 e12 r12 => ?_⟩
    have hP := val_in e9 e10 e11 e12 (pr_bd _ _).1 (lt_r (pr_bd _ _).2)
    rw [hP]
    refine ⟨(pr_bd _ _).2, fun x13 e13 r13 x14 e14 r14 x15 e15 r15 x16 e16 r16 => ?_⟩
    rw [show (1627715501170711445284395025044413883736156588369414752970002579683115011841 : Int) = Go.Gx.r2 from rfl, mul_mont, mul_ell] at e13 e14 e15 e16
    show [x13, x14, x15, x16] = words4 (mlL (val4 [a0, a1, a2, a3]) (val4 [b0, b1, b2, b3]))
    rw [e13, e14, e15, e16]; rfl
  · cases hs

def vc33 (a0 a1 a2 a3 b0 b1 b2 b3 : Int) (K : SV → Prop) (Q : Nat → List Pv → Prop) : Prop := fnVc Γ10 Tryd.f33 [] [.arr .u64 4 true [a0, a1, a2, a3], .arr .u64 4 true [b0, b1, b2, b3]] gh K Q
theorem vc33_eq : ∀ (a0 a1 a2 a3 b0 b1 b2 b3 : Int) (K : SV → Prop) (Q : Nat → List Pv → Prop), vc33 a0 a1 a2 a3 b0 b1 b2 b3 K Q = ∀ (x1 : Int), x1 = w0 (val4 [a0, a1, a2, a3] + val4 [b0, b1, b2, b3]) → InR IntKind.u64 x1 → ∀ (x2 : Int), x2 = w1 (val4 [a0, a1, a2, a3] + val4 [b0, b1, b2, b3]) → InR IntKind.u64 x2 → ∀ (x3 : Int), x3 = w2 (val4 [a0, a1, a2, a3] + val4 [b0, b1, b2, b3]) → InR IntKind.u64 x3 → ∀ (x4 : Int), x4 = w3 (val4 [a0, a1, a2, a3] + val4 [b0, b1, b2, b3]) → InR IntKind.u64 x4 → ∀ (x5 : Int), x5 = (val4 [a0, a1, a2, a3] + val4 [b0, b1, b2, b3]) / (115792089237316195423570985008687907853269984665640564039457584007913129639936 : Int) → InR IntKind.u64 x5 → ∀ (x6 : Int), x6 = (6346243789798364141 : Int) → InR IntKind.u64 x6 → ∀ (x7 : Int), x7 = (1503914060200516822 : Int) → InR IntKind.u64 x7 → ∀ (x8 : Int), x8 = (0 : Int) → InR IntKind.u64 x8 → ∀ (x9 : Int), x9 = (1152921504606846976 : Int) → InR IntKind.u64 x9 → ∀ (x10 : Bool), x10 = decide (val4 [x1, x2, x3, x4] < val4 [x6, x7, x8, x9]) → ((!x10) = true → ∀ (x11 : Int), x11 = (6346243789798364141 : Int) → InR IntKind.u64 x11 → ∀ (x12 : Int), x12 = (1503914060200516822 : Int) → InR IntKind.u64 x12 → ∀ (x13 : Int), x13 = (0 : Int) → InR IntKind.u64 x13 → ∀ (x14 : Int), x14 = (1152921504606846976 : Int) → InR IntKind.u64 x14 → ∀ (x15 : Int), x15 = w0 (val4 [x1, x2, x3, x4] - val4 [x11, x12, x13, x14]) → InR IntKind.u64 x15 → ∀ (x16 : Int), x16 = w1 (val4 [x1, x2, x3, x4] - val4 [x11, x12, x13, x14]) → InR IntKind.u64 x16 → ∀ (x17 : Int), x17 = w2 (val4 [x1, x2, x3, x4] - val4 [x11, x12, x13, x14]) → InR IntKind.u64 x17 → ∀ (x18 : Int), x18 = w3 (val4 [x1, x2, x3, x4] - val4 [x11, x12, x13, x14]) → InR IntKind.u64 x18 → ∀ (x19 : Int), x19 = ltI (val4 [x1, x2, x3, x4]) (val4 [x11, x12, x13, x14]) → InR IntKind.u64 x19 → K (SV.arr IntKind.u64 (4 : Nat) true [x15, x16, x17, x18])) ∧ ((!x10) = false → K (SV.arr IntKind.u64 (4 : Nat) true [x1, x2, x3, x4])) := by
  intros
  kernel_rfl

def raddS : List SV → Option (List Prop × SV)
  | [.arr .u64 4 _ aL, .arr .u64 4 _ bL] => some ([val4 aL < ell, val4 bL < ell], .arr .u64 4 true (words4 (adL (val4 aL) (val4 bL))))
  | _ => none

theorem radd_ok : CallOk Tryd.prog gh 33 (pureCtr raddS) := by
  refine call_pure (fn := Tryd.f33) Γ10_ok rfl (by kernel_rfl) (by kernel_rfl) (by kernel_rfl) raddS fun args P0 Y0 hs hp hf => ?_
  unfold raddS at hs
  split at hs
  · rename_i ea aL eb bL
    simp only [Option.some.injEq, Prod.mk.injEq] at hs
    obtain ⟨rfl, rfl⟩ := hs
    simp only [FactVs, FactV] at hf
    obtain ⟨⟨hal, ha⟩, ⟨hbl, hb⟩, _⟩ := hf
    obtain ⟨hpa, hpb, _⟩ := hp
    obtain ⟨a0, a1, a2, a3, rfl⟩ := len4 hal
    have ia0 := ha a0 (by simp); have ia1 := ha a1 (by simp); have ia2 := ha a2 (by simp); have ia3 := ha a3 (by simp)
    obtain ⟨b0, b1, b2, b3, rfl⟩ := len4 hbl
    have ib0 := hb b0 (by simp); have ib1 := hb b1 (by simp); have ib2 := hb b2 (by simp); have ib3 := hb b3 (by simp)
    refine ⟨[.arr .u64 4 true [a0, a1, a2, a3], .arr .u64 4 true [b0, b1, b2, b3]], [], _, ⟨rfl, rfl, trivial⟩, Nat.le_of_ble_eq_true (by kernel_rfl), vc_noloops ?_⟩
    show vc33 a0 a1 a2 a3 b0 b1 b2 b3 _ _
    rw [vc33_eq]
    have pA := val_pos ia0 ia1 ia2 ia3
    have pB := val_pos ib0 ib1 ib2 ib3
    have he := ell_lit
    have hlow := low_add ⟨pA.1, hpa⟩ ⟨pB.1, hpb⟩
    generalize val4 [a0, a1, a2, a3] = a at *
    generalize val4 [b0, b1, b2, b3] = b at *
    intro x1 e1 r1 x2 e2 r2 x3 e3 r3 x4 e4 r4 x5 e5 r5 x6 e6 r6 x7 e7 r7 x8 e8 r8 x9 e9 r9 x10 e10
    have hS := val_in e1 e2 e3 e4 (by omega) (by omega)
    have hL : val4 [x6, x7, x8, x9] = ell := by rw [e6, e7, e8, e9]; rfl
    rw [hS, hL] at e10
    unfold lowI at hlow
    refine ⟨fun h => ?_, fun h => ?_⟩
    · intro x11 e11 r11 x12 e12 r12 x13 e13 r13 x14 e14 r14 x15 e15 r15 x16 e16 r16 x17 e17 r17 x18 e18 r18 x19 e19 r19
      have hL' : val4 [x11, x12, x13, x14] = ell := by rw [e11, e12, e13, e14]; rfl
      rw [hS, hL'] at e15 e16 e17 e18
      have hn : ¬ a + b < ell := by rw [e10] at h; simpa using h
      rw [if_neg hn] at hlow
      show [x15, x16, x17, x18] = words4 (adL a b)
      unfold adL
      rw [← hlow, e15, e16, e17, e18]; rfl
    · have hn : a + b < ell := by rw [e10] at h; simpa using h
      rw [if_pos hn] at hlow
      show [x1, x2, x3, x4] = words4 (adL a b)
      unfold adL
      rw [← hlow, e1, e2, e3, e4]; rfl
  · cases hs

def vc36 (a0 a1 a2 a3 : Int) (K : SV → Prop) (Q : Nat → List Pv → Prop) : Prop := fnVc Γ10 Tryd.f36 [] [.arr .u64 4 true [a0, a1, a2, a3]] gh K Q
theorem vc36_eq : ∀ (a0 a1 a2 a3 : Int) (K : SV → Prop) (Q : Nat → List Pv → Prop), vc36 a0 a1 a2 a3 K Q = ∀ (x1 : Bool), x1 = ([a0, a1, a2, a3] == [(0 : Int), (0 : Int), (0 : Int), (0 : Int)]) → (x1 = true → K (SV.arr IntKind.u64 (4 : Nat) true [a0, a1, a2, a3])) ∧ (x1 = false → ∀ (x2 : Int), x2 = (6346243789798364141 : Int) → InR IntKind.u64 x2 → ∀ (x3 : Int), x3 = (1503914060200516822 : Int) → InR IntKind.u64 x3 → ∀ (x4 : Int), x4 = (0 : Int) → InR IntKind.u64 x4 → ∀ (x5 : Int), x5 = (1152921504606846976 : Int) → InR IntKind.u64 x5 → ∀ (x6 : Int), x6 = w0 (val4 [x2, x3, x4, x5] - val4 [a0, a1, a2, a3]) → InR IntKind.u64 x6 → ∀ (x7 : Int), x7 = w1 (val4 [x2, x3, x4, x5] - val4 [a0, a1, a2, a3]) → InR IntKind.u64 x7 → ∀ (x8 : Int), x8 = w2 (val4 [x2, x3, x4, x5] - val4 [a0, a1, a2, a3]) → InR IntKind.u64 x8 → ∀ (x9 : Int), x9 = w3 (val4 [x2, x3, x4, x5] - val4 [a0, a1, a2, a3]) → InR IntKind.u64 x9 → ∀ (x10 : Int), x10 = ltI (val4 [x2, x3, x4, x5]) (val4 [a0, a1, a2, a3]) → InR IntKind.u64 x10 → K (SV.arr IntKind.u64 (4 : Nat) true [x6, x7, x8, x9])) := by
  intros
  kernel_rfl

def rnegS : List SV → Option (List Prop × SV)
  | [.arr .u64 4 _ aL] => some ([val4 aL < ell], .arr .u64 4 true (words4 (sbL 0 (val4 aL))))
  | _ => none

theorem rneg_ok : CallOk Tryd.prog gh 36 (pureCtr rnegS) := by
  refine call_pure (fn := Tryd.f36) Γ10_ok rfl (by kernel_rfl) (by kernel_rfl) (by kernel_rfl) rnegS fun args P0 Y0 hs hp hf => ?_
  unfold rnegS at hs
  split at hs
  · rename_i ea aL
    simp only [Option.some.injEq, Prod.mk.injEq] at hs
    obtain ⟨rfl, rfl⟩ := hs
    simp only [FactVs, FactV] at hf
    obtain ⟨⟨hal, ha⟩, _⟩ := hf
    obtain ⟨hpa, _⟩ := hp
    obtain ⟨a0, a1, a2, a3, rfl⟩ := len4 hal
    have ia0 := ha a0 (by simp); have ia1 := ha a1 (by simp); have ia2 := ha a2 (by simp); have ia3 := ha a3 (by simp)
    refine ⟨[.arr .u64 4 true [a0, a1, a2, a3]], [], _, ⟨rfl, trivial⟩, Nat.le_of_ble_eq_true (by kernel_rfl), vc_noloops ?_⟩
    show vc36 a0 a1 a2 a3 _ _
    rw [vc36_eq]
    have pA := val_pos ia0 ia1 ia2 ia3
    have he := ell_lit
    have hz : ([a0, a1, a2, a3] == [0, 0, 0, 0]) = true ↔ val4 [a0, a1, a2, a3] = 0 := by
      simp only [InR] at ia0 ia1 ia2 ia3
      rw [beq_iff_eq]
      simp only [List.cons.injEq, and_true, val4]
      omega
    have hsub := sub_eq (a := 0) (b := val4 [a0, a1, a2, a3]) ⟨by omega, by rw [he]; decide⟩ ⟨pA.1, hpa⟩
    intro x1 e1
    refine ⟨fun h => ?_, fun h => ?_⟩
    · have h0 := hz.1 (by rw [← e1]; exact h)
      refine arr_eq ia0 ia1 ia2 ia3 ?_
      rw [hsub, if_neg (by omega)]; omega
    · have h0 : ¬ val4 [a0, a1, a2, a3] = 0 := fun e => by rw [e1, hz.2 e] at h; cases h
      intro x2 e2 r2 x3 e3 r3 x4 e4 r4 x5 e5 r5 x6 e6 r6 x7 e7 r7 x8 e8 r8 x9 e9 r9 x10 e10 r10
      have hL : val4 [x2, x3, x4, x5] = ell := by rw [e2, e3, e4, e5]; rfl
      rw [hL] at e6 e7 e8 e9
      have hS := val_in e6 e7 e8 e9 (by omega) (by omega)
      refine arr_eq r6 r7 r8 r9 ?_
      rw [hS, hsub, if_pos (by omega)]; omega
  · cases hs

def vc79 (a0 a1 a2 a3 : Int) (K : SV → Prop) (Q : Nat → List Pv → Prop) : Prop := fnVc Γ10 Tryd.f79 [] [.arr .u64 4 true [a0, a1, a2, a3]] gh K Q
theorem vc79_eq : ∀ (a0 a1 a2 a3 : Int) (K : SV → Prop) (Q : Nat → List Pv → Prop), vc79 a0 a1 a2 a3 K Q = ∀ (x1 : Int), x1 = andI IntKind.u64 a0 (4294967295 : Int) → InR IntKind.u64 x1 → ∀ (x2 : Int), x2 = shrI IntKind.u64 a0 (32 : Int) → InR IntKind.u64 x2 → ∀ (x3 : Int), x3 = andI IntKind.u64 a1 (4294967295 : Int) → InR IntKind.u64 x3 → ∀ (x4 : Int), x4 = shrI IntKind.u64 a1 (32 : Int) → InR IntKind.u64 x4 → ∀ (x5 : Int), x5 = andI IntKind.u64 a2 (4294967295 : Int) → InR IntKind.u64 x5 → ∀ (x6 : Int), x6 = shrI IntKind.u64 a2 (32 : Int) → InR IntKind.u64 x6 → ∀ (x7 : Int), x7 = andI IntKind.u64 a3 (4294967295 : Int) → InR IntKind.u64 x7 → ∀ (x8 : Int), x8 = shrI IntKind.u64 a3 (32 : Int) → InR IntKind.u64 x8 → K (SV.arr IntKind.u64 (8 : Nat) true [x1, x2, x3, x4, x5, x6, x7, x8]) := by
  intros
  kernel_rfl

def halvesS : List SV → Option (List Prop × SV)
  | [.arr .u64 4 _ aL] => some ([], .arr .u64 8 true [ge aL 0 % 4294967296, ge aL 0 / 4294967296, ge aL 1 % 4294967296, ge aL 1 / 4294967296, ge aL 2 % 4294967296, ge aL 2 / 4294967296, ge aL 3 % 4294967296, ge aL 3 / 4294967296])
  | _ => none

theorem halves_ok : CallOk Tryd.prog gh 79 (pureCtr halvesS) := by
  refine call_pure (fn := Tryd.f79) Γ10_ok rfl (by kernel_rfl) (by kernel_rfl) (by kernel_rfl) halvesS fun args P0 Y0 hs hp hf => ?_
  unfold halvesS at hs
  split at hs
  · rename_i ea aL
    simp only [Option.some.injEq, Prod.mk.injEq] at hs
    obtain ⟨rfl, rfl⟩ := hs
    simp only [FactVs, FactV] at hf
    obtain ⟨⟨hal, ha⟩, _⟩ := hf
    obtain ⟨a0, a1, a2, a3, rfl⟩ := len4 hal
    have ia0 := ha a0 (by simp); have ia1 := ha a1 (by simp); have ia2 := ha a2 (by simp); have ia3 := ha a3 (by simp)
    refine ⟨[.arr .u64 4 true [a0, a1, a2, a3]], [], _, ⟨rfl, trivial⟩, Nat.le_of_ble_eq_true (by kernel_rfl), vc_noloops ?_⟩
    show vc79 a0 a1 a2 a3 _ _
    rw [vc79_eq]
    intro x1 e1 r1 x2 e2 r2 x3 e3 r3 x4 e4 r4 x5 e5 r5 x6 e6 r6 x7 e7 r7 x8 e8 r8
    rw [and32 ia0] at e1
    rw [and32 ia1] at e3
    rw [and32 ia2] at e5
    rw [and32 ia3] at e7
    rw [shr32] at e2 e4 e6 e8
    show [x1, x2, x3, x4, x5, x6, x7, x8] = [a0 % 4294967296, a0 / 4294967296, a1 % 4294967296, a1 / 4294967296, a2 % 4294967296, a2 / 4294967296, a3 % 4294967296, a3 / 4294967296]
    rw [e1, e2, e3, e4, e5, e6, e7, e8]
  · cases hs

def vc52 (x : Int) (K : SV → Prop) (Q : Nat → List Pv → Prop) : Prop := fnVc Γ10 Tryd.f52 [] [.i .u64 ⟨false, x⟩] gh K Q
theorem vc52_eq : ∀ (x : Int) (K : SV → Prop) (Q : Nat → List Pv → Prop), vc52 x K Q = K (SV.arr IntKind.u64 (4 : Nat) true [x, (0 : Int), (0 : Int), (0 : Int)]) := by
  intros
  kernel_rfl

def intS : List SV → Option (List Prop × SV)
  | [.i .u64 xV] => some ([], .arr .u64 4 true [xV.z, 0, 0, 0])
  | _ => none

theorem int_ok : CallOk Tryd.prog gh 52 (pureCtr intS) := by
  refine call_pure (fn := Tryd.f52) Γ10_ok rfl (by kernel_rfl) (by kernel_rfl) (by kernel_rfl) intS fun args P0 Y0 hs hp hf => ?_
  unfold intS at hs
  split at hs
  · rename_i xV
    simp only [Option.some.injEq, Prod.mk.injEq] at hs
    obtain ⟨rfl, rfl⟩ := hs
    simp only [FactVs, FactV] at hf
    obtain ⟨hx, _⟩ := hf
    refine ⟨[.i .u64 ⟨false, xV.z⟩], [], _, ⟨rfl, trivial⟩, Nat.le_of_ble_eq_true (by kernel_rfl), vc_noloops ?_⟩
    show vc52 xV.z _ _
    rw [vc52_eq]
    generalize xV.z = x at *
    exact rfl
  · cases hs

def vc53 (x : Int) (K : SV → Prop) (Q : Nat → List Pv → Prop) : Prop := fnVc Γ10 Tryd.f53 [] [.i .u64 ⟨false, x⟩] gh K Q
theorem vc53_eq : ∀ (x : Int) (K : SV → Prop) (Q : Nat → List Pv → Prop), vc53 x K Q = K (SV.arr IntKind.u64 (4 : Nat) true [x, (0 : Int), (0 : Int), (0 : Int)]) := by
  intros
  kernel_rfl

def rintS : List SV → Option (List Prop × SV)
  | [.i .u64 xV] => some ([], .arr .u64 4 true [xV.z, 0, 0, 0])
  | _ => none

theorem rint_ok : CallOk Tryd.prog gh 53 (pureCtr rintS) := by
  refine call_pure (fn := Tryd.f53) Γ10_ok rfl (by kernel_rfl) (by kernel_rfl) (by kernel_rfl) rintS fun args P0 Y0 hs hp hf => ?_
  unfold rintS at hs
  split at hs
  · rename_i xV
    simp only [Option.some.injEq, Prod.mk.injEq] at hs
    obtain ⟨rfl, rfl⟩ := hs
    simp only [FactVs, FactV] at hf
    obtain ⟨hx, _⟩ := hf
    refine ⟨[.i .u64 ⟨false, xV.z⟩], [], _, ⟨rfl, trivial⟩, Nat.le_of_ble_eq_true (by kernel_rfl), vc_noloops ?_⟩
    show vc53 xV.z _ _
    rw [vc53_eq]
    generalize xV.z = x at *
    exact rfl
  · cases hs

def vc51 (a0 a1 a2 a3 : Int) (K : SV → Prop) (Q : Nat → List Pv → Prop) : Prop := fnVc Γ10 Tryd.f51 [] [.arr .u64 4 true [a0, a1, a2, a3]] gh K Q
theorem vc51_eq : ∀ (a0 a1 a2 a3 : Int) (K : SV → Prop) (Q : Nat → List Pv → Prop), vc51 a0 a1 a2 a3 K Q = K (SV.arr IntKind.u64 (4 : Nat) true [(1 : Int), (0 : Int), (0 : Int), (0 : Int)]) := by
  intros
  kernel_rfl

def oneS : List SV → Option (List Prop × SV)
  | [.arr .u64 4 _ aL] => some ([], .arr .u64 4 true [1, 0, 0, 0])
  | _ => none

theorem one_ok : CallOk Tryd.prog gh 51 (pureCtr oneS) := by
  refine call_pure (fn := Tryd.f51) Γ10_ok rfl (by kernel_rfl) (by kernel_rfl) (by kernel_rfl) oneS fun args P0 Y0 hs hp hf => ?_
  unfold oneS at hs
  split at hs
  · rename_i ea aL
    simp only [Option.some.injEq, Prod.mk.injEq] at hs
    obtain ⟨rfl, rfl⟩ := hs
    simp only [FactVs, FactV] at hf
    obtain ⟨⟨hal, ha⟩, _⟩ := hf
    obtain ⟨a0, a1, a2, a3, rfl⟩ := len4 hal
    have ia0 := ha a0 (by simp); have ia1 := ha a1 (by simp); have ia2 := ha a2 (by simp); have ia3 := ha a3 (by simp)
    refine ⟨[.arr .u64 4 true [a0, a1, a2, a3]], [], _, ⟨rfl, trivial⟩, Nat.le_of_ble_eq_true (by kernel_rfl), vc_noloops ?_⟩
    show vc51 a0 a1 a2 a3 _ _
    rw [vc51_eq]
    exact rfl
  · cases hs

def vc82 (a0 a1 a2 a3 : Int) (K : SV → Prop) (Q : Nat → List Pv → Prop) : Prop := fnVc Γ10 Tryd.f82 [] [.arr .u64 4 true [a0, a1, a2, a3]] gh K Q
theorem vc82_eq : ∀ (a0 a1 a2 a3 : Int) (K : SV → Prop) (Q : Nat → List Pv → Prop), vc82 a0 a1 a2 a3 K Q = ∀ (x1 : Int), x1 = andI IntKind.u64 a0 (1 : Int) → InR IntKind.u64 x1 → ((x1 == (1 : Int)) = true → ∀ (x2 : Int), x2 = (6346243789798364141 : Int) → InR IntKind.u64 x2 → ∀ (x3 : Int), x3 = (1503914060200516822 : Int) → InR IntKind.u64 x3 → ∀ (x4 : Int), x4 = (0 : Int) → InR IntKind.u64 x4 → ∀ (x5 : Int), x5 = (1152921504606846976 : Int) → InR IntKind.u64 x5 → ∀ (x6 : Int), x6 = w0 (val4 [a0, a1, a2, a3] + val4 [x2, x3, x4, x5]) → InR IntKind.u64 x6 → ∀ (x7 : Int), x7 = w1 (val4 [a0, a1, a2, a3] + val4 [x2, x3, x4, x5]) → InR IntKind.u64 x7 → ∀ (x8 : Int), x8 = w2 (val4 [a0, a1, a2, a3] + val4 [x2, x3, x4, x5]) → InR IntKind.u64 x8 → ∀ (x9 : Int), x9 = w3 (val4 [a0, a1, a2, a3] + val4 [x2, x3, x4, x5]) → InR IntKind.u64 x9 → ∀ (x10 : Int), x10 = (val4 [a0, a1, a2, a3] + val4 [x2, x3, x4, x5]) / (115792089237316195423570985008687907853269984665640564039457584007913129639936 : Int) → InR IntKind.u64 x10 → ∀ (x11 : Int), x11 = shrI IntKind.u64 x6 (1 : Int) → InR IntKind.u64 x11 → ∀ (x12 : Int), x12 = shlI IntKind.u64 x7 (63 : Int) → InR IntKind.u64 x12 → ∀ (x13 : Int), x13 = orI IntKind.u64 x11 x12 → InR IntKind.u64 x13 → ∀ (x14 : Int), x14 = shrI IntKind.u64 x7 (1 : Int) → InR IntKind.u64 x14 → ∀ (x15 : Int), x15 = shlI IntKind.u64 x8 (63 : Int) → InR IntKind.u64 x15 → ∀ (x16 : Int), x16 = orI IntKind.u64 x14 x15 → InR IntKind.u64 x16 → ∀ (x17 : Int), x17 = shrI IntKind.u64 x8 (1 : Int) → InR IntKind.u64 x17 → ∀ (x18 : Int), x18 = shlI IntKind.u64 x9 (63 : Int) → InR IntKind.u64 x18 → ∀ (x19 : Int), x19 = orI IntKind.u64 x17 x18 → InR IntKind.u64 x19 → ∀ (x20 : Int), x20 = shrI IntKind.u64 x9 (1 : Int) → InR IntKind.u64 x20 → ∀ (x21 : Int), x21 = shlI IntKind.u64 x10 (63 : Int) → InR IntKind.u64 x21 → ∀ (x22 : Int), x22 = orI IntKind.u64 x20 x21 → InR IntKind.u64 x22 → K (SV.arr IntKind.u64 (4 : Nat) true [x13, x16, x19, x22])) ∧ ((x1 == (1 : Int)) = false → ∀ (x23 : Int), x23 = shrI IntKind.u64 a0 (1 : Int) → InR IntKind.u64 x23 → ∀ (x24 : Int), x24 = shlI IntKind.u64 a1 (63 : Int) → InR IntKind.u64 x24 → ∀ (x25 : Int), x25 = orI IntKind.u64 x23 x24 → InR IntKind.u64 x25 → ∀ (x26 : Int), x26 = shrI IntKind.u64 a1 (1 : Int) → InR IntKind.u64 x26 → ∀ (x27 : Int), x27 = shlI IntKind.u64 a2 (63 : Int) → InR IntKind.u64 x27 → ∀ (x28 : Int), x28 = orI IntKind.u64 x26 x27 → InR IntKind.u64 x28 → ∀ (x29 : Int), x29 = shrI IntKind.u64 a2 (1 : Int) → InR IntKind.u64 x29 → ∀ (x30 : Int), x30 = shlI IntKind.u64 a3 (63 : Int) → InR IntKind.u64 x30 → ∀ (x31 : Int), x31 = orI IntKind.u64 x29 x30 → InR IntKind.u64 x31 → ∀ (x32 : Int), x32 = shrI IntKind.u64 a3 (1 : Int) → InR IntKind.u64 x32 → ∀ (x33 : Int), x33 = orI IntKind.u64 x32 (0 : Int) → InR IntKind.u64 x33 → K (SV.arr IntKind.u64 (4 : Nat) true [x25, x28, x31, x33])) := by
  intros
  kernel_rfl

def halfS : List SV → Option (List Prop × SV)
  | [.arr .u64 4 _ aL] => some ([], .arr .u64 4 true (words4 (halfI (val4 aL))))
  | _ => none

theorem half_ok : CallOk Tryd.prog gh 82 (pureCtr halfS) := by
  refine call_pure (fn := Tryd.f82) Γ10_ok rfl (by kernel_rfl) (by kernel_rfl) (by kernel_rfl) halfS fun args P0 Y0 hs hp hf => ?_
  unfold halfS at hs
  split at hs
  · rename_i ea aL
    simp only [Option.some.injEq, Prod.mk.injEq] at hs
    obtain ⟨rfl, rfl⟩ := hs
    simp only [FactVs, FactV] at hf
    obtain ⟨⟨hal, ha⟩, _⟩ := hf
    obtain ⟨a0, a1, a2, a3, rfl⟩ := len4 hal
    have ia0 := ha a0 (by simp); have ia1 := ha a1 (by simp); have ia2 := ha a2 (by simp); have ia3 := ha a3 (by simp)
    refine ⟨[.arr .u64 4 true [a0, a1, a2, a3]], [], _, ⟨rfl, trivial⟩, Nat.le_of_ble_eq_true (by kernel_rfl), vc_noloops ?_⟩
    show vc82 a0 a1 a2 a3 _ _
    rw [vc82_eq]
    have he := ell_lit
    have hodd : a0 % 2 = val4 [a0, a1, a2, a3] % 2 := by simp only [val4]; omega
    intro x1 e1 r1
    rw [and1 ia0, hodd] at e1
    refine ⟨fun h => ?_, fun h => ?_⟩
    · have h1 : x1 = 1 := by simpa using h
      intro x2 e2 r2 x3 e3 r3 x4 e4 r4 x5 e5 r5 x6 e6 r6 x7 e7 r7 x8 e8 r8 x9 e9 r9 x10 e10 r10 x11 e11 r11 x12 e12 r12 x13 e13 r13 x14 e14 r14 x15 e15 r15 x16 e16 r16 x17 e17 r17 x18 e18 r18 x19 e19 r19 x20 e20 r20 x21 e21 r21 x22 e22 r22
      have hL : val4 [x2, x3, x4, x5] = ell := by rw [e2, e3, e4, e5]; rfl
      rw [hL] at e6 e7 e8 e9 e10
      have hS := val_of e6 e7 e8 e9
      have q13 := half_word r6 r7 e11 e12 r11 r12 e13
      have q16 := half_word r7 r8 e14 e15 r14 r15 e16
      have q19 := half_word r8 r9 e17 e18 r17 r18 e19
      have q22 := half_word r9 r10 e20 e21 r20 r21 e22
      refine arr_eq r13 r16 r19 r22 ?_
      unfold halfI
      rw [if_neg (by omega)]
      have pA := val_pos ia0 ia1 ia2 ia3
      simp only [InR] at r6 r7 r8 r9 r10
      generalize val4 [a0, a1, a2, a3] = a at *
      simp only [val4] at hS ⊢
      clear e1 e2 e3 e4 e5 e6 e7 e8 e9 e11 e12 e13 e14 e15 e16 e17 e18 e19 e20 e21 e22 hL
      omega
    · have h1 : ¬ x1 = 1 := by simpa using h
      intro x23 e23 r23 x24 e24 r24 x25 e25 r25 x26 e26 r26 x27 e27 r27 x28 e28 r28 x29 e29 r29 x30 e30 r30 x31 e31 r31 x32 e32 r32 x33 e33 r33
      have q25 := half_word ia0 ia1 e23 e24 r23 r24 e25
      have q28 := half_word ia1 ia2 e26 e27 r26 r27 e28
      have q31 := half_word ia2 ia3 e29 e30 r29 r30 e31
      have q32 := shr1_word e32
      have q33 : x33 = x32 := by
        rw [e33]
        have := or_add 64 (x := 0) (y := x32) (z := 0) ⟨by omega, by omega⟩ r32 (by omega) r32.2
        rw [orI_comm, this]; omega
      refine arr_eq r25 r28 r31 r33 ?_
      unfold halfI
      rw [if_pos (by omega)]
      simp only [val4]
      omega
  · cases hs

def Γ11 : Tab := ⟨tys, [(32, pureCtr addS), (34, pureCtr subS), (37, pureCtr mulS), (33, pureCtr raddS), (36, pureCtr rnegS), (79, pureCtr halvesS), (52, pureCtr intS), (53, pureCtr rintS), (51, pureCtr oneS), (82, pureCtr halfS)] ++ Γ10.ctr, [0], gh⟩
theorem Γ11_ok : TabOk Tryd.prog Γ11 := (((((((((Γ10_ok.cons half_ok).cons one_ok).cons rint_ok).cons int_ok).cons halves_ok).cons rneg_ok).cons radd_ok).cons mul_ok).cons sub_ok).cons add_ok
end Go.Gx
