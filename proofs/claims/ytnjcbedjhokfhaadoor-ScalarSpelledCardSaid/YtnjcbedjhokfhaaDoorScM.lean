/- Bits of a number. -/
import Derived.Test.YtnjcbedjhokfhaaDoorScL
namespace Go.Gx
open Go.Proofs Go.Sp
set_option linter.unusedVariables false

theorem bit_word {n : Int} (hn : 0 ≤ n) (j k : Nat) (hk : k < 64) : n / ((2 ^ (64 * j) : Nat) : Int) % 18446744073709551616 / ((2 ^ k : Nat) : Int) % 2 = n / ((2 ^ (64 * j + k) : Nat) : Int) % 2 := by
  obtain ⟨N, rfl⟩ := Int.eq_ofNat_of_zero_le hn
  have h : N / 2 ^ (64 * j) % 2 ^ 64 / 2 ^ k % 2 = N / 2 ^ (64 * j + k) % 2 := by
    rw [show (2 : Nat) ^ 64 = 2 ^ k * 2 ^ (64 - k) by rw [← Nat.pow_add]; congr 1; omega, Nat.mod_mul_right_div_self, Nat.mod_mod_of_dvd _ (by exact ⟨2 ^ (64 - k - 1), by rw [Nat.mul_comm, ← Nat.pow_succ]; congr 1; omega⟩), Nat.div_div_eq_div_mul, ← Nat.pow_add]
  have e : (18446744073709551616 : Int) = ((2 ^ 64 : Nat) : Int) := by decide
  rw [e]
  exact_mod_cast h

theorem and1 {a : Int} (ha : InR .u64 a) : andI .u64 a 1 = a % 2 := and_mask 1 (by omega) ha

theorem getD_words (n : Int) (j : Nat) (hj : j < 4) : [w0 n, w1 n, w2 n, w3 n].getD j 0 = n / ((2 ^ (64 * j) : Nat) : Int) % 18446744073709551616 := by
  match j, hj with
  | 0, _ => simp [w0]
  | 1, _ => rfl
  | 2, _ => rfl
  | 3, _ => rfl

theorem bit_high {n i : Int} (hn : 0 ≤ n ∧ n < ell) (hi : i ≥ 253) : bitI n i = 0 := by
  unfold bitI
  split
  · rename_i h
    rw [ell_lit] at hn
    obtain ⟨k, rfl⟩ := Int.eq_ofNat_of_zero_le h.1
    have h3 : (2 : Nat) ^ 253 ≤ 2 ^ k := Nat.pow_le_pow_right (by omega) (by omega)
    have : n < ((2 ^ k : Nat) : Int) := by
      have h4 : ((2 ^ 253 : Nat) : Int) ≤ ((2 ^ k : Nat) : Int) := by exact_mod_cast h3
      have h5 : ((2 ^ 253 : Nat) : Int) = 14474011154664524427946373126085988481658748083205070504932198000989141204992 := by decide
      rw [h5] at h4
      omega
    rw [Int.toNat_natCast, Int.ediv_eq_zero_of_lt hn.1 this]; rfl
  · rfl

theorem tdiv64 {i : Int} (h : 0 ≤ i) : i.tdiv 64 = i / 64 := Int.tdiv_eq_ediv_of_nonneg h
theorem tmod64 {i : Int} (h : 0 ≤ i) : i.tmod 64 = i % 64 := Int.tmod_eq_emod_of_nonneg h

/-- A bit, off its word. -/
theorem bit_at {n i x6 x7 x8 x9 x10 : Int} {j : Nat} (hi : 0 ≤ i ∧ i < 256) (hn : 0 ≤ n) (hj : (j : Int) = i / 64) (e6 : x6 = n / ((2 ^ (64 * j) : Nat) : Int) % 18446744073709551616) (e7 : x7 = i % 64) (e8 : x8 = shrI .u64 x6 x7) (r8 : InR .u64 x8) (e9 : x9 = andI .u64 x8 1) (e10 : x10 = IntKind.i64.wrap x9) :
    x10 = bitI n i := by
  obtain ⟨k, hk⟩ : ∃ k : Nat, (k : Int) = x7 := ⟨x7.toNat, by omega⟩
  have hk64 : k < 64 := by omega
  rw [← hk, shrI_u64 x6 k (by omega), e6] at e8
  rw [and1 r8, e8, bit_word hn j k hk64] at e9
  have hb : 0 ≤ x9 ∧ x9 < 2 := by omega
  rw [wrap_i64 (by omega)] at e10
  unfold bitI
  rw [if_pos hi, e10, e9]
  have : 64 * j + k = i.toNat := by omega
  rw [this]

def vc22 (a0 a1 a2 a3 i : Int) (K : SV → Prop) (Q : Nat → List Pv → Prop) : Prop := fnVc Γ7 Tryd.f22 [] [.arr .u64 4 true [a0, a1, a2, a3], .i .i64 ⟨false, i⟩] gh K Q
theorem vc22_eq : ∀ (a0 a1 a2 a3 i : Int) (K : SV → Prop) (Q : Nat → List Pv → Prop), vc22 a0 a1 a2 a3 i K Q = ((decide (i < (0 : Int)) = true → K (SV.i IntKind.i64 { st := true, z := (0 : Int) })) ∧ (decide (i < (0 : Int)) = false → (decide (i ≥ (253 : Int)) = true → K (SV.i IntKind.i64 { st := true, z := (0 : Int) })) ∧ (decide (i ≥ (253 : Int)) = false → ∀ (x1 : Int), x1 = w0 (val4 [a0, a1, a2, a3] % (7237005577332262213973186563042994240857116359379907606001950938285454250989 : Int)) → InR IntKind.u64 x1 → ∀ (x2 : Int), x2 = w1 (val4 [a0, a1, a2, a3] % (7237005577332262213973186563042994240857116359379907606001950938285454250989 : Int)) → InR IntKind.u64 x2 → ∀ (x3 : Int), x3 = w2 (val4 [a0, a1, a2, a3] % (7237005577332262213973186563042994240857116359379907606001950938285454250989 : Int)) → InR IntKind.u64 x3 → ∀ (x4 : Int), x4 = w3 (val4 [a0, a1, a2, a3] % (7237005577332262213973186563042994240857116359379907606001950938285454250989 : Int)) → InR IntKind.u64 x4 → ∀ (x5 : Int), x5 = IntKind.i64.wrap (i.tdiv (64 : Int)) → InR IntKind.i64 x5 → Need ((0 : Int) ≤ x5 ∧ x5 < (4 : Int)) ∧ ∀ (x6 : Int), x6 = [x1, x2, x3, x4].getD x5.toNat (0 : Int) → InR IntKind.u64 x6 → ∀ (x7 : Int), x7 = i.tmod (64 : Int) → InR IntKind.i64 x7 → Need ((0 : Int) ≤ x7) ∧ ∀ (x8 : Int), x8 = shrI IntKind.u64 x6 x7 → InR IntKind.u64 x8 → ∀ (x9 : Int), x9 = andI IntKind.u64 x8 (1 : Int) → InR IntKind.u64 x9 → ∀ (x10 : Int), x10 = IntKind.i64.wrap x9 → InR IntKind.i64 x10 → K (SV.i IntKind.i64 { st := false, z := x10 })))) := by
  intros
  kernel_rfl

def bitTS : List SV → Option (List Prop × SV)
  | [.arr .u64 4 _ l, .i .i64 i] => some ([], .i .i64 ⟨false, bitI (val4 l % ell) i.z⟩)
  | _ => none

theorem bitT_ok : CallOk Tryd.prog gh 22 (pureCtr bitTS) := by
  refine call_pure (fn := Tryd.f22) Γ7_ok rfl (by kernel_rfl) (by kernel_rfl) (by kernel_rfl) bitTS fun args p y hs hp hf => ?_
  unfold bitTS at hs
  split at hs
  · rename_i e1 l i
    simp only [Option.some.injEq, Prod.mk.injEq] at hs
    obtain ⟨rfl, rfl⟩ := hs
    simp only [FactVs, FactV] at hf
    obtain ⟨⟨hl, h1⟩, hi, _⟩ := hf
    obtain ⟨a0, a1, a2, a3, rfl⟩ := len4 hl
    have i0 := h1 a0 (by simp); have i1 := h1 a1 (by simp); have i2 := h1 a2 (by simp); have i3 := h1 a3 (by simp)
    refine ⟨[.arr .u64 4 true [a0, a1, a2, a3], .i .i64 ⟨false, i.z⟩], [], _, ⟨rfl, rfl, trivial⟩, Nat.le_of_ble_eq_true (by kernel_rfl), vc_noloops ?_⟩
    show vc22 a0 a1 a2 a3 i.z _ _
    rw [vc22_eq]
    generalize i.z = i at *
    have hn := mod_bd (val4 [a0, a1, a2, a3])
    refine ⟨fun h => ?_, fun h => ⟨fun h2 => ?_, fun h2 => ?_⟩⟩
    · have h := of_decide_eq_true h
      show (0 : Int) = bitI (val4 [a0, a1, a2, a3] % ell) i
      unfold bitI; rw [if_neg (by omega)]
    · have h2 := of_decide_eq_true h2
      show (0 : Int) = bitI (val4 [a0, a1, a2, a3] % ell) i
      exact (bit_high hn h2).symm
    · have h := of_decide_eq_false h
      have h2 := of_decide_eq_false h2
      intro x1 e1 r1 x2 e2 r2 x3 e3 r3 x4 e4 r4 x5 e5 r5
      rw [tdiv64 (by omega), wrap_i64 (by omega)] at e5
      obtain ⟨j, hj⟩ : ∃ j : Nat, (j : Int) = i / 64 := ⟨(i / 64).toNat, by omega⟩
      have hx5 : x5.toNat = j := by omega
      refine ⟨by unfold Need; omega, fun x6 e6 r6 x7 e7 r7 => ⟨by rw [tmod64 (by omega)] at e7; unfold Need; omega, fun x8 e8 r8 x9 e9 r9 x10 e10 r10 => ?_⟩⟩
      rw [tmod64 (by omega)] at e7
      rw [hx5, e1, e2, e3, e4] at e6
      have e6 := e6.trans (getD_words (val4 [a0, a1, a2, a3] % ell) j (by omega))
      show x10 = bitI (val4 [a0, a1, a2, a3] % ell) i
      exact bit_at (by omega) hn.1 hj e6 e7 e8 r8 e9 e10
  · cases hs

def vc23 (a0 a1 a2 a3 i : Int) (K : SV → Prop) (Q : Nat → List Pv → Prop) : Prop := fnVc Γ7 Tryd.f23 [] [.arr .u64 4 true [a0, a1, a2, a3], .i .i64 ⟨false, i⟩] gh K Q
theorem vc23_eq : ∀ (a0 a1 a2 a3 i : Int) (K : SV → Prop) (Q : Nat → List Pv → Prop), vc23 a0 a1 a2 a3 i K Q = ((decide (i < (0 : Int)) = true → K (SV.i IntKind.i64 { st := true, z := (0 : Int) })) ∧ (decide (i < (0 : Int)) = false → (decide (i ≥ (256 : Int)) = true → K (SV.i IntKind.i64 { st := true, z := (0 : Int) })) ∧ (decide (i ≥ (256 : Int)) = false → ∀ (x1 : Int), x1 = IntKind.i64.wrap (i.tdiv (64 : Int)) → InR IntKind.i64 x1 → Need ((0 : Int) ≤ x1 ∧ x1 < (4 : Int)) ∧ Need ((0 : Int) ≤ x1 ∧ x1 < (4 : Int)) ∧ ∀ (x2 : Int), x2 = [a0, a1, a2, a3].getD x1.toNat (0 : Int) → InR IntKind.u64 x2 → ∀ (x3 : Int), x3 = i.tmod (64 : Int) → InR IntKind.i64 x3 → Need ((0 : Int) ≤ x3) ∧ ∀ (x4 : Int), x4 = shrI IntKind.u64 x2 x3 → InR IntKind.u64 x4 → ∀ (x5 : Int), x5 = andI IntKind.u64 x4 (1 : Int) → InR IntKind.u64 x5 → ∀ (x6 : Int), x6 = IntKind.i64.wrap x5 → InR IntKind.i64 x6 → K (SV.i IntKind.i64 { st := false, z := x6 })))) := by
  intros
  kernel_rfl

def rbitS : List SV → Option (List Prop × SV)
  | [.arr .u64 4 _ l, .i .i64 i] => some ([], .i .i64 ⟨false, bitI (val4 l) i.z⟩)
  | _ => none

theorem rbit_ok : CallOk Tryd.prog gh 23 (pureCtr rbitS) := by
  refine call_pure (fn := Tryd.f23) Γ7_ok rfl (by kernel_rfl) (by kernel_rfl) (by kernel_rfl) rbitS fun args p y hs hp hf => ?_
  unfold rbitS at hs
  split at hs
  · rename_i e1 l i
    simp only [Option.some.injEq, Prod.mk.injEq] at hs
    obtain ⟨rfl, rfl⟩ := hs
    simp only [FactVs, FactV] at hf
    obtain ⟨⟨hl, h1⟩, hi, _⟩ := hf
    obtain ⟨a0, a1, a2, a3, rfl⟩ := len4 hl
    have i0 := h1 a0 (by simp); have i1 := h1 a1 (by simp); have i2 := h1 a2 (by simp); have i3 := h1 a3 (by simp)
    refine ⟨[.arr .u64 4 true [a0, a1, a2, a3], .i .i64 ⟨false, i.z⟩], [], _, ⟨rfl, rfl, trivial⟩, Nat.le_of_ble_eq_true (by kernel_rfl), vc_noloops ?_⟩
    show vc23 a0 a1 a2 a3 i.z _ _
    rw [vc23_eq]
    generalize i.z = i at *
    have hn := val4_bd i0 i1 i2 i3
    refine ⟨fun h => ?_, fun h => ⟨fun h2 => ?_, fun h2 => ?_⟩⟩
    · have h := of_decide_eq_true h
      show (0 : Int) = bitI (val4 [a0, a1, a2, a3]) i
      unfold bitI; rw [if_neg (by omega)]
    · have h2 := of_decide_eq_true h2
      show (0 : Int) = bitI (val4 [a0, a1, a2, a3]) i
      unfold bitI; rw [if_neg (by omega)]
    · have h := of_decide_eq_false h
      have h2 := of_decide_eq_false h2
      intro x5 e5 r5
      rw [tdiv64 (by omega), wrap_i64 (by omega)] at e5
      obtain ⟨j, hj⟩ : ∃ j : Nat, (j : Int) = i / 64 := ⟨(i / 64).toNat, by omega⟩
      have hx5 : x5.toNat = j := by omega
      refine ⟨by unfold Need; omega, by unfold Need; omega, fun x6 e6 r6 x7 e7 r7 => ⟨by rw [tmod64 (by omega)] at e7; unfold Need; omega, fun x8 e8 r8 x9 e9 r9 x10 e10 r10 => ?_⟩⟩
      rw [tmod64 (by omega)] at e7
      rw [hx5, ← words_val i0 i1 i2 i3] at e6
      have e6 := e6.trans (getD_words (val4 [a0, a1, a2, a3]) j (by omega))
      show x10 = bitI (val4 [a0, a1, a2, a3]) i
      exact bit_at (by omega) hn.1 hj e6 e7 e8 r8 e9 e10
  · cases hs

def Γ8 : Tab := ⟨tys, [(17, pureCtr ofS), (18, pureCtr sameS), (19, pureCtr rsameS), (20, pureCtr isZeroS), (21, pureCtr risZeroS), (22, pureCtr bitTS), (23, pureCtr rbitS), (24, pureCtr isTS), (25, pureCtr selS), (26, pureCtr rselS)] ++ Γ7.ctr, [0], gh⟩
theorem Γ8_ok : TabOk Tryd.prog Γ8 := (((((((((Γ7_ok.cons rsel_ok).cons sel_ok).cons isT_ok).cons rbit_ok).cons bitT_ok).cons risZero_ok).cons isZero_ok).cons rsame_ok).cons same_ok).cons of_ok

end Go.Gx
