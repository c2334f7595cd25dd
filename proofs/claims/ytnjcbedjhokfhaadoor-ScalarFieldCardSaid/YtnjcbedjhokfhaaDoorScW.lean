/- A law's words read as numbers: equations for the simplifier; the field's laws. -/
import Derived.Test.YtnjcbedjhokfhaaDoorScV
namespace Go.Gx
open Go.Proofs Go.Sp
open Go.Sp (prI mlL adL sbL pwL halfI invL)
set_option linter.unusedVariables false

theorem vR (n : Int) : val4 [w0 n, w1 n, w2 n, w3 n] = n % 115792089237316195423570985008687907853269984665640564039457584007913129639936 := val_of rfl rfl rfl rfl
theorem in_R {n : Int} (h : 0 ≤ n ∧ n < ell) : n % 115792089237316195423570985008687907853269984665640564039457584007913129639936 = n := Int.emod_eq_of_lt h.1 (lt_r h.2)
theorem ad_R (a b : Int) : adL a b % 115792089237316195423570985008687907853269984665640564039457584007913129639936 = adL a b := in_R (add_bd _ _)
theorem sb_R (a b : Int) : sbL a b % 115792089237316195423570985008687907853269984665640564039457584007913129639936 = sbL a b := in_R (sub_bd _ _)
theorem ml_R (a b : Int) : mlL a b % 115792089237316195423570985008687907853269984665640564039457584007913129639936 = mlL a b := in_R (mul_bd _ _)
theorem pw_R (a b : Int) : pwL a b % 115792089237316195423570985008687907853269984665640564039457584007913129639936 = pwL a b := in_R (pow_bd _ _)
theorem inv_bd (a : Int) : 0 ≤ invL a ∧ invL a < ell := pow_bd _ _
theorem inv_R (a : Int) : invL a % 115792089237316195423570985008687907853269984665640564039457584007913129639936 = invL a := in_R (inv_bd _)
theorem ls_R (a : Int) : a % ell % 115792089237316195423570985008687907853269984665640564039457584007913129639936 = a % ell := in_R (mod_bd _)
theorem w1_in (n : Int) : InR .u64 (w1 n) := by unfold w1; simp only [InR]; omega
theorem w2_in (n : Int) : InR .u64 (w2 n) := by unfold w2; simp only [InR]; omega
theorem w3_in (n : Int) : InR .u64 (w3 n) := by unfold w3; simp only [InR]; omega
theorem beq_w (m n : Int) : ([w0 m, w1 m, w2 m, w3 m] == [w0 n, w1 n, w2 n, w3 n]) = decide (m % 115792089237316195423570985008687907853269984665640564039457584007913129639936 = n % 115792089237316195423570985008687907853269984665640564039457584007913129639936) := by
  have key : ([w0 m, w1 m, w2 m, w3 m] = [w0 n, w1 n, w2 n, w3 n]) ↔ m % 115792089237316195423570985008687907853269984665640564039457584007913129639936 = n % 115792089237316195423570985008687907853269984665640564039457584007913129639936 := by
    simp only [List.cons.injEq, and_true, w0, w1, w2, w3]
    omega
  rw [Bool.eq_iff_iff, beq_iff_eq, decide_eq_true_eq, key]
theorem beq_0 (m : Int) : ([w0 m, w1 m, w2 m, w3 m] == [0, 0, 0, 0]) = decide (m % 115792089237316195423570985008687907853269984665640564039457584007913129639936 = 0) := beq_w m 0
theorem beq_1 (m : Int) : ([w0 m, w1 m, w2 m, w3 m] == [1, 0, 0, 0]) = decide (m % 115792089237316195423570985008687907853269984665640564039457584007913129639936 = 1) := beq_w m 1
theorem no_b (e : Bool) : (∃ e' : Bool, SV.b e false = SV.b e' true) ↔ False := by simp
theorem yes_b (e : Bool) : (∃ e' : Bool, SV.b e true = SV.b e' true) ↔ True := by simp

theorem ad_comm (a b : Int) : adL a b = adL b a := by unfold adL; rw [Int.add_comm]
theorem ml_comm (a b : Int) : mlL a b = mlL b a := by unfold mlL; rw [Int.mul_comm]
theorem ad_assoc (a b c : Int) : adL (adL a b) c = adL a (adL b c) := by
  unfold adL; rw [Int.emod_add_emod, Int.add_emod_emod, Int.add_assoc]
theorem ml_assoc (a b c : Int) : mlL (mlL a b) c = mlL a (mlL b c) := by
  unfold mlL; rw [mm, mm2, Int.mul_assoc]
theorem ml_ad (a b c : Int) : mlL a (adL b c) = adL (mlL a b) (mlL a c) := by
  unfold mlL adL; rw [mm2, Int.mul_add, ← Int.add_emod]
theorem sb_ad (a b : Int) : adL (sbL a b) b = a % ell := by
  unfold sbL adL; rw [Int.emod_add_emod]; congr 1; omega
theorem ad_neg (a : Int) : adL a (sbL 0 a) = 0 := by
  unfold sbL adL; rw [Int.add_emod_emod, show a + (0 - a) = 0 by omega]; rfl
theorem neg_neg (a : Int) : sbL 0 (sbL 0 a) = a % ell := by
  unfold sbL; rw [Int.sub_emod, Int.emod_emod, ← Int.sub_emod]; congr 1; omega
theorem ml_zero {a : Int} (h : a % ell = 0) (b : Int) : mlL a b = 0 := by
  unfold mlL; rw [← mm, h, Int.zero_mul]; rfl
theorem ad_zero {a : Int} (h : a % ell = 0) (b : Int) : adL a b = b % ell := by
  unfold adL; rw [← Int.emod_add_emod, h, Int.zero_add]
theorem ml_inv {a : Int} (h : ¬ a % ell = 0) : mlL a (invL a) = 1 := inv_law h
theorem ml_one (a : Int) : mlL a 1 = a % ell := by unfold mlL; rw [Int.mul_one]
end Go.Gx
