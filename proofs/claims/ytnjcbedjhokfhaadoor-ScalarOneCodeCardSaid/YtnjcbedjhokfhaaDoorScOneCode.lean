/- Of ScalarOneCode, for every input and in every world that holds the program's table as its text lays it: the call returns true, its arguments read as before and nothing else old has turned. No condition besides. -/
import Derived.Test.YtnjcbedjhokfhaaDoorScY
namespace Go.Gx
open Go.Proofs Go.Sp Go.RowKit
open Go.Sp (prI mlL adL sbL pwL halfI invL)
set_option linter.unusedVariables false

def vc14 (a0 a1 a2 a3 b0 b1 b2 b3 b4 b5 b6 b7 b8 b9 b10 b11 b12 b13 b14 b15 b16 b17 b18 b19 b20 b21 b22 b23 b24 b25 b26 b27 b28 b29 b30 b31 : Int) (K : SV → Prop) (Q : Nat → List Pv → Prop) : Prop := fnVc Γ18 Tryd.f14 [] [.arr .u64 4 true [a0, a1, a2, a3], .arr .u8 32 true [b0, b1, b2, b3, b4, b5, b6, b7, b8, b9, b10, b11, b12, b13, b14, b15, b16, b17, b18, b19, b20, b21, b22, b23, b24, b25, b26, b27, b28, b29, b30, b31]] gh K Q
set_option maxHeartbeats 4000000 in
set_option maxRecDepth 100000 in
theorem vc14_eq : ∀ (a0 a1 a2 a3 b0 b1 b2 b3 b4 b5 b6 b7 b8 b9 b10 b11 b12 b13 b14 b15 b16 b17 b18 b19 b20 b21 b22 b23 b24 b25 b26 b27 b28 b29 b30 b31 : Int) (K : SV → Prop) (Q : Nat → List Pv → Prop), vc14 a0 a1 a2 a3 b0 b1 b2 b3 b4 b5 b6 b7 b8 b9 b10 b11 b12 b13 b14 b15 b16 b17 b18 b19 b20 b21 b22 b23 b24 b25 b26 b27 b28 b29 b30 b31 K Q = ∀ (x1 : Bool), x1 = true → ((!x1) = true → K (SV.b true false)) ∧ ((!x1) = false → ∀ (x2 : List Int), x2 = byts (val4 [a0, a1, a2, a3] % (7237005577332262213973186563042994240857116359379907606001950938285454250989 : Int)) → x2.length = (32 : Nat) → AllR IntKind.u8 x2 → ∀ (x3 : Int), x3 = w0 (decV (bval x2)) → InR IntKind.u64 x3 → ∀ (x4 : Int), x4 = w1 (decV (bval x2)) → InR IntKind.u64 x4 → ∀ (x5 : Int), x5 = w2 (decV (bval x2)) → InR IntKind.u64 x5 → ∀ (x6 : Int), x6 = w3 (decV (bval x2)) → InR IntKind.u64 x6 → ∀ (x7 : Int), x7 = decE (bval x2) → InR IntKind.i64 x7 → ((x7 != (0 : Int)) = true → K (SV.b true false)) ∧ ((x7 != (0 : Int)) = false → ∀ (x8 : Int), x8 = w0 (val4 [a0, a1, a2, a3] % (7237005577332262213973186563042994240857116359379907606001950938285454250989 : Int)) → InR IntKind.u64 x8 → ∀ (x9 : Int), x9 = w1 (val4 [a0, a1, a2, a3] % (7237005577332262213973186563042994240857116359379907606001950938285454250989 : Int)) → InR IntKind.u64 x9 → ∀ (x10 : Int), x10 = w2 (val4 [a0, a1, a2, a3] % (7237005577332262213973186563042994240857116359379907606001950938285454250989 : Int)) → InR IntKind.u64 x10 → ∀ (x11 : Int), x11 = w3 (val4 [a0, a1, a2, a3] % (7237005577332262213973186563042994240857116359379907606001950938285454250989 : Int)) → InR IntKind.u64 x11 → ((![x3, x4, x5, x6] == [x8, x9, x10, x11]) = true → K (SV.b true false)) ∧ ((![x3, x4, x5, x6] == [x8, x9, x10, x11]) = false → ∀ (x12 : Int), x12 = w0 (decV (bval [b0, b1, b2, b3, b4, b5, b6, b7, b8, b9, b10, b11, b12, b13, b14, b15, b16, b17, b18, b19, b20, b21, b22, b23, b24, b25, b26, b27, b28, b29, b30, b31])) → InR IntKind.u64 x12 → ∀ (x13 : Int), x13 = w1 (decV (bval [b0, b1, b2, b3, b4, b5, b6, b7, b8, b9, b10, b11, b12, b13, b14, b15, b16, b17, b18, b19, b20, b21, b22, b23, b24, b25, b26, b27, b28, b29, b30, b31])) → InR IntKind.u64 x13 → ∀ (x14 : Int), x14 = w2 (decV (bval [b0, b1, b2, b3, b4, b5, b6, b7, b8, b9, b10, b11, b12, b13, b14, b15, b16, b17, b18, b19, b20, b21, b22, b23, b24, b25, b26, b27, b28, b29, b30, b31])) → InR IntKind.u64 x14 → ∀ (x15 : Int), x15 = w3 (decV (bval [b0, b1, b2, b3, b4, b5, b6, b7, b8, b9, b10, b11, b12, b13, b14, b15, b16, b17, b18, b19, b20, b21, b22, b23, b24, b25, b26, b27, b28, b29, b30, b31])) → InR IntKind.u64 x15 → ∀ (x16 : Int), x16 = decE (bval [b0, b1, b2, b3, b4, b5, b6, b7, b8, b9, b10, b11, b12, b13, b14, b15, b16, b17, b18, b19, b20, b21, b22, b23, b24, b25, b26, b27, b28, b29, b30, b31]) → InR IntKind.i64 x16 → ∀ (x17 : Int), x17 = w0 (bval [b0, b1, b2, b3, b4, b5, b6, b7, b8, b9, b10, b11, b12, b13, b14, b15, b16, b17, b18, b19, b20, b21, b22, b23, b24, b25, b26, b27, b28, b29, b30, b31] % (7237005577332262213973186563042994240857116359379907606001950938285454250989 : Int)) → InR IntKind.u64 x17 → ∀ (x18 : Int), x18 = w1 (bval [b0, b1, b2, b3, b4, b5, b6, b7, b8, b9, b10, b11, b12, b13, b14, b15, b16, b17, b18, b19, b20, b21, b22, b23, b24, b25, b26, b27, b28, b29, b30, b31] % (7237005577332262213973186563042994240857116359379907606001950938285454250989 : Int)) → InR IntKind.u64 x18 → ∀ (x19 : Int), x19 = w2 (bval [b0, b1, b2, b3, b4, b5, b6, b7, b8, b9, b10, b11, b12, b13, b14, b15, b16, b17, b18, b19, b20, b21, b22, b23, b24, b25, b26, b27, b28, b29, b30, b31] % (7237005577332262213973186563042994240857116359379907606001950938285454250989 : Int)) → InR IntKind.u64 x19 → ∀ (x20 : Int), x20 = w3 (bval [b0, b1, b2, b3, b4, b5, b6, b7, b8, b9, b10, b11, b12, b13, b14, b15, b16, b17, b18, b19, b20, b21, b22, b23, b24, b25, b26, b27, b28, b29, b30, b31] % (7237005577332262213973186563042994240857116359379907606001950938285454250989 : Int)) → InR IntKind.u64 x20 → ∀ (x21 : List Int), x21 = byts (val4 [x17, x18, x19, x20] % (7237005577332262213973186563042994240857116359379907606001950938285454250989 : Int)) → x21.length = (32 : Nat) → AllR IntKind.u8 x21 → ((!(x16 == (0 : Int)) == (x21 == [b0, b1, b2, b3, b4, b5, b6, b7, b8, b9, b10, b11, b12, b13, b14, b15, b16, b17, b18, b19, b20, b21, b22, b23, b24, b25, b26, b27, b28, b29, b30, b31])) = true → K (SV.b true false)) ∧ ((!(x16 == (0 : Int)) == (x21 == [b0, b1, b2, b3, b4, b5, b6, b7, b8, b9, b10, b11, b12, b13, b14, b15, b16, b17, b18, b19, b20, b21, b22, b23, b24, b25, b26, b27, b28, b29, b30, b31])) = false → ((x16 == (0 : Int)) = true → (([x12, x13, x14, x15] == [x17, x18, x19, x20]) = true → ∀ (x22 : List Int), x22 = byts (val4 [x12, x13, x14, x15] % (7237005577332262213973186563042994240857116359379907606001950938285454250989 : Int)) → x22.length = (32 : Nat) → AllR IntKind.u8 x22 → K (SV.b false (x22 == [b0, b1, b2, b3, b4, b5, b6, b7, b8, b9, b10, b11, b12, b13, b14, b15, b16, b17, b18, b19, b20, b21, b22, b23, b24, b25, b26, b27, b28, b29, b30, b31]))) ∧ (([x12, x13, x14, x15] == [x17, x18, x19, x20]) = false → K (SV.b true false))) ∧ ((x16 == (0 : Int)) = false → ((x16 == (3 : Int)) = true → K (SV.b false ([x12, x13, x14, x15] == [(0 : Int), (0 : Int), (0 : Int), (0 : Int)]))) ∧ ((x16 == (3 : Int)) = false → K (SV.b true false))))))) := by
  intros
  kernel_rfl

theorem vR (n : Int) : val4 [w0 n, w1 n, w2 n, w3 n] = n % 115792089237316195423570985008687907853269984665640564039457584007913129639936 := val_of rfl rfl rfl rfl
theorem in_R {n : Int} (h : 0 ≤ n ∧ n < ell) : n % 115792089237316195423570985008687907853269984665640564039457584007913129639936 = n := Int.emod_eq_of_lt h.1 (lt_r h.2)
theorem ad_R (a b : Int) : adL a b % 115792089237316195423570985008687907853269984665640564039457584007913129639936 = adL a b := in_R (add_bd _ _)
theorem sb_R (a b : Int) : sbL a b % 115792089237316195423570985008687907853269984665640564039457584007913129639936 = sbL a b := in_R (sub_bd _ _)
theorem ml_R (a b : Int) : mlL a b % 115792089237316195423570985008687907853269984665640564039457584007913129639936 = mlL a b := in_R (mul_bd _ _)
theorem pw_R (a b : Int) : pwL a b % 115792089237316195423570985008687907853269984665640564039457584007913129639936 = pwL a b := in_R (pow_bd _ _)
theorem inv_bd (a : Int) : 0 ≤ invL a ∧ invL a < ell := pow_bd _ _
theorem inv_R (a : Int) : invL a % 115792089237316195423570985008687907853269984665640564039457584007913129639936 = invL a := in_R (inv_bd _)
theorem ls_R (a : Int) : a % ell % 115792089237316195423570985008687907853269984665640564039457584007913129639936 = a % ell := in_R (mod_bd _)
theorem w1_in (n : Int) : InR .u64 (w1 n) := by unfold w1; simp only [InR]; omega
theorem w2_in (n : Int) : InR .u64 (w2 n) := by unfold w2; simp only [InR]; omega
theorem w3_in (n : Int) : InR .u64 (w3 n) := by unfold w3; simp only [InR]; omega
theorem beq_w (m n : Int) : ([w0 m, w1 m, w2 m, w3 m] == [w0 n, w1 n, w2 n, w3 n]) = decide (m % 115792089237316195423570985008687907853269984665640564039457584007913129639936 = n % 115792089237316195423570985008687907853269984665640564039457584007913129639936) := by
  have key : ([w0 m, w1 m, w2 m, w3 m] = [w0 n, w1 n, w2 n, w3 n]) ↔ m % 115792089237316195423570985008687907853269984665640564039457584007913129639936 = n % 115792089237316195423570985008687907853269984665640564039457584007913129639936 := by
    simp only [List.cons.injEq, and_true, w0, w1, w2, w3]
    omega
  rw [Bool.eq_iff_iff, beq_iff_eq, decide_eq_true_eq, key]
theorem beq_0 (m : Int) : ([w0 m, w1 m, w2 m, w3 m] == [0, 0, 0, 0]) = decide (m % 115792089237316195423570985008687907853269984665640564039457584007913129639936 = 0) := beq_w m 0
theorem beq_1 (m : Int) : ([w0 m, w1 m, w2 m, w3 m] == [1, 0, 0, 0]) = decide (m % 115792089237316195423570985008687907853269984665640564039457584007913129639936 = 1) := beq_w m 1
theorem no_b (e : Bool) : (∃ e' : Bool, SV.b e false = SV.b e' true) ↔ False := by simp
theorem yes_b (e : Bool) : (∃ e' : Bool, SV.b e true = SV.b e' true) ↔ True := by simp


theorem byte_at (k : Nat) {w l b h P : Int} (hP : 0 < P) (hw : w = l + P * (b + 256 * h)) (hl : 0 ≤ l ∧ l < P) (hb : 0 ≤ b ∧ b < 256) : w / P % 256 = b := by
  have : w / P = b + 256 * h := by
    rw [hw, Int.add_mul_ediv_left _ _ (by omega), Int.ediv_eq_zero_of_lt hl.1 hl.2, Int.zero_add]
  rw [this]
  omega
theorem word_bytes {b0 b1 b2 b3 b4 b5 b6 b7 w : Int} (h0 : InR .u8 b0) (h1 : InR .u8 b1) (h2 : InR .u8 b2) (h3 : InR .u8 b3) (h4 : InR .u8 b4) (h5 : InR .u8 b5) (h6 : InR .u8 b6) (h7 : InR .u8 b7) (hw : w = b0 + 256 * b1 + 65536 * b2 + 16777216 * b3 + 4294967296 * b4 + 1099511627776 * b5 + 281474976710656 * b6 + 72057594037927936 * b7) :
    w % 256 = b0 ∧ w / 256 % 256 = b1 ∧ w / 65536 % 256 = b2 ∧ w / 16777216 % 256 = b3 ∧ w / 4294967296 % 256 = b4 ∧ w / 1099511627776 % 256 = b5 ∧ w / 281474976710656 % 256 = b6 ∧ w / 72057594037927936 % 256 = b7 := by
  simp only [InR] at h0 h1 h2 h3 h4 h5 h6 h7
  refine ⟨?_, ?_, ?_, ?_, ?_, ?_, ?_, ?_⟩
  · omega
  · exact byte_at 0 (l := b0) (b := b1) (h := b2 + 256 * b3 + 65536 * b4 + 16777216 * b5 + 4294967296 * b6 + 1099511627776 * b7) (by omega) (by omega) (by omega) h1
  · exact byte_at 0 (l := b0 + 256 * b1) (b := b2) (h := b3 + 256 * b4 + 65536 * b5 + 16777216 * b6 + 4294967296 * b7) (by omega) (by omega) (by omega) h2
  · exact byte_at 0 (l := b0 + 256 * b1 + 65536 * b2) (b := b3) (h := b4 + 256 * b5 + 65536 * b6 + 16777216 * b7) (by omega) (by omega) (by omega) h3
  · exact byte_at 0 (l := b0 + 256 * b1 + 65536 * b2 + 16777216 * b3) (b := b4) (h := b5 + 256 * b6 + 65536 * b7) (by omega) (by omega) (by omega) h4
  · exact byte_at 0 (l := b0 + 256 * b1 + 65536 * b2 + 16777216 * b3 + 4294967296 * b4) (b := b5) (h := b6 + 256 * b7) (by omega) (by omega) (by omega) h5
  · exact byte_at 0 (l := b0 + 256 * b1 + 65536 * b2 + 16777216 * b3 + 4294967296 * b4 + 1099511627776 * b5) (b := b6) (h := b7) (by omega) (by omega) (by omega) h6
  · exact byte_at 0 (l := b0 + 256 * b1 + 65536 * b2 + 16777216 * b3 + 4294967296 * b4 + 1099511627776 * b5 + 281474976710656 * b6) (b := b7) (h := 0) (by omega) (by omega) (by omega) h7
set_option maxRecDepth 100000 in
theorem byts_bval {b0 b1 b2 b3 b4 b5 b6 b7 b8 b9 b10 b11 b12 b13 b14 b15 b16 b17 b18 b19 b20 b21 b22 b23 b24 b25 b26 b27 b28 b29 b30 b31 : Int} (h0 : InR .u8 b0) (h1 : InR .u8 b1) (h2 : InR .u8 b2) (h3 : InR .u8 b3) (h4 : InR .u8 b4) (h5 : InR .u8 b5) (h6 : InR .u8 b6) (h7 : InR .u8 b7) (h8 : InR .u8 b8) (h9 : InR .u8 b9) (h10 : InR .u8 b10) (h11 : InR .u8 b11) (h12 : InR .u8 b12) (h13 : InR .u8 b13) (h14 : InR .u8 b14) (h15 : InR .u8 b15) (h16 : InR .u8 b16) (h17 : InR .u8 b17) (h18 : InR .u8 b18) (h19 : InR .u8 b19) (h20 : InR .u8 b20) (h21 : InR .u8 b21) (h22 : InR .u8 b22) (h23 : InR .u8 b23) (h24 : InR .u8 b24) (h25 : InR .u8 b25) (h26 : InR .u8 b26) (h27 : InR .u8 b27) (h28 : InR .u8 b28) (h29 : InR .u8 b29) (h30 : InR .u8 b30) (h31 : InR .u8 b31) : byts (bval [b0, b1, b2, b3, b4, b5, b6, b7, b8, b9, b10, b11, b12, b13, b14, b15, b16, b17, b18, b19, b20, b21, b22, b23, b24, b25, b26, b27, b28, b29, b30, b31]) = [b0, b1, b2, b3, b4, b5, b6, b7, b8, b9, b10, b11, b12, b13, b14, b15, b16, b17, b18, b19, b20, b21, b22, b23, b24, b25, b26, b27, b28, b29, b30, b31] := by
  have hN : bval [b0, b1, b2, b3, b4, b5, b6, b7, b8, b9, b10, b11, b12, b13, b14, b15, b16, b17, b18, b19, b20, b21, b22, b23, b24, b25, b26, b27, b28, b29, b30, b31] = (b0 + 256 * b1 + 65536 * b2 + 16777216 * b3 + 4294967296 * b4 + 1099511627776 * b5 + 281474976710656 * b6 + 72057594037927936 * b7) + 18446744073709551616 * (b8 + 256 * b9 + 65536 * b10 + 16777216 * b11 + 4294967296 * b12 + 1099511627776 * b13 + 281474976710656 * b14 + 72057594037927936 * b15) + 340282366920938463463374607431768211456 * (b16 + 256 * b17 + 65536 * b18 + 16777216 * b19 + 4294967296 * b20 + 1099511627776 * b21 + 281474976710656 * b22 + 72057594037927936 * b23) + 6277101735386680763835789423207666416102355444464034512896 * (b24 + 256 * b25 + 65536 * b26 + 16777216 * b27 + 4294967296 * b28 + 1099511627776 * b29 + 281474976710656 * b30 + 72057594037927936 * b31) := by
    simp only [bval]
    clear h0 h1 h2 h3 h4 h5 h6 h7 h8 h9 h10 h11 h12 h13 h14 h15 h16 h17 h18 h19 h20 h21 h22 h23 h24 h25 h26 h27 h28 h29 h30 h31
    omega
  have q0 : 0 ≤ b0 + 256 * b1 + 65536 * b2 + 16777216 * b3 + 4294967296 * b4 + 1099511627776 * b5 + 281474976710656 * b6 + 72057594037927936 * b7 ∧ b0 + 256 * b1 + 65536 * b2 + 16777216 * b3 + 4294967296 * b4 + 1099511627776 * b5 + 281474976710656 * b6 + 72057594037927936 * b7 < 18446744073709551616 := by
    have t := True.intro
    have c0 := h0.1; have d0 := h0.2
    have c1 := h1.1; have d1 := h1.2
    have c2 := h2.1; have d2 := h2.2
    have c3 := h3.1; have d3 := h3.2
    have c4 := h4.1; have d4 := h4.2
    have c5 := h5.1; have d5 := h5.2
    have c6 := h6.1; have d6 := h6.2
    have c7 := h7.1; have d7 := h7.2
    clear hN h0 h1 h2 h3 h4 h5 h6 h7 h8 h9 h10 h11 h12 h13 h14 h15 h16 h17 h18 h19 h20 h21 h22 h23 h24 h25 h26 h27 h28 h29 h30 h31
    omega
  have q1 : 0 ≤ b8 + 256 * b9 + 65536 * b10 + 16777216 * b11 + 4294967296 * b12 + 1099511627776 * b13 + 281474976710656 * b14 + 72057594037927936 * b15 ∧ b8 + 256 * b9 + 65536 * b10 + 16777216 * b11 + 4294967296 * b12 + 1099511627776 * b13 + 281474976710656 * b14 + 72057594037927936 * b15 < 18446744073709551616 := by
    have t := True.intro
    have c0 := h8.1; have d0 := h8.2
    have c1 := h9.1; have d1 := h9.2
    have c2 := h10.1; have d2 := h10.2
    have c3 := h11.1; have d3 := h11.2
    have c4 := h12.1; have d4 := h12.2
    have c5 := h13.1; have d5 := h13.2
    have c6 := h14.1; have d6 := h14.2
    have c7 := h15.1; have d7 := h15.2
    clear hN h0 h1 h2 h3 h4 h5 h6 h7 h8 h9 h10 h11 h12 h13 h14 h15 h16 h17 h18 h19 h20 h21 h22 h23 h24 h25 h26 h27 h28 h29 h30 h31 q0
    omega
  have q2 : 0 ≤ b16 + 256 * b17 + 65536 * b18 + 16777216 * b19 + 4294967296 * b20 + 1099511627776 * b21 + 281474976710656 * b22 + 72057594037927936 * b23 ∧ b16 + 256 * b17 + 65536 * b18 + 16777216 * b19 + 4294967296 * b20 + 1099511627776 * b21 + 281474976710656 * b22 + 72057594037927936 * b23 < 18446744073709551616 := by
    have t := True.intro
    have c0 := h16.1; have d0 := h16.2
    have c1 := h17.1; have d1 := h17.2
    have c2 := h18.1; have d2 := h18.2
    have c3 := h19.1; have d3 := h19.2
    have c4 := h20.1; have d4 := h20.2
    have c5 := h21.1; have d5 := h21.2
    have c6 := h22.1; have d6 := h22.2
    have c7 := h23.1; have d7 := h23.2
    clear hN h0 h1 h2 h3 h4 h5 h6 h7 h8 h9 h10 h11 h12 h13 h14 h15 h16 h17 h18 h19 h20 h21 h22 h23 h24 h25 h26 h27 h28 h29 h30 h31 q0 q1
    omega
  have q3 : 0 ≤ b24 + 256 * b25 + 65536 * b26 + 16777216 * b27 + 4294967296 * b28 + 1099511627776 * b29 + 281474976710656 * b30 + 72057594037927936 * b31 ∧ b24 + 256 * b25 + 65536 * b26 + 16777216 * b27 + 4294967296 * b28 + 1099511627776 * b29 + 281474976710656 * b30 + 72057594037927936 * b31 < 18446744073709551616 := by
    have t := True.intro
    have c0 := h24.1; have d0 := h24.2
    have c1 := h25.1; have d1 := h25.2
    have c2 := h26.1; have d2 := h26.2
    have c3 := h27.1; have d3 := h27.2
    have c4 := h28.1; have d4 := h28.2
    have c5 := h29.1; have d5 := h29.2
    have c6 := h30.1; have d6 := h30.2
    have c7 := h31.1; have d7 := h31.2
    clear hN h0 h1 h2 h3 h4 h5 h6 h7 h8 h9 h10 h11 h12 h13 h14 h15 h16 h17 h18 h19 h20 h21 h22 h23 h24 h25 h26 h27 h28 h29 h30 h31 q0 q1 q2
    omega
  generalize bval [b0, b1, b2, b3, b4, b5, b6, b7, b8, b9, b10, b11, b12, b13, b14, b15, b16, b17, b18, b19, b20, b21, b22, b23, b24, b25, b26, b27, b28, b29, b30, b31] = N at hN ⊢
  have e0 : w0 N = b0 + 256 * b1 + 65536 * b2 + 16777216 * b3 + 4294967296 * b4 + 1099511627776 * b5 + 281474976710656 * b6 + 72057594037927936 * b7 := by
    unfold w0
    generalize b0 + 256 * b1 + 65536 * b2 + 16777216 * b3 + 4294967296 * b4 + 1099511627776 * b5 + 281474976710656 * b6 + 72057594037927936 * b7 = s0 at *
    generalize b8 + 256 * b9 + 65536 * b10 + 16777216 * b11 + 4294967296 * b12 + 1099511627776 * b13 + 281474976710656 * b14 + 72057594037927936 * b15 = s1 at *
    generalize b16 + 256 * b17 + 65536 * b18 + 16777216 * b19 + 4294967296 * b20 + 1099511627776 * b21 + 281474976710656 * b22 + 72057594037927936 * b23 = s2 at *
    generalize b24 + 256 * b25 + 65536 * b26 + 16777216 * b27 + 4294967296 * b28 + 1099511627776 * b29 + 281474976710656 * b30 + 72057594037927936 * b31 = s3 at *
    clear h0 h1 h2 h3 h4 h5 h6 h7 h8 h9 h10 h11 h12 h13 h14 h15 h16 h17 h18 h19 h20 h21 h22 h23 h24 h25 h26 h27 h28 h29 h30 h31 
    omega
  have e1 : w1 N = b8 + 256 * b9 + 65536 * b10 + 16777216 * b11 + 4294967296 * b12 + 1099511627776 * b13 + 281474976710656 * b14 + 72057594037927936 * b15 := by
    unfold w1
    generalize b0 + 256 * b1 + 65536 * b2 + 16777216 * b3 + 4294967296 * b4 + 1099511627776 * b5 + 281474976710656 * b6 + 72057594037927936 * b7 = s0 at *
    generalize b8 + 256 * b9 + 65536 * b10 + 16777216 * b11 + 4294967296 * b12 + 1099511627776 * b13 + 281474976710656 * b14 + 72057594037927936 * b15 = s1 at *
    generalize b16 + 256 * b17 + 65536 * b18 + 16777216 * b19 + 4294967296 * b20 + 1099511627776 * b21 + 281474976710656 * b22 + 72057594037927936 * b23 = s2 at *
    generalize b24 + 256 * b25 + 65536 * b26 + 16777216 * b27 + 4294967296 * b28 + 1099511627776 * b29 + 281474976710656 * b30 + 72057594037927936 * b31 = s3 at *
    clear h0 h1 h2 h3 h4 h5 h6 h7 h8 h9 h10 h11 h12 h13 h14 h15 h16 h17 h18 h19 h20 h21 h22 h23 h24 h25 h26 h27 h28 h29 h30 h31 e0
    omega
  have e2 : w2 N = b16 + 256 * b17 + 65536 * b18 + 16777216 * b19 + 4294967296 * b20 + 1099511627776 * b21 + 281474976710656 * b22 + 72057594037927936 * b23 := by
    unfold w2
    generalize b0 + 256 * b1 + 65536 * b2 + 16777216 * b3 + 4294967296 * b4 + 1099511627776 * b5 + 281474976710656 * b6 + 72057594037927936 * b7 = s0 at *
    generalize b8 + 256 * b9 + 65536 * b10 + 16777216 * b11 + 4294967296 * b12 + 1099511627776 * b13 + 281474976710656 * b14 + 72057594037927936 * b15 = s1 at *
    generalize b16 + 256 * b17 + 65536 * b18 + 16777216 * b19 + 4294967296 * b20 + 1099511627776 * b21 + 281474976710656 * b22 + 72057594037927936 * b23 = s2 at *
    generalize b24 + 256 * b25 + 65536 * b26 + 16777216 * b27 + 4294967296 * b28 + 1099511627776 * b29 + 281474976710656 * b30 + 72057594037927936 * b31 = s3 at *
    clear h0 h1 h2 h3 h4 h5 h6 h7 h8 h9 h10 h11 h12 h13 h14 h15 h16 h17 h18 h19 h20 h21 h22 h23 h24 h25 h26 h27 h28 h29 h30 h31 e0 e1
    omega
  have e3 : w3 N = b24 + 256 * b25 + 65536 * b26 + 16777216 * b27 + 4294967296 * b28 + 1099511627776 * b29 + 281474976710656 * b30 + 72057594037927936 * b31 := by
    unfold w3
    generalize b0 + 256 * b1 + 65536 * b2 + 16777216 * b3 + 4294967296 * b4 + 1099511627776 * b5 + 281474976710656 * b6 + 72057594037927936 * b7 = s0 at *
    generalize b8 + 256 * b9 + 65536 * b10 + 16777216 * b11 + 4294967296 * b12 + 1099511627776 * b13 + 281474976710656 * b14 + 72057594037927936 * b15 = s1 at *
    generalize b16 + 256 * b17 + 65536 * b18 + 16777216 * b19 + 4294967296 * b20 + 1099511627776 * b21 + 281474976710656 * b22 + 72057594037927936 * b23 = s2 at *
    generalize b24 + 256 * b25 + 65536 * b26 + 16777216 * b27 + 4294967296 * b28 + 1099511627776 * b29 + 281474976710656 * b30 + 72057594037927936 * b31 = s3 at *
    clear h0 h1 h2 h3 h4 h5 h6 h7 h8 h9 h10 h11 h12 h13 h14 h15 h16 h17 h18 h19 h20 h21 h22 h23 h24 h25 h26 h27 h28 h29 h30 h31 e0 e1 e2
    omega
  have r0 := word_bytes h0 h1 h2 h3 h4 h5 h6 h7 e0
  have r1 := word_bytes h8 h9 h10 h11 h12 h13 h14 h15 e1
  have r2 := word_bytes h16 h17 h18 h19 h20 h21 h22 h23 e2
  have r3 := word_bytes h24 h25 h26 h27 h28 h29 h30 h31 e3
  simp only [byts, List.cons.injEq, and_true]
  exact ⟨r0.1, r0.2.1, r0.2.2.1, r0.2.2.2.1, r0.2.2.2.2.1, r0.2.2.2.2.2.1, r0.2.2.2.2.2.2.1, r0.2.2.2.2.2.2.2, r1.1, r1.2.1, r1.2.2.1, r1.2.2.2.1, r1.2.2.2.2.1, r1.2.2.2.2.2.1, r1.2.2.2.2.2.2.1, r1.2.2.2.2.2.2.2, r2.1, r2.2.1, r2.2.2.1, r2.2.2.2.1, r2.2.2.2.2.1, r2.2.2.2.2.2.1, r2.2.2.2.2.2.2.1, r2.2.2.2.2.2.2.2, r3.1, r3.2.1, r3.2.2.1, r3.2.2.2.1, r3.2.2.2.2.1, r3.2.2.2.2.2.1, r3.2.2.2.2.2.2.1, r3.2.2.2.2.2.2.2⟩
theorem bval_byts' {n : Int} (h : 0 ≤ n ∧ n < ell) : bval (byts n) = n := by rw [bval_byts, vR]; exact in_R h
theorem code_iff {l : List Int} (h0 : 0 ≤ bval l) (hc : byts (bval l) = l) : (byts (bval l % ell) == l) = decide (bval l < ell) := by
  have key : byts (bval l % ell) = l ↔ bval l < ell := by
    constructor
    · intro h
      have := congrArg bval h
      rw [bval_byts' (mod_bd _)] at this
      rw [← this]; exact (mod_bd _).2
    · intro h
      rw [Int.emod_eq_of_lt h0 h, hc]
  rw [Bool.eq_iff_iff, beq_iff_eq, decide_eq_true_eq, key]
theorem dv_R (n : Int) (h0 : 0 ≤ n) : decV n % 115792089237316195423570985008687907853269984665640564039457584007913129639936 = decV n := by
  refine in_R ?_
  have he := ell_lit
  unfold decV
  split <;> omega

namespace ScalarOneCode
set_option maxHeartbeats 4000000 in
set_option maxRecDepth 100000 in
theorem law (W : World) (hG : Glob gh W fun _ => False) (l0 : List Int) (hl0 : l0.length = 4) (hr0 : AllR .u64 l0) (l1 : List Int) (hl1 : l1.length = 32) (hr1 : AllR .u8 l1) :
    Calls Tryd.prog 14 #[.agg (l0.map (Value.int .u64)).toArray, .agg (l1.map (Value.int .u8)).toArray] W fun e w' => e = .returned (.bool true) ∧ Below W.heap.size W w' := by
  obtain ⟨a0, a1, a2, a3, rfl⟩ := len4 hl0
  have ia0 := hr0 a0 (by simp); have ia1 := hr0 a1 (by simp); have ia2 := hr0 a2 (by simp); have ia3 := hr0 a3 (by simp)
  obtain ⟨b0, b1, b2, b3, b4, b5, b6, b7, b8, b9, b10, b11, b12, b13, b14, b15, b16, b17, b18, b19, b20, b21, b22, b23, b24, b25, b26, b27, b28, b29, b30, b31, rfl⟩ := len32 hl1
  have ib0 := hr1 b0 (by simp); have ib1 := hr1 b1 (by simp); have ib2 := hr1 b2 (by simp); have ib3 := hr1 b3 (by simp); have ib4 := hr1 b4 (by simp); have ib5 := hr1 b5 (by simp); have ib6 := hr1 b6 (by simp); have ib7 := hr1 b7 (by simp); have ib8 := hr1 b8 (by simp); have ib9 := hr1 b9 (by simp); have ib10 := hr1 b10 (by simp); have ib11 := hr1 b11 (by simp); have ib12 := hr1 b12 (by simp); have ib13 := hr1 b13 (by simp); have ib14 := hr1 b14 (by simp); have ib15 := hr1 b15 (by simp); have ib16 := hr1 b16 (by simp); have ib17 := hr1 b17 (by simp); have ib18 := hr1 b18 (by simp); have ib19 := hr1 b19 (by simp); have ib20 := hr1 b20 (by simp); have ib21 := hr1 b21 (by simp); have ib22 := hr1 b22 (by simp); have ib23 := hr1 b23 (by simp); have ib24 := hr1 b24 (by simp); have ib25 := hr1 b25 (by simp); have ib26 := hr1 b26 (by simp); have ib27 := hr1 b27 (by simp); have ib28 := hr1 b28 (by simp); have ib29 := hr1 b29 (by simp); have ib30 := hr1 b30 (by simp); have ib31 := hr1 b31 (by simp)
  refine law_calls (f := 14) (fn := Tryd.f14) (args := [.arr .u64 4 true [a0, a1, a2, a3], .arr .u8 32 true [b0, b1, b2, b3, b4, b5, b6, b7, b8, b9, b10, b11, b12, b13, b14, b15, b16, b17, b18, b19, b20, b21, b22, b23, b24, b25, b26, b27, b28, b29, b30, b31]]) (vs := [.agg ([a0, a1, a2, a3].map (Value.int .u64)).toArray, .agg ([b0, b1, b2, b3, b4, b5, b6, b7, b8, b9, b10, b11, b12, b13, b14, b15, b16, b17, b18, b19, b20, b21, b22, b23, b24, b25, b26, b27, b28, b29, b30, b31].map (Value.int .u8)).toArray]) (K := fun x => ∃ e, x = .b e true)
    Γ18_ok rfl rfl (vc_noloops ?_) (Nat.le_of_ble_eq_true (by kernel_rfl)) hG ⟨_, _, ⟨rfl, hr0, rfl⟩, rfl, _, _, ⟨rfl, hr1, rfl⟩, rfl, rfl⟩ (fun _ h => h)
  show vc14 a0 a1 a2 a3 b0 b1 b2 b3 b4 b5 b6 b7 b8 b9 b10 b11 b12 b13 b14 b15 b16 b17 b18 b19 b20 b21 b22 b23 b24 b25 b26 b27 b28 b29 b30 b31 _ _
  rw [vc14_eq]
  rw [← ell_lit]
  have hc := byts_bval ib0 ib1 ib2 ib3 ib4 ib5 ib6 ib7 ib8 ib9 ib10 ib11 ib12 ib13 ib14 ib15 ib16 ib17 ib18 ib19 ib20 ib21 ib22 ib23 ib24 ib25 ib26 ib27 ib28 ib29 ib30 ib31
  have hbb := b32 hl1 hr1
  have hi := code_iff hbb.1 hc
  generalize hB : [b0, b1, b2, b3, b4, b5, b6, b7, b8, b9, b10, b11, b12, b13, b14, b15, b16, b17, b18, b19, b20, b21, b22, b23, b24, b25, b26, b27, b28, b29, b30, b31] = l at *
  have hA := mod_bd (val4 [a0, a1, a2, a3])
  have h1 : bval (byts (val4 [a0, a1, a2, a3] % ell)) = val4 [a0, a1, a2, a3] % ell := bval_byts' hA
  have hee : ∀ n : Int, n % ell % ell = n % ell := fun n => Int.emod_emod_of_dvd n (Int.dvd_refl _)
  simp only [forall_eq, vR, w0_in, w1_in, w2_in, w3_in, true_implies, ls_R, beq_w, beq_0, no_b, h1, decV_lt hA.2, decE_lt hA.2, hee, hi]
  by_cases h : bval l < ell
  · have hm : bval l % ell = bval l := Int.emod_eq_of_lt hbb.1 h
    simp only [decV_lt h, decE_lt h, hm, Int.emod_eq_of_lt hbb.1 hbb.2, h, hc]
    simp
  · simp only [decV_ge h, decE_ge h, h]
    simp
end ScalarOneCode

namespace ScalarOneCode
open Go.Proofs.YtnjcbedjhokfhaaDoor
open Go.ChangeShapes Go.WideShapes Go.ChangeAt Go.RowKit
theorem reads (t : Nat) (h : t ∈ Tryd.f14.params.toList) : Tryd.prog.readableRec t = true ∧ t < Tryd.prog.types.size := by
  have hp : Tryd.f14.params.toList = [24, 66] := by kernel_rfl
  rw [hp] at h
  simp only [List.mem_cons, List.not_mem_nil, or_false] at h
  rcases h with rfl | rfl <;> exact ⟨by kernel_rfl, Nat.le_of_ble_eq_true (by kernel_rfl)⟩

set_option maxRecDepth 100000 in
/-- What the call gives, for every argument and every world that holds the table. -/
theorem contract (H : Type) (enc : TypeId × Value → H) (W : World) (base : Nat) (args : Array Value) (ds gs : List (DataW H)) (before : List MemPlace)
    (hval : ∀ (j : Nat) t v, Tryd.f14.params[j]? = some t → args[j]? = some v → Value.okWide Tryd.prog W .any base t v)
    (hW : DataW.Whole enc Tryd.prog Tryd.f14.params.toList Rows.scalarOneCodeSpec.vars false W args.toList ds gs before) (hL : laidMetH Tryd.prog Rows.scalarOneCodeRow.laid W) :
    Calls Tryd.prog 14 args W fun e W' => ∃ v, e = .returned v ∧ Rows.scalarOneCodeSpec.post enc Tryd.prog Tryd.f14 false true false false W args v W' := by
  have hA : DataW.TrodAll enc Tryd.prog W 0 (fun _ => true) true [24, 66] args.toList ds _ := hW.choose_spec.choose_spec.1
  obtain ⟨v0, vs0, d0, ds0, p0, q0, hargs, _, _, h0, r0⟩ := trodAll_cons hA
  obtain ⟨v1, vs1, d1, ds1, p1, q1, rfl, _, _, h1, r1⟩ := trodAll_cons r0
  obtain ⟨rfl, _, _⟩ := trodAll_nil r1
  obtain rfl : args = #[v0, v1] := by cases args; simp_all
  have hp : Tryd.f14.params = #[24, 66] := by kernel_rfl
  rw [hp] at hval
  obtain ⟨l0, hl0, hr0, rfl⟩ := arr_arg (n := 4) (e := 22) (k := .u64) (by kernel_rfl) (by kernel_rfl) (by kernel_rfl) (by kernel_rfl) (hval 0 24 v0 rfl rfl)
  obtain ⟨l1, hl1, hr1, rfl⟩ := arr_arg (n := 32) (e := 5) (k := .u8) (by kernel_rfl) (by kernel_rfl) (by kernel_rfl) (by kernel_rfl) (hval 1 66 v1 rfl rfl)
  refine (law W (tab_glob hL) l0 hl0 hr0 l1 hl1 hr1).mono fun e W' ⟨he, hB⟩ => ?_
  subst he
  refine ⟨_, rfl, post_true (tb := 4) laidOut rfl (by kernel_rfl) (by kernel_rfl) reads ?_ hW hB⟩
  intro ds hds
  have hds : ds.length = 2 := hds
  match ds, hds with
  | [a0, a1], _ => exact ⟨rfl, rfl, rfl⟩

def wargs : Array Value := #[.agg #[.int .u64 0, .int .u64 0, .int .u64 0, .int .u64 0], .agg #[.int .u8 0, .int .u8 0, .int .u8 0, .int .u8 0, .int .u8 0, .int .u8 0, .int .u8 0, .int .u8 0, .int .u8 0, .int .u8 0, .int .u8 0, .int .u8 0, .int .u8 0, .int .u8 0, .int .u8 0, .int .u8 0, .int .u8 0, .int .u8 0, .int .u8 0, .int .u8 0, .int .u8 0, .int .u8 0, .int .u8 0, .int .u8 0, .int .u8 0, .int .u8 0, .int .u8 0, .int .u8 0, .int .u8 0, .int .u8 0, .int .u8 0, .int .u8 0]]
theorem laid_met (os : Os) : laidMet Tryd.prog Rows.scalarOneCodeRow.laid ((laidWorld os).forCall (fun _ _ => 0) ⟨#[], wargs, []⟩).memory :=
  laidMet_of_run' 8 (by kernel_rfl) (by kernel_rfl)
theorem reads0 (os : Os) {H : Type} (enc : TypeId × Value → H) : ∃ places, DataW.whole enc Tryd.prog ((laidWorld os).forCall (fun _ _ => 0) ⟨#[], wargs, []⟩).memory Tryd.f14.params.toList Rows.scalarOneCodeSpec.vars false wargs.toList 8 = some ([.agg [.lit (.int .u64 0), .lit (.int .u64 0), .lit (.int .u64 0), .lit (.int .u64 0)], .agg [.lit (.int .u8 0), .lit (.int .u8 0), .lit (.int .u8 0), .lit (.int .u8 0), .lit (.int .u8 0), .lit (.int .u8 0), .lit (.int .u8 0), .lit (.int .u8 0), .lit (.int .u8 0), .lit (.int .u8 0), .lit (.int .u8 0), .lit (.int .u8 0), .lit (.int .u8 0), .lit (.int .u8 0), .lit (.int .u8 0), .lit (.int .u8 0), .lit (.int .u8 0), .lit (.int .u8 0), .lit (.int .u8 0), .lit (.int .u8 0), .lit (.int .u8 0), .lit (.int .u8 0), .lit (.int .u8 0), .lit (.int .u8 0), .lit (.int .u8 0), .lit (.int .u8 0), .lit (.int .u8 0), .lit (.int .u8 0), .lit (.int .u8 0), .lit (.int .u8 0), .lit (.int .u8 0), .lit (.int .u8 0)]], [], places) :=
  ⟨[], by kernel_rfl⟩

set_option maxRecDepth 100000 in
theorem lifted (os : Os) (started : os.Started) (H : Type) (enc : TypeId × Value → H) (F : Stop.Interp) :
    ReturnsInHanded {} Tryd.checked os 14 .any ((OpenSpec.ofChange Rows.scalarOneCodeSpec).preRow enc Tryd.prog Tryd.f14 Rows.scalarOneCodeRow.domain false Rows.scalarOneCodeRow.laid) (((OpenSpec.ofChange Rows.scalarOneCodeSpec).at F).post enc Tryd.prog Tryd.f14 false true false false) := by
  obtain ⟨places, hx⟩ := reads0 os enc
  refine returnsInHanded_of_row (C := Tryd.checked) (s := OpenSpec.ofChange Rows.scalarOneCodeSpec) own started (by kernel_rfl) Tryd.func14
    (witness_row_at (enc := enc) (C := Tryd.checked) false (laidWorld os) wargs rfl (by kernel_rfl) (by kernel_rfl) (by kernel_rfl)
      (OpenSpec.preRow_of_cond 8 hx (by kernel_rfl) (fun k hk => by cases hk) (by kernel_rfl) (laid_met os))) ?_
  intro W base args ds gs before hval hW _ _ _ hL _ _
  exact contract H enc W base args ds gs before hval hW hL

theorem said : Rows.ScalarOneCodeSaid :=
  OpenClaim.holds_of_cond 14 Tryd.f14 rfl rfl rfl rfl rfl rfl rfl ⟨rfl, rfl, rfl, rfl, rfl⟩ rfl rfl rfl rfl rfl (by kernel_rfl) Tryd.func14 (by kernel_rfl)
    (of_decide_eq_true (by kernel_rfl)) (by unfold Func.isWrapper; first | (rw [if_pos (by decide +kernel)]; kernel_rfl) | (rw [if_neg (by decide +kernel)]; exact ⟨rfl, rfl⟩))
    (fun os started H enc _ F => by rw [OpenClaim.pre_eq_preRow]; exact lifted os started H enc F)

theorem plain (f : FuncId) (fn : Func) (hf : Tryd.pinned.checked.prog.funcNamed "veil/veillaw02.ScalarOneCode" = some f) (hfn : Tryd.pinned.checked.prog.funcs[f]? = some fn) :
    false = Tryd.pinned.checked.prog.looks [] ∧ ∀ (j : Nat) t, fn.params[j]? = some t → Tryd.pinned.checked.prog.wantsStandIn t = false := by
  obtain rfl : f = 14 := Option.some.inj ((show Tryd.prog.funcNamed "veil/veillaw02.ScalarOneCode" = some 14 by kernel_rfl).symm.trans hf) |>.symm
  obtain rfl : fn = Tryd.f14 := (Option.some.inj (Tryd.func14.symm.trans hfn)).symm
  refine ⟨by kernel_rfl, fun j t ht => ?_⟩
  have hp : Tryd.f14.params = #[24, 66] := by kernel_rfl
  rw [hp] at ht
  have := Array.mem_of_getElem? ht
  simp only [List.mem_toArray, List.mem_cons, List.not_mem_nil, or_false] at this
  rcases this with rfl | rfl <;> exact (show Tryd.prog.wantsStandIn _ = false by kernel_rfl)

theorem card : Rows.ScalarOneCodeCardSaid :=
  Claim7.holds_tied_plain_at .later [] _ _ _ _ said (fun _ h => by cases h) (by kernel_rfl) (fun _ h => by cases h) scalarOneCode_row_tie rfl ⟨rfl, rfl⟩ (by kernel_rfl) rfl plain (by kernel_rfl)
end ScalarOneCode

end Go.Gx

namespace Go.Proofs.YtnjcbedjhokfhaaDoor
theorem scalarOneCodeProved : Rows.ScalarOneCodeCardSaid := Go.Gx.ScalarOneCode.card
end Go.Proofs.YtnjcbedjhokfhaaDoor
#print axioms Go.Proofs.YtnjcbedjhokfhaaDoor.scalarOneCodeProved
