/- Powers. -/
import Derived.Test.YtnjcbedjhokfhaaDoorScS
namespace Go.Gx
open Go.Proofs Go.Sp
open Go.Sp (prI mlL adL sbL pwL)
set_option linter.unusedVariables false

theorem pow_mod (a : Int) : ∀ n : Nat, (a % ell) ^ n % ell = a ^ n % ell
  | 0 => by simp
  | n + 1 => by rw [Int.pow_succ, Int.pow_succ, Int.mul_emod, Int.emod_emod, pow_mod a n, ← Int.mul_emod]

/-- What is left of an exponent above its k lowest bits. -/
def ex (E : Int) (k : Nat) : Nat := (E / ((2 ^ k : Nat) : Int)).toNat
theorem ex_succ {E : Int} (hE : 0 ≤ E) (k : Nat) : ex E k = 2 * ex E (k + 1) + (E / ((2 ^ k : Nat) : Int) % 2).toNat := by
  obtain ⟨n, rfl⟩ := Int.eq_ofNat_of_zero_le hE
  unfold ex
  have h1 : ((n : Int) / ((2 ^ k : Nat) : Int)) = ((n / 2 ^ k : Nat) : Int) := by exact_mod_cast rfl
  have h2 : ((n : Int) / ((2 ^ (k + 1) : Nat) : Int)) = ((n / 2 ^ k / 2 : Nat) : Int) := by rw [Nat.div_div_eq_div_mul, ← Nat.pow_succ]; exact_mod_cast rfl
  rw [h1, h2]
  generalize n / 2 ^ k = q
  omega
theorem ex_zero {E : Int} (hE : 0 ≤ E) : ex E 0 = E.toNat := by unfold ex; simp
theorem ex_top {E : Int} {k : Nat} (hE : 0 ≤ E) (h : E < ((2 ^ k : Nat) : Int)) : ex E k = 0 := by
  unfold ex
  rw [Int.ediv_eq_zero_of_lt hE h]; rfl
theorem pow_sq (a : Int) (q : Nat) : a ^ (2 * q) = a ^ q * a ^ q := by rw [Nat.two_mul, Int.pow_add]

theorem bit9 {n i x6 x7 x8 x9 : Int} {j : Nat} (hi : 0 ≤ i ∧ i < 256) (hn : 0 ≤ n) (hj : (j : Int) = i / 64) (e6 : x6 = n / ((2 ^ (64 * j) : Nat) : Int) % 18446744073709551616) (e7 : x7 = i % 64) (e8 : x8 = shrI .u64 x6 x7) (r8 : InR .u64 x8) (e9 : x9 = andI .u64 x8 1) :
    x9 = n / ((2 ^ i.toNat : Nat) : Int) % 2 := by
  have hb := bit_at hi hn hj e6 e7 e8 r8 e9 (rfl : IntKind.i64.wrap x9 = IntKind.i64.wrap x9)
  rw [and1 r8] at e9
  have h2 : 0 ≤ x9 ∧ x9 < 2 := by omega
  rw [wrap_i64 (by omega)] at hb
  rw [hb]
  unfold bitI
  rw [if_pos hi]

/-- A bit of the words of a number. -/
theorem bit_words {b0 b1 b2 b3 i x5 x6 x7 x8 x9 : Int} (hi : 0 ≤ i ∧ i < 256) (hb0 : InR .u64 b0) (hb1 : InR .u64 b1) (hb2 : InR .u64 b2) (hb3 : InR .u64 b3) (e5 : x5 = IntKind.i64.wrap (i.tdiv 64)) (e6 : x6 = [b0, b1, b2, b3].getD x5.toNat 0) (e7 : x7 = i.tmod 64) (e8 : x8 = shrI .u64 x6 x7) (r8 : InR .u64 x8) (e9 : x9 = andI .u64 x8 1) :
    x9 = val4 [b0, b1, b2, b3] / ((2 ^ i.toNat : Nat) : Int) % 2 := by
  rw [tdiv64 hi.1, wrap_i64 (by omega)] at e5
  rw [tmod64 hi.1] at e7
  obtain ⟨j, hj⟩ : ∃ j : Nat, (j : Int) = i / 64 := ⟨(i / 64).toNat, by omega⟩
  have hx : x5.toNat = j := by omega
  have hw : ([b0, b1, b2, b3] : List Int) = [w0 (val4 [b0, b1, b2, b3]), w1 (val4 [b0, b1, b2, b3]), w2 (val4 [b0, b1, b2, b3]), w3 (val4 [b0, b1, b2, b3])] := (words_val hb0 hb1 hb2 hb3).symm
  have hp := (val_pos hb0 hb1 hb2 hb3).1
  rw [hx, hw, getD_words _ j (by omega)] at e6
  exact bit9 hi hp hj e6 e7 e8 r8 e9
theorem idx_ok {i x5 : Int} (hi : 0 ≤ i ∧ i < 256) (e5 : x5 = IntKind.i64.wrap (i.tdiv 64)) : 0 ≤ x5 ∧ x5 < 4 := by
  rw [tdiv64 hi.1, wrap_i64 (by omega)] at e5
  omega
theorem rem_ok {i x7 : Int} (hi : 0 ≤ i ∧ i < 256) (e7 : x7 = i.tmod 64) : 0 ≤ x7 := by
  rw [tmod64 hi.1] at e7; omega

def L81 : Loops := [(5, ⟨[.any, .any, .any, .p 1000 0, .p 1001 0, .any, .p 1002 0, .p 1008 0, .p 1012 0, .b false false, .i .i64 ⟨false, 0⟩] ++ reps .any 32, gh ++ [(1000, .segs false [.arr .u64 4 false []]), (1001, .segs false [.arr .u64 4 false []]), (1002, .segs false [.arr .u64 4 false []]), (1008, .segs false [.arr .u64 4 false []]), (1012, .segs false [.arr .u64 4 false []])], 1018⟩)]
def vc81 (a0 a1 a2 a3 b0 b1 b2 b3 x : Int) (K : SV → Prop) (Q : Nat → List Pv → Prop) : Prop := fnVc Γ12 Tryd.f81 L81 [.arr .u64 4 true [a0, a1, a2, a3], .arr .u64 4 true [b0, b1, b2, b3], .i .i64 ⟨false, x⟩] gh K Q
def lc81 (s : Bool) (i : Int) (a e r x o : List Int) (K : SV → Prop) (Q : Nat → List Pv → Prop) : Prop := loopVc Γ12 Tryd.f81 L81 5 [.b s, .z i, .l a, .l e, .l r, .l x, .l o] K Q
theorem vc81_eq : ∀ (a0 a1 a2 a3 b0 b1 b2 b3 x : Int) (K : SV → Prop) (Q : Nat → List Pv → Prop), vc81 a0 a1 a2 a3 b0 b1 b2 b3 x K Q = ∀ (x1 : Int), x1 = w0 (val4 [a0, a1, a2, a3] % (7237005577332262213973186563042994240857116359379907606001950938285454250989 : Int)) → InR IntKind.u64 x1 → ∀ (x2 : Int), x2 = w1 (val4 [a0, a1, a2, a3] % (7237005577332262213973186563042994240857116359379907606001950938285454250989 : Int)) → InR IntKind.u64 x2 → ∀ (x3 : Int), x3 = w2 (val4 [a0, a1, a2, a3] % (7237005577332262213973186563042994240857116359379907606001950938285454250989 : Int)) → InR IntKind.u64 x3 → ∀ (x4 : Int), x4 = w3 (val4 [a0, a1, a2, a3] % (7237005577332262213973186563042994240857116359379907606001950938285454250989 : Int)) → InR IntKind.u64 x4 → Need (val4 [x1, x2, x3, x4] < (7237005577332262213973186563042994240857116359379907606001950938285454250989 : Int)) ∧ ∀ (x5 : Int), x5 = w0 (prI (val4 [x1, x2, x3, x4]) (1627715501170711445284395025044413883736156588369414752970002579683115011841 : Int)) → InR IntKind.u64 x5 → ∀ (x6 : Int), x6 = w1 (prI (val4 [x1, x2, x3, x4]) (1627715501170711445284395025044413883736156588369414752970002579683115011841 : Int)) → InR IntKind.u64 x6 → ∀ (x7 : Int), x7 = w2 (prI (val4 [x1, x2, x3, x4]) (1627715501170711445284395025044413883736156588369414752970002579683115011841 : Int)) → InR IntKind.u64 x7 → ∀ (x8 : Int), x8 = w3 (prI (val4 [x1, x2, x3, x4]) (1627715501170711445284395025044413883736156588369414752970002579683115011841 : Int)) → InR IntKind.u64 x8 → ∀ (x9 : Int), x9 = IntKind.i64.wrap (x - (1 : Int)) → InR IntKind.i64 x9 → Same Tryd.f81 (5 : Nat) (itemsOf Tryd.f81 (5 : Nat)) ∧ Q (5 : Nat) [Pv.b false, Pv.z x9, Pv.l [a0, a1, a2, a3], Pv.l [b0, b1, b2, b3], Pv.l [(0 : Int), (0 : Int), (0 : Int), (0 : Int)], Pv.l [x5, x6, x7, x8], Pv.l [(15486807595281847581 : Int), (14334777244411350896 : Int), (18446744073709551614 : Int), (1152921504606846975 : Int)]] := by
  intros
  kernel_rfl
theorem lc81_eq : ∀ (s : Bool) (i : Int) (a e r x o : List Int) (K : SV → Prop) (Q : Nat → List Pv → Prop), lc81 s i a e r x o K Q = ((decide (i ≥ (0 : Int)) = true → (s = true → Need (val4 o < (7237005577332262213973186563042994240857116359379907606001950938285454250989 : Int)) ∧ ∀ (x1 : Int), x1 = w0 (prI (val4 o) (val4 o)) → InR IntKind.u64 x1 → ∀ (x2 : Int), x2 = w1 (prI (val4 o) (val4 o)) → InR IntKind.u64 x2 → ∀ (x3 : Int), x3 = w2 (prI (val4 o) (val4 o)) → InR IntKind.u64 x3 → ∀ (x4 : Int), x4 = w3 (prI (val4 o) (val4 o)) → InR IntKind.u64 x4 → ∀ (x5 : Int), x5 = IntKind.i64.wrap (i.tdiv (64 : Int)) → InR IntKind.i64 x5 → Need ((0 : Int) ≤ x5 ∧ x5 < (4 : Int)) ∧ Need ((0 : Int) ≤ x5 ∧ x5 < (4 : Int)) ∧ ∀ (x6 : Int), x6 = e.getD x5.toNat (0 : Int) → InR IntKind.u64 x6 → ∀ (x7 : Int), x7 = i.tmod (64 : Int) → InR IntKind.i64 x7 → Need ((0 : Int) ≤ x7) ∧ ∀ (x8 : Int), x8 = shrI IntKind.u64 x6 x7 → InR IntKind.u64 x8 → ∀ (x9 : Int), x9 = andI IntKind.u64 x8 (1 : Int) → InR IntKind.u64 x9 → ((x9 == (1 : Int)) = true → Need (val4 [x1, x2, x3, x4] < (7237005577332262213973186563042994240857116359379907606001950938285454250989 : Int)) ∧ ∀ (x10 : Int), x10 = w0 (prI (val4 [x1, x2, x3, x4]) (val4 x)) → InR IntKind.u64 x10 → ∀ (x11 : Int), x11 = w1 (prI (val4 [x1, x2, x3, x4]) (val4 x)) → InR IntKind.u64 x11 → ∀ (x12 : Int), x12 = w2 (prI (val4 [x1, x2, x3, x4]) (val4 x)) → InR IntKind.u64 x12 → ∀ (x13 : Int), x13 = w3 (prI (val4 [x1, x2, x3, x4]) (val4 x)) → InR IntKind.u64 x13 → ∀ (x14 : Int), x14 = IntKind.i64.wrap (i - (1 : Int)) → InR IntKind.i64 x14 → Same Tryd.f81 (5 : Nat) (itemsOf Tryd.f81 (5 : Nat)) ∧ Q (5 : Nat) [Pv.b true, Pv.z x14, Pv.l a, Pv.l e, Pv.l r, Pv.l x, Pv.l [x10, x11, x12, x13]]) ∧ ((x9 == (1 : Int)) = false → ∀ (x15 : Int), x15 = IntKind.i64.wrap (i - (1 : Int)) → InR IntKind.i64 x15 → Same Tryd.f81 (5 : Nat) (itemsOf Tryd.f81 (5 : Nat)) ∧ Q (5 : Nat) [Pv.b s, Pv.z x15, Pv.l a, Pv.l e, Pv.l r, Pv.l x, Pv.l [x1, x2, x3, x4]])) ∧ (s = false → ∀ (x16 : Int), x16 = IntKind.i64.wrap (i.tdiv (64 : Int)) → InR IntKind.i64 x16 → Need ((0 : Int) ≤ x16 ∧ x16 < (4 : Int)) ∧ Need ((0 : Int) ≤ x16 ∧ x16 < (4 : Int)) ∧ ∀ (x17 : Int), x17 = e.getD x16.toNat (0 : Int) → InR IntKind.u64 x17 → ∀ (x18 : Int), x18 = i.tmod (64 : Int) → InR IntKind.i64 x18 → Need ((0 : Int) ≤ x18) ∧ ∀ (x19 : Int), x19 = shrI IntKind.u64 x17 x18 → InR IntKind.u64 x19 → ∀ (x20 : Int), x20 = andI IntKind.u64 x19 (1 : Int) → InR IntKind.u64 x20 → ((x20 == (1 : Int)) = true → Need (val4 o < (7237005577332262213973186563042994240857116359379907606001950938285454250989 : Int)) ∧ ∀ (x21 : Int), x21 = w0 (prI (val4 o) (val4 x)) → InR IntKind.u64 x21 → ∀ (x22 : Int), x22 = w1 (prI (val4 o) (val4 x)) → InR IntKind.u64 x22 → ∀ (x23 : Int), x23 = w2 (prI (val4 o) (val4 x)) → InR IntKind.u64 x23 → ∀ (x24 : Int), x24 = w3 (prI (val4 o) (val4 x)) → InR IntKind.u64 x24 → ∀ (x25 : Int), x25 = IntKind.i64.wrap (i - (1 : Int)) → InR IntKind.i64 x25 → Same Tryd.f81 (5 : Nat) (itemsOf Tryd.f81 (5 : Nat)) ∧ Q (5 : Nat) [Pv.b true, Pv.z x25, Pv.l a, Pv.l e, Pv.l r, Pv.l x, Pv.l [x21, x22, x23, x24]]) ∧ ((x20 == (1 : Int)) = false → ∀ (x26 : Int), x26 = IntKind.i64.wrap (i - (1 : Int)) → InR IntKind.i64 x26 → Same Tryd.f81 (5 : Nat) (itemsOf Tryd.f81 (5 : Nat)) ∧ Q (5 : Nat) [Pv.b s, Pv.z x26, Pv.l a, Pv.l e, Pv.l r, Pv.l x, Pv.l o]))) ∧ (decide (i ≥ (0 : Int)) = false → Need (val4 o < (7237005577332262213973186563042994240857116359379907606001950938285454250989 : Int)) ∧ ∀ (x27 : Int), x27 = w0 (prI (val4 o) (1 : Int)) → InR IntKind.u64 x27 → ∀ (x28 : Int), x28 = w1 (prI (val4 o) (1 : Int)) → InR IntKind.u64 x28 → ∀ (x29 : Int), x29 = w2 (prI (val4 o) (1 : Int)) → InR IntKind.u64 x29 → ∀ (x30 : Int), x30 = w3 (prI (val4 o) (1 : Int)) → InR IntKind.u64 x30 → K (SV.arr IntKind.u64 (4 : Nat) true [x27, x28, x29, x30]))) := by
  intros
  kernel_rfl

/-- One round of the power. -/
theorem round81 {s : Bool} {i Av : Int} {a r x o : List Int} {b0 b1 b2 b3 : Int} {K : SV → Prop} {Q : Nat → List Pv → Prop} (hi : 0 ≤ i ∧ i < 256) (hb0 : InR .u64 b0) (hb1 : InR .u64 b1) (hb2 : InR .u64 b2) (hb3 : InR .u64 b3)
    (hx : val4 x = Av * r1 % ell) (ho : val4 o = Av ^ ex (val4 [b0, b1, b2, b3]) (i.toNat + 1) * r1 % ell) (hs : s = false → ex (val4 [b0, b1, b2, b3]) (i.toNat + 1) = 0)
    (h : ∀ s' o', val4 o' = Av ^ ex (val4 [b0, b1, b2, b3]) i.toNat * r1 % ell → (s' = false → ex (val4 [b0, b1, b2, b3]) i.toNat = 0) → Q 5 [.b s', .z (i - 1), .l a, .l [b0, b1, b2, b3], .l r, .l x, .l o']) : lc81 s i a [b0, b1, b2, b3] r x o K Q := by
  rw [lc81_eq, ← ell_lit]
  have hp := (val_pos hb0 hb1 hb2 hb3).1
  have hsc := ex_succ hp i.toNat
  have hw : IntKind.i64.wrap (i - 1) = i - 1 := wrap_i64 (by omega)
  have hol : val4 o < ell := by rw [ho]; exact (mod_bd _).2
  refine ⟨fun _ => ⟨fun hst => ?_, fun hsf => ?_⟩, fun hn => by have := of_decide_eq_false hn; omega⟩
  · refine ⟨hol, fun x1 e1 r1 x2 e2 r2 x3 e3 r3 x4 e4 r4 x5 e5 r5 => ⟨idx_ok hi e5, idx_ok hi e5, fun x6 e6 r6 x7 e7 r7 => ⟨rem_ok hi e7, fun x8 e8 r8 x9 e9 r9 => ?_⟩⟩⟩
    have hbit := bit_words hi hb0 hb1 hb2 hb3 e5 e6 e7 e8 r8 e9
    have hsq := val_in e1 e2 e3 e4 (pr_bd _ _).1 (lt_r (pr_bd _ _).2)
    rw [ho, mont_mul, ← pow_sq] at hsq
    refine ⟨fun h1 => ?_, fun h1 => ?_⟩
    · have h1 : x9 = 1 := by simpa using h1
      refine ⟨by rw [hsq]; exact (mod_bd _).2, fun x10 e10 r10 x11 e11 r11 x12 e12 r12 x13 e13 r13 x14 e14 r14 => ⟨rfl, ?_⟩⟩
      have hm := val_in e10 e11 e12 e13 (pr_bd _ _).1 (lt_r (pr_bd _ _).2)
      rw [hsq, hx, mont_mul, ← Int.pow_succ] at hm
      rw [e14, hw]
      refine h true _ ?_ (fun h => by cases h)
      rw [hsc, ← hbit, h1]; exact hm
    · have h1 : ¬ x9 = 1 := by simpa using h1
      intro x15 e15 r15
      refine ⟨rfl, ?_⟩
      have h0 : x9 = 0 := by omega
      rw [e15, hw]
      refine h s _ ?_ (fun h => by rw [hst] at h; cases h)
      rw [hsc, ← hbit, h0]; exact hsq
  · intro x16 e16 r16
    have hq0 := hs hsf
    refine ⟨idx_ok hi e16, idx_ok hi e16, fun x17 e17 r17 x18 e18 r18 => ⟨rem_ok hi e18, fun x19 e19 r19 x20 e20 r20 => ?_⟩⟩
    have hbit := bit_words hi hb0 hb1 hb2 hb3 e16 e17 e18 e19 r19 e20
    rw [hq0] at ho hsc
    refine ⟨fun h1 => ?_, fun h1 => ?_⟩
    · have h1 : x20 = 1 := by simpa using h1
      refine ⟨hol, fun x21 e21 r21 x22 e22 r22 x23 e23 r23 x24 e24 r24 x25 e25 r25 => ⟨rfl, ?_⟩⟩
      have hm := val_in e21 e22 e23 e24 (pr_bd _ _).1 (lt_r (pr_bd _ _).2)
      rw [ho, hx, mont_mul, ← Int.pow_succ] at hm
      rw [e25, hw]
      refine h true _ ?_ (fun h => by cases h)
      rw [hsc, ← hbit, h1]; exact hm
    · have h1 : ¬ x20 = 1 := by simpa using h1
      intro x26 e26 r26
      refine ⟨rfl, ?_⟩
      have h0 : x20 = 0 := by omega
      rw [e26, hw]
      have hz : ex (val4 [b0, b1, b2, b3]) i.toNat = 0 := by rw [hsc, ← hbit, h0]; rfl
      refine h s _ ?_ (fun _ => hz)
      rw [hz]; exact ho

def inv81 (Av E : Int) (la le : List Int) (key : Nat) (ps : List Pv) (m : Nat) : Prop :=
  key = 5 ∧ ∃ s i r x o, ps = [.b s, .z i, .l la, .l le, .l r, .l x, .l o] ∧ (m : Int) = i + 1 ∧ i < 256 ∧ val4 x = Av * r1 % ell ∧ val4 o = Av ^ ex E (i + 1).toNat * r1 % ell ∧ (s = false → ex E (i + 1).toNat = 0)

def powerS : List SV → Option (List Prop × SV)
  | [.arr .u64 4 _ aL, .arr .u64 4 _ bL, .i .i64 xV] => some ([0 ≤ xV.z, xV.z ≤ 256, val4 bL < ((2 ^ xV.z.toNat : Nat) : Int)], .arr .u64 4 true (words4 (pwL (val4 aL) (val4 bL))))
  | _ => none

theorem power_ok : CallOk Tryd.prog gh 81 (pureCtr powerS) := by
  refine call_pure (fn := Tryd.f81) Γ12_ok rfl (by kernel_rfl) (by kernel_rfl) (by kernel_rfl) powerS fun args P0 Y0 hs hp hf => ?_
  unfold powerS at hs
  split at hs
  · rename_i ea aL eb bL xV
    simp only [Option.some.injEq, Prod.mk.injEq] at hs
    obtain ⟨rfl, rfl⟩ := hs
    simp only [FactVs, FactV] at hf
    obtain ⟨⟨hal, ha⟩, ⟨hbl, hb⟩, hx, _⟩ := hf
    obtain ⟨hn0, hn1, hE, _⟩ := hp
    obtain ⟨xT, x⟩ := xV
    dsimp only at *
    obtain ⟨a0, a1, a2, a3, rfl⟩ := len4 hal
    have ia0 := ha a0 (by simp); have ia1 := ha a1 (by simp); have ia2 := ha a2 (by simp); have ia3 := ha a3 (by simp)
    obtain ⟨b0, b1, b2, b3, rfl⟩ := len4 hbl
    have ib0 := hb b0 (by simp); have ib1 := hb b1 (by simp); have ib2 := hb b2 (by simp); have ib3 := hb b3 (by simp)
    refine ⟨[.arr .u64 4 true [a0, a1, a2, a3], .arr .u64 4 true [b0, b1, b2, b3], .i .i64 ⟨false, x⟩], L81, inv81 (val4 [a0, a1, a2, a3]) (val4 [b0, b1, b2, b3]) [a0, a1, a2, a3] [b0, b1, b2, b3], ⟨rfl, rfl, rfl, trivial⟩, Nat.le_of_ble_eq_true (by kernel_rfl), ?_, ?_, ?_⟩
    · intro k t ht g hg
      simp only [L81, List.mem_singleton, Prod.mk.injEq] at ht
      obtain ⟨rfl, rfl⟩ := ht
      have hg : g ∈ keysOf gh := hg
      simp only [gh, keysOf, List.mem_singleton] at hg
      subst hg
      exact ⟨by omega, rfl⟩
    · rintro key ps m ⟨rfl, s, i, r, x, o, rfl, hm, hlt, hxv, hov, hsv⟩
      show lc81 s i [a0, a1, a2, a3] [b0, b1, b2, b3] r x o _ _
      rcases Int.lt_or_le i 0 with hi | hi
      · rw [lc81_eq, ← ell_lit]
        refine ⟨fun h => by have := of_decide_eq_true h; omega, fun _ => ?_⟩
        have hi1 : i = -1 := by omega
        subst hi1
        rw [show (-1 + 1 : Int).toNat = 0 from rfl, ex_zero (val_pos ib0 ib1 ib2 ib3).1] at hov
        refine ⟨by rw [hov]; exact (mod_bd _).2, fun x27 e27 r27 x28 e28 r28 x29 e29 r29 x30 e30 r30 => ?_⟩
        rw [hov, from_mont] at e27 e28 e29 e30
        show [x27, x28, x29, x30] = words4 (pwL (val4 [a0, a1, a2, a3]) (val4 [b0, b1, b2, b3]))
        rw [e27, e28, e29, e30]; rfl
      · have hk : (i + 1).toNat = i.toNat + 1 := by omega
        rw [hk] at hov hsv
        refine round81 ⟨hi, hlt⟩ ib0 ib1 ib2 ib3 hxv hov hsv fun s' o' ho' hs' => ⟨m - 1, by omega, rfl, s', i - 1, r, x, o', rfl, by omega, by omega, hxv, ?_, ?_⟩
        · rw [show (i - 1 + 1).toNat = i.toNat by congr 1; omega]; exact ho'
        · rw [show (i - 1 + 1).toNat = i.toNat by congr 1; omega]; exact hs'
    · show vc81 a0 a1 a2 a3 b0 b1 b2 b3 x _ _
      rw [vc81_eq, ← ell_lit]
      intro x1 e1 r1 x2 e2 r2 x3 e3 r3 x4 e4 r4
      have hA := val_ell e1 e2 e3 e4
      rw [hA]
      refine ⟨(mod_bd _).2, fun x5 e5 r5 x6 e6 r6 x7 e7 r7 x8 e8 r8 x9 e9 r9 => ⟨rfl, (x9 + 1).toNat, rfl, false, x9, _, _, _, rfl, ?_, ?_, ?_, ?_, ?_⟩⟩ <;> rw [wrap_i64 (by omega)] at e9
      · omega
      · omega
      · rw [val_in e5 e6 e7 e8 (pr_bd _ _).1 (lt_r (pr_bd _ _).2), show (1627715501170711445284395025044413883736156588369414752970002579683115011841 : Int) = Go.Gx.r2 from rfl, to_mont, mm]
      · rw [show (x9 + 1).toNat = x.toNat by congr 1; omega, ex_top (val_pos ib0 ib1 ib2 ib3).1 hE, Int.pow_zero]
        decide
      · intro _
        rw [show (x9 + 1).toNat = x.toNat by congr 1; omega, ex_top (val_pos ib0 ib1 ib2 ib3).1 hE]
  · cases hs

def Γ13 : Tab := ⟨tys, (81, pureCtr powerS) :: Γ12.ctr, [0], gh⟩
theorem Γ13_ok : TabOk Tryd.prog Γ13 := Γ12_ok.cons power_ok
end Go.Gx
