/- Powers and inverses, the program's and the document's. -/
import Derived.Test.YtnjcbedjhokfhaaDoorScT
namespace Go.Gx
open Go.Proofs Go.Sp
open Go.Sp (prI mlL adL sbL pwL halfI)
set_option linter.unusedVariables false

def em2 : Int := 7237005577332262213973186563042994240857116359379907606001950938285454250987
/-- The inverse. -/
def _root_.Go.Sp.invL (a : Int) : Int := pwL a em2
open Go.Sp (invL)

theorem inv_law {a : Int} (h : a % ell ≠ 0) : a * invL a % ell = 1 := by
  have hb := mod_bd a
  obtain ⟨n, hn⟩ := Int.eq_ofNat_of_zero_le hb.1
  have hL : ell = ((7237005577332262213973186563042994240857116359379907606001950938285454250989 : Nat) : Int) := by kernel_rfl
  have hd : ¬ 7237005577332262213973186563042994240857116359379907606001950938285454250989 ∣ n := fun hd => by
    rcases Nat.eq_zero_or_pos n with h0 | h0
    · rw [hn, h0] at h; exact h rfl
    · have := Nat.le_of_dvd h0 hd
      have h2 := hb.2
      rw [hn, hL] at h2
      omega
  have hf := Nt.fermat Nt.prL hd
  obtain ⟨k, hk⟩ : ∃ k : Nat, k = em2.toNat := ⟨_, rfl⟩
  have hk1 : 7237005577332262213973186563042994240857116359379907606001950938285454250989 - 1 = k + 1 := by rw [hk]; kernel_rfl
  rw [hk1] at hf
  show a * (a ^ em2.toNat % ell) % ell = 1
  rw [← hk, mm2, Int.mul_comm, ← Int.pow_succ, ← pow_mod, hn, hL]
  exact_mod_cast congrArg (fun x : Nat => (x : Int)) hf

theorem pow_zero_mod {a : Int} (h : a % ell = 0) : invL a = 0 := by
  obtain ⟨k, hk⟩ : ∃ k : Nat, k + 1 = em2.toNat := ⟨7237005577332262213973186563042994240857116359379907606001950938285454250986, by kernel_rfl⟩
  show a ^ em2.toNat % ell = 0
  rw [← hk, Int.pow_succ, Int.mul_emod, h, Int.mul_zero, Int.zero_emod]

/-- There is one inverse. -/
theorem inv_one {a x : Int} (hx : 0 ≤ x ∧ x < ell) (h : a * x % ell = 1) : x = invL a := by
  have ha : a % ell ≠ 0 := fun e => by
    rw [Int.mul_emod, e, Int.zero_mul, Int.zero_emod] at h; cases h
  have hi := inv_law ha
  have hb : 0 ≤ invL a ∧ invL a < ell := pow_bd a em2
  have h1 : x % ell = invL a % ell := by
    have e1 : invL a * (a * x) % ell = invL a % ell := by rw [Int.mul_emod, h, Int.mul_one, Int.emod_emod]
    have e2 : x * (a * invL a) % ell = x % ell := by rw [Int.mul_emod, hi, Int.mul_one, Int.emod_emod]
    rw [← e2, ← e1]
    congr 1; ac_rfl
  rw [Int.emod_eq_of_lt hx.1 hx.2, Int.emod_eq_of_lt hb.1 hb.2] at h1
  exact h1

theorem dbl {x : Int} (h : x % 2 = 0) : 2 * halfI x = x := by unfold halfI; rw [if_pos h]; omega
def eh : Int := 3618502788666131106986593281521497120428558179689953803000975469142727125494
theorem ell_eh : ell = 2 * eh + 1 := by decide
theorem dbl' {x : Int} (h : ¬ x % 2 = 0) : 2 * halfI x = x + ell := by
  have he := ell_eh
  unfold halfI; rw [if_neg h]
  generalize ell = L at *
  generalize eh = M at *
  omega
theorem cancel2 {z k : Int} (hk : 2 * z = ell * k) : z % ell = 0 := by
  have h1 : ell * k = 2 * (eh * k) + k := by rw [ell_eh, Int.add_mul, Int.one_mul, Int.mul_assoc]
  have h2 : k = 2 * (z - eh * k) := by
    generalize eh * k = y at *
    generalize ell * k = q at *
    omega
  have h3 : 2 * z = 2 * (ell * (z - eh * k)) := by
    rw [hk, ← Int.mul_left_comm, ← h2]
  have h4 : z = ell * (z - eh * k) := Int.eq_of_mul_eq_mul_left (by decide) h3
  rw [h4, Int.mul_emod_right]
theorem half_cong {a x u : Int} (h : (a * x - u) % ell = 0) (hu : u % 2 = 0) : (a * halfI x - u / 2) % ell = 0 := by
  obtain ⟨k, hk⟩ := Int.dvd_of_emod_eq_zero h
  by_cases hx : x % 2 = 0
  · refine cancel2 (k := k) ?_
    rw [← hk, Int.mul_sub, Int.mul_left_comm, dbl hx, show 2 * (u / 2) = u by omega]
  · refine cancel2 (k := k + a) ?_
    rw [Int.mul_add, ← hk, Int.mul_sub, Int.mul_left_comm, dbl' hx, show 2 * (u / 2) = u by omega, Int.mul_add, Int.mul_comm ell a]
    generalize a * x = p
    generalize a * ell = q
    omega
theorem half_bd {x : Int} (hx : 0 ≤ x ∧ x < ell) : 0 ≤ halfI x ∧ halfI x < ell := by
  have he := ell_lit
  unfold halfI
  split <;> omega
theorem half_even {u : Int} (h : u % 2 = 0) : halfI u = u / 2 := by unfold halfI; rw [if_pos h]
theorem sub_cong {a x y u v : Int} (h1 : (a * x - u) % ell = 0) (h2 : (a * y - v) % ell = 0) : (a * sbL x y - (u - v)) % ell = 0 := by
  unfold sbL
  rw [Int.sub_emod, mm2, ← Int.sub_emod, Int.mul_sub]
  have : a * x - a * y - (u - v) = (a * x - u) - (a * y - v) := by omega
  rw [this, Int.sub_emod, h1, h2]; rfl

theorem gcd_half {u v : Nat} (h : Nat.gcd u v = 1) (hu : u % 2 = 0) : Nat.gcd (u / 2) v = 1 :=
  Nat.Coprime.coprime_dvd_left (Nat.div_dvd_of_dvd (Nat.dvd_of_mod_eq_zero hu)) h
theorem gcd_half' {u v : Nat} (h : Nat.gcd u v = 1) (hv : v % 2 = 0) : Nat.gcd u (v / 2) = 1 := by
  rw [Nat.gcd_comm] at h ⊢
  exact gcd_half h hv

def vc41 (a0 a1 a2 a3 x : Int) (K : SV → Prop) (Q : Nat → List Pv → Prop) : Prop := fnVc Γ13 Tryd.f41 [] [.arr .u64 4 true [a0, a1, a2, a3], .i .u64 ⟨false, x⟩] gh K Q
theorem vc41_eq : ∀ (a0 a1 a2 a3 x : Int) (K : SV → Prop) (Q : Nat → List Pv → Prop), vc41 a0 a1 a2 a3 x K Q = (Need ((0 : Int) ≤ (64 : Int)) ∧ Need ((64 : Int) ≤ (256 : Int)) ∧ Need (val4 [x, (0 : Int), (0 : Int), (0 : Int)] < (18446744073709551616 : Int)) ∧ ∀ (x1 : Int), x1 = w0 (pwL (val4 [a0, a1, a2, a3]) (val4 [x, (0 : Int), (0 : Int), (0 : Int)])) → InR IntKind.u64 x1 → ∀ (x2 : Int), x2 = w1 (pwL (val4 [a0, a1, a2, a3]) (val4 [x, (0 : Int), (0 : Int), (0 : Int)])) → InR IntKind.u64 x2 → ∀ (x3 : Int), x3 = w2 (pwL (val4 [a0, a1, a2, a3]) (val4 [x, (0 : Int), (0 : Int), (0 : Int)])) → InR IntKind.u64 x3 → ∀ (x4 : Int), x4 = w3 (pwL (val4 [a0, a1, a2, a3]) (val4 [x, (0 : Int), (0 : Int), (0 : Int)])) → InR IntKind.u64 x4 → K (SV.arr IntKind.u64 (4 : Nat) true [x1, x2, x3, x4])) := by
  intros
  kernel_rfl

def powS : List SV → Option (List Prop × SV)
  | [.arr .u64 4 _ aL, .i .u64 xV] => some ([], .arr .u64 4 true (words4 (pwL (val4 aL) xV.z)))
  | _ => none

theorem pow_ok : CallOk Tryd.prog gh 41 (pureCtr powS) := by
  refine call_pure (fn := Tryd.f41) Γ13_ok rfl (by kernel_rfl) (by kernel_rfl) (by kernel_rfl) powS fun args P0 Y0 hs hp hf => ?_
  unfold powS at hs
  split at hs
  · rename_i ea aL xV
    simp only [Option.some.injEq, Prod.mk.injEq] at hs
    obtain ⟨rfl, rfl⟩ := hs
    simp only [FactVs, FactV] at hf
    obtain ⟨⟨hal, ha⟩, hx, _⟩ := hf
    obtain ⟨a0, a1, a2, a3, rfl⟩ := len4 hal
    have ia0 := ha a0 (by simp); have ia1 := ha a1 (by simp); have ia2 := ha a2 (by simp); have ia3 := ha a3 (by simp)
    refine ⟨[.arr .u64 4 true [a0, a1, a2, a3], .i .u64 ⟨false, xV.z⟩], [], _, ⟨rfl, rfl, trivial⟩, Nat.le_of_ble_eq_true (by kernel_rfl), vc_noloops ?_⟩
    show vc41 a0 a1 a2 a3 xV.z _ _
    rw [vc41_eq]
    generalize xV.z = x at *
    have hv : val4 [x, 0, 0, 0] = x := by simp only [val4]; omega
    rw [hv]
    simp only [InR] at hx
    refine ⟨need_of (by omega), need_of (by omega), need_of hx.2, fun x1 e1 r1 x2 e2 r2 x3 e3 r3 x4 e4 r4 => ?_⟩
    show [x1, x2, x3, x4] = words4 (pwL (val4 [a0, a1, a2, a3]) x)
    rw [e1, e2, e3, e4]; rfl
  · cases hs

def vc43 (a0 a1 a2 a3 : Int) (K : SV → Prop) (Q : Nat → List Pv → Prop) : Prop := fnVc Γ13 Tryd.f43 [] [.arr .u64 4 true [a0, a1, a2, a3]] gh K Q
theorem vc43_eq : ∀ (a0 a1 a2 a3 : Int) (K : SV → Prop) (Q : Nat → List Pv → Prop), vc43 a0 a1 a2 a3 K Q = (Need ((0 : Int) ≤ (253 : Int)) ∧ Need ((253 : Int) ≤ (256 : Int)) ∧ Need ((7237005577332262213973186563042994240857116359379907606001950938285454250987 : Int) < (14474011154664524427946373126085988481658748083205070504932198000989141204992 : Int)) ∧ ∀ (x1 : Int), x1 = w0 (pwL (val4 [a0, a1, a2, a3]) (7237005577332262213973186563042994240857116359379907606001950938285454250987 : Int)) → InR IntKind.u64 x1 → ∀ (x2 : Int), x2 = w1 (pwL (val4 [a0, a1, a2, a3]) (7237005577332262213973186563042994240857116359379907606001950938285454250987 : Int)) → InR IntKind.u64 x2 → ∀ (x3 : Int), x3 = w2 (pwL (val4 [a0, a1, a2, a3]) (7237005577332262213973186563042994240857116359379907606001950938285454250987 : Int)) → InR IntKind.u64 x3 → ∀ (x4 : Int), x4 = w3 (pwL (val4 [a0, a1, a2, a3]) (7237005577332262213973186563042994240857116359379907606001950938285454250987 : Int)) → InR IntKind.u64 x4 → K (SV.arr IntKind.u64 (4 : Nat) true [x1, x2, x3, x4])) := by
  intros
  kernel_rfl

def invS : List SV → Option (List Prop × SV)
  | [.arr .u64 4 _ aL] => some ([], .arr .u64 4 true (words4 (invL (val4 aL))))
  | _ => none

theorem inv_ok : CallOk Tryd.prog gh 43 (pureCtr invS) := by
  refine call_pure (fn := Tryd.f43) Γ13_ok rfl (by kernel_rfl) (by kernel_rfl) (by kernel_rfl) invS fun args P0 Y0 hs hp hf => ?_
  unfold invS at hs
  split at hs
  · rename_i ea aL
    simp only [Option.some.injEq, Prod.mk.injEq] at hs
    obtain ⟨rfl, rfl⟩ := hs
    simp only [FactVs, FactV] at hf
    obtain ⟨⟨hal, ha⟩, _⟩ := hf
    obtain ⟨a0, a1, a2, a3, rfl⟩ := len4 hal
    have ia0 := ha a0 (by simp); have ia1 := ha a1 (by simp); have ia2 := ha a2 (by simp); have ia3 := ha a3 (by simp)
    refine ⟨[.arr .u64 4 true [a0, a1, a2, a3]], [], _, ⟨rfl, trivial⟩, Nat.le_of_ble_eq_true (by kernel_rfl), vc_noloops ?_⟩
    show vc43 a0 a1 a2 a3 _ _
    rw [vc43_eq]
    refine ⟨need_of (by omega), need_of (by omega), need_of (by omega), fun x1 e1 r1 x2 e2 r2 x3 e3 r3 x4 e4 r4 => ?_⟩
    show [x1, x2, x3, x4] = words4 (invL (val4 [a0, a1, a2, a3]))
    rw [e1, e2, e3, e4]; rfl
  · cases hs

def L42 : Loops := [(3, ⟨[.any, .i .u64 ⟨false, 0⟩, .p 1000 0, .any, .p 1001 0, .p 1003 0, .i .i64 ⟨false, 0⟩] ++ reps .any 17, gh ++ [(1000, .segs false [.arr .u64 4 false []]), (1001, .segs false [.arr .u64 4 false []]), (1003, .segs false [.arr .u64 4 false []])], 1006⟩)]
def vc42 (a0 a1 a2 a3 x : Int) (K : SV → Prop) (Q : Nat → List Pv → Prop) : Prop := fnVc Γ12 Tryd.f42 L42 [.arr .u64 4 true [a0, a1, a2, a3], .i .u64 ⟨false, x⟩] gh K Q
def lc42 (e i : Int) (a r o : List Int) (K : SV → Prop) (Q : Nat → List Pv → Prop) : Prop := loopVc Γ12 Tryd.f42 L42 3 [.z e, .z i, .l a, .l r, .l o] K Q
theorem vc42_eq : ∀ (a0 a1 a2 a3 x : Int) (K : SV → Prop) (Q : Nat → List Pv → Prop), vc42 a0 a1 a2 a3 x K Q = ∀ (x1 : Int), x1 = (1 : Int) → InR IntKind.u64 x1 → ∀ (x2 : Int), x2 = (0 : Int) → InR IntKind.u64 x2 → ∀ (x3 : Int), x3 = (0 : Int) → InR IntKind.u64 x3 → ∀ (x4 : Int), x4 = (0 : Int) → InR IntKind.u64 x4 → Same Tryd.f42 (3 : Nat) (itemsOf Tryd.f42 (3 : Nat)) ∧ Q (3 : Nat) [Pv.z x, Pv.z (63 : Int), Pv.l [a0, a1, a2, a3], Pv.l [(0 : Int), (0 : Int), (0 : Int), (0 : Int)], Pv.l [x1, x2, x3, x4]] := by
  intros
  kernel_rfl
theorem lc42_eq : ∀ (e i : Int) (a r o : List Int) (K : SV → Prop) (Q : Nat → List Pv → Prop), lc42 e i a r o K Q = ((decide (i ≥ (0 : Int)) = true → ∀ (x1 : Int), x1 = w0 (mlL (val4 o) (val4 o)) → InR IntKind.u64 x1 → ∀ (x2 : Int), x2 = w1 (mlL (val4 o) (val4 o)) → InR IntKind.u64 x2 → ∀ (x3 : Int), x3 = w2 (mlL (val4 o) (val4 o)) → InR IntKind.u64 x3 → ∀ (x4 : Int), x4 = w3 (mlL (val4 o) (val4 o)) → InR IntKind.u64 x4 → Need ((0 : Int) ≤ i) ∧ ∀ (x5 : Int), x5 = shrI IntKind.u64 e i → InR IntKind.u64 x5 → ∀ (x6 : Int), x6 = andI IntKind.u64 x5 (1 : Int) → InR IntKind.u64 x6 → ((x6 == (1 : Int)) = true → ∀ (x7 : Int), x7 = w0 (mlL (val4 [x1, x2, x3, x4]) (val4 a)) → InR IntKind.u64 x7 → ∀ (x8 : Int), x8 = w1 (mlL (val4 [x1, x2, x3, x4]) (val4 a)) → InR IntKind.u64 x8 → ∀ (x9 : Int), x9 = w2 (mlL (val4 [x1, x2, x3, x4]) (val4 a)) → InR IntKind.u64 x9 → ∀ (x10 : Int), x10 = w3 (mlL (val4 [x1, x2, x3, x4]) (val4 a)) → InR IntKind.u64 x10 → ∀ (x11 : Int), x11 = IntKind.i64.wrap (i - (1 : Int)) → InR IntKind.i64 x11 → Same Tryd.f42 (3 : Nat) (itemsOf Tryd.f42 (3 : Nat)) ∧ Q (3 : Nat) [Pv.z e, Pv.z x11, Pv.l a, Pv.l r, Pv.l [x7, x8, x9, x10]]) ∧ ((x6 == (1 : Int)) = false → ∀ (x12 : Int), x12 = IntKind.i64.wrap (i - (1 : Int)) → InR IntKind.i64 x12 → Same Tryd.f42 (3 : Nat) (itemsOf Tryd.f42 (3 : Nat)) ∧ Q (3 : Nat) [Pv.z e, Pv.z x12, Pv.l a, Pv.l r, Pv.l [x1, x2, x3, x4]])) ∧ (decide (i ≥ (0 : Int)) = false → K (SV.arr IntKind.u64 (4 : Nat) false o))) := by
  intros
  kernel_rfl

theorem pw_mul (a : Int) (m n : Nat) : mlL (a ^ m % ell) (a ^ n % ell) = a ^ (m + n) % ell := by
  unfold mlL
  rw [← Int.mul_emod, Int.pow_add]
theorem pw_mul1 (a : Int) (m : Nat) : mlL (a ^ m % ell) a = a ^ (m + 1) % ell := by
  unfold mlL
  rw [mm, Int.pow_succ]

/-- One round of the document's power. -/
theorem round42 {i e Av : Int} {a r o : List Int} {K : SV → Prop} {Q : Nat → List Pv → Prop} (hi : 0 ≤ i ∧ i < 64) (he : InR .u64 e) (ha : val4 a = Av) (ho : o = words4 (Av ^ ex e (i.toNat + 1) % ell))
    (h : Q 3 [.z e, .z (i - 1), .l a, .l r, .l (words4 (Av ^ ex e i.toNat % ell))]) : lc42 e i a r o K Q := by
  rw [lc42_eq]
  have hsc := ex_succ he.1 i.toNat
  have hw : IntKind.i64.wrap (i - 1) = i - 1 := wrap_i64 (by omega)
  have hov : val4 o = Av ^ ex e (i.toNat + 1) % ell := by rw [ho]; exact (val_mod _).1
  refine ⟨fun _ x1 e1 r1 x2 e2 r2 x3 e3 r3 x4 e4 r4 => ⟨hi.1, fun x5 e5 r5 x6 e6 r6 => ?_⟩, fun hn => by have := of_decide_eq_false hn; omega⟩
  have hsq := val_in e1 e2 e3 e4 (mul_bd _ _).1 (lt_r (mul_bd _ _).2)
  have hsw : [x1, x2, x3, x4] = words4 (Av ^ (2 * ex e (i.toNat + 1)) % ell) := by
    rw [hov, pw_mul, ← Nat.two_mul] at e1 e2 e3 e4
    rw [e1, e2, e3, e4]; rfl
  rw [hov, pw_mul, ← Nat.two_mul] at hsq
  obtain ⟨k, hk⟩ : ∃ k : Nat, (k : Int) = i := ⟨i.toNat, by omega⟩
  have hbit : x6 = e / ((2 ^ i.toNat : Nat) : Int) % 2 := by
    rw [and1 r5, e5, ← hk, shrI_u64 e k (by omega)] at e6
    rw [e6, ← hk]; rfl
  refine ⟨fun h1 => ?_, fun h1 => ?_⟩
  · have h1 : x6 = 1 := by simpa using h1
    intro x7 e7 r7 x8 e8 r8 x9 e9 r9 x10 e10 r10 x11 e11 r11
    refine ⟨rfl, ?_⟩
    rw [hsq, ha, pw_mul1] at e7 e8 e9 e10
    have : [x7, x8, x9, x10] = words4 (Av ^ ex e i.toNat % ell) := by
      rw [hsc, ← hbit, h1, e7, e8, e9, e10]; rfl
    rw [this, e11, hw]; exact h
  · have h1 : ¬ x6 = 1 := by simpa using h1
    intro x12 e12 r12
    refine ⟨rfl, ?_⟩
    have h0 : x6 = 0 := by omega
    have : [x1, x2, x3, x4] = words4 (Av ^ ex e i.toNat % ell) := by
      rw [hsc, ← hbit, h0, hsw]; rfl
    rw [this, e12, hw]; exact h

def inv42 (Av e : Int) (la : List Int) (key : Nat) (ps : List Pv) (m : Nat) : Prop :=
  key = 3 ∧ ∃ i r, ps = [.z e, .z i, .l la, .l r, .l (words4 (Av ^ ex e (i + 1).toNat % ell))] ∧ (m : Int) = i + 1 ∧ i < 64

def rpowS : List SV → Option (List Prop × SV)
  | [.arr .u64 4 _ aL, .i .u64 xV] => some ([], .arr .u64 4 true (words4 (pwL (val4 aL) xV.z)))
  | _ => none

theorem rpow_ok : CallOk Tryd.prog gh 42 (pureCtr rpowS) := by
  refine call_pure (fn := Tryd.f42) Γ12_ok rfl (by kernel_rfl) (by kernel_rfl) (by kernel_rfl) rpowS fun args P0 Y0 hs hp hf => ?_
  unfold rpowS at hs
  split at hs
  · rename_i ea aL xV
    simp only [Option.some.injEq, Prod.mk.injEq] at hs
    obtain ⟨rfl, rfl⟩ := hs
    simp only [FactVs, FactV] at hf
    obtain ⟨⟨hal, ha⟩, hx, _⟩ := hf
    obtain ⟨xT, x⟩ := xV
    dsimp only at *
    obtain ⟨a0, a1, a2, a3, rfl⟩ := len4 hal
    have ia0 := ha a0 (by simp); have ia1 := ha a1 (by simp); have ia2 := ha a2 (by simp); have ia3 := ha a3 (by simp)
    refine ⟨[.arr .u64 4 true [a0, a1, a2, a3], .i .u64 ⟨false, x⟩], L42, inv42 (val4 [a0, a1, a2, a3]) x [a0, a1, a2, a3], ⟨rfl, rfl, trivial⟩, Nat.le_of_ble_eq_true (by kernel_rfl), ?_, ?_, ?_⟩
    · intro k t ht g hg
      simp only [L42, List.mem_cons, List.not_mem_nil, or_false, Prod.mk.injEq] at ht
      have hg : g ∈ keysOf gh := hg
      simp only [gh, keysOf, List.mem_singleton] at hg
      subst hg
      obtain ⟨rfl, rfl⟩ := ht
      exact ⟨by omega, rfl⟩
    · rintro key ps m ⟨rfl, i, r, rfl, hm, hlt⟩
      show lc42 x i [a0, a1, a2, a3] r (words4 (val4 [a0, a1, a2, a3] ^ ex x (i + 1).toNat % ell)) _ _
      rcases Int.lt_or_le i 0 with hi | hi
      · rw [lc42_eq]
        refine ⟨fun h => by have := of_decide_eq_true h; omega, fun _ => ?_⟩
        have hi1 : i = -1 := by omega
        subst hi1
        rw [show (-1 + 1 : Int).toNat = 0 from rfl, ex_zero hx.1]
        exact rfl
      · have hk : (i + 1).toNat = i.toNat + 1 := by omega
        rw [hk]
        refine round42 ⟨hi, hlt⟩ hx rfl rfl ⟨m - 1, by omega, rfl, i - 1, r, ?_, by omega, by omega⟩
        rw [show (i - 1 + 1).toNat = i.toNat by congr 1; omega]
    · show vc42 a0 a1 a2 a3 x _ _
      rw [vc42_eq]
      intro x1 e1 r1 x2 e2 r2 x3 e3 r3 x4 e4 r4
      refine ⟨rfl, 64, rfl, 63, [0, 0, 0, 0], ?_, by omega, by omega⟩
      rw [show (63 + 1 : Int).toNat = 64 from rfl, ex_top hx.1 hx.2, Int.pow_zero, e1, e2, e3, e4]
      rfl
  · cases hs

def P44 : St := ⟨[.any, .p 1000 0, .p 1001 0, .p 1005 0, .p 1008 0, .p 1011 0, .p 1014 0, .p 1017 0] ++ reps .any 58, gh ++ [(1000, .segs false [.arr .u64 4 false []]), (1001, .segs false [.arr .u64 4 false []]), (1005, .segs false [.arr .u64 4 false []]), (1008, .segs false [.arr .u64 4 false []]), (1011, .segs false [.arr .u64 4 false []]), (1014, .segs false [.arr .u64 4 false []]), (1017, .segs false [.arr .u64 4 false []])], 1019⟩
def L44 : Loops := [(8, P44), (9, P44), (12, P44)]
def vc44 (a0 a1 a2 a3 : Int) (K : SV → Prop) (Q : Nat → List Pv → Prop) : Prop := fnVc Γ12 Tryd.f44 L44 [.arr .u64 4 true [a0, a1, a2, a3]] gh K Q
def lc44a (a r u v x y o : List Int) (K : SV → Prop) (Q : Nat → List Pv → Prop) : Prop := loopVc Γ12 Tryd.f44 L44 8 [.l a, .l r, .l u, .l v, .l x, .l y, .l o] K Q
def lc44b (a r u v x y o : List Int) (K : SV → Prop) (Q : Nat → List Pv → Prop) : Prop := loopVc Γ12 Tryd.f44 L44 9 [.l a, .l r, .l u, .l v, .l x, .l y, .l o] K Q
def lc44c (a r u v x y o : List Int) (K : SV → Prop) (Q : Nat → List Pv → Prop) : Prop := loopVc Γ12 Tryd.f44 L44 12 [.l a, .l r, .l u, .l v, .l x, .l y, .l o] K Q
theorem vc44_eq : ∀ (a0 a1 a2 a3 : Int) (K : SV → Prop) (Q : Nat → List Pv → Prop), vc44 a0 a1 a2 a3 K Q = ∀ (x1 : Bool), x1 = ([a0, a1, a2, a3] == [(0 : Int), (0 : Int), (0 : Int), (0 : Int)]) → (x1 = true → K (SV.arr IntKind.u64 (4 : Nat) true [a0, a1, a2, a3])) ∧ (x1 = false → ∀ (x2 : Int), x2 = (6346243789798364141 : Int) → InR IntKind.u64 x2 → ∀ (x3 : Int), x3 = (1503914060200516822 : Int) → InR IntKind.u64 x3 → ∀ (x4 : Int), x4 = (0 : Int) → InR IntKind.u64 x4 → ∀ (x5 : Int), x5 = (1152921504606846976 : Int) → InR IntKind.u64 x5 → ∀ (x6 : Int), x6 = (1 : Int) → InR IntKind.u64 x6 → ∀ (x7 : Int), x7 = (0 : Int) → InR IntKind.u64 x7 → ∀ (x8 : Int), x8 = (0 : Int) → InR IntKind.u64 x8 → ∀ (x9 : Int), x9 = (0 : Int) → InR IntKind.u64 x9 → ∀ (x10 : Int), x10 = (1 : Int) → InR IntKind.u64 x10 → ∀ (x11 : Int), x11 = (0 : Int) → InR IntKind.u64 x11 → ∀ (x12 : Int), x12 = (0 : Int) → InR IntKind.u64 x12 → ∀ (x13 : Int), x13 = (0 : Int) → InR IntKind.u64 x13 → Same Tryd.f44 (8 : Nat) (itemsOf Tryd.f44 (8 : Nat)) ∧ Q (8 : Nat) [Pv.l [a0, a1, a2, a3], Pv.l [(0 : Int), (0 : Int), (0 : Int), (0 : Int)], Pv.l [a0, a1, a2, a3], Pv.l [x2, x3, x4, x5], Pv.l [x6, x7, x8, x9], Pv.l [(0 : Int), (0 : Int), (0 : Int), (0 : Int)], Pv.l [x10, x11, x12, x13]]) := by
  intros
  kernel_rfl
theorem lc44a_eq : ∀ (a r u v x y o : List Int) (K : SV → Prop) (Q : Nat → List Pv → Prop), lc44a a r u v x y o K Q = (((!u == o) = true → ((!v == o) = true → Same Tryd.f44 (9 : Nat) (itemsOf Tryd.f44 (9 : Nat)) ∧ Q (9 : Nat) [Pv.l a, Pv.l r, Pv.l u, Pv.l v, Pv.l x, Pv.l y, Pv.l o]) ∧ ((!v == o) = false → ((u == o) = true → K (SV.arr IntKind.u64 (4 : Nat) false x)) ∧ ((u == o) = false → K (SV.arr IntKind.u64 (4 : Nat) false y)))) ∧ ((!u == o) = false → ((u == o) = true → K (SV.arr IntKind.u64 (4 : Nat) false x)) ∧ ((u == o) = false → K (SV.arr IntKind.u64 (4 : Nat) false y)))) := by
  intros
  kernel_rfl
theorem lc44b_eq : ∀ (a r u v x y o : List Int) (K : SV → Prop) (Q : Nat → List Pv → Prop), lc44b a r u v x y o K Q = ∀ (x1 : Int), x1 = andI IntKind.u64 (u.getD (0 : Nat) (0 : Int)) (1 : Int) → InR IntKind.u64 x1 → ((x1 == (0 : Int)) = true → ∀ (x2 : Int), x2 = w0 (halfI (val4 u)) → InR IntKind.u64 x2 → ∀ (x3 : Int), x3 = w1 (halfI (val4 u)) → InR IntKind.u64 x3 → ∀ (x4 : Int), x4 = w2 (halfI (val4 u)) → InR IntKind.u64 x4 → ∀ (x5 : Int), x5 = w3 (halfI (val4 u)) → InR IntKind.u64 x5 → ∀ (x6 : Int), x6 = w0 (halfI (val4 x)) → InR IntKind.u64 x6 → ∀ (x7 : Int), x7 = w1 (halfI (val4 x)) → InR IntKind.u64 x7 → ∀ (x8 : Int), x8 = w2 (halfI (val4 x)) → InR IntKind.u64 x8 → ∀ (x9 : Int), x9 = w3 (halfI (val4 x)) → InR IntKind.u64 x9 → Same Tryd.f44 (9 : Nat) (itemsOf Tryd.f44 (9 : Nat)) ∧ Q (9 : Nat) [Pv.l a, Pv.l r, Pv.l [x2, x3, x4, x5], Pv.l v, Pv.l [x6, x7, x8, x9], Pv.l y, Pv.l o]) ∧ ((x1 == (0 : Int)) = false → Same Tryd.f44 (12 : Nat) (itemsOf Tryd.f44 (12 : Nat)) ∧ Q (12 : Nat) [Pv.l a, Pv.l r, Pv.l u, Pv.l v, Pv.l x, Pv.l y, Pv.l o]) := by
  intros
  kernel_rfl
theorem lc44c_eq : ∀ (a r u v x y o : List Int) (K : SV → Prop) (Q : Nat → List Pv → Prop), lc44c a r u v x y o K Q = ∀ (x1 : Int), x1 = andI IntKind.u64 (v.getD (0 : Nat) (0 : Int)) (1 : Int) → InR IntKind.u64 x1 → ((x1 == (0 : Int)) = true → ∀ (x2 : Int), x2 = w0 (halfI (val4 v)) → InR IntKind.u64 x2 → ∀ (x3 : Int), x3 = w1 (halfI (val4 v)) → InR IntKind.u64 x3 → ∀ (x4 : Int), x4 = w2 (halfI (val4 v)) → InR IntKind.u64 x4 → ∀ (x5 : Int), x5 = w3 (halfI (val4 v)) → InR IntKind.u64 x5 → ∀ (x6 : Int), x6 = w0 (halfI (val4 y)) → InR IntKind.u64 x6 → ∀ (x7 : Int), x7 = w1 (halfI (val4 y)) → InR IntKind.u64 x7 → ∀ (x8 : Int), x8 = w2 (halfI (val4 y)) → InR IntKind.u64 x8 → ∀ (x9 : Int), x9 = w3 (halfI (val4 y)) → InR IntKind.u64 x9 → Same Tryd.f44 (12 : Nat) (itemsOf Tryd.f44 (12 : Nat)) ∧ Q (12 : Nat) [Pv.l a, Pv.l r, Pv.l u, Pv.l [x2, x3, x4, x5], Pv.l x, Pv.l [x6, x7, x8, x9], Pv.l o]) ∧ ((x1 == (0 : Int)) = false → ∀ (x10 : Bool), x10 = decide (val4 u < val4 v) → (x10 = true → ∀ (x11 : Int), x11 = w0 (val4 v - val4 u) → InR IntKind.u64 x11 → ∀ (x12 : Int), x12 = w1 (val4 v - val4 u) → InR IntKind.u64 x12 → ∀ (x13 : Int), x13 = w2 (val4 v - val4 u) → InR IntKind.u64 x13 → ∀ (x14 : Int), x14 = w3 (val4 v - val4 u) → InR IntKind.u64 x14 → ∀ (x15 : Int), x15 = ltI (val4 v) (val4 u) → InR IntKind.u64 x15 → Need (val4 y < (7237005577332262213973186563042994240857116359379907606001950938285454250989 : Int)) ∧ Need (val4 x < (7237005577332262213973186563042994240857116359379907606001950938285454250989 : Int)) ∧ ∀ (x16 : Int), x16 = w0 (sbL (val4 y) (val4 x)) → InR IntKind.u64 x16 → ∀ (x17 : Int), x17 = w1 (sbL (val4 y) (val4 x)) → InR IntKind.u64 x17 → ∀ (x18 : Int), x18 = w2 (sbL (val4 y) (val4 x)) → InR IntKind.u64 x18 → ∀ (x19 : Int), x19 = w3 (sbL (val4 y) (val4 x)) → InR IntKind.u64 x19 → Same Tryd.f44 (8 : Nat) (itemsOf Tryd.f44 (8 : Nat)) ∧ Q (8 : Nat) [Pv.l a, Pv.l r, Pv.l u, Pv.l [x11, x12, x13, x14], Pv.l x, Pv.l [x16, x17, x18, x19], Pv.l o]) ∧ (x10 = false → ∀ (x20 : Int), x20 = w0 (val4 u - val4 v) → InR IntKind.u64 x20 → ∀ (x21 : Int), x21 = w1 (val4 u - val4 v) → InR IntKind.u64 x21 → ∀ (x22 : Int), x22 = w2 (val4 u - val4 v) → InR IntKind.u64 x22 → ∀ (x23 : Int), x23 = w3 (val4 u - val4 v) → InR IntKind.u64 x23 → ∀ (x24 : Int), x24 = ltI (val4 u) (val4 v) → InR IntKind.u64 x24 → Need (val4 x < (7237005577332262213973186563042994240857116359379907606001950938285454250989 : Int)) ∧ Need (val4 y < (7237005577332262213973186563042994240857116359379907606001950938285454250989 : Int)) ∧ ∀ (x25 : Int), x25 = w0 (sbL (val4 x) (val4 y)) → InR IntKind.u64 x25 → ∀ (x26 : Int), x26 = w1 (sbL (val4 x) (val4 y)) → InR IntKind.u64 x26 → ∀ (x27 : Int), x27 = w2 (sbL (val4 x) (val4 y)) → InR IntKind.u64 x27 → ∀ (x28 : Int), x28 = w3 (sbL (val4 x) (val4 y)) → InR IntKind.u64 x28 → Same Tryd.f44 (8 : Nat) (itemsOf Tryd.f44 (8 : Nat)) ∧ Q (8 : Nat) [Pv.l a, Pv.l r, Pv.l [x20, x21, x22, x23], Pv.l v, Pv.l [x25, x26, x27, x28], Pv.l y, Pv.l o])) := by
  intros
  kernel_rfl

/-- The numbers of the loops, at each head. -/
def good44 (Av : Int) (key : Nat) (u v : Nat) (x y : Int) : Prop :=
  (0 ≤ x ∧ x < ell) ∧ (0 ≤ y ∧ y < ell) ∧ (u : Int) < ell ∧ (v : Int) ≤ ell ∧ (Av * x - u) % ell = 0 ∧ (Av * y - v) % ell = 0 ∧ Nat.gcd u v = 1 ∧
    ((key = 8) ∨ (key = 9 ∧ 0 < u ∧ 0 < v) ∨ (key = 12 ∧ 0 < v ∧ u % 2 = 1))
def meas44 (key u v : Nat) : Nat := 3 * (u + v) + (if key = 8 then 2 else if key = 9 then 1 else 0)
def inv44 (Av : Int) (key : Nat) (ps : List Pv) (m : Nat) : Prop :=
  ∃ a r u v x y, ps = [.l a, .l r, .l (words4 (u : Nat)), .l (words4 (v : Nat)), .l (words4 x), .l (words4 y), .l (words4 1)] ∧ good44 Av key u v x y ∧ m = meas44 key u v

theorem val_nat {n : Int} (h0 : 0 ≤ n) (h : n < 115792089237316195423570985008687907853269984665640564039457584007913129639936) : val4 (words4 n) = n := by
  rw [val_words, Int.emod_eq_of_lt h0 h]
theorem words_eqb {m n : Int} (hm : 0 ≤ m ∧ m < 115792089237316195423570985008687907853269984665640564039457584007913129639936) (hn : 0 ≤ n ∧ n < 115792089237316195423570985008687907853269984665640564039457584007913129639936) : (words4 m == words4 n) = decide (m = n) := by
  rw [Bool.eq_iff_iff, beq_iff_eq, decide_eq_true_eq]
  constructor
  · intro h
    rw [← val_nat hm.1 hm.2, h, val_nat hn.1 hn.2]
  · rintro rfl; rfl
theorem getD0 (n : Int) : (words4 n).getD 0 0 = w0 n := rfl
theorem w0_in (n : Int) : InR .u64 (w0 n) := by unfold w0; simp only [InR]; omega
theorem low_bit {n x1 : Int} (e1 : x1 = andI .u64 ((words4 n).getD 0 0) 1) : x1 = n % 2 := by
  rw [getD0, and1 (w0_in n)] at e1
  rw [e1]; unfold w0; omega
theorem ans44 {Av x u : Int} (hx : 0 ≤ x ∧ x < ell) (h : (Av * x - u) % ell = 0) (hu : u = 1) : x = invL Av := by
  refine inv_one hx ?_
  subst hu
  have he := ell_lit
  generalize Av * x = z at h
  rw [he] at h ⊢
  omega
def resS (Av : Int) (z : SV) : Prop := eqV z (.arr .u64 4 true (words4 (invL Av)))

theorem head44 {Av : Int} {a r : List Int} {u v : Nat} {x y : Int} {K : SV → Prop} {Q : Nat → List Pv → Prop} (g : good44 Av 8 u v x y) (hK : ∀ z, eqV z (.arr .u64 4 true (words4 (invL Av))) → K z)
    (h : good44 Av 9 u v x y → Q 9 [.l a, .l r, .l (words4 u), .l (words4 v), .l (words4 x), .l (words4 y), .l (words4 1)]) : lc44a a r (words4 u) (words4 v) (words4 x) (words4 y) (words4 1) K Q := by
  rw [lc44a_eq]
  obtain ⟨hx, hy, hu, hv, cx, cy, hg, _⟩ := g
  have he := ell_lit
  have k1 := words_eqb (m := u) (n := 1) ⟨by omega, by omega⟩ ⟨by omega, by omega⟩
  have k2 := words_eqb (m := v) (n := 1) ⟨by omega, by omega⟩ ⟨by omega, by omega⟩
  rw [k1, k2]
  by_cases h1 : (u : Int) = 1
  · simp only [h1, decide_true]
    refine ⟨fun h => by simp at h, fun _ => ⟨fun _ => hK _ ?_, fun h => by simp at h⟩⟩
    rw [ans44 hx cx h1]; exact rfl
  · by_cases h2 : (v : Int) = 1
    · simp only [h1, h2, decide_true, decide_false]
      refine ⟨fun _ => ⟨fun h => by simp at h, fun _ => ⟨fun h => by simp at h, fun _ => hK _ ?_⟩⟩, fun h => by simp at h⟩
      rw [ans44 hy cy h2]; exact rfl
    · simp only [h1, h2, decide_false]
      refine ⟨fun _ => ⟨fun _ => ⟨rfl, h ⟨hx, hy, hu, hv, cx, cy, hg, .inr (.inl ⟨rfl, ?_, ?_⟩)⟩⟩, fun h => by simp at h⟩, fun h => by simp at h⟩
      · rcases Nat.eq_zero_or_pos u with h0 | h0
        · subst h0; rw [Nat.gcd_zero_left] at hg; omega
        · exact h0
      · rcases Nat.eq_zero_or_pos v with h0 | h0
        · subst h0; rw [Nat.gcd_zero_right] at hg; omega
        · exact h0

theorem nat_half (u : Nat) (h : (u : Int) % 2 = 0) : halfI (u : Int) = ((u / 2 : Nat) : Int) := by rw [half_even h]; omega

theorem u44 {Av : Int} {a r : List Int} {u v : Nat} {x y : Int} {K : SV → Prop} {Q : Nat → List Pv → Prop} (g : good44 Av 9 u v x y)
    (h : ∀ key u' x', good44 Av key u' v x' y → meas44 key u' v < meas44 9 u v → Q key [.l a, .l r, .l (words4 (u' : Nat)), .l (words4 v), .l (words4 x'), .l (words4 y), .l (words4 1)]) : lc44b a r (words4 u) (words4 v) (words4 x) (words4 y) (words4 1) K Q := by
  rw [lc44b_eq]
  obtain ⟨hx, hy, hu, hv, cx, cy, hg, hc⟩ := g
  have he := ell_lit
  have hu0 : 0 < u ∧ 0 < v := by rcases hc with hc | hc | hc <;> omega
  have vu : val4 (words4 u) = u := val_nat (by omega) (by omega)
  have vx : val4 (words4 x) = x := val_nat hx.1 (by omega)
  rw [vu, vx]
  intro x1 e1 r1
  have hb := low_bit e1
  refine ⟨fun h1 => ?_, fun h1 => ?_⟩
  · have h1 : x1 = 0 := by simpa using h1
    intro x2 e2 r2 x3 e3 r3 x4 e4 r4 x5 e5 r5 x6 e6 r6 x7 e7 r7 x8 e8 r8 x9 e9 r9
    refine ⟨rfl, ?_⟩
    rw [nat_half u (by omega)] at e2 e3 e4 e5
    have w1 : [x2, x3, x4, x5] = words4 ((u / 2 : Nat) : Int) := by rw [e2, e3, e4, e5]; rfl
    have w2 : [x6, x7, x8, x9] = words4 (halfI x) := by rw [e6, e7, e8, e9]; rfl
    rw [w1, w2]
    refine h 9 (u / 2) _ ⟨half_bd hx, hy, by omega, hv, ?_, cy, gcd_half hg (by omega), .inr (.inl ⟨rfl, by omega, hu0.2⟩)⟩ (by unfold meas44; simp; omega)
    have := half_cong cx (by omega)
    rwa [show ((u / 2 : Nat) : Int) = (u : Int) / 2 by omega]
  · have h1 : ¬ x1 = 0 := by simpa using h1
    exact ⟨rfl, h 12 u x ⟨hx, hy, hu, hv, cx, cy, hg, .inr (.inr ⟨rfl, hu0.2, by omega⟩)⟩ (by unfold meas44; simp)⟩

theorem v44 {Av : Int} {a r : List Int} {u v : Nat} {x y : Int} {K : SV → Prop} {Q : Nat → List Pv → Prop} (g : good44 Av 12 u v x y)
    (h : ∀ key u' v' x' y', good44 Av key u' v' x' y' → meas44 key u' v' < meas44 12 u v → Q key [.l a, .l r, .l (words4 (u' : Nat)), .l (words4 (v' : Nat)), .l (words4 x'), .l (words4 y'), .l (words4 1)]) : lc44c a r (words4 u) (words4 v) (words4 x) (words4 y) (words4 1) K Q := by
  rw [lc44c_eq, ← ell_lit]
  obtain ⟨hx, hy, hu, hv, cx, cy, hg, hc⟩ := g
  have he := ell_lit
  have hu0 : u % 2 = 1 ∧ 0 < v := by rcases hc with hc | hc | hc <;> omega
  have vu : val4 (words4 u) = u := val_nat (by omega) (by omega)
  have vv : val4 (words4 v) = v := val_nat (by omega) (by omega)
  have vx : val4 (words4 x) = x := val_nat hx.1 (by omega)
  have vy : val4 (words4 y) = y := val_nat hy.1 (by omega)
  rw [vu, vv, vx, vy]
  intro x1 e1 r1
  have hb := low_bit e1
  refine ⟨fun h1 => ?_, fun h1 => ?_⟩
  · have h1 : x1 = 0 := by simpa using h1
    intro x2 e2 r2 x3 e3 r3 x4 e4 r4 x5 e5 r5 x6 e6 r6 x7 e7 r7 x8 e8 r8 x9 e9 r9
    refine ⟨rfl, ?_⟩
    rw [nat_half v (by omega)] at e2 e3 e4 e5
    have w1 : [x2, x3, x4, x5] = words4 ((v / 2 : Nat) : Int) := by rw [e2, e3, e4, e5]; rfl
    have w2 : [x6, x7, x8, x9] = words4 (halfI y) := by rw [e6, e7, e8, e9]; rfl
    rw [w1, w2]
    refine h 12 u (v / 2) x _ ⟨hx, half_bd hy, hu, by omega, cx, ?_, gcd_half' hg (by omega), .inr (.inr ⟨rfl, by omega, hu0.1⟩)⟩ (by unfold meas44; simp; omega)
    have := half_cong cy (by omega)
    rwa [show ((v / 2 : Nat) : Int) = (v : Int) / 2 by omega]
  · have h1 : ¬ x1 = 0 := by simpa using h1
    intro x10 e10
    refine ⟨fun h2 => ?_, fun h2 => ?_⟩
    · have h2 : u < v := by rw [e10] at h2; have := of_decide_eq_true h2; omega
      intro x11 e11 r11 x12 e12 r12 x13 e13 r13 x14 e14 r14 x15 e15 r15
      refine ⟨hy.2, hx.2, fun x16 e16 r16 x17 e17 r17 x18 e18 r18 x19 e19 r19 => ⟨rfl, ?_⟩⟩
      have w1 : [x11, x12, x13, x14] = words4 ((v - u : Nat) : Int) := by
        rw [e11, e12, e13, e14, show ((v - u : Nat) : Int) = (v : Int) - u by omega]; rfl
      have w2 : [x16, x17, x18, x19] = words4 (sbL y x) := by rw [e16, e17, e18, e19]; rfl
      rw [w1, w2]
      refine h 8 u (v - u) x _ ⟨hx, sub_bd _ _, hu, by omega, cx, ?_, ?_, .inl rfl⟩ (by unfold meas44; simp; omega)
      · rw [show ((v - u : Nat) : Int) = (v : Int) - u by omega]; exact sub_cong cy cx
      · rw [Nat.gcd_sub_self_right (by omega)]; exact hg
    · have h2 : v ≤ u := by rw [e10] at h2; have := of_decide_eq_false h2; omega
      intro x20 e20 r20 x21 e21 r21 x22 e22 r22 x23 e23 r23 x24 e24 r24
      refine ⟨hx.2, hy.2, fun x25 e25 r25 x26 e26 r26 x27 e27 r27 x28 e28 r28 => ⟨rfl, ?_⟩⟩
      have w1 : [x20, x21, x22, x23] = words4 ((u - v : Nat) : Int) := by
        rw [e20, e21, e22, e23, show ((u - v : Nat) : Int) = (u : Int) - v by omega]; rfl
      have w2 : [x25, x26, x27, x28] = words4 (sbL x y) := by rw [e25, e26, e27, e28]; rfl
      rw [w1, w2]
      refine h 8 (u - v) v _ y ⟨sub_bd _ _, hy, by omega, hv, ?_, cy, ?_, .inl rfl⟩ (by unfold meas44; simp; omega)
      · rw [show ((u - v : Nat) : Int) = (u : Int) - v by omega]; exact sub_cong cx cy
      · rw [Nat.gcd_sub_self_left (by omega)]; exact hg

def rinvertS : List SV → Option (List Prop × SV)
  | [.arr .u64 4 _ aL] => some ([val4 aL < ell], .arr .u64 4 true (words4 (invL (val4 aL))))
  | _ => none

theorem rinvert_ok : CallOk Tryd.prog gh 44 (pureCtr rinvertS) := by
  refine call_pure (fn := Tryd.f44) Γ12_ok rfl (by kernel_rfl) (by kernel_rfl) (by kernel_rfl) rinvertS fun args P0 Y0 hs hp hf => ?_
  unfold rinvertS at hs
  split at hs
  · rename_i ea aL
    simp only [Option.some.injEq, Prod.mk.injEq] at hs
    obtain ⟨rfl, rfl⟩ := hs
    simp only [FactVs, FactV] at hf
    obtain ⟨⟨hal, ha⟩, _⟩ := hf
    obtain ⟨hpa, _⟩ := hp
    obtain ⟨a0, a1, a2, a3, rfl⟩ := len4 hal
    have ia0 := ha a0 (by simp); have ia1 := ha a1 (by simp); have ia2 := ha a2 (by simp); have ia3 := ha a3 (by simp)
    refine ⟨[.arr .u64 4 true [a0, a1, a2, a3]], L44, inv44 (val4 [a0, a1, a2, a3]), ⟨rfl, trivial⟩, Nat.le_of_ble_eq_true (by kernel_rfl), ?_, ?_, ?_⟩
    · intro k t ht g hg
      simp only [L44, List.mem_cons, List.not_mem_nil, or_false, Prod.mk.injEq] at ht
      have hg : g ∈ keysOf gh := hg
      simp only [gh, keysOf, List.mem_singleton] at hg
      subst hg
      rcases ht with ⟨rfl, rfl⟩ | ⟨rfl, rfl⟩ | ⟨rfl, rfl⟩ <;> exact ⟨by omega, rfl⟩
    · rintro key ps m ⟨a, r, u, v, x, y, rfl, g, rfl⟩
      rcases g.2.2.2.2.2.2.2 with hk | ⟨hk, _⟩ | ⟨hk, _⟩ <;> subst hk
      · show lc44a a r (words4 u) (words4 v) (words4 x) (words4 y) (words4 1) _ _
        exact head44 g (fun z hz => hz) fun g' => ⟨meas44 9 u v, by unfold meas44; simp, _, _, u, v, x, y, rfl, g', rfl⟩
      · show lc44b a r (words4 u) (words4 v) (words4 x) (words4 y) (words4 1) _ _
        exact u44 g fun key u' x' g' hm => ⟨meas44 key u' v, hm, _, _, u', v, x', y, rfl, g', rfl⟩
      · show lc44c a r (words4 u) (words4 v) (words4 x) (words4 y) (words4 1) _ _
        exact v44 g fun key u' v' x' y' g' hm => ⟨meas44 key u' v', hm, _, _, u', v', x', y', rfl, g', rfl⟩
    · show vc44 a0 a1 a2 a3 _ _
      rw [vc44_eq]
      have pA := val_pos ia0 ia1 ia2 ia3
      have hz : ([a0, a1, a2, a3] == [0, 0, 0, 0]) = true ↔ val4 [a0, a1, a2, a3] = 0 := by
        simp only [InR] at ia0 ia1 ia2 ia3
        rw [beq_iff_eq]
        simp only [List.cons.injEq, and_true, val4]
        omega
      intro x1 e1
      refine ⟨fun h => ?_, fun h => ?_⟩
      · have h0 := hz.1 (by rw [← e1]; exact h)
        refine arr_eq ia0 ia1 ia2 ia3 ?_
        rw [h0, pow_zero_mod (by decide)]
      · have h0 : ¬ val4 [a0, a1, a2, a3] = 0 := fun e => by rw [e1, hz.2 e] at h; cases h
        intro x2 e2 r2 x3 e3 r3 x4 e4 r4 x5 e5 r5 x6 e6 r6 x7 e7 r7 x8 e8 r8 x9 e9 r9 x10 e10 r10 x11 e11 r11 x12 e12 r12 x13 e13 r13
        obtain ⟨n, hn⟩ := Int.eq_ofNat_of_zero_le pA.1
        refine ⟨rfl, meas44 8 n 7237005577332262213973186563042994240857116359379907606001950938285454250989, [a0, a1, a2, a3], [0, 0, 0, 0], n, 7237005577332262213973186563042994240857116359379907606001950938285454250989, 1, 0, ?_, ?_, rfl⟩
        · rw [← hn]
          rw [words_val ia0 ia1 ia2 ia3, e2, e3, e4, e5, e6, e7, e8, e9, e10, e11, e12, e13]; rfl
        · have he := ell_lit
          refine ⟨⟨by omega, by omega⟩, ⟨by omega, by omega⟩, by omega, by omega, ?_, ?_, ?_, .inl rfl⟩
          · rw [Int.mul_one, hn, Int.sub_self]; rfl
          · rw [Int.mul_zero]; decide
          · exact Nt.Pr.cop Nt.prL fun hd => by have := Nat.le_of_dvd (by omega) hd; omega
  · cases hs

def Γ14 : Tab := ⟨tys, [(41, pureCtr powS), (43, pureCtr invS), (42, pureCtr rpowS), (44, pureCtr rinvertS)] ++ Γ13.ctr, [0], gh⟩
theorem Γ14_ok : TabOk Tryd.prog Γ14 := (((Γ13_ok.cons rinvert_ok).cons rpow_ok).cons inv_ok).cons pow_ok
end Go.Gx
