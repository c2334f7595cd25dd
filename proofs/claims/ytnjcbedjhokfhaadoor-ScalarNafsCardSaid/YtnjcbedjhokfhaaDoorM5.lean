/- Part 5 of the proof: the evaluator of the code, its soundness, and what it shows of the functions. -/
import Derived.Test.YtnjcbedjhokfhaaDoorM4

/- The table of the program, and its cells in a row's world; what all rows of this seat ask. -/
namespace Go.Gx
open Go.Proofs Go.Sp Go.Proofs.YtnjcbedjhokfhaaDoor
open Go.ChangeShapes Go.WideShapes Go.ChangeAt Go.RowKit
set_option linter.unusedVariables false

theorem gTab : Tryd.prog.globalNamed "veil/scalar.table" = some 0 := by kernel_rfl
theorem gTabType : (Tryd.prog.globals[0]?).map (·.type) = some 100 := by kernel_rfl
theorem und (t : Nat) (u) (h : Tryd.prog.underlying t = u) : Tryd.prog.underlying t = u := h

def tabRows : List (List Int) := [[6346243789798364141, 1503914060200516822, 0, 1152921504606846976], [15486807595281847581, 14334777244411350896, 18446744073709551614, 1152921504606846975], [11819153939886771969, 14991950615390032711, 14910419812499177061, 259310039853996605], [6346243789798364139, 1503914060200516822, 0, 1152921504606846976]]

theorem tab_glob {W : World} (h : laidMetH Tryd.prog [("veil/scalar.table", Rows.laid_veil_scalar_table)] W) : Glob gh W fun _ => False := by
  have h' : laidMet Tryd.prog (("veil/scalar.table", .agg (tabRows.map (Lib.tabData .u64))) :: []) W := h
  obtain ⟨h1, h2⟩ := tab2_of_head (m := 4) (n := 4) gTab gTabType (e1 := 25) (e := 22) (by kernel_rfl) (by kernel_rfl) (by kernel_rfl) (by kernel_rfl) (by kernel_rfl) (by kernel_rfl) h'
  intro g b hb
  simp only [gh, List.mem_singleton, Prod.mk.injEq] at hb
  obtain ⟨rfl, rfl⟩ := hb
  refine ⟨_, _, rfl, ?_, h1, fun x => x, h2⟩
  have ok : ∀ r ∈ tabRows, r.length = 4 ∧ AllR .u64 r := by
    intro r hr
    simp only [tabRows, List.mem_cons, List.not_mem_nil, or_false] at hr
    rcases hr with rfl | rfl | rfl | rfl <;> refine ⟨rfl, fun z hz => ?_⟩ <;> simp only [List.mem_cons, List.not_mem_nil, or_false] at hz <;> rcases hz with rfl | rfl | rfl | rfl <;> exact ⟨by decide, by decide⟩
  have o0 := ok _ (List.mem_of_getElem? (show tabRows[0]? = some _ from rfl))
  have o1 := ok _ (List.mem_of_getElem? (show tabRows[1]? = some _ from rfl))
  have o2 := ok _ (List.mem_of_getElem? (show tabRows[2]? = some _ from rfl))
  have o3 := ok _ (List.mem_of_getElem? (show tabRows[3]? = some _ from rfl))
  exact ⟨_, _, ⟨o0.1, o0.2, rfl⟩, rfl, _, _, ⟨o1.1, o1.2, rfl⟩, rfl, _, _, ⟨o2.1, o2.2, rfl⟩, rfl, _, _, ⟨o3.1, o3.2, rfl⟩, rfl, rfl⟩

/-- A world for the witness: the settled one, the table laid. -/
noncomputable def laidWorld (os : Os) : World :=
  { World.holding Tryd.prog os ⟨#[], #[], []⟩ with heap := (World.holding Tryd.prog os ⟨#[], #[], []⟩).heap.modify 0 fun
      | .cells _ t frozen => .cells #[.int .u64 6346243789798364141, .int .u64 1503914060200516822, .int .u64 0, .int .u64 1152921504606846976, .int .u64 15486807595281847581, .int .u64 14334777244411350896, .int .u64 18446744073709551614, .int .u64 1152921504606846975, .int .u64 11819153939886771969, .int .u64 14991950615390032711, .int .u64 14910419812499177061, .int .u64 259310039853996605, .int .u64 6346243789798364139, .int .u64 1503914060200516822, .int .u64 0, .int .u64 1152921504606846976] t frozen
      | o => o }

theorem own : ownKnob Tryd.prog.godebug = none := by kernel_rfl
theorem laidOut : laidOutB Tryd.prog = true := by kernel_rfl

end Go.Gx

/- Numbers: primes, what a power leaves, a proof that the order is a prime. No program in sight. -/
namespace Go.Nt

def Pr (p : Nat) : Prop := 2 ≤ p ∧ ∀ d, d ∣ p → d = 1 ∨ d = p

theorem Pr.cop {p a : Nat} (h : Pr p) (ha : ¬ p ∣ a) : Nat.gcd a p = 1 := by
  rcases h.2 (Nat.gcd a p) (Nat.gcd_dvd_right a p) with e | e
  · exact e
  · exact absurd (e ▸ Nat.gcd_dvd_left a p) ha

theorem perm_of : ∀ (l1 l2 : List Nat), l1.Nodup → (∀ x ∈ l1, x ∈ l2) → l2.length ≤ l1.length → l1.Perm l2
  | [], l2, _, _, hl => by
    have : l2 = [] := List.length_eq_zero_iff.1 (by simpa using hl)
    rw [this]
  | a :: l1, l2, hn, hs, hl => by
    have ha : a ∈ l2 := hs a (by simp)
    have hp := List.perm_cons_erase ha
    rw [List.nodup_cons] at hn
    have h1 : l1.Perm (l2.erase a) := perm_of l1 (l2.erase a) hn.2 (fun x hx => (List.mem_erase_of_ne (fun e => hn.1 (by rw [← e]; exact hx))).2 (hs x (by simp [hx]))) (by
      rw [List.length_erase_of_mem ha]; simp at hl; omega)
    exact (h1.cons a).trans hp.symm

def prod : List Nat → Nat
  | [] => 1
  | a :: l => a * prod l

theorem prod_perm {l1 l2 : List Nat} (h : l1.Perm l2) : prod l1 = prod l2 := by
  induction h with
  | nil => rfl
  | cons x _ ih => simp [prod, ih]
  | swap x y l => simp [prod, Nat.mul_left_comm]
  | trans _ _ a b => rw [a, b]

theorem prod_map (a p : Nat) : ∀ l : List Nat, prod (l.map fun i => a * i % p) % p = a ^ l.length * prod l % p
  | [] => by simp [prod]
  | i :: l => by
    have ih := prod_map a p l
    simp only [List.map_cons, prod, List.length_cons]
    rw [Nat.mul_mod, ih, Nat.mod_mod, ← Nat.mul_mod]
    congr 1
    rw [Nat.pow_succ]; simp only [Nat.mul_assoc, Nat.mul_left_comm, Nat.mul_comm]

theorem cop_prod {p : Nat} (h : Pr p) : ∀ l : List Nat, (∀ x ∈ l, ¬ p ∣ x) → Nat.gcd (prod l) p = 1
  | [], _ => by simp [prod]
  | a :: l, hl => by
    simp only [prod]
    exact Nat.Coprime.mul_left (h.cop (hl a (by simp))) (cop_prod h l fun x hx => hl x (by simp [hx]))

theorem cancel_mod {a b c p : Nat} (hc : Nat.gcd c p = 1) (h : a * c % p = b * c % p) : a % p = b % p := by
  rcases Nat.le_total b a with hab | hab
  · have h2 : p ∣ (a - b) * c := by
      rw [Nat.sub_mul]
      exact Nat.dvd_of_mod_eq_zero (Nat.sub_mod_eq_zero_of_mod_eq h)
    have h3 : p ∣ a - b := Nat.Coprime.dvd_of_dvd_mul_right (Nat.Coprime.symm hc) h2
    obtain ⟨k, hk⟩ := h3
    have : a = b + p * k := by omega
    rw [this, Nat.add_mul_mod_self_left]
  · have h2 : p ∣ (b - a) * c := by
      rw [Nat.sub_mul]
      exact Nat.dvd_of_mod_eq_zero (Nat.sub_mod_eq_zero_of_mod_eq h.symm)
    have h3 : p ∣ b - a := Nat.Coprime.dvd_of_dvd_mul_right (Nat.Coprime.symm hc) h2
    obtain ⟨k, hk⟩ := h3
    have : b = a + p * k := by omega
    rw [this, Nat.add_mul_mod_self_left]

theorem Pr.dvd_mul {p a b : Nat} (h : Pr p) (hd : p ∣ a * b) : p ∣ a ∨ p ∣ b := by
  by_cases ha : p ∣ a
  · exact .inl ha
  · exact .inr (Nat.Coprime.dvd_of_dvd_mul_left (Nat.Coprime.symm (h.cop ha)) hd)

/-- A power to the order is one. -/
theorem fermat {p a : Nat} (h : Pr p) (ha : ¬ p ∣ a) : a ^ (p - 1) % p = 1 := by
  have hp := h.1
  let l := List.range' 1 (p - 1)
  have hl : ∀ x ∈ l, ¬ p ∣ x := fun x hx hd => by
    simp only [l, List.mem_range'_1] at hx
    have := Nat.le_of_dvd (by omega) hd
    omega
  have hper : (l.map fun i => a * i % p).Perm l := by
    apply perm_of
    · unfold List.Nodup
      rw [List.pairwise_map]
      have hnd : l.Nodup := List.nodup_range'
      refine List.Pairwise.imp_of_mem (fun {x y} hx hy hxy he => hxy ?_) hnd
      have e : x % p = y % p := by
        apply cancel_mod (h.cop ha)
        rw [Nat.mul_comm x, Nat.mul_comm y]; exact he
      simp only [l, List.mem_range'_1] at hx hy
      rwa [Nat.mod_eq_of_lt (by omega), Nat.mod_eq_of_lt (by omega)] at e
    · intro x hx
      obtain ⟨i, hi, rfl⟩ := List.mem_map.1 hx
      have h0 : a * i % p ≠ 0 := fun e => by
        rcases h.dvd_mul (Nat.dvd_of_mod_eq_zero e) with e | e
        · exact ha e
        · exact hl i hi e
      have h1 := Nat.mod_lt (a * i) (show 0 < p by omega)
      simp only [l, List.mem_range'_1]
      omega
    · simp
  have e1 := prod_map a p l
  rw [prod_perm hper] at e1
  have e2 : a ^ (p - 1) * prod l % p = 1 * prod l % p := by
    rw [Nat.one_mul, e1]
    congr 2
    simp [l]
  have := cancel_mod (cop_prod h l hl) e2
  rw [this]
  exact Nat.mod_eq_of_lt (by omega)

theorem pow_gcd {q c : Nat} (hq : 1 < q) : ∀ m n : Nat, c ^ m % q = 1 → c ^ n % q = 1 → c ^ Nat.gcd m n % q = 1 := by
  intro m
  induction m using Nat.strongRecOn with
  | ind m ih =>
    intro n hm hn
    by_cases h0 : m = 0
    · subst h0; simpa using hn
    · rw [Nat.gcd_rec]
      refine ih (n % m) (Nat.mod_lt _ (by omega)) m ?_ hm
      have e : c ^ n = (c ^ m) ^ (n / m) * c ^ (n % m) := by
        rw [← Nat.pow_mul, ← Nat.pow_add, Nat.div_add_mod]
      rw [e, Nat.mul_mod, Nat.pow_mod, hm, Nat.one_pow, Nat.mod_eq_of_lt hq, Nat.one_mul, Nat.mod_mod] at hn
      exact hn

/-- Power by squarings, modulo n: for the kernel. -/
def pm (n : Nat) : Nat → Nat → Nat → Nat
  | 0, _, _ => 1 % n
  | k + 1, a, e => if e % 2 = 1 then a * pm n k (a * a % n) (e / 2) % n else pm n k (a * a % n) (e / 2)

theorem pm_eq (n : Nat) : ∀ k a e, e < 2 ^ k → pm n k a e = a ^ e % n
  | 0, a, e, h => by
    have : e = 0 := by simpa using h
    subst this; rfl
  | k + 1, a, e, h => by
    have ih := pm_eq n k (a * a % n) (e / 2) (by rw [Nat.pow_succ] at h; omega)
    have e2 : (a * a % n) ^ (e / 2) % n = (a ^ 2) ^ (e / 2) % n := by rw [← Nat.pow_mod, Nat.pow_two]
    rw [← Nat.pow_mul] at e2
    unfold pm
    rw [ih, e2]
    split
    · rename_i ho
      rw [Nat.mul_mod, Nat.mod_mod, ← Nat.mul_mod, ← Nat.pow_succ']
      congr 2; omega
    · congr 2; omega

/-- Any number from two on has a prime divisor. -/
theorem exists_pr : ∀ n : Nat, 2 ≤ n → ∃ q, Pr q ∧ q ∣ n := by
  intro n
  induction n using Nat.strongRecOn with
  | ind n ih =>
    intro hn
    by_cases hp : Pr n
    · exact ⟨n, hp, Nat.dvd_refl n⟩
    · have : ∃ d, d ∣ n ∧ d ≠ 1 ∧ d ≠ n := by
        refine Classical.byContradiction fun hc => hp ⟨hn, fun d hd => ?_⟩
        refine Classical.byContradiction fun h2 => hc ⟨d, hd, fun e => h2 (.inl e), fun e => h2 (.inr e)⟩
      obtain ⟨d, hd, h1, h2⟩ := this
      have hle := Nat.le_of_dvd (by omega) hd
      have h0 : d ≠ 0 := fun e => by subst e; have := Nat.eq_zero_of_zero_dvd hd; omega
      obtain ⟨q, hq, hqd⟩ := ih d (by omega) (by omega)
      exact ⟨q, hq, Nat.dvd_trans hqd hd⟩

theorem pr_of_big {n : Nat} (hn : 2 ≤ n) (h : ∀ q, Pr q → q ∣ n → n < q * q) : Pr n := by
  refine ⟨hn, fun d hd => ?_⟩
  refine Classical.byContradiction fun hc => ?_
  have h1 : d ≠ 1 := fun e => hc (.inl e)
  have h2 : d ≠ n := fun e => hc (.inr e)
  obtain ⟨k, hk⟩ := hd
  have hd0 : d ≠ 0 := fun e => by subst e; omega
  have hk1 : k ≠ 1 := fun e => by subst e; omega
  have hk0 : k ≠ 0 := fun e => by subst e; omega
  obtain ⟨q, hq, hqd⟩ := exists_pr d (by omega)
  obtain ⟨r, hr, hrd⟩ := exists_pr k (by omega)
  have a1 := h q hq (Nat.dvd_trans hqd ⟨k, hk⟩)
  have a2 := h r hr (Nat.dvd_trans hrd ⟨d, by rw [hk, Nat.mul_comm]⟩)
  have b1 := Nat.le_of_dvd (by omega) hqd
  have b2 := Nat.le_of_dvd (by omega) hrd
  have c1 : q * r ≤ n := by rw [hk]; exact Nat.mul_le_mul b1 b2
  rcases Nat.le_total q r with hqr | hqr
  · have := Nat.mul_le_mul_left q hqr; omega
  · have := Nat.mul_le_mul_right r hqr; omega

/-- What a prime factor p of n - 1 says of n's prime divisors (b: a power that is told by its root). -/
theorem step {n p a : Nat} (hp : Pr p) (hd : p * ((n - 1) / p) = n - 1) (hn : 2 ≤ n) (h1 : a ^ (n - 1) % n = 1) (h2 : Nat.gcd (a ^ ((n - 1) / p) % n + (n - 1)) n = 1) {q : Nat} (hq : Pr q) (hqn : q ∣ n) : q % p = 1 := by
  have hq2 := hq.1
  have hmod : ∀ x, x % n % q = x % q := fun x => Nat.mod_mod_of_dvd x hqn
  have hc1 : (a ^ ((n - 1) / p)) ^ p % q = 1 := by
    rw [← Nat.pow_mul, Nat.mul_comm, hd, ← hmod, h1]; exact Nat.mod_eq_of_lt (by omega)
  have hnc : (a ^ ((n - 1) / p)) % q ≠ 1 := fun e => by
    have : q ∣ a ^ ((n - 1) / p) % n + (n - 1) := by
      apply Nat.dvd_of_mod_eq_zero
      rw [Nat.add_mod, hmod, e]
      obtain ⟨k, hk⟩ := hqn
      have hk0 : k ≠ 0 := fun e => by subst e; omega
      obtain ⟨j, rfl⟩ : ∃ j, k = j + 1 := ⟨k - 1, by omega⟩
      have e3 : n - 1 = q * j + (q - 1) := by rw [hk, Nat.mul_succ]; omega
      rw [e3, Nat.mul_add_mod, Nat.mod_eq_of_lt (show q - 1 < q by omega)]
      rw [show 1 + (q - 1) = q by omega, Nat.mod_self]
    have h4 := Nat.dvd_gcd this hqn
    rw [h2] at h4
    have := Nat.le_of_dvd (by omega) h4
    omega
  have hqa : ¬ q ∣ a ^ ((n - 1) / p) := fun e => by
    obtain ⟨k, hk⟩ := e
    have hp2 := hp.1
    have : (a ^ ((n - 1) / p)) ^ p % q = 0 := by
      rw [Nat.pow_mod, hk, Nat.mul_mod_right, Nat.zero_pow (by omega), Nat.zero_mod]
    omega
  have hf := fermat hq hqa
  have hg := pow_gcd (by omega) _ _ hc1 hf
  rcases hp.2 (Nat.gcd p (q - 1)) (Nat.gcd_dvd_left _ _) with e | e
  · rw [e, Nat.pow_one] at hg; exact absurd hg hnc
  · have : p ∣ q - 1 := e ▸ Nat.gcd_dvd_right p (q - 1)
    obtain ⟨k, hk⟩ := this
    have : q = 1 + p * k := by omega
    rw [this, Nat.add_mul_mod_self_left]
    exact Nat.mod_eq_of_lt hp.1

theorem big_of {p q n : Nat} (hq : Pr q) (h : q % p = 1) (hn : n < (p + 1) * (p + 1)) : n < q * q := by
  have : p + 1 ≤ q := by
    have := Nat.div_add_mod q p
    have h2 := hq.1
    rcases Nat.eq_zero_or_pos (q / p) with e | e
    · rw [e, Nat.mul_zero] at this; omega
    · have := Nat.le_mul_of_pos_right p e; omega
  exact Nat.lt_of_lt_of_le hn (Nat.mul_le_mul this this)

/-- One link: n is a prime, as p is (the checks are for the kernel). -/
theorem link {n p a k : Nat} (hp : Pr p) (hc : (p * ((n - 1) / p) == n - 1 && Nat.ble 2 n && Nat.blt n ((p + 1) * (p + 1)) && Nat.blt n (2 ^ k) && pm n k a (n - 1) == 1 && Nat.gcd (pm n k a ((n - 1) / p) + (n - 1)) n == 1) = true) : Pr n := by
  simp only [Bool.and_eq_true, beq_iff_eq] at hc
  obtain ⟨⟨⟨⟨⟨h1, h2⟩, h3⟩, h4⟩, h5⟩, h6⟩ := hc
  replace h2 := Nat.le_of_ble_eq_true h2
  simp only [Nat.blt_eq] at h3 h4
  have hlt : n - 1 < 2 ^ k := by omega
  rw [pm_eq n k a _ hlt] at h5
  rw [pm_eq n k a _ (Nat.lt_of_le_of_lt (Nat.div_le_self _ _) hlt)] at h6
  exact pr_of_big h2 fun q hq hd => big_of hq (step hp h1 h2 h5 h6 hq hd) h3

/-- Two primes together. -/
theorem link2 {n p r a b k : Nat} (hp : Pr p) (hr : Pr r) (hc : (p * ((n - 1) / p) == n - 1 && r * ((n - 1) / r) == n - 1 && Nat.ble 2 n && Nat.blt n ((p * r) * (p * r)) && Nat.blt n (2 ^ k) && pm n k a (n - 1) == 1 && Nat.gcd (pm n k a ((n - 1) / p) + (n - 1)) n == 1 && pm n k b (n - 1) == 1 && Nat.gcd (pm n k b ((n - 1) / r) + (n - 1)) n == 1 && Nat.gcd p r == 1) = true) : Pr n := by
  simp only [Bool.and_eq_true, beq_iff_eq] at hc
  obtain ⟨⟨⟨⟨⟨⟨⟨⟨⟨h1, h1'⟩, h2⟩, h3⟩, h4⟩, h5⟩, h6⟩, h7⟩, h8⟩, h9⟩ := hc
  replace h2 := Nat.le_of_ble_eq_true h2
  simp only [Nat.blt_eq] at h3 h4
  have hlt : n - 1 < 2 ^ k := by omega
  have hle : ∀ x, (n - 1) / x < 2 ^ k := fun x => Nat.lt_of_le_of_lt (Nat.div_le_self _ _) hlt
  rw [pm_eq n k _ _ hlt] at h5 h7
  rw [pm_eq n k _ _ (hle _)] at h6 h8
  refine pr_of_big h2 fun q hq hd => ?_
  have a1 := step hp h1 h2 h5 h6 hq hd
  have a2 := step hr h1' h2 h7 h8 hq hd
  have d1 : p ∣ q - 1 := by
    have := Nat.div_add_mod q p
    exact ⟨q / p, by omega⟩
  have d2 : r ∣ q - 1 := by
    have := Nat.div_add_mod q r
    exact ⟨q / r, by omega⟩
  have d3 : p * r ∣ q - 1 := Nat.Coprime.mul_dvd_of_dvd_of_dvd h9 d1 d2
  have hq2 := hq.1
  have := Nat.le_of_dvd (by omega) d3
  exact Nat.lt_of_lt_of_le h3 (Nat.mul_le_mul (by omega) (by omega))

/-- A small prime, by trial. -/
theorem small {n m : Nat} (hc : (Nat.ble 2 n && Nat.blt n (m * m) && (List.range m).all fun d => Nat.ble d 1 || n % d != 0 || d == n) = true) : Pr n := by
  simp only [Bool.and_eq_true] at hc
  obtain ⟨⟨h1, h2⟩, h3⟩ := hc
  replace h1 := Nat.le_of_ble_eq_true h1
  simp only [Nat.blt_eq] at h2
  rw [List.all_eq_true] at h3
  refine ⟨h1, fun d hd => Classical.byContradiction fun hc => ?_⟩
  have e1 : d ≠ 1 := fun e => hc (.inl e)
  have e2 : d ≠ n := fun e => hc (.inr e)
  obtain ⟨k, hk⟩ := hd
  have hd0 : d ≠ 0 := fun e => by subst e; omega
  have hk1 : k ≠ 1 := fun e => by subst e; omega
  have hk0 : k ≠ 0 := fun e => by subst e; omega
  have hkn : k ≠ n := fun e => by
    have : d * k = 1 * k := by omega
    exact e1 (Nat.eq_of_mul_eq_mul_right (by omega) this)
  have key : ∀ x, x ∣ n → x ≠ 0 → x ≠ 1 → x ≠ n → m ≤ x := fun x hx x0 x1 xn => Nat.le_of_not_lt fun hlt => by
    have := h3 x (List.mem_range.2 hlt)
    simp only [Bool.or_eq_true, bne_iff_ne, beq_iff_eq] at this
    rcases this with (t | t) | t
    · have := Nat.le_of_ble_eq_true t; omega
    · exact t (Nat.mod_eq_zero_of_dvd hx)
    · exact xn t
  have k1 := key d ⟨k, hk⟩ hd0 e1 e2
  have k2 := key k ⟨d, by rw [hk, Nat.mul_comm]⟩ hk0 hk1 hkn
  have := Nat.mul_le_mul k1 k2
  omega

theorem pr1 : Pr 531581 := small (m := 730) (by decide +kernel)
theorem pr2 : Pr 1224481 := small (m := 1107) (by decide +kernel)
theorem pr3 : Pr 1257559732178653 := link2 (a := 2) (b := 2) (k := 51) pr1 pr2 (by decide +kernel)
theorem pr4 : Pr 4434155615661930479 := link (a := 2) (k := 62) pr3 (by decide +kernel)
theorem pr5 : Pr 172054593956031949258510691 := link (a := 2) (k := 88) pr4 (by decide +kernel)
theorem pr6 : Pr 19757330305831588566944191468367130476339 := link (a := 2) (k := 134) pr5 (by decide +kernel)
theorem pr7 : Pr 276602624281642239937218680557139826668747 := link (a := 2) (k := 138) pr6 (by decide +kernel)
/-- The order is a prime. -/
theorem prL : Pr 7237005577332262213973186563042994240857116359379907606001950938285454250989 := link (a := 2) (k := 253) pr7 (by decide +kernel)
end Go.Nt

/- Numbers modulo the order. -/
namespace Go.Gx
open Go.Proofs Go.Sp
set_option linter.unusedVariables false

/-- 1 / 2^256 modulo the order. -/
def _root_.Go.Sp.rinv : Int := 4458503529701987551646482192314240623644693141688353256590997718326214331684
open Go.Sp (rinv)
/-- a b / 2^256 modulo the order. -/
def _root_.Go.Sp.prI (a b : Int) : Int := a * b * rinv % ell
def _root_.Go.Sp.mlL (a b : Int) : Int := a * b % ell
def _root_.Go.Sp.adL (a b : Int) : Int := (a + b) % ell
def _root_.Go.Sp.sbL (a b : Int) : Int := (a - b) % ell
def _root_.Go.Sp.pwL (a e : Int) : Int := a ^ e.toNat % ell
open Go.Sp (prI mlL adL sbL pwL)

theorem ell_pos : (0 : Int) < ell := by decide
theorem rr : (115792089237316195423570985008687907853269984665640564039457584007913129639936 * rinv) % ell = 1 := by decide

theorem bd (x : Int) : 0 ≤ x % ell ∧ x % ell < ell := ⟨Int.emod_nonneg _ (by decide), Int.emod_lt_of_pos _ ell_pos⟩

theorem pr_of {a b t k : Int} (h : 115792089237316195423570985008687907853269984665640564039457584007913129639936 * t = a * b + k * ell) : t % ell = prI a b := by
  unfold prI
  have h1 : a * b * rinv = t * (115792089237316195423570985008687907853269984665640564039457584007913129639936 * rinv) - k * rinv * ell := by
    have : a * b = 115792089237316195423570985008687907853269984665640564039457584007913129639936 * t - k * ell := by omega
    rw [this, Int.sub_mul, Int.mul_assoc k, Int.mul_comm ell, ← Int.mul_assoc k]
    congr 1
    rw [Int.mul_comm _ t, Int.mul_assoc]
  rw [h1, Int.sub_mul_emod_self_right, Int.mul_emod, rr, Int.mul_one, Int.emod_emod_of_dvd _ (Int.dvd_refl _)]

theorem mm (a b : Int) : (a % ell) * b % ell = a * b % ell := by rw [Int.mul_emod, Int.emod_emod, ← Int.mul_emod]
theorem mm2 (a b : Int) : a * (b % ell) % ell = a * b % ell := by rw [Int.mul_emod, Int.emod_emod, ← Int.mul_emod]
theorem mm3 (u v w : Int) : (u % ell) * (v % ell) * w % ell = u * v * w % ell := by rw [Int.mul_emod, ← Int.mul_emod u v, ← Int.mul_emod]
theorem one_r {x c : Int} (hc : c % ell = 1) : x * c % ell = x % ell := by rw [Int.mul_emod, hc, Int.mul_one, Int.emod_emod]

/-- 2^256 and 2^512 modulo the order: the table's. -/
def r1 : Int := 7237005577332262213973186563042994240413239274941949949428319933631315875101
def r2 : Int := 1627715501170711445284395025044413883736156588369414752970002579683115011841
theorem r1_val : val4 [15486807595281847581, 14334777244411350896, 18446744073709551614, 1152921504606846975] = r1 := by decide
theorem r2_val : val4 [11819153939886771969, 14991950615390032711, 14910419812499177061, 259310039853996605] = r2 := by decide
theorem r1_one : (r1 * rinv) % ell = 1 := by decide
theorem r2_one : (r2 * rinv) % ell = r1 := by decide
theorem r2_two : (rinv * r2 * rinv) % ell = 1 := by decide

theorem mul_mont (a b : Int) : prI (prI a b) r2 = mlL a b := by
  unfold prI mlL
  rw [Int.mul_assoc (a * b * rinv % ell), mm, show a * b * rinv * (r2 * rinv) = a * b * (rinv * r2 * rinv) by ac_rfl, one_r r2_two]

theorem to_mont (a : Int) : prI a r2 = a * r1 % ell := by
  unfold prI
  rw [Int.mul_assoc, ← mm2, r2_one]
theorem mont_mul (x y : Int) : prI (x * r1 % ell) (y * r1 % ell) = x * y * r1 % ell := by
  unfold prI
  rw [mm3, show x * r1 * (y * r1) * rinv = x * y * r1 * (r1 * rinv) by ac_rfl, one_r r1_one]
theorem from_mont (x : Int) : prI (x * r1 % ell) 1 = x % ell := by
  unfold prI
  rw [Int.mul_one, mm, Int.mul_assoc, one_r r1_one]

/-- A sum's word and what is carried. -/
theorem split_w {s lo hi : Int} (h1 : lo = s % 18446744073709551616) (h2 : hi = s / 18446744073709551616) : s = lo + 18446744073709551616 * hi ∧ 0 ≤ lo ∧ lo < 18446744073709551616 := by omega

/-- One round of the product. -/
theorem round_law {p0 p1 p2 p3 t0 t1 t2 t3 t4 u0 u1 u2 u3 u4 c1 c2 c3 c4 k1 m d1 d2 d3 d4 v0 v1 v2 v3 v4 k2 : Int}
    (h0 : p0 + t0 = u0 + 18446744073709551616 * c1) (h1 : p1 + t1 + c1 = u1 + 18446744073709551616 * c2) (h2 : p2 + t2 + c2 = u2 + 18446744073709551616 * c3) (h3 : p3 + t3 + c3 = u3 + 18446744073709551616 * c4)
    (h4 : t4 + c4 = u4 + 18446744073709551616 * k1) (g0 : m * 6346243789798364141 + u0 = 18446744073709551616 * d1) (g1 : m * 1503914060200516822 + u1 + d1 = v0 + 18446744073709551616 * d2) (g2 : u2 + d2 = v1 + 18446744073709551616 * d3)
    (g3 : m * 1152921504606846976 + u3 + d3 = v2 + 18446744073709551616 * d4) (g4 : u4 + d4 = v3 + 18446744073709551616 * k2) (g5 : v4 = k1 + k2) :
    18446744073709551616 * (v0 + 18446744073709551616 * v1 + 340282366920938463463374607431768211456 * v2 + 6277101735386680763835789423207666416102355444464034512896 * v3 + 115792089237316195423570985008687907853269984665640564039457584007913129639936 * v4) =
      t0 + 18446744073709551616 * t1 + 340282366920938463463374607431768211456 * t2 + 6277101735386680763835789423207666416102355444464034512896 * t3 + 115792089237316195423570985008687907853269984665640564039457584007913129639936 * t4 +
      (p0 + 18446744073709551616 * p1 + 340282366920938463463374607431768211456 * p2 + 6277101735386680763835789423207666416102355444464034512896 * p3) + m * 7237005577332262213973186563042994240857116359379907606001950938285454250989 := by
  omega

theorem low_zero {u m s d : Int} (hu : 0 ≤ u ∧ u < 18446744073709551616) (hm : m = u * 15183074304973897243 % 18446744073709551616) (hs : s = m * 6346243789798364141 + u) (hd : d = s / 18446744073709551616) : s = 18446744073709551616 * d := by
  omega
end Go.Gx

/- Products in Montgomery's form. -/
namespace Go.Gx
open Go.Proofs Go.Sp
set_option linter.unusedVariables false

def vc89 (x y z w : Int) (K : SV → Prop) (Q : Nat → List Pv → Prop) : Prop := fnVc Γ8 Tryd.f89 [] [.i .u64 ⟨false, x⟩, .i .u64 ⟨false, y⟩, .i .u64 ⟨false, z⟩, .i .u64 ⟨false, w⟩] gh K Q
theorem vc89_eq : ∀ (x y z w : Int) (K : SV → Prop) (Q : Nat → List Pv → Prop), vc89 x y z w K Q = ∀ (x1 : Int), x1 = x * y / (18446744073709551616 : Int) → InR IntKind.u64 x1 → ∀ (x2 : Int), x2 = x * y % (18446744073709551616 : Int) → InR IntKind.u64 x2 → Need ((0 : Int) ≤ (1 : Int)) ∧ ∀ (x3 : Int), x3 = (x2 + z + (0 : Int)) % (18446744073709551616 : Int) → InR IntKind.u64 x3 → ∀ (x4 : Int), x4 = (x2 + z + (0 : Int)) / (18446744073709551616 : Int) → InR IntKind.u64 x4 → ∀ (x5 : Int), x5 = IntKind.u64.wrap (x1 + x4) → InR IntKind.u64 x5 → Need ((0 : Int) ≤ (1 : Int)) ∧ ∀ (x6 : Int), x6 = (x3 + w + (0 : Int)) % (18446744073709551616 : Int) → InR IntKind.u64 x6 → ∀ (x7 : Int), x7 = (x3 + w + (0 : Int)) / (18446744073709551616 : Int) → InR IntKind.u64 x7 → ∀ (x8 : Int), x8 = IntKind.u64.wrap (x5 + x7) → InR IntKind.u64 x8 → K (SV.tup [SV.i IntKind.u64 { st := false, z := x6 }, SV.i IntKind.u64 { st := false, z := x8 }]) := by
  intros
  kernel_rfl

def intoS : List SV → Option (List Prop × SV)
  | [.i .u64 xV, .i .u64 yV, .i .u64 zV, .i .u64 wV] => some ([], .tup [.i .u64 ⟨false, (xV.z * yV.z + zV.z + wV.z) % 18446744073709551616⟩, .i .u64 ⟨false, (xV.z * yV.z + zV.z + wV.z) / 18446744073709551616⟩])
  | _ => none

theorem into_ok : CallOk Tryd.prog gh 89 (pureCtr intoS) := by
  refine call_pure (fn := Tryd.f89) Γ8_ok rfl (by kernel_rfl) (by kernel_rfl) (by kernel_rfl) intoS fun args P0 Y0 hs hp hf => ?_
  unfold intoS at hs
  split at hs
  · rename_i xV yV zV wV
    simp only [Option.some.injEq, Prod.mk.injEq] at hs
    obtain ⟨rfl, rfl⟩ := hs
    simp only [FactVs, FactV] at hf
    obtain ⟨hx, hy, hz, hw, _⟩ := hf
    refine ⟨[.i .u64 ⟨false, xV.z⟩, .i .u64 ⟨false, yV.z⟩, .i .u64 ⟨false, zV.z⟩, .i .u64 ⟨false, wV.z⟩], [], _, ⟨rfl, rfl, rfl, rfl, trivial⟩, Nat.le_of_ble_eq_true (by kernel_rfl), vc_noloops ?_⟩
    show vc89 xV.z yV.z zV.z wV.z _ _
    rw [vc89_eq]
    generalize xV.z = x at *
    generalize yV.z = y at *
    generalize zV.z = z at *
    generalize wV.z = w at *
    have hp : 0 ≤ x * y ∧ x * y ≤ 340282366920938463426481119284349108225 := ⟨Int.mul_nonneg hx.1 hy.1, Int.le_trans (Int.mul_le_mul (show x ≤ 18446744073709551615 by have := hx.2; omega) (show y ≤ 18446744073709551615 by have := hy.2; omega) hy.1 (by omega)) (by decide)⟩
    simp only [InR] at hz hw
    generalize x * y = q at *
    intro x1 e1 r1 x2 e2 r2
    refine ⟨by unfold Need; omega, fun x3 e3 r3 x4 e4 r4 x5 e5 r5 => ⟨by unfold Need; omega, fun x6 e6 r6 x7 e7 r7 x8 e8 r8 => ?_⟩⟩
    rw [wrap_u64] at e5 e8
    have k6 : x6 = (q + z + w) % 18446744073709551616 := by omega
    have k8 : x8 = (q + z + w) / 18446744073709551616 := by omega
    exact ⟨k6, k8, trivial⟩
  · cases hs

def Γ9 : Tab := ⟨tys, (89, pureCtr intoS) :: Γ8.ctr, [0], gh⟩
theorem Γ9_ok : TabOk Tryd.prog Γ9 := Γ8_ok.cons into_ok
end Go.Gx

/- The product in Montgomery's form. -/
namespace Go.Gx
open Go.Proofs Go.Sp
set_option linter.unusedVariables false

theorem round_full {a0 a1 a2 a3 b t0 t1 t2 t3 t4 x1 x2 x3 x4 x5 x6 x7 x8 x9 x10 x11 x13 x14 x15 x16 x17 x18 x19 x20 x21 x22 : Int} (e1 : x1 = (a0 * b + t0 + 0) % 18446744073709551616) (e2 : x2 = (a0 * b + t0 + 0) / 18446744073709551616) (e3 : x3 = (a1 * b + t1 + x2) % 18446744073709551616) (e4 : x4 = (a1 * b + t1 + x2) / 18446744073709551616) (e5 : x5 = (a2 * b + t2 + x4) % 18446744073709551616) (e6 : x6 = (a2 * b + t2 + x4) / 18446744073709551616) (e7 : x7 = (a3 * b + t3 + x6) % 18446744073709551616) (e8 : x8 = (a3 * b + t3 + x6) / 18446744073709551616) (e9 : x9 = (t4 + x8 + 0) % 18446744073709551616) (e10 : x10 = (t4 + x8 + 0) / 18446744073709551616) (e11 : x11 = IntKind.u64.wrap (x1 * 15183074304973897243)) (e13 : x13 = (x11 * 6346243789798364141 + x1 + 0) / 18446744073709551616) (e14 : x14 = (x11 * 1503914060200516822 + x3 + x13) % 18446744073709551616) (e15 : x15 = (x11 * 1503914060200516822 + x3 + x13) / 18446744073709551616) (e16 : x16 = (x11 * 0 + x5 + x15) % 18446744073709551616) (e17 : x17 = (x11 * 0 + x5 + x15) / 18446744073709551616) (e18 : x18 = (x11 * 1152921504606846976 + x7 + x17) % 18446744073709551616) (e19 : x19 = (x11 * 1152921504606846976 + x7 + x17) / 18446744073709551616) (e20 : x20 = (x9 + x19 + 0) % 18446744073709551616) (e21 : x21 = (x9 + x19 + 0) / 18446744073709551616) (e22 : x22 = IntKind.u64.wrap (x10 + x21))
    (hb : InR .u64 b) (h4 : InR .u64 t4) (r1 : InR .u64 x1) (r3 : InR .u64 x3) (r5 : InR .u64 x5) (r7 : InR .u64 x7) (r8 : InR .u64 x8) (r9 : InR .u64 x9) (r11 : InR .u64 x11) (r14 : InR .u64 x14) (r16 : InR .u64 x16) (r18 : InR .u64 x18) (r19 : InR .u64 x19) (r20 : InR .u64 x20) (r22 : InR .u64 x22) (hA : val4 [a0, a1, a2, a3] < 7237005577332262213973186563042994240857116359379907606001950938285454250989) (hA0 : 0 ≤ val4 [a0, a1, a2, a3]) (hT : (t0 + 18446744073709551616 * t1 + 340282366920938463463374607431768211456 * t2 + 6277101735386680763835789423207666416102355444464034512896 * t3 + 115792089237316195423570985008687907853269984665640564039457584007913129639936 * t4) < 2 * 7237005577332262213973186563042994240857116359379907606001950938285454250989) (hT0 : 0 ≤ (t0 + 18446744073709551616 * t1 + 340282366920938463463374607431768211456 * t2 + 6277101735386680763835789423207666416102355444464034512896 * t3 + 115792089237316195423570985008687907853269984665640564039457584007913129639936 * t4)) :
    18446744073709551616 * (x14 + 18446744073709551616 * x16 + 340282366920938463463374607431768211456 * x18 + 6277101735386680763835789423207666416102355444464034512896 * x20 + 115792089237316195423570985008687907853269984665640564039457584007913129639936 * x22) = (t0 + 18446744073709551616 * t1 + 340282366920938463463374607431768211456 * t2 + 6277101735386680763835789423207666416102355444464034512896 * t3 + 115792089237316195423570985008687907853269984665640564039457584007913129639936 * t4) + val4 [a0, a1, a2, a3] * b + x11 * 7237005577332262213973186563042994240857116359379907606001950938285454250989 ∧ (x14 + 18446744073709551616 * x16 + 340282366920938463463374607431768211456 * x18 + 6277101735386680763835789423207666416102355444464034512896 * x20 + 115792089237316195423570985008687907853269984665640564039457584007913129639936 * x22) < 2 * 7237005577332262213973186563042994240857116359379907606001950938285454250989 ∧ 0 ≤ (x14 + 18446744073709551616 * x16 + 340282366920938463463374607431768211456 * x18 + 6277101735386680763835789423207666416102355444464034512896 * x20 + 115792089237316195423570985008687907853269984665640564039457584007913129639936 * x22) := by
  simp only [InR] at hb h4 r1 r3 r5 r7 r8 r9 r11 r14 r16 r18 r19 r20 r22
  rw [wrap_u64] at e11 e22
  have s0 := split_w e1 e2
  have s1 := split_w e3 e4
  have s2 := split_w e5 e6
  have s3 := split_w e7 e8
  have s4 := split_w e9 e10
  have m0 := low_zero r1 e11 rfl (show x13 = (x11 * 6346243789798364141 + x1) / 18446744073709551616 by rw [e13, Int.add_zero])
  have m1 := split_w e14 e15
  have m2 := split_w e16 e17
  have m3 := split_w e18 e19
  have m4 := split_w e20 e21
  have k1 : 0 ≤ x10 ∧ x10 ≤ 1 := by clear e1 e2 e3 e4 e5 e6 e7 e8 e11 e13 e14 e15 e16 e17 e18 e19 hA hA0 hT hT0 m0; omega
  have k2 : 0 ≤ x21 ∧ x21 ≤ 1 := by clear e1 e2 e3 e4 e5 e6 e7 e8 e11 e13 e14 e15 e16 e17 e18 e19 hA hA0 hT hT0 m0; omega
  have k3 : x22 = x10 + x21 := by clear e1 e2 e3 e4 e5 e6 e7 e8 e11 e13 e14 e15 e16 e17 e18 e19 hA hA0 hT hT0 m0; omega
  have hAb : val4 [a0, a1, a2, a3] * b = a0 * b + 18446744073709551616 * (a1 * b) + 340282366920938463463374607431768211456 * (a2 * b) + 6277101735386680763835789423207666416102355444464034512896 * (a3 * b) := by
    simp only [val4, Int.add_mul, Int.mul_assoc]
  have key := round_law (p0 := a0 * b) (p1 := a1 * b) (p2 := a2 * b) (p3 := a3 * b) (t0 := t0) (t1 := t1) (t2 := t2) (t3 := t3) (t4 := t4) (by rw [← s0.1, Int.add_zero]) s1.1 s2.1 s3.1 (by rw [← s4.1, Int.add_zero]) m0 m1.1 (by rw [← m2.1, Int.mul_zero, Int.zero_add]) m3.1 (by rw [← m4.1, Int.add_zero]) k3
  rw [← hAb] at key
  have hbd : val4 [a0, a1, a2, a3] * b ≤ (7237005577332262213973186563042994240857116359379907606001950938285454250989 - 1) * 18446744073709551615 := Int.mul_le_mul (by omega) (by omega) hb.1 (by decide)
  have hbd0 : 0 ≤ val4 [a0, a1, a2, a3] * b := Int.mul_nonneg hA0 hb.1
  generalize val4 [a0, a1, a2, a3] * b = Q at *
  clear e1 e2 e3 e4 e5 e6 e7 e8 e9 e10 e11 e13 e14 e15 e16 e17 e18 e19 e20 e21 e22 s0 s1 s2 s3 s4 m0 m1 m2 m3 m4 hAb k1 k2 k3
  omega

def vc78 (a0 a1 a2 a3 b0 b1 b2 b3 : Int) (K : SV → Prop) (Q : Nat → List Pv → Prop) : Prop := fnVc Γ9 Tryd.f78 [] [.arr .u64 4 true [a0, a1, a2, a3], .arr .u64 4 true [b0, b1, b2, b3]] gh K Q
theorem vc78_eq : ∀ (a0 a1 a2 a3 b0 b1 b2 b3 : Int) (K : SV → Prop) (Q : Nat → List Pv → Prop), vc78 a0 a1 a2 a3 b0 b1 b2 b3 K Q = ∀ (x1 : Int), x1 = (a0 * b0 + (0 : Int) + (0 : Int)) % (18446744073709551616 : Int) → InR IntKind.u64 x1 → ∀ (x2 : Int), x2 = (a0 * b0 + (0 : Int) + (0 : Int)) / (18446744073709551616 : Int) → InR IntKind.u64 x2 → ∀ (x3 : Int), x3 = (a1 * b0 + (0 : Int) + x2) % (18446744073709551616 : Int) → InR IntKind.u64 x3 → ∀ (x4 : Int), x4 = (a1 * b0 + (0 : Int) + x2) / (18446744073709551616 : Int) → InR IntKind.u64 x4 → ∀ (x5 : Int), x5 = (a2 * b0 + (0 : Int) + x4) % (18446744073709551616 : Int) → InR IntKind.u64 x5 → ∀ (x6 : Int), x6 = (a2 * b0 + (0 : Int) + x4) / (18446744073709551616 : Int) → InR IntKind.u64 x6 → ∀ (x7 : Int), x7 = (a3 * b0 + (0 : Int) + x6) % (18446744073709551616 : Int) → InR IntKind.u64 x7 → ∀ (x8 : Int), x8 = (a3 * b0 + (0 : Int) + x6) / (18446744073709551616 : Int) → InR IntKind.u64 x8 → Need ((0 : Int) ≤ (1 : Int)) ∧ ∀ (x9 : Int), x9 = ((0 : Int) + x8 + (0 : Int)) % (18446744073709551616 : Int) → InR IntKind.u64 x9 → ∀ (x10 : Int), x10 = ((0 : Int) + x8 + (0 : Int)) / (18446744073709551616 : Int) → InR IntKind.u64 x10 → ∀ (x11 : Int), x11 = IntKind.u64.wrap (x1 * (15183074304973897243 : Int)) → InR IntKind.u64 x11 → ∀ (x12 : Int), x12 = (x11 * (6346243789798364141 : Int) + x1 + (0 : Int)) % (18446744073709551616 : Int) → InR IntKind.u64 x12 → ∀ (x13 : Int), x13 = (x11 * (6346243789798364141 : Int) + x1 + (0 : Int)) / (18446744073709551616 : Int) → InR IntKind.u64 x13 → ∀ (x14 : Int), x14 = (x11 * (1503914060200516822 : Int) + x3 + x13) % (18446744073709551616 : Int) → InR IntKind.u64 x14 → ∀ (x15 : Int), x15 = (x11 * (1503914060200516822 : Int) + x3 + x13) / (18446744073709551616 : Int) → InR IntKind.u64 x15 → ∀ (x16 : Int), x16 = (x11 * (0 : Int) + x5 + x15) % (18446744073709551616 : Int) → InR IntKind.u64 x16 → ∀ (x17 : Int), x17 = (x11 * (0 : Int) + x5 + x15) / (18446744073709551616 : Int) → InR IntKind.u64 x17 → ∀ (x18 : Int), x18 = (x11 * (1152921504606846976 : Int) + x7 + x17) % (18446744073709551616 : Int) → InR IntKind.u64 x18 → ∀ (x19 : Int), x19 = (x11 * (1152921504606846976 : Int) + x7 + x17) / (18446744073709551616 : Int) → InR IntKind.u64 x19 → Need ((0 : Int) ≤ (1 : Int)) ∧ ∀ (x20 : Int), x20 = (x9 + x19 + (0 : Int)) % (18446744073709551616 : Int) → InR IntKind.u64 x20 → ∀ (x21 : Int), x21 = (x9 + x19 + (0 : Int)) / (18446744073709551616 : Int) → InR IntKind.u64 x21 → ∀ (x22 : Int), x22 = IntKind.u64.wrap (x10 + x21) → InR IntKind.u64 x22 → ∀ (x23 : Int), x23 = (a0 * b1 + x14 + (0 : Int)) % (18446744073709551616 : Int) → InR IntKind.u64 x23 → ∀ (x24 : Int), x24 = (a0 * b1 + x14 + (0 : Int)) / (18446744073709551616 : Int) → InR IntKind.u64 x24 → ∀ (x25 : Int), x25 = (a1 * b1 + x16 + x24) % (18446744073709551616 : Int) → InR IntKind.u64 x25 → ∀ (x26 : Int), x26 = (a1 * b1 + x16 + x24) / (18446744073709551616 : Int) → InR IntKind.u64 x26 → ∀ (x27 : Int), x27 = (a2 * b1 + x18 + x26) % (18446744073709551616 : Int) → InR IntKind.u64 x27 → ∀ (x28 : Int), x28 = (a2 * b1 + x18 + x26) / (18446744073709551616 : Int) → InR IntKind.u64 x28 → ∀ (x29 : Int), x29 = (a3 * b1 + x20 + x28) % (18446744073709551616 : Int) → InR IntKind.u64 x29 → ∀ (x30 : Int), x30 = (a3 * b1 + x20 + x28) / (18446744073709551616 : Int) → InR IntKind.u64 x30 → Need ((0 : Int) ≤ (1 : Int)) ∧ ∀ (x31 : Int), x31 = (x22 + x30 + (0 : Int)) % (18446744073709551616 : Int) → InR IntKind.u64 x31 → ∀ (x32 : Int), x32 = (x22 + x30 + (0 : Int)) / (18446744073709551616 : Int) → InR IntKind.u64 x32 → ∀ (x33 : Int), x33 = IntKind.u64.wrap (x23 * (15183074304973897243 : Int)) → InR IntKind.u64 x33 → ∀ (x34 : Int), x34 = (x33 * (6346243789798364141 : Int) + x23 + (0 : Int)) % (18446744073709551616 : Int) → InR IntKind.u64 x34 → ∀ (x35 : Int), x35 = (x33 * (6346243789798364141 : Int) + x23 + (0 : Int)) / (18446744073709551616 : Int) → InR IntKind.u64 x35 → ∀ (x36 : Int), x36 = (x33 * (1503914060200516822 : Int) + x25 + x35) % (18446744073709551616 : Int) → InR IntKind.u64 x36 → ∀ (x37 : Int), x37 = (x33 * (1503914060200516822 : Int) + x25 + x35) / (18446744073709551616 : Int) → InR IntKind.u64 x37 → ∀ (x38 : Int), x38 = (x33 * (0 : Int) + x27 + x37) % (18446744073709551616 : Int) → InR IntKind.u64 x38 → ∀ (x39 : Int), x39 = (x33 * (0 : Int) + x27 + x37) / (18446744073709551616 : Int) → InR IntKind.u64 x39 → ∀ (x40 : Int), x40 = (x33 * (1152921504606846976 : Int) + x29 + x39) % (18446744073709551616 : Int) → InR IntKind.u64 x40 → ∀ (x41 : Int), x41 = (x33 * (1152921504606846976 : Int) + x29 + x39) / (18446744073709551616 : Int) → InR IntKind.u64 x41 → Need ((0 : Int) ≤ (1 : Int)) ∧ ∀ (x42 : Int), x42 = (x31 + x41 + (0 : Int)) % (18446744073709551616 : Int) → InR IntKind.u64 x42 → ∀ (x43 : Int), x43 = (x31 + x41 + (0 : Int)) / (18446744073709551616 : Int) → InR IntKind.u64 x43 → ∀ (x44 : Int), x44 = IntKind.u64.wrap (x32 + x43) → InR IntKind.u64 x44 → ∀ (x45 : Int), x45 = (a0 * b2 + x36 + (0 : Int)) % (18446744073709551616 : Int) → InR IntKind.u64 x45 → ∀ (x46 : Int), x46 = (a0 * b2 + x36 + (0 : Int)) / (18446744073709551616 : Int) → InR IntKind.u64 x46 → ∀ (x47 : Int), x47 = (a1 * b2 + x38 + x46) % (18446744073709551616 : Int) → InR IntKind.u64 x47 → ∀ (x48 : Int), x48 = (a1 * b2 + x38 + x46) / (18446744073709551616 : Int) → InR IntKind.u64 x48 → ∀ (x49 : Int), x49 = (a2 * b2 + x40 + x48) % (18446744073709551616 : Int) → InR IntKind.u64 x49 → ∀ (x50 : Int), x50 = (a2 * b2 + x40 + x48) / (18446744073709551616 : Int) → InR IntKind.u64 x50 → ∀ (x51 : Int), x51 = (a3 * b2 + x42 + x50) % (18446744073709551616 : Int) → InR IntKind.u64 x51 → ∀ (x52 : Int), x52 = (a3 * b2 + x42 + x50) / (18446744073709551616 : Int) → InR IntKind.u64 x52 → Need ((0 : Int) ≤ (1 : Int)) ∧ ∀ (x53 : Int), x53 = (x44 + x52 + (0 : Int)) % (18446744073709551616 : Int) → InR IntKind.u64 x53 → ∀ (x54 : Int), x54 = (x44 + x52 + (0 : Int)) / (18446744073709551616 : Int) → InR IntKind.u64 x54 → ∀ (x55 : Int), x55 = IntKind.u64.wrap (x45 * (15183074304973897243 : Int)) → InR IntKind.u64 x55 → ∀ (x56 : Int), x56 = (x55 * (6346243789798364141 : Int) + x45 + (0 : Int)) % (18446744073709551616 : Int) → InR IntKind.u64 x56 → ∀ (x57 : Int), x57 = (x55 * (6346243789798364141 : Int) + x45 + (0 : Int)) / (18446744073709551616 : Int) → InR IntKind.u64 x57 → ∀ (x58 : Int), x58 = (x55 * (1503914060200516822 : Int) + x47 + x57) % (18446744073709551616 : Int) → InR IntKind.u64 x58 → ∀ (x59 : Int), x59 = (x55 * (1503914060200516822 : Int) + x47 + x57) / (18446744073709551616 : Int) → InR IntKind.u64 x59 → ∀ (x60 : Int), x60 = (x55 * (0 : Int) + x49 + x59) % (18446744073709551616 : Int) → InR IntKind.u64 x60 → ∀ (x61 : Int), x61 = (x55 * (0 : Int) + x49 + x59) / (18446744073709551616 : Int) → InR IntKind.u64 x61 → ∀ (x62 : Int), x62 = (x55 * (1152921504606846976 : Int) + x51 + x61) % (18446744073709551616 : Int) → InR IntKind.u64 x62 → ∀ (x63 : Int), x63 = (x55 * (1152921504606846976 : Int) + x51 + x61) / (18446744073709551616 : Int) → InR IntKind.u64 x63 → Need ((0 : Int) ≤ (1 : Int)) ∧ ∀ (x64 : Int), x64 = (x53 + x63 + (0 : Int)) % (18446744073709551616 : Int) → InR IntKind.u64 x64 → ∀ (x65 : Int), x65 = (x53 + x63 + (0 : Int)) / (18446744073709551616 : Int) → InR IntKind.u64 x65 → ∀ (x66 : Int), x66 = IntKind.u64.wrap (x54 + x65) → InR IntKind.u64 x66 → ∀ (x67 : Int), x67 = (a0 * b3 + x58 + (0 : Int)) % (18446744073709551616 : Int) → InR IntKind.u64 x67 → ∀ (x68 : Int), x68 = (a0 * b3 + x58 + (0 : Int)) / (18446744073709551616 : Int) → InR IntKind.u64 x68 → ∀ (x69 : Int), x69 = (a1 * b3 + x60 + x68) % (18446744073709551616 : Int) → InR IntKind.u64 x69 → ∀ (x70 : Int), x70 = (a1 * b3 + x60 + x68) / (18446744073709551616 : Int) → InR IntKind.u64 x70 → ∀ (x71 : Int), x71 = (a2 * b3 + x62 + x70) % (18446744073709551616 : Int) → InR IntKind.u64 x71 → ∀ (x72 : Int), x72 = (a2 * b3 + x62 + x70) / (18446744073709551616 : Int) → InR IntKind.u64 x72 → ∀ (x73 : Int), x73 = (a3 * b3 + x64 + x72) % (18446744073709551616 : Int) → InR IntKind.u64 x73 → ∀ (x74 : Int), x74 = (a3 * b3 + x64 + x72) / (18446744073709551616 : Int) → InR IntKind.u64 x74 → Need ((0 : Int) ≤ (1 : Int)) ∧ ∀ (x75 : Int), x75 = (x66 + x74 + (0 : Int)) % (18446744073709551616 : Int) → InR IntKind.u64 x75 → ∀ (x76 : Int), x76 = (x66 + x74 + (0 : Int)) / (18446744073709551616 : Int) → InR IntKind.u64 x76 → ∀ (x77 : Int), x77 = IntKind.u64.wrap (x67 * (15183074304973897243 : Int)) → InR IntKind.u64 x77 → ∀ (x78 : Int), x78 = (x77 * (6346243789798364141 : Int) + x67 + (0 : Int)) % (18446744073709551616 : Int) → InR IntKind.u64 x78 → ∀ (x79 : Int), x79 = (x77 * (6346243789798364141 : Int) + x67 + (0 : Int)) / (18446744073709551616 : Int) → InR IntKind.u64 x79 → ∀ (x80 : Int), x80 = (x77 * (1503914060200516822 : Int) + x69 + x79) % (18446744073709551616 : Int) → InR IntKind.u64 x80 → ∀ (x81 : Int), x81 = (x77 * (1503914060200516822 : Int) + x69 + x79) / (18446744073709551616 : Int) → InR IntKind.u64 x81 → ∀ (x82 : Int), x82 = (x77 * (0 : Int) + x71 + x81) % (18446744073709551616 : Int) → InR IntKind.u64 x82 → ∀ (x83 : Int), x83 = (x77 * (0 : Int) + x71 + x81) / (18446744073709551616 : Int) → InR IntKind.u64 x83 → ∀ (x84 : Int), x84 = (x77 * (1152921504606846976 : Int) + x73 + x83) % (18446744073709551616 : Int) → InR IntKind.u64 x84 → ∀ (x85 : Int), x85 = (x77 * (1152921504606846976 : Int) + x73 + x83) / (18446744073709551616 : Int) → InR IntKind.u64 x85 → Need ((0 : Int) ≤ (1 : Int)) ∧ ∀ (x86 : Int), x86 = (x75 + x85 + (0 : Int)) % (18446744073709551616 : Int) → InR IntKind.u64 x86 → ∀ (x87 : Int), x87 = (x75 + x85 + (0 : Int)) / (18446744073709551616 : Int) → InR IntKind.u64 x87 → ∀ (x88 : Int), x88 = IntKind.u64.wrap (x76 + x87) → InR IntKind.u64 x88 → ∀ (x89 : Int), x89 = w0 (lowI (val4 [x80, x82, x84, x86])) → InR IntKind.u64 x89 → ∀ (x90 : Int), x90 = w1 (lowI (val4 [x80, x82, x84, x86])) → InR IntKind.u64 x90 → ∀ (x91 : Int), x91 = w2 (lowI (val4 [x80, x82, x84, x86])) → InR IntKind.u64 x91 → ∀ (x92 : Int), x92 = w3 (lowI (val4 [x80, x82, x84, x86])) → InR IntKind.u64 x92 → K (SV.arr IntKind.u64 (4 : Nat) true [x89, x90, x91, x92]) := by
  intros
  kernel_rfl

open Go.Sp (prI)
def prodS : List SV → Option (List Prop × SV)
  | [.arr .u64 4 _ aL, .arr .u64 4 _ bL] => some ([val4 aL < ell], .arr .u64 4 true (words4 (prI (val4 aL) (val4 bL))))
  | _ => none

theorem prod_ok : CallOk Tryd.prog gh 78 (pureCtr prodS) := by
  refine call_pure (fn := Tryd.f78) Γ9_ok rfl (by kernel_rfl) (by kernel_rfl) (by kernel_rfl) prodS fun args P0 Y0 hs hp hf => ?_
  unfold prodS at hs
  split at hs
  · rename_i ea aL eb bL
    simp only [Option.some.injEq, Prod.mk.injEq] at hs
    obtain ⟨rfl, rfl⟩ := hs
    simp only [FactVs, FactV] at hf
    obtain ⟨⟨hal, ha⟩, ⟨hbl, hb⟩, _⟩ := hf
    obtain ⟨hpre, _⟩ := hp
    obtain ⟨a0, a1, a2, a3, rfl⟩ := len4 hal
    have ia0 := ha a0 (by simp); have ia1 := ha a1 (by simp); have ia2 := ha a2 (by simp); have ia3 := ha a3 (by simp)
    obtain ⟨b0, b1, b2, b3, rfl⟩ := len4 hbl
    have ib0 := hb b0 (by simp); have ib1 := hb b1 (by simp); have ib2 := hb b2 (by simp); have ib3 := hb b3 (by simp)
    refine ⟨[.arr .u64 4 true [a0, a1, a2, a3], .arr .u64 4 true [b0, b1, b2, b3]], [], _, ⟨rfl, rfl, trivial⟩, Nat.le_of_ble_eq_true (by kernel_rfl), vc_noloops ?_⟩
    show vc78 a0 a1 a2 a3 b0 b1 b2 b3 _ _
    rw [vc78_eq]
    intro x1 e1 r1 x2 e2 r2 x3 e3 r3 x4 e4 r4 x5 e5 r5 x6 e6 r6 x7 e7 r7 x8 e8 r8
    refine ⟨by unfold Need; omega, ?_⟩
    intro x9 e9 r9 x10 e10 r10 x11 e11 r11 x12 e12 r12 x13 e13 r13 x14 e14 r14 x15 e15 r15 x16 e16 r16 x17 e17 r17 x18 e18 r18 x19 e19 r19
    refine ⟨by unfold Need; omega, ?_⟩
    intro x20 e20 r20 x21 e21 r21 x22 e22 r22
    intro x23 e23 r23 x24 e24 r24 x25 e25 r25 x26 e26 r26 x27 e27 r27 x28 e28 r28 x29 e29 r29 x30 e30 r30
    refine ⟨by unfold Need; omega, ?_⟩
    intro x31 e31 r31 x32 e32 r32 x33 e33 r33 x34 e34 r34 x35 e35 r35 x36 e36 r36 x37 e37 r37 x38 e38 r38 x39 e39 r39 x40 e40 r40 x41 e41 r41
    refine ⟨by unfold Need; omega, ?_⟩
    intro x42 e42 r42 x43 e43 r43 x44 e44 r44
    intro x45 e45 r45 x46 e46 r46 x47 e47 r47 x48 e48 r48 x49 e49 r49 x50 e50 r50 x51 e51 r51 x52 e52 r52
    refine ⟨by unfold Need; omega, ?_⟩
    intro x53 e53 r53 x54 e54 r54 x55 e55 r55 x56 e56 r56 x57 e57 r57 x58 e58 r58 x59 e59 r59 x60 e60 r60 x61 e61 r61 x62 e62 r62 x63 e63 r63
    refine ⟨by unfold Need; omega, ?_⟩
    intro x64 e64 r64 x65 e65 r65 x66 e66 r66
    intro x67 e67 r67 x68 e68 r68 x69 e69 r69 x70 e70 r70 x71 e71 r71 x72 e72 r72 x73 e73 r73 x74 e74 r74
    refine ⟨by unfold Need; omega, ?_⟩
    intro x75 e75 r75 x76 e76 r76 x77 e77 r77 x78 e78 r78 x79 e79 r79 x80 e80 r80 x81 e81 r81 x82 e82 r82 x83 e83 r83 x84 e84 r84 x85 e85 r85
    refine ⟨by unfold Need; omega, ?_⟩
    intro x86 e86 r86 x87 e87 r87 x88 e88 r88
    intro x89 e89 _ x90 e90 _ x91 e91 _ x92 e92 _
    have hA0 : 0 ≤ val4 [a0, a1, a2, a3] := by simp only [InR] at ia0 ia1 ia2 ia3; simp only [val4]; omega
    have z0 : InR .u64 0 := ⟨by omega, by omega⟩
    have R0 := round_full (t0 := 0) (t1 := 0) (t2 := 0) (t3 := 0) (t4 := 0) e1 e2 e3 e4 e5 e6 e7 e8 e9 e10 e11 e13 e14 e15 e16 e17 e18 e19 e20 e21 e22 ib0 z0 r1 r3 r5 r7 r8 r9 r11 r14 r16 r18 r19 r20 r22 hpre hA0 (by decide) (by decide)
    have R1 := round_full (t0 := x14) (t1 := x16) (t2 := x18) (t3 := x20) (t4 := x22) e23 e24 e25 e26 e27 e28 e29 e30 e31 e32 e33 e35 e36 e37 e38 e39 e40 e41 e42 e43 e44 ib1 r22 r23 r25 r27 r29 r30 r31 r33 r36 r38 r40 r41 r42 r44 hpre hA0 R0.2.1 R0.2.2
    have R2 := round_full (t0 := x36) (t1 := x38) (t2 := x40) (t3 := x42) (t4 := x44) e45 e46 e47 e48 e49 e50 e51 e52 e53 e54 e55 e57 e58 e59 e60 e61 e62 e63 e64 e65 e66 ib2 r44 r45 r47 r49 r51 r52 r53 r55 r58 r60 r62 r63 r64 r66 hpre hA0 R1.2.1 R1.2.2
    have R3 := round_full (t0 := x58) (t1 := x60) (t2 := x62) (t3 := x64) (t4 := x66) e67 e68 e69 e70 e71 e72 e73 e74 e75 e76 e77 e79 e80 e81 e82 e83 e84 e85 e86 e87 e88 ib3 r66 r67 r69 r71 r73 r74 r75 r77 r80 r82 r84 r85 r86 r88 hpre hA0 R2.2.1 R2.2.2
    have hx : 18446744073709551616 * (18446744073709551616 * (18446744073709551616 * (18446744073709551616 * (x80 + 18446744073709551616 * x82 + 340282366920938463463374607431768211456 * x84 + 6277101735386680763835789423207666416102355444464034512896 * x86 + 115792089237316195423570985008687907853269984665640564039457584007913129639936 * x88)))) = val4 [a0, a1, a2, a3] * val4 [b0, b1, b2, b3] + (x11 + 18446744073709551616 * x33 + 340282366920938463463374607431768211456 * x55 + 6277101735386680763835789423207666416102355444464034512896 * x77) * 7237005577332262213973186563042994240857116359379907606001950938285454250989 := by
      have hB : val4 [a0, a1, a2, a3] * val4 [b0, b1, b2, b3] = val4 [a0, a1, a2, a3] * b0 + 18446744073709551616 * (val4 [a0, a1, a2, a3] * b1) + 340282366920938463463374607431768211456 * (val4 [a0, a1, a2, a3] * b2) + 6277101735386680763835789423207666416102355444464034512896 * (val4 [a0, a1, a2, a3] * b3) := by
        rw [show val4 [b0, b1, b2, b3] = b0 + 18446744073709551616 * b1 + 340282366920938463463374607431768211456 * b2 + 6277101735386680763835789423207666416102355444464034512896 * b3 from rfl]
        simp only [Int.mul_add, Int.mul_left_comm (val4 [a0, a1, a2, a3]) 18446744073709551616, Int.mul_left_comm (val4 [a0, a1, a2, a3]) 340282366920938463463374607431768211456, Int.mul_left_comm (val4 [a0, a1, a2, a3]) 6277101735386680763835789423207666416102355444464034512896]
      rw [hB]
      have q0 := R0.1; have q1 := R1.1; have q2 := R2.1; have q3 := R3.1
      generalize val4 [a0, a1, a2, a3] * b0 = Q0 at *
      generalize val4 [a0, a1, a2, a3] * b1 = Q1 at *
      generalize val4 [a0, a1, a2, a3] * b2 = Q2 at *
      generalize val4 [a0, a1, a2, a3] * b3 = Q3 at *
      clear R0 R1 R2 R3 e1 e2 e3 e4 e5 e6 e7 e8 e9 e10 e11 e12 e13 e14 e15 e16 e17 e18 e19 e20 e21 e22 e23 e24 e25 e26 e27 e28 e29 e30 e31 e32 e33 e34 e35 e36 e37 e38 e39 e40 e41 e42 e43 e44 e45 e46 e47 e48 e49 e50 e51 e52 e53 e54 e55 e56 e57 e58 e59 e60 e61 e62 e63 e64 e65 e66 e67 e68 e69 e70 e71 e72 e73 e74 e75 e76 e77 e78 e79 e80 e81 e82 e83 e84 e85 e86 e87 e88 e89 e90 e91 e92
      omega
    have hlt := R3.2.1
    have h0 := R3.2.2
    simp only [InR] at r80 r82 r84 r86 r88
    have h88 : x88 = 0 := by clear hx R0 R1 R2 R3 e1 e2 e3 e4 e5 e6 e7 e8 e9 e10 e11 e12 e13 e14 e15 e16 e17 e18 e19 e20 e21 e22 e23 e24 e25 e26 e27 e28 e29 e30 e31 e32 e33 e34 e35 e36 e37 e38 e39 e40 e41 e42 e43 e44 e45 e46 e47 e48 e49 e50 e51 e52 e53 e54 e55 e56 e57 e58 e59 e60 e61 e62 e63 e64 e65 e66 e67 e68 e69 e70 e71 e72 e73 e74 e75 e76 e77 e78 e79 e80 e81 e82 e83 e84 e85 e86 e87 e88 e89 e90 e91 e92; omega
    have hv : val4 [x80, x82, x84, x86] = (x80 + 18446744073709551616 * x82 + 340282366920938463463374607431768211456 * x84 + 6277101735386680763835789423207666416102355444464034512896 * x86 + 115792089237316195423570985008687907853269984665640564039457584007913129639936 * x88) := by rw [h88]; simp only [val4]; omega
    rw [← hv] at hx hlt h0
    have hl : lowI (val4 [x80, x82, x84, x86]) = prI (val4 [a0, a1, a2, a3]) (val4 [b0, b1, b2, b3]) := by
      rw [← pr_of (t := val4 [x80, x82, x84, x86]) (k := x11 + 18446744073709551616 * x33 + 340282366920938463463374607431768211456 * x55 + 6277101735386680763835789423207666416102355444464034512896 * x77) (by rw [ell_lit, ← hx]; omega)]
      unfold lowI
      have he := ell_lit
      split
      · rename_i hh
        rw [Int.emod_eq_of_lt h0 hh]
      · rename_i hh
        rw [← Int.sub_emod_right (val4 [x80, x82, x84, x86]) ell, Int.emod_eq_of_lt (by omega) (by rw [he] at hh ⊢; omega)]
    show [x89, x90, x91, x92] = words4 (prI (val4 [a0, a1, a2, a3]) (val4 [b0, b1, b2, b3]))
    rw [e89, e90, e91, e92, hl]; rfl
  · cases hs

def Γ10 : Tab := ⟨tys, (78, pureCtr prodS) :: Γ9.ctr, [0], gh⟩
theorem Γ10_ok : TabOk Tryd.prog Γ10 := Γ9_ok.cons prod_ok
end Go.Gx

/- Sums, differences, products, halves. -/
namespace Go.Gx
open Go.Proofs Go.Sp
open Go.Sp (prI mlL adL sbL pwL)
set_option linter.unusedVariables false

theorem arr_eq {a b c d n : Int} (ha : InR .u64 a) (hb : InR .u64 b) (hc : InR .u64 c) (hd : InR .u64 d) (h : val4 [a, b, c, d] = n) : [a, b, c, d] = words4 n := by rw [← h, words_val ha hb hc hd]
theorem val_in {n x y z t : Int} (h0 : x = w0 n) (h1 : y = w1 n) (h2 : z = w2 n) (h3 : t = w3 n) (hn : 0 ≤ n) (hn' : n < 115792089237316195423570985008687907853269984665640564039457584007913129639936) : val4 [x, y, z, t] = n := by
  rw [val_of h0 h1 h2 h3, Int.emod_eq_of_lt hn hn']
theorem val_ell {n x y z t : Int} (h0 : x = w0 (n % ell)) (h1 : y = w1 (n % ell)) (h2 : z = w2 (n % ell)) (h3 : t = w3 (n % ell)) : val4 [x, y, z, t] = n % ell := by
  have := mod_bd n
  rw [ell_lit] at this
  exact val_in h0 h1 h2 h3 this.1 (by rw [ell_lit]; omega)
theorem val_pos {a b c d : Int} (ha : InR .u64 a) (hb : InR .u64 b) (hc : InR .u64 c) (hd : InR .u64 d) : 0 ≤ val4 [a, b, c, d] ∧ val4 [a, b, c, d] < 115792089237316195423570985008687907853269984665640564039457584007913129639936 := by
  simp only [InR] at ha hb hc hd
  simp only [val4]
  omega
theorem low_add {a b : Int} (ha : 0 ≤ a ∧ a < ell) (hb : 0 ≤ b ∧ b < ell) : lowI (a + b) = (a + b) % ell := by
  have he := ell_lit
  unfold lowI
  split
  · rename_i h; rw [Int.emod_eq_of_lt (by omega) h]
  · rename_i h; rw [← Int.sub_emod_right (a + b) ell, Int.emod_eq_of_lt (by omega) (by omega)]
theorem add_ell (a b : Int) : adL (a % ell) (b % ell) = adL a b := by unfold adL; rw [← Int.add_emod]
theorem sub_ell (a b : Int) : sbL (a % ell) (b % ell) = sbL a b := by unfold sbL; rw [← Int.sub_emod]
theorem mul_ell (a b : Int) : mlL (a % ell) (b % ell) = mlL a b := by unfold mlL; rw [← Int.mul_emod]
theorem add_ell1 (a b : Int) : adL (a % ell) b = adL a b := by unfold adL; rw [Int.emod_add_emod]
theorem add_bd (a b : Int) : 0 ≤ adL a b ∧ adL a b < ell := bd _
theorem sub_bd (a b : Int) : 0 ≤ sbL a b ∧ sbL a b < ell := bd _
theorem mul_bd (a b : Int) : 0 ≤ mlL a b ∧ mlL a b < ell := bd _
theorem pow_bd (a b : Int) : 0 ≤ pwL a b ∧ pwL a b < ell := bd _
theorem pr_bd (a b : Int) : 0 ≤ prI a b ∧ prI a b < ell := bd _
theorem sub_eq {a b : Int} (ha : 0 ≤ a ∧ a < ell) (hb : 0 ≤ b ∧ b < ell) : sbL a b = if a < b then a - b + ell else a - b := by
  have he := ell_lit
  unfold sbL
  split
  · rw [← Int.add_emod_right (a - b) ell, Int.emod_eq_of_lt (by omega) (by omega)]
  · rw [Int.emod_eq_of_lt (by omega) (by omega)]
theorem lt_r {n : Int} (h : n < ell) : n < 115792089237316195423570985008687907853269984665640564039457584007913129639936 := by rw [ell_lit] at h; omega
theorem orI_comm (a b : Int) : orI .u64 a b = orI .u64 b a := by
  unfold orI
  rw [BitVec.or_comm]
/-- A half. -/
def _root_.Go.Sp.halfI (a : Int) : Int := if a % 2 = 0 then a / 2 else (a + ell) / 2
open Go.Sp (halfI)
theorem half_word {x y u v w : Int} (hx : InR .u64 x) (hy : InR .u64 y) (e1 : u = shrI .u64 x 1) (e2 : v = shlI .u64 y 63) (r1 : InR .u64 u) (r2 : InR .u64 v) (e3 : w = orI .u64 u v) : w = x / 2 + y % 2 * 9223372036854775808 := by
  have h1 := shrI_u64 x 1 (by omega)
  have h2 := shlI_u64 y 63 (by omega)
  have k1 : u = x / 2 := by rw [e1]; exact h1
  have k2 : v = y * 9223372036854775808 % 18446744073709551616 := by rw [e2]; exact h2
  have k3 : v = y % 2 * 9223372036854775808 := by omega
  simp only [InR] at hx
  have := or_add 63 (x := v) (y := u) (z := y % 2) r2 r1 k3 (by rw [k1]; show x / 2 < 9223372036854775808; omega)
  rw [e3, orI_comm, this, k1, k3]
  omega
theorem shr1_word {x u : Int} (e1 : u = shrI .u64 x 1) : u = x / 2 := by
  have h1 := shrI_u64 x 1 (by omega)
  rw [e1]; exact h1

def vc32 (a0 a1 a2 a3 b0 b1 b2 b3 : Int) (K : SV → Prop) (Q : Nat → List Pv → Prop) : Prop := fnVc Γ10 Tryd.f32 [] [.arr .u64 4 true [a0, a1, a2, a3], .arr .u64 4 true [b0, b1, b2, b3]] gh K Q
theorem vc32_eq : ∀ (a0 a1 a2 a3 b0 b1 b2 b3 : Int) (K : SV → Prop) (Q : Nat → List Pv → Prop), vc32 a0 a1 a2 a3 b0 b1 b2 b3 K Q = ∀ (x1 : Int), x1 = w0 (val4 [a0, a1, a2, a3] % (7237005577332262213973186563042994240857116359379907606001950938285454250989 : Int)) → InR IntKind.u64 x1 → ∀ (x2 : Int), x2 = w1 (val4 [a0, a1, a2, a3] % (7237005577332262213973186563042994240857116359379907606001950938285454250989 : Int)) → InR IntKind.u64 x2 → ∀ (x3 : Int), x3 = w2 (val4 [a0, a1, a2, a3] % (7237005577332262213973186563042994240857116359379907606001950938285454250989 : Int)) → InR IntKind.u64 x3 → ∀ (x4 : Int), x4 = w3 (val4 [a0, a1, a2, a3] % (7237005577332262213973186563042994240857116359379907606001950938285454250989 : Int)) → InR IntKind.u64 x4 → ∀ (x5 : Int), x5 = w0 (val4 [b0, b1, b2, b3] % (7237005577332262213973186563042994240857116359379907606001950938285454250989 : Int)) → InR IntKind.u64 x5 → ∀ (x6 : Int), x6 = w1 (val4 [b0, b1, b2, b3] % (7237005577332262213973186563042994240857116359379907606001950938285454250989 : Int)) → InR IntKind.u64 x6 → ∀ (x7 : Int), x7 = w2 (val4 [b0, b1, b2, b3] % (7237005577332262213973186563042994240857116359379907606001950938285454250989 : Int)) → InR IntKind.u64 x7 → ∀ (x8 : Int), x8 = w3 (val4 [b0, b1, b2, b3] % (7237005577332262213973186563042994240857116359379907606001950938285454250989 : Int)) → InR IntKind.u64 x8 → ∀ (x9 : Int), x9 = w0 (val4 [x1, x2, x3, x4] + val4 [x5, x6, x7, x8]) → InR IntKind.u64 x9 → ∀ (x10 : Int), x10 = w1 (val4 [x1, x2, x3, x4] + val4 [x5, x6, x7, x8]) → InR IntKind.u64 x10 → ∀ (x11 : Int), x11 = w2 (val4 [x1, x2, x3, x4] + val4 [x5, x6, x7, x8]) → InR IntKind.u64 x11 → ∀ (x12 : Int), x12 = w3 (val4 [x1, x2, x3, x4] + val4 [x5, x6, x7, x8]) → InR IntKind.u64 x12 → ∀ (x13 : Int), x13 = (val4 [x1, x2, x3, x4] + val4 [x5, x6, x7, x8]) / (115792089237316195423570985008687907853269984665640564039457584007913129639936 : Int) → InR IntKind.u64 x13 → ∀ (x14 : Int), x14 = w0 (lowI (val4 [x9, x10, x11, x12])) → InR IntKind.u64 x14 → ∀ (x15 : Int), x15 = w1 (lowI (val4 [x9, x10, x11, x12])) → InR IntKind.u64 x15 → ∀ (x16 : Int), x16 = w2 (lowI (val4 [x9, x10, x11, x12])) → InR IntKind.u64 x16 → ∀ (x17 : Int), x17 = w3 (lowI (val4 [x9, x10, x11, x12])) → InR IntKind.u64 x17 → K (SV.arr IntKind.u64 (4 : Nat) true [x14, x15, x16, x17]) := by
  intros
  kernel_rfl

def addS : List SV → Option (List Prop × SV)
  | [.arr .u64 4 _ aL, .arr .u64 4 _ bL] => some ([], .arr .u64 4 true (words4 (adL (val4 aL) (val4 bL))))
  | _ => none

theorem add_ok : CallOk Tryd.prog gh 32 (pureCtr addS) := by
  refine call_pure (fn := Tryd.f32) Γ10_ok rfl (by kernel_rfl) (by kernel_rfl) (by kernel_rfl) addS fun args P0 Y0 hs hp hf => ?_
  unfold addS at hs
  split at hs
  · rename_i ea aL eb bL
    simp only [Option.some.injEq, Prod.mk.injEq] at hs
    obtain ⟨rfl, rfl⟩ := hs
    simp only [FactVs, FactV] at hf
    obtain ⟨⟨hal, ha⟩, ⟨hbl, hb⟩, _⟩ := hf
    obtain ⟨a0, a1, a2, a3, rfl⟩ := len4 hal
    have ia0 := ha a0 (by simp); have ia1 := ha a1 (by simp); have ia2 := ha a2 (by simp); have ia3 := ha a3 (by simp)
    obtain ⟨b0, b1, b2, b3, rfl⟩ := len4 hbl
    have ib0 := hb b0 (by simp); have ib1 := hb b1 (by simp); have ib2 := hb b2 (by simp); have ib3 := hb b3 (by simp)
    refine ⟨[.arr .u64 4 true [a0, a1, a2, a3], .arr .u64 4 true [b0, b1, b2, b3]], [], _, ⟨rfl, rfl, trivial⟩, Nat.le_of_ble_eq_true (by kernel_rfl), vc_noloops ?_⟩
    show vc32 a0 a1 a2 a3 b0 b1 b2 b3 _ _
    rw [vc32_eq]
    rw [← ell_lit]
    intro x1 e1 r1 x2 e2 r2 x3 e3 r3 x4 e4 r4 x5 e5 r5 x6 e6 r6 x7 e7 r7 x8 e8 r8 x9 e9 r9 x10 e10 r10 x11 e11 r11 x12 e12 r12 x13 e13 r13 x14 e14 r14 x15 e15 r15 x16 e16 r16 x17 e17 r17
    have hA := val_ell e1 e2 e3 e4
    have hB := val_ell e5 e6 e7 e8
    have bA := mod_bd (val4 [a0, a1, a2, a3])
    have bB := mod_bd (val4 [b0, b1, b2, b3])
    rw [hA, hB] at e9 e10 e11 e12
    have hS := val_in e9 e10 e11 e12 (by omega) (by rw [ell_lit] at *; omega)
    rw [hS, low_add bA bB, show (val4 [a0, a1, a2, a3] % ell + val4 [b0, b1, b2, b3] % ell) % ell = adL (val4 [a0, a1, a2, a3]) (val4 [b0, b1, b2, b3]) from add_ell _ _] at e14 e15 e16 e17
    show [x14, x15, x16, x17] = words4 (adL (val4 [a0, a1, a2, a3]) (val4 [b0, b1, b2, b3]))
    rw [e14, e15, e16, e17]; rfl
  · cases hs

def vc34 (a0 a1 a2 a3 b0 b1 b2 b3 : Int) (K : SV → Prop) (Q : Nat → List Pv → Prop) : Prop := fnVc Γ10 Tryd.f34 [] [.arr .u64 4 true [a0, a1, a2, a3], .arr .u64 4 true [b0, b1, b2, b3]] gh K Q
theorem vc34_eq : ∀ (a0 a1 a2 a3 b0 b1 b2 b3 : Int) (K : SV → Prop) (Q : Nat → List Pv → Prop), vc34 a0 a1 a2 a3 b0 b1 b2 b3 K Q = ∀ (x1 : Int), x1 = w0 (val4 [a0, a1, a2, a3] % (7237005577332262213973186563042994240857116359379907606001950938285454250989 : Int)) → InR IntKind.u64 x1 → ∀ (x2 : Int), x2 = w1 (val4 [a0, a1, a2, a3] % (7237005577332262213973186563042994240857116359379907606001950938285454250989 : Int)) → InR IntKind.u64 x2 → ∀ (x3 : Int), x3 = w2 (val4 [a0, a1, a2, a3] % (7237005577332262213973186563042994240857116359379907606001950938285454250989 : Int)) → InR IntKind.u64 x3 → ∀ (x4 : Int), x4 = w3 (val4 [a0, a1, a2, a3] % (7237005577332262213973186563042994240857116359379907606001950938285454250989 : Int)) → InR IntKind.u64 x4 → ∀ (x5 : Int), x5 = w0 (val4 [b0, b1, b2, b3] % (7237005577332262213973186563042994240857116359379907606001950938285454250989 : Int)) → InR IntKind.u64 x5 → ∀ (x6 : Int), x6 = w1 (val4 [b0, b1, b2, b3] % (7237005577332262213973186563042994240857116359379907606001950938285454250989 : Int)) → InR IntKind.u64 x6 → ∀ (x7 : Int), x7 = w2 (val4 [b0, b1, b2, b3] % (7237005577332262213973186563042994240857116359379907606001950938285454250989 : Int)) → InR IntKind.u64 x7 → ∀ (x8 : Int), x8 = w3 (val4 [b0, b1, b2, b3] % (7237005577332262213973186563042994240857116359379907606001950938285454250989 : Int)) → InR IntKind.u64 x8 → ∀ (x9 : Int), x9 = w0 (val4 [x1, x2, x3, x4] - val4 [x5, x6, x7, x8]) → InR IntKind.u64 x9 → ∀ (x10 : Int), x10 = w1 (val4 [x1, x2, x3, x4] - val4 [x5, x6, x7, x8]) → InR IntKind.u64 x10 → ∀ (x11 : Int), x11 = w2 (val4 [x1, x2, x3, x4] - val4 [x5, x6, x7, x8]) → InR IntKind.u64 x11 → ∀ (x12 : Int), x12 = w3 (val4 [x1, x2, x3, x4] - val4 [x5, x6, x7, x8]) → InR IntKind.u64 x12 → ∀ (x13 : Int), x13 = ltI (val4 [x1, x2, x3, x4]) (val4 [x5, x6, x7, x8]) → InR IntKind.u64 x13 → ∀ (x14 : Int), x14 = w0 (val4 [x9, x10, x11, x12] + (7237005577332262213973186563042994240857116359379907606001950938285454250989 : Int)) → InR IntKind.u64 x14 → ∀ (x15 : Int), x15 = w1 (val4 [x9, x10, x11, x12] + (7237005577332262213973186563042994240857116359379907606001950938285454250989 : Int)) → InR IntKind.u64 x15 → ∀ (x16 : Int), x16 = w2 (val4 [x9, x10, x11, x12] + (7237005577332262213973186563042994240857116359379907606001950938285454250989 : Int)) → InR IntKind.u64 x16 → ∀ (x17 : Int), x17 = w3 (val4 [x9, x10, x11, x12] + (7237005577332262213973186563042994240857116359379907606001950938285454250989 : Int)) → InR IntKind.u64 x17 → ∀ (x18 : Int), x18 = (val4 [x9, x10, x11, x12] + (7237005577332262213973186563042994240857116359379907606001950938285454250989 : Int)) / (115792089237316195423570985008687907853269984665640564039457584007913129639936 : Int) → InR IntKind.u64 x18 → ∀ (x19 : Int), x19 = IntKind.u64.wrap ((0 : Int) - x13) → InR IntKind.u64 x19 → Need (x19 = (0 : Int) ∨ x19 = (18446744073709551615 : Int)) ∧ ∀ (x20 : Int), x20 = chI x19 x14 x9 → InR IntKind.u64 x20 → ∀ (x21 : Int), x21 = chI x19 x15 x10 → InR IntKind.u64 x21 → ∀ (x22 : Int), x22 = chI x19 x16 x11 → InR IntKind.u64 x22 → ∀ (x23 : Int), x23 = chI x19 x17 x12 → InR IntKind.u64 x23 → K (SV.arr IntKind.u64 (4 : Nat) true [x20, x21, x22, x23]) := by
  intros
  kernel_rfl

def subS : List SV → Option (List Prop × SV)
  | [.arr .u64 4 _ aL, .arr .u64 4 _ bL] => some ([], .arr .u64 4 true (words4 (sbL (val4 aL) (val4 bL))))
  | _ => none

theorem sub_ok : CallOk Tryd.prog gh 34 (pureCtr subS) := by
  refine call_pure (fn := Tryd.f34) Γ10_ok rfl (by kernel_rfl) (by kernel_rfl) (by kernel_rfl) subS fun args P0 Y0 hs hp hf => ?_
  unfold subS at hs
  split at hs
  · rename_i ea aL eb bL
    simp only [Option.some.injEq, Prod.mk.injEq] at hs
    obtain ⟨rfl, rfl⟩ := hs
    simp only [FactVs, FactV] at hf
    obtain ⟨⟨hal, ha⟩, ⟨hbl, hb⟩, _⟩ := hf
    obtain ⟨a0, a1, a2, a3, rfl⟩ := len4 hal
    have ia0 := ha a0 (by simp); have ia1 := ha a1 (by simp); have ia2 := ha a2 (by simp); have ia3 := ha a3 (by simp)
    obtain ⟨b0, b1, b2, b3, rfl⟩ := len4 hbl
    have ib0 := hb b0 (by simp); have ib1 := hb b1 (by simp); have ib2 := hb b2 (by simp); have ib3 := hb b3 (by simp)
    refine ⟨[.arr .u64 4 true [a0, a1, a2, a3], .arr .u64 4 true [b0, b1, b2, b3]], [], _, ⟨rfl, rfl, trivial⟩, Nat.le_of_ble_eq_true (by kernel_rfl), vc_noloops ?_⟩
    show vc34 a0 a1 a2 a3 b0 b1 b2 b3 _ _
    rw [vc34_eq]
    rw [← ell_lit]
    intro x1 e1 r1 x2 e2 r2 x3 e3 r3 x4 e4 r4 x5 e5 r5 x6 e6 r6 x7 e7 r7 x8 e8 r8 x9 e9 r9 x10 e10 r10 x11 e11 r11 x12 e12 r12 x13 e13 r13 x14 e14 r14 x15 e15 r15 x16 e16 r16 x17 e17 r17 x18 e18 r18 x19 e19 r19
    have hA := val_ell e1 e2 e3 e4
    have hB := val_ell e5 e6 e7 e8
    have bA := mod_bd (val4 [a0, a1, a2, a3])
    have bB := mod_bd (val4 [b0, b1, b2, b3])
    have he := ell_lit
    rw [hA, hB] at e9 e10 e11 e12 e13
    have hD := val_of e9 e10 e11 e12
    have hE := val_of e14 e15 e16 e17
    have hm := mask_ok (by rw [e13]; exact ltI_bit _ _) e19
    refine ⟨by unfold Need; omega, fun x20 e20 r20 x21 e21 r21 x22 e22 r22 x23 e23 r23 => ?_⟩
    show [x20, x21, x22, x23] = words4 (sbL (val4 [a0, a1, a2, a3]) (val4 [b0, b1, b2, b3]))
    refine arr_eq r20 r21 r22 r23 ?_
    rw [← sub_ell, sub_eq bA bB]
    rw [e20, e21, e22, e23]
    generalize val4 [a0, a1, a2, a3] % ell = a at *
    generalize val4 [b0, b1, b2, b3] % ell = b at *
    unfold ltI at e13
    rcases hm with ⟨h0, hm⟩ | ⟨h0, hm⟩
    · have hlt : ¬ a < b := fun h => by rw [if_pos h] at e13; omega
      rw [if_neg hlt]
      simp only [chI, hm, if_true]
      rw [hD]; omega
    · have hlt : a < b := by
        rcases Int.lt_or_le a b with h | h
        · exact h
        · rw [if_neg (Int.not_lt.2 h)] at e13; omega
      rw [if_pos hlt]
      have : ¬ (x19 = 0) := by omega
      simp only [chI, this, if_false]
      rw [hE, hD]; omega
  · cases hs

def vc37 (a0 a1 a2 a3 b0 b1 b2 b3 : Int) (K : SV → Prop) (Q : Nat → List Pv → Prop) : Prop := fnVc Γ10 Tryd.f37 [] [.arr .u64 4 true [a0, a1, a2, a3], .arr .u64 4 true [b0, b1, b2, b3]] gh K Q
theorem vc37_eq : ∀ (a0 a1 a2 a3 b0 b1 b2 b3 : Int) (K : SV → Prop) (Q : Nat → List Pv → Prop), vc37 a0 a1 a2 a3 b0 b1 b2 b3 K Q = ∀ (x1 : Int), x1 = w0 (val4 [a0, a1, a2, a3] % (7237005577332262213973186563042994240857116359379907606001950938285454250989 : Int)) → InR IntKind.u64 x1 → ∀ (x2 : Int), x2 = w1 (val4 [a0, a1, a2, a3] % (7237005577332262213973186563042994240857116359379907606001950938285454250989 : Int)) → InR IntKind.u64 x2 → ∀ (x3 : Int), x3 = w2 (val4 [a0, a1, a2, a3] % (7237005577332262213973186563042994240857116359379907606001950938285454250989 : Int)) → InR IntKind.u64 x3 → ∀ (x4 : Int), x4 = w3 (val4 [a0, a1, a2, a3] % (7237005577332262213973186563042994240857116359379907606001950938285454250989 : Int)) → InR IntKind.u64 x4 → ∀ (x5 : Int), x5 = w0 (val4 [b0, b1, b2, b3] % (7237005577332262213973186563042994240857116359379907606001950938285454250989 : Int)) → InR IntKind.u64 x5 → ∀ (x6 : Int), x6 = w1 (val4 [b0, b1, b2, b3] % (7237005577332262213973186563042994240857116359379907606001950938285454250989 : Int)) → InR IntKind.u64 x6 → ∀ (x7 : Int), x7 = w2 (val4 [b0, b1, b2, b3] % (7237005577332262213973186563042994240857116359379907606001950938285454250989 : Int)) → InR IntKind.u64 x7 → ∀ (x8 : Int), x8 = w3 (val4 [b0, b1, b2, b3] % (7237005577332262213973186563042994240857116359379907606001950938285454250989 : Int)) → InR IntKind.u64 x8 → Need (val4 [x1, x2, x3, x4] < (7237005577332262213973186563042994240857116359379907606001950938285454250989 : Int)) ∧ ∀ (x9 : Int), x9 = w0 (prI (val4 [x1, x2, x3, x4]) (val4 [x5, x6, x7, x8])) → InR IntKind.u64 x9 → ∀ (x10 : Int), x10 = w1 (prI (val4 [x1, x2, x3, x4]) (val4 [x5, x6, x7, x8])) → InR IntKind.u64 x10 → ∀ (x11 : Int), x11 = w2 (prI (val4 [x1, x2, x3, x4]) (val4 [x5, x6, x7, x8])) → InR IntKind.u64 x11 → ∀ (x12 : Int), x12 = w3 (prI (val4 [x1, x2, x3, x4]) (val4 [x5, x6, x7, x8])) → InR IntKind.u64 x12 → Need (val4 [x9, x10, x11, x12] < (7237005577332262213973186563042994240857116359379907606001950938285454250989 : Int)) ∧ ∀ (x13 : Int), x13 = w0 (prI (val4 [x9, x10, x11, x12]) (1627715501170711445284395025044413883736156588369414752970002579683115011841 : Int)) → InR IntKind.u64 x13 → ∀ (x14 : Int), x14 = w1 (prI (val4 [x9, x10, x11, x12]) (1627715501170711445284395025044413883736156588369414752970002579683115011841 : Int)) → InR IntKind.u64 x14 → ∀ (x15 : Int), x15 = w2 (prI (val4 [x9, x10, x11, x12]) (1627715501170711445284395025044413883736156588369414752970002579683115011841 : Int)) → InR IntKind.u64 x15 → ∀ (x16 : Int), x16 = w3 (prI (val4 [x9, x10, x11, x12]) (1627715501170711445284395025044413883736156588369414752970002579683115011841 : Int)) → InR IntKind.u64 x16 → K (SV.arr IntKind.u64 (4 : Nat) true [x13, x14, x15, x16]) := by
  intros
  kernel_rfl

def mulS : List SV → Option (List Prop × SV)
  | [.arr .u64 4 _ aL, .arr .u64 4 _ bL] => some ([], .arr .u64 4 true (words4 (mlL (val4 aL) (val4 bL))))
  | _ => none

theorem mul_ok : CallOk Tryd.prog gh 37 (pureCtr mulS) := by
  refine call_pure (fn := Tryd.f37) Γ10_ok rfl (by kernel_rfl) (by kernel_rfl) (by kernel_rfl) mulS fun args P0 Y0 hs hp hf => ?_
  unfold mulS at hs
  split at hs
  · rename_i ea aL eb bL
    simp only [Option.some.injEq, Prod.mk.injEq] at hs
    obtain ⟨rfl, rfl⟩ := hs
    simp only [FactVs, FactV] at hf
    obtain ⟨⟨hal, ha⟩, ⟨hbl, hb⟩, _⟩ := hf
    obtain ⟨a0, a1, a2, a3, rfl⟩ := len4 hal
    have ia0 := ha a0 (by simp); have ia1 := ha a1 (by simp); have ia2 := ha a2 (by simp); have ia3 := ha a3 (by simp)
    obtain ⟨b0, b1, b2, b3, rfl⟩ := len4 hbl
    have ib0 := hb b0 (by simp); have ib1 := hb b1 (by simp); have ib2 := hb b2 (by simp); have ib3 := hb b3 (by simp)
    refine ⟨[.arr .u64 4 true [a0, a1, a2, a3], .arr .u64 4 true [b0, b1, b2, b3]], [], _, ⟨rfl, rfl, trivial⟩, Nat.le_of_ble_eq_true (by kernel_rfl), vc_noloops ?_⟩
    show vc37 a0 a1 a2 a3 b0 b1 b2 b3 _ _
    rw [vc37_eq]
    rw [← ell_lit]
    intro x1 e1 r1 x2 e2 r2 x3 e3 r3 x4 e4 r4 x5 e5 r5 x6 e6 r6 x7 e7 r7 x8 e8 r8
    have hA := val_ell e1 e2 e3 e4
    have hB := val_ell e5 e6 e7 e8
    rw [hA, hB]
    refine ⟨(mod_bd _).2, fun x9 e9 r9 x10 e10 r10 x11 e11 r11 x12 e12 r12 => ?_⟩
    have hP := val_in e9 e10 e11 e12 (pr_bd _ _).1 (lt_r (pr_bd _ _).2)
    rw [hP]
    refine ⟨(pr_bd _ _).2, fun x13 e13 r13 x14 e14 r14 x15 e15 r15 x16 e16 r16 => ?_⟩
    rw [show (1627715501170711445284395025044413883736156588369414752970002579683115011841 : Int) = Go.Gx.r2 from rfl, mul_mont, mul_ell] at e13 e14 e15 e16
    show [x13, x14, x15, x16] = words4 (mlL (val4 [a0, a1, a2, a3]) (val4 [b0, b1, b2, b3]))
    rw [e13, e14, e15, e16]; rfl
  · cases hs

def vc33 (a0 a1 a2 a3 b0 b1 b2 b3 : Int) (K : SV → Prop) (Q : Nat → List Pv → Prop) : Prop := fnVc Γ10 Tryd.f33 [] [.arr .u64 4 true [a0, a1, a2, a3], .arr .u64 4 true [b0, b1, b2, b3]] gh K Q
theorem vc33_eq : ∀ (a0 a1 a2 a3 b0 b1 b2 b3 : Int) (K : SV → Prop) (Q : Nat → List Pv → Prop), vc33 a0 a1 a2 a3 b0 b1 b2 b3 K Q = ∀ (x1 : Int), x1 = w0 (val4 [a0, a1, a2, a3] + val4 [b0, b1, b2, b3]) → InR IntKind.u64 x1 → ∀ (x2 : Int), x2 = w1 (val4 [a0, a1, a2, a3] + val4 [b0, b1, b2, b3]) → InR IntKind.u64 x2 → ∀ (x3 : Int), x3 = w2 (val4 [a0, a1, a2, a3] + val4 [b0, b1, b2, b3]) → InR IntKind.u64 x3 → ∀ (x4 : Int), x4 = w3 (val4 [a0, a1, a2, a3] + val4 [b0, b1, b2, b3]) → InR IntKind.u64 x4 → ∀ (x5 : Int), x5 = (val4 [a0, a1, a2, a3] + val4 [b0, b1, b2, b3]) / (115792089237316195423570985008687907853269984665640564039457584007913129639936 : Int) → InR IntKind.u64 x5 → ∀ (x6 : Int), x6 = (6346243789798364141 : Int) → InR IntKind.u64 x6 → ∀ (x7 : Int), x7 = (1503914060200516822 : Int) → InR IntKind.u64 x7 → ∀ (x8 : Int), x8 = (0 : Int) → InR IntKind.u64 x8 → ∀ (x9 : Int), x9 = (1152921504606846976 : Int) → InR IntKind.u64 x9 → ∀ (x10 : Bool), x10 = decide (val4 [x1, x2, x3, x4] < val4 [x6, x7, x8, x9]) → ((!x10) = true → ∀ (x11 : Int), x11 = (6346243789798364141 : Int) → InR IntKind.u64 x11 → ∀ (x12 : Int), x12 = (1503914060200516822 : Int) → InR IntKind.u64 x12 → ∀ (x13 : Int), x13 = (0 : Int) → InR IntKind.u64 x13 → ∀ (x14 : Int), x14 = (1152921504606846976 : Int) → InR IntKind.u64 x14 → ∀ (x15 : Int), x15 = w0 (val4 [x1, x2, x3, x4] - val4 [x11, x12, x13, x14]) → InR IntKind.u64 x15 → ∀ (x16 : Int), x16 = w1 (val4 [x1, x2, x3, x4] - val4 [x11, x12, x13, x14]) → InR IntKind.u64 x16 → ∀ (x17 : Int), x17 = w2 (val4 [x1, x2, x3, x4] - val4 [x11, x12, x13, x14]) → InR IntKind.u64 x17 → ∀ (x18 : Int), x18 = w3 (val4 [x1, x2, x3, x4] - val4 [x11, x12, x13, x14]) → InR IntKind.u64 x18 → ∀ (x19 : Int), x19 = ltI (val4 [x1, x2, x3, x4]) (val4 [x11, x12, x13, x14]) → InR IntKind.u64 x19 → K (SV.arr IntKind.u64 (4 : Nat) true [x15, x16, x17, x18])) ∧ ((!x10) = false → K (SV.arr IntKind.u64 (4 : Nat) true [x1, x2, x3, x4])) := by
  intros
  kernel_rfl

def raddS : List SV → Option (List Prop × SV)
  | [.arr .u64 4 _ aL, .arr .u64 4 _ bL] => some ([val4 aL < ell, val4 bL < ell], .arr .u64 4 true (words4 (adL (val4 aL) (val4 bL))))
  | _ => none

theorem radd_ok : CallOk Tryd.prog gh 33 (pureCtr raddS) := by
  refine call_pure (fn := Tryd.f33) Γ10_ok rfl (by kernel_rfl) (by kernel_rfl) (by kernel_rfl) raddS fun args P0 Y0 hs hp hf => ?_
  unfold raddS at hs
  split at hs
  · rename_i ea aL eb bL
    simp only [Option.some.injEq, Prod.mk.injEq] at hs
    obtain ⟨rfl, rfl⟩ := hs
    simp only [FactVs, FactV] at hf
    obtain ⟨⟨hal, ha⟩, ⟨hbl, hb⟩, _⟩ := hf
    obtain ⟨hpa, hpb, _⟩ := hp
    obtain ⟨a0, a1, a2, a3, rfl⟩ := len4 hal
    have ia0 := ha a0 (by simp); have ia1 := ha a1 (by simp); have ia2 := ha a2 (by simp); have ia3 := ha a3 (by simp)
    obtain ⟨b0, b1, b2, b3, rfl⟩ := len4 hbl
    have ib0 := hb b0 (by simp); have ib1 := hb b1 (by simp); have ib2 := hb b2 (by simp); have ib3 := hb b3 (by simp)
    refine ⟨[.arr .u64 4 true [a0, a1, a2, a3], .arr .u64 4 true [b0, b1, b2, b3]], [], _, ⟨rfl, rfl, trivial⟩, Nat.le_of_ble_eq_true (by kernel_rfl), vc_noloops ?_⟩
    show vc33 a0 a1 a2 a3 b0 b1 b2 b3 _ _
    rw [vc33_eq]
    have pA := val_pos ia0 ia1 ia2 ia3
    have pB := val_pos ib0 ib1 ib2 ib3
    have he := ell_lit
    have hlow := low_add ⟨pA.1, hpa⟩ ⟨pB.1, hpb⟩
    generalize val4 [a0, a1, a2, a3] = a at *
    generalize val4 [b0, b1, b2, b3] = b at *
    intro x1 e1 r1 x2 e2 r2 x3 e3 r3 x4 e4 r4 x5 e5 r5 x6 e6 r6 x7 e7 r7 x8 e8 r8 x9 e9 r9 x10 e10
    have hS := val_in e1 e2 e3 e4 (by omega) (by omega)
    have hL : val4 [x6, x7, x8, x9] = ell := by rw [e6, e7, e8, e9]; rfl
    rw [hS, hL] at e10
    unfold lowI at hlow
    refine ⟨fun h => ?_, fun h => ?_⟩
    · intro x11 e11 r11 x12 e12 r12 x13 e13 r13 x14 e14 r14 x15 e15 r15 x16 e16 r16 x17 e17 r17 x18 e18 r18 x19 e19 r19
      have hL' : val4 [x11, x12, x13, x14] = ell := by rw [e11, e12, e13, e14]; rfl
      rw [hS, hL'] at e15 e16 e17 e18
      have hn : ¬ a + b < ell := by rw [e10] at h; simpa using h
      rw [if_neg hn] at hlow
      show [x15, x16, x17, x18] = words4 (adL a b)
      unfold adL
      rw [← hlow, e15, e16, e17, e18]; rfl
    · have hn : a + b < ell := by rw [e10] at h; simpa using h
      rw [if_pos hn] at hlow
      show [x1, x2, x3, x4] = words4 (adL a b)
      unfold adL
      rw [← hlow, e1, e2, e3, e4]; rfl
  · cases hs

def vc36 (a0 a1 a2 a3 : Int) (K : SV → Prop) (Q : Nat → List Pv → Prop) : Prop := fnVc Γ10 Tryd.f36 [] [.arr .u64 4 true [a0, a1, a2, a3]] gh K Q
theorem vc36_eq : ∀ (a0 a1 a2 a3 : Int) (K : SV → Prop) (Q : Nat → List Pv → Prop), vc36 a0 a1 a2 a3 K Q = ∀ (x1 : Bool), x1 = ([a0, a1, a2, a3] == [(0 : Int), (0 : Int), (0 : Int), (0 : Int)]) → (x1 = true → K (SV.arr IntKind.u64 (4 : Nat) true [a0, a1, a2, a3])) ∧ (x1 = false → ∀ (x2 : Int), x2 = (6346243789798364141 : Int) → InR IntKind.u64 x2 → ∀ (x3 : Int), x3 = (1503914060200516822 : Int) → InR IntKind.u64 x3 → ∀ (x4 : Int), x4 = (0 : Int) → InR IntKind.u64 x4 → ∀ (x5 : Int), x5 = (1152921504606846976 : Int) → InR IntKind.u64 x5 → ∀ (x6 : Int), x6 = w0 (val4 [x2, x3, x4, x5] - val4 [a0, a1, a2, a3]) → InR IntKind.u64 x6 → ∀ (x7 : Int), x7 = w1 (val4 [x2, x3, x4, x5] - val4 [a0, a1, a2, a3]) → InR IntKind.u64 x7 → ∀ (x8 : Int), x8 = w2 (val4 [x2, x3, x4, x5] - val4 [a0, a1, a2, a3]) → InR IntKind.u64 x8 → ∀ (x9 : Int), x9 = w3 (val4 [x2, x3, x4, x5] - val4 [a0, a1, a2, a3]) → InR IntKind.u64 x9 → ∀ (x10 : Int), x10 = ltI (val4 [x2, x3, x4, x5]) (val4 [a0, a1, a2, a3]) → InR IntKind.u64 x10 → K (SV.arr IntKind.u64 (4 : Nat) true [x6, x7, x8, x9])) := by
  intros
  kernel_rfl

def rnegS : List SV → Option (List Prop × SV)
  | [.arr .u64 4 _ aL] => some ([val4 aL < ell], .arr .u64 4 true (words4 (sbL 0 (val4 aL))))
  | _ => none

theorem rneg_ok : CallOk Tryd.prog gh 36 (pureCtr rnegS) := by
  refine call_pure (fn := Tryd.f36) Γ10_ok rfl (by kernel_rfl) (by kernel_rfl) (by kernel_rfl) rnegS fun args P0 Y0 hs hp hf => ?_
  unfold rnegS at hs
  split at hs
  · rename_i ea aL
    simp only [Option.some.injEq, Prod.mk.injEq] at hs
    obtain ⟨rfl, rfl⟩ := hs
    simp only [FactVs, FactV] at hf
    obtain ⟨⟨hal, ha⟩, _⟩ := hf
    obtain ⟨hpa, _⟩ := hp
    obtain ⟨a0, a1, a2, a3, rfl⟩ := len4 hal
    have ia0 := ha a0 (by simp); have ia1 := ha a1 (by simp); have ia2 := ha a2 (by simp); have ia3 := ha a3 (by simp)
    refine ⟨[.arr .u64 4 true [a0, a1, a2, a3]], [], _, ⟨rfl, trivial⟩, Nat.le_of_ble_eq_true (by kernel_rfl), vc_noloops ?_⟩
    show vc36 a0 a1 a2 a3 _ _
    rw [vc36_eq]
    have pA := val_pos ia0 ia1 ia2 ia3
    have he := ell_lit
    have hz : ([a0, a1, a2, a3] == [0, 0, 0, 0]) = true ↔ val4 [a0, a1, a2, a3] = 0 := by
      simp only [InR] at ia0 ia1 ia2 ia3
      rw [beq_iff_eq]
      simp only [List.cons.injEq, and_true, val4]
      omega
    have hsub := sub_eq (a := 0) (b := val4 [a0, a1, a2, a3]) ⟨by omega, by rw [he]; decide⟩ ⟨pA.1, hpa⟩
    intro x1 e1
    refine ⟨fun h => ?_, fun h => ?_⟩
    · have h0 := hz.1 (by rw [← e1]; exact h)
      refine arr_eq ia0 ia1 ia2 ia3 ?_
      rw [hsub, if_neg (by omega)]; omega
    · have h0 : ¬ val4 [a0, a1, a2, a3] = 0 := fun e => by rw [e1, hz.2 e] at h; cases h
      intro x2 e2 r2 x3 e3 r3 x4 e4 r4 x5 e5 r5 x6 e6 r6 x7 e7 r7 x8 e8 r8 x9 e9 r9 x10 e10 r10
      have hL : val4 [x2, x3, x4, x5] = ell := by rw [e2, e3, e4, e5]; rfl
      rw [hL] at e6 e7 e8 e9
      have hS := val_in e6 e7 e8 e9 (by omega) (by omega)
      refine arr_eq r6 r7 r8 r9 ?_
      rw [hS, hsub, if_pos (by omega)]; omega
  · cases hs

def vc79 (a0 a1 a2 a3 : Int) (K : SV → Prop) (Q : Nat → List Pv → Prop) : Prop := fnVc Γ10 Tryd.f79 [] [.arr .u64 4 true [a0, a1, a2, a3]] gh K Q
theorem vc79_eq : ∀ (a0 a1 a2 a3 : Int) (K : SV → Prop) (Q : Nat → List Pv → Prop), vc79 a0 a1 a2 a3 K Q = ∀ (x1 : Int), x1 = andI IntKind.u64 a0 (4294967295 : Int) → InR IntKind.u64 x1 → ∀ (x2 : Int), x2 = shrI IntKind.u64 a0 (32 : Int) → InR IntKind.u64 x2 → ∀ (x3 : Int), x3 = andI IntKind.u64 a1 (4294967295 : Int) → InR IntKind.u64 x3 → ∀ (x4 : Int), x4 = shrI IntKind.u64 a1 (32 : Int) → InR IntKind.u64 x4 → ∀ (x5 : Int), x5 = andI IntKind.u64 a2 (4294967295 : Int) → InR IntKind.u64 x5 → ∀ (x6 : Int), x6 = shrI IntKind.u64 a2 (32 : Int) → InR IntKind.u64 x6 → ∀ (x7 : Int), x7 = andI IntKind.u64 a3 (4294967295 : Int) → InR IntKind.u64 x7 → ∀ (x8 : Int), x8 = shrI IntKind.u64 a3 (32 : Int) → InR IntKind.u64 x8 → K (SV.arr IntKind.u64 (8 : Nat) true [x1, x2, x3, x4, x5, x6, x7, x8]) := by
  intros
  kernel_rfl

def halvesS : List SV → Option (List Prop × SV)
  | [.arr .u64 4 _ aL] => some ([], .arr .u64 8 true [ge aL 0 % 4294967296, ge aL 0 / 4294967296, ge aL 1 % 4294967296, ge aL 1 / 4294967296, ge aL 2 % 4294967296, ge aL 2 / 4294967296, ge aL 3 % 4294967296, ge aL 3 / 4294967296])
  | _ => none

theorem halves_ok : CallOk Tryd.prog gh 79 (pureCtr halvesS) := by
  refine call_pure (fn := Tryd.f79) Γ10_ok rfl (by kernel_rfl) (by kernel_rfl) (by kernel_rfl) halvesS fun args P0 Y0 hs hp hf => ?_
  unfold halvesS at hs
  split at hs
  · rename_i ea aL
    simp only [Option.some.injEq, Prod.mk.injEq] at hs
    obtain ⟨rfl, rfl⟩ := hs
    simp only [FactVs, FactV] at hf
    obtain ⟨⟨hal, ha⟩, _⟩ := hf
    obtain ⟨a0, a1, a2, a3, rfl⟩ := len4 hal
    have ia0 := ha a0 (by simp); have ia1 := ha a1 (by simp); have ia2 := ha a2 (by simp); have ia3 := ha a3 (by simp)
    refine ⟨[.arr .u64 4 true [a0, a1, a2, a3]], [], _, ⟨rfl, trivial⟩, Nat.le_of_ble_eq_true (by kernel_rfl), vc_noloops ?_⟩
    show vc79 a0 a1 a2 a3 _ _
    rw [vc79_eq]
    intro x1 e1 r1 x2 e2 r2 x3 e3 r3 x4 e4 r4 x5 e5 r5 x6 e6 r6 x7 e7 r7 x8 e8 r8
    rw [and32 ia0] at e1
    rw [and32 ia1] at e3
    rw [and32 ia2] at e5
    rw [and32 ia3] at e7
    rw [shr32] at e2 e4 e6 e8
    show [x1, x2, x3, x4, x5, x6, x7, x8] = [a0 % 4294967296, a0 / 4294967296, a1 % 4294967296, a1 / 4294967296, a2 % 4294967296, a2 / 4294967296, a3 % 4294967296, a3 / 4294967296]
    rw [e1, e2, e3, e4, e5, e6, e7, e8]
  · cases hs

def vc52 (x : Int) (K : SV → Prop) (Q : Nat → List Pv → Prop) : Prop := fnVc Γ10 Tryd.f52 [] [.i .u64 ⟨false, x⟩] gh K Q
theorem vc52_eq : ∀ (x : Int) (K : SV → Prop) (Q : Nat → List Pv → Prop), vc52 x K Q = K (SV.arr IntKind.u64 (4 : Nat) true [x, (0 : Int), (0 : Int), (0 : Int)]) := by
  intros
  kernel_rfl

def intS : List SV → Option (List Prop × SV)
  | [.i .u64 xV] => some ([], .arr .u64 4 true [xV.z, 0, 0, 0])
  | _ => none

theorem int_ok : CallOk Tryd.prog gh 52 (pureCtr intS) := by
  refine call_pure (fn := Tryd.f52) Γ10_ok rfl (by kernel_rfl) (by kernel_rfl) (by kernel_rfl) intS fun args P0 Y0 hs hp hf => ?_
  unfold intS at hs
  split at hs
  · rename_i xV
    simp only [Option.some.injEq, Prod.mk.injEq] at hs
    obtain ⟨rfl, rfl⟩ := hs
    simp only [FactVs, FactV] at hf
    obtain ⟨hx, _⟩ := hf
    refine ⟨[.i .u64 ⟨false, xV.z⟩], [], _, ⟨rfl, trivial⟩, Nat.le_of_ble_eq_true (by kernel_rfl), vc_noloops ?_⟩
    show vc52 xV.z _ _
    rw [vc52_eq]
    generalize xV.z = x at *
    exact rfl
  · cases hs

def vc53 (x : Int) (K : SV → Prop) (Q : Nat → List Pv → Prop) : Prop := fnVc Γ10 Tryd.f53 [] [.i .u64 ⟨false, x⟩] gh K Q
theorem vc53_eq : ∀ (x : Int) (K : SV → Prop) (Q : Nat → List Pv → Prop), vc53 x K Q = K (SV.arr IntKind.u64 (4 : Nat) true [x, (0 : Int), (0 : Int), (0 : Int)]) := by
  intros
  kernel_rfl

def rintS : List SV → Option (List Prop × SV)
  | [.i .u64 xV] => some ([], .arr .u64 4 true [xV.z, 0, 0, 0])
  | _ => none

theorem rint_ok : CallOk Tryd.prog gh 53 (pureCtr rintS) := by
  refine call_pure (fn := Tryd.f53) Γ10_ok rfl (by kernel_rfl) (by kernel_rfl) (by kernel_rfl) rintS fun args P0 Y0 hs hp hf => ?_
  unfold rintS at hs
  split at hs
  · rename_i xV
    simp only [Option.some.injEq, Prod.mk.injEq] at hs
    obtain ⟨rfl, rfl⟩ := hs
    simp only [FactVs, FactV] at hf
    obtain ⟨hx, _⟩ := hf
    refine ⟨[.i .u64 ⟨false, xV.z⟩], [], _, ⟨rfl, trivial⟩, Nat.le_of_ble_eq_true (by kernel_rfl), vc_noloops ?_⟩
    show vc53 xV.z _ _
    rw [vc53_eq]
    generalize xV.z = x at *
    exact rfl
  · cases hs

def vc51 (a0 a1 a2 a3 : Int) (K : SV → Prop) (Q : Nat → List Pv → Prop) : Prop := fnVc Γ10 Tryd.f51 [] [.arr .u64 4 true [a0, a1, a2, a3]] gh K Q
theorem vc51_eq : ∀ (a0 a1 a2 a3 : Int) (K : SV → Prop) (Q : Nat → List Pv → Prop), vc51 a0 a1 a2 a3 K Q = K (SV.arr IntKind.u64 (4 : Nat) true [(1 : Int), (0 : Int), (0 : Int), (0 : Int)]) := by
  intros
  kernel_rfl

def oneS : List SV → Option (List Prop × SV)
  | [.arr .u64 4 _ aL] => some ([], .arr .u64 4 true [1, 0, 0, 0])
  | _ => none

theorem one_ok : CallOk Tryd.prog gh 51 (pureCtr oneS) := by
  refine call_pure (fn := Tryd.f51) Γ10_ok rfl (by kernel_rfl) (by kernel_rfl) (by kernel_rfl) oneS fun args P0 Y0 hs hp hf => ?_
  unfold oneS at hs
  split at hs
  · rename_i ea aL
    simp only [Option.some.injEq, Prod.mk.injEq] at hs
    obtain ⟨rfl, rfl⟩ := hs
    simp only [FactVs, FactV] at hf
    obtain ⟨⟨hal, ha⟩, _⟩ := hf
    obtain ⟨a0, a1, a2, a3, rfl⟩ := len4 hal
    have ia0 := ha a0 (by simp); have ia1 := ha a1 (by simp); have ia2 := ha a2 (by simp); have ia3 := ha a3 (by simp)
    refine ⟨[.arr .u64 4 true [a0, a1, a2, a3]], [], _, ⟨rfl, trivial⟩, Nat.le_of_ble_eq_true (by kernel_rfl), vc_noloops ?_⟩
    show vc51 a0 a1 a2 a3 _ _
    rw [vc51_eq]
    exact rfl
  · cases hs

def vc82 (a0 a1 a2 a3 : Int) (K : SV → Prop) (Q : Nat → List Pv → Prop) : Prop := fnVc Γ10 Tryd.f82 [] [.arr .u64 4 true [a0, a1, a2, a3]] gh K Q
theorem vc82_eq : ∀ (a0 a1 a2 a3 : Int) (K : SV → Prop) (Q : Nat → List Pv → Prop), vc82 a0 a1 a2 a3 K Q = ∀ (x1 : Int), x1 = andI IntKind.u64 a0 (1 : Int) → InR IntKind.u64 x1 → ((x1 == (1 : Int)) = true → ∀ (x2 : Int), x2 = (6346243789798364141 : Int) → InR IntKind.u64 x2 → ∀ (x3 : Int), x3 = (1503914060200516822 : Int) → InR IntKind.u64 x3 → ∀ (x4 : Int), x4 = (0 : Int) → InR IntKind.u64 x4 → ∀ (x5 : Int), x5 = (1152921504606846976 : Int) → InR IntKind.u64 x5 → ∀ (x6 : Int), x6 = w0 (val4 [a0, a1, a2, a3] + val4 [x2, x3, x4, x5]) → InR IntKind.u64 x6 → ∀ (x7 : Int), x7 = w1 (val4 [a0, a1, a2, a3] + val4 [x2, x3, x4, x5]) → InR IntKind.u64 x7 → ∀ (x8 : Int), x8 = w2 (val4 [a0, a1, a2, a3] + val4 [x2, x3, x4, x5]) → InR IntKind.u64 x8 → ∀ (x9 : Int), x9 = w3 (val4 [a0, a1, a2, a3] + val4 [x2, x3, x4, x5]) → InR IntKind.u64 x9 → ∀ (x10 : Int), x10 = (val4 [a0, a1, a2, a3] + val4 [x2, x3, x4, x5]) / (115792089237316195423570985008687907853269984665640564039457584007913129639936 : Int) → InR IntKind.u64 x10 → ∀ (x11 : Int), x11 = shrI IntKind.u64 x6 (1 : Int) → InR IntKind.u64 x11 → ∀ (x12 : Int), x12 = shlI IntKind.u64 x7 (63 : Int) → InR IntKind.u64 x12 → ∀ (x13 : Int), x13 = orI IntKind.u64 x11 x12 → InR IntKind.u64 x13 → ∀ (x14 : Int), x14 = shrI IntKind.u64 x7 (1 : Int) → InR IntKind.u64 x14 → ∀ (x15 : Int), x15 = shlI IntKind.u64 x8 (63 : Int) → InR IntKind.u64 x15 → ∀ (x16 : Int), x16 = orI IntKind.u64 x14 x15 → InR IntKind.u64 x16 → ∀ (x17 : Int), x17 = shrI IntKind.u64 x8 (1 : Int) → InR IntKind.u64 x17 → ∀ (x18 : Int), x18 = shlI IntKind.u64 x9 (63 : Int) → InR IntKind.u64 x18 → ∀ (x19 : Int), x19 = orI IntKind.u64 x17 x18 → InR IntKind.u64 x19 → ∀ (x20 : Int), x20 = shrI IntKind.u64 x9 (1 : Int) → InR IntKind.u64 x20 → ∀ (x21 : Int), x21 = shlI IntKind.u64 x10 (63 : Int) → InR IntKind.u64 x21 → ∀ (x22 : Int), x22 = orI IntKind.u64 x20 x21 → InR IntKind.u64 x22 → K (SV.arr IntKind.u64 (4 : Nat) true [x13, x16, x19, x22])) ∧ ((x1 == (1 : Int)) = false → ∀ (x23 : Int), x23 = shrI IntKind.u64 a0 (1 : Int) → InR IntKind.u64 x23 → ∀ (x24 : Int), x24 = shlI IntKind.u64 a1 (63 : Int) → InR IntKind.u64 x24 → ∀ (x25 : Int), x25 = orI IntKind.u64 x23 x24 → InR IntKind.u64 x25 → ∀ (x26 : Int), x26 = shrI IntKind.u64 a1 (1 : Int) → InR IntKind.u64 x26 → ∀ (x27 : Int), x27 = shlI IntKind.u64 a2 (63 : Int) → InR IntKind.u64 x27 → ∀ (x28 : Int), x28 = orI IntKind.u64 x26 x27 → InR IntKind.u64 x28 → ∀ (x29 : Int), x29 = shrI IntKind.u64 a2 (1 : Int) → InR IntKind.u64 x29 → ∀ (x30 : Int), x30 = shlI IntKind.u64 a3 (63 : Int) → InR IntKind.u64 x30 → ∀ (x31 : Int), x31 = orI IntKind.u64 x29 x30 → InR IntKind.u64 x31 → ∀ (x32 : Int), x32 = shrI IntKind.u64 a3 (1 : Int) → InR IntKind.u64 x32 → ∀ (x33 : Int), x33 = orI IntKind.u64 x32 (0 : Int) → InR IntKind.u64 x33 → K (SV.arr IntKind.u64 (4 : Nat) true [x25, x28, x31, x33])) := by
  intros
  kernel_rfl

def halfS : List SV → Option (List Prop × SV)
  | [.arr .u64 4 _ aL] => some ([], .arr .u64 4 true (words4 (halfI (val4 aL))))
  | _ => none

theorem half_ok : CallOk Tryd.prog gh 82 (pureCtr halfS) := by
  refine call_pure (fn := Tryd.f82) Γ10_ok rfl (by kernel_rfl) (by kernel_rfl) (by kernel_rfl) halfS fun args P0 Y0 hs hp hf => ?_
  unfold halfS at hs
  split at hs
  · rename_i ea aL
    simp only [Option.some.injEq, Prod.mk.injEq] at hs
    obtain ⟨rfl, rfl⟩ := hs
    simp only [FactVs, FactV] at hf
    obtain ⟨⟨hal, ha⟩, _⟩ := hf
    obtain ⟨a0, a1, a2, a3, rfl⟩ := len4 hal
    have ia0 := ha a0 (by simp); have ia1 := ha a1 (by simp); have ia2 := ha a2 (by simp); have ia3 := ha a3 (by simp)
    refine ⟨[.arr .u64 4 true [a0, a1, a2, a3]], [], _, ⟨rfl, trivial⟩, Nat.le_of_ble_eq_true (by kernel_rfl), vc_noloops ?_⟩
    show vc82 a0 a1 a2 a3 _ _
    rw [vc82_eq]
    have he := ell_lit
    have hodd : a0 % 2 = val4 [a0, a1, a2, a3] % 2 := by simp only [val4]; omega
    intro x1 e1 r1
    rw [and1 ia0, hodd] at e1
    refine ⟨fun h => ?_, fun h => ?_⟩
    · have h1 : x1 = 1 := by simpa using h
      intro x2 e2 r2 x3 e3 r3 x4 e4 r4 x5 e5 r5 x6 e6 r6 x7 e7 r7 x8 e8 r8 x9 e9 r9 x10 e10 r10 x11 e11 r11 x12 e12 r12 x13 e13 r13 x14 e14 r14 x15 e15 r15 x16 e16 r16 x17 e17 r17 x18 e18 r18 x19 e19 r19 x20 e20 r20 x21 e21 r21 x22 e22 r22
      have hL : val4 [x2, x3, x4, x5] = ell := by rw [e2, e3, e4, e5]; rfl
      rw [hL] at e6 e7 e8 e9 e10
      have hS := val_of e6 e7 e8 e9
      have q13 := half_word r6 r7 e11 e12 r11 r12 e13
      have q16 := half_word r7 r8 e14 e15 r14 r15 e16
      have q19 := half_word r8 r9 e17 e18 r17 r18 e19
      have q22 := half_word r9 r10 e20 e21 r20 r21 e22
      refine arr_eq r13 r16 r19 r22 ?_
      unfold halfI
      rw [if_neg (by omega)]
      have pA := val_pos ia0 ia1 ia2 ia3
      simp only [InR] at r6 r7 r8 r9 r10
      generalize val4 [a0, a1, a2, a3] = a at *
      simp only [val4] at hS ⊢
      clear e1 e2 e3 e4 e5 e6 e7 e8 e9 e11 e12 e13 e14 e15 e16 e17 e18 e19 e20 e21 e22 hL
      omega
    · have h1 : ¬ x1 = 1 := by simpa using h
      intro x23 e23 r23 x24 e24 r24 x25 e25 r25 x26 e26 r26 x27 e27 r27 x28 e28 r28 x29 e29 r29 x30 e30 r30 x31 e31 r31 x32 e32 r32 x33 e33 r33
      have q25 := half_word ia0 ia1 e23 e24 r23 r24 e25
      have q28 := half_word ia1 ia2 e26 e27 r26 r27 e28
      have q31 := half_word ia2 ia3 e29 e30 r29 r30 e31
      have q32 := shr1_word e32
      have q33 : x33 = x32 := by
        rw [e33]
        have := or_add 64 (x := 0) (y := x32) (z := 0) ⟨by omega, by omega⟩ r32 (by omega) r32.2
        rw [orI_comm, this]; omega
      refine arr_eq r25 r28 r31 r33 ?_
      unfold halfI
      rw [if_pos (by omega)]
      simp only [val4]
      omega
  · cases hs

def Γ11 : Tab := ⟨tys, [(32, pureCtr addS), (34, pureCtr subS), (37, pureCtr mulS), (33, pureCtr raddS), (36, pureCtr rnegS), (79, pureCtr halvesS), (52, pureCtr intS), (53, pureCtr rintS), (51, pureCtr oneS), (82, pureCtr halfS)] ++ Γ10.ctr, [0], gh⟩
theorem Γ11_ok : TabOk Tryd.prog Γ11 := (((((((((Γ10_ok.cons half_ok).cons one_ok).cons rint_ok).cons int_ok).cons halves_ok).cons rneg_ok).cons radd_ok).cons mul_ok).cons sub_ok).cons add_ok
end Go.Gx

/- Negatives; the document's difference and product. -/
namespace Go.Gx
open Go.Proofs Go.Sp
open Go.Sp (prI mlL adL sbL pwL)
set_option linter.unusedVariables false

theorem piece {x y p c m s t q d : Int} (hx : 0 ≤ x ∧ x < 4294967296) (hy : 0 ≤ y ∧ y < 4294967296) (hp : 0 ≤ p ∧ p < 4294967296) (hc : 0 ≤ c ∧ c < 4294967296) (em : m = IntKind.u64.wrap (x * y)) (es : s = IntKind.u64.wrap (m + p)) (et : t = IntKind.u64.wrap (s + c)) (eq : q = andI .u64 t 4294967295) (rt : InR .u64 t) (ed : d = shrI .u64 t 32) :
    x * y + p + c = q + 4294967296 * d ∧ (0 ≤ q ∧ q < 4294967296) ∧ (0 ≤ d ∧ d < 4294967296) := by
  rw [wrap_u64] at em es et
  rw [and32 rt] at eq
  rw [shr32] at ed
  have hb : 0 ≤ x * y ∧ x * y ≤ 18446744065119617025 := ⟨Int.mul_nonneg hx.1 hy.1, Int.le_trans (Int.mul_le_mul (show x ≤ 4294967295 by omega) (show y ≤ 4294967295 by omega) hy.1 (by omega)) (by decide)⟩
  simp only [InR] at rt
  generalize x * y = z at *
  omega

theorem row_law {x y0 y1 y2 y3 y4 y5 y6 y7 p0 p1 p2 p3 p4 p5 p6 p7 q0 q1 q2 q3 q4 q5 q6 q7 c1 c2 c3 c4 c5 c6 c7 c8 : Int} (h0 : x * y0 + p0 + 0 = q0 + 4294967296 * c1) (h1 : x * y1 + p1 + c1 = q1 + 4294967296 * c2) (h2 : x * y2 + p2 + c2 = q2 + 4294967296 * c3) (h3 : x * y3 + p3 + c3 = q3 + 4294967296 * c4) (h4 : x * y4 + p4 + c4 = q4 + 4294967296 * c5) (h5 : x * y5 + p5 + c5 = q5 + 4294967296 * c6) (h6 : x * y6 + p6 + c6 = q6 + 4294967296 * c7) (h7 : x * y7 + p7 + c7 = q7 + 4294967296 * c8) :
    q0 + 4294967296 * q1 + 18446744073709551616 * q2 + 79228162514264337593543950336 * q3 + 340282366920938463463374607431768211456 * q4 + 1461501637330902918203684832716283019655932542976 * q5 + 6277101735386680763835789423207666416102355444464034512896 * q6 + 26959946667150639794667015087019630673637144422540572481103610249216 * q7 + 115792089237316195423570985008687907853269984665640564039457584007913129639936 * c8 = (p0 + 4294967296 * p1 + 18446744073709551616 * p2 + 79228162514264337593543950336 * p3 + 340282366920938463463374607431768211456 * p4 + 1461501637330902918203684832716283019655932542976 * p5 + 6277101735386680763835789423207666416102355444464034512896 * p6 + 26959946667150639794667015087019630673637144422540572481103610249216 * p7) + x * (y0 + 4294967296 * y1 + 18446744073709551616 * y2 + 79228162514264337593543950336 * y3 + 340282366920938463463374607431768211456 * y4 + 1461501637330902918203684832716283019655932542976 * y5 + 6277101735386680763835789423207666416102355444464034512896 * y6 + 26959946667150639794667015087019630673637144422540572481103610249216 * y7) := by
  simp only [Int.mul_add, Int.mul_left_comm x]
  generalize x * y0 = z0 at *
  generalize x * y1 = z1 at *
  generalize x * y2 = z2 at *
  generalize x * y3 = z3 at *
  generalize x * y4 = z4 at *
  generalize x * y5 = z5 at *
  generalize x * y6 = z6 at *
  generalize x * y7 = z7 at *
  omega

theorem rows_law {g0 g1 g2 g3 g4 g5 g6 g7 Y u0_0 u0_1 u0_2 u0_3 u0_4 u0_5 u0_6 u0_7 k0 u1_0 u1_1 u1_2 u1_3 u1_4 u1_5 u1_6 u1_7 k1 u2_0 u2_1 u2_2 u2_3 u2_4 u2_5 u2_6 u2_7 k2 u3_0 u3_1 u3_2 u3_3 u3_4 u3_5 u3_6 u3_7 k3 u4_0 u4_1 u4_2 u4_3 u4_4 u4_5 u4_6 u4_7 k4 u5_0 u5_1 u5_2 u5_3 u5_4 u5_5 u5_6 u5_7 k5 u6_0 u6_1 u6_2 u6_3 u6_4 u6_5 u6_6 u6_7 k6 u7_0 u7_1 u7_2 u7_3 u7_4 u7_5 u7_6 u7_7 k7 : Int} (h0 : u0_0 + 4294967296 * u0_1 + 18446744073709551616 * u0_2 + 79228162514264337593543950336 * u0_3 + 340282366920938463463374607431768211456 * u0_4 + 1461501637330902918203684832716283019655932542976 * u0_5 + 6277101735386680763835789423207666416102355444464034512896 * u0_6 + 26959946667150639794667015087019630673637144422540572481103610249216 * u0_7 + 115792089237316195423570985008687907853269984665640564039457584007913129639936 * k0 = (0 + 4294967296 * 0 + 18446744073709551616 * 0 + 79228162514264337593543950336 * 0 + 340282366920938463463374607431768211456 * 0 + 1461501637330902918203684832716283019655932542976 * 0 + 6277101735386680763835789423207666416102355444464034512896 * 0 + 26959946667150639794667015087019630673637144422540572481103610249216 * 0) + g0 * Y) (h1 : u1_0 + 4294967296 * u1_1 + 18446744073709551616 * u1_2 + 79228162514264337593543950336 * u1_3 + 340282366920938463463374607431768211456 * u1_4 + 1461501637330902918203684832716283019655932542976 * u1_5 + 6277101735386680763835789423207666416102355444464034512896 * u1_6 + 26959946667150639794667015087019630673637144422540572481103610249216 * u1_7 + 115792089237316195423570985008687907853269984665640564039457584007913129639936 * k1 = (u0_1 + 4294967296 * u0_2 + 18446744073709551616 * u0_3 + 79228162514264337593543950336 * u0_4 + 340282366920938463463374607431768211456 * u0_5 + 1461501637330902918203684832716283019655932542976 * u0_6 + 6277101735386680763835789423207666416102355444464034512896 * u0_7 + 26959946667150639794667015087019630673637144422540572481103610249216 * k0) + g1 * Y) (h2 : u2_0 + 4294967296 * u2_1 + 18446744073709551616 * u2_2 + 79228162514264337593543950336 * u2_3 + 340282366920938463463374607431768211456 * u2_4 + 1461501637330902918203684832716283019655932542976 * u2_5 + 6277101735386680763835789423207666416102355444464034512896 * u2_6 + 26959946667150639794667015087019630673637144422540572481103610249216 * u2_7 + 115792089237316195423570985008687907853269984665640564039457584007913129639936 * k2 = (u1_1 + 4294967296 * u1_2 + 18446744073709551616 * u1_3 + 79228162514264337593543950336 * u1_4 + 340282366920938463463374607431768211456 * u1_5 + 1461501637330902918203684832716283019655932542976 * u1_6 + 6277101735386680763835789423207666416102355444464034512896 * u1_7 + 26959946667150639794667015087019630673637144422540572481103610249216 * k1) + g2 * Y) (h3 : u3_0 + 4294967296 * u3_1 + 18446744073709551616 * u3_2 + 79228162514264337593543950336 * u3_3 + 340282366920938463463374607431768211456 * u3_4 + 1461501637330902918203684832716283019655932542976 * u3_5 + 6277101735386680763835789423207666416102355444464034512896 * u3_6 + 26959946667150639794667015087019630673637144422540572481103610249216 * u3_7 + 115792089237316195423570985008687907853269984665640564039457584007913129639936 * k3 = (u2_1 + 4294967296 * u2_2 + 18446744073709551616 * u2_3 + 79228162514264337593543950336 * u2_4 + 340282366920938463463374607431768211456 * u2_5 + 1461501637330902918203684832716283019655932542976 * u2_6 + 6277101735386680763835789423207666416102355444464034512896 * u2_7 + 26959946667150639794667015087019630673637144422540572481103610249216 * k2) + g3 * Y) (h4 : u4_0 + 4294967296 * u4_1 + 18446744073709551616 * u4_2 + 79228162514264337593543950336 * u4_3 + 340282366920938463463374607431768211456 * u4_4 + 1461501637330902918203684832716283019655932542976 * u4_5 + 6277101735386680763835789423207666416102355444464034512896 * u4_6 + 26959946667150639794667015087019630673637144422540572481103610249216 * u4_7 + 115792089237316195423570985008687907853269984665640564039457584007913129639936 * k4 = (u3_1 + 4294967296 * u3_2 + 18446744073709551616 * u3_3 + 79228162514264337593543950336 * u3_4 + 340282366920938463463374607431768211456 * u3_5 + 1461501637330902918203684832716283019655932542976 * u3_6 + 6277101735386680763835789423207666416102355444464034512896 * u3_7 + 26959946667150639794667015087019630673637144422540572481103610249216 * k3) + g4 * Y) (h5 : u5_0 + 4294967296 * u5_1 + 18446744073709551616 * u5_2 + 79228162514264337593543950336 * u5_3 + 340282366920938463463374607431768211456 * u5_4 + 1461501637330902918203684832716283019655932542976 * u5_5 + 6277101735386680763835789423207666416102355444464034512896 * u5_6 + 26959946667150639794667015087019630673637144422540572481103610249216 * u5_7 + 115792089237316195423570985008687907853269984665640564039457584007913129639936 * k5 = (u4_1 + 4294967296 * u4_2 + 18446744073709551616 * u4_3 + 79228162514264337593543950336 * u4_4 + 340282366920938463463374607431768211456 * u4_5 + 1461501637330902918203684832716283019655932542976 * u4_6 + 6277101735386680763835789423207666416102355444464034512896 * u4_7 + 26959946667150639794667015087019630673637144422540572481103610249216 * k4) + g5 * Y) (h6 : u6_0 + 4294967296 * u6_1 + 18446744073709551616 * u6_2 + 79228162514264337593543950336 * u6_3 + 340282366920938463463374607431768211456 * u6_4 + 1461501637330902918203684832716283019655932542976 * u6_5 + 6277101735386680763835789423207666416102355444464034512896 * u6_6 + 26959946667150639794667015087019630673637144422540572481103610249216 * u6_7 + 115792089237316195423570985008687907853269984665640564039457584007913129639936 * k6 = (u5_1 + 4294967296 * u5_2 + 18446744073709551616 * u5_3 + 79228162514264337593543950336 * u5_4 + 340282366920938463463374607431768211456 * u5_5 + 1461501637330902918203684832716283019655932542976 * u5_6 + 6277101735386680763835789423207666416102355444464034512896 * u5_7 + 26959946667150639794667015087019630673637144422540572481103610249216 * k5) + g6 * Y) (h7 : u7_0 + 4294967296 * u7_1 + 18446744073709551616 * u7_2 + 79228162514264337593543950336 * u7_3 + 340282366920938463463374607431768211456 * u7_4 + 1461501637330902918203684832716283019655932542976 * u7_5 + 6277101735386680763835789423207666416102355444464034512896 * u7_6 + 26959946667150639794667015087019630673637144422540572481103610249216 * u7_7 + 115792089237316195423570985008687907853269984665640564039457584007913129639936 * k7 = (u6_1 + 4294967296 * u6_2 + 18446744073709551616 * u6_3 + 79228162514264337593543950336 * u6_4 + 340282366920938463463374607431768211456 * u6_5 + 1461501637330902918203684832716283019655932542976 * u6_6 + 6277101735386680763835789423207666416102355444464034512896 * u6_7 + 26959946667150639794667015087019630673637144422540572481103610249216 * k6) + g7 * Y) :
    u0_0 + 4294967296 * u1_0 + 18446744073709551616 * u2_0 + 79228162514264337593543950336 * u3_0 + 340282366920938463463374607431768211456 * u4_0 + 1461501637330902918203684832716283019655932542976 * u5_0 + 6277101735386680763835789423207666416102355444464034512896 * u6_0 + 26959946667150639794667015087019630673637144422540572481103610249216 * u7_0 + 115792089237316195423570985008687907853269984665640564039457584007913129639936 * u7_1 + 497323236409786642155382248146820840100456150797347717440463976893159497012533375533056 * u7_2 + 2135987035920910082395021706169552114602704522356652769947041607822219725780640550022962086936576 * u7_3 + 9173994463960286046443283581208347763186259956673124494950355357547691504353939232280074212440502746218496 * u7_4 + 39402006196394479212279040100143613805079739270465446667948293404245721771497210611414266254884915640806627990306816 * u7_5 + 169230328010303641331690318856389386196071598838855992136870091590247882556495704531248437872567112920983350278405979725889536 * u7_6 + 726838724295606890549323807888004534353641360687318060281490199180639288113397923326191050713763565560762521606266177933534601628614656 * u7_7 + 3121748550315992231381597229793166305748598142664971150859156959625371738819765620120306103063491971159826931121406622895447975679288285306290176 * k7 = (g0 + 4294967296 * g1 + 18446744073709551616 * g2 + 79228162514264337593543950336 * g3 + 340282366920938463463374607431768211456 * g4 + 1461501637330902918203684832716283019655932542976 * g5 + 6277101735386680763835789423207666416102355444464034512896 * g6 + 26959946667150639794667015087019630673637144422540572481103610249216 * g7) * Y := by
  simp only [Int.add_mul, Int.mul_assoc]
  generalize g0 * Y = z0 at *
  generalize g1 * Y = z1 at *
  generalize g2 * Y = z2 at *
  generalize g3 * Y = z3 at *
  generalize g4 * Y = z4 at *
  generalize g5 * Y = z5 at *
  generalize g6 * Y = z6 at *
  generalize g7 * Y = z7 at *
  omega

theorem horner {P0 P1 P2 P3 P4 P5 P6 P7 P8 P9 P10 P11 P12 P13 P14 P15 H0 H1 H2 H3 H4 H5 H6 H7 H8 H9 H10 H11 H12 H13 H14 H15 L0 L1 L2 L3 L4 L5 L6 L7 L8 L9 L10 L11 L12 L13 L14 L15 : Int} (q0 : H0 * 65536 + L0 = P0) (q1 : H1 * 65536 + L1 = P1) (q2 : H2 * 65536 + L2 = P2) (q3 : H3 * 65536 + L3 = P3) (q4 : H4 * 65536 + L4 = P4) (q5 : H5 * 65536 + L5 = P5) (q6 : H6 * 65536 + L6 = P6) (q7 : H7 * 65536 + L7 = P7) (q8 : H8 * 65536 + L8 = P8) (q9 : H9 * 65536 + L9 = P9) (q10 : H10 * 65536 + L10 = P10) (q11 : H11 * 65536 + L11 = P11) (q12 : H12 * 65536 + L12 = P12) (q13 : H13 * 65536 + L13 = P13) (q14 : H14 * 65536 + L14 = P14) (q15 : H15 * 65536 + L15 = P15) :
    ((((((((((((((((((((((((((((((((0 + H15) * 65536 + L15) * 65536 + H14) * 65536 + L14) * 65536 + H13) * 65536 + L13) * 65536 + H12) * 65536 + L12) * 65536 + H11) * 65536 + L11) * 65536 + H10) * 65536 + L10) * 65536 + H9) * 65536 + L9) * 65536 + H8) * 65536 + L8) * 65536 + H7) * 65536 + L7) * 65536 + H6) * 65536 + L6) * 65536 + H5) * 65536 + L5) * 65536 + H4) * 65536 + L4) * 65536 + H3) * 65536 + L3) * 65536 + H2) * 65536 + L2) * 65536 + H1) * 65536 + L1) * 65536 + H0) * 65536 + L0) = P0 + 4294967296 * P1 + 18446744073709551616 * P2 + 79228162514264337593543950336 * P3 + 340282366920938463463374607431768211456 * P4 + 1461501637330902918203684832716283019655932542976 * P5 + 6277101735386680763835789423207666416102355444464034512896 * P6 + 26959946667150639794667015087019630673637144422540572481103610249216 * P7 + 115792089237316195423570985008687907853269984665640564039457584007913129639936 * P8 + 497323236409786642155382248146820840100456150797347717440463976893159497012533375533056 * P9 + 2135987035920910082395021706169552114602704522356652769947041607822219725780640550022962086936576 * P10 + 9173994463960286046443283581208347763186259956673124494950355357547691504353939232280074212440502746218496 * P11 + 39402006196394479212279040100143613805079739270465446667948293404245721771497210611414266254884915640806627990306816 * P12 + 169230328010303641331690318856389386196071598838855992136870091590247882556495704531248437872567112920983350278405979725889536 * P13 + 726838724295606890549323807888004534353641360687318060281490199180639288113397923326191050713763565560762521606266177933534601628614656 * P14 + 3121748550315992231381597229793166305748598142664971150859156959625371738819765620120306103063491971159826931121406622895447975679288285306290176 * P15 := by
  omega

theorem hstep {a b c d n v x y z t : Int} (hV : val4 [a, b, c, d] = n % ell) (h0 : x = w0 ((val4 [a, b, c, d] * 65536 + v) % ell)) (h1 : y = w1 ((val4 [a, b, c, d] * 65536 + v) % ell)) (h2 : z = w2 ((val4 [a, b, c, d] * 65536 + v) % ell)) (h3 : t = w3 ((val4 [a, b, c, d] * 65536 + v) % ell)) :
    val4 [x, y, z, t] = (n * 65536 + v) % ell := by
  rw [val_ell h0 h1 h2 h3, hV, Int.add_emod, mm, ← Int.add_emod]
theorem hilo {p h l : Int} (hp : 0 ≤ p ∧ p < 4294967296) (eh : h = shrI .u64 p 16) (el : l = andI .u64 p 65535) : h * 65536 + l = p ∧ h < 65536 ∧ l < 65536 := by
  rw [shr16] at eh
  rw [and16 ⟨hp.1, by omega⟩] at el
  omega
theorem hi_lt {p h : Int} (hp : 0 ≤ p ∧ p < 4294967296) (eh : h = shrI .u64 p 16) : h < 65536 := by rw [shr16] at eh; omega
theorem lo_lt {p l : Int} (hp : 0 ≤ p ∧ p < 4294967296) (el : l = andI .u64 p 65535) : l < 65536 := by
  rw [and16 ⟨hp.1, by omega⟩] at el
  omega
theorem half_lo {a x : Int} (e : x = a % 4294967296) : 0 ≤ x ∧ x < 4294967296 := by omega
theorem half_hi {a x : Int} (ha : InR .u64 a) (e : x = a / 4294967296) : 0 ≤ x ∧ x < 4294967296 := by simp only [InR] at ha; omega
theorem zero_b : (0 : Int) ≤ 0 ∧ (0 : Int) < 4294967296 := by decide
theorem need_of {p : Prop} (h : p) : Need p := h

def vc28 (a0 a1 a2 a3 : Int) (K : SV → Prop) (Q : Nat → List Pv → Prop) : Prop := fnVc Γ11 Tryd.f28 [] [.arr .u64 4 true [a0, a1, a2, a3]] gh K Q
theorem vc28_eq : ∀ (a0 a1 a2 a3 : Int) (K : SV → Prop) (Q : Nat → List Pv → Prop), vc28 a0 a1 a2 a3 K Q = ∀ (x1 : Int), x1 = w0 (sbL (0 : Int) (val4 [a0, a1, a2, a3])) → InR IntKind.u64 x1 → ∀ (x2 : Int), x2 = w1 (sbL (0 : Int) (val4 [a0, a1, a2, a3])) → InR IntKind.u64 x2 → ∀ (x3 : Int), x3 = w2 (sbL (0 : Int) (val4 [a0, a1, a2, a3])) → InR IntKind.u64 x3 → ∀ (x4 : Int), x4 = w3 (sbL (0 : Int) (val4 [a0, a1, a2, a3])) → InR IntKind.u64 x4 → K (SV.arr IntKind.u64 (4 : Nat) true [x1, x2, x3, x4]) := by
  intros
  kernel_rfl

def negS : List SV → Option (List Prop × SV)
  | [.arr .u64 4 _ aL] => some ([], .arr .u64 4 true (words4 (sbL 0 (val4 aL))))
  | _ => none

theorem neg_ok : CallOk Tryd.prog gh 28 (pureCtr negS) := by
  refine call_pure (fn := Tryd.f28) Γ11_ok rfl (by kernel_rfl) (by kernel_rfl) (by kernel_rfl) negS fun args P0 Y0 hs hp hf => ?_
  unfold negS at hs
  split at hs
  · rename_i ea aL
    simp only [Option.some.injEq, Prod.mk.injEq] at hs
    obtain ⟨rfl, rfl⟩ := hs
    simp only [FactVs, FactV] at hf
    obtain ⟨⟨hal, ha⟩, _⟩ := hf
    obtain ⟨a0, a1, a2, a3, rfl⟩ := len4 hal
    have ia0 := ha a0 (by simp); have ia1 := ha a1 (by simp); have ia2 := ha a2 (by simp); have ia3 := ha a3 (by simp)
    refine ⟨[.arr .u64 4 true [a0, a1, a2, a3]], [], _, ⟨rfl, trivial⟩, Nat.le_of_ble_eq_true (by kernel_rfl), vc_noloops ?_⟩
    show vc28 a0 a1 a2 a3 _ _
    rw [vc28_eq]
    intro x1 e1 r1 x2 e2 r2 x3 e3 r3 x4 e4 r4
    show [x1, x2, x3, x4] = words4 (sbL 0 (val4 [a0, a1, a2, a3]))
    rw [e1, e2, e3, e4]; rfl
  · cases hs

def vc35 (a0 a1 a2 a3 b0 b1 b2 b3 : Int) (K : SV → Prop) (Q : Nat → List Pv → Prop) : Prop := fnVc Γ11 Tryd.f35 [] [.arr .u64 4 true [a0, a1, a2, a3], .arr .u64 4 true [b0, b1, b2, b3]] gh K Q
theorem vc35_eq : ∀ (a0 a1 a2 a3 b0 b1 b2 b3 : Int) (K : SV → Prop) (Q : Nat → List Pv → Prop), vc35 a0 a1 a2 a3 b0 b1 b2 b3 K Q = (Need (val4 [b0, b1, b2, b3] < (7237005577332262213973186563042994240857116359379907606001950938285454250989 : Int)) ∧ ∀ (x1 : Int), x1 = w0 (sbL (0 : Int) (val4 [b0, b1, b2, b3])) → InR IntKind.u64 x1 → ∀ (x2 : Int), x2 = w1 (sbL (0 : Int) (val4 [b0, b1, b2, b3])) → InR IntKind.u64 x2 → ∀ (x3 : Int), x3 = w2 (sbL (0 : Int) (val4 [b0, b1, b2, b3])) → InR IntKind.u64 x3 → ∀ (x4 : Int), x4 = w3 (sbL (0 : Int) (val4 [b0, b1, b2, b3])) → InR IntKind.u64 x4 → Need (val4 [a0, a1, a2, a3] < (7237005577332262213973186563042994240857116359379907606001950938285454250989 : Int)) ∧ Need (val4 [x1, x2, x3, x4] < (7237005577332262213973186563042994240857116359379907606001950938285454250989 : Int)) ∧ ∀ (x5 : Int), x5 = w0 (adL (val4 [a0, a1, a2, a3]) (val4 [x1, x2, x3, x4])) → InR IntKind.u64 x5 → ∀ (x6 : Int), x6 = w1 (adL (val4 [a0, a1, a2, a3]) (val4 [x1, x2, x3, x4])) → InR IntKind.u64 x6 → ∀ (x7 : Int), x7 = w2 (adL (val4 [a0, a1, a2, a3]) (val4 [x1, x2, x3, x4])) → InR IntKind.u64 x7 → ∀ (x8 : Int), x8 = w3 (adL (val4 [a0, a1, a2, a3]) (val4 [x1, x2, x3, x4])) → InR IntKind.u64 x8 → K (SV.arr IntKind.u64 (4 : Nat) true [x5, x6, x7, x8])) := by
  intros
  kernel_rfl

def rsubS : List SV → Option (List Prop × SV)
  | [.arr .u64 4 _ aL, .arr .u64 4 _ bL] => some ([val4 aL < ell, val4 bL < ell], .arr .u64 4 true (words4 (sbL (val4 aL) (val4 bL))))
  | _ => none

theorem rsub_ok : CallOk Tryd.prog gh 35 (pureCtr rsubS) := by
  refine call_pure (fn := Tryd.f35) Γ11_ok rfl (by kernel_rfl) (by kernel_rfl) (by kernel_rfl) rsubS fun args P0 Y0 hs hp hf => ?_
  unfold rsubS at hs
  split at hs
  · rename_i ea aL eb bL
    simp only [Option.some.injEq, Prod.mk.injEq] at hs
    obtain ⟨rfl, rfl⟩ := hs
    simp only [FactVs, FactV] at hf
    obtain ⟨⟨hal, ha⟩, ⟨hbl, hb⟩, _⟩ := hf
    obtain ⟨hpa, hpb, _⟩ := hp
    obtain ⟨a0, a1, a2, a3, rfl⟩ := len4 hal
    have ia0 := ha a0 (by simp); have ia1 := ha a1 (by simp); have ia2 := ha a2 (by simp); have ia3 := ha a3 (by simp)
    obtain ⟨b0, b1, b2, b3, rfl⟩ := len4 hbl
    have ib0 := hb b0 (by simp); have ib1 := hb b1 (by simp); have ib2 := hb b2 (by simp); have ib3 := hb b3 (by simp)
    refine ⟨[.arr .u64 4 true [a0, a1, a2, a3], .arr .u64 4 true [b0, b1, b2, b3]], [], _, ⟨rfl, rfl, trivial⟩, Nat.le_of_ble_eq_true (by kernel_rfl), vc_noloops ?_⟩
    show vc35 a0 a1 a2 a3 b0 b1 b2 b3 _ _
    rw [vc35_eq]
    rw [← ell_lit]
    refine ⟨hpb, fun x1 e1 r1 x2 e2 r2 x3 e3 r3 x4 e4 r4 => ?_⟩
    have hS := val_in e1 e2 e3 e4 (sub_bd _ _).1 (lt_r (sub_bd _ _).2)
    rw [hS]
    refine ⟨hpa, (sub_bd _ _).2, fun x5 e5 r5 x6 e6 r6 x7 e7 r7 x8 e8 r8 => ?_⟩
    have hk : adL (val4 [a0, a1, a2, a3]) (sbL 0 (val4 [b0, b1, b2, b3])) = sbL (val4 [a0, a1, a2, a3]) (val4 [b0, b1, b2, b3]) := by
      unfold adL sbL
      rw [Int.add_emod_emod]
      congr 1; omega
    rw [hk] at e5 e6 e7 e8
    show [x5, x6, x7, x8] = words4 (sbL (val4 [a0, a1, a2, a3]) (val4 [b0, b1, b2, b3]))
    rw [e5, e6, e7, e8]; rfl
  · cases hs

theorem halves_val (a b c d : Int) : a % 4294967296 + 4294967296 * (a / 4294967296) + 18446744073709551616 * (b % 4294967296) + 79228162514264337593543950336 * (b / 4294967296) + 340282366920938463463374607431768211456 * (c % 4294967296) + 1461501637330902918203684832716283019655932542976 * (c / 4294967296) + 6277101735386680763835789423207666416102355444464034512896 * (d % 4294967296) + 26959946667150639794667015087019630673637144422540572481103610249216 * (d / 4294967296) = val4 [a, b, c, d] := by
  simp only [val4]
  omega

def vc38 (a0 a1 a2 a3 b0 b1 b2 b3 : Int) (K : SV → Prop) (Q : Nat → List Pv → Prop) : Prop := fnVc Γ11 Tryd.f38 [] [.arr .u64 4 true [a0, a1, a2, a3], .arr .u64 4 true [b0, b1, b2, b3]] gh K Q
set_option maxRecDepth 100000 in
theorem vc38_eq : ∀ (a0 a1 a2 a3 b0 b1 b2 b3 : Int) (K : SV → Prop) (Q : Nat → List Pv → Prop), vc38 a0 a1 a2 a3 b0 b1 b2 b3 K Q = ∀ (x1 : Int), x1 = a0 % (4294967296 : Int) → InR IntKind.u64 x1 → ∀ (x2 : Int), x2 = a0 / (4294967296 : Int) → InR IntKind.u64 x2 → ∀ (x3 : Int), x3 = a1 % (4294967296 : Int) → InR IntKind.u64 x3 → ∀ (x4 : Int), x4 = a1 / (4294967296 : Int) → InR IntKind.u64 x4 → ∀ (x5 : Int), x5 = a2 % (4294967296 : Int) → InR IntKind.u64 x5 → ∀ (x6 : Int), x6 = a2 / (4294967296 : Int) → InR IntKind.u64 x6 → ∀ (x7 : Int), x7 = a3 % (4294967296 : Int) → InR IntKind.u64 x7 → ∀ (x8 : Int), x8 = a3 / (4294967296 : Int) → InR IntKind.u64 x8 → ∀ (x9 : Int), x9 = b0 % (4294967296 : Int) → InR IntKind.u64 x9 → ∀ (x10 : Int), x10 = b0 / (4294967296 : Int) → InR IntKind.u64 x10 → ∀ (x11 : Int), x11 = b1 % (4294967296 : Int) → InR IntKind.u64 x11 → ∀ (x12 : Int), x12 = b1 / (4294967296 : Int) → InR IntKind.u64 x12 → ∀ (x13 : Int), x13 = b2 % (4294967296 : Int) → InR IntKind.u64 x13 → ∀ (x14 : Int), x14 = b2 / (4294967296 : Int) → InR IntKind.u64 x14 → ∀ (x15 : Int), x15 = b3 % (4294967296 : Int) → InR IntKind.u64 x15 → ∀ (x16 : Int), x16 = b3 / (4294967296 : Int) → InR IntKind.u64 x16 → ∀ (x17 : Int), x17 = IntKind.u64.wrap (x1 * x9) → InR IntKind.u64 x17 → ∀ (x18 : Int), x18 = IntKind.u64.wrap (x17 + (0 : Int)) → InR IntKind.u64 x18 → ∀ (x19 : Int), x19 = IntKind.u64.wrap (x18 + (0 : Int)) → InR IntKind.u64 x19 → ∀ (x20 : Int), x20 = andI IntKind.u64 x19 (4294967295 : Int) → InR IntKind.u64 x20 → ∀ (x21 : Int), x21 = shrI IntKind.u64 x19 (32 : Int) → InR IntKind.u64 x21 → ∀ (x22 : Int), x22 = IntKind.u64.wrap (x1 * x10) → InR IntKind.u64 x22 → ∀ (x23 : Int), x23 = IntKind.u64.wrap (x22 + (0 : Int)) → InR IntKind.u64 x23 → ∀ (x24 : Int), x24 = IntKind.u64.wrap (x23 + x21) → InR IntKind.u64 x24 → ∀ (x25 : Int), x25 = andI IntKind.u64 x24 (4294967295 : Int) → InR IntKind.u64 x25 → ∀ (x26 : Int), x26 = shrI IntKind.u64 x24 (32 : Int) → InR IntKind.u64 x26 → ∀ (x27 : Int), x27 = IntKind.u64.wrap (x1 * x11) → InR IntKind.u64 x27 → ∀ (x28 : Int), x28 = IntKind.u64.wrap (x27 + (0 : Int)) → InR IntKind.u64 x28 → ∀ (x29 : Int), x29 = IntKind.u64.wrap (x28 + x26) → InR IntKind.u64 x29 → ∀ (x30 : Int), x30 = andI IntKind.u64 x29 (4294967295 : Int) → InR IntKind.u64 x30 → ∀ (x31 : Int), x31 = shrI IntKind.u64 x29 (32 : Int) → InR IntKind.u64 x31 → ∀ (x32 : Int), x32 = IntKind.u64.wrap (x1 * x12) → InR IntKind.u64 x32 → ∀ (x33 : Int), x33 = IntKind.u64.wrap (x32 + (0 : Int)) → InR IntKind.u64 x33 → ∀ (x34 : Int), x34 = IntKind.u64.wrap (x33 + x31) → InR IntKind.u64 x34 → ∀ (x35 : Int), x35 = andI IntKind.u64 x34 (4294967295 : Int) → InR IntKind.u64 x35 → ∀ (x36 : Int), x36 = shrI IntKind.u64 x34 (32 : Int) → InR IntKind.u64 x36 → ∀ (x37 : Int), x37 = IntKind.u64.wrap (x1 * x13) → InR IntKind.u64 x37 → ∀ (x38 : Int), x38 = IntKind.u64.wrap (x37 + (0 : Int)) → InR IntKind.u64 x38 → ∀ (x39 : Int), x39 = IntKind.u64.wrap (x38 + x36) → InR IntKind.u64 x39 → ∀ (x40 : Int), x40 = andI IntKind.u64 x39 (4294967295 : Int) → InR IntKind.u64 x40 → ∀ (x41 : Int), x41 = shrI IntKind.u64 x39 (32 : Int) → InR IntKind.u64 x41 → ∀ (x42 : Int), x42 = IntKind.u64.wrap (x1 * x14) → InR IntKind.u64 x42 → ∀ (x43 : Int), x43 = IntKind.u64.wrap (x42 + (0 : Int)) → InR IntKind.u64 x43 → ∀ (x44 : Int), x44 = IntKind.u64.wrap (x43 + x41) → InR IntKind.u64 x44 → ∀ (x45 : Int), x45 = andI IntKind.u64 x44 (4294967295 : Int) → InR IntKind.u64 x45 → ∀ (x46 : Int), x46 = shrI IntKind.u64 x44 (32 : Int) → InR IntKind.u64 x46 → ∀ (x47 : Int), x47 = IntKind.u64.wrap (x1 * x15) → InR IntKind.u64 x47 → ∀ (x48 : Int), x48 = IntKind.u64.wrap (x47 + (0 : Int)) → InR IntKind.u64 x48 → ∀ (x49 : Int), x49 = IntKind.u64.wrap (x48 + x46) → InR IntKind.u64 x49 → ∀ (x50 : Int), x50 = andI IntKind.u64 x49 (4294967295 : Int) → InR IntKind.u64 x50 → ∀ (x51 : Int), x51 = shrI IntKind.u64 x49 (32 : Int) → InR IntKind.u64 x51 → ∀ (x52 : Int), x52 = IntKind.u64.wrap (x1 * x16) → InR IntKind.u64 x52 → ∀ (x53 : Int), x53 = IntKind.u64.wrap (x52 + (0 : Int)) → InR IntKind.u64 x53 → ∀ (x54 : Int), x54 = IntKind.u64.wrap (x53 + x51) → InR IntKind.u64 x54 → ∀ (x55 : Int), x55 = andI IntKind.u64 x54 (4294967295 : Int) → InR IntKind.u64 x55 → ∀ (x56 : Int), x56 = shrI IntKind.u64 x54 (32 : Int) → InR IntKind.u64 x56 → ∀ (x57 : Int), x57 = IntKind.u64.wrap (x2 * x9) → InR IntKind.u64 x57 → ∀ (x58 : Int), x58 = IntKind.u64.wrap (x57 + x25) → InR IntKind.u64 x58 → ∀ (x59 : Int), x59 = IntKind.u64.wrap (x58 + (0 : Int)) → InR IntKind.u64 x59 → ∀ (x60 : Int), x60 = andI IntKind.u64 x59 (4294967295 : Int) → InR IntKind.u64 x60 → ∀ (x61 : Int), x61 = shrI IntKind.u64 x59 (32 : Int) → InR IntKind.u64 x61 → ∀ (x62 : Int), x62 = IntKind.u64.wrap (x2 * x10) → InR IntKind.u64 x62 → ∀ (x63 : Int), x63 = IntKind.u64.wrap (x62 + x30) → InR IntKind.u64 x63 → ∀ (x64 : Int), x64 = IntKind.u64.wrap (x63 + x61) → InR IntKind.u64 x64 → ∀ (x65 : Int), x65 = andI IntKind.u64 x64 (4294967295 : Int) → InR IntKind.u64 x65 → ∀ (x66 : Int), x66 = shrI IntKind.u64 x64 (32 : Int) → InR IntKind.u64 x66 → ∀ (x67 : Int), x67 = IntKind.u64.wrap (x2 * x11) → InR IntKind.u64 x67 → ∀ (x68 : Int), x68 = IntKind.u64.wrap (x67 + x35) → InR IntKind.u64 x68 → ∀ (x69 : Int), x69 = IntKind.u64.wrap (x68 + x66) → InR IntKind.u64 x69 → ∀ (x70 : Int), x70 = andI IntKind.u64 x69 (4294967295 : Int) → InR IntKind.u64 x70 → ∀ (x71 : Int), x71 = shrI IntKind.u64 x69 (32 : Int) → InR IntKind.u64 x71 → ∀ (x72 : Int), x72 = IntKind.u64.wrap (x2 * x12) → InR IntKind.u64 x72 → ∀ (x73 : Int), x73 = IntKind.u64.wrap (x72 + x40) → InR IntKind.u64 x73 → ∀ (x74 : Int), x74 = IntKind.u64.wrap (x73 + x71) → InR IntKind.u64 x74 → ∀ (x75 : Int), x75 = andI IntKind.u64 x74 (4294967295 : Int) → InR IntKind.u64 x75 → ∀ (x76 : Int), x76 = shrI IntKind.u64 x74 (32 : Int) → InR IntKind.u64 x76 → ∀ (x77 : Int), x77 = IntKind.u64.wrap (x2 * x13) → InR IntKind.u64 x77 → ∀ (x78 : Int), x78 = IntKind.u64.wrap (x77 + x45) → InR IntKind.u64 x78 → ∀ (x79 : Int), x79 = IntKind.u64.wrap (x78 + x76) → InR IntKind.u64 x79 → ∀ (x80 : Int), x80 = andI IntKind.u64 x79 (4294967295 : Int) → InR IntKind.u64 x80 → ∀ (x81 : Int), x81 = shrI IntKind.u64 x79 (32 : Int) → InR IntKind.u64 x81 → ∀ (x82 : Int), x82 = IntKind.u64.wrap (x2 * x14) → InR IntKind.u64 x82 → ∀ (x83 : Int), x83 = IntKind.u64.wrap (x82 + x50) → InR IntKind.u64 x83 → ∀ (x84 : Int), x84 = IntKind.u64.wrap (x83 + x81) → InR IntKind.u64 x84 → ∀ (x85 : Int), x85 = andI IntKind.u64 x84 (4294967295 : Int) → InR IntKind.u64 x85 → ∀ (x86 : Int), x86 = shrI IntKind.u64 x84 (32 : Int) → InR IntKind.u64 x86 → ∀ (x87 : Int), x87 = IntKind.u64.wrap (x2 * x15) → InR IntKind.u64 x87 → ∀ (x88 : Int), x88 = IntKind.u64.wrap (x87 + x55) → InR IntKind.u64 x88 → ∀ (x89 : Int), x89 = IntKind.u64.wrap (x88 + x86) → InR IntKind.u64 x89 → ∀ (x90 : Int), x90 = andI IntKind.u64 x89 (4294967295 : Int) → InR IntKind.u64 x90 → ∀ (x91 : Int), x91 = shrI IntKind.u64 x89 (32 : Int) → InR IntKind.u64 x91 → ∀ (x92 : Int), x92 = IntKind.u64.wrap (x2 * x16) → InR IntKind.u64 x92 → ∀ (x93 : Int), x93 = IntKind.u64.wrap (x92 + x56) → InR IntKind.u64 x93 → ∀ (x94 : Int), x94 = IntKind.u64.wrap (x93 + x91) → InR IntKind.u64 x94 → ∀ (x95 : Int), x95 = andI IntKind.u64 x94 (4294967295 : Int) → InR IntKind.u64 x95 → ∀ (x96 : Int), x96 = shrI IntKind.u64 x94 (32 : Int) → InR IntKind.u64 x96 → ∀ (x97 : Int), x97 = IntKind.u64.wrap (x3 * x9) → InR IntKind.u64 x97 → ∀ (x98 : Int), x98 = IntKind.u64.wrap (x97 + x65) → InR IntKind.u64 x98 → ∀ (x99 : Int), x99 = IntKind.u64.wrap (x98 + (0 : Int)) → InR IntKind.u64 x99 → ∀ (x100 : Int), x100 = andI IntKind.u64 x99 (4294967295 : Int) → InR IntKind.u64 x100 → ∀ (x101 : Int), x101 = shrI IntKind.u64 x99 (32 : Int) → InR IntKind.u64 x101 → ∀ (x102 : Int), x102 = IntKind.u64.wrap (x3 * x10) → InR IntKind.u64 x102 → ∀ (x103 : Int), x103 = IntKind.u64.wrap (x102 + x70) → InR IntKind.u64 x103 → ∀ (x104 : Int), x104 = IntKind.u64.wrap (x103 + x101) → InR IntKind.u64 x104 → ∀ (x105 : Int), x105 = andI IntKind.u64 x104 (4294967295 : Int) → InR IntKind.u64 x105 → ∀ (x106 : Int), x106 = shrI IntKind.u64 x104 (32 : Int) → InR IntKind.u64 x106 → ∀ (x107 : Int), x107 = IntKind.u64.wrap (x3 * x11) → InR IntKind.u64 x107 → ∀ (x108 : Int), x108 = IntKind.u64.wrap (x107 + x75) → InR IntKind.u64 x108 → ∀ (x109 : Int), x109 = IntKind.u64.wrap (x108 + x106) → InR IntKind.u64 x109 → ∀ (x110 : Int), x110 = andI IntKind.u64 x109 (4294967295 : Int) → InR IntKind.u64 x110 → ∀ (x111 : Int), x111 = shrI IntKind.u64 x109 (32 : Int) → InR IntKind.u64 x111 → ∀ (x112 : Int), x112 = IntKind.u64.wrap (x3 * x12) → InR IntKind.u64 x112 → ∀ (x113 : Int), x113 = IntKind.u64.wrap (x112 + x80) → InR IntKind.u64 x113 → ∀ (x114 : Int), x114 = IntKind.u64.wrap (x113 + x111) → InR IntKind.u64 x114 → ∀ (x115 : Int), x115 = andI IntKind.u64 x114 (4294967295 : Int) → InR IntKind.u64 x115 → ∀ (x116 : Int), x116 = shrI IntKind.u64 x114 (32 : Int) → InR IntKind.u64 x116 → ∀ (x117 : Int), x117 = IntKind.u64.wrap (x3 * x13) → InR IntKind.u64 x117 → ∀ (x118 : Int), x118 = IntKind.u64.wrap (x117 + x85) → InR IntKind.u64 x118 → ∀ (x119 : Int), x119 = IntKind.u64.wrap (x118 + x116) → InR IntKind.u64 x119 → ∀ (x120 : Int), x120 = andI IntKind.u64 x119 (4294967295 : Int) → InR IntKind.u64 x120 → ∀ (x121 : Int), x121 = shrI IntKind.u64 x119 (32 : Int) → InR IntKind.u64 x121 → ∀ (x122 : Int), x122 = IntKind.u64.wrap (x3 * x14) → InR IntKind.u64 x122 → ∀ (x123 : Int), x123 = IntKind.u64.wrap (x122 + x90) → InR IntKind.u64 x123 → ∀ (x124 : Int), x124 = IntKind.u64.wrap (x123 + x121) → InR IntKind.u64 x124 → ∀ (x125 : Int), x125 = andI IntKind.u64 x124 (4294967295 : Int) → InR IntKind.u64 x125 → ∀ (x126 : Int), x126 = shrI IntKind.u64 x124 (32 : Int) → InR IntKind.u64 x126 → ∀ (x127 : Int), x127 = IntKind.u64.wrap (x3 * x15) → InR IntKind.u64 x127 → ∀ (x128 : Int), x128 = IntKind.u64.wrap (x127 + x95) → InR IntKind.u64 x128 → ∀ (x129 : Int), x129 = IntKind.u64.wrap (x128 + x126) → InR IntKind.u64 x129 → ∀ (x130 : Int), x130 = andI IntKind.u64 x129 (4294967295 : Int) → InR IntKind.u64 x130 → ∀ (x131 : Int), x131 = shrI IntKind.u64 x129 (32 : Int) → InR IntKind.u64 x131 → ∀ (x132 : Int), x132 = IntKind.u64.wrap (x3 * x16) → InR IntKind.u64 x132 → ∀ (x133 : Int), x133 = IntKind.u64.wrap (x132 + x96) → InR IntKind.u64 x133 → ∀ (x134 : Int), x134 = IntKind.u64.wrap (x133 + x131) → InR IntKind.u64 x134 → ∀ (x135 : Int), x135 = andI IntKind.u64 x134 (4294967295 : Int) → InR IntKind.u64 x135 → ∀ (x136 : Int), x136 = shrI IntKind.u64 x134 (32 : Int) → InR IntKind.u64 x136 → ∀ (x137 : Int), x137 = IntKind.u64.wrap (x4 * x9) → InR IntKind.u64 x137 → ∀ (x138 : Int), x138 = IntKind.u64.wrap (x137 + x105) → InR IntKind.u64 x138 → ∀ (x139 : Int), x139 = IntKind.u64.wrap (x138 + (0 : Int)) → InR IntKind.u64 x139 → ∀ (x140 : Int), x140 = andI IntKind.u64 x139 (4294967295 : Int) → InR IntKind.u64 x140 → ∀ (x141 : Int), x141 = shrI IntKind.u64 x139 (32 : Int) → InR IntKind.u64 x141 → ∀ (x142 : Int), x142 = IntKind.u64.wrap (x4 * x10) → InR IntKind.u64 x142 → ∀ (x143 : Int), x143 = IntKind.u64.wrap (x142 + x110) → InR IntKind.u64 x143 → ∀ (x144 : Int), x144 = IntKind.u64.wrap (x143 + x141) → InR IntKind.u64 x144 → ∀ (x145 : Int), x145 = andI IntKind.u64 x144 (4294967295 : Int) → InR IntKind.u64 x145 → ∀ (x146 : Int), x146 = shrI IntKind.u64 x144 (32 : Int) → InR IntKind.u64 x146 → ∀ (x147 : Int), x147 = IntKind.u64.wrap (x4 * x11) → InR IntKind.u64 x147 → ∀ (x148 : Int), x148 = IntKind.u64.wrap (x147 + x115) → InR IntKind.u64 x148 → ∀ (x149 : Int), x149 = IntKind.u64.wrap (x148 + x146) → InR IntKind.u64 x149 → ∀ (x150 : Int), x150 = andI IntKind.u64 x149 (4294967295 : Int) → InR IntKind.u64 x150 → ∀ (x151 : Int), x151 = shrI IntKind.u64 x149 (32 : Int) → InR IntKind.u64 x151 → ∀ (x152 : Int), x152 = IntKind.u64.wrap (x4 * x12) → InR IntKind.u64 x152 → ∀ (x153 : Int), x153 = IntKind.u64.wrap (x152 + x120) → InR IntKind.u64 x153 → ∀ (x154 : Int), x154 = IntKind.u64.wrap (x153 + x151) → InR IntKind.u64 x154 → ∀ (x155 : Int), x155 = andI IntKind.u64 x154 (4294967295 : Int) → InR IntKind.u64 x155 → ∀ (x156 : Int), x156 = shrI IntKind.u64 x154 (32 : Int) → InR IntKind.u64 x156 → ∀ (x157 : Int), x157 = IntKind.u64.wrap (x4 * x13) → InR IntKind.u64 x157 → ∀ (x158 : Int), x158 = IntKind.u64.wrap (x157 + x125) → InR IntKind.u64 x158 → ∀ (x159 : Int), x159 = IntKind.u64.wrap (x158 + x156) → InR IntKind.u64 x159 → ∀ (x160 : Int), x160 = andI IntKind.u64 x159 (4294967295 : Int) → InR IntKind.u64 x160 → ∀ (x161 : Int), x161 = shrI IntKind.u64 x159 (32 : Int) → InR IntKind.u64 x161 → ∀ (x162 : Int), x162 = IntKind.u64.wrap (x4 * x14) → InR IntKind.u64 x162 → ∀ (x163 : Int), x163 = IntKind.u64.wrap (x162 + x130) → InR IntKind.u64 x163 → ∀ (x164 : Int), x164 = IntKind.u64.wrap (x163 + x161) → InR IntKind.u64 x164 → ∀ (x165 : Int), x165 = andI IntKind.u64 x164 (4294967295 : Int) → InR IntKind.u64 x165 → ∀ (x166 : Int), x166 = shrI IntKind.u64 x164 (32 : Int) → InR IntKind.u64 x166 → ∀ (x167 : Int), x167 = IntKind.u64.wrap (x4 * x15) → InR IntKind.u64 x167 → ∀ (x168 : Int), x168 = IntKind.u64.wrap (x167 + x135) → InR IntKind.u64 x168 → ∀ (x169 : Int), x169 = IntKind.u64.wrap (x168 + x166) → InR IntKind.u64 x169 → ∀ (x170 : Int), x170 = andI IntKind.u64 x169 (4294967295 : Int) → InR IntKind.u64 x170 → ∀ (x171 : Int), x171 = shrI IntKind.u64 x169 (32 : Int) → InR IntKind.u64 x171 → ∀ (x172 : Int), x172 = IntKind.u64.wrap (x4 * x16) → InR IntKind.u64 x172 → ∀ (x173 : Int), x173 = IntKind.u64.wrap (x172 + x136) → InR IntKind.u64 x173 → ∀ (x174 : Int), x174 = IntKind.u64.wrap (x173 + x171) → InR IntKind.u64 x174 → ∀ (x175 : Int), x175 = andI IntKind.u64 x174 (4294967295 : Int) → InR IntKind.u64 x175 → ∀ (x176 : Int), x176 = shrI IntKind.u64 x174 (32 : Int) → InR IntKind.u64 x176 → ∀ (x177 : Int), x177 = IntKind.u64.wrap (x5 * x9) → InR IntKind.u64 x177 → ∀ (x178 : Int), x178 = IntKind.u64.wrap (x177 + x145) → InR IntKind.u64 x178 → ∀ (x179 : Int), x179 = IntKind.u64.wrap (x178 + (0 : Int)) → InR IntKind.u64 x179 → ∀ (x180 : Int), x180 = andI IntKind.u64 x179 (4294967295 : Int) → InR IntKind.u64 x180 → ∀ (x181 : Int), x181 = shrI IntKind.u64 x179 (32 : Int) → InR IntKind.u64 x181 → ∀ (x182 : Int), x182 = IntKind.u64.wrap (x5 * x10) → InR IntKind.u64 x182 → ∀ (x183 : Int), x183 = IntKind.u64.wrap (x182 + x150) → InR IntKind.u64 x183 → ∀ (x184 : Int), x184 = IntKind.u64.wrap (x183 + x181) → InR IntKind.u64 x184 → ∀ (x185 : Int), x185 = andI IntKind.u64 x184 (4294967295 : Int) → InR IntKind.u64 x185 → ∀ (x186 : Int), x186 = shrI IntKind.u64 x184 (32 : Int) → InR IntKind.u64 x186 → ∀ (x187 : Int), x187 = IntKind.u64.wrap (x5 * x11) → InR IntKind.u64 x187 → ∀ (x188 : Int), x188 = IntKind.u64.wrap (x187 + x155) → InR IntKind.u64 x188 → ∀ (x189 : Int), x189 = IntKind.u64.wrap (x188 + x186) → InR IntKind.u64 x189 → ∀ (x190 : Int), x190 = andI IntKind.u64 x189 (4294967295 : Int) → InR IntKind.u64 x190 → ∀ (x191 : Int), x191 = shrI IntKind.u64 x189 (32 : Int) → InR IntKind.u64 x191 → ∀ (x192 : Int), x192 = IntKind.u64.wrap (x5 * x12) → InR IntKind.u64 x192 → ∀ (x193 : Int), x193 = IntKind.u64.wrap (x192 + x160) → InR IntKind.u64 x193 → ∀ (x194 : Int), x194 = IntKind.u64.wrap (x193 + x191) → InR IntKind.u64 x194 → ∀ (x195 : Int), x195 = andI IntKind.u64 x194 (4294967295 : Int) → InR IntKind.u64 x195 → ∀ (x196 : Int), x196 = shrI IntKind.u64 x194 (32 : Int) → InR IntKind.u64 x196 → ∀ (x197 : Int), x197 = IntKind.u64.wrap (x5 * x13) → InR IntKind.u64 x197 → ∀ (x198 : Int), x198 = IntKind.u64.wrap (x197 + x165) → InR IntKind.u64 x198 → ∀ (x199 : Int), x199 = IntKind.u64.wrap (x198 + x196) → InR IntKind.u64 x199 → ∀ (x200 : Int), x200 = andI IntKind.u64 x199 (4294967295 : Int) → InR IntKind.u64 x200 → ∀ (x201 : Int), x201 = shrI IntKind.u64 x199 (32 : Int) → InR IntKind.u64 x201 → ∀ (x202 : Int), x202 = IntKind.u64.wrap (x5 * x14) → InR IntKind.u64 x202 → ∀ (x203 : Int), x203 = IntKind.u64.wrap (x202 + x170) → InR IntKind.u64 x203 → ∀ (x204 : Int), x204 = IntKind.u64.wrap (x203 + x201) → InR IntKind.u64 x204 → ∀ (x205 : Int), x205 = andI IntKind.u64 x204 (4294967295 : Int) → InR IntKind.u64 x205 → ∀ (x206 : Int), x206 = shrI IntKind.u64 x204 (32 : Int) → InR IntKind.u64 x206 → ∀ (x207 : Int), x207 = IntKind.u64.wrap (x5 * x15) → InR IntKind.u64 x207 → ∀ (x208 : Int), x208 = IntKind.u64.wrap (x207 + x175) → InR IntKind.u64 x208 → ∀ (x209 : Int), x209 = IntKind.u64.wrap (x208 + x206) → InR IntKind.u64 x209 → ∀ (x210 : Int), x210 = andI IntKind.u64 x209 (4294967295 : Int) → InR IntKind.u64 x210 → ∀ (x211 : Int), x211 = shrI IntKind.u64 x209 (32 : Int) → InR IntKind.u64 x211 → ∀ (x212 : Int), x212 = IntKind.u64.wrap (x5 * x16) → InR IntKind.u64 x212 → ∀ (x213 : Int), x213 = IntKind.u64.wrap (x212 + x176) → InR IntKind.u64 x213 → ∀ (x214 : Int), x214 = IntKind.u64.wrap (x213 + x211) → InR IntKind.u64 x214 → ∀ (x215 : Int), x215 = andI IntKind.u64 x214 (4294967295 : Int) → InR IntKind.u64 x215 → ∀ (x216 : Int), x216 = shrI IntKind.u64 x214 (32 : Int) → InR IntKind.u64 x216 → ∀ (x217 : Int), x217 = IntKind.u64.wrap (x6 * x9) → InR IntKind.u64 x217 → ∀ (x218 : Int), x218 = IntKind.u64.wrap (x217 + x185) → InR IntKind.u64 x218 → ∀ (x219 : Int), x219 = IntKind.u64.wrap (x218 + (0 : Int)) → InR IntKind.u64 x219 → ∀ (x220 : Int), x220 = andI IntKind.u64 x219 (4294967295 : Int) → InR IntKind.u64 x220 → ∀ (x221 : Int), x221 = shrI IntKind.u64 x219 (32 : Int) → InR IntKind.u64 x221 → ∀ (x222 : Int), x222 = IntKind.u64.wrap (x6 * x10) → InR IntKind.u64 x222 → ∀ (x223 : Int), x223 = IntKind.u64.wrap (x222 + x190) → InR IntKind.u64 x223 → ∀ (x224 : Int), x224 = IntKind.u64.wrap (x223 + x221) → InR IntKind.u64 x224 → ∀ (x225 : Int), x225 = andI IntKind.u64 x224 (4294967295 : Int) → InR IntKind.u64 x225 → ∀ (x226 : Int), x226 = shrI IntKind.u64 x224 (32 : Int) → InR IntKind.u64 x226 → ∀ (x227 : Int), x227 = IntKind.u64.wrap (x6 * x11) → InR IntKind.u64 x227 → ∀ (x228 : Int), x228 = IntKind.u64.wrap (x227 + x195) → InR IntKind.u64 x228 → ∀ (x229 : Int), x229 = IntKind.u64.wrap (x228 + x226) → InR IntKind.u64 x229 → ∀ (x230 : Int), x230 = andI IntKind.u64 x229 (4294967295 : Int) → InR IntKind.u64 x230 → ∀ (x231 : Int), x231 = shrI IntKind.u64 x229 (32 : Int) → InR IntKind.u64 x231 → ∀ (x232 : Int), x232 = IntKind.u64.wrap (x6 * x12) → InR IntKind.u64 x232 → ∀ (x233 : Int), x233 = IntKind.u64.wrap (x232 + x200) → InR IntKind.u64 x233 → ∀ (x234 : Int), x234 = IntKind.u64.wrap (x233 + x231) → InR IntKind.u64 x234 → ∀ (x235 : Int), x235 = andI IntKind.u64 x234 (4294967295 : Int) → InR IntKind.u64 x235 → ∀ (x236 : Int), x236 = shrI IntKind.u64 x234 (32 : Int) → InR IntKind.u64 x236 → ∀ (x237 : Int), x237 = IntKind.u64.wrap (x6 * x13) → InR IntKind.u64 x237 → ∀ (x238 : Int), x238 = IntKind.u64.wrap (x237 + x205) → InR IntKind.u64 x238 → ∀ (x239 : Int), x239 = IntKind.u64.wrap (x238 + x236) → InR IntKind.u64 x239 → ∀ (x240 : Int), x240 = andI IntKind.u64 x239 (4294967295 : Int) → InR IntKind.u64 x240 → ∀ (x241 : Int), x241 = shrI IntKind.u64 x239 (32 : Int) → InR IntKind.u64 x241 → ∀ (x242 : Int), x242 = IntKind.u64.wrap (x6 * x14) → InR IntKind.u64 x242 → ∀ (x243 : Int), x243 = IntKind.u64.wrap (x242 + x210) → InR IntKind.u64 x243 → ∀ (x244 : Int), x244 = IntKind.u64.wrap (x243 + x241) → InR IntKind.u64 x244 → ∀ (x245 : Int), x245 = andI IntKind.u64 x244 (4294967295 : Int) → InR IntKind.u64 x245 → ∀ (x246 : Int), x246 = shrI IntKind.u64 x244 (32 : Int) → InR IntKind.u64 x246 → ∀ (x247 : Int), x247 = IntKind.u64.wrap (x6 * x15) → InR IntKind.u64 x247 → ∀ (x248 : Int), x248 = IntKind.u64.wrap (x247 + x215) → InR IntKind.u64 x248 → ∀ (x249 : Int), x249 = IntKind.u64.wrap (x248 + x246) → InR IntKind.u64 x249 → ∀ (x250 : Int), x250 = andI IntKind.u64 x249 (4294967295 : Int) → InR IntKind.u64 x250 → ∀ (x251 : Int), x251 = shrI IntKind.u64 x249 (32 : Int) → InR IntKind.u64 x251 → ∀ (x252 : Int), x252 = IntKind.u64.wrap (x6 * x16) → InR IntKind.u64 x252 → ∀ (x253 : Int), x253 = IntKind.u64.wrap (x252 + x216) → InR IntKind.u64 x253 → ∀ (x254 : Int), x254 = IntKind.u64.wrap (x253 + x251) → InR IntKind.u64 x254 → ∀ (x255 : Int), x255 = andI IntKind.u64 x254 (4294967295 : Int) → InR IntKind.u64 x255 → ∀ (x256 : Int), x256 = shrI IntKind.u64 x254 (32 : Int) → InR IntKind.u64 x256 → ∀ (x257 : Int), x257 = IntKind.u64.wrap (x7 * x9) → InR IntKind.u64 x257 → ∀ (x258 : Int), x258 = IntKind.u64.wrap (x257 + x225) → InR IntKind.u64 x258 → ∀ (x259 : Int), x259 = IntKind.u64.wrap (x258 + (0 : Int)) → InR IntKind.u64 x259 → ∀ (x260 : Int), x260 = andI IntKind.u64 x259 (4294967295 : Int) → InR IntKind.u64 x260 → ∀ (x261 : Int), x261 = shrI IntKind.u64 x259 (32 : Int) → InR IntKind.u64 x261 → ∀ (x262 : Int), x262 = IntKind.u64.wrap (x7 * x10) → InR IntKind.u64 x262 → ∀ (x263 : Int), x263 = IntKind.u64.wrap (x262 + x230) → InR IntKind.u64 x263 → ∀ (x264 : Int), x264 = IntKind.u64.wrap (x263 + x261) → InR IntKind.u64 x264 → ∀ (x265 : Int), x265 = andI IntKind.u64 x264 (4294967295 : Int) → InR IntKind.u64 x265 → ∀ (x266 : Int), x266 = shrI IntKind.u64 x264 (32 : Int) → InR IntKind.u64 x266 → ∀ (x267 : Int), x267 = IntKind.u64.wrap (x7 * x11) → InR IntKind.u64 x267 → ∀ (x268 : Int), x268 = IntKind.u64.wrap (x267 + x235) → InR IntKind.u64 x268 → ∀ (x269 : Int), x269 = IntKind.u64.wrap (x268 + x266) → InR IntKind.u64 x269 → ∀ (x270 : Int), x270 = andI IntKind.u64 x269 (4294967295 : Int) → InR IntKind.u64 x270 → ∀ (x271 : Int), x271 = shrI IntKind.u64 x269 (32 : Int) → InR IntKind.u64 x271 → ∀ (x272 : Int), x272 = IntKind.u64.wrap (x7 * x12) → InR IntKind.u64 x272 → ∀ (x273 : Int), x273 = IntKind.u64.wrap (x272 + x240) → InR IntKind.u64 x273 → ∀ (x274 : Int), x274 = IntKind.u64.wrap (x273 + x271) → InR IntKind.u64 x274 → ∀ (x275 : Int), x275 = andI IntKind.u64 x274 (4294967295 : Int) → InR IntKind.u64 x275 → ∀ (x276 : Int), x276 = shrI IntKind.u64 x274 (32 : Int) → InR IntKind.u64 x276 → ∀ (x277 : Int), x277 = IntKind.u64.wrap (x7 * x13) → InR IntKind.u64 x277 → ∀ (x278 : Int), x278 = IntKind.u64.wrap (x277 + x245) → InR IntKind.u64 x278 → ∀ (x279 : Int), x279 = IntKind.u64.wrap (x278 + x276) → InR IntKind.u64 x279 → ∀ (x280 : Int), x280 = andI IntKind.u64 x279 (4294967295 : Int) → InR IntKind.u64 x280 → ∀ (x281 : Int), x281 = shrI IntKind.u64 x279 (32 : Int) → InR IntKind.u64 x281 → ∀ (x282 : Int), x282 = IntKind.u64.wrap (x7 * x14) → InR IntKind.u64 x282 → ∀ (x283 : Int), x283 = IntKind.u64.wrap (x282 + x250) → InR IntKind.u64 x283 → ∀ (x284 : Int), x284 = IntKind.u64.wrap (x283 + x281) → InR IntKind.u64 x284 → ∀ (x285 : Int), x285 = andI IntKind.u64 x284 (4294967295 : Int) → InR IntKind.u64 x285 → ∀ (x286 : Int), x286 = shrI IntKind.u64 x284 (32 : Int) → InR IntKind.u64 x286 → ∀ (x287 : Int), x287 = IntKind.u64.wrap (x7 * x15) → InR IntKind.u64 x287 → ∀ (x288 : Int), x288 = IntKind.u64.wrap (x287 + x255) → InR IntKind.u64 x288 → ∀ (x289 : Int), x289 = IntKind.u64.wrap (x288 + x286) → InR IntKind.u64 x289 → ∀ (x290 : Int), x290 = andI IntKind.u64 x289 (4294967295 : Int) → InR IntKind.u64 x290 → ∀ (x291 : Int), x291 = shrI IntKind.u64 x289 (32 : Int) → InR IntKind.u64 x291 → ∀ (x292 : Int), x292 = IntKind.u64.wrap (x7 * x16) → InR IntKind.u64 x292 → ∀ (x293 : Int), x293 = IntKind.u64.wrap (x292 + x256) → InR IntKind.u64 x293 → ∀ (x294 : Int), x294 = IntKind.u64.wrap (x293 + x291) → InR IntKind.u64 x294 → ∀ (x295 : Int), x295 = andI IntKind.u64 x294 (4294967295 : Int) → InR IntKind.u64 x295 → ∀ (x296 : Int), x296 = shrI IntKind.u64 x294 (32 : Int) → InR IntKind.u64 x296 → ∀ (x297 : Int), x297 = IntKind.u64.wrap (x8 * x9) → InR IntKind.u64 x297 → ∀ (x298 : Int), x298 = IntKind.u64.wrap (x297 + x265) → InR IntKind.u64 x298 → ∀ (x299 : Int), x299 = IntKind.u64.wrap (x298 + (0 : Int)) → InR IntKind.u64 x299 → ∀ (x300 : Int), x300 = andI IntKind.u64 x299 (4294967295 : Int) → InR IntKind.u64 x300 → ∀ (x301 : Int), x301 = shrI IntKind.u64 x299 (32 : Int) → InR IntKind.u64 x301 → ∀ (x302 : Int), x302 = IntKind.u64.wrap (x8 * x10) → InR IntKind.u64 x302 → ∀ (x303 : Int), x303 = IntKind.u64.wrap (x302 + x270) → InR IntKind.u64 x303 → ∀ (x304 : Int), x304 = IntKind.u64.wrap (x303 + x301) → InR IntKind.u64 x304 → ∀ (x305 : Int), x305 = andI IntKind.u64 x304 (4294967295 : Int) → InR IntKind.u64 x305 → ∀ (x306 : Int), x306 = shrI IntKind.u64 x304 (32 : Int) → InR IntKind.u64 x306 → ∀ (x307 : Int), x307 = IntKind.u64.wrap (x8 * x11) → InR IntKind.u64 x307 → ∀ (x308 : Int), x308 = IntKind.u64.wrap (x307 + x275) → InR IntKind.u64 x308 → ∀ (x309 : Int), x309 = IntKind.u64.wrap (x308 + x306) → InR IntKind.u64 x309 → ∀ (x310 : Int), x310 = andI IntKind.u64 x309 (4294967295 : Int) → InR IntKind.u64 x310 → ∀ (x311 : Int), x311 = shrI IntKind.u64 x309 (32 : Int) → InR IntKind.u64 x311 → ∀ (x312 : Int), x312 = IntKind.u64.wrap (x8 * x12) → InR IntKind.u64 x312 → ∀ (x313 : Int), x313 = IntKind.u64.wrap (x312 + x280) → InR IntKind.u64 x313 → ∀ (x314 : Int), x314 = IntKind.u64.wrap (x313 + x311) → InR IntKind.u64 x314 → ∀ (x315 : Int), x315 = andI IntKind.u64 x314 (4294967295 : Int) → InR IntKind.u64 x315 → ∀ (x316 : Int), x316 = shrI IntKind.u64 x314 (32 : Int) → InR IntKind.u64 x316 → ∀ (x317 : Int), x317 = IntKind.u64.wrap (x8 * x13) → InR IntKind.u64 x317 → ∀ (x318 : Int), x318 = IntKind.u64.wrap (x317 + x285) → InR IntKind.u64 x318 → ∀ (x319 : Int), x319 = IntKind.u64.wrap (x318 + x316) → InR IntKind.u64 x319 → ∀ (x320 : Int), x320 = andI IntKind.u64 x319 (4294967295 : Int) → InR IntKind.u64 x320 → ∀ (x321 : Int), x321 = shrI IntKind.u64 x319 (32 : Int) → InR IntKind.u64 x321 → ∀ (x322 : Int), x322 = IntKind.u64.wrap (x8 * x14) → InR IntKind.u64 x322 → ∀ (x323 : Int), x323 = IntKind.u64.wrap (x322 + x290) → InR IntKind.u64 x323 → ∀ (x324 : Int), x324 = IntKind.u64.wrap (x323 + x321) → InR IntKind.u64 x324 → ∀ (x325 : Int), x325 = andI IntKind.u64 x324 (4294967295 : Int) → InR IntKind.u64 x325 → ∀ (x326 : Int), x326 = shrI IntKind.u64 x324 (32 : Int) → InR IntKind.u64 x326 → ∀ (x327 : Int), x327 = IntKind.u64.wrap (x8 * x15) → InR IntKind.u64 x327 → ∀ (x328 : Int), x328 = IntKind.u64.wrap (x327 + x295) → InR IntKind.u64 x328 → ∀ (x329 : Int), x329 = IntKind.u64.wrap (x328 + x326) → InR IntKind.u64 x329 → ∀ (x330 : Int), x330 = andI IntKind.u64 x329 (4294967295 : Int) → InR IntKind.u64 x330 → ∀ (x331 : Int), x331 = shrI IntKind.u64 x329 (32 : Int) → InR IntKind.u64 x331 → ∀ (x332 : Int), x332 = IntKind.u64.wrap (x8 * x16) → InR IntKind.u64 x332 → ∀ (x333 : Int), x333 = IntKind.u64.wrap (x332 + x296) → InR IntKind.u64 x333 → ∀ (x334 : Int), x334 = IntKind.u64.wrap (x333 + x331) → InR IntKind.u64 x334 → ∀ (x335 : Int), x335 = andI IntKind.u64 x334 (4294967295 : Int) → InR IntKind.u64 x335 → ∀ (x336 : Int), x336 = shrI IntKind.u64 x334 (32 : Int) → InR IntKind.u64 x336 → ∀ (x337 : Int), x337 = shrI IntKind.u64 x336 (16 : Int) → InR IntKind.u64 x337 → Need ((0 : Int) < (7237005577332262213973186563042994240857116359379907606001950938285454250989 : Int)) ∧ Need (x337 < (65536 : Int)) ∧ ∀ (x338 : Int), x338 = w0 (((0 : Int) + x337) % (7237005577332262213973186563042994240857116359379907606001950938285454250989 : Int)) → InR IntKind.u64 x338 → ∀ (x339 : Int), x339 = w1 (((0 : Int) + x337) % (7237005577332262213973186563042994240857116359379907606001950938285454250989 : Int)) → InR IntKind.u64 x339 → ∀ (x340 : Int), x340 = w2 (((0 : Int) + x337) % (7237005577332262213973186563042994240857116359379907606001950938285454250989 : Int)) → InR IntKind.u64 x340 → ∀ (x341 : Int), x341 = w3 (((0 : Int) + x337) % (7237005577332262213973186563042994240857116359379907606001950938285454250989 : Int)) → InR IntKind.u64 x341 → ∀ (x342 : Int), x342 = andI IntKind.u64 x336 (65535 : Int) → InR IntKind.u64 x342 → Need (val4 [x338, x339, x340, x341] < (7237005577332262213973186563042994240857116359379907606001950938285454250989 : Int)) ∧ Need (x342 < (65536 : Int)) ∧ ∀ (x343 : Int), x343 = w0 ((val4 [x338, x339, x340, x341] * (65536 : Int) + x342) % (7237005577332262213973186563042994240857116359379907606001950938285454250989 : Int)) → InR IntKind.u64 x343 → ∀ (x344 : Int), x344 = w1 ((val4 [x338, x339, x340, x341] * (65536 : Int) + x342) % (7237005577332262213973186563042994240857116359379907606001950938285454250989 : Int)) → InR IntKind.u64 x344 → ∀ (x345 : Int), x345 = w2 ((val4 [x338, x339, x340, x341] * (65536 : Int) + x342) % (7237005577332262213973186563042994240857116359379907606001950938285454250989 : Int)) → InR IntKind.u64 x345 → ∀ (x346 : Int), x346 = w3 ((val4 [x338, x339, x340, x341] * (65536 : Int) + x342) % (7237005577332262213973186563042994240857116359379907606001950938285454250989 : Int)) → InR IntKind.u64 x346 → ∀ (x347 : Int), x347 = shrI IntKind.u64 x335 (16 : Int) → InR IntKind.u64 x347 → Need (val4 [x343, x344, x345, x346] < (7237005577332262213973186563042994240857116359379907606001950938285454250989 : Int)) ∧ Need (x347 < (65536 : Int)) ∧ ∀ (x348 : Int), x348 = w0 ((val4 [x343, x344, x345, x346] * (65536 : Int) + x347) % (7237005577332262213973186563042994240857116359379907606001950938285454250989 : Int)) → InR IntKind.u64 x348 → ∀ (x349 : Int), x349 = w1 ((val4 [x343, x344, x345, x346] * (65536 : Int) + x347) % (7237005577332262213973186563042994240857116359379907606001950938285454250989 : Int)) → InR IntKind.u64 x349 → ∀ (x350 : Int), x350 = w2 ((val4 [x343, x344, x345, x346] * (65536 : Int) + x347) % (7237005577332262213973186563042994240857116359379907606001950938285454250989 : Int)) → InR IntKind.u64 x350 → ∀ (x351 : Int), x351 = w3 ((val4 [x343, x344, x345, x346] * (65536 : Int) + x347) % (7237005577332262213973186563042994240857116359379907606001950938285454250989 : Int)) → InR IntKind.u64 x351 → ∀ (x352 : Int), x352 = andI IntKind.u64 x335 (65535 : Int) → InR IntKind.u64 x352 → Need (val4 [x348, x349, x350, x351] < (7237005577332262213973186563042994240857116359379907606001950938285454250989 : Int)) ∧ Need (x352 < (65536 : Int)) ∧ ∀ (x353 : Int), x353 = w0 ((val4 [x348, x349, x350, x351] * (65536 : Int) + x352) % (7237005577332262213973186563042994240857116359379907606001950938285454250989 : Int)) → InR IntKind.u64 x353 → ∀ (x354 : Int), x354 = w1 ((val4 [x348, x349, x350, x351] * (65536 : Int) + x352) % (7237005577332262213973186563042994240857116359379907606001950938285454250989 : Int)) → InR IntKind.u64 x354 → ∀ (x355 : Int), x355 = w2 ((val4 [x348, x349, x350, x351] * (65536 : Int) + x352) % (7237005577332262213973186563042994240857116359379907606001950938285454250989 : Int)) → InR IntKind.u64 x355 → ∀ (x356 : Int), x356 = w3 ((val4 [x348, x349, x350, x351] * (65536 : Int) + x352) % (7237005577332262213973186563042994240857116359379907606001950938285454250989 : Int)) → InR IntKind.u64 x356 → ∀ (x357 : Int), x357 = shrI IntKind.u64 x330 (16 : Int) → InR IntKind.u64 x357 → Need (val4 [x353, x354, x355, x356] < (7237005577332262213973186563042994240857116359379907606001950938285454250989 : Int)) ∧ Need (x357 < (65536 : Int)) ∧ ∀ (x358 : Int), x358 = w0 ((val4 [x353, x354, x355, x356] * (65536 : Int) + x357) % (7237005577332262213973186563042994240857116359379907606001950938285454250989 : Int)) → InR IntKind.u64 x358 → ∀ (x359 : Int), x359 = w1 ((val4 [x353, x354, x355, x356] * (65536 : Int) + x357) % (7237005577332262213973186563042994240857116359379907606001950938285454250989 : Int)) → InR IntKind.u64 x359 → ∀ (x360 : Int), x360 = w2 ((val4 [x353, x354, x355, x356] * (65536 : Int) + x357) % (7237005577332262213973186563042994240857116359379907606001950938285454250989 : Int)) → InR IntKind.u64 x360 → ∀ (x361 : Int), x361 = w3 ((val4 [x353, x354, x355, x356] * (65536 : Int) + x357) % (7237005577332262213973186563042994240857116359379907606001950938285454250989 : Int)) → InR IntKind.u64 x361 → ∀ (x362 : Int), x362 = andI IntKind.u64 x330 (65535 : Int) → InR IntKind.u64 x362 → Need (val4 [x358, x359, x360, x361] < (7237005577332262213973186563042994240857116359379907606001950938285454250989 : Int)) ∧ Need (x362 < (65536 : Int)) ∧ ∀ (x363 : Int), x363 = w0 ((val4 [x358, x359, x360, x361] * (65536 : Int) + x362) % (7237005577332262213973186563042994240857116359379907606001950938285454250989 : Int)) → InR IntKind.u64 x363 → ∀ (x364 : Int), x364 = w1 ((val4 [x358, x359, x360, x361] * (65536 : Int) + x362) % (7237005577332262213973186563042994240857116359379907606001950938285454250989 : Int)) → InR IntKind.u64 x364 → ∀ (x365 : Int), x365 = w2 ((val4 [x358, x359, x360, x361] * (65536 : Int) + x362) % (7237005577332262213973186563042994240857116359379907606001950938285454250989 : Int)) → InR IntKind.u64 x365 → ∀ (x366 : Int), x366 = w3 ((val4 [x358, x359, x360, x361] * (65536 : Int) + x362) % (7237005577332262213973186563042994240857116359379907606001950938285454250989 : Int)) → InR IntKind.u64 x366 → ∀ (x367 : Int), x367 = shrI IntKind.u64 x325 (16 : Int) → InR IntKind.u64 x367 → Need (val4 [x363, x364, x365, x366] < (7237005577332262213973186563042994240857116359379907606001950938285454250989 : Int)) ∧ Need (x367 < (65536 : Int)) ∧ ∀ (x368 : Int), x368 = w0 ((val4 [x363, x364, x365, x366] * (65536 : Int) + x367) % (7237005577332262213973186563042994240857116359379907606001950938285454250989 : Int)) → InR IntKind.u64 x368 → ∀ (x369 : Int), x369 = w1 ((val4 [x363, x364, x365, x366] * (65536 : Int) + x367) % (7237005577332262213973186563042994240857116359379907606001950938285454250989 : Int)) → InR IntKind.u64 x369 → ∀ (x370 : Int), x370 = w2 ((val4 [x363, x364, x365, x366] * (65536 : Int) + x367) % (7237005577332262213973186563042994240857116359379907606001950938285454250989 : Int)) → InR IntKind.u64 x370 → ∀ (x371 : Int), x371 = w3 ((val4 [x363, x364, x365, x366] * (65536 : Int) + x367) % (7237005577332262213973186563042994240857116359379907606001950938285454250989 : Int)) → InR IntKind.u64 x371 → ∀ (x372 : Int), x372 = andI IntKind.u64 x325 (65535 : Int) → InR IntKind.u64 x372 → Need (val4 [x368, x369, x370, x371] < (7237005577332262213973186563042994240857116359379907606001950938285454250989 : Int)) ∧ Need (x372 < (65536 : Int)) ∧ ∀ (x373 : Int), x373 = w0 ((val4 [x368, x369, x370, x371] * (65536 : Int) + x372) % (7237005577332262213973186563042994240857116359379907606001950938285454250989 : Int)) → InR IntKind.u64 x373 → ∀ (x374 : Int), x374 = w1 ((val4 [x368, x369, x370, x371] * (65536 : Int) + x372) % (7237005577332262213973186563042994240857116359379907606001950938285454250989 : Int)) → InR IntKind.u64 x374 → ∀ (x375 : Int), x375 = w2 ((val4 [x368, x369, x370, x371] * (65536 : Int) + x372) % (7237005577332262213973186563042994240857116359379907606001950938285454250989 : Int)) → InR IntKind.u64 x375 → ∀ (x376 : Int), x376 = w3 ((val4 [x368, x369, x370, x371] * (65536 : Int) + x372) % (7237005577332262213973186563042994240857116359379907606001950938285454250989 : Int)) → InR IntKind.u64 x376 → ∀ (x377 : Int), x377 = shrI IntKind.u64 x320 (16 : Int) → InR IntKind.u64 x377 → Need (val4 [x373, x374, x375, x376] < (7237005577332262213973186563042994240857116359379907606001950938285454250989 : Int)) ∧ Need (x377 < (65536 : Int)) ∧ ∀ (x378 : Int), x378 = w0 ((val4 [x373, x374, x375, x376] * (65536 : Int) + x377) % (7237005577332262213973186563042994240857116359379907606001950938285454250989 : Int)) → InR IntKind.u64 x378 → ∀ (x379 : Int), x379 = w1 ((val4 [x373, x374, x375, x376] * (65536 : Int) + x377) % (7237005577332262213973186563042994240857116359379907606001950938285454250989 : Int)) → InR IntKind.u64 x379 → ∀ (x380 : Int), x380 = w2 ((val4 [x373, x374, x375, x376] * (65536 : Int) + x377) % (7237005577332262213973186563042994240857116359379907606001950938285454250989 : Int)) → InR IntKind.u64 x380 → ∀ (x381 : Int), x381 = w3 ((val4 [x373, x374, x375, x376] * (65536 : Int) + x377) % (7237005577332262213973186563042994240857116359379907606001950938285454250989 : Int)) → InR IntKind.u64 x381 → ∀ (x382 : Int), x382 = andI IntKind.u64 x320 (65535 : Int) → InR IntKind.u64 x382 → Need (val4 [x378, x379, x380, x381] < (7237005577332262213973186563042994240857116359379907606001950938285454250989 : Int)) ∧ Need (x382 < (65536 : Int)) ∧ ∀ (x383 : Int), x383 = w0 ((val4 [x378, x379, x380, x381] * (65536 : Int) + x382) % (7237005577332262213973186563042994240857116359379907606001950938285454250989 : Int)) → InR IntKind.u64 x383 → ∀ (x384 : Int), x384 = w1 ((val4 [x378, x379, x380, x381] * (65536 : Int) + x382) % (7237005577332262213973186563042994240857116359379907606001950938285454250989 : Int)) → InR IntKind.u64 x384 → ∀ (x385 : Int), x385 = w2 ((val4 [x378, x379, x380, x381] * (65536 : Int) + x382) % (7237005577332262213973186563042994240857116359379907606001950938285454250989 : Int)) → InR IntKind.u64 x385 → ∀ (x386 : Int), x386 = w3 ((val4 [x378, x379, x380, x381] * (65536 : Int) + x382) % (7237005577332262213973186563042994240857116359379907606001950938285454250989 : Int)) → InR IntKind.u64 x386 → ∀ (x387 : Int), x387 = shrI IntKind.u64 x315 (16 : Int) → InR IntKind.u64 x387 → Need (val4 [x383, x384, x385, x386] < (7237005577332262213973186563042994240857116359379907606001950938285454250989 : Int)) ∧ Need (x387 < (65536 : Int)) ∧ ∀ (x388 : Int), x388 = w0 ((val4 [x383, x384, x385, x386] * (65536 : Int) + x387) % (7237005577332262213973186563042994240857116359379907606001950938285454250989 : Int)) → InR IntKind.u64 x388 → ∀ (x389 : Int), x389 = w1 ((val4 [x383, x384, x385, x386] * (65536 : Int) + x387) % (7237005577332262213973186563042994240857116359379907606001950938285454250989 : Int)) → InR IntKind.u64 x389 → ∀ (x390 : Int), x390 = w2 ((val4 [x383, x384, x385, x386] * (65536 : Int) + x387) % (7237005577332262213973186563042994240857116359379907606001950938285454250989 : Int)) → InR IntKind.u64 x390 → ∀ (x391 : Int), x391 = w3 ((val4 [x383, x384, x385, x386] * (65536 : Int) + x387) % (7237005577332262213973186563042994240857116359379907606001950938285454250989 : Int)) → InR IntKind.u64 x391 → ∀ (x392 : Int), x392 = andI IntKind.u64 x315 (65535 : Int) → InR IntKind.u64 x392 → Need (val4 [x388, x389, x390, x391] < (7237005577332262213973186563042994240857116359379907606001950938285454250989 : Int)) ∧ Need (x392 < (65536 : Int)) ∧ ∀ (x393 : Int), x393 = w0 ((val4 [x388, x389, x390, x391] * (65536 : Int) + x392) % (7237005577332262213973186563042994240857116359379907606001950938285454250989 : Int)) → InR IntKind.u64 x393 → ∀ (x394 : Int), x394 = w1 ((val4 [x388, x389, x390, x391] * (65536 : Int) + x392) % (7237005577332262213973186563042994240857116359379907606001950938285454250989 : Int)) → InR IntKind.u64 x394 → ∀ (x395 : Int), x395 = w2 ((val4 [x388, x389, x390, x391] * (65536 : Int) + x392) % (7237005577332262213973186563042994240857116359379907606001950938285454250989 : Int)) → InR IntKind.u64 x395 → ∀ (x396 : Int), x396 = w3 ((val4 [x388, x389, x390, x391] * (65536 : Int) + x392) % (7237005577332262213973186563042994240857116359379907606001950938285454250989 : Int)) → InR IntKind.u64 x396 → ∀ (x397 : Int), x397 = shrI IntKind.u64 x310 (16 : Int) → InR IntKind.u64 x397 → Need (val4 [x393, x394, x395, x396] < (7237005577332262213973186563042994240857116359379907606001950938285454250989 : Int)) ∧ Need (x397 < (65536 : Int)) ∧ ∀ (x398 : Int), x398 = w0 ((val4 [x393, x394, x395, x396] * (65536 : Int) + x397) % (7237005577332262213973186563042994240857116359379907606001950938285454250989 : Int)) → InR IntKind.u64 x398 → ∀ (x399 : Int), x399 = w1 ((val4 [x393, x394, x395, x396] * (65536 : Int) + x397) % (7237005577332262213973186563042994240857116359379907606001950938285454250989 : Int)) → InR IntKind.u64 x399 → ∀ (x400 : Int), x400 = w2 ((val4 [x393, x394, x395, x396] * (65536 : Int) + x397) % (7237005577332262213973186563042994240857116359379907606001950938285454250989 : Int)) → InR IntKind.u64 x400 → ∀ (x401 : Int), x401 = w3 ((val4 [x393, x394, x395, x396] * (65536 : Int) + x397) % (7237005577332262213973186563042994240857116359379907606001950938285454250989 : Int)) → InR IntKind.u64 x401 → ∀ (x402 : Int), x402 = andI IntKind.u64 x310 (65535 : Int) → InR IntKind.u64 x402 → Need (val4 [x398, x399, x400, x401] < (7237005577332262213973186563042994240857116359379907606001950938285454250989 : Int)) ∧ Need (x402 < (65536 : Int)) ∧ ∀ (x403 : Int), x403 = w0 ((val4 [x398, x399, x400, x401] * (65536 : Int) + x402) % (7237005577332262213973186563042994240857116359379907606001950938285454250989 : Int)) → InR IntKind.u64 x403 → ∀ (x404 : Int), x404 = w1 ((val4 [x398, x399, x400, x401] * (65536 : Int) + x402) % (7237005577332262213973186563042994240857116359379907606001950938285454250989 : Int)) → InR IntKind.u64 x404 → ∀ (x405 : Int), x405 = w2 ((val4 [x398, x399, x400, x401] * (65536 : Int) + x402) % (7237005577332262213973186563042994240857116359379907606001950938285454250989 : Int)) → InR IntKind.u64 x405 → ∀ (x406 : Int), x406 = w3 ((val4 [x398, x399, x400, x401] * (65536 : Int) + x402) % (7237005577332262213973186563042994240857116359379907606001950938285454250989 : Int)) → InR IntKind.u64 x406 → ∀ (x407 : Int), x407 = shrI IntKind.u64 x305 (16 : Int) → InR IntKind.u64 x407 → Need (val4 [x403, x404, x405, x406] < (7237005577332262213973186563042994240857116359379907606001950938285454250989 : Int)) ∧ Need (x407 < (65536 : Int)) ∧ ∀ (x408 : Int), x408 = w0 ((val4 [x403, x404, x405, x406] * (65536 : Int) + x407) % (7237005577332262213973186563042994240857116359379907606001950938285454250989 : Int)) → InR IntKind.u64 x408 → ∀ (x409 : Int), x409 = w1 ((val4 [x403, x404, x405, x406] * (65536 : Int) + x407) % (7237005577332262213973186563042994240857116359379907606001950938285454250989 : Int)) → InR IntKind.u64 x409 → ∀ (x410 : Int), x410 = w2 ((val4 [x403, x404, x405, x406] * (65536 : Int) + x407) % (7237005577332262213973186563042994240857116359379907606001950938285454250989 : Int)) → InR IntKind.u64 x410 → ∀ (x411 : Int), x411 = w3 ((val4 [x403, x404, x405, x406] * (65536 : Int) + x407) % (7237005577332262213973186563042994240857116359379907606001950938285454250989 : Int)) → InR IntKind.u64 x411 → ∀ (x412 : Int), x412 = andI IntKind.u64 x305 (65535 : Int) → InR IntKind.u64 x412 → Need (val4 [x408, x409, x410, x411] < (7237005577332262213973186563042994240857116359379907606001950938285454250989 : Int)) ∧ Need (x412 < (65536 : Int)) ∧ ∀ (x413 : Int), x413 = w0 ((val4 [x408, x409, x410, x411] * (65536 : Int) + x412) % (7237005577332262213973186563042994240857116359379907606001950938285454250989 : Int)) → InR IntKind.u64 x413 → ∀ (x414 : Int), x414 = w1 ((val4 [x408, x409, x410, x411] * (65536 : Int) + x412) % (7237005577332262213973186563042994240857116359379907606001950938285454250989 : Int)) → InR IntKind.u64 x414 → ∀ (x415 : Int), x415 = w2 ((val4 [x408, x409, x410, x411] * (65536 : Int) + x412) % (7237005577332262213973186563042994240857116359379907606001950938285454250989 : Int)) → InR IntKind.u64 x415 → ∀ (x416 : Int), x416 = w3 ((val4 [x408, x409, x410, x411] * (65536 : Int) + x412) % (7237005577332262213973186563042994240857116359379907606001950938285454250989 : Int)) → InR IntKind.u64 x416 → ∀ (x417 : Int), x417 = shrI IntKind.u64 x300 (16 : Int) → InR IntKind.u64 x417 → Need (val4 [x413, x414, x415, x416] < (7237005577332262213973186563042994240857116359379907606001950938285454250989 : Int)) ∧ Need (x417 < (65536 : Int)) ∧ ∀ (x418 : Int), x418 = w0 ((val4 [x413, x414, x415, x416] * (65536 : Int) + x417) % (7237005577332262213973186563042994240857116359379907606001950938285454250989 : Int)) → InR IntKind.u64 x418 → ∀ (x419 : Int), x419 = w1 ((val4 [x413, x414, x415, x416] * (65536 : Int) + x417) % (7237005577332262213973186563042994240857116359379907606001950938285454250989 : Int)) → InR IntKind.u64 x419 → ∀ (x420 : Int), x420 = w2 ((val4 [x413, x414, x415, x416] * (65536 : Int) + x417) % (7237005577332262213973186563042994240857116359379907606001950938285454250989 : Int)) → InR IntKind.u64 x420 → ∀ (x421 : Int), x421 = w3 ((val4 [x413, x414, x415, x416] * (65536 : Int) + x417) % (7237005577332262213973186563042994240857116359379907606001950938285454250989 : Int)) → InR IntKind.u64 x421 → ∀ (x422 : Int), x422 = andI IntKind.u64 x300 (65535 : Int) → InR IntKind.u64 x422 → Need (val4 [x418, x419, x420, x421] < (7237005577332262213973186563042994240857116359379907606001950938285454250989 : Int)) ∧ Need (x422 < (65536 : Int)) ∧ ∀ (x423 : Int), x423 = w0 ((val4 [x418, x419, x420, x421] * (65536 : Int) + x422) % (7237005577332262213973186563042994240857116359379907606001950938285454250989 : Int)) → InR IntKind.u64 x423 → ∀ (x424 : Int), x424 = w1 ((val4 [x418, x419, x420, x421] * (65536 : Int) + x422) % (7237005577332262213973186563042994240857116359379907606001950938285454250989 : Int)) → InR IntKind.u64 x424 → ∀ (x425 : Int), x425 = w2 ((val4 [x418, x419, x420, x421] * (65536 : Int) + x422) % (7237005577332262213973186563042994240857116359379907606001950938285454250989 : Int)) → InR IntKind.u64 x425 → ∀ (x426 : Int), x426 = w3 ((val4 [x418, x419, x420, x421] * (65536 : Int) + x422) % (7237005577332262213973186563042994240857116359379907606001950938285454250989 : Int)) → InR IntKind.u64 x426 → ∀ (x427 : Int), x427 = shrI IntKind.u64 x260 (16 : Int) → InR IntKind.u64 x427 → Need (val4 [x423, x424, x425, x426] < (7237005577332262213973186563042994240857116359379907606001950938285454250989 : Int)) ∧ Need (x427 < (65536 : Int)) ∧ ∀ (x428 : Int), x428 = w0 ((val4 [x423, x424, x425, x426] * (65536 : Int) + x427) % (7237005577332262213973186563042994240857116359379907606001950938285454250989 : Int)) → InR IntKind.u64 x428 → ∀ (x429 : Int), x429 = w1 ((val4 [x423, x424, x425, x426] * (65536 : Int) + x427) % (7237005577332262213973186563042994240857116359379907606001950938285454250989 : Int)) → InR IntKind.u64 x429 → ∀ (x430 : Int), x430 = w2 ((val4 [x423, x424, x425, x426] * (65536 : Int) + x427) % (7237005577332262213973186563042994240857116359379907606001950938285454250989 : Int)) → InR IntKind.u64 x430 → ∀ (x431 : Int), x431 = w3 ((val4 [x423, x424, x425, x426] * (65536 : Int) + x427) % (7237005577332262213973186563042994240857116359379907606001950938285454250989 : Int)) → InR IntKind.u64 x431 → ∀ (x432 : Int), x432 = andI IntKind.u64 x260 (65535 : Int) → InR IntKind.u64 x432 → Need (val4 [x428, x429, x430, x431] < (7237005577332262213973186563042994240857116359379907606001950938285454250989 : Int)) ∧ Need (x432 < (65536 : Int)) ∧ ∀ (x433 : Int), x433 = w0 ((val4 [x428, x429, x430, x431] * (65536 : Int) + x432) % (7237005577332262213973186563042994240857116359379907606001950938285454250989 : Int)) → InR IntKind.u64 x433 → ∀ (x434 : Int), x434 = w1 ((val4 [x428, x429, x430, x431] * (65536 : Int) + x432) % (7237005577332262213973186563042994240857116359379907606001950938285454250989 : Int)) → InR IntKind.u64 x434 → ∀ (x435 : Int), x435 = w2 ((val4 [x428, x429, x430, x431] * (65536 : Int) + x432) % (7237005577332262213973186563042994240857116359379907606001950938285454250989 : Int)) → InR IntKind.u64 x435 → ∀ (x436 : Int), x436 = w3 ((val4 [x428, x429, x430, x431] * (65536 : Int) + x432) % (7237005577332262213973186563042994240857116359379907606001950938285454250989 : Int)) → InR IntKind.u64 x436 → ∀ (x437 : Int), x437 = shrI IntKind.u64 x220 (16 : Int) → InR IntKind.u64 x437 → Need (val4 [x433, x434, x435, x436] < (7237005577332262213973186563042994240857116359379907606001950938285454250989 : Int)) ∧ Need (x437 < (65536 : Int)) ∧ ∀ (x438 : Int), x438 = w0 ((val4 [x433, x434, x435, x436] * (65536 : Int) + x437) % (7237005577332262213973186563042994240857116359379907606001950938285454250989 : Int)) → InR IntKind.u64 x438 → ∀ (x439 : Int), x439 = w1 ((val4 [x433, x434, x435, x436] * (65536 : Int) + x437) % (7237005577332262213973186563042994240857116359379907606001950938285454250989 : Int)) → InR IntKind.u64 x439 → ∀ (x440 : Int), x440 = w2 ((val4 [x433, x434, x435, x436] * (65536 : Int) + x437) % (7237005577332262213973186563042994240857116359379907606001950938285454250989 : Int)) → InR IntKind.u64 x440 → ∀ (x441 : Int), x441 = w3 ((val4 [x433, x434, x435, x436] * (65536 : Int) + x437) % (7237005577332262213973186563042994240857116359379907606001950938285454250989 : Int)) → InR IntKind.u64 x441 → ∀ (x442 : Int), x442 = andI IntKind.u64 x220 (65535 : Int) → InR IntKind.u64 x442 → Need (val4 [x438, x439, x440, x441] < (7237005577332262213973186563042994240857116359379907606001950938285454250989 : Int)) ∧ Need (x442 < (65536 : Int)) ∧ ∀ (x443 : Int), x443 = w0 ((val4 [x438, x439, x440, x441] * (65536 : Int) + x442) % (7237005577332262213973186563042994240857116359379907606001950938285454250989 : Int)) → InR IntKind.u64 x443 → ∀ (x444 : Int), x444 = w1 ((val4 [x438, x439, x440, x441] * (65536 : Int) + x442) % (7237005577332262213973186563042994240857116359379907606001950938285454250989 : Int)) → InR IntKind.u64 x444 → ∀ (x445 : Int), x445 = w2 ((val4 [x438, x439, x440, x441] * (65536 : Int) + x442) % (7237005577332262213973186563042994240857116359379907606001950938285454250989 : Int)) → InR IntKind.u64 x445 → ∀ (x446 : Int), x446 = w3 ((val4 [x438, x439, x440, x441] * (65536 : Int) + x442) % (7237005577332262213973186563042994240857116359379907606001950938285454250989 : Int)) → InR IntKind.u64 x446 → ∀ (x447 : Int), x447 = shrI IntKind.u64 x180 (16 : Int) → InR IntKind.u64 x447 → Need (val4 [x443, x444, x445, x446] < (7237005577332262213973186563042994240857116359379907606001950938285454250989 : Int)) ∧ Need (x447 < (65536 : Int)) ∧ ∀ (x448 : Int), x448 = w0 ((val4 [x443, x444, x445, x446] * (65536 : Int) + x447) % (7237005577332262213973186563042994240857116359379907606001950938285454250989 : Int)) → InR IntKind.u64 x448 → ∀ (x449 : Int), x449 = w1 ((val4 [x443, x444, x445, x446] * (65536 : Int) + x447) % (7237005577332262213973186563042994240857116359379907606001950938285454250989 : Int)) → InR IntKind.u64 x449 → ∀ (x450 : Int), x450 = w2 ((val4 [x443, x444, x445, x446] * (65536 : Int) + x447) % (7237005577332262213973186563042994240857116359379907606001950938285454250989 : Int)) → InR IntKind.u64 x450 → ∀ (x451 : Int), x451 = w3 ((val4 [x443, x444, x445, x446] * (65536 : Int) + x447) % (7237005577332262213973186563042994240857116359379907606001950938285454250989 : Int)) → InR IntKind.u64 x451 → ∀ (x452 : Int), x452 = andI IntKind.u64 x180 (65535 : Int) → InR IntKind.u64 x452 → Need (val4 [x448, x449, x450, x451] < (7237005577332262213973186563042994240857116359379907606001950938285454250989 : Int)) ∧ Need (x452 < (65536 : Int)) ∧ ∀ (x453 : Int), x453 = w0 ((val4 [x448, x449, x450, x451] * (65536 : Int) + x452) % (7237005577332262213973186563042994240857116359379907606001950938285454250989 : Int)) → InR IntKind.u64 x453 → ∀ (x454 : Int), x454 = w1 ((val4 [x448, x449, x450, x451] * (65536 : Int) + x452) % (7237005577332262213973186563042994240857116359379907606001950938285454250989 : Int)) → InR IntKind.u64 x454 → ∀ (x455 : Int), x455 = w2 ((val4 [x448, x449, x450, x451] * (65536 : Int) + x452) % (7237005577332262213973186563042994240857116359379907606001950938285454250989 : Int)) → InR IntKind.u64 x455 → ∀ (x456 : Int), x456 = w3 ((val4 [x448, x449, x450, x451] * (65536 : Int) + x452) % (7237005577332262213973186563042994240857116359379907606001950938285454250989 : Int)) → InR IntKind.u64 x456 → ∀ (x457 : Int), x457 = shrI IntKind.u64 x140 (16 : Int) → InR IntKind.u64 x457 → Need (val4 [x453, x454, x455, x456] < (7237005577332262213973186563042994240857116359379907606001950938285454250989 : Int)) ∧ Need (x457 < (65536 : Int)) ∧ ∀ (x458 : Int), x458 = w0 ((val4 [x453, x454, x455, x456] * (65536 : Int) + x457) % (7237005577332262213973186563042994240857116359379907606001950938285454250989 : Int)) → InR IntKind.u64 x458 → ∀ (x459 : Int), x459 = w1 ((val4 [x453, x454, x455, x456] * (65536 : Int) + x457) % (7237005577332262213973186563042994240857116359379907606001950938285454250989 : Int)) → InR IntKind.u64 x459 → ∀ (x460 : Int), x460 = w2 ((val4 [x453, x454, x455, x456] * (65536 : Int) + x457) % (7237005577332262213973186563042994240857116359379907606001950938285454250989 : Int)) → InR IntKind.u64 x460 → ∀ (x461 : Int), x461 = w3 ((val4 [x453, x454, x455, x456] * (65536 : Int) + x457) % (7237005577332262213973186563042994240857116359379907606001950938285454250989 : Int)) → InR IntKind.u64 x461 → ∀ (x462 : Int), x462 = andI IntKind.u64 x140 (65535 : Int) → InR IntKind.u64 x462 → Need (val4 [x458, x459, x460, x461] < (7237005577332262213973186563042994240857116359379907606001950938285454250989 : Int)) ∧ Need (x462 < (65536 : Int)) ∧ ∀ (x463 : Int), x463 = w0 ((val4 [x458, x459, x460, x461] * (65536 : Int) + x462) % (7237005577332262213973186563042994240857116359379907606001950938285454250989 : Int)) → InR IntKind.u64 x463 → ∀ (x464 : Int), x464 = w1 ((val4 [x458, x459, x460, x461] * (65536 : Int) + x462) % (7237005577332262213973186563042994240857116359379907606001950938285454250989 : Int)) → InR IntKind.u64 x464 → ∀ (x465 : Int), x465 = w2 ((val4 [x458, x459, x460, x461] * (65536 : Int) + x462) % (7237005577332262213973186563042994240857116359379907606001950938285454250989 : Int)) → InR IntKind.u64 x465 → ∀ (x466 : Int), x466 = w3 ((val4 [x458, x459, x460, x461] * (65536 : Int) + x462) % (7237005577332262213973186563042994240857116359379907606001950938285454250989 : Int)) → InR IntKind.u64 x466 → ∀ (x467 : Int), x467 = shrI IntKind.u64 x100 (16 : Int) → InR IntKind.u64 x467 → Need (val4 [x463, x464, x465, x466] < (7237005577332262213973186563042994240857116359379907606001950938285454250989 : Int)) ∧ Need (x467 < (65536 : Int)) ∧ ∀ (x468 : Int), x468 = w0 ((val4 [x463, x464, x465, x466] * (65536 : Int) + x467) % (7237005577332262213973186563042994240857116359379907606001950938285454250989 : Int)) → InR IntKind.u64 x468 → ∀ (x469 : Int), x469 = w1 ((val4 [x463, x464, x465, x466] * (65536 : Int) + x467) % (7237005577332262213973186563042994240857116359379907606001950938285454250989 : Int)) → InR IntKind.u64 x469 → ∀ (x470 : Int), x470 = w2 ((val4 [x463, x464, x465, x466] * (65536 : Int) + x467) % (7237005577332262213973186563042994240857116359379907606001950938285454250989 : Int)) → InR IntKind.u64 x470 → ∀ (x471 : Int), x471 = w3 ((val4 [x463, x464, x465, x466] * (65536 : Int) + x467) % (7237005577332262213973186563042994240857116359379907606001950938285454250989 : Int)) → InR IntKind.u64 x471 → ∀ (x472 : Int), x472 = andI IntKind.u64 x100 (65535 : Int) → InR IntKind.u64 x472 → Need (val4 [x468, x469, x470, x471] < (7237005577332262213973186563042994240857116359379907606001950938285454250989 : Int)) ∧ Need (x472 < (65536 : Int)) ∧ ∀ (x473 : Int), x473 = w0 ((val4 [x468, x469, x470, x471] * (65536 : Int) + x472) % (7237005577332262213973186563042994240857116359379907606001950938285454250989 : Int)) → InR IntKind.u64 x473 → ∀ (x474 : Int), x474 = w1 ((val4 [x468, x469, x470, x471] * (65536 : Int) + x472) % (7237005577332262213973186563042994240857116359379907606001950938285454250989 : Int)) → InR IntKind.u64 x474 → ∀ (x475 : Int), x475 = w2 ((val4 [x468, x469, x470, x471] * (65536 : Int) + x472) % (7237005577332262213973186563042994240857116359379907606001950938285454250989 : Int)) → InR IntKind.u64 x475 → ∀ (x476 : Int), x476 = w3 ((val4 [x468, x469, x470, x471] * (65536 : Int) + x472) % (7237005577332262213973186563042994240857116359379907606001950938285454250989 : Int)) → InR IntKind.u64 x476 → ∀ (x477 : Int), x477 = shrI IntKind.u64 x60 (16 : Int) → InR IntKind.u64 x477 → Need (val4 [x473, x474, x475, x476] < (7237005577332262213973186563042994240857116359379907606001950938285454250989 : Int)) ∧ Need (x477 < (65536 : Int)) ∧ ∀ (x478 : Int), x478 = w0 ((val4 [x473, x474, x475, x476] * (65536 : Int) + x477) % (7237005577332262213973186563042994240857116359379907606001950938285454250989 : Int)) → InR IntKind.u64 x478 → ∀ (x479 : Int), x479 = w1 ((val4 [x473, x474, x475, x476] * (65536 : Int) + x477) % (7237005577332262213973186563042994240857116359379907606001950938285454250989 : Int)) → InR IntKind.u64 x479 → ∀ (x480 : Int), x480 = w2 ((val4 [x473, x474, x475, x476] * (65536 : Int) + x477) % (7237005577332262213973186563042994240857116359379907606001950938285454250989 : Int)) → InR IntKind.u64 x480 → ∀ (x481 : Int), x481 = w3 ((val4 [x473, x474, x475, x476] * (65536 : Int) + x477) % (7237005577332262213973186563042994240857116359379907606001950938285454250989 : Int)) → InR IntKind.u64 x481 → ∀ (x482 : Int), x482 = andI IntKind.u64 x60 (65535 : Int) → InR IntKind.u64 x482 → Need (val4 [x478, x479, x480, x481] < (7237005577332262213973186563042994240857116359379907606001950938285454250989 : Int)) ∧ Need (x482 < (65536 : Int)) ∧ ∀ (x483 : Int), x483 = w0 ((val4 [x478, x479, x480, x481] * (65536 : Int) + x482) % (7237005577332262213973186563042994240857116359379907606001950938285454250989 : Int)) → InR IntKind.u64 x483 → ∀ (x484 : Int), x484 = w1 ((val4 [x478, x479, x480, x481] * (65536 : Int) + x482) % (7237005577332262213973186563042994240857116359379907606001950938285454250989 : Int)) → InR IntKind.u64 x484 → ∀ (x485 : Int), x485 = w2 ((val4 [x478, x479, x480, x481] * (65536 : Int) + x482) % (7237005577332262213973186563042994240857116359379907606001950938285454250989 : Int)) → InR IntKind.u64 x485 → ∀ (x486 : Int), x486 = w3 ((val4 [x478, x479, x480, x481] * (65536 : Int) + x482) % (7237005577332262213973186563042994240857116359379907606001950938285454250989 : Int)) → InR IntKind.u64 x486 → ∀ (x487 : Int), x487 = shrI IntKind.u64 x20 (16 : Int) → InR IntKind.u64 x487 → Need (val4 [x483, x484, x485, x486] < (7237005577332262213973186563042994240857116359379907606001950938285454250989 : Int)) ∧ Need (x487 < (65536 : Int)) ∧ ∀ (x488 : Int), x488 = w0 ((val4 [x483, x484, x485, x486] * (65536 : Int) + x487) % (7237005577332262213973186563042994240857116359379907606001950938285454250989 : Int)) → InR IntKind.u64 x488 → ∀ (x489 : Int), x489 = w1 ((val4 [x483, x484, x485, x486] * (65536 : Int) + x487) % (7237005577332262213973186563042994240857116359379907606001950938285454250989 : Int)) → InR IntKind.u64 x489 → ∀ (x490 : Int), x490 = w2 ((val4 [x483, x484, x485, x486] * (65536 : Int) + x487) % (7237005577332262213973186563042994240857116359379907606001950938285454250989 : Int)) → InR IntKind.u64 x490 → ∀ (x491 : Int), x491 = w3 ((val4 [x483, x484, x485, x486] * (65536 : Int) + x487) % (7237005577332262213973186563042994240857116359379907606001950938285454250989 : Int)) → InR IntKind.u64 x491 → ∀ (x492 : Int), x492 = andI IntKind.u64 x20 (65535 : Int) → InR IntKind.u64 x492 → Need (val4 [x488, x489, x490, x491] < (7237005577332262213973186563042994240857116359379907606001950938285454250989 : Int)) ∧ Need (x492 < (65536 : Int)) ∧ ∀ (x493 : Int), x493 = w0 ((val4 [x488, x489, x490, x491] * (65536 : Int) + x492) % (7237005577332262213973186563042994240857116359379907606001950938285454250989 : Int)) → InR IntKind.u64 x493 → ∀ (x494 : Int), x494 = w1 ((val4 [x488, x489, x490, x491] * (65536 : Int) + x492) % (7237005577332262213973186563042994240857116359379907606001950938285454250989 : Int)) → InR IntKind.u64 x494 → ∀ (x495 : Int), x495 = w2 ((val4 [x488, x489, x490, x491] * (65536 : Int) + x492) % (7237005577332262213973186563042994240857116359379907606001950938285454250989 : Int)) → InR IntKind.u64 x495 → ∀ (x496 : Int), x496 = w3 ((val4 [x488, x489, x490, x491] * (65536 : Int) + x492) % (7237005577332262213973186563042994240857116359379907606001950938285454250989 : Int)) → InR IntKind.u64 x496 → K (SV.arr IntKind.u64 (4 : Nat) true [x493, x494, x495, x496]) := by
  intros
  kernel_rfl

def rmulS : List SV → Option (List Prop × SV)
  | [.arr .u64 4 _ aL, .arr .u64 4 _ bL] => some ([], .arr .u64 4 true (words4 (mlL (val4 aL) (val4 bL))))
  | _ => none

set_option maxRecDepth 100000 in
theorem rmul_ok : CallOk Tryd.prog gh 38 (pureCtr rmulS) := by
  refine call_pure (fn := Tryd.f38) Γ11_ok rfl (by kernel_rfl) (by kernel_rfl) (by kernel_rfl) rmulS fun args P0 Y0 hs hp hf => ?_
  unfold rmulS at hs
  split at hs
  · rename_i ea aL eb bL
    simp only [Option.some.injEq, Prod.mk.injEq] at hs
    obtain ⟨rfl, rfl⟩ := hs
    simp only [FactVs, FactV] at hf
    obtain ⟨⟨hal, ha⟩, ⟨hbl, hb⟩, _⟩ := hf
    obtain ⟨a0, a1, a2, a3, rfl⟩ := len4 hal
    have ia0 := ha a0 (by simp); have ia1 := ha a1 (by simp); have ia2 := ha a2 (by simp); have ia3 := ha a3 (by simp)
    obtain ⟨b0, b1, b2, b3, rfl⟩ := len4 hbl
    have ib0 := hb b0 (by simp); have ib1 := hb b1 (by simp); have ib2 := hb b2 (by simp); have ib3 := hb b3 (by simp)
    refine ⟨[.arr .u64 4 true [a0, a1, a2, a3], .arr .u64 4 true [b0, b1, b2, b3]], [], _, ⟨rfl, rfl, trivial⟩, Nat.le_of_ble_eq_true (by kernel_rfl), vc_noloops ?_⟩
    show vc38 a0 a1 a2 a3 b0 b1 b2 b3 _ _
    rw [vc38_eq]
    rw [← ell_lit]
    intro x1 e1 r1 x2 e2 r2 x3 e3 r3 x4 e4 r4 x5 e5 r5 x6 e6 r6 x7 e7 r7 x8 e8 r8 x9 e9 r9 x10 e10 r10 x11 e11 r11 x12 e12 r12 x13 e13 r13 x14 e14 r14 x15 e15 r15 x16 e16 r16 x17 e17 r17 x18 e18 r18 x19 e19 r19 x20 e20 r20 x21 e21 r21 x22 e22 r22 x23 e23 r23 x24 e24 r24 x25 e25 r25 x26 e26 r26 x27 e27 r27 x28 e28 r28 x29 e29 r29 x30 e30 r30 x31 e31 r31 x32 e32 r32 x33 e33 r33 x34 e34 r34 x35 e35 r35 x36 e36 r36 x37 e37 r37 x38 e38 r38 x39 e39 r39 x40 e40 r40 x41 e41 r41 x42 e42 r42 x43 e43 r43 x44 e44 r44 x45 e45 r45 x46 e46 r46 x47 e47 r47 x48 e48 r48 x49 e49 r49 x50 e50 r50 x51 e51 r51 x52 e52 r52 x53 e53 r53 x54 e54 r54 x55 e55 r55 x56 e56 r56 x57 e57 r57 x58 e58 r58 x59 e59 r59 x60 e60 r60 x61 e61 r61 x62 e62 r62 x63 e63 r63 x64 e64 r64 x65 e65 r65 x66 e66 r66 x67 e67 r67 x68 e68 r68 x69 e69 r69 x70 e70 r70 x71 e71 r71 x72 e72 r72 x73 e73 r73 x74 e74 r74 x75 e75 r75 x76 e76 r76 x77 e77 r77 x78 e78 r78 x79 e79 r79 x80 e80 r80 x81 e81 r81 x82 e82 r82 x83 e83 r83 x84 e84 r84 x85 e85 r85 x86 e86 r86 x87 e87 r87 x88 e88 r88 x89 e89 r89 x90 e90 r90 x91 e91 r91 x92 e92 r92 x93 e93 r93 x94 e94 r94 x95 e95 r95 x96 e96 r96 x97 e97 r97 x98 e98 r98 x99 e99 r99 x100 e100 r100 x101 e101 r101 x102 e102 r102 x103 e103 r103 x104 e104 r104 x105 e105 r105 x106 e106 r106 x107 e107 r107 x108 e108 r108 x109 e109 r109 x110 e110 r110 x111 e111 r111 x112 e112 r112 x113 e113 r113 x114 e114 r114 x115 e115 r115 x116 e116 r116 x117 e117 r117 x118 e118 r118 x119 e119 r119 x120 e120 r120 x121 e121 r121 x122 e122 r122 x123 e123 r123 x124 e124 r124 x125 e125 r125 x126 e126 r126 x127 e127 r127 x128 e128 r128 x129 e129 r129 x130 e130 r130 x131 e131 r131 x132 e132 r132 x133 e133 r133 x134 e134 r134 x135 e135 r135 x136 e136 r136 x137 e137 r137 x138 e138 r138 x139 e139 r139 x140 e140 r140 x141 e141 r141 x142 e142 r142 x143 e143 r143 x144 e144 r144 x145 e145 r145 x146 e146 r146 x147 e147 r147 x148 e148 r148 x149 e149 r149 x150 e150 r150 x151 e151 r151 x152 e152 r152 x153 e153 r153 x154 e154 r154 x155 e155 r155 x156 e156 r156 x157 e157 r157 x158 e158 r158 x159 e159 r159 x160 e160 r160 x161 e161 r161 x162 e162 r162 x163 e163 r163 x164 e164 r164 x165 e165 r165 x166 e166 r166 x167 e167 r167 x168 e168 r168 x169 e169 r169 x170 e170 r170 x171 e171 r171 x172 e172 r172 x173 e173 r173 x174 e174 r174 x175 e175 r175 x176 e176 r176 x177 e177 r177 x178 e178 r178 x179 e179 r179 x180 e180 r180 x181 e181 r181 x182 e182 r182 x183 e183 r183 x184 e184 r184 x185 e185 r185 x186 e186 r186 x187 e187 r187 x188 e188 r188 x189 e189 r189 x190 e190 r190 x191 e191 r191 x192 e192 r192 x193 e193 r193 x194 e194 r194 x195 e195 r195 x196 e196 r196 x197 e197 r197 x198 e198 r198 x199 e199 r199 x200 e200 r200 x201 e201 r201 x202 e202 r202 x203 e203 r203 x204 e204 r204 x205 e205 r205 x206 e206 r206 x207 e207 r207 x208 e208 r208 x209 e209 r209 x210 e210 r210 x211 e211 r211 x212 e212 r212 x213 e213 r213 x214 e214 r214 x215 e215 r215 x216 e216 r216 x217 e217 r217 x218 e218 r218 x219 e219 r219 x220 e220 r220 x221 e221 r221 x222 e222 r222 x223 e223 r223 x224 e224 r224 x225 e225 r225 x226 e226 r226 x227 e227 r227 x228 e228 r228 x229 e229 r229 x230 e230 r230 x231 e231 r231 x232 e232 r232 x233 e233 r233 x234 e234 r234 x235 e235 r235 x236 e236 r236 x237 e237 r237 x238 e238 r238 x239 e239 r239 x240 e240 r240 x241 e241 r241 x242 e242 r242 x243 e243 r243 x244 e244 r244 x245 e245 r245 x246 e246 r246 x247 e247 r247 x248 e248 r248 x249 e249 r249 x250 e250 r250 x251 e251 r251 x252 e252 r252 x253 e253 r253 x254 e254 r254 x255 e255 r255 x256 e256 r256 x257 e257 r257 x258 e258 r258 x259 e259 r259 x260 e260 r260 x261 e261 r261 x262 e262 r262 x263 e263 r263 x264 e264 r264 x265 e265 r265 x266 e266 r266 x267 e267 r267 x268 e268 r268 x269 e269 r269 x270 e270 r270 x271 e271 r271 x272 e272 r272 x273 e273 r273 x274 e274 r274 x275 e275 r275 x276 e276 r276 x277 e277 r277 x278 e278 r278 x279 e279 r279 x280 e280 r280 x281 e281 r281 x282 e282 r282 x283 e283 r283 x284 e284 r284 x285 e285 r285 x286 e286 r286 x287 e287 r287 x288 e288 r288 x289 e289 r289 x290 e290 r290 x291 e291 r291 x292 e292 r292 x293 e293 r293 x294 e294 r294 x295 e295 r295 x296 e296 r296 x297 e297 r297 x298 e298 r298 x299 e299 r299 x300 e300 r300 x301 e301 r301 x302 e302 r302 x303 e303 r303 x304 e304 r304 x305 e305 r305 x306 e306 r306 x307 e307 r307 x308 e308 r308 x309 e309 r309 x310 e310 r310 x311 e311 r311 x312 e312 r312 x313 e313 r313 x314 e314 r314 x315 e315 r315 x316 e316 r316 x317 e317 r317 x318 e318 r318 x319 e319 r319 x320 e320 r320 x321 e321 r321 x322 e322 r322 x323 e323 r323 x324 e324 r324 x325 e325 r325 x326 e326 r326 x327 e327 r327 x328 e328 r328 x329 e329 r329 x330 e330 r330 x331 e331 r331 x332 e332 r332 x333 e333 r333 x334 e334 r334 x335 e335 r335 x336 e336 r336
    have m1 := half_lo e1
    have m2 := half_hi ia0 e2
    have m9 := half_lo e9
    have m10 := half_hi ib0 e10
    have m3 := half_lo e3
    have m4 := half_hi ia1 e4
    have m11 := half_lo e11
    have m12 := half_hi ib1 e12
    have m5 := half_lo e5
    have m6 := half_hi ia2 e6
    have m13 := half_lo e13
    have m14 := half_hi ib2 e14
    have m7 := half_lo e7
    have m8 := half_hi ia3 e8
    have m15 := half_lo e15
    have m16 := half_hi ib3 e16
    have k17 := piece m1 m9 zero_b zero_b e17 e18 e19 e20 r19 e21
    have k22 := piece m1 m10 zero_b k17.2.2 e22 e23 e24 e25 r24 e26
    have k27 := piece m1 m11 zero_b k22.2.2 e27 e28 e29 e30 r29 e31
    have k32 := piece m1 m12 zero_b k27.2.2 e32 e33 e34 e35 r34 e36
    have k37 := piece m1 m13 zero_b k32.2.2 e37 e38 e39 e40 r39 e41
    have k42 := piece m1 m14 zero_b k37.2.2 e42 e43 e44 e45 r44 e46
    have k47 := piece m1 m15 zero_b k42.2.2 e47 e48 e49 e50 r49 e51
    have k52 := piece m1 m16 zero_b k47.2.2 e52 e53 e54 e55 r54 e56
    have w0 := row_law k17.1 k22.1 k27.1 k32.1 k37.1 k42.1 k47.1 k52.1
    have k57 := piece m2 m9 k22.2.1 zero_b e57 e58 e59 e60 r59 e61
    have k62 := piece m2 m10 k27.2.1 k57.2.2 e62 e63 e64 e65 r64 e66
    have k67 := piece m2 m11 k32.2.1 k62.2.2 e67 e68 e69 e70 r69 e71
    have k72 := piece m2 m12 k37.2.1 k67.2.2 e72 e73 e74 e75 r74 e76
    have k77 := piece m2 m13 k42.2.1 k72.2.2 e77 e78 e79 e80 r79 e81
    have k82 := piece m2 m14 k47.2.1 k77.2.2 e82 e83 e84 e85 r84 e86
    have k87 := piece m2 m15 k52.2.1 k82.2.2 e87 e88 e89 e90 r89 e91
    have k92 := piece m2 m16 k52.2.2 k87.2.2 e92 e93 e94 e95 r94 e96
    have w1 := row_law k57.1 k62.1 k67.1 k72.1 k77.1 k82.1 k87.1 k92.1
    have k97 := piece m3 m9 k62.2.1 zero_b e97 e98 e99 e100 r99 e101
    have k102 := piece m3 m10 k67.2.1 k97.2.2 e102 e103 e104 e105 r104 e106
    have k107 := piece m3 m11 k72.2.1 k102.2.2 e107 e108 e109 e110 r109 e111
    have k112 := piece m3 m12 k77.2.1 k107.2.2 e112 e113 e114 e115 r114 e116
    have k117 := piece m3 m13 k82.2.1 k112.2.2 e117 e118 e119 e120 r119 e121
    have k122 := piece m3 m14 k87.2.1 k117.2.2 e122 e123 e124 e125 r124 e126
    have k127 := piece m3 m15 k92.2.1 k122.2.2 e127 e128 e129 e130 r129 e131
    have k132 := piece m3 m16 k92.2.2 k127.2.2 e132 e133 e134 e135 r134 e136
    have w2 := row_law k97.1 k102.1 k107.1 k112.1 k117.1 k122.1 k127.1 k132.1
    have k137 := piece m4 m9 k102.2.1 zero_b e137 e138 e139 e140 r139 e141
    have k142 := piece m4 m10 k107.2.1 k137.2.2 e142 e143 e144 e145 r144 e146
    have k147 := piece m4 m11 k112.2.1 k142.2.2 e147 e148 e149 e150 r149 e151
    have k152 := piece m4 m12 k117.2.1 k147.2.2 e152 e153 e154 e155 r154 e156
    have k157 := piece m4 m13 k122.2.1 k152.2.2 e157 e158 e159 e160 r159 e161
    have k162 := piece m4 m14 k127.2.1 k157.2.2 e162 e163 e164 e165 r164 e166
    have k167 := piece m4 m15 k132.2.1 k162.2.2 e167 e168 e169 e170 r169 e171
    have k172 := piece m4 m16 k132.2.2 k167.2.2 e172 e173 e174 e175 r174 e176
    have w3 := row_law k137.1 k142.1 k147.1 k152.1 k157.1 k162.1 k167.1 k172.1
    have k177 := piece m5 m9 k142.2.1 zero_b e177 e178 e179 e180 r179 e181
    have k182 := piece m5 m10 k147.2.1 k177.2.2 e182 e183 e184 e185 r184 e186
    have k187 := piece m5 m11 k152.2.1 k182.2.2 e187 e188 e189 e190 r189 e191
    have k192 := piece m5 m12 k157.2.1 k187.2.2 e192 e193 e194 e195 r194 e196
    have k197 := piece m5 m13 k162.2.1 k192.2.2 e197 e198 e199 e200 r199 e201
    have k202 := piece m5 m14 k167.2.1 k197.2.2 e202 e203 e204 e205 r204 e206
    have k207 := piece m5 m15 k172.2.1 k202.2.2 e207 e208 e209 e210 r209 e211
    have k212 := piece m5 m16 k172.2.2 k207.2.2 e212 e213 e214 e215 r214 e216
    have w4 := row_law k177.1 k182.1 k187.1 k192.1 k197.1 k202.1 k207.1 k212.1
    have k217 := piece m6 m9 k182.2.1 zero_b e217 e218 e219 e220 r219 e221
    have k222 := piece m6 m10 k187.2.1 k217.2.2 e222 e223 e224 e225 r224 e226
    have k227 := piece m6 m11 k192.2.1 k222.2.2 e227 e228 e229 e230 r229 e231
    have k232 := piece m6 m12 k197.2.1 k227.2.2 e232 e233 e234 e235 r234 e236
    have k237 := piece m6 m13 k202.2.1 k232.2.2 e237 e238 e239 e240 r239 e241
    have k242 := piece m6 m14 k207.2.1 k237.2.2 e242 e243 e244 e245 r244 e246
    have k247 := piece m6 m15 k212.2.1 k242.2.2 e247 e248 e249 e250 r249 e251
    have k252 := piece m6 m16 k212.2.2 k247.2.2 e252 e253 e254 e255 r254 e256
    have w5 := row_law k217.1 k222.1 k227.1 k232.1 k237.1 k242.1 k247.1 k252.1
    have k257 := piece m7 m9 k222.2.1 zero_b e257 e258 e259 e260 r259 e261
    have k262 := piece m7 m10 k227.2.1 k257.2.2 e262 e263 e264 e265 r264 e266
    have k267 := piece m7 m11 k232.2.1 k262.2.2 e267 e268 e269 e270 r269 e271
    have k272 := piece m7 m12 k237.2.1 k267.2.2 e272 e273 e274 e275 r274 e276
    have k277 := piece m7 m13 k242.2.1 k272.2.2 e277 e278 e279 e280 r279 e281
    have k282 := piece m7 m14 k247.2.1 k277.2.2 e282 e283 e284 e285 r284 e286
    have k287 := piece m7 m15 k252.2.1 k282.2.2 e287 e288 e289 e290 r289 e291
    have k292 := piece m7 m16 k252.2.2 k287.2.2 e292 e293 e294 e295 r294 e296
    have w6 := row_law k257.1 k262.1 k267.1 k272.1 k277.1 k282.1 k287.1 k292.1
    have k297 := piece m8 m9 k262.2.1 zero_b e297 e298 e299 e300 r299 e301
    have k302 := piece m8 m10 k267.2.1 k297.2.2 e302 e303 e304 e305 r304 e306
    have k307 := piece m8 m11 k272.2.1 k302.2.2 e307 e308 e309 e310 r309 e311
    have k312 := piece m8 m12 k277.2.1 k307.2.2 e312 e313 e314 e315 r314 e316
    have k317 := piece m8 m13 k282.2.1 k312.2.2 e317 e318 e319 e320 r319 e321
    have k322 := piece m8 m14 k287.2.1 k317.2.2 e322 e323 e324 e325 r324 e326
    have k327 := piece m8 m15 k292.2.1 k322.2.2 e327 e328 e329 e330 r329 e331
    have k332 := piece m8 m16 k292.2.2 k327.2.2 e332 e333 e334 e335 r334 e336
    have w7 := row_law k297.1 k302.1 k307.1 k312.1 k317.1 k322.1 k327.1 k332.1
    have hT := rows_law w0 w1 w2 w3 w4 w5 w6 w7
    intro x337 e337 _
    refine ⟨need_of (by decide), need_of (hi_lt k332.2.2 e337), fun x338 e338 r338 x339 e339 r339 x340 e340 r340 x341 e341 r341 => ?_⟩
    have V337 := val_ell e338 e339 e340 e341
    intro x342 e342 _
    refine ⟨need_of (by rw [V337]; exact (mod_bd _).2), need_of (lo_lt k332.2.2 e342), fun x343 e343 r343 x344 e344 r344 x345 e345 r345 x346 e346 r346 => ?_⟩
    have V342 := hstep V337 e343 e344 e345 e346
    intro x347 e347 _
    refine ⟨need_of (by rw [V342]; exact (mod_bd _).2), need_of (hi_lt k332.2.1 e347), fun x348 e348 r348 x349 e349 r349 x350 e350 r350 x351 e351 r351 => ?_⟩
    have V347 := hstep V342 e348 e349 e350 e351
    intro x352 e352 _
    refine ⟨need_of (by rw [V347]; exact (mod_bd _).2), need_of (lo_lt k332.2.1 e352), fun x353 e353 r353 x354 e354 r354 x355 e355 r355 x356 e356 r356 => ?_⟩
    have V352 := hstep V347 e353 e354 e355 e356
    intro x357 e357 _
    refine ⟨need_of (by rw [V352]; exact (mod_bd _).2), need_of (hi_lt k327.2.1 e357), fun x358 e358 r358 x359 e359 r359 x360 e360 r360 x361 e361 r361 => ?_⟩
    have V357 := hstep V352 e358 e359 e360 e361
    intro x362 e362 _
    refine ⟨need_of (by rw [V357]; exact (mod_bd _).2), need_of (lo_lt k327.2.1 e362), fun x363 e363 r363 x364 e364 r364 x365 e365 r365 x366 e366 r366 => ?_⟩
    have V362 := hstep V357 e363 e364 e365 e366
    intro x367 e367 _
    refine ⟨need_of (by rw [V362]; exact (mod_bd _).2), need_of (hi_lt k322.2.1 e367), fun x368 e368 r368 x369 e369 r369 x370 e370 r370 x371 e371 r371 => ?_⟩
    have V367 := hstep V362 e368 e369 e370 e371
    intro x372 e372 _
    refine ⟨need_of (by rw [V367]; exact (mod_bd _).2), need_of (lo_lt k322.2.1 e372), fun x373 e373 r373 x374 e374 r374 x375 e375 r375 x376 e376 r376 => ?_⟩
    have V372 := hstep V367 e373 e374 e375 e376
    intro x377 e377 _
    refine ⟨need_of (by rw [V372]; exact (mod_bd _).2), need_of (hi_lt k317.2.1 e377), fun x378 e378 r378 x379 e379 r379 x380 e380 r380 x381 e381 r381 => ?_⟩
    have V377 := hstep V372 e378 e379 e380 e381
    intro x382 e382 _
    refine ⟨need_of (by rw [V377]; exact (mod_bd _).2), need_of (lo_lt k317.2.1 e382), fun x383 e383 r383 x384 e384 r384 x385 e385 r385 x386 e386 r386 => ?_⟩
    have V382 := hstep V377 e383 e384 e385 e386
    intro x387 e387 _
    refine ⟨need_of (by rw [V382]; exact (mod_bd _).2), need_of (hi_lt k312.2.1 e387), fun x388 e388 r388 x389 e389 r389 x390 e390 r390 x391 e391 r391 => ?_⟩
    have V387 := hstep V382 e388 e389 e390 e391
    intro x392 e392 _
    refine ⟨need_of (by rw [V387]; exact (mod_bd _).2), need_of (lo_lt k312.2.1 e392), fun x393 e393 r393 x394 e394 r394 x395 e395 r395 x396 e396 r396 => ?_⟩
    have V392 := hstep V387 e393 e394 e395 e396
    intro x397 e397 _
    refine ⟨need_of (by rw [V392]; exact (mod_bd _).2), need_of (hi_lt k307.2.1 e397), fun x398 e398 r398 x399 e399 r399 x400 e400 r400 x401 e401 r401 => ?_⟩
    have V397 := hstep V392 e398 e399 e400 e401
    intro x402 e402 _
    refine ⟨need_of (by rw [V397]; exact (mod_bd _).2), need_of (lo_lt k307.2.1 e402), fun x403 e403 r403 x404 e404 r404 x405 e405 r405 x406 e406 r406 => ?_⟩
    have V402 := hstep V397 e403 e404 e405 e406
    intro x407 e407 _
    refine ⟨need_of (by rw [V402]; exact (mod_bd _).2), need_of (hi_lt k302.2.1 e407), fun x408 e408 r408 x409 e409 r409 x410 e410 r410 x411 e411 r411 => ?_⟩
    have V407 := hstep V402 e408 e409 e410 e411
    intro x412 e412 _
    refine ⟨need_of (by rw [V407]; exact (mod_bd _).2), need_of (lo_lt k302.2.1 e412), fun x413 e413 r413 x414 e414 r414 x415 e415 r415 x416 e416 r416 => ?_⟩
    have V412 := hstep V407 e413 e414 e415 e416
    intro x417 e417 _
    refine ⟨need_of (by rw [V412]; exact (mod_bd _).2), need_of (hi_lt k297.2.1 e417), fun x418 e418 r418 x419 e419 r419 x420 e420 r420 x421 e421 r421 => ?_⟩
    have V417 := hstep V412 e418 e419 e420 e421
    intro x422 e422 _
    refine ⟨need_of (by rw [V417]; exact (mod_bd _).2), need_of (lo_lt k297.2.1 e422), fun x423 e423 r423 x424 e424 r424 x425 e425 r425 x426 e426 r426 => ?_⟩
    have V422 := hstep V417 e423 e424 e425 e426
    intro x427 e427 _
    refine ⟨need_of (by rw [V422]; exact (mod_bd _).2), need_of (hi_lt k257.2.1 e427), fun x428 e428 r428 x429 e429 r429 x430 e430 r430 x431 e431 r431 => ?_⟩
    have V427 := hstep V422 e428 e429 e430 e431
    intro x432 e432 _
    refine ⟨need_of (by rw [V427]; exact (mod_bd _).2), need_of (lo_lt k257.2.1 e432), fun x433 e433 r433 x434 e434 r434 x435 e435 r435 x436 e436 r436 => ?_⟩
    have V432 := hstep V427 e433 e434 e435 e436
    intro x437 e437 _
    refine ⟨need_of (by rw [V432]; exact (mod_bd _).2), need_of (hi_lt k217.2.1 e437), fun x438 e438 r438 x439 e439 r439 x440 e440 r440 x441 e441 r441 => ?_⟩
    have V437 := hstep V432 e438 e439 e440 e441
    intro x442 e442 _
    refine ⟨need_of (by rw [V437]; exact (mod_bd _).2), need_of (lo_lt k217.2.1 e442), fun x443 e443 r443 x444 e444 r444 x445 e445 r445 x446 e446 r446 => ?_⟩
    have V442 := hstep V437 e443 e444 e445 e446
    intro x447 e447 _
    refine ⟨need_of (by rw [V442]; exact (mod_bd _).2), need_of (hi_lt k177.2.1 e447), fun x448 e448 r448 x449 e449 r449 x450 e450 r450 x451 e451 r451 => ?_⟩
    have V447 := hstep V442 e448 e449 e450 e451
    intro x452 e452 _
    refine ⟨need_of (by rw [V447]; exact (mod_bd _).2), need_of (lo_lt k177.2.1 e452), fun x453 e453 r453 x454 e454 r454 x455 e455 r455 x456 e456 r456 => ?_⟩
    have V452 := hstep V447 e453 e454 e455 e456
    intro x457 e457 _
    refine ⟨need_of (by rw [V452]; exact (mod_bd _).2), need_of (hi_lt k137.2.1 e457), fun x458 e458 r458 x459 e459 r459 x460 e460 r460 x461 e461 r461 => ?_⟩
    have V457 := hstep V452 e458 e459 e460 e461
    intro x462 e462 _
    refine ⟨need_of (by rw [V457]; exact (mod_bd _).2), need_of (lo_lt k137.2.1 e462), fun x463 e463 r463 x464 e464 r464 x465 e465 r465 x466 e466 r466 => ?_⟩
    have V462 := hstep V457 e463 e464 e465 e466
    intro x467 e467 _
    refine ⟨need_of (by rw [V462]; exact (mod_bd _).2), need_of (hi_lt k97.2.1 e467), fun x468 e468 r468 x469 e469 r469 x470 e470 r470 x471 e471 r471 => ?_⟩
    have V467 := hstep V462 e468 e469 e470 e471
    intro x472 e472 _
    refine ⟨need_of (by rw [V467]; exact (mod_bd _).2), need_of (lo_lt k97.2.1 e472), fun x473 e473 r473 x474 e474 r474 x475 e475 r475 x476 e476 r476 => ?_⟩
    have V472 := hstep V467 e473 e474 e475 e476
    intro x477 e477 _
    refine ⟨need_of (by rw [V472]; exact (mod_bd _).2), need_of (hi_lt k57.2.1 e477), fun x478 e478 r478 x479 e479 r479 x480 e480 r480 x481 e481 r481 => ?_⟩
    have V477 := hstep V472 e478 e479 e480 e481
    intro x482 e482 _
    refine ⟨need_of (by rw [V477]; exact (mod_bd _).2), need_of (lo_lt k57.2.1 e482), fun x483 e483 r483 x484 e484 r484 x485 e485 r485 x486 e486 r486 => ?_⟩
    have V482 := hstep V477 e483 e484 e485 e486
    intro x487 e487 _
    refine ⟨need_of (by rw [V482]; exact (mod_bd _).2), need_of (hi_lt k17.2.1 e487), fun x488 e488 r488 x489 e489 r489 x490 e490 r490 x491 e491 r491 => ?_⟩
    have V487 := hstep V482 e488 e489 e490 e491
    intro x492 e492 _
    refine ⟨need_of (by rw [V487]; exact (mod_bd _).2), need_of (lo_lt k17.2.1 e492), fun x493 e493 r493 x494 e494 r494 x495 e495 r495 x496 e496 r496 => ?_⟩
    have V492 := hstep V487 e493 e494 e495 e496
    have z0 := (hilo k17.2.1 e487 e492).1
    have z1 := (hilo k57.2.1 e477 e482).1
    have z2 := (hilo k97.2.1 e467 e472).1
    have z3 := (hilo k137.2.1 e457 e462).1
    have z4 := (hilo k177.2.1 e447 e452).1
    have z5 := (hilo k217.2.1 e437 e442).1
    have z6 := (hilo k257.2.1 e427 e432).1
    have z7 := (hilo k297.2.1 e417 e422).1
    have z8 := (hilo k302.2.1 e407 e412).1
    have z9 := (hilo k307.2.1 e397 e402).1
    have z10 := (hilo k312.2.1 e387 e392).1
    have z11 := (hilo k317.2.1 e377 e382).1
    have z12 := (hilo k322.2.1 e367 e372).1
    have z13 := (hilo k327.2.1 e357 e362).1
    have z14 := (hilo k332.2.1 e347 e352).1
    have z15 := (hilo k332.2.2 e337 e342).1
    rw [horner z0 z1 z2 z3 z4 z5 z6 z7 z8 z9 z10 z11 z12 z13 z14 z15, hT] at V492
    have hA : x1 + 4294967296 * x2 + 18446744073709551616 * x3 + 79228162514264337593543950336 * x4 + 340282366920938463463374607431768211456 * x5 + 1461501637330902918203684832716283019655932542976 * x6 + 6277101735386680763835789423207666416102355444464034512896 * x7 + 26959946667150639794667015087019630673637144422540572481103610249216 * x8 = val4 [a0, a1, a2, a3] := by
      rw [e1, e2, e3, e4, e5, e6, e7, e8]; exact halves_val a0 a1 a2 a3
    have hB : x9 + 4294967296 * x10 + 18446744073709551616 * x11 + 79228162514264337593543950336 * x12 + 340282366920938463463374607431768211456 * x13 + 1461501637330902918203684832716283019655932542976 * x14 + 6277101735386680763835789423207666416102355444464034512896 * x15 + 26959946667150639794667015087019630673637144422540572481103610249216 * x16 = val4 [b0, b1, b2, b3] := by
      rw [e9, e10, e11, e12, e13, e14, e15, e16]; exact halves_val b0 b1 b2 b3
    rw [hA, hB] at V492
    exact arr_eq r493 r494 r495 r496 V492
  · cases hs

def Γ12 : Tab := ⟨tys, [(28, pureCtr negS), (35, pureCtr rsubS), (38, pureCtr rmulS)] ++ Γ11.ctr, [0], gh⟩
theorem Γ12_ok : TabOk Tryd.prog Γ12 := ((Γ11_ok.cons rmul_ok).cons rsub_ok).cons neg_ok
end Go.Gx

/- The table of the ring alone. -/
namespace Go.Gx
open Go.Proofs Go.Sp
def Γ18 : Tab := Γ12
theorem Γ18_ok : TabOk Tryd.prog Γ18 := Γ12_ok
end Go.Gx
