/- Numbers: primes, what a power leaves, a proof that the order is a prime. No program in sight. -/
namespace Go.Nt

def Pr (p : Nat) : Prop := 2 ≤ p ∧ ∀ d, d ∣ p → d = 1 ∨ d = p

theorem Pr.cop {p a : Nat} (h : Pr p) (ha : ¬ p ∣ a) : Nat.gcd a p = 1 := by
  rcases h.2 (Nat.gcd a p) (Nat.gcd_dvd_right a p) with e | e
  · exact e
  · exact absurd (e ▸ Nat.gcd_dvd_left a p) ha

theorem perm_of : ∀ (l1 l2 : List Nat), l1.Nodup → (∀ x ∈ l1, x ∈ l2) → l2.length ≤ l1.length → l1.Perm l2
  | [], l2, _, _, hl => by
    have : l2 = [] := List.length_eq_zero_iff.1 (by simpa using hl)
    rw [this]
  | a :: l1, l2, hn, hs, hl => by
    have ha : a ∈ l2 := hs a (by simp)
    have hp := List.perm_cons_erase ha
    rw [List.nodup_cons] at hn
    have h1 : l1.Perm (l2.erase a) := perm_of l1 (l2.erase a) hn.2 (fun x hx => (List.mem_erase_of_ne (fun e => hn.1 (by rw [← e]; exact hx))).2 (hs x (by simp [hx]))) (by
      rw [List.length_erase_of_mem ha]; simp at hl; omega)
    exact (h1.cons a).trans hp.symm

def prod : List Nat → Nat
  | [] => 1
  | a :: l => a * prod l

theorem prod_perm {l1 l2 : List Nat} (h : l1.Perm l2) : prod l1 = prod l2 := by
  induction h with
  | nil => rfl
  | cons x _ ih => simp [prod, ih]
  | swap x y l => simp [prod, Nat.mul_left_comm]
  | trans _ _ a b => rw [a, b]

theorem prod_map (a p : Nat) : ∀ l : List Nat, prod (l.map fun i => a * i % p) % p = a ^ l.length * prod l % p
  | [] => by simp [prod]
  | i :: l => by
    have ih := prod_map a p l
    simp only [List.map_cons, prod, List.length_cons]
    rw [Nat.mul_mod, ih, Nat.mod_mod, ← Nat.mul_mod]
    congr 1
    rw [Nat.pow_succ]; simp only [Nat.mul_assoc, Nat.mul_left_comm, Nat.mul_comm]

theorem cop_prod {p : Nat} (h : Pr p) : ∀ l : List Nat, (∀ x ∈ l, ¬ p ∣ x) → Nat.gcd (prod l) p = 1
  | [], _ => by simp [prod]
  | a :: l, hl => by
    simp only [prod]
    exact Nat.Coprime.mul_left (h.cop (hl a (by simp))) (cop_prod h l fun x hx => hl x (by simp [hx]))

theorem cancel_mod {a b c p : Nat} (hc : Nat.gcd c p = 1) (h : a * c % p = b * c % p) : a % p = b % p := by
  rcases Nat.le_total b a with hab | hab
  · have h2 : p ∣ (a - b) * c := by
      rw [Nat.sub_mul]
      exact Nat.dvd_of_mod_eq_zero (Nat.sub_mod_eq_zero_of_mod_eq h)
    have h3 : p ∣ a - b := Nat.Coprime.dvd_of_dvd_mul_right (Nat.Coprime.symm hc) h2
    obtain ⟨k, hk⟩ := h3
    have : a = b + p * k := by omega
    rw [this, Nat.add_mul_mod_self_left]
  · have h2 : p ∣ (b - a) * c := by
      rw [Nat.sub_mul]
      exact Nat.dvd_of_mod_eq_zero (Nat.sub_mod_eq_zero_of_mod_eq h.symm)
    have h3 : p ∣ b - a := Nat.Coprime.dvd_of_dvd_mul_right (Nat.Coprime.symm hc) h2
    obtain ⟨k, hk⟩ := h3
    have : b = a + p * k := by omega
    rw [this, Nat.add_mul_mod_self_left]

theorem Pr.dvd_mul {p a b : Nat} (h : Pr p) (hd : p ∣ a * b) : p ∣ a ∨ p ∣ b := by
  by_cases ha : p ∣ a
  · exact .inl ha
  · exact .inr (Nat.Coprime.dvd_of_dvd_mul_left (Nat.Coprime.symm (h.cop ha)) hd)

/-- A power to the order is one. -/
theorem fermat {p a : Nat} (h : Pr p) (ha : ¬ p ∣ a) : a ^ (p - 1) % p = 1 := by
  have hp := h.1
  let l := List.range' 1 (p - 1)
  have hl : ∀ x ∈ l, ¬ p ∣ x := fun x hx hd => by
    simp only [l, List.mem_range'_1] at hx
    have := Nat.le_of_dvd (by omega) hd
    omega
  have hper : (l.map fun i => a * i % p).Perm l := by
    apply perm_of
    · unfold List.Nodup
      rw [List.pairwise_map]
      have hnd : l.Nodup := List.nodup_range'
      refine List.Pairwise.imp_of_mem (fun {x y} hx hy hxy he => hxy ?_) hnd
      have e : x % p = y % p := by
        apply cancel_mod (h.cop ha)
        rw [Nat.mul_comm x, Nat.mul_comm y]; exact he
      simp only [l, List.mem_range'_1] at hx hy
      rwa [Nat.mod_eq_of_lt (by omega), Nat.mod_eq_of_lt (by omega)] at e
    · intro x hx
      obtain ⟨i, hi, rfl⟩ := List.mem_map.1 hx
      have h0 : a * i % p ≠ 0 := fun e => by
        rcases h.dvd_mul (Nat.dvd_of_mod_eq_zero e) with e | e
        · exact ha e
        · exact hl i hi e
      have h1 := Nat.mod_lt (a * i) (show 0 < p by omega)
      simp only [l, List.mem_range'_1]
      omega
    · simp
  have e1 := prod_map a p l
  rw [prod_perm hper] at e1
  have e2 : a ^ (p - 1) * prod l % p = 1 * prod l % p := by
    rw [Nat.one_mul, e1]
    congr 2
    simp [l]
  have := cancel_mod (cop_prod h l hl) e2
  rw [this]
  exact Nat.mod_eq_of_lt (by omega)

theorem pow_gcd {q c : Nat} (hq : 1 < q) : ∀ m n : Nat, c ^ m % q = 1 → c ^ n % q = 1 → c ^ Nat.gcd m n % q = 1 := by
  intro m
  induction m using Nat.strongRecOn with
  | ind m ih =>
    intro n hm hn
    by_cases h0 : m = 0
    · subst h0; simpa using hn
    · rw [Nat.gcd_rec]
      refine ih (n % m) (Nat.mod_lt _ (by omega)) m ?_ hm
      have e : c ^ n = (c ^ m) ^ (n / m) * c ^ (n % m) := by
        rw [← Nat.pow_mul, ← Nat.pow_add, Nat.div_add_mod]
      rw [e, Nat.mul_mod, Nat.pow_mod, hm, Nat.one_pow, Nat.mod_eq_of_lt hq, Nat.one_mul, Nat.mod_mod] at hn
      exact hn

/-- Power by squarings, modulo n: for the kernel. -/
def pm (n : Nat) : Nat → Nat → Nat → Nat
  | 0, _, _ => 1 % n
  | k + 1, a, e => if e % 2 = 1 then a * pm n k (a * a % n) (e / 2) % n else pm n k (a * a % n) (e / 2)

theorem pm_eq (n : Nat) : ∀ k a e, e < 2 ^ k → pm n k a e = a ^ e % n
  | 0, a, e, h => by
    have : e = 0 := by simpa using h
    subst this; rfl
  | k + 1, a, e, h => by
    have ih := pm_eq n k (a * a % n) (e / 2) (by rw [Nat.pow_succ] at h; omega)
    have e2 : (a * a % n) ^ (e / 2) % n = (a ^ 2) ^ (e / 2) % n := by rw [← Nat.pow_mod, Nat.pow_two]
    rw [← Nat.pow_mul] at e2
    unfold pm
    rw [ih, e2]
    split
    · rename_i ho
      rw [Nat.mul_mod, Nat.mod_mod, ← Nat.mul_mod, ← Nat.pow_succ']
      congr 2; omega
    · congr 2; omega

/-- Any number from two on has a prime divisor. -/
theorem exists_pr : ∀ n : Nat, 2 ≤ n → ∃ q, Pr q ∧ q ∣ n := by
  intro n
  induction n using Nat.strongRecOn with
  | ind n ih =>
    intro hn
    by_cases hp : Pr n
    · exact ⟨n, hp, Nat.dvd_refl n⟩
    · have : ∃ d, d ∣ n ∧ d ≠ 1 ∧ d ≠ n := by
        refine Classical.byContradiction fun hc => hp ⟨hn, fun d hd => ?_⟩
        refine Classical.byContradiction fun h2 => hc ⟨d, hd, fun e => h2 (.inl e), fun e => h2 (.inr e)⟩
      obtain ⟨d, hd, h1, h2⟩ := this
      have hle := Nat.le_of_dvd (by omega) hd
      have h0 : d ≠ 0 := fun e => by subst e; have := Nat.eq_zero_of_zero_dvd hd; omega
      obtain ⟨q, hq, hqd⟩ := ih d (by omega) (by omega)
      exact ⟨q, hq, Nat.dvd_trans hqd hd⟩

theorem pr_of_big {n : Nat} (hn : 2 ≤ n) (h : ∀ q, Pr q → q ∣ n → n < q * q) : Pr n := by
  refine ⟨hn, fun d hd => ?_⟩
  refine Classical.byContradiction fun hc => ?_
  have h1 : d ≠ 1 := fun e => hc (.inl e)
  have h2 : d ≠ n := fun e => hc (.inr e)
  obtain ⟨k, hk⟩ := hd
  have hd0 : d ≠ 0 := fun e => by subst e; omega
  have hk1 : k ≠ 1 := fun e => by subst e; omega
  have hk0 : k ≠ 0 := fun e => by subst e; omega
  obtain ⟨q, hq, hqd⟩ := exists_pr d (by omega)
  obtain ⟨r, hr, hrd⟩ := exists_pr k (by omega)
  have a1 := h q hq (Nat.dvd_trans hqd ⟨k, hk⟩)
  have a2 := h r hr (Nat.dvd_trans hrd ⟨d, by rw [hk, Nat.mul_comm]⟩)
  have b1 := Nat.le_of_dvd (by omega) hqd
  have b2 := Nat.le_of_dvd (by omega) hrd
  have c1 : q * r ≤ n := by rw [hk]; exact Nat.mul_le_mul b1 b2
  rcases Nat.le_total q r with hqr | hqr
  · have := Nat.mul_le_mul_left q hqr; omega
  · have := Nat.mul_le_mul_right r hqr; omega

/-- What a prime factor p of n - 1 says of n's prime divisors (b: a power that is told by its root). -/
theorem step {n p a : Nat} (hp : Pr p) (hd : p * ((n - 1) / p) = n - 1) (hn : 2 ≤ n) (h1 : a ^ (n - 1) % n = 1) (h2 : Nat.gcd (a ^ ((n - 1) / p) % n + (n - 1)) n = 1) {q : Nat} (hq : Pr q) (hqn : q ∣ n) : q % p = 1 := by
  have hq2 := hq.1
  have hmod : ∀ x, x % n % q = x % q := fun x => Nat.mod_mod_of_dvd x hqn
  have hc1 : (a ^ ((n - 1) / p)) ^ p % q = 1 := by
    rw [← Nat.pow_mul, Nat.mul_comm, hd, ← hmod, h1]; exact Nat.mod_eq_of_lt (by omega)
  have hnc : (a ^ ((n - 1) / p)) % q ≠ 1 := fun e => by
    have : q ∣ a ^ ((n - 1) / p) % n + (n - 1) := by
      apply Nat.dvd_of_mod_eq_zero
      rw [Nat.add_mod, hmod, e]
      obtain ⟨k, hk⟩ := hqn
      have hk0 : k ≠ 0 := fun e => by subst e; omega
      obtain ⟨j, rfl⟩ : ∃ j, k = j + 1 := ⟨k - 1, by omega⟩
      have e3 : n - 1 = q * j + (q - 1) := by rw [hk, Nat.mul_succ]; omega
      rw [e3, Nat.mul_add_mod, Nat.mod_eq_of_lt (show q - 1 < q by omega)]
      rw [show 1 + (q - 1) = q by omega, Nat.mod_self]
    have h4 := Nat.dvd_gcd this hqn
    rw [h2] at h4
    have := Nat.le_of_dvd (by omega) h4
    omega
  have hqa : ¬ q ∣ a ^ ((n - 1) / p) := fun e => by
    obtain ⟨k, hk⟩ := e
    have hp2 := hp.1
    have : (a ^ ((n - 1) / p)) ^ p % q = 0 := by
      rw [Nat.pow_mod, hk, Nat.mul_mod_right, Nat.zero_pow (by omega), Nat.zero_mod]
    omega
  have hf := fermat hq hqa
  have hg := pow_gcd (by omega) _ _ hc1 hf
  rcases hp.2 (Nat.gcd p (q - 1)) (Nat.gcd_dvd_left _ _) with e | e
  · rw [e, Nat.pow_one] at hg; exact absurd hg hnc
  · have : p ∣ q - 1 := e ▸ Nat.gcd_dvd_right p (q - 1)
    obtain ⟨k, hk⟩ := this
    have : q = 1 + p * k := by omega
    rw [this, Nat.add_mul_mod_self_left]
    exact Nat.mod_eq_of_lt hp.1

theorem big_of {p q n : Nat} (hq : Pr q) (h : q % p = 1) (hn : n < (p + 1) * (p + 1)) : n < q * q := by
  have : p + 1 ≤ q := by
    have := Nat.div_add_mod q p
    have h2 := hq.1
    rcases Nat.eq_zero_or_pos (q / p) with e | e
    · rw [e, Nat.mul_zero] at this; omega
    · have := Nat.le_mul_of_pos_right p e; omega
  exact Nat.lt_of_lt_of_le hn (Nat.mul_le_mul this this)

/-- One link: n is a prime, as p is (the checks are for the kernel). -/
theorem link {n p a k : Nat} (hp : Pr p) (hc : (p * ((n - 1) / p) == n - 1 && Nat.ble 2 n && Nat.blt n ((p + 1) * (p + 1)) && Nat.blt n (2 ^ k) && pm n k a (n - 1) == 1 && Nat.gcd (pm n k a ((n - 1) / p) + (n - 1)) n == 1) = true) : Pr n := by
  simp only [Bool.and_eq_true, beq_iff_eq] at hc
  obtain ⟨⟨⟨⟨⟨h1, h2⟩, h3⟩, h4⟩, h5⟩, h6⟩ := hc
  replace h2 := Nat.le_of_ble_eq_true h2
  simp only [Nat.blt_eq] at h3 h4
  have hlt : n - 1 < 2 ^ k := by omega
  rw [pm_eq n k a _ hlt] at h5
  rw [pm_eq n k a _ (Nat.lt_of_le_of_lt (Nat.div_le_self _ _) hlt)] at h6
  exact pr_of_big h2 fun q hq hd => big_of hq (step hp h1 h2 h5 h6 hq hd) h3

/-- Two primes together. -/
theorem link2 {n p r a b k : Nat} (hp : Pr p) (hr : Pr r) (hc : (p * ((n - 1) / p) == n - 1 && r * ((n - 1) / r) == n - 1 && Nat.ble 2 n && Nat.blt n ((p * r) * (p * r)) && Nat.blt n (2 ^ k) && pm n k a (n - 1) == 1 && Nat.gcd (pm n k a ((n - 1) / p) + (n - 1)) n == 1 && pm n k b (n - 1) == 1 && Nat.gcd (pm n k b ((n - 1) / r) + (n - 1)) n == 1 && Nat.gcd p r == 1) = true) : Pr n := by
  simp only [Bool.and_eq_true, beq_iff_eq] at hc
  obtain ⟨⟨⟨⟨⟨⟨⟨⟨⟨h1, h1'⟩, h2⟩, h3⟩, h4⟩, h5⟩, h6⟩, h7⟩, h8⟩, h9⟩ := hc
  replace h2 := Nat.le_of_ble_eq_true h2
  simp only [Nat.blt_eq] at h3 h4
  have hlt : n - 1 < 2 ^ k := by omega
  have hle : ∀ x, (n - 1) / x < 2 ^ k := fun x => Nat.lt_of_le_of_lt (Nat.div_le_self _ _) hlt
  rw [pm_eq n k _ _ hlt] at h5 h7
  rw [pm_eq n k _ _ (hle _)] at h6 h8
  refine pr_of_big h2 fun q hq hd => ?_
  have a1 := step hp h1 h2 h5 h6 hq hd
  have a2 := step hr h1' h2 h7 h8 hq hd
  have d1 : p ∣ q - 1 := by
    have := Nat.div_add_mod q p
    exact ⟨q / p, by omega⟩
  have d2 : r ∣ q - 1 := by
    have := Nat.div_add_mod q r
    exact ⟨q / r, by omega⟩
  have d3 : p * r ∣ q - 1 := Nat.Coprime.mul_dvd_of_dvd_of_dvd h9 d1 d2
  have hq2 := hq.1
  have := Nat.le_of_dvd (by omega) d3
  exact Nat.lt_of_lt_of_le h3 (Nat.mul_le_mul (by omega) (by omega))

/-- A small prime, by trial. -/
theorem small {n m : Nat} (hc : (Nat.ble 2 n && Nat.blt n (m * m) && (List.range m).all fun d => Nat.ble d 1 || n % d != 0 || d == n) = true) : Pr n := by
  simp only [Bool.and_eq_true] at hc
  obtain ⟨⟨h1, h2⟩, h3⟩ := hc
  replace h1 := Nat.le_of_ble_eq_true h1
  simp only [Nat.blt_eq] at h2
  rw [List.all_eq_true] at h3
  refine ⟨h1, fun d hd => Classical.byContradiction fun hc => ?_⟩
  have e1 : d ≠ 1 := fun e => hc (.inl e)
  have e2 : d ≠ n := fun e => hc (.inr e)
  obtain ⟨k, hk⟩ := hd
  have hd0 : d ≠ 0 := fun e => by subst e; omega
  have hk1 : k ≠ 1 := fun e => by subst e; omega
  have hk0 : k ≠ 0 := fun e => by subst e; omega
  have hkn : k ≠ n := fun e => by
    have : d * k = 1 * k := by omega
    exact e1 (Nat.eq_of_mul_eq_mul_right (by omega) this)
  have key : ∀ x, x ∣ n → x ≠ 0 → x ≠ 1 → x ≠ n → m ≤ x := fun x hx x0 x1 xn => Nat.le_of_not_lt fun hlt => by
    have := h3 x (List.mem_range.2 hlt)
    simp only [Bool.or_eq_true, bne_iff_ne, beq_iff_eq] at this
    rcases this with (t | t) | t
    · have := Nat.le_of_ble_eq_true t; omega
    · exact t (Nat.mod_eq_zero_of_dvd hx)
    · exact xn t
  have k1 := key d ⟨k, hk⟩ hd0 e1 e2
  have k2 := key k ⟨d, by rw [hk, Nat.mul_comm]⟩ hk0 hk1 hkn
  have := Nat.mul_le_mul k1 k2
  omega

theorem pr1 : Pr 531581 := small (m := 730) (by decide +kernel)
theorem pr2 : Pr 1224481 := small (m := 1107) (by decide +kernel)
theorem pr3 : Pr 1257559732178653 := link2 (a := 2) (b := 2) (k := 51) pr1 pr2 (by decide +kernel)
theorem pr4 : Pr 4434155615661930479 := link (a := 2) (k := 62) pr3 (by decide +kernel)
theorem pr5 : Pr 172054593956031949258510691 := link (a := 2) (k := 88) pr4 (by decide +kernel)
theorem pr6 : Pr 19757330305831588566944191468367130476339 := link (a := 2) (k := 134) pr5 (by decide +kernel)
theorem pr7 : Pr 276602624281642239937218680557139826668747 := link (a := 2) (k := 138) pr6 (by decide +kernel)
/-- The order is a prime. -/
theorem prL : Pr 7237005577332262213973186563042994240857116359379907606001950938285454250989 := link (a := 2) (k := 253) pr7 (by decide +kernel)
end Go.Nt
