/- Of ScalarNafs, for every input and in every world that holds the program's table as its text lays it: the call returns true, its arguments read as before and nothing else old has turned. No condition besides. -/
import Derived.Test.YtnjcbedjhokfhaaDoorM6

/- Contracts in general: off functions that the evaluator has run. -/
namespace Go.Gx
open Go.RowKit
set_option linter.unusedVariables false

/-- An answer of the callee's, and where it lies. -/
def RvD (H : Nat → Option SB) (ρ : Nat → Pl) (w : World) : RV → Value → Prop
  | .v x, v => D (dmOf H) ρ x v
  | .row q, v => conOk q ∧ ∃ key l pl ad cap, 1000 ≤ key ∧ H key = some (.segs false l) ∧ v = .slice ad (conLen q) cap ∧ conLen q ≤ cap ∧ ((conLen q : Nat) : Int) < 9223372036854775808 ∧
      ((ad = some (at_ pl 0) ∧ conSize q * cap ≤ pl.cap) ∨ (conLen q = 0 ∧ cap = 0)) ∧ (conCells q).length ≤ pl.cap ∧ w.rangeAt pl.blk pl.off (conCells q) ∧ w.there pl.blk pl.off pl.cap ∧ (0 < pl.cap → pl.blk = (ρ key).blk ∧ 0 < (ρ key).cap)
  | .ptr l, v => ∃ key, 1000 ≤ key ∧ H key = some (.segs false l) ∧ v = .pointer (some (at_ (ρ key) 0))
def RvsD (H : Nat → Option SB) (ρ : Nat → Pl) (w : World) : List RV → List Value → Prop
  | [], vs => vs = []
  | x :: r, vs => ∃ v c, RvD H ρ w x v ∧ vs = v :: c ∧ RvsD H ρ w r c

section
variable {P : Program} {Γ : Tab} {w0 : World} {M : Nat → Prop} {ρ : Nat → Pl} {w : World}

theorem canV_sound {h : Heap} (hm : Mem w0 M ρ (assoc h) w) {x : SV} {v : Value} (hx : D (dmOf (assoc h)) ρ x v) {K : RV → Prop} (hk : canV h x K) : ∃ r, K r ∧ RvD (assoc h) ρ w r v := by
  unfold canV at hk
  split at hk
  · rename_i key c est off len
    split at hk
    · rename_i l hkey1 hkey
      have hge : 1000 ≤ key := Nat.le_of_ble_eq_true hkey1
      split at hk
      · rename_i g hs
        split at hk
        · rename_i p q hq
          obtain ⟨hp, hK⟩ := preK_of _ _ hk
          simp only [D] at hx
          obtain ⟨hdm, ho, hl, hlr, a, cap, rfl, hcap, hpl⟩ := hx
          simp only [InR] at hlr
          obtain ⟨vs, h1, h2, h3, h4⟩ := hm.segs hkey
          obtain ⟨pre, cs, post, e1, e2, e3, _, _⟩ := segAt_D l c vs g 0 h1 hs
          obtain ⟨a1, a2, a3, a4, a5⟩ := conSeg_sound hq e2 hp ho hl
          have heq : conCells q = (vs.drop (c + est * off.z.toNat)).take (est * len.z.toNat) := by
            rw [a4, e1, show c + est * off.z.toNat = pre.length + est * off.z.toNat by omega, drop_mid _ _ _ _ _ a5]
          have hra := rangeAt_part h3 (c + est * off.z.toNat) (est * len.z.toNat)
          rw [← heq] at hra
          have hcl := conCells_length a1
          have hth := h4 rfl
          rcases hpl with ⟨ha, hle⟩ | ⟨h0, hc0⟩
          · refine ⟨_, hK, a1, key, l, ({ blk := (ρ key).blk, off := (ρ key).off + (c + est * off.z.toNat), cap := est * cap } : Pl), a, cap, hge, hkey, by rw [a2], by omega, by omega, .inl ⟨by rw [ha]; simp [at_], by rw [a3]; exact Nat.le_refl _⟩, ?_, hra, ?_, fun hc => ⟨rfl, ?_⟩⟩
            · show (conCells q).length ≤ est * cap
              rw [hcl, a3, a2, Nat.mul_comm]; exact Nat.mul_le_mul_left _ hcap
            · intro j hj
              have hj' : j < est * cap := hj
              have := hth (c + est * off.z.toNat + j) (by omega)
              rw [show (ρ key).off + (c + est * off.z.toNat) + j = (ρ key).off + (c + est * off.z.toNat + j) by omega]
              exact this
            · have hc : 0 < est * cap := hc
              omega
          · have hz : conLen q = 0 := by rw [a2]; omega
            have hnil : conCells q = [] := List.eq_nil_of_length_eq_zero (by rw [hcl, hz]; simp)
            refine ⟨_, hK, a1, key, l, ({ blk := 0, off := 0, cap := 0 } : Pl), a, cap, hge, hkey, by rw [a2], by omega, by omega, .inr ⟨hz, hc0⟩, by rw [hnil]; simp, by rw [hnil]; exact rangeAt_nil _ _ _, there_zero _ _ _, fun hc => absurd hc (by simp)⟩
        · exact hk.elim
      · exact hk.elim
    · exact hk.elim
  · rename_i key
    split at hk
    · rename_i l hkey1 hkey
      simp only [D] at hx
      exact ⟨_, hk, key, Nat.le_of_ble_eq_true hkey1, hkey, hx.2⟩
    · exact hk.elim
  · exact ⟨_, hk, hx⟩

theorem canVs_sound {h : Heap} (hm : Mem w0 M ρ (assoc h) w) : ∀ (xs : List SV) (vs : List Value) (K : List RV → Prop), Ds (dmOf (assoc h)) ρ xs vs → canVs h xs K → ∃ rs, K rs ∧ RvsD (assoc h) ρ w rs vs ∧ rs.length = xs.length
  | [], vs, K, hx, hk => ⟨[], hk, hx, rfl⟩
  | x :: r, vs, K, hx, hk => by
    simp only [Ds] at hx
    obtain ⟨v, c, h1, rfl, h2⟩ := hx
    obtain ⟨y, q1, q2⟩ := canV_sound hm h1 hk
    obtain ⟨ys, q3, q4, q5⟩ := canVs_sound hm r c _ h2 q1
    exact ⟨y :: ys, q3, ⟨v, c, q2, rfl, q4⟩, by simp [q5]⟩

/-- What the callee's records hold at the end. -/
def FinH (H : Nat → Option SB) : Nat → List (Option (List Seg)) → Prop
  | _, [] => True
  | j, some l :: r => H j = some (.segs false l) ∧ FinH H (j + 1) r
  | j, none :: r => H j = some .gone ∧ FinH H (j + 1) r

theorem canF_sound {h : Heap} : ∀ (n j : Nat) (K : List (Option (List Seg)) → Prop), canF h j n K → ∃ fs, K fs ∧ FinH (assoc h) j fs ∧ fs.length = n
  | 0, j, K, hk => ⟨[], hk, trivial, rfl⟩
  | n + 1, j, K, hk => by
    simp only [canF] at hk
    split at hk
    · rename_i l hl
      obtain ⟨fs, q1, q2, q3⟩ := canF_sound n (j + 1) _ hk
      exact ⟨_, q1, ⟨hl, q2⟩, by simp [q3]⟩
    · rename_i hl
      obtain ⟨fs, q1, q2, q3⟩ := canF_sound n (j + 1) _ hk
      exact ⟨_, q1, ⟨hl, q2⟩, by simp [q3]⟩
    · exact hk.elim

/-- The answers, one value or more. -/
def RvsOf (H : Nat → Option SB) (ρ : Nat → Pl) (w : World) (rs : List RV) (v : Value) : Prop :=
  (∃ r, rs = [r] ∧ RvD H ρ w r v) ∨ (rs.length ≠ 1 ∧ ∃ vs, v = .tuple vs.toArray ∧ RvsD H ρ w rs vs)

theorem kvG_sound {h : Heap} (hm : Mem w0 M ρ (assoc h) w) {n : Nat} {x : SV} {v : Value} (hx : D (dmOf (assoc h)) ρ x v) {K : List RV → List (Option (List Seg)) → Prop} (hk : kvG n x h K) :
    ∃ rs fs, K rs fs ∧ RvsOf (assoc h) ρ w rs v ∧ FinH (assoc h) 600 fs ∧ fs.length = n := by
  unfold kvG at hk
  split at hk
  · rename_i xs
    split at hk
    · exact hk.elim
    · rename_i hn
      simp only [D] at hx
      obtain ⟨vs, h1, rfl⟩ := hx
      obtain ⟨rs, q1, q2, q3⟩ := canVs_sound hm xs vs _ h1 hk
      obtain ⟨fs, q4, q5, q6⟩ := canF_sound n 600 _ q1
      refine ⟨rs, fs, q4, .inr ⟨fun e => ?_, vs, rfl, q2⟩, q5, q6⟩
      rw [q3] at e
      rw [e] at hn
      exact absurd hn (by decide)
  · obtain ⟨r, q1, q2⟩ := canV_sound hm hx hk
    obtain ⟨fs, q4, q5, q6⟩ := canF_sound n 600 _ q1
    exact ⟨_, fs, q4, .inl ⟨r, rfl, q2⟩, q5, q6⟩

theorem eqCon_eq {a b : Con} (h : eqCon a b) : a = b := by
  cases a <;> cases b <;> simp only [eqCon] at h
  · rw [keq_eq h.1, h.2]
  · rw [keq_eq h.1, h.2.1, h.2.2]

/-- Where the fresh block among the answers lies. -/
def FreshAt (H : Nat → Option SB) (ρ : Nat → Pl) (w : World) (l : List Seg) (pl : Pl) : Prop :=
  ∃ vs, SegsD (fun _ => False) (fun _ => ({ blk := 0, off := 0, cap := 0 } : Pl)) l vs ∧ vs.length ≤ pl.cap ∧ w.rangeAt pl.blk pl.off vs ∧ w.there pl.blk pl.off pl.cap ∧
    (0 < pl.cap → ∃ key l', 1000 ≤ key ∧ H key = some (.segs false l') ∧ pl.blk = (ρ key).blk ∧ 0 < (ρ key).cap)

theorem res_one {h : Heap} (hm : Mem w0 M ρ (assoc h) w) {r r' : RV} {v : Value} (hr : RvD (assoc h) ρ w r v) (he : eqRV1 r r') :
    ∃ pl, (∀ l, frOf [r'] = some l → FreshAt (assoc h) ρ w l pl) ∧ ∀ (dm : Nat → Prop) (ρ' : Nat → Pl) (stamp : Nat), (frOf [r'] ≠ none → dm stamp ∧ ρ' stamp = pl) → D dm ρ' (resG stamp r') v := by
  cases r' with
  | v y =>
    refine ⟨({ blk := 0, off := 0, cap := 0 } : Pl), (fun l hl => by cases hl), fun dm ρ' stamp _ => ?_⟩
    cases r with
    | v x =>
      have he' : eqRV (.v x) (.v y) := by cases x <;> exact he
      exact eqV_D x y v he' hr
    | row q => exact (show eqRV (.row q) (.v y) from he).elim
    | ptr l => exact (show eqRV (.ptr l) (.v y) from he).elim
  | ptr l' =>
    cases r with
    | v x => have he' : eqRV (.v x) (.ptr l') := by cases x <;> exact he
             exact he'.elim
    | row q => exact (show eqRV (.row q) (.ptr l') from he).elim
    | ptr l =>
      have he' : eqSegs l l' := he
      obtain ⟨key, k1, k2, rfl⟩ := hr
      obtain ⟨cs, s1, s2, s3, s4⟩ := hm.segs k2
      refine ⟨ρ key, fun l0 hl => ?_, fun dm ρ' stamp hs => ?_⟩
      · simp only [frOf, Option.some.injEq] at hl
        subst hl
        exact ⟨cs, eqSegs_D l l' cs he' s1, s2, s3, s4 rfl, fun hc => ⟨key, l, k1, k2, rfl, hc⟩⟩
      · obtain ⟨q1, q2⟩ := hs (by simp [frOf])
        simp only [resG, D]
        exact ⟨q1, by rw [q2]⟩
  | row q' =>
    have main : ∀ q, conOk q → q = q' → (∃ key l pl ad cap, 1000 ≤ key ∧ assoc h key = some (.segs false l) ∧ v = .slice ad (conLen q) cap ∧ conLen q ≤ cap ∧ ((conLen q : Nat) : Int) < 9223372036854775808 ∧
      ((ad = some (at_ pl 0) ∧ conSize q * cap ≤ pl.cap) ∨ (conLen q = 0 ∧ cap = 0)) ∧ (conCells q).length ≤ pl.cap ∧ w.rangeAt pl.blk pl.off (conCells q) ∧ w.there pl.blk pl.off pl.cap ∧ (0 < pl.cap → pl.blk = (ρ key).blk ∧ 0 < (ρ key).cap)) →
        ∃ pl, (∀ l, frOf [RV.row q'] = some l → FreshAt (assoc h) ρ w l pl) ∧ ∀ (dm : Nat → Prop) (ρ' : Nat → Pl) (stamp : Nat), (frOf [RV.row q'] ≠ none → dm stamp ∧ ρ' stamp = pl) → D dm ρ' (resG stamp (.row q')) v := by
      rintro q hok rfl ⟨key, l, pl, ad, cap, k1, k2, rfl, k3, k4, k5, k6, k7, k8, k9⟩
      refine ⟨pl, fun l0 hl => ?_, fun dm ρ' stamp hs => ?_⟩
      · simp only [frOf, Option.some.injEq] at hl
        subst hl
        exact ⟨conCells q, segs_one (conRow_D hok), k6, k7, k8, fun hc => ⟨key, l, k1, k2, k9 hc⟩⟩
      · obtain ⟨q1, q2⟩ := hs (by simp [frOf])
        simp only [resG]
        exact sl_D q1 _ k4 k3 (by rw [q2]; exact k5)
    cases r with
    | v x =>
      cases x with
      | nsl =>
        obtain ⟨e1, e2⟩ := (show conLen q' = 0 ∧ conOk q' from he)
        have hv : v = .slice none 0 0 := hr
        subst hv
        have hnil : conCells q' = [] := List.eq_nil_of_length_eq_zero (by rw [conCells_length e2, e1]; simp)
        refine ⟨({ blk := 0, off := 0, cap := 0 } : Pl), fun l0 hl => ?_, fun dm ρ' stamp hs => ?_⟩
        · simp only [frOf, Option.some.injEq] at hl
          subst hl
          have := segs_one (conRow_D (ρ := fun _ => ({ blk := 0, off := 0, cap := 0 } : Pl)) (dm := fun _ => False) e2)
          rw [hnil] at this
          exact ⟨[], this, Nat.le_refl _, rangeAt_nil _ _ _, there_zero _ _ _, fun hc => absurd hc (by simp)⟩
        · obtain ⟨q1, q2⟩ := hs (by simp [frOf])
          simp only [resG]
          have := sl_D (es := conSize q') (a := none) (cap := 0) (ρ := ρ') q1 (conLen q') (by omega) (by omega) (.inr ⟨e1, rfl⟩)
          rwa [show (Value.slice none (conLen q') 0) = .slice none 0 0 by rw [e1]] at this
      | _ => simp [eqRV1, eqRV] at he
    | ptr l => exact (show eqRV (.ptr l) (.row q') from he).elim
    | row q => exact main q hr.1 (eqCon_eq (show eqCon q q' from he)) hr.2

theorem res_all {h : Heap} (hm : Mem w0 M ρ (assoc h) w) : ∀ (rs rs' : List RV) (vs : List Value), RvsD (assoc h) ρ w rs vs → eqRVs rs rs' → oneFr rs' = true →
    ∃ pl, (∀ l, frOf rs' = some l → FreshAt (assoc h) ρ w l pl) ∧ ∀ (dm : Nat → Prop) (ρ' : Nat → Pl) (stamp : Nat), (frOf rs' ≠ none → dm stamp ∧ ρ' stamp = pl) → Ds dm ρ' (resGs stamp rs') vs
  | [], [], vs, hr, he, ho => ⟨({ blk := 0, off := 0, cap := 0 } : Pl), (fun l hl => by cases hl), fun dm ρ' stamp _ => hr⟩
  | [], _ :: _, vs, hr, he, ho => he.elim
  | _ :: _, [], vs, hr, he, ho => he.elim
  | r :: t, r' :: t', vs, hr, he, ho => by
    obtain ⟨v, c, h1, rfl, h2⟩ := hr
    obtain ⟨pl, a1, a2⟩ := res_one hm h1 he.1
    cases hf : frOf [r'] with
    | none =>
      have hff : frOf (r' :: t') = frOf t' := by cases r' <;> simp [frOf] at hf ⊢
      have ho' : oneFr t' = true := by cases r' <;> simp [frOf] at hf; exact ho
      obtain ⟨pl2, b1, b2⟩ := res_all hm t t' c h2 he.2 ho'
      refine ⟨pl2, fun l hl => b1 l (by rw [← hff]; exact hl), fun dm ρ' stamp hs => ?_⟩
      exact ⟨v, _, a2 dm ρ' stamp (fun h => absurd hf h), rfl, b2 dm ρ' stamp (fun h => hs (by rw [hff]; exact h))⟩
    | some l0 =>
      have hft : frOf t' = none := by
        cases r' with
        | v x => simp [frOf] at hf
        | row q => simp only [oneFr] at ho; split at ho <;> simp_all
        | ptr l => simp only [oneFr] at ho; split at ho <;> simp_all
      have ho' : oneFr t' = true := by
        have : ∀ t : List RV, frOf t = none → oneFr t = true := by
          intro t
          induction t with
          | nil => intro _; rfl
          | cons x r ih => intro hh; cases x <;> simp [frOf] at hh; exact ih hh
        exact this t' hft
      have hff : frOf (r' :: t') = frOf [r'] := by cases r' <;> simp [frOf] at hf ⊢
      obtain ⟨pl2, b1, b2⟩ := res_all hm t t' c h2 he.2 ho'
      refine ⟨pl, fun l hl => a1 l (by rw [← hff]; exact hl), fun dm ρ' stamp hs => ?_⟩
      have hs' := hs (by rw [hff, hf]; simp)
      exact ⟨v, _, a2 dm ρ' stamp (fun _ => hs'), rfl, b2 dm ρ' stamp (fun h => absurd hft h)⟩

theorem res_of {h : Heap} (hm : Mem w0 M ρ (assoc h) w) {rs rs' : List RV} {v : Value} (hr : RvsOf (assoc h) ρ w rs v) (he : eqRVs rs rs') (ho : oneFr rs' = true) :
    ∃ pl, (∀ l, frOf rs' = some l → FreshAt (assoc h) ρ w l pl) ∧ ∀ (dm : Nat → Prop) (ρ' : Nat → Pl) (stamp : Nat), (frOf rs' ≠ none → dm stamp ∧ ρ' stamp = pl) → D dm ρ' (resOf stamp rs') v := by
  have hlen : ∀ (a b : List RV), eqRVs a b → a.length = b.length := by
    intro a
    induction a with
    | nil => intro b hb; cases b <;> simp [eqRVs] at hb ⊢
    | cons x r ih => intro b hb; cases b <;> simp [eqRVs] at hb ⊢; exact ih _ hb.2
  rcases hr with ⟨r, rfl, h1⟩ | ⟨hn, vs, rfl, h1⟩
  · match rs', he with
    | [r'], he =>
      obtain ⟨pl, a1, a2⟩ := res_one hm h1 he.1
      exact ⟨pl, a1, fun dm ρ' stamp hs => a2 dm ρ' stamp hs⟩
  · obtain ⟨pl, a1, a2⟩ := res_all hm rs rs' vs h1 he ho
    refine ⟨pl, a1, fun dm ρ' stamp hs => ?_⟩
    have e : resOf stamp rs' = .tup (resGs stamp rs') := by
      match rs', hlen rs rs' he with
      | [], _ => rfl
      | [r'], hl => exact absurd hl hn
      | _ :: _ :: _, _ => rfl
    rw [e]
    simp only [D]
    exact ⟨vs, a2 dm ρ' stamp hs, rfl⟩

theorem nodupN_iff : ∀ {l : List Nat}, nodupN l = true → l.Nodup
  | [], _ => List.nodup_nil
  | x :: r, h => by
    simp only [nodupN] at h
    split at h
    · cases h
    · rename_i e
      refine List.nodup_cons.2 ⟨fun hx => ?_, nodupN_iff h⟩
      rw [memN_iff.2 hx] at e; cases e

def finB : Option (List Seg) → SB
  | some l => .segs false l
  | none => .gone

theorem finW_len : ∀ {ks : List Nat} {fin : List (Option (List Seg))} {ws : List (Nat × SB)}, finW ks fin = some ws → fin.length = ks.length
  | [], [], ws, h => rfl
  | [], _ :: _, ws, h => by simp [finW] at h
  | _ :: _, [], ws, h => by simp [finW] at h
  | k :: ks, some l :: r, ws, h => by
    simp only [finW] at h
    split at h
    · rename_i ws' e; simp [finW_len e]
    · cases h
  | k :: ks, none :: r, ws, h => by
    simp only [finW] at h
    split at h
    · rename_i ws' e; simp [finW_len e]
    · cases h

theorem finW_upd : ∀ {ks : List Nat} {fin : List (Option (List Seg))} {ws : List (Nat × SB)}, finW ks fin = some ws → ks.Nodup → ∀ (H : Nat → Option SB),
    (∀ k, k ∉ ks → updsH H ws k = H k) ∧ ∀ i, i < ks.length → updsH H ws (ks.getD i 0) = some (finB (fin.getD i none))
  | [], [], ws, h, hn, H => by
    simp only [finW, Option.some.injEq] at h; subst h
    exact ⟨fun k _ => rfl, fun i hi => by simp at hi⟩
  | [], _ :: _, ws, h, _, _ => by simp [finW] at h
  | _ :: _, [], ws, h, _, _ => by simp [finW] at h
  | k :: ks, b :: r, ws, h, hn, H => by
    have hh : ∃ ws', finW ks r = some ws' ∧ ws = (k, finB b) :: ws' := by
      cases b <;> simp only [finW] at h <;> split at h
      · rename_i ws' e; exact ⟨ws', e, (Option.some.inj h).symm⟩
      · cases h
      · rename_i ws' e; exact ⟨ws', e, (Option.some.inj h).symm⟩
      · cases h
    obtain ⟨ws', e, rfl⟩ := hh
    obtain ⟨hk, hn'⟩ := List.nodup_cons.1 hn
    obtain ⟨q1, q2⟩ := finW_upd e hn' (updH H k (finB b))
    refine ⟨fun k' hk' => ?_, fun i hi => ?_⟩
    · simp only [List.mem_cons, not_or] at hk'
      show updsH (updH H k (finB b)) ws' k' = H k'
      rw [q1 k' hk'.2, updH_ne hk'.1]
    · show updsH (updH H k (finB b)) ws' _ = _
      cases i with
      | zero =>
        simp only [List.getD_cons_zero]
        rw [q1 k hk, updH_same]
      | succ i =>
        simp only [List.getD_cons_succ]
        exact q2 i (by simpa using hi)

theorem finH_at {H : Nat → Option SB} : ∀ (fs : List (Option (List Seg))) (j i : Nat), FinH H j fs → i < fs.length → H (j + i) = some (finB (fs.getD i none))
  | some l :: r, j, 0, h, hi => h.1
  | none :: r, j, 0, h, hi => h.1
  | some l :: r, j, i + 1, h, hi => by
    have := finH_at r (j + 1) i h.2 (by simpa using hi)
    rw [show j + (i + 1) = j + 1 + i by omega]; simpa using this
  | none :: r, j, i + 1, h, hi => by
    have := finH_at r (j + 1) i h.2 (by simpa using hi)
    rw [show j + (i + 1) = j + 1 + i by omega]; simpa using this

theorem eqFin_at : ∀ (fs fs' : List (Option (List Seg))) (i : Nat), eqFin fs fs' → ∀ l', fs'.getD i none = some l' → ∃ l, fs.getD i none = some l ∧ eqSegs l l'
  | [], [], i, h, l', hl => by simp at hl
  | [], _ :: _, i, h, l', hl => h.elim
  | _ :: _, [], i, h, l', hl => h.elim
  | x :: r, y :: t, 0, h, l', hl => by
    simp only [List.getD_cons_zero] at hl ⊢
    subst hl
    cases x with
    | none => exact h.1.elim
    | some l => exact ⟨l, rfl, h.1⟩
  | x :: r, y :: t, i + 1, h, l', hl => by
    simp only [List.getD_cons_succ] at hl ⊢
    exact eqFin_at r t i h.2 l' hl

end
end Go.Gx

/- Contracts in general: the theorem. -/
namespace Go.Gx
open Go.RowKit
set_option linter.unusedVariables false

section
variable {P : Program} {Γ : Tab}

/-- What a general contract has read. -/
theorem genCtr_run {H : Nat → Option SB} {ms : List Md} {spec : List AV → Option (List Prop × List RV × List (Option (List Seg)))} {stamp : Nat} {args : List SV} {rs rs' : List Nat} {d : Delta} (h : (genCtr ms spec stamp args).run H rs = some (d, rs')) :
    nodupN (ownKeys ms args) = true ∧ ∃ f : List Prop → List AV → RP Delta, (getA (ownKeys ms args) ms args f).run H rs = some (d, rs') ∧ ∀ p avs rs1, (f p avs).run H rs1 = some (d, rs') →
      ∃ p' rvs fin ws, spec avs = some (p', rvs, fin) ∧ finW (ownKeys ms args) fin = some ws ∧ (oneFr rvs && Nat.ble fin.length 100) = true ∧
        ((frOf rvs = none ∧ d = ⟨p ++ p', resOf stamp rvs, ws, true⟩) ∨ ∃ l, frOf rvs = some l ∧ H stamp = none ∧ d = ⟨p ++ p', resOf stamp rvs, (stamp, .segs false l) :: ws, true⟩) := by
  unfold genCtr at h
  simp only at h
  split at h
  · rename_i hn
    refine ⟨hn, _, h, fun p avs rs1 h1 => ?_⟩
    split at h1
    · rename_i p' rvs fin hs
      split at h1
      · rename_i ws hws ho
        split at h1
        · rename_i hf
          exact ⟨p', rvs, fin, ws, hs, hws, ho, .inl ⟨hf, run_ret h1⟩⟩
        · rename_i l hf
          simp only [RP.run] at h1
          split at h1
          · rename_i hst
            exact ⟨p', rvs, fin, ws, hs, hws, ho, .inr ⟨l, hf, hst, run_ret h1⟩⟩
          · simp [RP.run] at h1
      · simp [RP.run] at h1
    · simp [RP.run] at h1
  · simp [RP.run] at h

/-- The callee's heap. -/
theorem gen_mem {w0 : World} {M : Nat → Prop} {ρ : Nat → Pl} {H : Nat → Option SB} {w : World} (hG : Glob Γ.gh w0 M) (hgl : Γ.gl = keysOf Γ.gh) (hlow : ∀ g ∈ keysOf Γ.gh, g < 490) (hm : Mem w0 M ρ H w) {ks : List Nat} (hks : ∀ k ∈ ks, ∃ l, H k = some (.segs false l)) (hnd : ks.Nodup)
    {M' : Nat → Prop} (hM' : ∀ b, M' b ↔ ∃ k ∈ ks, 0 < (ρ k).cap ∧ b = (ρ k).blk) {h6 : Heap}
    (h1 : ∀ k b, assoc h6 k = some b → ∃ i, k = 600 + i ∧ i < ks.length ∧ ∃ l l', b = .segs false l' ∧ H (ks.getD i 0) = some (.segs false l) ∧ ∀ (dm : Nat → Prop) (ρ' : Nat → Pl) (cs : List Value), SegsD (dmOf H) ρ l cs → SegsD dm ρ' l' cs)
    (h2 : ∀ i, i < ks.length → (assoc h6 (600 + i)).isSome = true) :
    ∃ ρ1 : Nat → Pl, Mem w M' ρ1 (assoc (Γ.gh ++ (490, .world) :: h6)) w ∧ GlOk Γ w M' ρ1 (assoc (Γ.gh ++ (490, .world) :: h6)) ∧ dmOf (assoc (Γ.gh ++ (490, .world) :: h6)) 490 ∧ (ρ1 490).rel = RoD w (OutB w M') ∧
      ∀ i, i < ks.length → dmOf (assoc (Γ.gh ++ (490, .world) :: h6)) (600 + i) ∧ ρ1 (600 + i) = ρ (ks.getD i 0) := by
  obtain ⟨ρg, g1, g2, g3⟩ := mem_of_glob hG hm
  have hMo : ∀ b, M' b → w0.heap.size ≤ b ∨ M b := fun b hb => by
    obtain ⟨k, hk, hc, rfl⟩ := (hM' b).1 hb
    obtain ⟨l, hl⟩ := hks k hk
    exact hm.own k l hl hc
  have hne : ∀ g b, (g, b) ∈ Γ.gh → ¬ M' g := fun g b hgb hb => by
    obtain ⟨_, _, _, _, _, q1, q2⟩ := hG g b hgb
    rcases hMo g hb with hh | hh
    · omega
    · exact q1 hh
  have hlow : ∀ k b, assoc Γ.gh k = some b → k < 490 := fun k b hb => hlow k (keysOf_of_dm (by unfold dmOf; rw [hb]; rfl))
  have hro : ∀ k b, assoc Γ.gh k = some b → ∃ l, b = .segs true l := fun k b hb => by
    obtain ⟨l, _, e, _⟩ := g2 k b (assoc_mem hb); exact ⟨l, e⟩
  let HH : Heap := Γ.gh ++ (490, .world) :: h6
  have hat : ∀ k b, assoc HH k = some b → (k < 490 ∧ assoc Γ.gh k = some b) ∨ (k = 490 ∧ b = .world) ∨ (600 ≤ k ∧ assoc h6 k = some b) := fun k b hb => by
    have hb : assoc (Γ.gh ++ (490, .world) :: h6) k = some b := hb
    rw [assoc_app] at hb
    split at hb
    · rename_i x hx
      rw [hb] at hx
      exact .inl ⟨hlow k b hx, hx⟩
    · simp only [assoc] at hb
      split at hb
      · rename_i e
        simp only [Option.some.injEq] at hb
        exact .inr (.inl ⟨(Nat.eq_of_beq_eq_true e).symm, hb.symm⟩)
      · obtain ⟨i, rfl, _⟩ := h1 k b hb
        exact .inr (.inr ⟨by omega, hb⟩)
  have hup : ∀ k b, assoc Γ.gh k = some b → assoc HH k = some b := fun k b hb => by
    show assoc (Γ.gh ++ (490, .world) :: h6) k = _
    rw [assoc_app, hb]
  have hnlow : ∀ k, 490 ≤ k → assoc Γ.gh k = none := fun k hk => by
    cases e : assoc Γ.gh k with
    | none => rfl
    | some b => have := hlow k b e; omega
  have h490 : assoc HH 490 = some .world := by
    show assoc (Γ.gh ++ (490, .world) :: h6) 490 = _
    rw [assoc_app, hnlow 490 (Nat.le_refl _)]
    simp [assoc]
  have hup6 : ∀ k, 600 ≤ k → assoc HH k = assoc h6 k := fun k hk => by
    show assoc (Γ.gh ++ (490, .world) :: h6) k = _
    rw [assoc_app, hnlow k (by omega)]
    have : Nat.beq 490 k = false := by
      cases hb : Nat.beq 490 k with
      | false => rfl
      | true => have := Nat.eq_of_beq_eq_true hb; omega
    simp only [assoc, this]
  let ρ1 : Nat → Pl := fun k => if k < 490 then ρg k else if k < 600 then { blk := 0, off := 0, cap := 0, rel := RoD w (OutB w M') } else ρ (ks.getD (k - 600) 0)
  have hρg : ∀ k, k < 490 → ρ1 k = ρg k := fun k hk => by simp [ρ1, hk]
  have hρ6 : ∀ i, ρ1 (600 + i) = ρ (ks.getD i 0) := fun i => by
    have h1 : ¬ (600 + i < 490) := by omega
    have h2 : ¬ (600 + i < 600) := by omega
    simp only [ρ1, h1, h2, if_false]
    rw [Nat.add_sub_cancel_left]
  have hmk : ∀ i, i < ks.length → ks.getD i 0 ∈ ks := fun i hi => by
    rw [List.getD_eq_getElem?_getD, List.getElem?_eq_getElem hi]
    exact List.getElem_mem hi
  have hinj : ∀ i i', i < ks.length → i' < ks.length → i ≠ i' → ks.getD i 0 ≠ ks.getD i' 0 := fun i i' hi hi' hne e => by
    rw [List.getD_eq_getElem?_getD, List.getD_eq_getElem?_getD, List.getElem?_eq_getElem hi, List.getElem?_eq_getElem hi'] at e
    have e : ks[i] = ks[i'] := e
    rcases Nat.lt_or_gt_of_ne hne with h | h
    · exact List.pairwise_iff_getElem.1 hnd i i' hi hi' h e
    · exact List.pairwise_iff_getElem.1 hnd i' i hi' hi h e.symm
  refine ⟨ρ1, ⟨⟨fun k b hb => ?_, fun k k' ro ro' l1 l2 e1 e2 hkk hr c1 c2 => ?_, fun k ro l1 e1 c1 => ?_⟩, FrameW.refl _ _, fun k l1 e1 c1 => ?_, fun k e1 => ?_, fun k l1 e1 c1 => ?_, .none (fun k kd ms e1 => by
      rcases hat k _ e1 with ⟨_, h⟩ | ⟨_, h⟩ | ⟨_, h⟩
      · obtain ⟨_, e⟩ := hro k _ h; cases e
      · cases h
      · obtain ⟨i, _, h⟩ := h1 k _ h
        obtain ⟨_, _, _, e, _⟩ := h
        cases e)⟩, ⟨fun g hg => ?_, fun g b hgb => ?_⟩, by unfold dmOf; rw [h490]; rfl, by simp [ρ1], fun i hi => ⟨?_, hρ6 i⟩⟩
  · rcases hat k b hb with ⟨hk, hb'⟩ | ⟨rfl, rfl⟩ | ⟨hk, hb'⟩
    · refine (g1.heap.blk k b hb').of_block (fun j hj => ?_) (fun j hj => ?_) (hρg k hk) (fun _ _ _ _ => rfl)
      · unfold dmOf at hj ⊢
        obtain ⟨b', hb''⟩ := Option.isSome_iff_exists.1 hj
        rw [hup j b' hb'']; rfl
      · unfold dmOf at hj
        obtain ⟨b', hb''⟩ := Option.isSome_iff_exists.1 hj
        exact .of_eq (hρg j (hlow j b' hb''))
    · trivial
    · obtain ⟨i, rfl, hi, l, l', rfl, hl, hd⟩ := h1 k b hb'
      obtain ⟨cs, hcs, hcl, hra, hth⟩ := hm.heap.blk _ _ hl
      exact ⟨cs, hd _ _ cs hcs, by rw [hρ6]; exact hcl, by rw [hρ6]; exact hra, fun _ => by rw [hρ6]; exact hth rfl⟩
  · have hk0 : ∀ a b lx, assoc HH a = some (.segs b lx) → 0 < (ρ1 a).cap → (a < 490 ∧ b = true ∧ ¬ M' (ρ1 a).blk) ∨ (∃ i, a = 600 + i ∧ i < ks.length ∧ M' (ρ1 a).blk) := fun a b lx ha hca => by
      rcases hat a _ ha with ⟨ha1, ha'⟩ | ⟨_, ha'⟩ | ⟨ha1, ha'⟩
      · obtain ⟨lz, ez⟩ := hro a _ ha'
        simp only [SB.segs.injEq] at ez
        exact .inl ⟨ha1, ez.1, by rw [hρg a ha1, (g3 a).1]; exact hne a _ (assoc_mem ha')⟩
      · cases ha'
      · obtain ⟨i, rfl, hi, l, l', e, hl, hd⟩ := h1 a _ ha'
        exact .inr ⟨i, rfl, hi, (hM' _).2 ⟨ks.getD i 0, hmk i hi, by rw [hρ6] at hca; exact hca, by rw [hρ6]⟩⟩
    rcases hk0 k ro l1 e1 c1 with ⟨a1, a2, a3⟩ | ⟨i, rfl, hi, a3⟩
    · rcases hk0 k' ro' l2 e2 c2 with ⟨b1, b2, b3⟩ | ⟨i', rfl, hi', b3⟩
      · rw [a2, b2] at hr; rcases hr with hr | hr <;> cases hr
      · intro e; rw [e] at a3; exact a3 b3
    · rcases hk0 k' ro' l2 e2 c2 with ⟨b1, b2, b3⟩ | ⟨i', rfl, hi', b3⟩
      · intro e; rw [e] at a3; exact b3 a3
      · rw [hρ6] at c1 ⊢
        rw [hρ6] at c2 ⊢
        obtain ⟨l, hl⟩ := hks _ (hmk i hi)
        obtain ⟨l', hl'⟩ := hks _ (hmk i' hi')
        exact hm.heap.sep _ _ false false l l' hl hl' (hinj i i' hi hi' (fun e => hkk (by rw [e]))) (.inl rfl) c1 c2
  · rcases hat k _ e1 with ⟨h1', h1''⟩ | ⟨_, h1'⟩ | ⟨hk, h1'⟩
    · rw [hρg k h1'] at c1 ⊢; exact g1.heap.lt k ro l1 h1'' c1
    · cases h1'
    · obtain ⟨i, rfl, hi, l, l', e, hl, hd⟩ := h1 k _ h1'
      rw [hρ6] at c1 ⊢
      exact hm.heap.lt _ _ _ hl c1
  · rcases hat k _ e1 with ⟨h1', h1''⟩ | ⟨_, h1'⟩ | ⟨hk, h1'⟩
    · obtain ⟨lz, ez⟩ := hro k _ h1''
      simp only [SB.segs.injEq] at ez
      cases ez.1
    · cases h1'
    · obtain ⟨i, rfl, hi, l, l', e, hl, hd⟩ := h1 k _ h1'
      exact .inr ((hM' _).2 ⟨ks.getD i 0, hmk i hi, by rw [hρ6] at c1; exact c1, by rw [hρ6]⟩)
  · rcases hat k _ e1 with ⟨h1', h1''⟩ | ⟨rfl, _⟩ | ⟨hk, h1'⟩
    · obtain ⟨lz, ez⟩ := hro k _ h1''; cases ez
    · simp [ρ1]
    · obtain ⟨i, rfl, hi, l, l', e, hl, hd⟩ := h1 k _ h1'; cases e
  · rcases hat k _ e1 with ⟨h1', h1''⟩ | ⟨_, h1'⟩ | ⟨hk, h1'⟩
    · obtain ⟨lz, ez⟩ := hro k _ h1''
      simp only [SB.segs.injEq] at ez
      cases ez.1
    · cases h1'
    · obtain ⟨i, rfl, hi, l, l', e, hl, hd⟩ := h1 k _ h1'
      rw [hρ6] at c1 ⊢
      exact hm.clean _ _ hl c1
  · have hdm : dmOf (assoc Γ.gh) g := assoc_dm (by rw [← hgl]; exact hg)
    unfold dmOf at hdm
    obtain ⟨b', hb''⟩ := Option.isSome_iff_exists.1 hdm
    refine ⟨by unfold dmOf; rw [hup g b' hb'']; rfl, ?_, ?_⟩
    · rw [hρg g (hlow g b' hb'')]; exact (g3 g).1
    · rw [hρg g (hlow g b' hb'')]; exact (g3 g).2
  · obtain ⟨lz, vz, q0, q1, q2, _, q4⟩ := g2 g b hgb
    exact ⟨lz, vz, q0, q1, q2, hne g b hgb, q4⟩
  · unfold dmOf
    rw [hup6 _ (by omega)]
    exact h2 i hi

/-- The contract of a function that the evaluator has run. -/
theorem call_gen (hΓ : TabOk P Γ) (hgl : Γ.gl = keysOf Γ.gh) (hlow : ∀ g ∈ keysOf Γ.gh, g < 490) {f : FuncId} {fn : Func} (hf : P.funcs[f]? = some fn) (hn : (fn.name == "runtime.NumGoroutine") = false) (hb : fn.body.isNone = false)
    (ms : List Md) (spec : List AV → Option (List Prop × List RV × List (Option (List Seg))))
    (h : ∀ avs p rvs fin, spec avs = some (p, rvs, fin) → AllP p → FactA avs → ∃ args' h6 L inv, okA 600 avs args' h6 ∧ args'.length ≤ fn.ntmps ∧ VcG fin.length Γ fn L (Γ.gh ++ (490, .world) :: h6) args' (fun rvs' fin' => eqRVs rvs' rvs ∧ eqFin fin' fin) inv) : CallOk P Γ.gh f (genCtr ms spec) := by
  intro stamp args H rs rs' d vs w0 M ρ w hG hc hp hD hm
  obtain ⟨hnd0, f0, hget, hf0⟩ := genCtr_run hc
  have hnd := nodupN_iff hnd0
  generalize hks : ownKeys ms args = ks at *
  let M' : Nat → Prop := fun b => ∃ k ∈ ks, (∃ l, H k = some (.segs false l)) ∧ 0 < (ρ k).cap ∧ b = (ρ k).blk
  have hB : BanOk w0 M ρ H ks M' := ⟨fun key ro l hban hkey hc hb => by
    obtain ⟨k, hk, ⟨l', hl'⟩, hc', e⟩ := hb
    have hne : key ≠ k := fun e => by subst e; rw [memN_iff.2 hk] at hban; cases hban
    exact hm.heap.sep key k ro false l l' hkey hl' hne (.inr rfl) hc hc' e, fun b hb hnM hb' => by
    obtain ⟨k, hk, ⟨l', hl'⟩, hc', rfl⟩ := hb'
    rcases hm.own k l' hl' hc' with h | h
    · omega
    · exact hnM h, fun key k ms i hkey hi hc hb => by
    obtain ⟨k0, hk0, ⟨l', hl'⟩, hc', e⟩ := hb
    exact hm.pools.apart key k ms k0 false l' i hkey hl' hc' hi hc e.symm⟩
  obtain ⟨p, avs, rs1, hrun, hAs⟩ := getA_sound P hm hB ms args vs f0 d rs rs' hD hget
  obtain ⟨p', rvs, fin, ws, hs, hws, ho, hcase⟩ := hf0 p avs rs1 hrun
  simp only [Bool.and_eq_true] at ho
  have hsmall := Nat.le_of_ble_eq_true ho.2
  have ho := ho.1
  have hpp : AllP p ∧ AllP p' := by
    rcases hcase with ⟨_, rfl⟩ | ⟨l, _, _, rfl⟩ <;> exact AllP.append (l := p) (r := p') hp
  have hA := hAs hpp.1
  rw [hks] at hA
  have hkeys := AsD.keys avs vs ks hA
  obtain ⟨args', h6, L, inv, k1, k2, k3⟩ := h avs p' rvs fin hs hpp.2 (AsD.fact hm avs vs ks hA)
  have hM'' : ∀ b, M' b ↔ ∃ k ∈ ks, 0 < (ρ k).cap ∧ b = (ρ k).blk := fun b => ⟨fun ⟨k, a, _, c⟩ => ⟨k, a, c⟩, fun ⟨k, a, c⟩ => ⟨k, a, hkeys k a, c⟩⟩
  obtain ⟨hh1, hh2⟩ := okA_heap avs vs ks 600 args' h6 hA k1
  obtain ⟨ρ1, m1, m2, m3, m4, m5⟩ := gen_mem hG hgl hlow hm hkeys hnd hM'' hh1 hh2
  have hargs := okA_args m3 m4 avs vs ks 600 args' h6 hA k1 m5
  refine .inr ⟨f, _, GoFn.run ⟨fn, hf, hn, hb⟩ _ _, (vcG_calls hΓ hf k3 k2 m2 m1 hargs).mono fun e w' he => ?_⟩
  obtain ⟨x, v, h', ρ', rfl, r1, r2, r3, r4⟩ := he
  obtain ⟨rvs', fin', ⟨t1, t2⟩, t3, t4, t5⟩ := kvG_sound r3 r2 r1
  obtain ⟨pl, u1, u2⟩ := res_of r3 t3 t1 ho
  have hfl := finW_len hws
  obtain ⟨up1, up2⟩ := finW_upd hws hnd H
  have hρ6 : ∀ i, i < ks.length → PlLe (ρ (ks.getD i 0)) (ρ' (600 + i)) := fun i hi => by
    have := (r4 _ (m5 i hi).1).2
    rwa [(m5 i hi).2] at this
  have hmk : ∀ i, i < ks.length → ks.getD i 0 ∈ ks := fun i hi => by
    rw [List.getD_eq_getElem?_getD, List.getElem?_eq_getElem hi]
    exact List.getElem_mem hi
  have hidx : ∀ k ∈ ks, ∃ i, i < ks.length ∧ ks.getD i 0 = k := fun k hk => by
    obtain ⟨i, hi, e⟩ := List.getElem_of_mem hk
    exact ⟨i, hi, by rw [List.getD_eq_getElem?_getD, List.getElem?_eq_getElem hi]; exact e⟩
  have hMo : ∀ b, M' b → w0.heap.size ≤ b ∨ M b := fun b hb => by
    obtain ⟨k, hk, ⟨l, hl⟩, hc, rfl⟩ := hb
    exact hm.own k l hl hc
  -- the records, at the end
  have hrec : ∀ i, i < ks.length → ∀ l', fin.getD i none = some l' → ∃ l, assoc h' (600 + i) = some (.segs false l) ∧ eqSegs l l' := fun i hi l' hl' => by
    obtain ⟨l, q1, q2⟩ := eqFin_at fin' fin i t2 l' hl'
    have := finH_at fin' 600 i t4 (by omega)
    rw [q1] at this
    exact ⟨l, this, q2⟩
  have main : ∀ (T : Nat → Prop) (H' : Nat → Option SB) (ρ'' : Nat → Pl), (∀ k, T k ↔ k ∈ ks ∨ (k = stamp ∧ frOf rvs ≠ none)) → (frOf rvs ≠ none → H stamp = none) → (∀ k, k ∉ ks → k ≠ stamp → H' k = H k) → (frOf rvs = none → ∀ k, k ∉ ks → H' k = H k) →
      (∀ i, i < ks.length → H' (ks.getD i 0) = some (finB (fin.getD i none))) → (∀ l, frOf rvs = some l → H' stamp = some (.segs false l)) → (∀ k, k ≠ stamp → ρ'' k = ρ k) → (frOf rvs = none → ρ'' = ρ) → (frOf rvs ≠ none → ρ'' stamp = pl) → Mem w0 M ρ'' H' w' := by
    intro T H' ρ'' hTd hst hk1 hk2 hk3 hk4 hr1 hr2 hr3
    have hstk : frOf rvs ≠ none → stamp ∉ ks := fun hne hmem => by
      obtain ⟨l, hl⟩ := hkeys stamp hmem
      rw [hst hne] at hl; cases hl
    have hρk : ∀ k ∈ ks, ρ'' k = ρ k := fun k hk => by
      by_cases e : frOf rvs = none
      · rw [hr2 e]
      · exact hr1 k fun e' => hstk e (e' ▸ hk)
    refine Mem.merge hm r3.frame (T := T) (fun k hk => ?_) (fun k hk => ?_) (fun k hk => ?_) hMo (fun k ro l hk hkk hc hb => ?_) (fun k b hk hkb => ?_) (fun k kd ms hk e => by
      rcases (hTd k).1 hk with h | ⟨h, h2⟩
      · obtain ⟨i, hi, rfl⟩ := hidx k h
        rw [hk3 i hi] at e
        cases hfi : fin.getD i none <;> rw [hfi] at e <;> cases e
      · subst h
        cases hfr : frOf rvs with
        | none => exact h2 hfr
        | some l => rw [hk4 l hfr] at e; cases e) (fun k kd ms i hk hi h0 hb => by
      obtain ⟨k0, hk0, ⟨l0, hl0⟩, hc0, e⟩ := hb
      exact hm.pools.apart k kd ms k0 false l0 i hk hl0 hc0 hi h0 e.symm) (fun k k' l l' t1 t2 hkk e1 e2 c1 c2 => ?_)
    · have hk := fun h => hk ((hTd k).2 h)
      by_cases e : frOf rvs = none
      · exact hk2 e k fun h => hk (.inl h)
      · exact hk1 k (fun h => hk (.inl h)) fun h => hk (.inr ⟨h, e⟩)
    · by_cases e : frOf rvs = none
      · rw [hr2 e]
      · refine hr1 k fun e' => ?_
        subst e'
        unfold dmOf at hk
        rw [hst e] at hk; cases hk
    · by_cases e : k ∈ ks
      · obtain ⟨i, hi, rfl⟩ := hidx k e
        unfold dmOf; rw [hk3 i hi]; rfl
      · by_cases e' : k = stamp
        · by_cases e2 : frOf rvs = none
          · unfold dmOf at hk ⊢; rw [hk2 e2 k e]; exact hk
          · subst e'
            unfold dmOf at hk
            rw [hst e2] at hk; cases hk
        · unfold dmOf at hk ⊢; rw [hk1 k e e']; exact hk
    · obtain ⟨k0, hk0, ⟨l0, hl0⟩, hc0, e⟩ := hb
      have hne : k ≠ k0 := fun e => hk ((hTd k).2 (.inl (e ▸ hk0)))
      exact hm.heap.sep k k0 ro false l l0 hkk hl0 hne (.inr rfl) hc hc0 e
    · rcases (hTd k).1 hk with hk | ⟨rfl, hne⟩
      · obtain ⟨i, hi, rfl⟩ := hidx k hk
        rw [hk3 i hi] at hkb
        simp only [Option.some.injEq] at hkb
        subst hkb
        cases hfi : fin.getD i none with
        | none => exact ⟨⟨by simp [finB], fun _ _ => by simp [finB]⟩, fun ro l e => by cases e⟩
        | some l' =>
          refine ⟨⟨by simp [finB], fun _ _ => by simp [finB]⟩, fun ro l e => ?_⟩
          simp only [finB, SB.segs.injEq] at e
          obtain ⟨rfl, rfl⟩ := e
          obtain ⟨l1, q1, q2⟩ := hrec i hi l' hfi
          obtain ⟨cs, s1, s2, s3, s4⟩ := r3.segs q1
          rw [hρk _ hk, ← (hρ6 i hi).blk, ← (hρ6 i hi).off, ← (hρ6 i hi).cap]
          refine ⟨rfl, ⟨cs, eqSegs_D l1 l' cs q2 s1, s2, s3, s4 rfl⟩, fun hc => ⟨r3.heap.lt _ _ _ q1 hc, ?_, r3.clean _ _ q1 hc⟩⟩
          exact r3.own _ _ q1 hc
      · cases hfr : frOf rvs with
        | none => exact absurd hfr hne
        | some l0 =>
          rw [hk4 l0 hfr] at hkb
          simp only [Option.some.injEq] at hkb
          subst hkb
          refine ⟨⟨by simp, fun _ _ => by simp⟩, fun ro l e => ?_⟩
          simp only [SB.segs.injEq] at e
          obtain ⟨rfl, rfl⟩ := e
          obtain ⟨cs, s1, s2, s3, s4, s5⟩ := u1 l0 hfr
          rw [hr3 hne]
          refine ⟨rfl, ⟨cs, s1, s2, s3, s4⟩, fun hc => ?_⟩
          obtain ⟨key, lk, z1, z2, z3, z4⟩ := s5 hc
          rw [z3]
          exact ⟨r3.heap.lt key _ _ z2 z4, r3.own key _ z2 z4, r3.clean key _ z2 z4⟩
    · have hone : ∀ k l, k ∈ ks → H' k = some (.segs false l) → 0 < (ρ'' k).cap → ∃ i, i < ks.length ∧ ks.getD i 0 = k ∧ ∃ l1, assoc h' (600 + i) = some (.segs false l1) ∧ (ρ'' k).blk = (ρ' (600 + i)).blk ∧ (ρ'' k).cap = (ρ' (600 + i)).cap := fun k l hk e c => by
        obtain ⟨i, hi, rfl⟩ := hidx k hk
        rw [hk3 i hi] at e
        simp only [Option.some.injEq] at e
        cases hfi : fin.getD i none with
        | none => rw [hfi] at e; cases e
        | some l' =>
          obtain ⟨l1, q1, q2⟩ := hrec i hi l' hfi
          exact ⟨i, hi, rfl, l1, q1, by rw [hρk _ hk, (hρ6 i hi).blk], by rw [hρk _ hk, (hρ6 i hi).cap]⟩
      have hfr : ∀ l, frOf rvs ≠ none → H' stamp = some (.segs false l) → 0 < (ρ'' stamp).cap → ∃ key l', 1000 ≤ key ∧ assoc h' key = some (.segs false l') ∧ (ρ'' stamp).blk = (ρ' key).blk ∧ 0 < (ρ' key).cap := fun l hne e c => by
        cases hfr : frOf rvs with
        | none => exact absurd hfr hne
        | some l0 =>
          obtain ⟨cs, s1, s2, s3, s4, s5⟩ := u1 l0 hfr
          rw [hr3 hne] at c ⊢
          exact s5 c
      rcases (hTd k).1 t1 with hk | ⟨rfl, hne⟩
      · obtain ⟨i, hi, rfl, la, q1, q2⟩ := hone k l hk e1 c1
        rcases (hTd k').1 t2 with hk' | ⟨rfl, hne⟩
        · obtain ⟨i', hi', rfl, lb, q1', q2'⟩ := hone k' l' hk' e2 c2
          rw [q2.2] at c1
          rw [q2'.2] at c2
          rw [q2.1, q2'.1]
          exact r3.heap.sep _ _ false false la lb q1 q1' (fun e => hkk (by rw [show i = i' by omega])) (.inl rfl) c1 c2
        · obtain ⟨key, lk, z1, z2, z3, z4⟩ := hfr l' hne e2 c2
          rw [q2.2] at c1
          rw [q2.1]
          rw [z3]
          by_cases e : 600 + i = key
          · exfalso
            omega
          · exact r3.heap.sep _ _ false false la lk q1 z2 e (.inl rfl) c1 z4
      · obtain ⟨key, lk, z1, z2, z3, z4⟩ := hfr l hne e1 c1
        rcases (hTd k').1 t2 with hk' | ⟨rfl, _⟩
        · obtain ⟨i', hi', rfl, lb, q1', q2'⟩ := hone k' l' hk' e2 c2
          rw [q2'.2] at c2
          rw [q2'.1]
          rw [z3]
          by_cases e : 600 + i' = key
          · exfalso
            omega
          · exact r3.heap.sep _ _ false false lk lb z2 q1' (Ne.symm e) (.inl rfl) z4 c2
        · exact absurd rfl hkk
  rcases hcase with ⟨hfn, rfl⟩ | ⟨l, hfs, hst, rfl⟩
  · refine ⟨v, rfl, ρ, .refl _ _, u2 _ _ _ (fun h => absurd hfn h), ?_⟩
    exact main (fun k => k ∈ ks ∨ (k = stamp ∧ frOf rvs ≠ none)) _ ρ (fun k => .rfl) (fun h => absurd hfn h) (fun k hk _ => up1 k hk) (fun _ k hk => up1 k hk) up2 (fun l hl => by rw [hfn] at hl; cases hl) (fun _ _ => rfl) (fun _ => rfl) (fun h => absurd hfn h)
  · have hstk : stamp ∉ ks := fun hmem => by
      obtain ⟨l, hl⟩ := hkeys stamp hmem
      rw [hst] at hl; cases hl
    obtain ⟨up1', up2'⟩ := finW_upd hws hnd (updH H stamp (.segs false l))
    have hne : frOf rvs ≠ none := by rw [hfs]; simp
    have hH : ∀ k, updsH H ((stamp, .segs false l) :: ws) k = updsH (updH H stamp (.segs false l)) ws k := fun k => rfl
    have hstv : updsH H ((stamp, .segs false l) :: ws) stamp = some (.segs false l) := by rw [hH, up1' stamp hstk, updH_same]
    refine ⟨v, rfl, updP ρ stamp pl, updP_keeps hst, u2 _ _ _ (fun _ => ⟨by unfold dmOf; rw [hstv]; rfl, updP_same _ _ _⟩), ?_⟩
    exact main (fun k => k ∈ ks ∨ (k = stamp ∧ frOf rvs ≠ none)) _ (updP ρ stamp pl) (fun k => .rfl) (fun _ => hst) (fun k hk hks => by rw [hH, up1' k hk, updH_ne hks]) (fun h => absurd h hne) (fun i hi => by rw [hH]; exact up2' i hi) (fun l' hl => by rw [hfs] at hl; simp only [Option.some.injEq] at hl; subst hl; exact hstv) (fun k hk => updP_ne hk) (fun h => absurd h hne) (fun _ => updP_same _ _ _)

end
end Go.Gx

/- Contracts in general: another telling of the same. -/
namespace Go.Gx
open Go.RowKit
set_option linter.unusedVariables false

def RP.bind {α β : Type} : RP α → (α → RP β) → RP β
  | .ret a, f => f a
  | .fail, _ => .fail
  | .get k h, f => .get k fun b => (h b).bind f

theorem RP.run_bind {α β : Type} {H : Nat → Option SB} (f : α → RP β) : ∀ (g : RP α) (rs : List Nat), (g.bind f).run H rs = (match g.run H rs with | some (a, rs1) => (f a).run H rs1 | none => none)
  | .ret a, rs => rfl
  | .fail, rs => rfl
  | .get k h, rs => by simp only [RP.bind, RP.run]; exact RP.run_bind f (h (H k)) (k :: rs)

/-- Does it only read, and hand on what it has read? -/
def Uni {α : Type} (F : (α → RP Delta) → RP Delta) : Prop := ∃ g : RP α, ∀ f, F f = g.bind f

theorem Uni.fail {α : Type} : Uni (α := α) fun _ => .fail := ⟨.fail, fun _ => rfl⟩
theorem Uni.ret {α : Type} (a : α) : Uni (α := α) fun f => f a := ⟨.ret a, fun _ => rfl⟩
theorem Uni.get {α : Type} (k : Nat) {F : Option SB → (α → RP Delta) → RP Delta} (h : ∀ b, Uni (F b)) : Uni fun f => .get k fun b => F b f :=
  ⟨.get k fun b => Classical.choose (h b), fun f => by
    simp only [RP.bind]
    congr 1
    funext b
    exact Classical.choose_spec (h b) f⟩
theorem Uni.bind {α β : Type} {F : (α → RP Delta) → RP Delta} (hF : Uni F) {G : α → (β → RP Delta) → RP Delta} (hG : ∀ a, Uni (G a)) : Uni fun f => F fun a => G a f := by
  obtain ⟨g, hg⟩ := hF
  have bb : ∀ {α β γ : Type} (g : RP α) (h : α → RP β) (f : β → RP γ), (g.bind h).bind f = g.bind fun a => (h a).bind f := by
    intro α β γ g h f
    induction g with
    | ret a => rfl
    | fail => rfl
    | get k r ih => simp only [RP.bind]; congr 1; funext b; exact ih b
  have hG' : ∀ a, ∃ k : RP β, ∀ f, G a f = k.bind f := hG
  refine ⟨g.bind fun a => Classical.choose (hG' a), fun f => ?_⟩
  show F (fun a => G a f) = _
  rw [hg, bb]
  congr 1
  funext a
  exact Classical.choose_spec (hG' a) f

theorem uni_withCon (x : SV) : Uni (α := List Prop × Con) fun f => withCon x fun p q => f (p, q) := by
  cases x <;> simp only [withCon] <;> try exact .fail
  case s v => exact .ret _
  case sl key c est off len =>
    refine .get _ fun b => ?_
    match b with
    | some (.segs ro l) =>
      simp only
      cases segAt l c with
      | none => exact .fail
      | some gj =>
        obtain ⟨g, j⟩ := gj
        cases j with
        | succ j => exact .fail
        | zero =>
          simp only
          cases conSeg g est off len with
          | none => exact .fail
          | some pq => exact .ret (pq.1, pq.2)
    | some .gone => exact .fail
    | some (.pool _ _) => exact .fail
    | some (.alias _ _) => exact .fail
    | some .world => exact .fail
    | none => exact .fail
  case ro key sh d =>
    refine .get _ fun b => ?_
    match b with
    | some .world => cases sh <;> first | exact .fail | exact .ret _
    | some (.segs ro l) => exact .fail
    | some .gone => exact .fail
    | some (.pool _ _) => exact .fail
    | some (.alias _ _) => exact .fail
    | none => exact .fail
  case ps key r len =>
    refine .get _ fun b => ?_
    match b with
    | some (.pool k ms) => exact .ret (_, _)
    | some .world => exact .fail
    | some (.segs ro l) => exact .fail
    | some .gone => exact .fail
    | some (.alias _ _) => exact .fail
    | none => exact .fail

theorem uni_each {g : SV → (List Prop → RO → RP Delta) → RP Delta} (hg : ∀ x, Uni (α := List Prop × RO) fun f => g x fun p d => f (p, d)) : ∀ xs : List SV, Uni (α := List Prop × List RO) fun f => eachRO g xs fun p d => f (p, d)
  | [] => .ret ([], [])
  | x :: r => by
    simp only [eachRO]
    exact Uni.bind (F := fun f => g x fun p d => f (p, d)) (hg x) (G := fun a f => eachRO g r fun p' ds => f (a.1 ++ p', a.2 :: ds)) fun a =>
      Uni.bind (F := fun f => eachRO g r fun p d => f (p, d)) (uni_each hg r) (G := fun b f => f (a.1 ++ b.1, a.2 :: b.2)) fun b => .ret _

theorem uni_hdr (k : IntKind) (off len : SI) (pk : Nat) (hs : List (Nat × Nat)) : Uni (α := List Prop × RO) fun f => hdrRO k off len pk hs fun p d => f (p, d) := by
  simp only [hdrRO]
  refine .get _ fun b => ?_
  match b with
  | some (.pool k' ms) => simp only; cases keq k' k <;> first | exact .fail | exact .ret (_, _)
  | some .world => exact .fail
  | some (.segs ro l) => exact .fail
  | some .gone => exact .fail
  | some (.alias _ _) => exact .fail
  | none => exact .fail

mutual
theorem uni_view (ban : List Nat) : ∀ (sh : Sh) (x : SV), Uni (α := List Prop × RO) fun f => viewRO ban sh x fun p d => f (p, d)
  | .ints k, x => by
    simp only [viewRO]
    cases x <;> try exact .fail
    case nsl => exact .ret _
    case ro key sh d =>
      refine .get _ fun b => ?_
      match b with
      | some .world => simp only; cases shEq sh (.ints k) <;> first | exact .fail | exact .ret _
      | some (.segs ro l) => exact .fail
      | some .gone => exact .fail
      | some (.pool _ _) => exact .fail
      | some (.alias _ _) => exact .fail
      | none => exact .fail
    case sl key c est off len =>
      simp only
      cases memN key ban with
      | true => exact .fail
      | false =>
        refine Uni.bind (F := fun f => withCon (.sl key c est off len) fun p q => f (p, q)) (uni_withCon _) (G := fun a f => match a.2 with | .ints k' l => (match keq k' k with | true => f (a.1, RO.l l) | false => .fail) | _ => .fail) fun a => ?_
        obtain ⟨p, q⟩ := a
        cases q with
        | arrs => exact .fail
        | ints k' l => simp only; cases keq k' k <;> first | exact .fail | exact .ret _
    case ps key r len =>
      refine Uni.bind (F := fun f => withCon (.ps key r len) fun p q => f (p, q)) (uni_withCon _) (G := fun a f => match a.2 with | .ints k' l => (match keq k' k with | true => f (a.1, RO.l l) | false => .fail) | _ => .fail) fun a => ?_
      obtain ⟨p, q⟩ := a
      cases q with
      | arrs => exact .fail
      | ints k' l => simp only; cases keq k' k <;> first | exact .fail | exact .ret _
  | .l e, x => by
    simp only [viewRO]
    cases x <;> try exact .fail
    case nsl => exact .ret _
    case ro key sh d =>
      refine .get _ fun b => ?_
      match b with
      | some .world => simp only; cases shEq sh (.l e) <;> first | exact .fail | exact .ret _
      | some (.segs ro l) => exact .fail
      | some .gone => exact .fail
      | some (.pool _ _) => exact .fail
      | some (.alias _ _) => exact .fail
      | none => exact .fail
    case sl key c est off len =>
      split
      · rename_i h; cases h
      · rename_i h; cases h
      · rename_i key' n h
        cases memN key' ban with
        | true => exact .fail
        | false =>
          refine .get _ fun b => ?_
          match b with
          | some .world => exact .fail
          | some .gone => exact .fail
          | some (.pool _ _) => exact .fail
          | some (.alias _ _) => exact .fail
          | none => exact .fail
          | some (.segs ro l) =>
            simp only
            cases onesOf l with
            | none => exact .fail
            | some xs =>
              simp only
              cases (Nat.beq xs.length n && Nat.blt 0 n) with
              | false => exact .fail
              | true => exact Uni.bind (F := fun f => eachRO (viewRO ban e) xs fun p d => f (p, d)) (uni_each (fun x => uni_view ban e x) xs) (G := fun a f => f (a.1, RO.r a.2)) fun a => .ret _
      · rename_i key' off' len' _ h
        cases memN key' ban with
        | true => exact .fail
        | false =>
          refine .get _ fun b => ?_
          match b with
          | some .world => exact .fail
          | some .gone => exact .fail
          | some (.pool _ _) => exact .fail
          | some (.alias _ _) => exact .fail
          | none => exact .fail
          | some (.segs ro l) =>
            match l with
            | [.rowH pk hs] => cases e <;> first | exact .fail | exact uni_hdr _ _ _ _ _
            | [] => exact .fail
            | [.one _] => exact .fail
            | [.arr ..] => exact .fail
            | [.rowI ..] => exact .fail
            | [.rowA ..] => exact .fail
            | a :: b :: c => cases a <;> exact .fail
      · exact .fail
  | .i _, x => by simp only [viewRO]; exact .fail
  | .tb, x => by simp only [viewRO]; exact .fail
  | .ts, x => by simp only [viewRO]; exact .fail
  | .arr _ _, x => by simp only [viewRO]; exact .fail
  | .r fs, x => by
    simp only [viewRO]
    cases x <;> try exact .fail
    case agg xs => exact Uni.bind (F := fun f => viewROs ban fs xs fun p d => f (p, d)) (uni_views ban fs xs) (G := fun a f => f (a.1, RO.r a.2)) fun a => .ret _
theorem uni_views (ban : List Nat) : ∀ (fs : List Sh) (xs : List SV), Uni (α := List Prop × List RO) fun f => viewROs ban fs xs fun p d => f (p, d)
  | [], [] => .ret ([], [])
  | [], _ :: _ => .fail
  | _ :: _, [] => .fail
  | s :: fs, x :: xs => by
    simp only [viewROs]
    exact Uni.bind (F := fun f => viewRO ban s x fun p d => f (p, d)) (uni_view ban s x) (G := fun a f => viewROs ban fs xs fun p' ds => f (a.1 ++ p', a.2 :: ds)) fun a =>
      Uni.bind (F := fun f => viewROs ban fs xs fun p d => f (p, d)) (uni_views ban fs xs) (G := fun b f => f (a.1 ++ b.1, a.2 :: b.2)) fun b => .ret _
end

theorem uni_getA (ban : List Nat) : ∀ (ms : List Md) (xs : List SV), Uni (α := List Prop × List AV) fun f => getA ban ms xs fun p a => f (p, a)
  | [], [] => .ret ([], [])
  | [], _ :: _ => .fail
  | .v :: _, [] => .fail
  | .d _ :: _, [] => .fail
  | .m :: _, [] => .fail
  | .o :: _, [] => .fail
  | .v :: ms, x :: xs => by
    simp only [getA]
    exact Uni.bind (F := fun f => getA ban ms xs fun p a => f (p, a)) (uni_getA ban ms xs) (G := fun b f => f (b.1, .v x :: b.2)) fun b => .ret _
  | .d sh :: ms, x :: xs => by
    simp only [getA]
    exact Uni.bind (F := fun f => viewRO ban sh x fun p d => f (p, d)) (uni_view ban sh x) (G := fun a f => getA ban ms xs fun p' b => f (a.1 ++ p', .d sh a.2 :: b)) fun a =>
      Uni.bind (F := fun f => getA ban ms xs fun p a => f (p, a)) (uni_getA ban ms xs) (G := fun b f => f (a.1 ++ b.1, .d sh a.2 :: b.2)) fun b => .ret _
  | .m :: ms, x :: xs => by
    simp only [getA]
    cases x <;> try exact .fail
    case np => exact Uni.bind (F := fun f => getA ban ms xs fun p a => f (p, a)) (uni_getA ban ms xs) (G := fun b f => f (b.1, .v .np :: b.2)) fun b => .ret _
    case p key c =>
      cases c with
      | succ c => exact .fail
      | zero =>
        refine .get _ fun b => ?_
        match b with
        | some .world => exact .fail
        | some .gone => exact .fail
        | some (.pool _ _) => exact .fail
        | some (.alias _ _) => exact .fail
        | none => exact .fail
        | some (.segs true l) => exact .fail
        | some (.segs false l) => exact Uni.bind (F := fun f => getA ban ms xs fun p a => f (p, a)) (uni_getA ban ms xs) (G := fun b f => f (b.1, .m l :: b.2)) fun b => .ret _
  | .o :: ms, x :: xs => by
    simp only [getA]
    cases x <;> try exact .fail
    case nsl => exact Uni.bind (F := fun f => getA ban ms xs fun p a => f (p, a)) (uni_getA ban ms xs) (G := fun b f => f (b.1, .v .nsl :: b.2)) fun b => .ret _
    case sl key c est off len =>
      show Uni fun f => (match (SV.sl key c est off len) with
        | .sl key 0 est ⟨true, .ofNat 0⟩ len => _
        | .nsl => _
        | _ => _)
      split
      · rename_i key' est' len' h
        refine .get _ fun b => ?_
        match b with
        | some .world => exact .fail
        | some .gone => exact .fail
        | some (.pool _ _) => exact .fail
        | some (.alias _ _) => exact .fail
        | none => exact .fail
        | some (.segs true l) => exact .fail
        | some (.segs false []) => exact .fail
        | some (.segs false (_ :: _ :: _)) => exact .fail
        | some (.segs false [g]) =>
          simp only
          cases rowCon g with
          | none => exact .fail
          | some q =>
            simp only
            cases Nat.beq est' (conSize q) with
            | false => exact .fail
            | true => exact Uni.bind (F := fun f => getA ban ms xs fun p a => f (p, a)) (uni_getA ban ms xs) (G := fun b f => f ((len'.z = ((conLen q : Nat) : Int)) :: b.1, .o q :: b.2)) fun b => .ret _
      · rename_i h; cases h
      · exact .fail

section
variable {P : Program}

/-- A contract's answers, told by other contracts of the same function. -/
theorem gen_weaken {gh : Heap} {f : FuncId} {ms : List Md} {spec : List AV → Option (List Prop × List RV × List (Option (List Seg)))}
    (h : ∀ av p rvs fin, spec av = some (p, rvs, fin) → AllP p → ∃ spec' p', CallOk P gh f (genCtr ms spec') ∧ spec' av = some (p', rvs, fin) ∧ AllP p') : CallOk P gh f (genCtr ms spec) := by
  intro stamp args H rs rs' d vs w0 M ρ w hG hc hp hD hm
  obtain ⟨g, hg⟩ := uni_getA (ownKeys ms args) ms args
  have run : ∀ spec : List AV → Option (List Prop × List RV × List (Option (List Seg))), genCtr ms spec stamp args = (match nodupN (ownKeys ms args) with
      | true => g.bind (fun x => match spec x.2 with
        | some (p', rvs, fin) => (match finW (ownKeys ms args) fin, oneFr rvs && Nat.ble fin.length 100 with
          | some ws, true => (match frOf rvs with
            | none => .ret ⟨x.1 ++ p', resOf stamp rvs, ws, true⟩
            | some l => .get stamp fun b => (match b with
              | none => .ret ⟨x.1 ++ p', resOf stamp rvs, (stamp, .segs false l) :: ws, true⟩
              | some _ => .fail))
          | _, _ => .fail)
        | none => .fail)
      | false => .fail) := fun spec => by
    unfold genCtr
    simp only
    cases nodupN (ownKeys ms args) with
    | false => rfl
    | true => exact hg fun x => match spec x.2 with
        | some (p', rvs, fin) => (match finW (ownKeys ms args) fin, oneFr rvs && Nat.ble fin.length 100 with
          | some ws, true => (match frOf rvs with
            | none => .ret ⟨x.1 ++ p', resOf stamp rvs, ws, true⟩
            | some l => .get stamp fun b => (match b with
              | none => .ret ⟨x.1 ++ p', resOf stamp rvs, (stamp, .segs false l) :: ws, true⟩
              | some _ => .fail))
          | _, _ => .fail)
        | none => .fail
  rw [run] at hc
  cases hn : nodupN (ownKeys ms args) with
  | false => rw [hn] at hc; simp [RP.run] at hc
  | true =>
    rw [hn] at hc
    simp only [RP.run_bind] at hc
    cases hr : g.run H rs with
    | none => rw [hr] at hc; cases hc
    | some pa =>
      obtain ⟨⟨p, av⟩, rs1⟩ := pa
      rw [hr] at hc
      simp only at hc
      cases hs : spec av with
      | none => rw [hs] at hc; simp [RP.run] at hc
      | some t =>
        obtain ⟨p', rvs, fin⟩ := t
        rw [hs] at hc
        simp only at hc
        have hpp : AllP p' := by
          split at hc
          · split at hc
            · have e := run_ret hc; subst e; exact (AllP.append (l := p) (r := p') hp).2
            · simp only [RP.run] at hc
              split at hc
              · have e := run_ret hc; subst e; exact (AllP.append (l := p) (r := p') hp).2
              · simp [RP.run] at hc
          · simp [RP.run] at hc
        obtain ⟨spec', p'', hok, hs', hp''⟩ := h av p' rvs fin hs hpp
        have happ : ∀ a b : List Prop, AllP a → AllP b → AllP (a ++ b) := by
          intro a b ha hb
          induction a with
          | nil => exact hb
          | cons x r ih => exact ⟨ha.1, ih ha.2⟩
        have hrun : (genCtr ms spec' stamp args).run H rs = some (⟨p ++ p'', d.v, d.ws, d.gen⟩, rs') ∧ AllP p := by
          rw [run, hn]
          simp only [RP.run_bind, hr, hs']
          split at hc
          · rename_i ws e1 e2
            split at hc
            · rename_i e3
              have e := run_ret hc
              simp only [RP.run, Option.some.injEq, Prod.mk.injEq] at hc
              subst e
              exact ⟨by simp only [RP.run, hc.2], (AllP.append (l := p) (r := p') hp).1⟩
            · rename_i l e3
              simp only [RP.run] at hc ⊢
              split at hc
              · rename_i e4
                have e := run_ret hc
                simp only [RP.run, Option.some.injEq, Prod.mk.injEq] at hc
                subst e
                exact ⟨by simp only [RP.run, hc.2], (AllP.append (l := p) (r := p') hp).1⟩
              · simp [RP.run] at hc
          · simp [RP.run] at hc
        have hfin := hok stamp args H rs rs' ⟨p ++ p'', d.v, d.ws, d.gen⟩ vs w0 M ρ w hG hrun.1 (happ _ _ hrun.2 hp'') hD hm
        exact hfin

end
end Go.Gx

/- Contracts whose answers are lists of rows that the call has made: a pool, and rows of headers. -/
namespace Go.Gx
open Go.RowKit
set_option linter.unusedVariables false

def noPl : Pl := { blk := 0, off := 0, cap := 0 }

/-- What a call has made or turned, under the caller's keys. -/
theorem Mem.import {w0 : World} {M : Nat → Prop} {ρ ρ' ρn : Nat → Pl} {H H' Hn : Nat → Option SB} {w w' : World} {M' : Nat → Prop} (hm : Mem w0 M ρ H w) (hr : Mem w M' ρ' H' w') {im : Nat → Option (Option Nat)}
    (hN : ∀ k, im k = none → Hn k = H k ∧ (dmOf H k → ρn k = ρ k))
    (hT : ∀ k c, im k = some (some c) → ρn k = ρ' c ∧ (Hn k = some .gone ∨ (∃ kd ms, Hn k = some (.pool kd ms) ∧ H' c = some (.pool kd ms)) ∨ ∃ l l0, Hn k = some (.segs false l) ∧ H' c = some (.segs false l0) ∧ ∀ cs, SegsD (dmOf H') ρ' l0 cs → SegsD (dmOf Hn) ρn l cs))
    (hV : ∀ k, im k = some none → ρn k = noPl ∧ (Hn k = some .gone ∨ (∃ kd, Hn k = some (.pool kd [])) ∨ ∃ l, Hn k = some (.segs false l) ∧ SegsD (dmOf Hn) ρn l []))
    (hinj : ∀ k k' c, im k = some (some c) → im k' = some (some c) → k = k')
    (hle : ∀ k, dmOf H k → dmOf Hn k ∧ PlLe (ρ k) (ρn k)) (hM : ∀ b, M' b → w0.heap.size ≤ b ∨ M b)
    (hs : ∀ k ro l, im k = none → H k = some (.segs ro l) → 0 < (ρ k).cap → ¬ M' (ρ k).blk)
    (hp : ∀ k kd ms i, im k = none → H k = some (.pool kd ms) → i < ms.length → 0 < (ρ k).pc i → ¬ M' ((ρ k).pb i)) : Mem w0 M ρn Hn w' := by
  have seg : ∀ k ro l, Hn k = some (.segs ro l) → 0 < (ρn k).cap → (im k = none ∧ H k = some (.segs ro l) ∧ ρn k = ρ k ∧ (ρn k).blk < w.heap.size ∧ ¬ M' (ρn k).blk) ∨ (∃ c l0, im k = some (some c) ∧ ro = false ∧ H' c = some (.segs false l0) ∧ ρn k = ρ' c ∧ (w.heap.size ≤ (ρn k).blk ∨ M' (ρn k).blk)) := fun k ro l h c0 => by
    cases e : im k with
    | none =>
      obtain ⟨a, b⟩ := hN k e
      rw [a] at h
      have b := b (dm_of h)
      rw [b] at c0 ⊢
      exact .inl ⟨rfl, h, rfl, hm.heap.lt k ro l h c0, hs k ro l e h c0⟩
    | some o =>
      cases o with
      | none => rw [(hV k e).1] at c0; exact absurd c0 (by simp [noPl])
      | some c =>
        obtain ⟨a, b | ⟨kd, ms, b, _⟩ | ⟨l1, l0, b, b2, _⟩⟩ := hT k c e
        · rw [b] at h; cases h
        · rw [b] at h; cases h
        · rw [b] at h
          simp only [Option.some.injEq, SB.segs.injEq] at h
          rw [a] at c0 ⊢
          exact .inr ⟨c, l0, rfl, h.1.symm, b2, rfl, hr.own c l0 b2 c0⟩
  have pool : ∀ k kd ms, Hn k = some (.pool kd ms) → (im k = none ∧ H k = some (.pool kd ms) ∧ ρn k = ρ k) ∨ (∃ c, im k = some (some c) ∧ H' c = some (.pool kd ms) ∧ ρn k = ρ' c) ∨ (ms = [] ∧ ρn k = noPl) := fun k kd ms h => by
    cases e : im k with
    | none =>
      obtain ⟨a, b⟩ := hN k e
      rw [a] at h
      exact .inl ⟨rfl, h, b (dm_of h)⟩
    | some o =>
      cases o with
      | none =>
        obtain ⟨a, b | ⟨kd', b⟩ | ⟨l, b, _⟩⟩ := hV k e
        · rw [b] at h; cases h
        · rw [b] at h
          simp only [Option.some.injEq, SB.pool.injEq] at h
          exact .inr (.inr ⟨h.2.symm, a⟩)
        · rw [b] at h; cases h
      | some c =>
        obtain ⟨a, b | ⟨kd', ms', b, b2⟩ | ⟨l1, l0, b, _⟩⟩ := hT k c e
        · rw [b] at h; cases h
        · rw [b] at h
          simp only [Option.some.injEq, SB.pool.injEq] at h
          rw [h.1, h.2] at b2
          exact .inr (.inl ⟨c, rfl, b2, a⟩)
        · rw [b] at h; cases h
  have row : ∀ k kd ms i, Hn k = some (.pool kd ms) → i < ms.length → 0 < (ρn k).pc i → (im k = none ∧ H k = some (.pool kd ms) ∧ ρn k = ρ k ∧ (ρn k).pb i < w.heap.size ∧ ¬ M' ((ρn k).pb i)) ∨ (∃ c, im k = some (some c) ∧ H' c = some (.pool kd ms) ∧ ρn k = ρ' c ∧ (w.heap.size ≤ (ρn k).pb i ∨ M' ((ρn k).pb i))) := fun k kd ms i h hi c0 => by
    rcases pool k kd ms h with ⟨a, b, c⟩ | ⟨c, a, b, d⟩ | ⟨rfl, _⟩
    · rw [c] at c0 ⊢
      exact .inl ⟨a, b, rfl, (hm.pools.pool k kd ms b).lt i hi c0, hp k kd ms i a b hi c0⟩
    · rw [d] at c0 ⊢
      exact .inr ⟨c, a, b, rfl, (hr.pools.pool c kd ms b).own i hi c0⟩
    · exact absurd hi (by simp)
  refine ⟨⟨fun k b hb => ?_, fun k k' ro ro' l l' h1 h2 hkk hro c1 c2 => ?_, fun k ro l h1 c1 => ?_⟩, ⟨hr.frame.os.trans hm.frame.os, hr.frame.tape.trans hm.frame.tape, hr.frame.output.trans hm.frame.output, Nat.le_trans hm.frame.size hr.frame.size, fun k hk1 hk2 => ?_⟩, fun k l h1 c1 => ?_, fun k h1 => ?_, fun k l h1 c1 => ?_, ⟨fun k kd ms hk => ?_, fun k kd ms k' ro l i h1 h2 c1 hi c2 => ?_, fun k kd ms k' kd' ms' i j h1 h2 hkk hi hj c1 c2 => ?_⟩⟩
  · cases e : im k with
    | none =>
      obtain ⟨a, e2⟩ := hN k e
      rw [a] at hb
      exact (hm.heap.blk k b hb).of_block (fun a ha => (hle a ha).1) (fun a ha => (hle a ha).2) (e2 (dm_of hb)) fun ro l e3 c => by
        subst e3
        exact hr.frame.block _ (hm.heap.lt k ro l hb c) (hs k ro l e hb c)
    | some o =>
      cases o with
      | none =>
        obtain ⟨a, d | ⟨kd', d⟩ | ⟨l, d, d2⟩⟩ := hV k e
        · rw [d] at hb; simp only [Option.some.injEq] at hb; subst hb; trivial
        · rw [d] at hb; simp only [Option.some.injEq] at hb; subst hb; trivial
        · rw [d] at hb; simp only [Option.some.injEq] at hb; subst hb
          exact ⟨[], d2, by simp, rangeAt_nil _ _ _, fun _ => by rw [a]; exact there_zero _ _ _⟩
      | some c =>
        obtain ⟨a, d | ⟨kd', ms', d, _⟩ | ⟨l1, l0, d, d2, d3⟩⟩ := hT k c e
        · rw [d] at hb; simp only [Option.some.injEq] at hb; subst hb; trivial
        · rw [d] at hb; simp only [Option.some.injEq] at hb; subst hb; trivial
        · rw [d] at hb; simp only [Option.some.injEq] at hb; subst hb
          obtain ⟨vs, s1, s2, s3, s4⟩ := hr.heap.blk c _ d2
          exact ⟨vs, d3 vs s1, by rw [a]; exact s2, by rw [a]; exact s3, fun h => by rw [a]; exact s4 h⟩
  · rcases seg k ro l h1 c1 with ⟨a1, a2, a3, a4, a5⟩ | ⟨c, l0, a1, rfl, a2, a3, a4⟩
    · rcases seg k' ro' l' h2 c2 with ⟨b1, b2, b3, b4, b5⟩ | ⟨c', l0', b1, rfl, b2, b3, b4⟩
      · rw [a3] at c1 ⊢; rw [b3] at c2 ⊢
        exact hm.heap.sep k k' ro ro' l l' a2 b2 hkk hro c1 c2
      · intro e
        rcases b4 with b4 | b4
        · omega
        · rw [e] at a5; exact a5 b4
    · rcases seg k' ro' l' h2 c2 with ⟨b1, b2, b3, b4, b5⟩ | ⟨c', l0', b1, rfl, b2, b3, b4⟩
      · intro e
        rcases a4 with a4 | a4
        · omega
        · rw [← e] at b5; exact b5 a4
      · rw [a3] at c1 ⊢; rw [b3] at c2 ⊢
        exact hr.heap.sep c c' false false l0 l0' a2 b2 (fun e => by subst e; exact hkk (hinj k k' c a1 b1)) (.inl rfl) c1 c2
  · rcases seg k ro l h1 c1 with ⟨a1, a2, a3, a4, a5⟩ | ⟨c, l0, a1, rfl, a2, a3, a4⟩
    · exact Nat.lt_of_lt_of_le a4 hr.frame.size
    · rw [a3] at c1 ⊢; exact hr.heap.lt c false l0 a2 c1
  · have hn : ¬ M' k := fun h => by
      rcases hM k h with h | h
      · omega
      · exact hk2 h
    rw [hr.frame.block k (Nat.lt_of_lt_of_le hk1 hm.frame.size) hn]
    exact hm.frame.block k hk1 hk2
  · rcases seg k false l h1 c1 with ⟨a1, a2, a3, a4, a5⟩ | ⟨c, l0, a1, _, a2, a3, a4⟩
    · rw [a3] at c1 ⊢; exact hm.own k l a2 c1
    · rcases a4 with a4 | a4
      · exact .inl (Nat.le_trans hm.frame.size a4)
      · exact hM _ a4
  · cases e : im k with
    | none =>
      obtain ⟨a, b⟩ := hN k e
      rw [a] at h1
      rw [b (dm_of h1)]
      exact hm.view k h1
    | some o =>
      cases o with
      | none =>
        obtain ⟨_, d | ⟨kd', d⟩ | ⟨l, d, d2⟩⟩ := hV k e <;> rw [d] at h1 <;> cases h1
      | some c =>
        obtain ⟨_, d | ⟨kd', ms', d, _⟩ | ⟨l1, l0, d, d2, d3⟩⟩ := hT k c e <;> rw [d] at h1 <;> cases h1
  · rcases seg k false l h1 c1 with ⟨a1, a2, a3, a4, a5⟩ | ⟨c, l0, a1, _, a2, a3, a4⟩
    · rw [a3] at c1 a4 a5 ⊢
      exact (hm.clean k l a2 c1).of_block (hr.frame.block _ a4 a5)
    · rw [a3] at c1 ⊢; exact hr.clean c l0 a2 c1
  · rcases pool k kd ms hk with ⟨a, b, c⟩ | ⟨c, a, b, d⟩ | ⟨rfl, d⟩
    · refine (hm.pools.pool k kd ms b).step c hr.frame.size (fun _ _ _ h => h) fun i hi h0 => hr.frame.block _ ((hm.pools.pool k kd ms b).lt i hi h0) (hp k kd ms i a b hi h0)
    · rw [d]
      have hq := hr.pools.pool c kd ms b
      exact ⟨hq.cnt, hq.row, hq.lt, fun i hi h0 => by
        rcases hq.own i hi h0 with h | h
        · exact .inl (Nat.le_trans hm.frame.size h)
        · exact hM _ h, hq.clean, hq.sep⟩
    · rw [d]
      exact ⟨rfl, fun i m hi => by simp at hi, fun i hi => absurd hi (by simp), fun i hi => absurd hi (by simp), fun i hi => absurd hi (by simp), fun i j hi => absurd hi (by simp)⟩
  · rcases seg k' ro l h2 c1 with ⟨a1, a2, a3, a4, a5⟩ | ⟨c, l0, a1, rfl, a2, a3, a4⟩
    · rcases row k kd ms i h1 hi c2 with ⟨b1, b2, b3, b4, b5⟩ | ⟨c', b1, b2, b3, b4⟩
      · rw [a3] at c1 ⊢; rw [b3] at c2 ⊢
        exact hm.pools.apart k kd ms k' ro l i b2 a2 c1 hi c2
      · intro e
        rcases b4 with b4 | b4
        · omega
        · rw [e] at a5; exact a5 b4
    · rcases row k kd ms i h1 hi c2 with ⟨b1, b2, b3, b4, b5⟩ | ⟨c', b1, b2, b3, b4⟩
      · intro e
        rcases a4 with a4 | a4
        · omega
        · rw [← e] at b5; exact b5 a4
      · rw [a3] at c1 ⊢; rw [b3] at c2 ⊢
        exact hr.pools.apart c' kd ms c false l0 i b2 a2 c1 hi c2
  · rcases row k kd ms i h1 hi c1 with ⟨a1, a2, a3, a4, a5⟩ | ⟨c, a1, a2, a3, a4⟩
    · rcases row k' kd' ms' j h2 hj c2 with ⟨b1, b2, b3, b4, b5⟩ | ⟨c', b1, b2, b3, b4⟩
      · rw [a3] at c1 ⊢; rw [b3] at c2 ⊢
        exact hm.pools.two k kd ms k' kd' ms' i j a2 b2 hkk hi hj c1 c2
      · intro e
        rcases b4 with b4 | b4
        · omega
        · rw [e] at a5; exact a5 b4
    · rcases row k' kd' ms' j h2 hj c2 with ⟨b1, b2, b3, b4, b5⟩ | ⟨c', b1, b2, b3, b4⟩
      · intro e
        rcases a4 with a4 | a4
        · omega
        · rw [← e] at b5; exact b5 a4
      · rw [a3] at c1 ⊢; rw [b3] at c2 ⊢
        exact hr.pools.two c kd ms c' kd' ms' i j a2 b2 (fun e => by subst e; exact hkk (hinj k k' c a1 b1)) hi hj c1 c2

/-! ### The callee's side -/

abbrev Hdrs := List (Nat × Nat)

/-- A row of headers: where it and its pool lie, what it holds; nil is none. -/
def canH (h : Heap) (x : SV) (K : Option (Nat × Nat) → Hdrs → Prop) : Prop :=
  match x with
  | .nsl => K none []
  | .sl key 0 1 ⟨true, .ofNat 0⟩ len => (match Nat.ble 1000 key, assoc h key with
    | true, some (.segs false [.rowH pk hs]) => Need (len.z = (hs.length : Int)) ∧ K (some (key, pk)) hs
    | _, _ => False)
  | _ => False

/-- The pool. -/
def canP (k : IntKind) (h : Heap) (pk : Nat) (K : List (List Int) → Prop) : Prop :=
  match Nat.ble 1000 pk, assoc h pk with
  | true, some (.pool k' ms) => (match keq k' k with | true => K ms | false => False)
  | _, _ => False

/-- One row of headers. -/
def kvH1 (k : IntKind) (x : SV) (h : Heap) (K : Hdrs → List (List Int) → Prop) : Prop :=
  canH h x fun a hs => match a with
    | none => K hs []
    | some (_, pk) => canP k h pk fun ms => K hs ms

/-- Two rows of headers over one pool. -/
def kvH2 (k : IntKind) (x : SV) (h : Heap) (K : Hdrs → Hdrs → List (List Int) → Prop) : Prop :=
  match x with
  | .agg [y, z] => canH h y fun a hs => canH h z fun b gs => match a, b with
    | none, none => K hs gs []
    | some (_, pk), none => canP k h pk fun ms => K hs gs ms
    | none, some (_, pk) => canP k h pk fun ms => K hs gs ms
    | some (a, pk), some (b, pk') => (match Nat.beq pk pk', Nat.beq a b with
      | true, false => canP k h pk fun ms => K hs gs ms
      | _, _ => False)
  | _ => False

section
variable {P : Program} {Γ : Tab} {w0 : World} {M : Nat → Prop} {ρ : Nat → Pl} {w : World}

/-- Where a row of headers lies that a call has answered. -/
def HdrAt (H : Nat → Option SB) (ρ : Nat → Pl) (a : Option (Nat × Nat)) (hs : Hdrs) (v : Value) : Prop :=
  match a with
  | none => hs = [] ∧ v = .slice none 0 0
  | some (key, pk) => 1000 ≤ key ∧ H key = some (.segs false [.rowH pk hs]) ∧ D (dmOf H) ρ (.sl key 0 1 ⟨true, 0⟩ ⟨false, (hs.length : Int)⟩) v

theorem canH_sound {h : Heap} {x : SV} {v : Value} (hx : D (dmOf (assoc h)) ρ x v) {K : Option (Nat × Nat) → Hdrs → Prop} (hk : canH h x K) : ∃ a hs, K a hs ∧ HdrAt (assoc h) ρ a hs v := by
  unfold canH at hk
  split at hk
  · exact ⟨none, [], hk, rfl, hx⟩
  · rename_i key len
    split at hk
    · rename_i pk hs h1 h2
      obtain ⟨e, hk⟩ := hk
      refine ⟨_, hs, hk, Nat.le_of_ble_eq_true h1, h2, ?_⟩
      have e : len.z = (hs.length : Int) := e
      simp only [D] at hx ⊢
      rw [e] at hx
      exact hx
    · exact hk.elim
  · exact hk.elim

theorem canP_sound {k : IntKind} {h : Heap} {pk : Nat} {K : List (List Int) → Prop} (hk : canP k h pk K) : ∃ ms, K ms ∧ 1000 ≤ pk ∧ assoc h pk = some (.pool k ms) := by
  unfold canP at hk
  split at hk
  · rename_i k' ms h1 h2
    split at hk
    · rename_i e
      have e := keq_eq e
      subst e
      exact ⟨ms, hk, Nat.le_of_ble_eq_true h1, h2⟩
    · exact hk.elim
  · exact hk.elim

/-- The pool of two rows of headers. -/
def poolOf : Option (Nat × Nat) → Option (Nat × Nat) → Option Nat
  | some (_, pk), _ => some pk
  | none, some (_, pk) => some pk
  | none, none => none

def PoolAt (k : IntKind) (H : Nat → Option SB) (p : Option Nat) (ms : List (List Int)) : Prop :=
  match p with
  | none => ms = []
  | some pk => 1000 ≤ pk ∧ H pk = some (.pool k ms)

theorem kvH1_sound {k : IntKind} {h : Heap} {x : SV} {v : Value} (hx : D (dmOf (assoc h)) ρ x v) {K : Hdrs → List (List Int) → Prop} (hk : kvH1 k x h K) :
    ∃ a hs ms, K hs ms ∧ HdrAt (assoc h) ρ a hs v ∧ PoolAt k (assoc h) (poolOf a none) ms := by
  unfold kvH1 at hk
  obtain ⟨a, hs, hk, h1⟩ := canH_sound hx hk
  cases a with
  | none => exact ⟨none, hs, [], hk, h1, rfl⟩
  | some q =>
    obtain ⟨key, pk⟩ := q
    obtain ⟨ms, q1, q2, q3⟩ := canP_sound hk
    exact ⟨_, hs, ms, q1, h1, q2, q3⟩

theorem kvH2_sound {k : IntKind} {h : Heap} {x : SV} {v : Value} (hx : D (dmOf (assoc h)) ρ x v) {K : Hdrs → Hdrs → List (List Int) → Prop} (hk : kvH2 k x h K) :
    ∃ a b hs gs ms u1 u2, K hs gs ms ∧ v = .agg #[u1, u2] ∧ HdrAt (assoc h) ρ a hs u1 ∧ HdrAt (assoc h) ρ b gs u2 ∧ PoolAt k (assoc h) (poolOf a b) ms ∧ (∀ p q, a = some p → b = some q → p.2 = q.2 ∧ p.1 ≠ q.1) := by
  unfold kvH2 at hk
  split at hk
  · rename_i y z
    simp only [D, Cs] at hx
    obtain ⟨cs, ⟨u1, c1, d1, rfl, u2, c2, d2, rfl, rfl⟩, rfl⟩ := hx
    obtain ⟨a, hs, hk, h1⟩ := canH_sound d1 hk
    obtain ⟨b, gs, hk, h2⟩ := canH_sound d2 hk
    have one : ∀ {o : Option (Nat × Nat)} {hs : Hdrs} {u : Value}, HdrAt (assoc h) ρ o hs u → u.cells.toList = [u] := by
      intro o hs u ho
      cases o with
      | none => rw [ho.2]; rfl
      | some q => obtain ⟨_, _, ho⟩ := ho; rw [(single_cell rfl ho).2]
    have e : (u1.cells.toList ++ (u2.cells.toList ++ [])).toArray = #[u1, u2] := by rw [one h1, one h2]; first | rfl | simp
    rw [e]
    cases a with
    | none =>
      cases b with
      | none => exact ⟨none, none, hs, gs, [], u1, u2, hk, rfl, h1, h2, rfl, fun p q e => by cases e⟩
      | some q =>
        obtain ⟨ms, q1, q2, q3⟩ := canP_sound hk
        exact ⟨none, _, hs, gs, ms, u1, u2, q1, rfl, h1, h2, ⟨q2, q3⟩, fun p q e => by cases e⟩
    | some p =>
      obtain ⟨a, pk⟩ := p
      cases b with
      | none =>
        obtain ⟨ms, q1, q2, q3⟩ := canP_sound hk
        exact ⟨_, none, hs, gs, ms, u1, u2, q1, rfl, h1, h2, ⟨q2, q3⟩, fun p q _ e => by cases e⟩
      | some q =>
        obtain ⟨b, pk'⟩ := q
        simp only at hk
        split at hk
        · rename_i e1 e2
          obtain ⟨ms, q1, q2, q3⟩ := canP_sound hk
          refine ⟨_, _, hs, gs, ms, u1, u2, q1, rfl, h1, h2, ⟨q2, q3⟩, fun p q e e' => ?_⟩
          simp only [Option.some.injEq] at e e'
          subst e e'
          exact ⟨Nat.eq_of_beq_eq_true e1, fun e => by have e : a = b := e; subst e; rw [Nat.beq_refl] at e2; cases e2⟩
        · exact hk.elim
  · exact hk.elim

/-! ### The caller's side -/

def hdrSV (key : Nat) (hs : Hdrs) : SV := .sl key 0 1 ⟨true, .ofNat 0⟩ ⟨false, (hs.length : Int)⟩

/-- An answer of two rows of headers; 'kp', 'kq': the keys of the pool and of the second row. -/
def famCtrK (kp kq : Nat → Nat) (k : IntKind) (ms : List Md) (spec : List AV → Option (List Prop × Hdrs × Hdrs × List (List Int))) : Ctr := fun stamp args =>
  getA [] ms args fun p avs => (match spec avs with
    | some (p', hs, gs, rows) => .get stamp fun b => (match b with
      | none => .get (kp stamp) fun b => (match b with
        | none => .get (kq stamp) fun b => (match b with
          | none => .ret ⟨p ++ p', .agg [hdrSV stamp hs, hdrSV (kq stamp) gs], [(kp stamp, .pool k rows), (stamp, .segs false [.rowH (kp stamp) hs]), (kq stamp, .segs false [.rowH (kp stamp) gs])], true⟩
          | some _ => .fail)
        | some _ => .fail)
      | some _ => .fail)
    | none => .fail)
def famCtr (k : IntKind) (ms : List Md) (spec : List AV → Option (List Prop × Hdrs × Hdrs × List (List Int))) : Ctr := famCtrK (fun s => s + 500000) (fun s => s + 600000) k ms spec

def onlyRO : List Md → Bool
  | [] => true
  | .v :: r => onlyRO r
  | .d _ :: r => onlyRO r
  | _ :: _ => false

theorem onlyRO_keys : ∀ (ms : List Md) (xs : List SV), onlyRO ms = true → ownKeys ms xs = []
  | [], xs, _ => by cases xs <;> rfl
  | .v :: r, [], _ => rfl
  | .v :: r, x :: xs, h => by
    have : ownKeys (.v :: r) (x :: xs) = ownKeys r xs := by cases x <;> rfl
    rw [this]; exact onlyRO_keys r xs h
  | .d _ :: r, [], _ => rfl
  | .d sh :: r, x :: xs, h => by
    have : ownKeys (.d sh :: r) (x :: xs) = ownKeys r xs := by cases x <;> rfl
    rw [this]; exact onlyRO_keys r xs h
  | .m :: _, _, h => by simp [onlyRO] at h
  | .o :: _, _, h => by simp [onlyRO] at h

def keyOf : Option (Nat × Nat) → Option Nat
  | none => none
  | some (k, _) => some k

theorem HdrAt.segs {H' Hn : Nat → Option SB} {ρ' ρn : Nat → Pl} {pk pn key : Nat} {hs : Hdrs} (hd : dmOf Hn pn) (hρ : ρn pn = ρ' pk) : ∀ (cs : List Value), SegsD (dmOf H') ρ' [.rowH pk hs] cs → SegsD (dmOf Hn) ρn [.rowH pn hs] cs := by
  intro cs h
  obtain ⟨c1, c2, ⟨_, h1⟩, rfl, h2⟩ := h
  refine ⟨c1, c2, ⟨hd, ?_⟩, rfl, h2⟩
  have : ∀ (hs : Hdrs) (cs : List Value), HdrsD (dmOf H') ρ' pk hs cs → HdrsD (dmOf Hn) ρn pn hs cs := by
    intro hs
    induction hs with
    | nil => intro cs h; exact h
    | cons x t ih =>
      intro cs h
      obtain ⟨v, c, a1, a2, a3⟩ := h
      refine ⟨v, c, ?_, a2, ih c a3⟩
      simp only [D] at a1 ⊢
      rw [hρ]
      exact ⟨hd, a1.2⟩
  exact this hs c1 h1

/-- What a row of headers that has been handed over stands for. -/
theorem HdrAt.D {H' Hn : Nat → Option SB} {ρ' ρn : Nat → Pl} {a : Option (Nat × Nat)} {hs : Hdrs} {v : Value} (h : HdrAt H' ρ' a hs v) {key : Nat} (hd : dmOf Hn key) (hρ : ∀ k, keyOf a = some k → ρn key = ρ' k) : D (dmOf Hn) ρn (hdrSV key hs) v := by
  cases a with
  | none =>
    obtain ⟨rfl, rfl⟩ := h
    simp only [hdrSV, Gx.D]
    exact ⟨hd, by simp, by simp, by simp [InR], none, 0, by simp, Nat.le_refl _, .inr ⟨by simp, rfl⟩⟩
  | some q =>
    obtain ⟨k, pk⟩ := q
    obtain ⟨_, _, h⟩ := h
    simp only [hdrSV, Gx.D] at h ⊢
    rw [hρ k rfl]
    exact ⟨hd, h.2⟩

end
end Go.Gx

/- Contracts whose answers are lists of rows: the theorems. -/
namespace Go.Gx
open Go.RowKit
set_option linter.unusedVariables false

/-- A function up to its loops' heads; what is asked of the answer and the heap at the end. -/
def fnVcX (Γ : Tab) (fn : Func) (L : Loops) (args : List SV) (h : Heap) (KV : SV → Heap → Prop) (Q : Nat → List Pv → Prop) : Prop :=
  runFn Γ fn (loopKeysM L) args h KV (handM L Q)
def loopVcX (Γ : Tab) (fn : Func) (L : Loops) (key : Nat) (ps : List Pv) (KV : SV → Heap → Prop) (Q : Nat → List Pv → Prop) : Prop :=
  match assoc L key with
  | some t => runLoop Γ fn (loopKeysM L) (key % 1000) (instSt t ps) KV (handM L Q)
  | none => False

structure VcX (KV : SV → Heap → Prop) (Γ : Tab) (fn : Func) (L : Loops) (h : Heap) (args : List SV) (inv : Nat → List Pv → Nat → Prop) : Prop where
  low : ∀ k t, (k, t) ∈ L → ∀ g, g ∈ keysOf h → g < 1000 ∧ (assoc t.heap g).isSome = true
  loop : ∀ vk t ps m, (vk, t) ∈ L → inv vk ps m → runLoop Γ fn (loopKeysM L) (vk % 1000) (instSt t ps) KV (handM L fun key' ps' => ∃ m', m' < m ∧ inv key' ps' m')
  entry : fnVcX Γ fn L args h KV fun key' ps' => ∃ m', inv key' ps' m'

theorem vcX_noloops {KV : SV → Heap → Prop} {Γ : Tab} {fn : Func} {h : Heap} {args : List SV} (hv : fnVcX Γ fn [] args h KV fun _ _ => False) : VcX KV Γ fn [] h args fun _ _ _ => False :=
  ⟨fun k t ht => by simp at ht, fun vk t ps m ht => by simp at ht, by simpa using hv⟩

section
variable {P : Program} {Γ : Tab}

theorem vcX_calls {KV : SV → Heap → Prop} (hΓ : TabOk P Γ) {f : FuncId} {fn : Func} (hf : P.funcs[f]? = some fn) {L : Loops} {h : Heap} {args : List SV} {inv : Nat → List Pv → Nat → Prop} (hv : VcX KV Γ fn L h args inv) (hlen : args.length ≤ fn.ntmps)
    {w : World} {M : Nat → Prop} {ρg : Nat → Pl} {vs : List Value} (hgo : GlOk Γ w M ρg (assoc h)) (g1 : Mem w M ρg (assoc h) w) (ha : Ds (dmOf (assoc h)) ρg args vs) :
    Calls P f vs.toArray w fun e w' => ∃ x v h' ρ', e = .returned v ∧ KV x h' ∧ D (dmOf (assoc h')) ρ' x v ∧ Mem w M ρ' (assoc h') w' ∧ ∀ k, dmOf (assoc h) k → dmOf (assoc h') k ∧ PlLe (ρg k) (ρ' k) := by
  have hweak : ∀ vk t σ' ps, (vk, t) ∈ L → matchSt t σ' = some ps → Weak (assoc h) σ' (instSt t ps) := fun vk t σ' ps ht hm =>
    weak_of_match hm fun k hk => hv.low vk t ht k (keysOf_of_dm hk)
  refine (fn_calls hΓ hf hgo hlen ha g1 (fun m key σ => ∃ vk t ps, (vk, t) ∈ L ∧ vk % 1000 = key ∧ σ = instSt t ps ∧ inv vk ps m) (fun m => handM L fun key' ps' => ∃ m', m' < m ∧ inv key' ps' m') (fun m key σ hj => ?_) (fun m key σ' h => ?_)
    (handM L fun key' ps' => ∃ m', inv key' ps' m') (fun key σ' h => ?_) hv.entry).mono fun e w' he => ?_
  · obtain ⟨vk, t, ps, ht, rfl, rfl, hinv⟩ := hj
    exact hv.loop vk t ps m ht hinv
  · obtain ⟨vk, t, ps, ht, hk, hps, m', hlt, hinv⟩ := handM_of h
    exact ⟨m', hlt, _, hweak _ _ _ _ ht hps, vk, t, ps, ht, hk, rfl, hinv⟩
  · obtain ⟨vk, t, ps, ht, hk, hps, m', hinv⟩ := handM_of h
    exact ⟨m', _, hweak _ _ _ _ ht hps, vk, t, ps, ht, hk, rfl, hinv⟩
  · obtain ⟨x, v, h', ρ', rfl, k1, k2, k3, k4⟩ := he
    exact ⟨x, v, h', ρ', rfl, k1, k2, k3, k4⟩

theorem dm_iff {H : Nat → Option SB} {k : Nat} : dmOf H k ↔ ∃ b, H k = some b := by unfold dmOf; exact Option.isSome_iff_exists

/-- The contract of a function that answers two rows of headers over a pool of its own. -/
theorem call_famK {fp fq : Nat → Nat} (hk1' : ∀ s, fq s ≠ s) (hk2' : ∀ s, fp s ≠ s) (hk3' : ∀ s, fp s ≠ fq s) (hΓ : TabOk P Γ) (hgl : Γ.gl = keysOf Γ.gh) (hlow : ∀ g ∈ keysOf Γ.gh, g < 490) {f : FuncId} {fn : Func} (hf : P.funcs[f]? = some fn) (hn : (fn.name == "runtime.NumGoroutine") = false) (hb : fn.body.isNone = false) (k : IntKind)
    (ms : List Md) (hro : onlyRO ms = true) (spec : List AV → Option (List Prop × Hdrs × Hdrs × List (List Int)))
    (h : ∀ avs p hs gs rows, spec avs = some (p, hs, gs, rows) → AllP p → FactA avs → ∃ args' L inv, okA 600 avs args' [] ∧ args'.length ≤ fn.ntmps ∧ VcX (fun x h' => kvH2 k x h' fun hs' gs' rows' => hs' = hs ∧ gs' = gs ∧ rows' = rows) Γ fn L (Γ.gh ++ [(490, .world)]) args' inv) :
    CallOk P Γ.gh f (famCtrK fp fq k ms spec) := by
  intro stamp args H rs rs' d vs w0 M ρ w hG hc hp hD hm
  unfold famCtrK at hc
  have hks := onlyRO_keys ms args hro
  have hB : BanOk w0 M ρ H [] (fun _ => False) := ⟨fun _ _ _ _ _ _ h => h, fun _ _ _ h => h, fun _ _ _ _ _ _ _ h => h⟩
  obtain ⟨p, avs, rs1, hrun, hAs⟩ := getA_sound P hm hB ms args vs _ d rs rs' hD hc
  rw [hks] at hAs
  split at hrun
  · rename_i p' hs gs rows hsp
    simp only [RP.run] at hrun
    split at hrun
    · rename_i hk1
      simp only [RP.run] at hrun
      split at hrun
      · rename_i hk2
        simp only [RP.run] at hrun
        split at hrun
        · rename_i hk3
          have e := run_ret hrun
          have n1 := hk1' stamp
          have n2 := hk2' stamp
          have n3 := hk3' stamp
          generalize fq stamp = kq at *
          generalize fp stamp = kp at *
          subst e
          obtain ⟨hp1, hp2⟩ := AllP.append (l := p) (r := p') hp
          have hA := hAs hp1
          obtain ⟨args', L, inv, o1, o2, o3⟩ := h avs p' hs gs rows hsp hp2 (AsD.fact hm avs vs [] hA)
          obtain ⟨ρ1, m1, m2, m3, m4, m5⟩ := gen_mem (h6 := []) hG hgl hlow hm (ks := []) (fun k hk => by cases hk) List.nodup_nil (M' := fun _ => False) (fun b => ⟨fun h => h.elim, fun ⟨k, hk, _⟩ => by cases hk⟩) (fun k b hb => by cases hb) (fun i hi => absurd hi (by simp))
          have hargs := okA_args m3 m4 avs vs [] 600 args' [] hA o1 (fun i hi => absurd hi (by simp))
          refine .inr ⟨f, _, GoFn.run ⟨fn, hf, hn, hb⟩ _ _, (vcX_calls hΓ hf o3 o2 m2 m1 hargs).mono fun e w' he => ?_⟩
          obtain ⟨x, v, h', ρ', rfl, r1, r2, r3, r4⟩ := he
          obtain ⟨a, b, hs', gs', rows', u1, u2, ⟨rfl, rfl, rfl⟩, rfl, t1, t2, t3, t4⟩ := kvH2_sound r2 r1
          refine ⟨_, rfl, ?_⟩
          let ρn : Nat → Pl := fun j => if j = stamp then (match keyOf a with | some c => ρ' c | none => noPl) else if j = kq then (match keyOf b with | some c => ρ' c | none => noPl) else if j = kp then (match poolOf a b with | some c => ρ' c | none => noPl) else ρ j
          let im : Nat → Option (Option Nat) := fun j => if j = stamp then some (keyOf a) else if j = kq then some (keyOf b) else if j = kp then some (poolOf a b) else none
          let Hn := updsH H [(kp, .pool k rows'), (stamp, .segs false [.rowH kp hs']), (kq, .segs false [.rowH kp gs'])]
          have g1 : Hn stamp = some (.segs false [.rowH (kp) hs']) := by
            show updH (updH (updH H _ _) _ _) _ _ stamp = _
            rw [updH_ne (Ne.symm n1), updH_same]
          have g2 : Hn (kq) = some (.segs false [.rowH (kp) gs']) := by
            show updH (updH (updH H _ _) _ _) _ _ (kq) = _
            rw [updH_same]
          have g3 : Hn (kp) = some (.pool k rows') := by
            show updH (updH (updH H _ _) _ _) _ _ (kp) = _
            rw [updH_ne n3, updH_ne n2, updH_same]
          have g4 : ∀ j, j ≠ stamp → j ≠ kq → j ≠ kp → Hn j = H j := fun j h1 h2 h3 => by
            show updH (updH (updH H _ _) _ _) _ _ j = _
            rw [updH_ne h2, updH_ne h1, updH_ne h3]
          have q1 : ρn stamp = (match keyOf a with | some c => ρ' c | none => noPl) := by simp [ρn]
          have q2 : ρn (kq) = (match keyOf b with | some c => ρ' c | none => noPl) := by simp [ρn, n1]
          have q3 : ρn (kp) = (match poolOf a b with | some c => ρ' c | none => noPl) := by simp [ρn, n2, n3]
          have q4 : ∀ j, j ≠ stamp → j ≠ kq → j ≠ kp → ρn j = ρ j := fun j h1 h2 h3 => by simp [ρn, h1, h2, h3]
          have i1 : im stamp = some (keyOf a) := by simp [im]
          have i2 : im (kq) = some (keyOf b) := by simp [im, n1]
          have i3 : im (kp) = some (poolOf a b) := by simp [im, n2, n3]
          have i4 : ∀ j, j ≠ stamp → j ≠ kq → j ≠ kp → im j = none := fun j h1 h2 h3 => by simp [im, h1, h2, h3]
          have dp : dmOf Hn (kp) := dm_of g3
          have cases4 : ∀ j, j = stamp ∨ j = kq ∨ j = kp ∨ (j ≠ stamp ∧ j ≠ kq ∧ j ≠ kp) := fun j => by
            by_cases e1 : j = stamp
            · exact .inl e1
            · by_cases e2 : j = kq
              · exact .inr (.inl e2)
              · by_cases e3 : j = kp
                · exact .inr (.inr (.inl e3))
                · exact .inr (.inr (.inr ⟨e1, e2, e3⟩))
          have hpk : ∀ key pk, a = some (key, pk) ∨ b = some (key, pk) → ρn (kp) = ρ' pk := fun key pk hab => by
            rw [q3]
            rcases hab with rfl | rfl
            · rfl
            · cases a with
              | none => rfl
              | some p => simp only [poolOf]; rw [(t4 p _ rfl rfl).1]
          have hMem : Mem w0 M ρn Hn w' := by
            refine Mem.import hm r3 (im := im) (fun j hj => ?_) (fun j c hj => ?_) (fun j hj => ?_) (fun j j' c h1 h2 => ?_) (fun j hj => ?_) (fun b hb => hb.elim) (fun _ _ _ _ _ _ h => h) (fun _ _ _ _ _ _ _ _ h => h)
            · rcases cases4 j with rfl | rfl | rfl | ⟨e1, e2, e3⟩
              · rw [i1] at hj; cases hj
              · rw [i2] at hj; cases hj
              · rw [i3] at hj; cases hj
              · exact ⟨g4 j e1 e2 e3, fun _ => q4 j e1 e2 e3⟩
            · rcases cases4 j with rfl | rfl | rfl | ⟨e1, e2, e3⟩
              · rw [i1] at hj
                simp only [Option.some.injEq] at hj
                rw [q1, hj]
                refine ⟨rfl, .inr (.inr ?_)⟩
                cases a with
                | none => simp [keyOf] at hj
                | some p =>
                  obtain ⟨key, pk⟩ := p
                  simp only [keyOf, Option.some.injEq] at hj
                  subst hj
                  obtain ⟨_, z2, _⟩ := t1
                  exact ⟨_, _, g1, z2, HdrAt.segs (key := 0) dp (hpk key pk (.inl rfl))⟩
              · rw [i2] at hj
                simp only [Option.some.injEq] at hj
                rw [q2, hj]
                refine ⟨rfl, .inr (.inr ?_)⟩
                cases b with
                | none => simp [keyOf] at hj
                | some p =>
                  obtain ⟨key, pk⟩ := p
                  simp only [keyOf, Option.some.injEq] at hj
                  subst hj
                  obtain ⟨_, z2, _⟩ := t2
                  exact ⟨_, _, g2, z2, HdrAt.segs (key := 0) dp (hpk key pk (.inr rfl))⟩
              · rw [i3] at hj
                simp only [Option.some.injEq] at hj
                rw [q3, hj]
                refine ⟨rfl, .inr (.inl ?_)⟩
                rw [hj] at t3
                exact ⟨k, rows', g3, t3.2⟩
              · rw [i4 j e1 e2 e3] at hj; cases hj
            · rcases cases4 j with rfl | rfl | rfl | ⟨e1, e2, e3⟩
              · rw [i1] at hj
                simp only [Option.some.injEq] at hj
                rw [q1, hj]
                refine ⟨rfl, .inr (.inr ?_)⟩
                cases a with
                | none =>
                  obtain ⟨rfl, _⟩ := t1
                  exact ⟨_, g1, [], [], ⟨dp, rfl⟩, rfl, rfl⟩
                | some p => simp [keyOf] at hj
              · rw [i2] at hj
                simp only [Option.some.injEq] at hj
                rw [q2, hj]
                refine ⟨rfl, .inr (.inr ?_)⟩
                cases b with
                | none =>
                  obtain ⟨rfl, _⟩ := t2
                  exact ⟨_, g2, [], [], ⟨dp, rfl⟩, rfl, rfl⟩
                | some p => simp [keyOf] at hj
              · rw [i3] at hj
                simp only [Option.some.injEq] at hj
                rw [q3, hj]
                refine ⟨rfl, .inr (.inl ?_)⟩
                rw [hj] at t3
                have t3 : rows' = [] := t3
                subst t3
                exact ⟨k, g3⟩
              · rw [i4 j e1 e2 e3] at hj; cases hj
            · -- keys differ
              have inj : ∀ j c, im j = some (some c) → (j = stamp ∧ keyOf a = some c) ∨ (j = kq ∧ keyOf b = some c) ∨ (j = kp ∧ poolOf a b = some c) := fun j c hj => by
                rcases cases4 j with rfl | rfl | rfl | ⟨e1, e2, e3⟩
                · rw [i1] at hj; exact .inl ⟨rfl, Option.some.inj hj⟩
                · rw [i2] at hj; exact .inr (.inl ⟨rfl, Option.some.inj hj⟩)
                · rw [i3] at hj; exact .inr (.inr ⟨rfl, Option.some.inj hj⟩)
                · rw [i4 j e1 e2 e3] at hj; cases hj
              have ka : keyOf a = some c → ∃ l, assoc h' c = some (.segs false l) := fun e => by
                cases a with
                | none => cases e
                | some p => obtain ⟨key, pk⟩ := p; simp only [keyOf, Option.some.injEq] at e; subst e; exact ⟨_, t1.2.1⟩
              have kb : keyOf b = some c → ∃ l, assoc h' c = some (.segs false l) := fun e => by
                cases b with
                | none => cases e
                | some p => obtain ⟨key, pk⟩ := p; simp only [keyOf, Option.some.injEq] at e; subst e; exact ⟨_, t2.2.1⟩
              have kp : poolOf a b = some c → assoc h' c = some (.pool k rows') := fun e => by rw [e] at t3; exact t3.2
              have kab : keyOf a = some c → keyOf b = some c → False := fun e e' => by
                cases a with
                | none => cases e
                | some p =>
                  cases b with
                  | none => cases e'
                  | some q =>
                    obtain ⟨key, pk⟩ := p
                    obtain ⟨key', pk'⟩ := q
                    simp only [keyOf, Option.some.injEq] at e e'
                    exact (t4 _ _ rfl rfl).2 (e.trans e'.symm)
              rcases inj j c h1 with ⟨rfl, e⟩ | ⟨rfl, e⟩ | ⟨rfl, e⟩ <;> rcases inj j' c h2 with ⟨rfl, e'⟩ | ⟨rfl, e'⟩ | ⟨rfl, e'⟩
              · rfl
              · exact (kab e e').elim
              · obtain ⟨l, z⟩ := ka e; rw [kp e'] at z; cases z
              · exact (kab e' e).elim
              · rfl
              · obtain ⟨l, z⟩ := kb e; rw [kp e'] at z; cases z
              · obtain ⟨l, z⟩ := ka e'; rw [kp e] at z; cases z
              · obtain ⟨l, z⟩ := kb e'; rw [kp e] at z; cases z
              · rfl
            · have e1 : j ≠ stamp := fun e => by subst e; unfold dmOf at hj; rw [hk1] at hj; cases hj
              have e2 : j ≠ kq := fun e => by subst e; unfold dmOf at hj; rw [hk3] at hj; cases hj
              have e3 : j ≠ kp := fun e => by subst e; unfold dmOf at hj; rw [hk2] at hj; cases hj
              exact ⟨by unfold dmOf; rw [g4 j e1 e2 e3]; exact hj, .of_eq (q4 j e1 e2 e3)⟩
          refine ⟨ρn, fun j hj => ?_, ?_, hMem⟩
          · have e1 : j ≠ stamp := fun e => by subst e; unfold dmOf at hj; rw [hk1] at hj; cases hj
            have e2 : j ≠ kq := fun e => by subst e; unfold dmOf at hj; rw [hk3] at hj; cases hj
            have e3 : j ≠ kp := fun e => by subst e; unfold dmOf at hj; rw [hk2] at hj; cases hj
            exact .of_eq (q4 j e1 e2 e3)
          · have d1 : D (dmOf Hn) ρn (hdrSV stamp hs') u1 := t1.D (dm_of g1) fun c e => by rw [q1, e]
            have d2 : D (dmOf Hn) ρn (hdrSV (kq) gs') u2 := t2.D (dm_of g2) fun c e => by rw [q2, e]
            have c1 : u1.cells = #[u1] := (single_cell rfl d1).2
            have c2 : u2.cells = #[u2] := (single_cell rfl d2).2
            show D (dmOf Hn) ρn (.agg [hdrSV stamp hs', hdrSV (kq) gs']) _
            simp only [D, Cs]
            exact ⟨[u1, u2], ⟨u1, [u2], d1, by rw [c1]; rfl, u2, [], d2, by rw [c2]; rfl, rfl⟩, rfl⟩
        · simp [RP.run] at hrun
      · simp [RP.run] at hrun
    · simp [RP.run] at hrun
  · simp [RP.run] at hrun

theorem call_fam (hΓ : TabOk P Γ) (hgl : Γ.gl = keysOf Γ.gh) (hlow : ∀ g ∈ keysOf Γ.gh, g < 490) {f : FuncId} {fn : Func} (hf : P.funcs[f]? = some fn) (hn : (fn.name == "runtime.NumGoroutine") = false) (hb : fn.body.isNone = false) (k : IntKind)
    (ms : List Md) (hro : onlyRO ms = true) (spec : List AV → Option (List Prop × Hdrs × Hdrs × List (List Int)))
    (h : ∀ avs p hs gs rows, spec avs = some (p, hs, gs, rows) → AllP p → FactA avs → ∃ args' L inv, okA 600 avs args' [] ∧ args'.length ≤ fn.ntmps ∧ VcX (fun x h' => kvH2 k x h' fun hs' gs' rows' => hs' = hs ∧ gs' = gs ∧ rows' = rows) Γ fn L (Γ.gh ++ [(490, .world)]) args' inv) :
    CallOk P Γ.gh f (famCtr k ms spec) :=
  call_famK (fun s => by omega) (fun s => by omega) (fun s => by omega) hΓ hgl hlow hf hn hb k ms hro spec h

end
end Go.Gx

/- Contracts of what is done to lists of rows: all turned in their places; a part of them handed on. -/
namespace Go.Gx
open Go.RowKit
set_option linter.unusedVariables false

/-- All rows of a pool turned; the answer is a row of headers over a pool of its own. -/
def turnCtrK (kp : Nat → Nat) (k : IntKind) (spec : Hdrs → Hdrs → List (List Int) → Option (List Prop × List (List Int) × Hdrs × List (List Int))) : Ctr := fun stamp args =>
  match args with
  | [.agg [.sl f 0 1 ⟨true, .ofNat 0⟩ n, .sl g 0 1 ⟨true, .ofNat 0⟩ m]] => .get f fun b => (match b with
    | some (.segs false [.rowH p hs]) => .get g fun b => (match b with
      | some (.segs false [.rowH p' gs]) => (match Nat.beq p p' with
        | true => .get p fun b => (match b with
          | some (.pool k' ms) => (match keq k' k, spec hs gs ms with
            | true, some (pre, ms', hs2, rows2) => .get stamp fun b => (match b with
              | none => .get (kp stamp) fun b => (match b with
                | none => .ret ⟨(n.z = (hs.length : Int)) :: (m.z = (gs.length : Int)) :: pre, hdrSV stamp hs2, [(p, .pool k ms'), (kp stamp, .pool k rows2), (stamp, .segs false [.rowH (kp stamp) hs2])], true⟩
                | some _ => .fail)
              | some _ => .fail)
            | _, _ => .fail)
          | _ => .fail)
        | false => .fail)
      | _ => .fail)
    | _ => .fail)
  | _ => .fail
def turnCtr (k : IntKind) (spec : Hdrs → Hdrs → List (List Int) → Option (List Prop × List (List Int) × Hdrs × List (List Int))) : Ctr := turnCtrK (fun s => s + 500000) k spec

/-- The pool at the end, and the answer. -/
def kvT (k : IntKind) (x : SV) (h : Heap) (K : List (List Int) → Hdrs → List (List Int) → Prop) : Prop :=
  match assoc h 600 with
  | some (.pool k' ms) => (match keq k' k with | true => kvH1 k x h fun hs rows => K ms hs rows | false => False)
  | _ => False

def turnH (k : IntKind) (hs gs : Hdrs) (ms : List (List Int)) : Heap := [(600, .pool k ms), (601, .segs true [.rowH 600 hs]), (602, .segs true [.rowH 600 gs])]
def turnA (hs gs : Hdrs) : List SV := [.agg [.sl 601 0 1 ⟨true, .ofNat 0⟩ ⟨false, (hs.length : Int)⟩, .sl 602 0 1 ⟨true, .ofNat 0⟩ ⟨false, (gs.length : Int)⟩]]

theorem Hdrs.move {H' Hn : Nat → Option SB} {ρ' ρn : Nat → Pl} {pk pn : Nat} (hd : dmOf Hn pn) (hρ : ρn pn = ρ' pk) : ∀ (hs : Hdrs) (cs : List Value), HdrsD (dmOf H') ρ' pk hs cs → HdrsD (dmOf Hn) ρn pn hs cs
  | [], cs, h => h
  | x :: t, cs, h => by
    obtain ⟨v, c, a1, a2, a3⟩ := h
    refine ⟨v, c, ?_, a2, Hdrs.move hd hρ t c a3⟩
    simp only [D] at a1 ⊢
    rw [hρ]
    exact ⟨hd, a1.2⟩

section
variable {P : Program} {Γ : Tab}

theorem call_turnK {fp : Nat → Nat} (hk2' : ∀ s, fp s ≠ s) (hΓ : TabOk P Γ) (hgl : Γ.gl = []) (hgh : Γ.gh = []) {f : FuncId} {fn : Func} (hf : P.funcs[f]? = some fn) (hn : (fn.name == "runtime.NumGoroutine") = false) (hb : fn.body.isNone = false) (k : IntKind)
    (spec : Hdrs → Hdrs → List (List Int) → Option (List Prop × List (List Int) × Hdrs × List (List Int)))
    (h : ∀ hs gs ms p ms' hs2 rows2, spec hs gs ms = some (p, ms', hs2, rows2) → AllP p → (∀ i, i < ms.length → AllR k (ms.getD i [])) → ∃ L inv, 1 ≤ fn.ntmps ∧ VcX (fun x h' => kvT k x h' fun a b c => a = ms' ∧ b = hs2 ∧ c = rows2) Γ fn L (turnH k hs gs ms) (turnA hs gs) inv) :
    CallOk P [] f (turnCtrK fp k spec) := by
  intro stamp args H rs rs' d vs w0 M ρ w hG hc hp hD hm
  unfold turnCtrK at hc
  split at hc
  · rename_i kf n kg m
    simp only [RP.run] at hc
    split at hc
    · rename_i p hs hkf
      simp only [RP.run] at hc
      split at hc
      · rename_i p' gs hkg
        split at hc
        · rename_i hpp
          have hpp := Nat.eq_of_beq_eq_true hpp
          subst hpp
          simp only [RP.run] at hc
          split at hc
          · rename_i k' ms hkp
            split at hc
            · rename_i pre ms' hs2 rows2 hkk hsp
              have hkk := keq_eq hkk
              subst hkk
              simp only [RP.run] at hc
              split at hc
              · rename_i hk1
                simp only [RP.run] at hc
                split at hc
                · rename_i hk2
                  have e := run_ret hc
                  have n2 := hk2' stamp
                  generalize fp stamp = kp at *
                  subst e
                  obtain ⟨hl1, hl2, hp⟩ := hp
                  have hP := hm.pools.pool p k' ms hkp
                  obtain ⟨L, inv, o2, o3⟩ := h hs gs ms pre ms' hs2 rows2 hsp hp (fun i hi => by
                    have : ms[i]? = some (ms.getD i []) := by rw [List.getD_eq_getElem?_getD, List.getElem?_eq_getElem hi]; rfl
                    exact (hP.row i _ this).1)
                  let M' : Nat → Prop := fun b => ∃ i, i < ms.length ∧ 0 < (ρ p).pc i ∧ b = (ρ p).pb i
                  let ρ1 : Nat → Pl := fun j => if j = 600 then ρ p else if j = 601 then ρ kf else ρ kg
                  have e600 : assoc (turnH k' hs gs ms) 600 = some (.pool k' ms) := rfl
                  have e601 : assoc (turnH k' hs gs ms) 601 = some (.segs true [.rowH 600 hs]) := rfl
                  have e602 : assoc (turnH k' hs gs ms) 602 = some (.segs true [.rowH 600 gs]) := rfl
                  have hat : ∀ j b, assoc (turnH k' hs gs ms) j = some b → (j = 600 ∧ b = .pool k' ms) ∨ (j = 601 ∧ b = .segs true [.rowH 600 hs]) ∨ (j = 602 ∧ b = .segs true [.rowH 600 gs]) := fun j b hb => by
                    simp only [turnH, assoc] at hb
                    split at hb
                    · rename_i e; exact .inl ⟨(Nat.eq_of_beq_eq_true e).symm, by simpa using hb.symm⟩
                    · split at hb
                      · rename_i e; exact .inr (.inl ⟨(Nat.eq_of_beq_eq_true e).symm, by simpa using hb.symm⟩)
                      · split at hb
                        · rename_i e; exact .inr (.inr ⟨(Nat.eq_of_beq_eq_true e).symm, by simpa using hb.symm⟩)
                        · cases hb
                  have d600 : dmOf (assoc (turnH k' hs gs ms)) 600 := dm_of e600
                  have hdr : ∀ (key : Nat) (xs : Hdrs), H key = some (.segs false [.rowH p xs]) → ∃ vs, SegsD (dmOf (assoc (turnH k' hs gs ms))) ρ1 [.rowH 600 xs] vs ∧ vs.length ≤ (ρ key).cap ∧ w.rangeAt (ρ key).blk (ρ key).off vs := fun key xs hkey => by
                    obtain ⟨vs, s1, s2, s3, _⟩ := hm.heap.blk key _ hkey
                    obtain ⟨c1, c2, ⟨_, q⟩, rfl, q2⟩ := s1
                    have q' : HdrsD (dmOf (assoc (turnH k' hs gs ms))) ρ1 600 xs c1 := Hdrs.move (H' := H) (ρ' := ρ) (pk := p) d600 (show ρ1 600 = ρ p from if_pos rfl) xs c1 q
                    exact ⟨c1 ++ c2, ⟨c1, c2, ⟨d600, q'⟩, rfl, q2⟩, s2, s3⟩
                  have g1 : Mem w M' ρ1 (assoc (turnH k' hs gs ms)) w := by
                    refine ⟨⟨fun j b hb => ?_, fun j j' ro ro' l l' h1 h2 _ hro _ _ => ?_, fun j ro l h1 c1 => ?_⟩, FrameW.refl _ _, fun j l h1 _ => ?_, fun j h1 => ?_, fun j l h1 _ => ?_, ⟨fun j kd ms0 hj => ?_, fun j kd ms0 j' ro l i h1 h2 c1 hi c2 => ?_, fun j kd ms0 j' kd' ms1 i i' h1 h2 hjj _ _ _ _ => ?_⟩⟩
                    · rcases hat j b hb with ⟨rfl, rfl⟩ | ⟨rfl, rfl⟩ | ⟨rfl, rfl⟩
                      · trivial
                      · obtain ⟨vs, s1, s2, s3⟩ := hdr kf hs hkf
                        exact ⟨vs, s1, s2, s3, fun h => by cases h⟩
                      · obtain ⟨vs, s1, s2, s3⟩ := hdr kg gs hkg
                        exact ⟨vs, s1, s2, s3, fun h => by cases h⟩
                    · have t : ∀ j ro l, assoc (turnH k' hs gs ms) j = some (.segs ro l) → ro = true := fun j ro l h => by
                        rcases hat j _ h with ⟨_, e⟩ | ⟨_, e⟩ | ⟨_, e⟩
                        · cases e
                        · simp only [SB.segs.injEq] at e; exact e.1
                        · simp only [SB.segs.injEq] at e; exact e.1
                      rw [t j ro l h1, t j' ro' l' h2] at hro
                      rcases hro with h | h <;> cases h
                    · rcases hat j _ h1 with ⟨_, e⟩ | ⟨rfl, e⟩ | ⟨rfl, e⟩
                      · cases e
                      · exact hm.heap.lt kf false _ hkf c1
                      · exact hm.heap.lt kg false _ hkg c1
                    · rcases hat j _ h1 with ⟨_, e⟩ | ⟨_, e⟩ | ⟨_, e⟩ <;> simp at e
                    · rcases hat j _ h1 with ⟨_, e⟩ | ⟨_, e⟩ | ⟨_, e⟩ <;> cases e
                    · rcases hat j _ h1 with ⟨_, e⟩ | ⟨_, e⟩ | ⟨_, e⟩ <;> simp at e
                    · rcases hat j _ hj with ⟨rfl, e⟩ | ⟨_, e⟩ | ⟨_, e⟩
                      · simp only [SB.pool.injEq] at e
                        obtain ⟨rfl, rfl⟩ := e
                        exact ⟨hP.cnt, hP.row, hP.lt, fun i hi hc => .inr ⟨i, hi, hc, rfl⟩, hP.clean, hP.sep⟩
                      · cases e
                      · cases e
                    · rcases hat j _ h1 with ⟨rfl, e⟩ | ⟨_, e⟩ | ⟨_, e⟩
                      · simp only [SB.pool.injEq] at e
                        obtain ⟨rfl, rfl⟩ := e
                        rcases hat j' _ h2 with ⟨_, e⟩ | ⟨rfl, e⟩ | ⟨rfl, e⟩
                        · cases e
                        · exact hm.pools.apart p kd ms0 kf false _ i hkp hkf c1 hi c2
                        · exact hm.pools.apart p kd ms0 kg false _ i hkp hkg c1 hi c2
                      · cases e
                      · cases e
                    · rcases hat j _ h1 with ⟨rfl, e⟩ | ⟨_, e⟩ | ⟨_, e⟩
                      · rcases hat j' _ h2 with ⟨rfl, e⟩ | ⟨_, e⟩ | ⟨_, e⟩
                        · exact absurd rfl hjj
                        · cases e
                        · cases e
                      · cases e
                      · cases e
                  have hgo : GlOk Γ w M' ρ1 (assoc (turnH k' hs gs ms)) := ⟨fun g hg => (by rw [hgl] at hg; cases hg), (by rw [hgh]; intro g b hgb; cases hgb)⟩
                  have hargs : Ds (dmOf (assoc (turnH k' hs gs ms))) ρ1 (turnA hs gs) vs := by
                    have sl : ∀ (key j : Nat) (xs : Hdrs) (len : SI) (u : Value), ρ1 j = ρ key → dmOf (assoc (turnH k' hs gs ms)) j → len.z = (xs.length : Int) → D (dmOf H) ρ (.sl key 0 1 ⟨true, .ofNat 0⟩ len) u → D (dmOf (assoc (turnH k' hs gs ms))) ρ1 (.sl j 0 1 ⟨true, .ofNat 0⟩ ⟨false, (xs.length : Int)⟩) u := fun key j xs len u h1 h2 h3 h4 => by
                      simp only [D] at h4 ⊢
                      rw [h3] at h4
                      rw [h1]
                      exact ⟨h2, h4.2⟩
                    simp only [Ds, turnA] at hD ⊢
                    obtain ⟨u, c, hu, rfl, rfl⟩ := hD
                    refine ⟨u, [], ?_, rfl, rfl⟩
                    simp only [D, Cs] at hu
                    obtain ⟨cs, ⟨u1, c1, d1, rfl, u2, c2, d2, rfl, rfl⟩, rfl⟩ := hu
                    show D _ _ (.agg _) _
                    rw [D]
                    refine ⟨_, ?_, rfl⟩
                    simp only [Cs]
                    exact ⟨u1, _, sl kf 601 hs n u1 rfl (dm_of e601) hl1 d1, rfl, u2, [], sl kg 602 gs m u2 rfl (dm_of e602) hl2 d2, rfl, rfl⟩
                  refine .inr ⟨f, _, GoFn.run ⟨fn, hf, hn, hb⟩ _ _, (vcX_calls hΓ hf o3 o2 hgo g1 hargs).mono fun e w' he => ?_⟩
                  obtain ⟨x, v, h', ρ', rfl, r1, r2, r3, r4⟩ := he
                  unfold kvT at r1
                  split at r1
                  · rename_i k2 msz hz
                    split at r1
                    · rename_i hkk2
                      have hkk2 := keq_eq hkk2
                      subst hkk2
                      obtain ⟨a, hs', rows', ⟨rfl, rfl, rfl⟩, t1, t3⟩ := kvH1_sound r2 r1
                      refine ⟨v, rfl, ?_⟩
                      have hne1 : p ≠ stamp := fun e => by rw [e, hk1] at hkp; cases hkp
                      have hne2 : p ≠ kp := fun e => by rw [e, hk2] at hkp; cases hkp
                      let ρn : Nat → Pl := fun j => if j = stamp then (match keyOf a with | some c => ρ' c | none => noPl) else if j = kp then (match poolOf a none with | some c => ρ' c | none => noPl) else if j = p then ρ' 600 else ρ j
                      let im : Nat → Option (Option Nat) := fun j => if j = stamp then some (keyOf a) else if j = kp then some (poolOf a none) else if j = p then some (some 600) else none
                      let Hn := updsH H [(p, .pool k2 msz), (kp, .pool k2 rows'), (stamp, .segs false [.rowH kp hs'])]
                      have z1 : Hn stamp = some (.segs false [.rowH kp hs']) := by
                        show updH (updH (updH H _ _) _ _) _ _ stamp = _
                        rw [updH_same]
                      have z2 : Hn kp = some (.pool k2 rows') := by
                        show updH (updH (updH H _ _) _ _) _ _ kp = _
                        rw [updH_ne n2, updH_same]
                      have z3 : Hn p = some (.pool k2 msz) := by
                        show updH (updH (updH H _ _) _ _) _ _ p = _
                        rw [updH_ne hne1, updH_ne hne2, updH_same]
                      have z4 : ∀ j, j ≠ stamp → j ≠ kp → j ≠ p → Hn j = H j := fun j h1 h2 h3 => by
                        show updH (updH (updH H _ _) _ _) _ _ j = _
                        rw [updH_ne h1, updH_ne h2, updH_ne h3]
                      have q1 : ρn stamp = (match keyOf a with | some c => ρ' c | none => noPl) := by simp [ρn]
                      have q2 : ρn kp = (match poolOf a none with | some c => ρ' c | none => noPl) := by simp [ρn, n2]
                      have q3 : ρn p = ρ' 600 := by simp [ρn, hne1, hne2]
                      have q4 : ∀ j, j ≠ stamp → j ≠ kp → j ≠ p → ρn j = ρ j := fun j h1 h2 h3 => by simp [ρn, h1, h2, h3]
                      have i1 : im stamp = some (keyOf a) := by simp [im]
                      have i2 : im kp = some (poolOf a none) := by simp [im, n2]
                      have i3 : im p = some (some 600) := by simp [im, hne1, hne2]
                      have i4 : ∀ j, j ≠ stamp → j ≠ kp → j ≠ p → im j = none := fun j h1 h2 h3 => by simp [im, h1, h2, h3]
                      have dp : dmOf Hn kp := dm_of z2
                      have le6 : PlLe (ρ p) (ρ' 600) := (r4 600 d600).2
                      have cases4 : ∀ j, j = stamp ∨ j = kp ∨ j = p ∨ (j ≠ stamp ∧ j ≠ kp ∧ j ≠ p) := fun j => by
                        by_cases e1 : j = stamp
                        · exact .inl e1
                        · by_cases e2 : j = kp
                          · exact .inr (.inl e2)
                          · by_cases e3 : j = p
                            · exact .inr (.inr (.inl e3))
                            · exact .inr (.inr (.inr ⟨e1, e2, e3⟩))
                      have hpk : ∀ key pk, a = some (key, pk) → ρn kp = ρ' pk := fun key pk hab => by rw [q2, hab]; rfl
                      have inone : ∀ j, im j = none → j ≠ p := fun j hj e => by subst e; rw [i3] at hj; cases hj
                      have hle : ∀ j, dmOf H j → dmOf Hn j ∧ PlLe (ρ j) (ρn j) := fun j hj => by
                        have e1 : j ≠ stamp := fun e => by subst e; unfold dmOf at hj; rw [hk1] at hj; cases hj
                        have e2 : j ≠ kp := fun e => by subst e; unfold dmOf at hj; rw [hk2] at hj; cases hj
                        by_cases e3 : j = p
                        · subst e3; exact ⟨dm_of z3, by rw [q3]; exact le6⟩
                        · exact ⟨by unfold dmOf; rw [z4 j e1 e2 e3]; exact hj, .of_eq (q4 j e1 e2 e3)⟩
                      have hMem : Mem w0 M ρn Hn w' := by
                        refine Mem.import hm r3 (im := im) (fun j hj => ?_) (fun j c hj => ?_) (fun j hj => ?_) (fun j j' c h1 h2 => ?_) hle (fun b hb => ?_) (fun j ro l hj hjk c1 hb => ?_) (fun j kd ms0 i hj hjk hi c1 hb => ?_)
                        · rcases cases4 j with rfl | rfl | rfl | ⟨e1, e2, e3⟩
                          · rw [i1] at hj; cases hj
                          · rw [i2] at hj; cases hj
                          · rw [i3] at hj; cases hj
                          · exact ⟨z4 j e1 e2 e3, fun _ => q4 j e1 e2 e3⟩
                        · rcases cases4 j with rfl | rfl | rfl | ⟨e1, e2, e3⟩
                          · rw [i1] at hj
                            simp only [Option.some.injEq] at hj
                            rw [q1, hj]
                            refine ⟨rfl, .inr (.inr ?_)⟩
                            cases a with
                            | none => simp [keyOf] at hj
                            | some pq =>
                              obtain ⟨key, pk⟩ := pq
                              simp only [keyOf, Option.some.injEq] at hj
                              subst hj
                              obtain ⟨_, z2, _⟩ := t1
                              exact ⟨_, _, z1, z2, HdrAt.segs (key := 0) dp (hpk key pk rfl)⟩
                          · rw [i2] at hj
                            simp only [Option.some.injEq] at hj
                            rw [q2, hj]
                            refine ⟨rfl, .inr (.inl ?_)⟩
                            rw [hj] at t3
                            exact ⟨k2, rows', z2, t3.2⟩
                          · rw [i3] at hj
                            simp only [Option.some.injEq] at hj
                            subst hj
                            exact ⟨q3, .inr (.inl ⟨k2, msz, z3, hz⟩)⟩
                          · rw [i4 j e1 e2 e3] at hj; cases hj
                        · rcases cases4 j with rfl | rfl | rfl | ⟨e1, e2, e3⟩
                          · rw [i1] at hj
                            simp only [Option.some.injEq] at hj
                            rw [q1, hj]
                            refine ⟨rfl, .inr (.inr ?_)⟩
                            cases a with
                            | none =>
                              obtain ⟨rfl, _⟩ := t1
                              exact ⟨_, z1, [], [], ⟨dp, rfl⟩, rfl, rfl⟩
                            | some pq => simp [keyOf] at hj
                          · rw [i2] at hj
                            simp only [Option.some.injEq] at hj
                            rw [q2, hj]
                            refine ⟨rfl, .inr (.inl ?_)⟩
                            rw [hj] at t3
                            have t3 : rows' = [] := t3
                            subst t3
                            exact ⟨k2, z2⟩
                          · rw [i3] at hj; cases hj
                          · rw [i4 j e1 e2 e3] at hj; cases hj
                        · have inj : ∀ j c, im j = some (some c) → (j = stamp ∧ keyOf a = some c) ∨ (j = kp ∧ poolOf a none = some c) ∨ (j = p ∧ c = 600) := fun j c hj => by
                            rcases cases4 j with rfl | rfl | rfl | ⟨e1, e2, e3⟩
                            · rw [i1] at hj; exact .inl ⟨rfl, Option.some.inj hj⟩
                            · rw [i2] at hj; exact .inr (.inl ⟨rfl, Option.some.inj hj⟩)
                            · rw [i3] at hj; exact .inr (.inr ⟨rfl, by simpa using hj.symm⟩)
                            · rw [i4 j e1 e2 e3] at hj; cases hj
                          have ka : keyOf a = some c → 1000 ≤ c ∧ ∃ l, assoc h' c = some (.segs false l) := fun e => by
                            cases a with
                            | none => cases e
                            | some p => obtain ⟨key, pk⟩ := p; simp only [keyOf, Option.some.injEq] at e; subst e; exact ⟨t1.1, _, t1.2.1⟩
                          have kpp : poolOf a none = some c → 1000 ≤ c ∧ assoc h' c = some (.pool k2 rows') := fun e => by rw [e] at t3; exact t3
                          rcases inj j c h1 with ⟨rfl, e⟩ | ⟨rfl, e⟩ | ⟨rfl, e⟩ <;> rcases inj j' c h2 with ⟨rfl, e'⟩ | ⟨rfl, e'⟩ | ⟨rfl, e'⟩
                          · rfl
                          · obtain ⟨_, l, z⟩ := ka e; rw [(kpp e').2] at z; cases z
                          · have := (ka e).1; omega
                          · obtain ⟨_, l, z⟩ := ka e'; rw [(kpp e).2] at z; cases z
                          · rfl
                          · have := (kpp e).1; omega
                          · have := (ka e').1; omega
                          · have := (kpp e').1; omega
                          · rfl
                        · obtain ⟨i, hi, hc, rfl⟩ := hb
                          exact hP.own i hi hc
                        · obtain ⟨i, hi, hc, e⟩ := hb
                          exact hm.pools.apart p k2 ms j ro l i hkp hjk c1 hi hc e
                        · obtain ⟨i', hi', hc', e⟩ := hb
                          exact hm.pools.two j kd ms0 p k2 ms i i' hjk hkp (inone j hj) hi hi' c1 hc' e
                      exact ⟨ρn, fun j hj => (hle j hj).2, t1.D (dm_of z1) fun c e => by rw [q1, e], hMem⟩
                    · exact r1.elim
                  · exact r1.elim
                · simp [RP.run] at hc
              · simp [RP.run] at hc
            · simp [RP.run] at hc
          · simp [RP.run] at hc
        · simp [RP.run] at hc
      · simp [RP.run] at hc
    · simp [RP.run] at hc
  · simp [RP.run] at hc

theorem call_turn (hΓ : TabOk P Γ) (hgl : Γ.gl = []) (hgh : Γ.gh = []) {f : FuncId} {fn : Func} (hf : P.funcs[f]? = some fn) (hn : (fn.name == "runtime.NumGoroutine") = false) (hb : fn.body.isNone = false) (k : IntKind)
    (spec : Hdrs → Hdrs → List (List Int) → Option (List Prop × List (List Int) × Hdrs × List (List Int)))
    (h : ∀ hs gs ms p ms' hs2 rows2, spec hs gs ms = some (p, ms', hs2, rows2) → AllP p → (∀ i, i < ms.length → AllR k (ms.getD i [])) → ∃ L inv, 1 ≤ fn.ntmps ∧ VcX (fun x h' => kvT k x h' fun a b c => a = ms' ∧ b = hs2 ∧ c = rows2) Γ fn L (turnH k hs gs ms) (turnA hs gs) inv) :
    CallOk P [] f (turnCtr k spec) := call_turnK (fun s => by omega) hΓ hgl hgh hf hn hb k spec h

/-! ### A part of the second row handed on -/

def givenCtr : Ctr := fun stamp args =>
  match args with
  | [.agg [.sl f 0 1 ⟨true, .ofNat 0⟩ n, .sl g 0 1 ⟨true, .ofNat 0⟩ m]] => .ret ⟨[n.z ≤ m.z], .sl g 0 1 ⟨true, .ofNat 0⟩ n, [], false⟩
  | _ => .fail

def givenH : Heap := [(601, .gone), (602, .gone)]
def givenA (n m : Int) : List SV := [.agg [.sl 601 0 1 ⟨true, .ofNat 0⟩ ⟨false, n⟩, .sl 602 0 1 ⟨true, .ofNat 0⟩ ⟨false, m⟩]]

theorem call_given (hΓ : TabOk P Γ) (hgl : Γ.gl = []) (hgh : Γ.gh = []) {f : FuncId} {fn : Func} (hf : P.funcs[f]? = some fn) (hn : (fn.name == "runtime.NumGoroutine") = false) (hb : fn.body.isNone = false)
    (h : ∀ n m : Int, 0 ≤ n → n ≤ m → 1 ≤ fn.ntmps ∧ VcX (fun x h' => ∃ z : Int, x = .sl 602 0 1 ⟨true, .ofNat 0⟩ ⟨false, z⟩ ∧ z = n) Γ fn [] givenH (givenA n m) fun _ _ _ => False) :
    CallOk P [] f givenCtr := by
  intro stamp args H rs rs' d vs w0 M ρ w hG hc hp hD hm
  unfold givenCtr at hc
  split at hc
  · rename_i kf n kg m
    have e := run_ret hc
    subst e
    have hle : n.z ≤ m.z := hp.1
    simp only [Ds] at hD
    obtain ⟨u, c, hu, rfl, rfl⟩ := hD
    simp only [D, Cs] at hu
    obtain ⟨cs, ⟨u1, c1, d1, rfl, u2, c2, d2, rfl, rfl⟩, rfl⟩ := hu
    obtain ⟨o2, o3⟩ := h n.z m.z d1.2.2.1 hle
    let ρ1 : Nat → Pl := fun j => if j = 601 then ρ kf else ρ kg
    have hat : ∀ j b, assoc givenH j = some b → b = .gone := fun j b hb => by
      simp only [givenH, assoc] at hb
      split at hb
      · simpa using hb.symm
      · split at hb
        · simpa using hb.symm
        · cases hb
    have g1 : Mem w (fun _ => False) ρ1 (assoc givenH) w := by
      refine ⟨⟨fun j b hb => ?_, fun j j' ro ro' l l' h1 => ?_, fun j ro l h1 => ?_⟩, FrameW.refl _ _, fun j l h1 => ?_, fun j h1 => ?_, fun j l h1 => ?_, .none fun j kd ms h1 => ?_⟩
      · rw [hat j b hb]; trivial
      all_goals (have := hat _ _ h1; cases this)
    have hgo : GlOk Γ w (fun _ => False) ρ1 (assoc givenH) := ⟨fun g hg => (by rw [hgl] at hg; cases hg), (by rw [hgh]; intro g b hgb; cases hgb)⟩
    have e1 : dmOf (assoc givenH) 601 := dm_of (b := .gone) rfl
    have e2 : dmOf (assoc givenH) 602 := dm_of (b := .gone) rfl
    have hargs : Ds (dmOf (assoc givenH)) ρ1 (givenA n.z m.z) [.agg (u1.cells.toList ++ (u2.cells.toList ++ [])).toArray] := by
      simp only [Ds, givenA]
      refine ⟨_, [], ?_, rfl, rfl⟩
      rw [D]
      refine ⟨_, ?_, rfl⟩
      simp only [Cs]
      refine ⟨u1, _, ?_, rfl, u2, [], ?_, rfl, rfl⟩
      · simp only [D]; exact ⟨e1, d1.2⟩
      · simp only [D]; exact ⟨e2, d2.2⟩
    refine .inr ⟨f, _, GoFn.run ⟨fn, hf, hn, hb⟩ _ _, (vcX_calls hΓ hf o3 o2 hgo g1 hargs).mono fun e w' he => ?_⟩
    obtain ⟨x, v, h', ρ', rfl, ⟨z, rfl, rfl⟩, r2, r3, r4⟩ := he
    refine ⟨v, rfl, ρ, .refl _ _, ?_, ?_⟩
    · have le := (r4 602 e2).2
      simp only [D] at r2 ⊢
      have e3 : at_ (ρ' 602) = at_ (ρ kg) := by
        funext c
        simp only [at_, le.blk, le.off]
        rfl
      rw [e3, le.cap] at r2
      exact ⟨d2.1, r2.2⟩
    · exact hm.keep (r3.frame.below fun _ h => h)
  · simp [RP.run] at hc

end
end Go.Gx

/- The contract of a function that writes into each of the caller's rows, and appends to it. -/
namespace Go.Gx
open Go.RowKit
set_option linter.unusedVariables false

/-- Rows of the caller's own, each whole, handed on to be used up: keys and what they hold. -/
def ownRows (k : IntKind) : List SV → (List Prop → List Nat → List (List Int) → Hdrs → RP Delta) → RP Delta
  | [], f => f [] [] [] []
  | x :: r, f => (match x with
    | .sl key 0 1 ⟨true, .ofNat 0⟩ len => .get key fun b => (match b with
      | some (.segs false [.rowI k' l]) => (match keq k' k with
        | true => ownRows k r fun p ks ls hs => f p (key :: ks) (l :: ls) ((0, len.z.toNat) :: hs)
        | false => .fail)
      | _ => .fail)
    | _ => .fail)

/-- Headers by number. -/
def numb : Nat → Hdrs → Hdrs
  | _, [] => []
  | i, (_, n) :: r => (i, n) :: numb (i + 1) r

def goneAll : List Nat → List (Nat × SB)
  | [] => []
  | k :: r => (k, .gone) :: goneAll r

/-- A literal of rows that are used up; the answer is a value. -/
def apartCtr (k : IntKind) (spec : Hdrs → List (List Int) → Option (List Prop × SV)) : Ctr := fun stamp args =>
  match args with
  | [.sl kx 0 1 ⟨true, .ofNat 0⟩ ⟨true, .ofNat n⟩] => .get kx fun b => (match b with
    | some (.segs false l) => (match onesOf l with
      | some xs => (match Nat.beq xs.length n && Nat.blt 0 n with
        | true => ownRows k xs fun p ks ls hs => (match nodupN (kx :: ks), spec (numb 0 hs) ls with
          | true, some (p', v) => .ret ⟨p ++ p', v, goneAll ks, false⟩
          | _, _ => .fail)
        | false => .fail)
      | none => .fail)
    | _ => .fail)
  | _ => .fail

def apartH (k : IntKind) (hs : Hdrs) (ls : List (List Int)) : Heap := [(600, .pool k ls), (601, .segs true [.rowH 600 hs])]
def apartA (hs : Hdrs) : List SV := [.sl 601 0 1 ⟨true, .ofNat 0⟩ ⟨false, (hs.length : Int)⟩]

section
variable {P : Program} {Γ : Tab} {w0 : World} {M : Nat → Prop} {ρ : Nat → Pl} {H : Nat → Option SB} {w : World}

/-- What the rows are. -/
def OwnD (H : Nat → Option SB) (ρ : Nat → Pl) (k : IntKind) : List SV → List Value → List Nat → List (List Int) → Hdrs → Prop
  | [], vs, ks, ls, hs => vs = [] ∧ ks = [] ∧ ls = [] ∧ hs = []
  | x :: r, vs, ks, ls, hs => ∃ v c key ks' l ls' n hs', vs = v :: c ∧ ks = key :: ks' ∧ ls = l :: ls' ∧ hs = (0, n) :: hs' ∧ H key = some (.segs false [.rowI k l]) ∧
      (n : Int) < 9223372036854775808 ∧ (∃ a cap, v = .slice a n cap ∧ n ≤ cap ∧ ((a = some (at_ (ρ key) 0) ∧ cap ≤ (ρ key).cap) ∨ (n = 0 ∧ cap = 0))) ∧ OwnD H ρ k r c ks' ls' hs'

theorem ownRows_sound {k : IntKind} : ∀ (xs : List SV) (vs : List Value) (f : List Prop → List Nat → List (List Int) → Hdrs → RP Delta) (d : Delta) (rs rs' : List Nat), Ds (dmOf H) ρ xs vs → (ownRows k xs f).run H rs = some (d, rs') →
    ∃ p ks ls hs rs1, (f p ks ls hs).run H rs1 = some (d, rs') ∧ OwnD H ρ k xs vs ks ls hs ∧ p = []
  | [], vs, f, d, rs, rs', hd, h => ⟨[], [], [], [], rs, h, ⟨hd, rfl, rfl, rfl⟩, rfl⟩
  | x :: r, vs, f, d, rs, rs', hd, h => by
    simp only [Ds] at hd
    obtain ⟨v, c, hx, rfl, hr⟩ := hd
    simp only [ownRows] at h
    split at h
    · rename_i key len
      simp only [RP.run] at h
      split at h
      · rename_i k' l hkey
        split at h
        · rename_i hkk
          have hkk := keq_eq hkk
          subst hkk
          obtain ⟨p, ks, ls, hs, rs1, a1, a2, a3⟩ := ownRows_sound r c _ d _ rs' hr h
          refine ⟨p, key :: ks, l :: ls, (0, len.z.toNat) :: hs, rs1, a1, ⟨v, c, key, ks, l, ls, len.z.toNat, hs, rfl, rfl, rfl, rfl, hkey, ?_⟩, a3⟩
          simp only [D] at hx
          obtain ⟨_, _, hl, hi, a, cap, rfl, hc, hdis⟩ := hx
          simp only [InR] at hi
          refine ⟨by omega, ⟨a, cap, rfl, hc, ?_⟩, a2⟩
          rcases hdis with ⟨h1, h2⟩ | ⟨h1, h2⟩
          · exact .inl ⟨by simpa using h1, by simpa using h2⟩
          · exact .inr ⟨by omega, h2⟩
        · simp [RP.run] at h
      · simp [RP.run] at h
    · simp [RP.run] at h

theorem OwnD.len {k : IntKind} : ∀ {xs : List SV} {vs : List Value} {ks : List Nat} {ls : List (List Int)} {hs : Hdrs}, OwnD H ρ k xs vs ks ls hs → ks.length = xs.length ∧ ls.length = xs.length ∧ hs.length = xs.length ∧ vs.length = xs.length
  | [], vs, ks, ls, hs, h => by obtain ⟨rfl, rfl, rfl, rfl⟩ := h; exact ⟨rfl, rfl, rfl, rfl⟩
  | x :: r, vs, ks, ls, hs, h => by
    obtain ⟨v, c, key, ks', l, ls', n, hs', rfl, rfl, rfl, rfl, _, _, _, h2⟩ := h
    obtain ⟨a, b, c, d⟩ := OwnD.len h2
    simp [a, b, c, d]

theorem OwnD.key {k : IntKind} : ∀ {xs : List SV} {vs : List Value} {ks : List Nat} {ls : List (List Int)} {hs : Hdrs}, OwnD H ρ k xs vs ks ls hs → ∀ i, i < ks.length → H (ks.getD i 0) = some (.segs false [.rowI k (ls.getD i [])])
  | [], vs, ks, ls, hs, h, i, hi => by obtain ⟨rfl, rfl, rfl, rfl⟩ := h; exact absurd hi (by simp)
  | x :: r, vs, ks, ls, hs, h, 0, hi => by
    obtain ⟨v, c, key, ks', l, ls', n, hs', rfl, rfl, rfl, rfl, h1, _, _, h2⟩ := h
    exact h1
  | x :: r, vs, ks, ls, hs, h, i + 1, hi => by
    obtain ⟨v, c, key, ks', l, ls', n, hs', rfl, rfl, rfl, rfl, h1, _, _, h2⟩ := h
    have := OwnD.key h2 i (by simpa using hi)
    simpa using this

/-- The headers, as those of one pool. -/
theorem OwnD.hdrs {k : IntKind} {dm : Nat → Prop} {ρ' : Nat → Pl} (hd : dm 600) (all : List Nat) (hpn : (ρ' 600).pn = all.length) (hpb : ∀ i, i < all.length → (ρ' 600).pb i = (ρ (all.getD i 0)).blk ∧ (ρ' 600).po i = (ρ (all.getD i 0)).off ∧ (ρ' 600).pc i = (ρ (all.getD i 0)).cap) :
    ∀ {xs : List SV} {vs : List Value} {ks : List Nat} {ls : List (List Int)} {hs : Hdrs} (i : Nat), OwnD H ρ k xs vs ks ls hs → (∀ j, j < ks.length → i + j < all.length ∧ all.getD (i + j) 0 = ks.getD j 0) → HdrsD dm ρ' 600 (numb i hs) vs
  | [], vs, ks, ls, hs, i, h, _ => by obtain ⟨rfl, rfl, rfl, rfl⟩ := h; rfl
  | x :: r, vs, ks, ls, hs, i, h, hk => by
    obtain ⟨v, c, key, ks', l, ls', n, hs', rfl, rfl, rfl, rfl, h1, hn, ⟨a, cap, rfl, hc, hdis⟩, h2⟩ := h
    obtain ⟨q1, q2⟩ := hk 0 (by simp)
    have q2 : all.getD i 0 = key := by simpa using q2
    have q1 : i < all.length := by simpa using q1
    obtain ⟨e1, e2, e3⟩ := hpb i q1
    rw [q2] at e1 e2 e3
    refine ⟨.slice a n cap, c, ?_, rfl, OwnD.hdrs hd all hpn hpb (i + 1) h2 fun j hj => ?_⟩
    · simp only [D]
      refine ⟨hd, by rw [hpn]; exact q1, by omega, by simp only [InR]; omega, a, cap, by simp, by simpa using hc, ?_⟩
      rcases hdis with ⟨rfl, hcap⟩ | ⟨h3, h4⟩
      · exact .inl ⟨by rw [e1, e2]; simp [at_], by rw [e3]; exact hcap⟩
      · exact .inr ⟨by simp [h3], h4⟩
    · have := hk (j + 1) (by simp; omega)
      rw [show i + (j + 1) = i + 1 + j by omega] at this
      simpa using this

theorem gone_all : ∀ (ks : List Nat) (H : Nat → Option SB), Mem w0 M ρ H w → (∀ k ∈ ks, (H k).isSome = true) → Mem w0 M ρ (updsH H (goneAll ks)) w
  | [], H, hm, _ => hm
  | k :: r, H, hm, hk => gone_all r _ (hm.gone k (hk k (by simp))) fun j hj => dm_updH H k .gone j (hk j (by simp [hj]))

theorem gone_at : ∀ (ks : List Nat) (H : Nat → Option SB) (k : Nat), (k ∈ ks → updsH H (goneAll ks) k = some .gone) ∧ (k ∉ ks → updsH H (goneAll ks) k = H k)
  | [], H, k => ⟨fun h => (by cases h), fun _ => rfl⟩
  | j :: r, H, k => by
    obtain ⟨a, b⟩ := gone_at r (updH H j .gone) k
    refine ⟨fun h => ?_, fun h => ?_⟩
    · by_cases e : k ∈ r
      · exact a e
      · rcases List.mem_cons.1 h with rfl | h
        · exact (b e).trans (updH_same _ _ _)
        · exact absurd h e
    · simp only [List.mem_cons, not_or] at h
      exact (b h.2).trans (updH_ne h.1)

theorem call_apart (hΓ : TabOk P Γ) (hgl : Γ.gl = []) (hgh : Γ.gh = []) {f : FuncId} {fn : Func} (hf : P.funcs[f]? = some fn) (hn : (fn.name == "runtime.NumGoroutine") = false) (hb : fn.body.isNone = false) (k : IntKind)
    (spec : Hdrs → List (List Int) → Option (List Prop × SV))
    (h : ∀ hs ls p y, spec hs ls = some (p, y) → AllP p → (∀ i, i < ls.length → AllR k (ls.getD i [])) → ∃ L inv, 1 ≤ fn.ntmps ∧ VcX (fun x h' => eqV x y) Γ fn L (apartH k hs ls) (apartA hs) inv) :
    CallOk P [] f (apartCtr k spec) := by
  intro stamp args H rs rs' d vs w0 M ρ w hG hc hp hD hm
  unfold apartCtr at hc
  split at hc
  · rename_i kx n
    simp only [RP.run] at hc
    split at hc
    · rename_i l hkx
      split at hc
      · rename_i xs hxs
        split at hc
        · rename_i hnn
          simp only [Bool.and_eq_true] at hnn
          have hn1 := Nat.eq_of_beq_eq_true hnn.1
          have hn2 : 0 < n := by have := hnn.2; simp [Nat.blt] at this; omega
          obtain ⟨cs, s1, s2, s3, s4⟩ := hm.segs hkx
          obtain ⟨o1, o2, o3⟩ := ones_D l xs cs hxs s1
          obtain ⟨p, ks, ls, hs, rs1, hrun, hO, rfl⟩ := ownRows_sound xs cs _ d _ rs' o1 hc
          split at hrun
          · rename_i p' y hnd hsp
            have e := run_ret hrun
            subst e
            have hp : AllP p' := hp
            obtain ⟨hl1, hl2, hl3, hl4⟩ := hO.len
            have hnd := nodupN_iff hnd
            obtain ⟨hkxn, hndk⟩ := List.nodup_cons.1 hnd
            have hinj : ∀ i j, i < ks.length → j < ks.length → ks.getD i 0 = ks.getD j 0 → i = j := fun i j hi hj e => by
              rw [List.getD_eq_getElem?_getD, List.getD_eq_getElem?_getD, List.getElem?_eq_getElem hi, List.getElem?_eq_getElem hj] at e
              have e : ks[i] = ks[j] := e
              rcases Nat.lt_trichotomy i j with c | c | c
              · exact absurd e (List.pairwise_iff_getElem.1 hndk i j hi hj c)
              · exact c
              · exact absurd e.symm (List.pairwise_iff_getElem.1 hndk j i hj hi c)
            have hmem : ∀ i, i < ks.length → ks.getD i 0 ∈ ks := fun i hi => by
              rw [List.getD_eq_getElem?_getD, List.getElem?_eq_getElem hi]
              exact List.getElem_mem hi
            have row : ∀ i m, ls[i]? = some m → i < ks.length ∧ ls.getD i [] = m := fun i m hi => by
              have := (List.getElem?_eq_some_iff.1 hi).1
              exact ⟨by omega, by rw [List.getD_eq_getElem?_getD, hi]; rfl⟩
            have seg : ∀ i, i < ks.length → AllR k (ls.getD i []) ∧ (ls.getD i []).length ≤ (ρ (ks.getD i 0)).cap ∧ w.rangeAt (ρ (ks.getD i 0)).blk (ρ (ks.getD i 0)).off ((ls.getD i []).map (Value.int k)) ∧ w.there (ρ (ks.getD i 0)).blk (ρ (ks.getD i 0)).off (ρ (ks.getD i 0)).cap := fun i hi => by
              obtain ⟨vz, z1, z2, z3, z4⟩ := hm.segs (hO.key i hi)
              obtain ⟨c1, c2, ⟨za, rfl⟩, rfl, z5⟩ := z1
              have z5 : c2 = [] := z5
              subst z5
              rw [List.append_nil] at z2 z3
              exact ⟨za, by simpa using z2, z3, z4 rfl⟩
            let M' : Nat → Prop := fun b => ∃ i, i < ks.length ∧ 0 < (ρ (ks.getD i 0)).cap ∧ b = (ρ (ks.getD i 0)).blk
            let pl : Pl := { blk := 0, off := 0, cap := 0, pn := ks.length, pb := fun i => (ρ (ks.getD i 0)).blk, po := fun i => (ρ (ks.getD i 0)).off, pc := fun i => (ρ (ks.getD i 0)).cap }
            let ρ1 : Nat → Pl := fun j => if j = 600 then pl else ρ kx
            have e600 : assoc (apartH k (numb 0 hs) ls) 600 = some (.pool k ls) := rfl
            have e601 : assoc (apartH k (numb 0 hs) ls) 601 = some (.segs true [.rowH 600 (numb 0 hs)]) := rfl
            have hat : ∀ j b, assoc (apartH k (numb 0 hs) ls) j = some b → (j = 600 ∧ b = .pool k ls) ∨ (j = 601 ∧ b = .segs true [.rowH 600 (numb 0 hs)]) := fun j b hb => by
              simp only [apartH, assoc] at hb
              split at hb
              · rename_i e; exact .inl ⟨(Nat.eq_of_beq_eq_true e).symm, by simpa using hb.symm⟩
              · split at hb
                · rename_i e; exact .inr ⟨(Nat.eq_of_beq_eq_true e).symm, by simpa using hb.symm⟩
                · cases hb
            have d600 : dmOf (assoc (apartH k (numb 0 hs) ls)) 600 := dm_of e600
            have r600 : ρ1 600 = pl := if_pos rfl
            have hnl : ∀ xs : Hdrs, ∀ i, (numb i xs).length = xs.length := by
              intro xs
              induction xs with
              | nil => intro i; rfl
              | cons x r ih => intro i; obtain ⟨a, b⟩ := x; simp [numb, ih]
            have hh : HdrsD (dmOf (assoc (apartH k (numb 0 hs) ls))) ρ1 600 (numb 0 hs) cs :=
              OwnD.hdrs d600 ks (by rw [r600]) (fun i hi => by rw [r600]; exact ⟨rfl, rfl, rfl⟩) 0 hO fun j hj => ⟨by omega, by simp⟩
            have g1 : Mem w M' ρ1 (assoc (apartH k (numb 0 hs) ls)) w := by
              refine ⟨⟨fun j b hb => ?_, fun j j' ro ro' l l' h1 h2 _ hro _ _ => ?_, fun j ro l h1 c1 => ?_⟩, FrameW.refl _ _, fun j l h1 _ => ?_, fun j h1 => ?_, fun j l h1 _ => ?_, ⟨fun j kd ms0 hj => ?_, fun j kd ms0 j' ro l i h1 h2 c1 hi c2 => ?_, fun j kd ms0 j' kd' ms1 i i' h1 h2 hjj _ _ _ _ => ?_⟩⟩
              · rcases hat j b hb with ⟨rfl, rfl⟩ | ⟨rfl, rfl⟩
                · trivial
                · exact ⟨cs, ⟨cs, [], ⟨d600, hh⟩, by simp, rfl⟩, s2, s3, fun h => by cases h⟩
              · have t : ∀ j ro l, assoc (apartH k (numb 0 hs) ls) j = some (.segs ro l) → ro = true := fun j ro l h => by
                  rcases hat j _ h with ⟨_, e⟩ | ⟨_, e⟩
                  · cases e
                  · simp only [SB.segs.injEq] at e; exact e.1
                rw [t j ro l h1, t j' ro' l' h2] at hro
                rcases hro with h | h <;> cases h
              · rcases hat j _ h1 with ⟨_, e⟩ | ⟨rfl, e⟩
                · cases e
                · exact hm.heap.lt kx false _ hkx c1
              · rcases hat j _ h1 with ⟨_, e⟩ | ⟨_, e⟩ <;> simp at e
              · rcases hat j _ h1 with ⟨_, e⟩ | ⟨_, e⟩ <;> cases e
              · rcases hat j _ h1 with ⟨_, e⟩ | ⟨_, e⟩ <;> simp at e
              · rcases hat j _ hj with ⟨rfl, e⟩ | ⟨_, e⟩
                · simp only [SB.pool.injEq] at e
                  obtain ⟨rfl, rfl⟩ := e
                  rw [r600]
                  refine ⟨by show ks.length = _; omega, fun i m hi => ?_, fun i hi c => ?_, fun i hi c => .inr ⟨i, by omega, c, rfl⟩, fun i hi c => ?_, fun i j hi hj c c' e => ?_⟩
                  · obtain ⟨hik, rfl⟩ := row i m hi
                    exact seg i hik
                  · exact hm.heap.lt _ false _ (hO.key i (by omega)) c
                  · exact hm.clean _ _ (hO.key i (by omega)) c
                  · by_cases hij : i = j
                    · exact hij
                    · exact absurd e (hm.heap.sep _ _ false false _ _ (hO.key i (by omega)) (hO.key j (by omega)) (fun e => hij (hinj i j (by omega) (by omega) e)) (.inl rfl) c c')
                · cases e
              · rcases hat j _ h1 with ⟨rfl, e⟩ | ⟨_, e⟩
                · simp only [SB.pool.injEq] at e
                  obtain ⟨rfl, rfl⟩ := e
                  rcases hat j' _ h2 with ⟨_, e⟩ | ⟨rfl, e⟩
                  · cases e
                  · rw [r600] at c2 ⊢
                    exact hm.heap.sep kx _ false false _ _ hkx (hO.key i (by omega)) (fun e => hkxn (by rw [e]; exact hmem i (by omega))) (.inl rfl) c1 c2
                · cases e
              · rcases hat j _ h1 with ⟨rfl, e⟩ | ⟨_, e⟩
                · rcases hat j' _ h2 with ⟨rfl, e⟩ | ⟨_, e⟩
                  · exact absurd rfl hjj
                  · cases e
                · cases e
            have hgo : GlOk Γ w M' ρ1 (assoc (apartH k (numb 0 hs) ls)) := ⟨fun g hg => (by rw [hgl] at hg; cases hg), (by rw [hgh]; intro g b hgb; cases hgb)⟩
            have hargs : Ds (dmOf (assoc (apartH k (numb 0 hs) ls))) ρ1 (apartA (numb 0 hs)) vs := by
              simp only [Ds, apartA] at hD ⊢
              obtain ⟨u, c, hu, rfl, rfl⟩ := hD
              refine ⟨u, [], ?_, rfl, rfl⟩
              have e : (Int.ofNat n) = ((numb 0 hs).length : Int) := by rw [hnl]; show (n : Int) = _; omega
              simp only [D] at hu ⊢
              rw [← e]
              exact ⟨dm_of e601, hu.2⟩
            obtain ⟨L, inv, q2, q3⟩ := h (numb 0 hs) ls p' y hsp hp fun i hi => (seg i (by omega)).1
            refine .inr ⟨f, _, GoFn.run ⟨fn, hf, hn, hb⟩ _ _, (vcX_calls hΓ hf q3 q2 hgo g1 hargs).mono fun e w' he => ?_⟩
            obtain ⟨x, v, h', ρ', rfl, r1, r2, r3, r4⟩ := he
            have hg := gone_all ks H hm fun j hj => by
              obtain ⟨i, hi, rfl⟩ := List.getElem_of_mem hj
              have := hO.key i hi
              rw [List.getD_eq_getElem?_getD, List.getElem?_eq_getElem hi] at this
              have this : H ks[i] = _ := this
              rw [this]; rfl
            have hne : ∀ j ro l, updsH H (goneAll ks) j = some (.segs ro l) → j ∉ ks ∧ H j = some (.segs ro l) := fun j ro l hj => by
              obtain ⟨a, b⟩ := gone_at ks H j
              by_cases e : j ∈ ks
              · rw [a e] at hj; cases hj
              · rw [b e] at hj; exact ⟨e, hj⟩
            refine ⟨v, rfl, ρ, .refl _ _, eqV_D x y v r1 r2, ?_⟩
            refine Mem.import hg r3 (im := fun _ => none) (fun j _ => ⟨rfl, fun _ => rfl⟩) (fun j c hj => by cases hj) (fun j hj => by cases hj) (fun j j' c h1 => by cases h1) (fun j hj => ⟨hj, .refl _⟩) (fun b hb => ?_) (fun j ro l _ hj c1 hb => ?_) (fun j kd ms0 i _ hj hi c1 hb => ?_)
            · obtain ⟨i, hi, hc, rfl⟩ := hb
              exact hm.own _ _ (hO.key i hi) hc
            · obtain ⟨i, hi, hc, e⟩ := hb
              obtain ⟨e1, e2⟩ := hne j ro l hj
              exact hm.heap.sep j _ ro false l _ e2 (hO.key i hi) (fun e => e1 (by rw [e]; exact hmem i hi)) (.inr rfl) c1 hc e
            · obtain ⟨i', hi', hc', e⟩ := hb
              obtain ⟨a, b⟩ := gone_at ks H j
              by_cases e2 : j ∈ ks
              · rw [a e2] at hj; cases hj
              · rw [b e2] at hj
                exact hm.pools.apart j kd ms0 _ false _ i hj (hO.key i' hi') hc' hi c1 e.symm
          · simp [RP.run] at hrun
        · simp [RP.run] at hc
      · simp [RP.run] at hc
    · simp [RP.run] at hc
  · simp [RP.run] at hc

end
end Go.Gx

/- Rows of their own. -/
namespace Go.Sp
/-- Headers by number, each with its row's length; few and short. -/
def apGood (hs : List (Nat × Nat)) (ls : List (List Int)) : Prop := hs.length = ls.length ∧ hs.length ≤ 1000 ∧ ∀ i, i < hs.length → hs.getD i (0, 0) = (i, (ls.getD i []).length) ∧ (ls.getD i []).length ≤ 1000000
end Go.Sp
namespace Go.Gx
open Go.Proofs Go.Sp
set_option linter.unusedVariables false

def Γ0a : Tab := ⟨tys, [], [], []⟩
def apH0 : Heap := [(600, .pool .i64 []), (601, .segs true [.rowH 600 []])]
def LA : Loops := [(2, ⟨[.sl 601 0 1 ⟨true, .ofNat 0⟩ ⟨false, 0⟩, .any, .any, .i .i64 ⟨false, 0⟩] ++ reps .any 82, apH0, 1018⟩),
  (5, ⟨[.sl 601 0 1 ⟨true, .ofNat 0⟩ ⟨false, 0⟩, .any, .any, .i .i64 ⟨false, 0⟩, .i .i64 ⟨false, 0⟩] ++ reps .any 81, apH0, 1018⟩),
  (9, ⟨[.sl 601 0 1 ⟨true, .ofNat 0⟩ ⟨false, 0⟩, .any, .any, .any, .any, .i .i64 ⟨false, 0⟩] ++ reps .any 80, apH0, 1018⟩),
  (13, ⟨[.sl 601 0 1 ⟨true, .ofNat 0⟩ ⟨false, 0⟩, .any, .any, .any, .any, .i .i64 ⟨false, 0⟩, .ps 600 0 ⟨false, 0⟩, .i .i64 ⟨false, 0⟩] ++ reps .any 78, apH0, 1018⟩),
  (1013, ⟨[.sl 601 0 1 ⟨true, .ofNat 0⟩ ⟨false, 0⟩, .any, .any, .any, .any, .i .i64 ⟨false, 0⟩, .mr 600 0 1000 ⟨false, 0⟩, .i .i64 ⟨false, 0⟩] ++ reps .any 78, apH0 ++ [(1000, .segs false [])], 1018⟩),
  (18, ⟨[.sl 601 0 1 ⟨true, .ofNat 0⟩ ⟨false, 0⟩, .any, .any, .any, .any, .any, .any, .any, .i .i64 ⟨false, 0⟩] ++ reps .any 77, apH0, 1018⟩),
  (21, ⟨[.sl 601 0 1 ⟨true, .ofNat 0⟩ ⟨false, 0⟩, .any, .any, .any, .any, .any, .any, .any, .i .i64 ⟨false, 0⟩, .i .i64 ⟨false, 0⟩] ++ reps .any 76, apH0, 1018⟩)]
def vc31 (hs : Hdrs) (ls : List (List Int)) (K : SV → Prop) (Q : Nat → List Pv → Prop) : Prop := fnVcX Γ0a Tryd.f31 LA (apartA hs) (apartH .i64 hs ls) (fun x _ => K x) Q
def lc31a (n i : Int) (hs : Hdrs) (ls : List (List Int)) (K : SV → Prop) (Q : Nat → List Pv → Prop) : Prop := loopVcX Γ0a Tryd.f31 LA 2 [.z n, .z i, .ll ls, .hh hs] (fun x _ => K x) Q
def lc31b (n i k : Int) (hs : Hdrs) (ls : List (List Int)) (K : SV → Prop) (Q : Nat → List Pv → Prop) : Prop := loopVcX Γ0a Tryd.f31 LA 5 [.z n, .z i, .z k, .ll ls, .hh hs] (fun x _ => K x) Q
def lc31c (n i : Int) (hs : Hdrs) (ls : List (List Int)) (K : SV → Prop) (Q : Nat → List Pv → Prop) : Prop := loopVcX Γ0a Tryd.f31 LA 9 [.z n, .z i, .ll ls, .hh hs] (fun x _ => K x) Q
def lc31d (n i m t : Int) (r : Nat) (hs : Hdrs) (ls : List (List Int)) (K : SV → Prop) (Q : Nat → List Pv → Prop) : Prop := loopVcX Γ0a Tryd.f31 LA 13 [.z n, .z i, .n r, .z m, .z t, .ll ls, .hh hs] (fun x _ => K x) Q
def lc31e (n i m t : Int) (r : Nat) (hs : Hdrs) (ls : List (List Int)) (K : SV → Prop) (Q : Nat → List Pv → Prop) : Prop := loopVcX Γ0a Tryd.f31 LA 1013 [.z n, .z i, .n r, .z m, .z t, .ll ls, .hh hs] (fun x _ => K x) Q
def lc31f (n i : Int) (hs : Hdrs) (ls : List (List Int)) (K : SV → Prop) (Q : Nat → List Pv → Prop) : Prop := loopVcX Γ0a Tryd.f31 LA 18 [.z n, .z i, .ll ls, .hh hs] (fun x _ => K x) Q
def lc31g (n i k : Int) (hs : Hdrs) (ls : List (List Int)) (K : SV → Prop) (Q : Nat → List Pv → Prop) : Prop := loopVcX Γ0a Tryd.f31 LA 21 [.z n, .z i, .z k, .ll ls, .hh hs] (fun x _ => K x) Q
theorem vc31_eq : ∀ (hs : Hdrs) (ls : List (List Int)) (K : SV → Prop) (Q : Nat → List Pv → Prop), vc31 hs ls K Q = (Same Tryd.f31 (2 : Nat) (itemsOf Tryd.f31 (2 : Nat)) ∧ Q (2 : Nat) [Pv.z ↑(List.length hs), Pv.z (0 : Int), Pv.ll ls, Pv.hh hs]) := by
  intros
  kernel_rfl

theorem lc31a_eq : ∀ (n i : Int) (hs : Hdrs) (ls : List (List Int)) (K : SV → Prop) (Q : Nat → List Pv → Prop), lc31a n i hs ls K Q = ((decide (i < n) = true → Same Tryd.f31 (5 : Nat) (itemsOf Tryd.f31 (5 : Nat)) ∧ Q (5 : Nat) [Pv.z n, Pv.z i, Pv.z (0 : Int), Pv.ll ls, Pv.hh hs]) ∧ (decide (i < n) = false → Same Tryd.f31 (9 : Nat) (itemsOf Tryd.f31 (9 : Nat)) ∧ Q (9 : Nat) [Pv.z n, Pv.z (0 : Int), Pv.ll ls, Pv.hh hs])) := by
  intros
  kernel_rfl

theorem lc31b_eq : ∀ (n i k : Int) (hs : Hdrs) (ls : List (List Int)) (K : SV → Prop) (Q : Nat → List Pv → Prop), lc31b n i k hs ls K Q = (Need ((0 : Int) ≤ i ∧ i < n) ∧ Need ((0 : Int) ≤ i ∧ i < ↑(List.length hs)) ∧ ∀ (x1 : Int), x1 = ↑(List.getD hs i.toNat ((0 : Nat), (0 : Nat))).snd → (0 : Int) ≤ x1 → InR IntKind.i64 x1 → (decide (k < x1) = true → Need ((0 : Int) ≤ i ∧ i < n) ∧ Need ((0 : Int) ≤ i ∧ i < ↑(List.length hs)) ∧ ∀ (x2 : Int), x2 = ↑(List.getD hs i.toNat ((0 : Nat), (0 : Nat))).snd → (0 : Int) ≤ x2 → InR IntKind.i64 x2 → ∀ (x3 : Int), x3 = IntKind.i64.wrap (i + (1 : Int)) → InR IntKind.i64 x3 → ∀ (x4 : Int), x4 = IntKind.i64.wrap ((100000 : Int) * x3) → InR IntKind.i64 x4 → ∀ (x5 : Int), x5 = IntKind.i64.wrap (x4 + k) → InR IntKind.i64 x5 → Need ((0 : Int) ≤ k ∧ k < x2) ∧ Need (k < ↑(ls.getD (List.getD hs i.toNat ((0 : Nat), (0 : Nat))).fst []).length) ∧ ∀ (x6 : List (List Int)), x6 = ls.set (List.getD hs i.toNat ((0 : Nat), (0 : Nat))).fst ((ls.getD (List.getD hs i.toNat ((0 : Nat), (0 : Nat))).fst []).set k.toNat x5) → ∀ (x7 : Int), x7 = IntKind.i64.wrap (k + (1 : Int)) → InR IntKind.i64 x7 → Same Tryd.f31 (5 : Nat) (itemsOf Tryd.f31 (5 : Nat)) ∧ Q (5 : Nat) [Pv.z n, Pv.z i, Pv.z x7, Pv.ll x6, Pv.hh hs]) ∧ (decide (k < x1) = false → ∀ (x8 : Int), x8 = IntKind.i64.wrap (i + (1 : Int)) → InR IntKind.i64 x8 → Same Tryd.f31 (2 : Nat) (itemsOf Tryd.f31 (2 : Nat)) ∧ Q (2 : Nat) [Pv.z n, Pv.z x8, Pv.ll ls, Pv.hh hs])) := by
  intros
  kernel_rfl

theorem lc31c_eq : ∀ (n i : Int) (hs : Hdrs) (ls : List (List Int)) (K : SV → Prop) (Q : Nat → List Pv → Prop), lc31c n i hs ls K Q = ((decide (i < n) = true → Need ((0 : Int) ≤ i ∧ i < n) ∧ Need ((0 : Int) ≤ i ∧ i < ↑(List.length hs)) ∧ ∀ (x1 : Int), x1 = ↑(List.getD hs i.toNat ((0 : Nat), (0 : Nat))).snd → (0 : Int) ≤ x1 → InR IntKind.i64 x1 → Same Tryd.f31 (13 : Nat) (itemsOf Tryd.f31 (13 : Nat)) ∧ Q (13 : Nat) [Pv.z n, Pv.z i, Pv.n (List.getD hs i.toNat ((0 : Nat), (0 : Nat))).fst, Pv.z x1, Pv.z (0 : Int), Pv.ll ls, Pv.hh hs]) ∧ (decide (i < n) = false → Same Tryd.f31 (18 : Nat) (itemsOf Tryd.f31 (18 : Nat)) ∧ Q (18 : Nat) [Pv.z n, Pv.z (0 : Int), Pv.ll ls, Pv.hh hs])) := by
  intros
  kernel_rfl

theorem lc31d_eq : ∀ (n i m t : Int) (r : Nat) (hs : Hdrs) (ls : List (List Int)) (K : SV → Prop) (Q : Nat → List Pv → Prop), lc31d n i m t r hs ls K Q = ((decide (t < (64 : Int)) = true → Need (↑(ls.getD r []).length ≤ m) ∧ Need ((m + (1 : Int)) * (8 : Int) ≤ (70368744177664 : Int)) ∧ Need ((1 : Int) ≤ (1 : Int)) ∧ ∀ (x1 : Int), x1 = m + (1 : Int) → (0 : Int) ≤ x1 → InR IntKind.i64 x1 → ∀ (x2 : Int), x2 = IntKind.i64.wrap (t + (1 : Int)) → InR IntKind.i64 x2 → Same Tryd.f31 (13 : Nat) (itemsOf Tryd.f31 (13 : Nat)) ∧ Q (1013 : Nat) [Pv.z n, Pv.z i, Pv.n r, Pv.z x1, Pv.z x2, Pv.ll ls, Pv.hh hs]) ∧ (decide (t < (64 : Int)) = false → ∀ (x3 : Int), x3 = IntKind.i64.wrap (m - (1 : Int)) → InR IntKind.i64 x3 → Need ((0 : Int) ≤ x3 ∧ x3 < m) ∧ Need (x3 < ↑(ls.getD r []).length) ∧ ∀ (x4 : List (List Int)), x4 = ls.set r ((ls.getD r []).set x3.toNat (8 : Int)) → ∀ (x5 : Int), x5 = IntKind.i64.wrap (i + (1 : Int)) → InR IntKind.i64 x5 → Same Tryd.f31 (9 : Nat) (itemsOf Tryd.f31 (9 : Nat)) ∧ Q (9 : Nat) [Pv.z n, Pv.z x5, Pv.ll x4, Pv.hh hs])) := by
  intros
  kernel_rfl

theorem lc31e_eq : ∀ (n i m t : Int) (r : Nat) (hs : Hdrs) (ls : List (List Int)) (K : SV → Prop) (Q : Nat → List Pv → Prop), lc31e n i m t r hs ls K Q = ((decide (t < (64 : Int)) = true → Need (↑(ls.getD r []).length ≤ m) ∧ Need ((m + (1 : Int)) * (8 : Int) ≤ (70368744177664 : Int)) ∧ Need ((1 : Int) ≤ (1 : Int)) ∧ ∀ (x1 : Int), x1 = m + (1 : Int) → (0 : Int) ≤ x1 → InR IntKind.i64 x1 → ∀ (x2 : Int), x2 = IntKind.i64.wrap (t + (1 : Int)) → InR IntKind.i64 x2 → Same Tryd.f31 (13 : Nat) (itemsOf Tryd.f31 (13 : Nat)) ∧ Q (1013 : Nat) [Pv.z n, Pv.z i, Pv.n r, Pv.z x1, Pv.z x2, Pv.ll ls, Pv.hh hs]) ∧ (decide (t < (64 : Int)) = false → ∀ (x3 : Int), x3 = IntKind.i64.wrap (m - (1 : Int)) → InR IntKind.i64 x3 → Need ((0 : Int) ≤ x3 ∧ x3 < m) ∧ Need (↑(ls.getD r []).length ≤ x3) ∧ ∀ (x4 : Int), x4 = IntKind.i64.wrap (i + (1 : Int)) → InR IntKind.i64 x4 → Same Tryd.f31 (9 : Nat) (itemsOf Tryd.f31 (9 : Nat)) ∧ Q (9 : Nat) [Pv.z n, Pv.z x4, Pv.ll ls, Pv.hh hs])) := by
  intros
  kernel_rfl

theorem lc31f_eq : ∀ (n i : Int) (hs : Hdrs) (ls : List (List Int)) (K : SV → Prop) (Q : Nat → List Pv → Prop), lc31f n i hs ls K Q = ((decide (i < n) = true → Same Tryd.f31 (21 : Nat) (itemsOf Tryd.f31 (21 : Nat)) ∧ Q (21 : Nat) [Pv.z n, Pv.z i, Pv.z (0 : Int), Pv.ll ls, Pv.hh hs]) ∧ (decide (i < n) = false → K (SV.b true true))) := by
  intros
  kernel_rfl

theorem lc31g_eq : ∀ (n i k : Int) (hs : Hdrs) (ls : List (List Int)) (K : SV → Prop) (Q : Nat → List Pv → Prop), lc31g n i k hs ls K Q = (Need ((0 : Int) ≤ i ∧ i < n) ∧ Need ((0 : Int) ≤ i ∧ i < ↑(List.length hs)) ∧ ∀ (x1 : Int), x1 = ↑(List.getD hs i.toNat ((0 : Nat), (0 : Nat))).snd → (0 : Int) ≤ x1 → InR IntKind.i64 x1 → (decide (k < x1) = true → Need ((0 : Int) ≤ i ∧ i < n) ∧ Need ((0 : Int) ≤ i ∧ i < ↑(List.length hs)) ∧ ∀ (x2 : Int), x2 = ↑(List.getD hs i.toNat ((0 : Nat), (0 : Nat))).snd → (0 : Int) ≤ x2 → InR IntKind.i64 x2 → Need ((0 : Int) ≤ k ∧ k < x2) ∧ Need (k < ↑(ls.getD (List.getD hs i.toNat ((0 : Nat), (0 : Nat))).fst []).length) ∧ ∀ (x3 : Int), x3 = (ls.getD (List.getD hs i.toNat ((0 : Nat), (0 : Nat))).fst []).getD k.toNat (0 : Int) → InR IntKind.i64 x3 → ∀ (x4 : Int), x4 = IntKind.i64.wrap (i + (1 : Int)) → InR IntKind.i64 x4 → ∀ (x5 : Int), x5 = IntKind.i64.wrap ((100000 : Int) * x4) → InR IntKind.i64 x5 → ∀ (x6 : Int), x6 = IntKind.i64.wrap (x5 + k) → InR IntKind.i64 x6 → ((x3 != x6) = true → K (SV.b true false)) ∧ ((x3 != x6) = false → ∀ (x7 : Int), x7 = IntKind.i64.wrap (k + (1 : Int)) → InR IntKind.i64 x7 → Same Tryd.f31 (21 : Nat) (itemsOf Tryd.f31 (21 : Nat)) ∧ Q (21 : Nat) [Pv.z n, Pv.z i, Pv.z x7, Pv.ll ls, Pv.hh hs])) ∧ (decide (k < x1) = false → ∀ (x8 : Int), x8 = IntKind.i64.wrap (i + (1 : Int)) → InR IntKind.i64 x8 → Same Tryd.f31 (18 : Nat) (itemsOf Tryd.f31 (18 : Nat)) ∧ Q (18 : Nat) [Pv.z n, Pv.z x8, Pv.ll ls, Pv.hh hs])) := by
  intros
  kernel_rfl

theorem getD_set_ll (ls : List (List Int)) (i j : Nat) (r : List Int) (h : i < ls.length) : (ls.set i r).getD j [] = if j = i then r else ls.getD j [] := by
  by_cases e : j = i
  · subst e; rw [if_pos rfl, List.getD_eq_getElem?_getD, List.getElem?_set_self h]; rfl
  · rw [if_neg e, List.getD_eq_getElem?_getD, List.getElem?_set_ne (fun e' => e e'.symm), ← List.getD_eq_getElem?_getD]

theorem apGood_set {hs : List (Nat × Nat)} {ls : List (List Int)} {i : Nat} {r : List Int} (h : apGood hs ls) (hi : i < hs.length) (hr : r.length = (ls.getD i []).length) : apGood hs (ls.set i r) := by
  obtain ⟨h1, h2, h3⟩ := h
  refine ⟨by simpa using h1, h2, fun j hj => ?_⟩
  rw [getD_set_ll ls i j r (by omega)]
  obtain ⟨a, b⟩ := h3 j hj
  by_cases e : j = i
  · subst e; rw [if_pos rfl, hr]; exact ⟨a, b⟩
  · rw [if_neg e]; exact ⟨a, b⟩

/-- What the i-th row holds, up to its k-th. -/
def apRow (ls : List (List Int)) (i k : Nat) : Prop := ∀ j, j < k → (ls.getD i []).getD j 0 = 100000 * ((i : Int) + 1) + j
def apDone (ls : List (List Int)) (n : Nat) : Prop := ∀ i, i < n → apRow ls i (ls.getD i []).length

def invA (hs : Hdrs) (key : Nat) (ps : List Pv) (m : Nat) : Prop := ∃ (i k : Nat) (ls : List (List Int)), apGood hs ls ∧ i ≤ hs.length ∧
  ((key = 2 ∧ ps = [.z (hs.length : Int), .z i, .ll ls, .hh hs] ∧ apDone ls i ∧ m = 4008020040 + (hs.length - i) * 2000010) ∨
   (key = 5 ∧ ps = [.z (hs.length : Int), .z i, .z k, .ll ls, .hh hs] ∧ i < hs.length ∧ k ≤ (ls.getD i []).length ∧ apDone ls i ∧ apRow ls i k ∧ m = 4008020040 + (hs.length - i - 1) * 2000010 + ((ls.getD i []).length - k) + 1) ∨
   (key = 9 ∧ ps = [.z (hs.length : Int), .z i, .ll ls, .hh hs] ∧ apDone ls hs.length ∧ m = 2004010020 + (hs.length - i) * 2000010) ∨
   (key = 13 ∧ ps = [.z (hs.length : Int), .z i, .n i, .z ((ls.getD i []).length : Int), .z 0, .ll ls, .hh hs] ∧ i < hs.length ∧ apDone ls hs.length ∧ m = 2004010020 + (hs.length - i - 1) * 2000010 + 65) ∨
   (key = 1013 ∧ ps = [.z (hs.length : Int), .z i, .n i, .z (((ls.getD i []).length : Int) + k), .z k, .ll ls, .hh hs] ∧ i < hs.length ∧ 1 ≤ k ∧ k ≤ 64 ∧ apDone ls hs.length ∧ m = 2004010020 + (hs.length - i - 1) * 2000010 + (65 - k)) ∨
   (key = 18 ∧ ps = [.z (hs.length : Int), .z i, .ll ls, .hh hs] ∧ apDone ls hs.length ∧ m = (hs.length - i) * 2000010) ∨
   (key = 21 ∧ ps = [.z (hs.length : Int), .z i, .z k, .ll ls, .hh hs] ∧ i < hs.length ∧ k ≤ (ls.getD i []).length ∧ apDone ls hs.length ∧ m = (hs.length - i - 1) * 2000010 + ((ls.getD i []).length - k) + 1))

def apartS : Hdrs → List (List Int) → Option (List Prop × SV) := fun hs ls => some ([apGood hs ls], .b true true)

theorem apart_loop {hs : Hdrs} {vk : Nat} {t : St} {ps : List Pv} {m : Nat} {K : SV → Prop} (hK : K (.b true true)) (ht : (vk, t) ∈ LA) (hi : invA hs vk ps m) : runLoop Γ0a Tryd.f31 (loopKeysM LA) (vk % 1000) (instSt t ps) (fun x _ => K x) (handM LA fun key' ps' => ∃ m', m' < m ∧ invA hs key' ps' m') := by
  obtain ⟨i, k, ls, hg, hile, hc⟩ := hi
  have hg2 := hg.2.1
  have hdi : ∀ i : Nat, i < hs.length → hs.getD i (0, 0) = (i, (ls.getD i []).length) := fun i hi => (hg.2.2 i hi).1
  have hlen : ∀ i : Nat, i < hs.length → (ls.getD i []).length ≤ 1000000 := fun i hi => (hg.2.2 i hi).2
  have hw1 : ∀ j : Nat, j ≤ 1000000 → IntKind.i64.wrap ((j : Int) + 1) = ((j + 1 : Nat) : Int) := fun j hj => by rw [wrap_i64 (by omega)]; omega
  have hmem : ∀ (q : Nat) (t' : St), assoc LA q = some t' → vk = q → t = t' := fun q t' h1 h2 => by
    subst h2
    have nd : ∀ (L : Loops) (a : St), (L.map (·.1)).Nodup → (vk, a) ∈ L → assoc L vk = some a := by
      intro L
      induction L with
      | nil => intro a _ h; cases h
      | cons x r ih =>
        intro a hn h
        rw [List.map_cons] at hn
        obtain ⟨h5, h6⟩ := List.nodup_cons.1 hn
        obtain ⟨x1, x2⟩ := x
        simp only [assoc]
        rcases List.mem_cons.1 h with e | h
        · simp only [Prod.mk.injEq] at e
          obtain ⟨rfl, rfl⟩ := e
          simp
        · have hne : x1 ≠ vk := fun e => h5 (by rw [e]; exact List.mem_map.2 ⟨_, h, rfl⟩)
          have : Nat.beq x1 vk = false := by
            rw [← Bool.not_eq_true]; intro hb; exact hne (Nat.eq_of_beq_eq_true hb)
          rw [this]
          exact ih a h6 h
    have := nd LA t (show List.Nodup [2, 5, 9, 13, 1013, 18, 21] by decide) ht
    rw [this] at h1
    exact Option.some.inj h1
  rcases hc with ⟨rfl, rfl, hd, rfl⟩ | ⟨rfl, rfl, hil, hkl, hd, hr, rfl⟩ | ⟨rfl, rfl, hd, rfl⟩ | ⟨rfl, rfl, hil, hd, rfl⟩ | ⟨rfl, rfl, hil, hk1, hk64, hd, rfl⟩ | ⟨rfl, rfl, hd, rfl⟩ | ⟨rfl, rfl, hil, hkl, hd, rfl⟩
  · rw [hmem 2 _ rfl rfl]
    show lc31a _ _ hs ls K _
    rw [lc31a_eq]
    refine ⟨fun h => ?_, fun h => ?_⟩
    · have h := of_decide_eq_true h
      exact ⟨rfl, _, by have := hlen i (by omega); omega, i, 0, ls, hg, by omega, .inr (.inl ⟨rfl, rfl, by omega, by omega, hd, fun j hj => by omega, rfl⟩)⟩
    · have h := of_decide_eq_false h
      have : i = hs.length := by omega
      subst this
      exact ⟨rfl, _, by omega, 0, 0, ls, hg, by omega, .inr (.inr (.inl ⟨rfl, rfl, hd, rfl⟩))⟩
  · rw [hmem 5 _ rfl rfl]
    show lc31b _ _ _ hs ls K _
    rw [lc31b_eq]
    simp only [Int.toNat_natCast, hdi i hil]
    have hl := hlen i hil
    refine ⟨need_of (by omega), need_of (by omega), fun x1 e1 _ _ => ?_⟩
    refine ⟨fun h => ?_, fun h => ?_⟩
    · have h := of_decide_eq_true h
      refine ⟨need_of (by omega), need_of (by omega), fun x2 e2 _ _ x3 e3 _ x4 e4 _ x5 e5 _ => ⟨need_of (by omega), need_of (by omega), fun x6 e6 x7 e7 _ => ⟨rfl, ?_⟩⟩⟩
      rw [hw1 i (by omega)] at e3
      rw [e3, wrap_i64 (by omega)] at e4
      rw [e4, wrap_i64 (by omega)] at e5
      rw [hw1 k (by omega)] at e7
      have hkl' : k < (ls.getD i []).length := by omega
      have hrow : ((ls.getD i []).set k x5).length = (ls.getD i []).length := by simp
      have hg' : apGood hs (ls.set i ((ls.getD i []).set k x5)) := apGood_set hg hil hrow
      have hget := fun j => getD_set_ll ls i j ((ls.getD i []).set k x5) (by have := hg.1; omega)
      refine ⟨4008020040 + (hs.length - i - 1) * 2000010 + ((ls.getD i []).length - (k + 1)) + 1, by omega, i, k + 1, ls.set i ((ls.getD i []).set k x5), hg', hile, .inr (.inl ⟨rfl, by rw [e6, e7], hil, ?_, ?_, ?_, ?_⟩)⟩
      · rw [hget, if_pos rfl, hrow]; omega
      · intro j hj
        rw [hget, if_neg (by omega)]
        have := hd j hj
        intro q hq
        rw [hget, if_neg (by omega)]
        exact this q hq
      · intro j hj
        rw [hget, if_pos rfl]
        by_cases e : j = k
        · subst e
          rw [List.getD_eq_getElem?_getD, List.getElem?_set_self hkl']
          show x5 = _
          omega
        · rw [List.getD_eq_getElem?_getD, List.getElem?_set_ne (fun e' => e e'.symm), ← List.getD_eq_getElem?_getD]
          exact hr j (by omega)
      · rw [hget, if_pos rfl, hrow]
    · have h := of_decide_eq_false h
      have hk : k = (ls.getD i []).length := by omega
      intro x8 e8 _
      rw [hw1 i (by omega)] at e8
      refine ⟨rfl, _, ?_, i + 1, 0, ls, hg, by omega, .inl ⟨rfl, by rw [e8], fun j hj => ?_, rfl⟩⟩
      · omega
      · by_cases e : j = i
        · subst e; rw [← hk]; exact hr
        · exact hd j (by omega)
  · rw [hmem 9 _ rfl rfl]
    show lc31c _ _ hs ls K _
    rw [lc31c_eq]
    refine ⟨fun h => ?_, fun h => ?_⟩
    · have h := of_decide_eq_true h
      have hil : i < hs.length := by omega
      have hl := hlen i hil
      simp only [Int.toNat_natCast, hdi i hil]
      refine ⟨need_of (by omega), need_of (by omega), fun x1 e1 _ _ => ⟨rfl, _, ?_, i, 0, ls, hg, hile, .inr (.inr (.inr (.inl ⟨rfl, by rw [e1], hil, hd, rfl⟩)))⟩⟩
      omega
    · have h := of_decide_eq_false h
      exact ⟨rfl, _, by omega, 0, 0, ls, hg, by omega, .inr (.inr (.inr (.inr (.inr (.inl ⟨rfl, rfl, hd, rfl⟩)))))⟩
  · rw [hmem 13 _ rfl rfl]
    show lc31d _ _ _ _ _ hs ls K _
    rw [lc31d_eq]
    have hl := hlen i hil
    refine ⟨fun _ => ⟨need_of (by omega), need_of (by omega), need_of (by omega), fun x1 e1 _ _ x2 e2 _ => ⟨rfl, _, ?_, i, 1, ls, hg, hile, .inr (.inr (.inr (.inr (.inl ⟨rfl, ?_, hil, by omega, by omega, hd, rfl⟩))))⟩⟩, fun h => by have := of_decide_eq_false h; omega⟩
    · omega
    · rw [wrap_i64 (by omega)] at e2
      rw [e1, e2]; rfl
  · rw [hmem 1013 _ rfl rfl]
    show lc31e _ _ _ _ _ hs ls K _
    rw [lc31e_eq]
    have hl := hlen i hil
    refine ⟨fun h => ?_, fun h => ?_⟩
    · have h := of_decide_eq_true h
      refine ⟨need_of (by omega), need_of (by omega), need_of (by omega), fun x1 e1 _ _ x2 e2 _ => ⟨rfl, _, ?_, i, k + 1, ls, hg, hile, .inr (.inr (.inr (.inr (.inl ⟨rfl, ?_, hil, by omega, by omega, hd, rfl⟩))))⟩⟩
      · omega
      · rw [hw1 k (by omega)] at e2
        rw [e1, e2, show ((ls.getD i []).length : Int) + (k : Int) + 1 = ((ls.getD i []).length : Int) + ((k + 1 : Nat) : Int) by omega]
    · have h := of_decide_eq_false h
      intro x3 e3 _
      rw [wrap_i64 (by omega)] at e3
      refine ⟨need_of (by omega), need_of (by omega), fun x4 e4 _ => ⟨rfl, _, ?_, i + 1, 0, ls, hg, by omega, .inr (.inr (.inl ⟨rfl, ?_, hd, rfl⟩))⟩⟩
      · omega
      · rw [hw1 i (by omega)] at e4
        rw [e4]
  · rw [hmem 18 _ rfl rfl]
    show lc31f _ _ hs ls K _
    rw [lc31f_eq]
    refine ⟨fun h => ?_, fun h => hK⟩
    have h := of_decide_eq_true h
    have hil : i < hs.length := by omega
    have hl := hlen i hil
    exact ⟨rfl, _, by omega, i, 0, ls, hg, hile, .inr (.inr (.inr (.inr (.inr (.inr ⟨rfl, rfl, hil, by omega, hd, rfl⟩)))))⟩
  · rw [hmem 21 _ rfl rfl]
    show lc31g _ _ _ hs ls K _
    rw [lc31g_eq]
    simp only [Int.toNat_natCast, hdi i hil]
    have hl := hlen i hil
    refine ⟨need_of (by omega), need_of (by omega), fun x1 e1 _ _ => ⟨fun h => ?_, fun h => ?_⟩⟩
    · have h := of_decide_eq_true h
      refine ⟨need_of (by omega), need_of (by omega), fun x2 e2 _ _ => ⟨need_of (by omega), need_of (by omega), fun x3 e3 _ x4 e4 _ x5 e5 _ x6 e6 _ => ?_⟩⟩
      rw [hw1 i (by omega)] at e4
      rw [e4, wrap_i64 (by omega)] at e5
      rw [e5, wrap_i64 (by omega)] at e6
      have hv := hd i hil k (by omega)
      rw [hv] at e3
      refine ⟨fun hne => ?_, fun _ x7 e7 _ => ⟨rfl, _, ?_, i, k + 1, ls, hg, hile, .inr (.inr (.inr (.inr (.inr (.inr ⟨rfl, ?_, hil, by omega, hd, rfl⟩)))))⟩⟩
      · exfalso
        have : x3 = x6 := by omega
        subst this
        simp at hne
      · omega
      · rw [hw1 k (by omega)] at e7
        rw [e7]
    · have h := of_decide_eq_false h
      intro x8 e8 _
      rw [hw1 i (by omega)] at e8
      exact ⟨rfl, _, by omega, i + 1, 0, ls, hg, by omega, .inr (.inr (.inr (.inr (.inr (.inl ⟨rfl, by rw [e8], hd, rfl⟩)))))⟩

theorem Γ0a_ok : TabOk Tryd.prog Γ0a := TabOk.nil mixed tys_ok
theorem CallOk.ofNil {f : FuncId} {c : Ctr} {g : Heap} (h : CallOk Tryd.prog [] f c) : CallOk Tryd.prog g f c :=
  fun stamp args H rs rs' d vs w0 M ρ w _ h1 h2 h3 h4 => h stamp args H rs rs' d vs w0 M ρ w (by intro g b hgb; cases hgb) h1 h2 h3 h4
theorem apart_ok : CallOk Tryd.prog gh 31 (apartCtr .i64 apartS) := by
  refine CallOk.ofNil (call_apart (Γ := Γ0a) (fn := Tryd.f31) Γ0a_ok rfl rfl rfl (by kernel_rfl) (by kernel_rfl) .i64 apartS fun hs ls p y hsp hp hall => ?_)
  simp only [apartS, Option.some.injEq, Prod.mk.injEq] at hsp
  obtain ⟨rfl, rfl⟩ := hsp
  have hgood : apGood hs ls := hp.1
  refine ⟨LA, invA hs, Nat.le_of_ble_eq_true (by kernel_rfl), ?_, ?_, ?_⟩
  · intro k t ht g hg
    have hg : g ∈ [600, 601] := hg
    simp only [LA, List.mem_cons, List.not_mem_nil, or_false, Prod.mk.injEq] at ht hg
    rcases hg with rfl | rfl <;> rcases ht with ⟨rfl, rfl⟩ | ⟨rfl, rfl⟩ | ⟨rfl, rfl⟩ | ⟨rfl, rfl⟩ | ⟨rfl, rfl⟩ | ⟨rfl, rfl⟩ | ⟨rfl, rfl⟩ <;> exact ⟨by omega, rfl⟩
  · intro vk t ps m ht hi
    exact apart_loop (K := fun x => eqV x (.b true true)) (by simp [eqV]) ht hi
  · show vc31 hs ls (fun x => eqV x (.b true true)) _
    rw [vc31_eq]
    exact ⟨rfl, _, 0, 0, ls, hgood, by omega, .inl ⟨rfl, rfl, fun j hj => by omega, rfl⟩⟩
end Go.Gx

/- The table of the digits' laws. -/
namespace Go.Gx
open Go.Proofs Go.Sp
def Γ23 : Tab := ⟨tys, [(31, apartCtr .i64 apartS)] ++ Γ21r.ctr, [0], gh⟩
theorem Γ23_ok : TabOk Tryd.prog Γ23 := Γ21r_ok.cons apart_ok
end Go.Gx

/- Of ScalarNafs, for every input and in every world that holds the program's table as its text lays it: the call returns true, its arguments read as before and nothing else old has turned. No condition besides. -/
namespace Go.Gx
open Go.Proofs Go.Sp Go.RowKit
open Go.Sp (prI mlL adL sbL pwL)
set_option linter.unusedVariables false

def vc6 (a0 a1 a2 a3 x : Int) (K : SV → Prop) (Q : Nat → List Pv → Prop) : Prop := fnVc Γ23 Tryd.f6 [] [.arr .u64 4 true [a0, a1, a2, a3], .i .i64 ⟨false, x⟩] gh K Q

theorem vc6_eq : ∀ (a0 a1 a2 a3 x : Int) (K : SV → Prop) (Q : Nat → List Pv → Prop), vc6 a0 a1 a2 a3 x K Q = ∀ (x1 : List Int), x1 = nafL (val4 [a0, a1, a2, a3] % (7237005577332262213973186563042994240857116359379907606001950938285454250989 : Int)) x → AllR IntKind.i64 x1 → ∀ (x2 : Int), x2 = ↑(nafL (val4 [a0, a1, a2, a3] % (7237005577332262213973186563042994240857116359379907606001950938285454250989 : Int)) x).length → (0 : Int) ≤ x2 → InR IntKind.i64 x2 → ∀ (x3 : Int), x3 = nafE x → InR IntKind.i64 x3 → ∀ (x4 : Int), x4 = w0 (sbL (0 : Int) (val4 [a0, a1, a2, a3])) → InR IntKind.u64 x4 → ∀ (x5 : Int), x5 = w1 (sbL (0 : Int) (val4 [a0, a1, a2, a3])) → InR IntKind.u64 x5 → ∀ (x6 : Int), x6 = w2 (sbL (0 : Int) (val4 [a0, a1, a2, a3])) → InR IntKind.u64 x6 → ∀ (x7 : Int), x7 = w3 (sbL (0 : Int) (val4 [a0, a1, a2, a3])) → InR IntKind.u64 x7 → ∀ (x8 : List Int), x8 = nafL (val4 [x4, x5, x6, x7] % (7237005577332262213973186563042994240857116359379907606001950938285454250989 : Int)) x → AllR IntKind.i64 x8 → ∀ (x9 : Int), x9 = ↑(nafL (val4 [x4, x5, x6, x7] % (7237005577332262213973186563042994240857116359379907606001950938285454250989 : Int)) x).length → (0 : Int) ≤ x9 → InR IntKind.i64 x9 → ∀ (x10 : Int), x10 = nafE x → InR IntKind.i64 x10 → ∀ (x11 : List Int), x11 = nafL (val4 [a0, a1, a2, a3] % (7237005577332262213973186563042994240857116359379907606001950938285454250989 : Int)) x → AllR IntKind.i64 x11 → ∀ (x12 : Int), x12 = ↑(nafL (val4 [a0, a1, a2, a3] % (7237005577332262213973186563042994240857116359379907606001950938285454250989 : Int)) x).length → (0 : Int) ≤ x12 → InR IntKind.i64 x12 → ∀ (x13 : Int), x13 = nafE x → InR IntKind.i64 x13 → ∀ (x14 : Int), x14 = w0 (val4 [a0, a1, a2, a3] % (7237005577332262213973186563042994240857116359379907606001950938285454250989 : Int)) → InR IntKind.u64 x14 → ∀ (x15 : Int), x15 = w1 (val4 [a0, a1, a2, a3] % (7237005577332262213973186563042994240857116359379907606001950938285454250989 : Int)) → InR IntKind.u64 x15 → ∀ (x16 : Int), x16 = w2 (val4 [a0, a1, a2, a3] % (7237005577332262213973186563042994240857116359379907606001950938285454250989 : Int)) → InR IntKind.u64 x16 → ∀ (x17 : Int), x17 = w3 (val4 [a0, a1, a2, a3] % (7237005577332262213973186563042994240857116359379907606001950938285454250989 : Int)) → InR IntKind.u64 x17 → ∀ (x18 : List Int), x18 = nafL (val4 [x14, x15, x16, x17]) x → AllR IntKind.i64 x18 → ∀ (x19 : Int), x19 = ↑(nafL (val4 [x14, x15, x16, x17]) x).length → (0 : Int) ≤ x19 → InR IntKind.i64 x19 → ∀ (x20 : Int), x20 = nafE x → InR IntKind.i64 x20 → ((x3 == x20) = true → Need ((0 : Int) + x2 ≤ ↑x1.length) ∧ Need ((0 : Int) + x19 ≤ ↑x18.length) ∧ ∀ (x21 : Bool), x21 = (List.take x2.toNat (List.drop (0 : Nat) x1) == List.take x19.toNat (List.drop (0 : Nat) x18)) → (x21 = true → Need ((0 : Int) + x12 ≤ ↑x11.length) ∧ Need ((0 : Int) + x19 ≤ ↑x18.length) ∧ ∀ (x22 : Bool), x22 = (List.take x12.toNat (List.drop (0 : Nat) x11) == List.take x19.toNat (List.drop (0 : Nat) x18)) → (x22 = true → Need (apGood [((0 : Nat), x2.toNat), ((1 : Nat), x9.toNat), ((2 : Nat), x12.toNat)] [x1, x8, x11]) ∧ K (SV.b true true)) ∧ (x22 = false → K (SV.b true false))) ∧ (x21 = false → K (SV.b true false))) ∧ ((x3 == x20) = false → K (SV.b true false)) := by
  intros
  kernel_rfl


namespace ScalarNafs

theorem good3 {A B C : List Int} (hA : A.length ≤ 1000000) (hB : B.length ≤ 1000000) (hC : C.length ≤ 1000000) : apGood [((0 : Nat), ((A.length : Nat) : Int).toNat), ((1 : Nat), ((B.length : Nat) : Int).toNat), ((2 : Nat), ((C.length : Nat) : Int).toNat)] [A, B, C] := by
  refine ⟨rfl, by show 3 ≤ 1000; omega, fun i hi => ?_⟩
  have hi : i < 3 := hi
  have : i = 0 ∨ i = 1 ∨ i = 2 := by omega
  rcases this with rfl | rfl | rfl
  · exact ⟨rfl, hA⟩
  · exact ⟨rfl, hB⟩
  · exact ⟨rfl, hC⟩
theorem nfs_len (n w : Int) : ∀ (m : Nat) (i c : Int) (l : List Int), (nfs n w m i c l).length = l.length
  | 0, _, _, _ => rfl
  | m + 1, i, c, l => by
    unfold nfs
    split
    · split
      · exact nfs_len n w m _ _ _
      · split
        · rw [nfs_len n w m]; simp
        · rw [nfs_len n w m]; simp
    · rfl
theorem short (n w : Int) : (nafL n w).length ≤ 1000000 := by
  unfold nafL
  split
  · exact Nat.zero_le _
  · rw [nfs_len, List.length_replicate]; omega
theorem law (W : World) (hG : Glob gh W fun _ => False) (l0 : List Int) (hl0 : l0.length = 4) (hr0 : AllR .u64 l0) (x : Int) (hr1 : InR .i64 x) :
    Calls Tryd.prog 6 #[.agg (l0.map (Value.int .u64)).toArray, .int .i64 x] W fun e w' => e = .returned (.bool true) ∧ Below W.heap.size W w' := by
  obtain ⟨a0, a1, a2, a3, rfl⟩ := len4 hl0
  have ia0 := hr0 a0 (by simp); have ia1 := hr0 a1 (by simp); have ia2 := hr0 a2 (by simp); have ia3 := hr0 a3 (by simp)
  refine law_calls (f := 6) (fn := Tryd.f6) (args := [.arr .u64 4 true [a0, a1, a2, a3], .i .i64 ⟨false, x⟩]) (vs := [.agg ([a0, a1, a2, a3].map (Value.int .u64)).toArray, .int .i64 x]) (K := fun x => ∃ e, x = .b e true)
    Γ23_ok rfl rfl (vc_noloops ?_) (Nat.le_of_ble_eq_true (by kernel_rfl)) hG ⟨_, _, ⟨rfl, hr0, rfl⟩, rfl, _, _, ⟨rfl, hr1⟩, rfl, rfl⟩ (fun _ h => h)
  show vc6 a0 a1 a2 a3 x _ _
  rw [vc6_eq]
  rw [← ell_lit]
  have hn : val4 [w0 (val4 [a0, a1, a2, a3] % ell), w1 (val4 [a0, a1, a2, a3] % ell), w2 (val4 [a0, a1, a2, a3] % ell), w3 (val4 [a0, a1, a2, a3] % ell)] = val4 [a0, a1, a2, a3] % ell := (val_mod (val4 [a0, a1, a2, a3])).1
  generalize val4 [a0, a1, a2, a3] % ell = n at *
  rintro x1 rfl _ x2 rfl _ _ x3 rfl _ x4 rfl _ x5 rfl _ x6 rfl _ x7 rfl _ x8 rfl _ x9 rfl _ _ x10 rfl _ x11 rfl _ x12 rfl _ _ x13 rfl _ x14 rfl _ x15 rfl _ x16 rfl _ x17 rfl _
  rw [hn]
  rintro x18 rfl _ x19 rfl _ _ x20 rfl _
  refine ⟨fun _ => ⟨need_of (by omega), need_of (by omega), fun x21 e21 => ⟨fun _ => ⟨need_of (by omega), need_of (by omega), fun x22 e22 => ⟨fun _ => ⟨need_of (good3 (short _ _) (short _ _) (short _ _)), true, rfl⟩, fun h => ?_⟩⟩, fun h => ?_⟩⟩, fun h => ?_⟩
  · rw [e22, beq_self_eq_true] at h; cases h
  · rw [e21, beq_self_eq_true] at h; cases h
  · rw [beq_self_eq_true] at h; cases h
end ScalarNafs

namespace ScalarNafs
open Go.Proofs.YtnjcbedjhokfhaaDoor
open Go.ChangeShapes Go.WideShapes Go.ChangeAt Go.RowKit
theorem reads (t : Nat) (h : t ∈ Tryd.f6.params.toList) : Tryd.prog.readableRec t = true ∧ t < Tryd.prog.types.size := by
  have hp : Tryd.f6.params.toList = [24, 3] := by kernel_rfl
  rw [hp] at h
  simp only [List.mem_cons, List.not_mem_nil, or_false] at h
  rcases h with rfl | rfl <;> exact ⟨by kernel_rfl, Nat.le_of_ble_eq_true (by kernel_rfl)⟩

set_option maxRecDepth 100000 in
/-- What the call gives, for every argument and every world that holds the table. -/
theorem contract (H : Type) (enc : TypeId × Value → H) (W : World) (base : Nat) (args : Array Value) (ds gs : List (DataW H)) (before : List MemPlace)
    (hval : ∀ (j : Nat) t v, Tryd.f6.params[j]? = some t → args[j]? = some v → Value.okWide Tryd.prog W .any base t v)
    (hW : DataW.Whole enc Tryd.prog Tryd.f6.params.toList Rows.scalarNafsSpec.vars false W args.toList ds gs before) (hL : laidMetH Tryd.prog Rows.scalarNafsRow.laid W) :
    Calls Tryd.prog 6 args W fun e W' => ∃ v, e = .returned v ∧ Rows.scalarNafsSpec.post enc Tryd.prog Tryd.f6 false true false false W args v W' := by
  have hA : DataW.TrodAll enc Tryd.prog W 0 (fun _ => true) true [24, 3] args.toList ds _ := hW.choose_spec.choose_spec.1
  obtain ⟨v0, vs0, d0, ds0, p0, q0, hargs, _, _, h0, r0⟩ := trodAll_cons hA
  obtain ⟨v1, vs1, d1, ds1, p1, q1, rfl, _, _, h1, r1⟩ := trodAll_cons r0
  obtain ⟨rfl, _, _⟩ := trodAll_nil r1
  obtain rfl : args = #[v0, v1] := by cases args; simp_all
  have hp : Tryd.f6.params = #[24, 3] := by kernel_rfl
  rw [hp] at hval
  obtain ⟨l0, hl0, hr0, rfl⟩ := arr_arg (n := 4) (e := 22) (k := .u64) (by kernel_rfl) (by kernel_rfl) (by kernel_rfl) (by kernel_rfl) (hval 0 24 v0 rfl rfl)
  obtain ⟨z1, rfl, hr1⟩ := int_arg (k := .i64) (by kernel_rfl) (hval 1 3 v1 rfl rfl)
  refine (law W (tab_glob hL) l0 hl0 hr0 z1 hr1).mono fun e W' ⟨he, hB⟩ => ?_
  subst he
  refine ⟨_, rfl, post_true (tb := 4) laidOut rfl (by kernel_rfl) (by kernel_rfl) reads ?_ hW hB⟩
  intro ds hds
  have hds : ds.length = 2 := hds
  match ds, hds with
  | [a0, a1], _ => exact ⟨rfl, rfl, rfl⟩

def wargs : Array Value := #[.agg #[.int .u64 0, .int .u64 0, .int .u64 0, .int .u64 0], .int .i64 0]
theorem laid_met (os : Os) : laidMet Tryd.prog Rows.scalarNafsRow.laid ((laidWorld os).forCall (fun _ _ => 0) ⟨#[], wargs, []⟩).memory :=
  laidMet_of_run' 8 (by kernel_rfl) (by kernel_rfl)
theorem reads0 (os : Os) {H : Type} (enc : TypeId × Value → H) : ∃ places, DataW.whole enc Tryd.prog ((laidWorld os).forCall (fun _ _ => 0) ⟨#[], wargs, []⟩).memory Tryd.f6.params.toList Rows.scalarNafsSpec.vars false wargs.toList 8 = some ([.agg [.lit (.int .u64 0), .lit (.int .u64 0), .lit (.int .u64 0), .lit (.int .u64 0)], .lit (.int .i64 0)], [], places) :=
  ⟨[], by kernel_rfl⟩

set_option maxRecDepth 100000 in
theorem lifted (os : Os) (started : os.Started) (H : Type) (enc : TypeId × Value → H) (F : Stop.Interp) :
    ReturnsInHanded {} Tryd.checked os 6 .any ((OpenSpec.ofChange Rows.scalarNafsSpec).preRow enc Tryd.prog Tryd.f6 Rows.scalarNafsRow.domain false Rows.scalarNafsRow.laid) (((OpenSpec.ofChange Rows.scalarNafsSpec).at F).post enc Tryd.prog Tryd.f6 false true false false) := by
  obtain ⟨places, hx⟩ := reads0 os enc
  refine returnsInHanded_of_row (C := Tryd.checked) (s := OpenSpec.ofChange Rows.scalarNafsSpec) own started (by kernel_rfl) Tryd.func6
    (witness_row_at (enc := enc) (C := Tryd.checked) false (laidWorld os) wargs rfl (by kernel_rfl) (by kernel_rfl) (by kernel_rfl)
      (OpenSpec.preRow_of_cond 8 hx (by kernel_rfl) (fun k hk => by cases hk) (by kernel_rfl) (laid_met os))) ?_
  intro W base args ds gs before hval hW _ _ _ hL _ _
  exact contract H enc W base args ds gs before hval hW hL

theorem said : Rows.ScalarNafsSaid :=
  OpenClaim.holds_of_cond 6 Tryd.f6 rfl rfl rfl rfl rfl rfl rfl ⟨rfl, rfl, rfl, rfl, rfl⟩ rfl rfl rfl rfl rfl (by kernel_rfl) Tryd.func6 (by kernel_rfl)
    (of_decide_eq_true (by kernel_rfl)) (by unfold Func.isWrapper; first | (rw [if_pos (by decide +kernel)]; kernel_rfl) | (rw [if_neg (by decide +kernel)]; exact ⟨rfl, rfl⟩))
    (fun os started H enc _ F => by rw [OpenClaim.pre_eq_preRow]; exact lifted os started H enc F)

theorem plain (f : FuncId) (fn : Func) (hf : Tryd.pinned.checked.prog.funcNamed "veil/veillaw02.ScalarNafs" = some f) (hfn : Tryd.pinned.checked.prog.funcs[f]? = some fn) :
    false = Tryd.pinned.checked.prog.looks [] ∧ ∀ (j : Nat) t, fn.params[j]? = some t → Tryd.pinned.checked.prog.wantsStandIn t = false := by
  obtain rfl : f = 6 := Option.some.inj ((show Tryd.prog.funcNamed "veil/veillaw02.ScalarNafs" = some 6 by kernel_rfl).symm.trans hf) |>.symm
  obtain rfl : fn = Tryd.f6 := (Option.some.inj (Tryd.func6.symm.trans hfn)).symm
  refine ⟨by kernel_rfl, fun j t ht => ?_⟩
  have hp : Tryd.f6.params = #[24, 3] := by kernel_rfl
  rw [hp] at ht
  have := Array.mem_of_getElem? ht
  simp only [List.mem_toArray, List.mem_cons, List.not_mem_nil, or_false] at this
  rcases this with rfl | rfl <;> exact (show Tryd.prog.wantsStandIn _ = false by kernel_rfl)

theorem card : Rows.ScalarNafsCardSaid :=
  Claim7.holds_tied_plain_at .later [] _ _ _ _ said (fun _ h => by cases h) (by kernel_rfl) (fun _ h => by cases h) scalarNafs_row_tie rfl ⟨rfl, rfl⟩ (by kernel_rfl) rfl plain (by kernel_rfl)
end ScalarNafs

end Go.Gx

namespace Go.Proofs.YtnjcbedjhokfhaaDoor
theorem scalarNafsProved : Rows.ScalarNafsCardSaid := Go.Gx.ScalarNafs.card
end Go.Proofs.YtnjcbedjhokfhaaDoor
#print axioms Go.Proofs.YtnjcbedjhokfhaaDoor.scalarNafsProved
