/- A region's operations in every order. -/
import Derived.Test.YtihihilhfijloaaDoorChain
namespace Go.Gx
open Go.RowKit
set_option linter.unusedVariables false

/-- A writing of some keys. -/
structure Wr (α : Type) where
  f : (Nat → α) → Nat → α
  W : Nat → Prop
  out : ∀ F k, ¬ W k → f F k = F k
  inn : ∀ F G k, W k → f F k = f G k

def foldG {α : Type} (S : Nat → Bool) : Nat → List (Wr α) → (Nat → α) → Nat → α
  | _, [], F => F
  | i, x :: l, F => foldG S (i + 1) l (if S i = true then x.f F else F)

section
variable {α : Type}

theorem foldG_miss {S : Nat → Bool} {k : Nat} : ∀ (l : List (Wr α)) (i : Nat) (F : Nat → α), (∀ j x, l[j]? = some x → S (i + j) = true → ¬ x.W k) → foldG S i l F k = F k
  | [], i, F, _ => rfl
  | x :: l, i, F, h => by
    simp only [foldG]
    rw [foldG_miss l (i + 1) _ (fun j y hy hs => h (j + 1) y (by simpa using hy) (by rwa [show i + (j + 1) = i + 1 + j by omega]))]
    split
    · rename_i hs
      exact x.out F k (h 0 x rfl hs)
    · rfl

theorem foldG_agree {S S' : Nat → Bool} {k : Nat} : ∀ (l : List (Wr α)) (i : Nat) (F G : Nat → α), F k = G k → (∀ j x, l[j]? = some x → S (i + j) ≠ S' (i + j) → ¬ x.W k) → foldG S i l F k = foldG S' i l G k
  | [], i, F, G, h, _ => h
  | x :: l, i, F, G, h, hd => by
    simp only [foldG]
    refine foldG_agree l (i + 1) _ _ ?_ (fun j y hy hs => hd (j + 1) y (by simpa using hy) (by rwa [show i + (j + 1) = i + 1 + j by omega]))
    have h0 := hd 0 x rfl
    simp only [Nat.add_zero] at h0
    by_cases h1 : S i = true <;> by_cases h2 : S' i = true
    · rw [if_pos h1, if_pos h2]
      by_cases hw : x.W k
      · exact x.inn F G k hw
      · rw [x.out F k hw, x.out G k hw, h]
    · rw [if_pos h1, if_neg h2, x.out F k (h0 (by rw [h1]; exact fun e => h2 e.symm)), h]
    · rw [if_neg h1, if_pos h2, x.out G k (h0 (by rw [h2]; exact h1)), h]
    · rw [if_neg h1, if_neg h2, h]

theorem foldG_hit {S : Nat → Bool} {k : Nat} : ∀ (l : List (Wr α)) (i : Nat) (F G : Nat → α) (q : Nat) (x : Wr α), l[q]? = some x → S (i + q) = true → x.W k → (∀ j y, q < j → l[j]? = some y → S (i + j) = true → ¬ y.W k) → foldG S i l F k = x.f G k
  | [], i, F, G, q, x, h, _, _, _ => by simp at h
  | y :: l, i, F, G, 0, x, h, hs, hw, hl => by
    simp only [List.getElem?_cons_zero, Option.some.injEq] at h
    subst h
    simp only [Nat.add_zero] at hs
    simp only [foldG]
    rw [foldG_miss l (i + 1) _ (fun j z hz hs => hl (j + 1) z (by omega) (by simpa using hz) (by rwa [show i + (j + 1) = i + 1 + j by omega])), if_pos hs]
    exact y.inn F G k hw
  | y :: l, i, F, G, q + 1, x, h, hs, hw, hl => by
    simp only [foldG]
    exact foldG_hit l (i + 1) _ G q x (by simpa using h) (by rwa [show i + 1 + q = i + (q + 1) by omega]) hw
      (fun j z hj hz hs => hl (j + 1) z (by omega) (by simpa using hz) (by rwa [show i + (j + 1) = i + 1 + j by omega]))

theorem foldG_insert {S S' : Nat → Bool} (l : List (Wr α)) (F : Nat → α) (q : Nat) (x : Wr α) (hx : l[q]? = some x) (hS : ∀ j, S' j = (S j || j == q))
    (hl : ∀ j y k, q < j → l[j]? = some y → S j = true → x.W k → ¬ y.W k) : foldG S' 0 l F = x.f (foldG S 0 l F) := by
  funext k
  by_cases hw : x.W k
  · refine foldG_hit l 0 F _ q x hx (by rw [hS]; simp) hw (fun j y hj hy hs => ?_)
    rw [Nat.zero_add, hS] at hs
    have hne : (j == q) = false := by simp; omega
    rw [hne, Bool.or_false] at hs
    exact hl j y k hj hy hs hw
  · rw [x.out _ k hw]
    refine foldG_agree l 0 F F rfl (fun j y hy hd => ?_)
    rw [Nat.zero_add, hS] at hd
    by_cases e : j = q
    · subst e; rw [hx] at hy; simp only [Option.some.injEq] at hy; subst hy; exact hw
    · have : (j == q) = false := by simpa using e
      rw [this, Bool.or_false] at hd; exact absurd rfl hd

theorem foldG_none {S : Nat → Bool} : ∀ (l : List (Wr α)) (i : Nat) (F : Nat → α), (∀ j, i ≤ j → S j = false) → foldG S i l F = F
  | [], i, F, _ => rfl
  | x :: l, i, F, h => by
    simp only [foldG]
    rw [h i (Nat.le_refl _)]
    simp only [Bool.false_eq_true, if_false]
    exact foldG_none l (i + 1) F fun j hj => h j (by omega)

end

def wrT (p : Oper × Res) : Wr SV where
  f := fun T => putT T p.1.dst p.2.v
  W := fun t => p.1.dst = some t
  out := fun T k h => by
    cases hd : p.1.dst with
    | none => rfl
    | some t =>
      simp only [putT]
      rw [if_neg]
      intro e; subst e; exact h hd
  inn := fun T G k h => by rw [h]; simp [putT]

theorem updsH_notin : ∀ (ws : List (Nat × SB)) (H : Nat → Option SB) (k : Nat), k ∉ keysOf ws → updsH H ws k = H k
  | [], H, k, _ => rfl
  | (k', b) :: r, H, k, h => by
    simp only [keysOf, List.mem_cons, not_or] at h
    simp only [updsH]
    rw [updsH_notin r _ k h.2, updH_ne h.1]

theorem updsH_in : ∀ (ws : List (Nat × SB)) (H G : Nat → Option SB) (k : Nat), k ∈ keysOf ws → updsH H ws k = updsH G ws k
  | (k', b) :: r, H, G, k, h => by
    simp only [updsH]
    by_cases hk : k ∈ keysOf r
    · exact updsH_in r _ _ k hk
    · simp only [keysOf, List.mem_cons] at h
      have e : k = k' := h.resolve_right hk
      subst e
      rw [updsH_notin r _ k hk, updsH_notin r _ k hk, updH_same, updH_same]

def wrH (p : Oper × Res) : Wr (Option SB) where
  f := fun H => updsH H p.2.ws
  W := fun k => k ∈ keysOf p.2.ws
  out := fun H k h => updsH_notin _ _ _ h
  inn := fun H G k h => updsH_in _ _ _ _ h

def upto (q : Nat) : Nat → Bool := fun j => decide (j < q)

section
variable {P : Program} {Γ : Tab} {w0 : World} {M : Nat → Prop} {ρ0 ρ : Nat → Pl} {H0 : Nat → Option SB} {n : Nat} {all : List Oper}

theorem chain_at : ∀ (l : List Oper) (i stamp : Nat) (T : Nat → SV) (H : Nat → Option SB) (rl : List Res), ChainOk Γ all n l stamp T H rl → ∀ q o x, (l.zip rl)[q]? = some (o, x) →
    OpRes Γ all o (stamp + q) (foldG (upto (i + q)) i ((l.zip rl).map wrT) T) (foldG (upto (i + q)) i ((l.zip rl).map wrH) H) x ∧ ∀ t, o.dst = some t → t < n
  | [], i, stamp, T, H, rl, h, q, o, x, hq => by simp at hq
  | o' :: r, i, stamp, T, H, rl, h, q, o, x, hq => by
    obtain ⟨x', rl', rfl, h1, h2, h3⟩ := h
    cases q with
    | zero =>
      simp only [List.zip_cons_cons, List.getElem?_cons_zero, Option.some.injEq, Prod.mk.injEq] at hq
      obtain ⟨rfl, rfl⟩ := hq
      refine ⟨?_, h2⟩
      rw [foldG_none, foldG_none]
      · exact h1
      · intro j hj; exact decide_eq_false (by omega)
      · intro j hj; exact decide_eq_false (by omega)
    | succ q =>
      simp only [List.zip_cons_cons, List.getElem?_cons_succ] at hq
      have := chain_at r (i + 1) (stamp + 1) _ _ rl' h3 q o x hq
      simp only [List.zip_cons_cons, List.map_cons, foldG]
      have e1 : upto (i + (q + 1)) i = true := decide_eq_true (by omega)
      rw [e1]
      simp only [if_true]
      rw [show i + (q + 1) = i + 1 + q by omega, show stamp + (q + 1) = stamp + 1 + q by omega]
      exact this

theorem foldT_all : ∀ (l : List Oper) (rl : List Res) (i : Nat) (S : Nat → Bool) (T : Nat → SV), rl.length = l.length → (∀ j, i ≤ j → j < i + l.length → S j = true) → foldG S i ((l.zip rl).map wrT) T = finT l rl T
  | [], rl, i, S, T, hl, h => by cases rl <;> simp_all [foldG, finT]
  | o :: r, [], i, S, T, hl, h => by simp at hl
  | o :: r, x :: rl, i, S, T, hl, h => by
    simp only [List.zip_cons_cons, List.map_cons, foldG, finT]
    rw [h i (Nat.le_refl _) (by simp)]
    simp only [if_true]
    exact foldT_all r rl (i + 1) S _ (by simpa using hl) fun j h1 h2 => h j (by omega) (by simp; omega)

theorem foldH_all : ∀ (l : List Oper) (rl : List Res) (i : Nat) (S : Nat → Bool) (H : Nat → Option SB), rl.length = l.length → (∀ j, i ≤ j → j < i + l.length → S j = true) → foldG S i ((l.zip rl).map wrH) H = finH rl H
  | [], rl, i, S, H, hl, h => by cases rl <;> simp_all [foldG, finH]
  | o :: r, [], i, S, H, hl, h => by simp at hl
  | o :: r, x :: rl, i, S, H, hl, h => by
    simp only [List.zip_cons_cons, List.map_cons, foldG, finH]
    rw [h i (Nat.le_refl _) (by simp)]
    simp only [if_true]
    exact foldH_all r rl (i + 1) S _ (by simpa using hl) fun j h1 h2 => h j (by omega) (by simp; omega)

/-! ### Footprints -/

theorem disj_spec : ∀ {l r : List Nat}, disj l r = true → ∀ x ∈ l, x ∉ r
  | [], r, _, x, hx => by cases hx
  | y :: l, r, h, x, hx => by
    simp only [disj, Bool.and_eq_true, Bool.not_eq_true'] at h
    rcases List.mem_cons.1 hx with rfl | hx
    · intro hm; rw [memN_iff.2 hm] at h; cases h.1
    · exact disj_spec h.2 x hx

theorem mem_tmpsIn : ∀ {l : List Operand} {t : Nat}, Operand.tmp t ∈ l → t ∈ tmpsIn l
  | x :: r, t, h => by
    rcases List.mem_cons.1 h with rfl | h
    · simp [tmpsIn]
    · have := mem_tmpsIn h
      cases x <;> simp [tmpsIn, this]

theorem evalF_same {gl : List Nat} {T T' : Nat → SV} {all : List Oper} {o : Oper} (h : ∀ t ∈ looks all o, T' t = T t) : ∀ x ∈ o.op.operands, evalF gl T' x = evalF gl T x := fun x hx => by
  cases x with
  | tmp t => exact h t (by unfold looks; exact List.mem_append_right _ (mem_tmpsIn (by simpa using hx)))
  | _ => rfl

theorem wantF_same {T T' : Nat → SV} {o : Oper} (h : ∀ t ∈ looks all o, T' t = T t) : wantF all o T' = wantF all o T := by
  unfold wantF
  cases hg : o.guard with
  | none => rfl
  | some p =>
    obtain ⟨j, want⟩ := p
    simp only
    cases hj : nth all j with
    | none => rfl
    | some oj =>
      simp only
      cases hd : oj.dst with
      | none => rfl
      | some t =>
        simp only
        rw [h t (by simp [looks, hg, hj, hd])]

theorem OpRes.same {o : Oper} {stamp : Nat} {T T' : Nat → SV} {H H' : Nat → Option SB} {x : Res} (hx : OpRes Γ all o stamp T H x) (h : ∀ t ∈ looks all o, T' t = T t) (hk : ∀ k ∈ x.rs, H' k = H k) : OpRes Γ all o stamp T' H' x := by
  rcases hx with ⟨h1, rfl⟩ | ⟨h1, d, h2, h3⟩
  · exact .inl ⟨by rw [wantF_same h]; exact h1, rfl⟩
  · refine .inr ⟨by rw [wantF_same h]; exact h1, d, ?_, h3⟩
    rw [sop_congr (evalF_same h)]
    exact RP.local _ _ _ _ h2 hk

/-- Neither touches what the other one does. -/
structure Apart (all : List Oper) (o : Oper) (fo : Foot) (o' : Oper) (fo' : Foot) : Prop where
  d1 : ∀ t, o.dst = some t → o'.dst ≠ some t ∧ t ∉ looks all o'
  d2 : ∀ t, o'.dst = some t → t ∉ looks all o
  k1 : ∀ k ∈ fo.2, k ∉ fo'.1 ∧ k ∉ fo'.2
  k2 : ∀ k ∈ fo'.2, k ∉ fo.1

theorem apart2_spec {o o' : Oper} {fo fo' : Foot} (h : apart2 all o fo o' fo' = true) : Apart all o fo o' fo' := by
  unfold apart2 at h
  simp only [Bool.and_eq_true] at h
  obtain ⟨⟨⟨h1, h2⟩, h3⟩, h4⟩ := h
  refine ⟨fun t ht => ?_, fun t ht => ?_, fun k hk => ?_, fun k hk => disj_spec h4 k hk⟩
  · have := disj_spec h1 t (by simp [ht])
    simp only [List.mem_append, not_or] at this
    exact ⟨fun e => this.1 (by simp [e]), this.2⟩
  · exact disj_spec h2 t (by simp [ht])
  · have := disj_spec h3 k hk
    simp only [List.mem_append, not_or] at this
    exact this

theorem apartAll_spec {o : Oper} {fo : Foot} {mask : Nat} : ∀ (l : List Oper) (f : List Foot) (i : Nat), apartAll all o fo mask i l f = true → ∀ j o' fo', l[j]? = some o' → f[j]? = some fo' → Nat.testBit mask (i + j) = true ∨ Apart all o' fo' o fo
  | [], f, i, h, j, o', fo', hj, hf => by simp at hj
  | o1 :: l, [], i, h, j, o', fo', hj, hf => by simp at hf
  | o1 :: l, f1 :: f, i, h, j, o', fo', hj, hf => by
    simp only [apartAll, Bool.and_eq_true, Bool.or_eq_true] at h
    cases j with
    | zero =>
      simp only [List.getElem?_cons_zero, Option.some.injEq] at hj hf
      subst hj hf
      exact h.1.imp (fun h => by simpa using h) apart2_spec
    | succ j =>
      have := apartAll_spec l f (i + 1) h.2 j o' fo' (by simpa using hj) (by simpa using hf)
      rwa [show i + 1 + j = i + (j + 1) by omega] at this

theorem drawOk_spec : ∀ (l : List Oper) (i : Nat) (ms : List Nat) (fs fr : List Foot), drawOk all i l ms fs fr = true → fs.length = i → (∀ j, l[j]? = all[i + j]?) →
    ∀ q o m fo, l[q]? = some o → ms[q]? = some m → fr[q]? = some fo → ∀ j o' fo', j < i + q → all[j]? = some o' → (fs ++ fr)[j]? = some fo' → Nat.testBit m j = true ∨ Apart all o' fo' o fo
  | [], i, ms, fs, fr, h, hl, ha, q, o, m, fo, hq, _, _, _, _, _, _, _, _ => by simp at hq
  | o1 :: l, i, [], fs, fr, h, hl, ha, q, o, m, fo, hq, hm, _, _, _, _, _, _, _ => by simp at hm
  | o1 :: l, i, m1 :: ms, fs, [], h, hl, ha, q, o, m, fo, hq, hm, hf, _, _, _, _, _, _ => by simp at hf
  | o1 :: l, i, m1 :: ms, fs, f1 :: fr, h, hl, ha, q, o, m, fo, hq, hm, hf, j, o', fo', hj, hoj, hfj => by
    simp only [drawOk, Bool.and_eq_true] at h
    cases q with
    | zero =>
      simp only [List.getElem?_cons_zero, Option.some.injEq] at hq hm hf
      subst hq hm hf
      have := apartAll_spec _ _ 0 h.1 j o' fo' (by rw [List.getElem?_take, if_pos (by omega)]; exact hoj) (by rw [List.getElem?_append_left (by omega)] at hfj; exact hfj)
      rwa [Nat.zero_add] at this
    | succ q =>
      refine drawOk_spec l (i + 1) ms (fs ++ [f1]) fr h.2 (by simp [hl]) (fun j => ?_) q o m fo (by simpa using hq) (by simpa using hm) (by simpa using hf) j o' fo' (by omega) hoj (by simpa using hfj)
      have := ha (j + 1)
      simp only [List.getElem?_cons_succ] at this
      rw [this]; congr 1; omega

/-! ### Edges -/

theorem maskOf_bits {acc : List Nat} {j : Nat} : ∀ (es : List Edge) (s : Nat), Nat.testBit (maskOf acc es s) j = true → Nat.testBit s j = true ∨ ∃ e ∈ es, Region.binds .any e = true ∧ (j = e.on ∨ Nat.testBit (acc.getD e.on 0) j = true)
  | [], s, h => .inl h
  | e :: r, s, h => by
    simp only [maskOf] at h
    split at h
    · rename_i hb
      rcases maskOf_bits r _ h with h | ⟨e', h1, h2⟩
      · simp only [Nat.testBit_or, Bool.or_eq_true] at h
        rcases h with (h | h) | h
        · exact .inl h
        · rw [Nat.testBit_two_pow] at h
          exact .inr ⟨e, by simp, hb, .inl (Eq.symm (by simpa using h))⟩
        · exact .inr ⟨e, by simp, hb, .inr h⟩
      · exact .inr ⟨e', by simp [h1], h2⟩
    · rcases maskOf_bits r _ h with h | ⟨e', h1, h2⟩
      · exact .inl h
      · exact .inr ⟨e', by simp [h1], h2⟩

theorem masks_acc : ∀ (l : List Oper) (acc : List Nat), ∃ r, masks l acc = acc ++ r ∧ r.length = l.length
  | [], acc => ⟨[], by simp [masks], rfl⟩
  | o :: l, acc => by
    obtain ⟨r, h1, h2⟩ := masks_acc l (acc ++ [maskOf acc o.after.toList 0])
    exact ⟨maskOf acc o.after.toList 0 :: r, by simp only [masks]; rw [h1]; simp, by simp [h2]⟩

theorem masks_at : ∀ (l : List Oper) (acc : List Nat) (q : Nat) (o : Oper), l[q]? = some o → (masks l acc)[acc.length + q]? = some (maskOf ((masks l acc).take (acc.length + q)) o.after.toList 0)
  | [], acc, q, o, h => by simp at h
  | o' :: l, acc, 0, o, h => by
    simp only [List.getElem?_cons_zero, Option.some.injEq] at h
    subst h
    simp only [masks]
    obtain ⟨r, h1, h2⟩ := masks_acc l (acc ++ [maskOf acc o'.after.toList 0])
    rw [h1]
    simp
  | o' :: l, acc, q + 1, o, h => by
    simp only [masks]
    have := masks_at l (acc ++ [maskOf acc o'.after.toList 0]) q o (by simpa using h)
    simp only [List.length_append, List.length_cons, List.length_nil] at this
    rwa [show acc.length + (0 + 1) + q = acc.length + (q + 1) by omega] at this

/-- Is a set closed under what binds? -/
def Closed (all : List Oper) (S : Nat → Bool) : Prop := ∀ j o, all[j]? = some o → S j = true → ∀ e ∈ o.after.toList, Region.binds .any e = true → S e.on = true

theorem mask_closed {S : Nat → Bool} (hS : Closed all S) : ∀ (i : Nat) (o : Oper) (m : Nat), all[i]? = some o → (masks all [])[i]? = some m → (∀ e ∈ o.after.toList, Region.binds .any e = true → S e.on = true) → ∀ j, Nat.testBit m j = true → S j = true := by
  intro i
  induction i using Nat.strongRecOn with
  | _ i ih =>
    intro o m ho hm he j hj
    have := masks_at all [] i o ho
    simp only [List.length_nil, Nat.zero_add] at this
    rw [this] at hm
    simp only [Option.some.injEq] at hm
    subst hm
    rcases maskOf_bits _ _ hj with h | ⟨e, h1, h2, h3⟩
    · simp at h
    · have hon := he e h1 h2
      rcases h3 with rfl | h3
      · exact hon
      · simp only [List.getD_eq_getElem?_getD, List.getElem?_take] at h3
        split at h3
        · rename_i hlt
          cases hme : (masks all [])[e.on]? with
          | none => rw [hme] at h3; simp at h3
          | some m' =>
            rw [hme] at h3
            simp only [Option.getD_some] at h3
            have hlen : e.on < all.length := by
              obtain ⟨r, q1, q2⟩ := masks_acc all []
              have := (List.getElem?_eq_some_iff.1 hme).1
              rw [q1] at this; simpa [q2] using this
            exact ih e.on hlt all[e.on] m' (by simp [hlen]) hme (fun e' h1' h2' => hS e.on all[e.on] (by simp [hlen]) hon e' h1' h2') j h3
        · simp at h3

theorem edgesOk_spec : ∀ (l : List Oper) (i : Nat), edgesOk i l = true → ∀ q o, l[q]? = some o → ∀ e ∈ o.after.toList, Region.binds .any e = true → e.on < i + q
  | [], i, h, q, o, hq, _, _, _ => by simp at hq
  | o' :: l, i, h, q, o, hq, e, he, hb => by
    simp only [edgesOk, Bool.and_eq_true] at h
    cases q with
    | zero =>
      simp only [List.getElem?_cons_zero, Option.some.injEq] at hq
      subst hq
      have : ∀ (es : List Edge), edgeBack i es = true → ∀ e ∈ es, Region.binds .any e = true → e.on < i := by
        intro es
        induction es with
        | nil => intro _ e he; cases he
        | cons e1 r ih =>
          intro h e he hb
          simp only [edgeBack] at h
          split at h
          · simp only [Bool.and_eq_true] at h
            rcases List.mem_cons.1 he with rfl | he
            · have := h.1; simp [Nat.blt] at this; omega
            · exact ih h.2 e he hb
          · rename_i hn
            rcases List.mem_cons.1 he with rfl | he
            · rw [hb] at hn; cases hn
            · exact ih h e he hb
      exact this _ h.1 e he hb
    | succ q =>
      have := edgesOk_spec l (i + 1) h.2 q o (by simpa using hq) e he hb
      omega

/-! ### Every order -/

theorem mem_ready {md : Region.Mode} {ops : Array Oper} {listed : Array Bool} {i : Nat} : i ∈ Region.ready md ops listed ↔ listed.getD i true = false ∧ ∃ o, ops[i]? = some o ∧ ∀ e ∈ o.after, Region.binds md e = true → listed.getD e.on false = true := by
  unfold Region.ready
  simp only [List.mem_filter, List.mem_range, Bool.and_eq_true, Bool.not_eq_true']
  constructor
  · rintro ⟨h1, h2, h3⟩
    refine ⟨h2, ops[i], by simp [h1], fun e he hb => ?_⟩
    simp only [h1, Array.getElem?_eq_getElem, Option.map_some, Option.getD_some, Array.all_eq_true'] at h3
    have := h3 e he
    simpa [hb] using this
  · rintro ⟨h2, o, ho, h3⟩
    have h1 : i < ops.size := (Array.getElem?_eq_some_iff.1 ho).1
    refine ⟨h1, h2, ?_⟩
    rw [ho]
    simp only [Option.map_some, Option.getD_some, Array.all_eq_true']
    intro e he
    by_cases hb : Region.binds md e = true
    · simp [h3 e he hb]
    · simp [hb]

def left (listed : Array Bool) : Nat := (listed.toList.filter (fun b => !b)).length

theorem left_set {listed : Array Bool} {i : Nat} (h : i < listed.size) (hf : listed[i] = false) : left (listed.setIfInBounds i true) + 1 = left listed := by
  unfold left
  rw [Array.toList_setIfInBounds]
  have : ∀ (l : List Bool) (i : Nat) (h : i < l.length), l[i] = false → ((l.set i true).filter (fun b => !b)).length + 1 = (l.filter (fun b => !b)).length := by
    intro l
    induction l with
    | nil => intro i h; simp at h
    | cons b l ih =>
      intro i h hf
      cases i with
      | zero =>
        simp only [List.getElem_cons_zero] at hf
        subst hf
        simp
      | succ i =>
        simp only [List.getElem_cons_succ] at hf
        have := ih i (by simpa using h) hf
        simp only [List.set_cons_succ, List.filter_cons]
        cases b <;> simp <;> omega
  exact this listed.toList i (by simpa using h) (by simpa using hf)

theorem left_zero {listed : Array Bool} (h : left listed = 0) : ∀ i, i < listed.size → listed.getD i false = true := fun i hi => by
  unfold left at h
  have h1 := List.eq_nil_of_length_eq_zero h
  rw [List.filter_eq_nil_iff] at h1
  have := h1 listed[i] (by simp)
  simp [Array.getD, hi] at this ⊢
  exact this

theorem getD_set (listed : Array Bool) (i j : Nat) (h : i < listed.size) : (listed.setIfInBounds i true).getD j false = (listed.getD j false || j == i) := by
  rw [Array.getD_eq_getD_getElem?, Array.getD_eq_getD_getElem?]
  by_cases e : j = i
  · subst e; simp [h]
  · have : (j == i) = false := by simpa using e
    rw [Array.getElem?_setIfInBounds_ne (Ne.symm e), this, Bool.or_false]

theorem chain_any (hΓ : TabOk P Γ) (hg : GlOk Γ w0 M ρ0 H0) {stamp : Nat} {T : Nat → SV} {H : Nat → Option SB} {rl : List Res} (hc : ChainOk Γ all n all stamp T H rl) (hrl : rl.length = all.length)
    (hed : edgesOk 0 all = true) (hdr : drawOk all 0 all (masks all []) [] (rl.map Res.foot) = true) {Q : Exit → Act → World → Prop}
    (hQ : ∀ ρ' a' w', Inv w0 M ρ0 H0 ρ' (finT all rl T) (finH rl H) n a' w' → Q .normal a' w') : ∀ (fuel : Nat) (listed : Array Bool) (ρ : Nat → Pl) (a : Act) (w : World),
    listed.size = all.length → left listed ≤ fuel → Closed all (fun j => listed.getD j false) →
    Inv w0 M ρ0 H0 ρ (foldG (fun j => listed.getD j false) 0 ((all.zip rl).map wrT) T) (foldG (fun j => listed.getD j false) 0 ((all.zip rl).map wrH) H) n a w → wpAny P .any all.toArray Q fuel listed a w := by
  have done : ∀ (listed : Array Bool) (ρ : Nat → Pl) (a : Act) (w : World), listed.size = all.length → (∀ i, i < listed.size → listed.getD i false = true) →
      Inv w0 M ρ0 H0 ρ (foldG (fun j => listed.getD j false) 0 ((all.zip rl).map wrT) T) (foldG (fun j => listed.getD j false) 0 ((all.zip rl).map wrH) H) n a w → Q .normal a w := fun listed ρ a w hs hall hi => by
    rw [foldT_all all rl 0 _ T hrl (fun j _ hj => hall j (by omega)), foldH_all all rl 0 _ H hrl (fun j _ hj => hall j (by omega))] at hi
    exact hQ ρ a w hi
  have full : ∀ (listed : Array Bool), listed.size = all.length → (∀ i, i < listed.size → listed.getD i false = true) → Region.ready .any all.toArray listed = [] := fun listed hs hall => by
    rw [List.eq_nil_iff_forall_not_mem]
    intro i hi
    obtain ⟨h1, _⟩ := mem_ready.1 hi
    by_cases hlt : i < listed.size
    · have := hall i hlt
      simp [Array.getD, hlt] at this h1
      rw [h1] at this; cases this
    · simp [Array.getD, hlt] at h1
  intro fuel
  induction fuel with
  | zero =>
    intro listed ρ a w hs hl hcl hi
    have hall := left_zero (Nat.le_zero.1 hl)
    exact ⟨full listed hs hall, done listed ρ a w hs hall hi⟩
  | succ fuel ih =>
    intro listed ρ a w hs hl hcl hi
    refine ⟨fun hr => ?_, fun i hir => ?_⟩
    · -- nothing is ready: all is done
      refine done listed ρ a w hs (fun i => ?_) hi
      induction i using Nat.strongRecOn with
      | _ i ihi =>
        intro hlt
        cases hb : listed.getD i false with
        | true => rfl
        | false =>
          have hlt' : i < all.length := by omega
          have : i ∈ Region.ready .any all.toArray listed := mem_ready.2 ⟨by simp [Array.getD, hlt] at hb ⊢; exact hb, all[i], by simp [hlt'], fun e he hb' => by
            have := edgesOk_spec all 0 hed i all[i] (by simp [hlt']) e (by simpa using he) hb'
            exact ihi e.on (by omega) (by omega)⟩
          rw [hr] at this; cases this
    · obtain ⟨h1, o, ho, h3⟩ := mem_ready.1 hir
      have hlt : i < all.length := by
        have := (Array.getElem?_eq_some_iff.1 ho).1
        simpa using this
      have ho' : all[i]? = some o := by simpa using ho
      have hli : i < listed.size := by omega
      have hfi : listed.getD i false = false := by simp [Array.getD, hli] at h1 ⊢; exact h1
      have hedg : ∀ e ∈ o.after.toList, Region.binds .any e = true → listed.getD e.on false = true := fun e he hb => h3 e (by simpa using he) hb
      obtain ⟨x, hx⟩ : ∃ x, rl[i]? = some x := ⟨rl[i], by simp [hrl, hlt]⟩
      have hz : (all.zip rl)[i]? = some (o, x) := by simp [List.getElem?_zip_eq_some, ho', hx]
      obtain ⟨c1, c2⟩ := chain_at all 0 stamp T H rl hc i o x hz
      rw [Nat.zero_add] at c1
      -- what stands apart from it
      have hm : ∀ j o' x', all[j]? = some o' → rl[j]? = some x' → j ≠ i → listed.getD j false ≠ decide (j < i) → (j < i → Apart all o' x'.foot o x.foot) ∧ (i < j → Apart all o x.foot o' x'.foot) := fun j o' x' hj hxj hne hdiff => by
        have hfoot : ∀ {k : Nat} {y : Res}, rl[k]? = some y → ([] ++ rl.map Res.foot)[k]? = some y.foot := fun hk => by simp [hk]
        obtain ⟨r, q1, q2⟩ := masks_acc all []
        have hmk : ∀ (k : Nat), k < all.length → ∃ m, (masks all [])[k]? = some m := fun k hk => ⟨r[k]'(by omega), by rw [q1, List.nil_append]; simp [q2, hk]⟩
        refine ⟨fun hji => ?_, fun hij => ?_⟩
        · obtain ⟨m, hmi⟩ := hmk i hlt
          rcases drawOk_spec all 0 _ [] _ hdr rfl (fun j => by simp) i o m x.foot ho' hmi (by simp [hx]) j o' x'.foot (by omega) hj (hfoot hxj) with hb | hb
          · have : listed.getD j false = true := mask_closed hcl i o m ho' hmi hedg j hb
            rw [this] at hdiff
            exact absurd (by simp [hji]) hdiff
          · exact hb
        · have hjl : j < all.length := (List.getElem?_eq_some_iff.1 hj).1
          obtain ⟨m, hmj⟩ := hmk j hjl
          have hSj : listed.getD j false = true := by
            have : decide (j < i) = false := by simp; omega
            rw [this] at hdiff
            simpa using hdiff
          rcases drawOk_spec all 0 _ [] _ hdr rfl (fun j => by simp) j o' m x'.foot hj hmj (by simp [hxj]) i o x.foot (by omega) ho' (hfoot hx) with hb | hb
          · have : listed.getD i false = true := mask_closed hcl j o' m hj hmj (hcl j o' hj hSj) i hb
            rw [hfi] at this; cases this
          · exact hb
      have pick : ∀ {j : Nat} {p : Oper × Res}, (all.zip rl)[j]? = some p → all[j]? = some p.1 ∧ rl[j]? = some p.2 := fun hp => by
        rw [List.getElem?_zip_eq_some] at hp; exact hp
      have hsame : OpRes Γ all o (stamp + i) (foldG (fun j => listed.getD j false) 0 ((all.zip rl).map wrT) T) (foldG (fun j => listed.getD j false) 0 ((all.zip rl).map wrH) H) x := by
        refine c1.same (fun t ht => ?_) (fun k hk => ?_)
        · refine foldG_agree _ 0 T T rfl (fun j y hy hd => ?_)
          rw [List.getElem?_map] at hy
          obtain ⟨p, hp, rfl⟩ := Option.map_eq_some_iff.1 hy
          obtain ⟨p1, p2⟩ := pick hp
          rw [Nat.zero_add] at hd
          have hne : j ≠ i := fun e => by subst e; simp [upto, hfi] at hd
          obtain ⟨m1, m2⟩ := hm j p.1 p.2 p1 p2 hne (by simpa [upto] using hd)
          intro hw
          have hw : p.1.dst = some t := hw
          rcases Nat.lt_or_gt_of_ne hne with hlt | hgt
          · exact ((m1 hlt).d1 t hw).2 ht
          · exact (m2 hgt).d2 t hw ht
        · refine foldG_agree _ 0 H H rfl (fun j y hy hd => ?_)
          rw [List.getElem?_map] at hy
          obtain ⟨p, hp, rfl⟩ := Option.map_eq_some_iff.1 hy
          obtain ⟨p1, p2⟩ := pick hp
          rw [Nat.zero_add] at hd
          have hne : j ≠ i := fun e => by subst e; simp [upto, hfi] at hd
          obtain ⟨m1, m2⟩ := hm j p.1 p.2 p1 p2 hne (by simpa [upto] using hd)
          intro hw
          have hw : k ∈ keysOf p.2.ws := hw
          rcases Nat.lt_or_gt_of_ne hne with hlt | hgt
          · exact ((m1 hlt).k1 k hw).1 hk
          · exact (m2 hgt).k2 k hw hk
      simp only [wpOp, ho]
      refine op_step hΓ hg hi hsame c2 (fun ρ' a' w' hi' => ?_)
      have hsz : (listed.setIfInBounds i true).size = all.length := by simp [hs]
      have hset : ∀ j, (listed.setIfInBounds i true).getD j false = (listed.getD j false || j == i) := fun j => getD_set listed i j hli
      refine ih _ ρ' a' w' hsz ?_ (fun j oj hj hSj e he hb => ?_) ?_
      · have := left_set hli (by simp [Array.getD, hli] at hfi; exact hfi)
        omega
      · simp only [hset, Bool.or_eq_true] at hSj ⊢
        rcases hSj with hSj | hSj
        · exact .inl (hcl j oj hj hSj e he hb)
        · have : j = i := by simpa using hSj
          subst this
          rw [ho'] at hj
          simp only [Option.some.injEq] at hj
          subst hj
          exact .inl (hedg e he hb)
      · have e1 := foldG_insert (S := fun j => listed.getD j false) (S' := fun j => (listed.setIfInBounds i true).getD j false) ((all.zip rl).map wrT) T i (wrT (o, x)) (by rw [List.getElem?_map, hz]; rfl) hset (fun j y k hij hy hSj hwk => by
          rw [List.getElem?_map] at hy
          obtain ⟨p, hp, rfl⟩ := Option.map_eq_some_iff.1 hy
          obtain ⟨p1, p2⟩ := pick hp
          have hd : listed.getD j false ≠ decide (j < i) := by
            have : decide (j < i) = false := by simp; omega
            rw [this]; simpa using hSj
          exact (((hm j p.1 p.2 p1 p2 (by omega) hd).2 hij).d1 k hwk).1)
        have e2 := foldG_insert (S := fun j => listed.getD j false) (S' := fun j => (listed.setIfInBounds i true).getD j false) ((all.zip rl).map wrH) H i (wrH (o, x)) (by rw [List.getElem?_map, hz]; rfl) hset (fun j y k hij hy hSj hwk => by
          rw [List.getElem?_map] at hy
          obtain ⟨p, hp, rfl⟩ := Option.map_eq_some_iff.1 hy
          obtain ⟨p1, p2⟩ := pick hp
          have hd : listed.getD j false ≠ decide (j < i) := by
            have : decide (j < i) = false := by simp; omega
            rw [this]; simpa using hSj
          exact (((hm j p.1 p.2 p1 p2 (by omega) hd).2 hij).k1 k hwk).2)
        rw [e1, e2]
        exact hi'

/-- A region. -/
theorem region_sound (hΓ : TabOk P Γ) (hg : GlOk Γ w0 M ρ0 H0) {id : Nat} {ops : Array Oper} {draw : Bool} {σ : St} {K : St → Prop} {a : Act} {w : World} (h : regionK Γ ops.toList draw σ K)
    (hi : Inv w0 M ρ0 H0 ρ (tget σ.tmps) (assoc σ.heap) σ.tmps.length a w) {Q : Exit → Act → World → Prop}
    (hQ : ∀ σ' ρ' a' w', K σ' → Inv w0 M ρ0 H0 ρ' (tget σ'.tmps) (assoc σ'.heap) σ'.tmps.length a' w' → Q .normal a' w') : (Code.region id ops draw).wp P Q a w := by
  unfold regionK at h
  obtain ⟨rl, tmps', h', c1, c2, c3, c4, c5, c6⟩ := opsK_chain hΓ hg _ _ _ _ _ _ ρ a w h hi
  have hf : ∀ (m : Nat) (G : Nat → Prop), forceN m G → G m := fun m G h => by cases m <;> exact h
  have c2 := hf _ _ c2
  have hfin : ∀ ρ' a' w', Inv w0 M ρ0 H0 ρ' (finT ops.toList rl (tget σ.tmps)) (finH rl (assoc σ.heap)) σ.tmps.length a' w' → K ⟨tmps', h', σ.ctr + ops.toList.length⟩ → Q .normal a' w' := fun ρ' a' w' hi' hk =>
    hQ ⟨tmps', h', σ.ctr + ops.toList.length⟩ ρ' a' w' hk (by simp only [c3, c4, c5]; exact hi')
  cases draw with
  | false =>
    simp only at c2
    refine wp_region ?_
    have := chain_seq (Q := Q) hΓ hg ops.toList 0 _ _ _ rl ρ a w (fun j => by simp) c1 hi (fun ρ' a' w' hi' => hfin ρ' a' w' hi' c2)
    rw [List.range_eq_range']
    simpa using this
  | true =>
    simp only at c2
    split at c2
    · rename_i hb
      simp only [Bool.and_eq_true] at hb
      refine wp_region_any hΓ.mix ?_
      have hw : Inv w0 M ρ0 H0 ρ (tget σ.tmps) (assoc σ.heap) σ.tmps.length a { w with drawn := w.drawn + 1 } := ⟨hi.tmps, hi.mem.drew _, hi.size, hi.base, hi.defers⟩
      have hfalse : ∀ j, (Array.replicate ops.size false).getD j false = false := fun j => by
        rw [Array.getD_eq_getD_getElem?]
        by_cases hj : j < ops.size <;> simp [hj]
      have := chain_any (Q := Q) hΓ hg c1 c6 hb.1 (by simpa using hb.2) (fun ρ' a' w' hi' => hfin ρ' a' w' hi' c2) ops.size (Array.replicate ops.size false) ρ a { w with drawn := w.drawn + 1 } (by simp)
        (by unfold left; simp) (fun j o hj hSj => by simp only [hfalse] at hSj; cases hSj)
        (by rw [foldG_none _ _ _ (fun j _ => hfalse j), foldG_none _ _ _ (fun j _ => hfalse j)]; exact hw)
      simpa using this
    · exact c2.elim

end
end Go.Gx
