/- A region's operations: one behind the other, and in every order. -/
import Derived.Test.YtihihilhfijloaaDoorName
import Derived.Orders
namespace Go.Gx
open Go.RowKit
set_option linter.unusedVariables false

/-- What an operation has come to: its value, the blocks that it wrote, those that it read. -/
structure Res where
  v : SV
  ws : List (Nat × SB)
  rs : List Nat

def Res.foot (x : Res) : Foot := (x.rs, keysOf x.ws)

def putT (T : Nat → SV) (d : Option Nat) (v : SV) : Nat → SV :=
  match d with
  | none => T
  | some t => fun k => if k = t then v else T k

def OpRes (Γ : Tab) (all : List Oper) (o : Oper) (stamp : Nat) (T : Nat → SV) (H : Nat → Option SB) (x : Res) : Prop :=
  (wantF all o T = some false ∧ x = ⟨.val undef, [], []⟩) ∨
  (wantF all o T = some true ∧ ∃ d, (sop Γ stamp o.op o.type (evalF Γ.gl T)).run H [] = some (d, x.rs) ∧ AllP d.pre ∧ x.ws = d.ws ∧ (x.v = d.v ∨ ∃ b, d.v = .b false b ∧ x.v = .b true b))

def ChainOk (Γ : Tab) (all : List Oper) (n : Nat) : List Oper → Nat → (Nat → SV) → (Nat → Option SB) → List Res → Prop
  | [], _, _, _, rl => rl = []
  | o :: r, stamp, T, H, rl => ∃ x rl', rl = x :: rl' ∧ OpRes Γ all o stamp T H x ∧ (∀ t, o.dst = some t → t < n) ∧ ChainOk Γ all n r (stamp + 1) (putT T o.dst x.v) (updsH H x.ws) rl'

def finT : List Oper → List Res → (Nat → SV) → Nat → SV
  | o :: r, x :: l, T => finT r l (putT T o.dst x.v)
  | _, _, T => T

def finH : List Res → (Nat → Option SB) → Nat → Option SB
  | x :: l, H => finH l (updsH H x.ws)
  | [], H => H

/-- The state of a call, as the evaluator sees it. -/
structure Inv (w0 : World) (M : Nat → Prop) (ρ0 : Nat → Pl) (H0 : Nat → Option SB) (ρ : Nat → Pl) (T : Nat → SV) (H : Nat → Option SB) (n : Nat) (a : Act) (w : World) : Prop where
  tmps : ∀ t, D (dmOf H) ρ (T t) (a.tmps.getD t undef)
  mem : Mem w0 M ρ H w
  size : a.tmps.size = n
  base : ∀ k, dmOf H0 k → dmOf H k ∧ ρ k = ρ0 k
  defers : a.defers = []

/-- The globals lie where the program's do. -/
structure GlOk (Γ : Tab) (w0 : World) (M : Nat → Prop) (ρ0 : Nat → Pl) (H0 : Nat → Option SB) : Prop where
  at_ : ∀ g ∈ Γ.gl, dmOf H0 g ∧ (ρ0 g).blk = g ∧ (ρ0 g).off = 0
  glob : Glob Γ.gh w0 M

section
variable {P : Program} {Γ : Tab} {w0 : World} {M : Nat → Prop} {ρ0 ρ : Nat → Pl} {H0 H : Nat → Option SB} {T : Nat → SV} {n : Nat} {a : Act} {w : World}

theorem constSV_D {dm : Nat → Prop} (v : Value) : D dm ρ (constSV v) v := by
  unfold constSV
  split
  · split
    · rename_i h; exact ⟨rfl, InRb_iff h⟩
    · rfl
  · rfl
  · split
    · rename_i h
      have := Nat.le_of_ble_eq_true h
      exact ⟨rfl, by omega⟩
    · rfl
  · rfl
  · rfl
  · rfl

theorem Inv.eval (hi : Inv w0 M ρ0 H0 ρ T H n a w) (hg : GlOk Γ w0 M ρ0 H0) (x : Operand) : D (dmOf H) ρ (evalF Γ.gl T x) (a.eval x) := by
  cases x with
  | tmp t => exact hi.tmps t
  | const v => exact constSV_D v
  | global g =>
    simp only [evalF, Act.eval]
    split
    · rename_i h
      obtain ⟨h1, h2, h3⟩ := hg.at_ g (memN_iff.1 h)
      obtain ⟨h4, h5⟩ := hi.base g h1
      exact ⟨h4, by rw [h5]; simp [at_, h2, h3]⟩
    · trivial
  | func f => rfl

theorem Act.getD_put (a : Act) (dst : Option Tmp) (v : Value) (h : ∀ t, dst = some t → t < a.tmps.size) (t : Nat) : (a.put dst v).tmps.getD t undef = if dst = some t then v else a.tmps.getD t undef := by
  cases dst with
  | none => simp [Act.put]
  | some d =>
    have hd := h d rfl
    simp only [Act.put]
    by_cases e : d = t
    · subst e; simp [Array.getD, hd]
    · simp only [Option.some.injEq, e, if_false, Array.getD_eq_getD_getElem?]
      rw [Array.getElem?_setIfInBounds_ne e]

theorem Inv.put {d : Delta} {dst : Option Tmp} {v : Value} {w' : World} {u : SV} (hi : Inv w0 M ρ0 H0 ρ T H n a w) (ha : After w0 M ρ H d v w') (hd : ∀ t, dst = some t → t < n) (hu : u = d.v ∨ ∃ b, d.v = .b false b ∧ u = .b true b) :
    ∃ ρ', Inv w0 M ρ0 H0 ρ' (putT T dst u) (updsH H d.ws) n (a.put dst v) w' := by
  obtain ⟨ρ', h1, h2, h3⟩ := ha
  have hdu : D (dmOf (updsH H d.ws)) ρ' u v := by
    rcases hu with rfl | ⟨b, e1, e2⟩
    · exact h2
    · rw [e1] at h2; rw [e2]; exact h2
  refine ⟨ρ', fun t => ?_, h3, by cases dst <;> simp [Act.put, hi.size], fun k hk => ?_, by cases dst <;> simp [Act.put, hi.defers]⟩
  · rw [Act.getD_put a dst v (by rw [hi.size]; exact hd)]
    cases dst with
    | none => exact D.mono (dm_updsH _ _) h1 _ _ (hi.tmps t)
    | some d' =>
      simp only [putT, Option.some.injEq]
      by_cases e : t = d'
      · subst e; simp only [if_true]; exact hdu
      · rw [if_neg e, if_neg (Ne.symm e)]
        exact D.mono (dm_updsH _ _) h1 _ _ (hi.tmps t)
  · obtain ⟨q1, q2⟩ := hi.base k hk
    exact ⟨dm_updsH _ _ _ q1, by rw [h1 k q1, q2]⟩

theorem Inv.skip {dst : Option Tmp} (hi : Inv w0 M ρ0 H0 ρ T H n a w) (hd : ∀ t, dst = some t → t < n) : Inv w0 M ρ0 H0 ρ (putT T dst (.val undef)) H n (a.put dst undef) w := by
  refine ⟨fun t => ?_, hi.mem, by cases dst <;> simp [Act.put, hi.size], hi.base, by cases dst <;> simp [Act.put, hi.defers]⟩
  rw [Act.getD_put a dst undef (by rw [hi.size]; exact hd)]
  cases dst with
  | none => exact hi.tmps t
  | some d' =>
    simp only [putT, Option.some.injEq]
    by_cases e : t = d'
    · subst e; simp only [if_true]; rfl
    · rw [if_neg e, if_neg (Ne.symm e)]
      exact hi.tmps t

theorem nth_get {α : Type} : ∀ (l : List α) (j : Nat), nth l j = l[j]?
  | [], j => by simp [nth]
  | x :: r, 0 => rfl
  | x :: r, j + 1 => by simp only [nth, List.getElem?_cons_succ]; exact nth_get r j

theorem want_sound {all : List Oper} {o : Oper} {b : Bool} (hi : Inv w0 M ρ0 H0 ρ T H n a w) (h : wantF all o T = some b) : Region.wanted o (yielded all.toArray a.tmps) = b := by
  unfold wantF at h
  unfold Region.wanted
  cases hg : o.guard with
  | none => simp only [hg] at h ⊢; simpa using h
  | some p =>
    obtain ⟨j, want⟩ := p
    simp only [hg] at h ⊢
    split at h
    · rename_i oj hj
      rw [nth_get] at hj
      split at h
      · rename_i t ht
        have hy : ∀ u, a.tmps.getD t undef = u → yielded all.toArray a.tmps j = (match (some u : Option Value) with | some (.bool b) => some b | _ => none) := fun u hu => by
          have e1 : all.toArray[j]? = some oj := by simpa using hj
          simp only [yielded, e1, Option.bind_some, ht]
          by_cases hs : t < a.tmps.size
          · have : a.tmps[t]? = some u := by rw [← hu]; simp [Array.getD, hs]
            rw [this]
            cases u <;> rfl
          · have h1 : a.tmps[t]? = none := Array.getElem?_eq_none (Nat.le_of_not_lt hs)
            have h2 : u = undef := by rw [← hu]; simp [Array.getD, hs]
            rw [h1, h2]; rfl
        have hD := hi.tmps t
        split at h
        · rename_i v e
          rw [e] at hD
          simp only [D] at hD
          rw [hy _ hD]
          cases v <;> cases want <;> simp at h <;> subst h <;> rfl
        · cases h
        · rename_i u hu e
          rw [e] at hD
          simp only [D] at hD
          rw [hy _ hD]
          simp only [Option.some.injEq] at h
          subst h
          cases u <;> first | rfl | (rename_i b; exact absurd rfl (hu b))
        · cases h
      · cases h
    · cases h

/-- One operation of a region. -/
theorem op_step {all : List Oper} {o : Oper} {stamp : Nat} {x : Res} (hΓ : TabOk P Γ) (hg : GlOk Γ w0 M ρ0 H0) (hi : Inv w0 M ρ0 H0 ρ T H n a w) (hx : OpRes Γ all o stamp T H x) (hd : ∀ t, o.dst = some t → t < n)
    {Q : Exit → Act → World → Prop} {K : Act → World → Prop} (hK : ∀ ρ' a' w', Inv w0 M ρ0 H0 ρ' (putT T o.dst x.v) (updsH H x.ws) n a' w' → K a' w') :
    if Region.wanted o (yielded all.toArray a.tmps) then o.wp P a w K Q ∨ (o.asks P a w ∧ LetsOut Q) else K (a.put o.dst undef) w := by
  rcases hx with ⟨h1, rfl⟩ | ⟨h1, d, h2, h3, h4, h5⟩
  · rw [want_sound hi h1]
    exact hK _ _ _ (hi.skip hd)
  · rw [want_sound hi h1]
    simp only [if_true]
    left
    have ho := sop_sound hΓ hg.glob hi.mem (ρe := a.eval) (fun x _ => hi.eval hg x) h2 h3
    unfold Oper.wp
    rcases ho with ⟨v, w', hr, ha⟩ | ⟨f, args, hr, hc⟩
    · obtain ⟨ρ', hi'⟩ := hi.put ha hd h5
      rw [← h4] at hi'
      rcases hr with hr | ⟨hr, rfl⟩
      · rw [hr]; exact hK _ _ _ hi'
      · rw [hr]; exact hK _ _ _ hi'
    · rw [hr]
      refine hc.mono fun e w' he => ?_
      obtain ⟨v, rfl, ha⟩ := he
      obtain ⟨ρ', hi'⟩ := hi.put ha hd h5
      rw [← h4] at hi'
      exact hK _ _ _ hi'

theorem Outc.ex {d : Delta} {r : Result Next} (h : Outc P w0 M ρ H d w r) : ∃ v w', After w0 M ρ H d v w' := by
  rcases h with ⟨v, w', _, h⟩ | ⟨f, args, _, h⟩
  · exact ⟨v, w', h⟩
  · obtain ⟨e, w', fr, ⟨v, _, hv⟩, _⟩ := h []
    exact ⟨v, w', hv⟩

theorem tget_set : ∀ {l l' : List SV} {t : Nat} {v : SV}, setn l t v = some l' → tget l' = (fun k => if k = t then v else tget l k) ∧ l'.length = l.length ∧ t < l.length
  | [], l', t, v, h => by simp [setn] at h
  | x :: r, l', 0, v, h => by
    simp only [setn, Option.some.injEq] at h; subst h
    refine ⟨funext fun k => ?_, rfl, by simp⟩
    cases k <;> simp [tget]
  | x :: r, l', t + 1, v, h => by
    simp only [setn] at h
    split at h
    · rename_i r' hr'
      simp only [Option.some.injEq] at h; subst h
      obtain ⟨h1, h2, h3⟩ := tget_set hr'
      refine ⟨funext fun k => ?_, by simp [h2], by simp; exact h3⟩
      cases k with
      | zero => simp [tget]
      | succ k => simp only [tget, h1]; simp
    · cases h

theorem dstSet_put {l l' : List SV} {d : Option Nat} {v : SV} (h : dstSet l d v = some l') : tget l' = putT (tget l) d v ∧ l'.length = l.length ∧ ∀ t, d = some t → t < l.length := by
  cases d with
  | none => simp only [dstSet, Option.some.injEq] at h; subst h; exact ⟨rfl, rfl, fun t ht => by cases ht⟩
  | some t =>
    obtain ⟨h1, h2, h3⟩ := tget_set h
    exact ⟨h1, h2, fun t' ht => by simp only [Option.some.injEq] at ht; subst ht; exact h3⟩

/-- The evaluator's way through a region, as a chain. -/
theorem opsK_chain (hΓ : TabOk P Γ) (hg : GlOk Γ w0 M ρ0 H0) {all : List Oper} {gs : List Nat} {K : List Foot → List SV → Heap → Prop} : ∀ (l : List Oper) (i stamp : Nat) (fs : List Foot) (tmps : List SV) (h : Heap) (ρ : Nat → Pl) (a : Act) (w : World),
    opsK Γ all gs l i stamp fs tmps h K → Inv w0 M ρ0 H0 ρ (tget tmps) (assoc h) tmps.length a w →
    ∃ rl tmps' h', ChainOk Γ all tmps.length l stamp (tget tmps) (assoc h) rl ∧ K ((rl.map Res.foot).reverse ++ fs) tmps' h' ∧ tget tmps' = finT l rl (tget tmps) ∧ assoc h' = finH rl (assoc h) ∧ tmps'.length = tmps.length ∧ rl.length = l.length
  | [], i, stamp, fs, tmps, h, ρ, a, w, ho, hi => ⟨[], tmps, h, rfl, ho, rfl, rfl, rfl, rfl⟩
  | o :: r, i, stamp, fs, tmps, h, ρ, a, w, ho, hi => by
    simp only [opsK] at ho
    split at ho
    · exact ho.elim
    · rename_i hw
      rw [wantS_eq] at hw
      split at ho
      · rename_i tmps' hd
        obtain ⟨e1, e2, e3⟩ := dstSet_put hd
        have hi' := hi.skip (dst := o.dst) e3
        rw [← e1, ← e2] at hi'
        obtain ⟨rl, t2, h2, q1, q2, q3, q4, q5, q6⟩ := opsK_chain hΓ hg r (i + 1) (stamp + 1) _ tmps' h ρ _ w ho hi'
        refine ⟨⟨.val undef, [], []⟩ :: rl, t2, h2, ⟨_, rl, rfl, .inl ⟨hw, rfl⟩, e3, ?_⟩, ?_, ?_, q4, by rw [q5, e2], by simp [q6]⟩
        · rw [← e1, ← e2]; exact q1
        · simpa [Res.foot, keysOf] using q2
        · rw [q3, e1]; rfl
      · exact ho.elim
    · rename_i hw
      rw [wantS_eq] at hw
      split at ho
      · rename_i d rs hrun
        rw [evalS_eq] at hrun
        have hex : AllP d.pre → ∃ v w', After w0 M ρ (assoc h) d v w' := fun hp => (sop_sound (o := o) hΓ hg.glob hi.mem (ρe := a.eval) (fun x _ => hi.eval hg x) hrun hp).ex
        have hpre := (deltaK_of (w0 := w0) (M := M) (ρ := ρ) (ρ' := ρ) (H := assoc h) (w' := w) ho).1
        obtain ⟨v, w', ha⟩ := hex hpre
        obtain ⟨ρ', a1, a2, a3⟩ := id ha
        have hk := (deltaK_of (w0 := w0) (M := M) (ρ := ρ) (ρ' := ρ') (H := assoc h) (w' := w') ho).2 v a2 a3
        split at hk
        · rename_i h' hh
          have eh := assoc_hsets _ _ _ hh
          have fin : ∀ u tmps', dstSet tmps o.dst u = some tmps' → (u = d.v ∨ ∃ b, d.v = .b false b ∧ u = .b true b) → opsK Γ all gs r (i + 1) (stamp + 1) ((rs, keysOf d.ws) :: fs) tmps' h' K →
              ∃ rl tmps' h', ChainOk Γ all tmps.length (o :: r) stamp (tget tmps) (assoc h) rl ∧ K ((rl.map Res.foot).reverse ++ fs) tmps' h' ∧ tget tmps' = finT (o :: r) rl (tget tmps) ∧ assoc h' = finH rl (assoc h) ∧ tmps'.length = tmps.length ∧ rl.length = (o :: r).length := by
            intro u tmps' hd hu hk
            obtain ⟨e1, e2, e3⟩ := dstSet_put hd
            obtain ⟨ρ2, hi'⟩ := hi.put ha e3 hu
            rw [← e1, ← e2, ← eh] at hi'
            obtain ⟨rl, t2, h2, q1, q2, q3, q4, q5, q6⟩ := opsK_chain hΓ hg r (i + 1) (stamp + 1) _ tmps' h' ρ2 _ w' hk hi'
            refine ⟨⟨u, d.ws, rs⟩ :: rl, t2, h2, ⟨_, rl, rfl, .inr ⟨hw, d, hrun, hpre, rfl, hu⟩, e3, ?_⟩, ?_, ?_, ?_, by rw [q5, e2], by simp [q6]⟩
            · rw [← e1, ← e2, ← eh]; exact q1
            · simpa [Res.foot] using q2
            · rw [q3, e1]; rfl
            · rw [q4, eh]; rfl
          unfold splitK at hk
          split at hk
          · split at hk
            · rename_i tmps' hd; exact fin _ tmps' hd (.inl rfl) hk
            · exact hk.elim
          · split at hk
            · rename_i b hb
              cases b with
              | true =>
                have hk := hk.1 rfl
                dsimp only at hk
                split at hk
                · rename_i tmps' hd; exact fin _ tmps' hd (.inr ⟨true, hb, rfl⟩) hk
                · exact hk.elim
              | false =>
                have hk := hk.2 rfl
                dsimp only at hk
                split at hk
                · rename_i tmps' hd; exact fin _ tmps' hd (.inr ⟨false, hb, rfl⟩) hk
                · exact hk.elim
            · split at hk
              · rename_i tmps' hd; exact fin _ tmps' hd (.inl rfl) hk
              · exact hk.elim
        · exact hk.elim
      · exact ho.elim

/-- The operations in the order in which they stand. -/
theorem chain_seq (hΓ : TabOk P Γ) (hg : GlOk Γ w0 M ρ0 H0) {all : List Oper} {Q : Exit → Act → World → Prop} : ∀ (l : List Oper) (i stamp : Nat) (T : Nat → SV) (H : Nat → Option SB) (rl : List Res) (ρ : Nat → Pl) (a : Act) (w : World),
    (∀ j, l[j]? = all[i + j]?) → ChainOk Γ all n l stamp T H rl → Inv w0 M ρ0 H0 ρ T H n a w → (∀ ρ' a' w', Inv w0 M ρ0 H0 ρ' (finT l rl T) (finH rl H) n a' w' → Q .normal a' w') →
    wpOps P all.toArray Q (List.range' i l.length) a w
  | [], i, stamp, T, H, rl, ρ, a, w, hl, hc, hi, hQ => by
    simp only [ChainOk] at hc
    subst hc
    exact hQ ρ a w hi
  | o :: r, i, stamp, T, H, rl, ρ, a, w, hl, hc, hi, hQ => by
    obtain ⟨x, rl', rfl, h1, h2, h3⟩ := hc
    have ho : all.toArray[i]? = some o := by have := hl 0; simpa using this.symm
    simp only [List.length_cons, List.range'_succ, wpOps, ho]
    exact op_step hΓ hg hi h1 h2 fun ρ' a' w' hi' => chain_seq hΓ hg r (i + 1) (stamp + 1) _ _ rl' ρ' a' w' (fun j => by have := hl (j + 1); simp only [List.getElem?_cons_succ] at this; rw [this]; congr 1; omega) h3 hi' hQ

end
end Go.Gx
