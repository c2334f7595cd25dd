/- Contracts of functions that read slices. -/
import Derived.Test.YtihihilhfijloaaDoorWeak
namespace Go.Gx
open Go.RowKit
set_option linter.unusedVariables false

/-- An argument, as a contract sees it: a value, a slice's elements, the nil slice. -/
inductive RA where
  | v (x : SV)
  | c (q : Con)
  | n

def viewArgs : List Bool → List SV → (List Prop → List RA → RP Delta) → RP Delta
  | [], [], f => f [] []
  | b :: fs, x :: xs, f => (match b with
    | false => viewArgs fs xs fun p r => f p (.v x :: r)
    | true => (match x with
      | .sl key c est off len => withCon (.sl key c est off len) fun p q => viewArgs fs xs fun p' r => f (p ++ p') (.c q :: r)
      | .nsl => viewArgs fs xs fun p r => f p (.n :: r)
      | _ => .fail))
  | _, _, _ => .fail

def readCtr (flags : List Bool) (spec : List RA → Option (List Prop × SV)) : Ctr := fun _ args =>
  viewArgs flags args fun p ras => match spec ras with
    | some (p', y) => .ret ⟨p ++ p', y, [], true⟩
    | none => .fail

def viewH : Nat → List RA → Heap
  | _, [] => []
  | key, x :: r => (match x with
    | .c q => (key, .segs true [conRow q]) :: viewH (key + 1) r
    | _ => viewH key r)

def okArgs : Nat → List RA → List SV → Prop
  | _, [], [] => True
  | key, x :: r, y :: t => (match x with
    | .v x => eqV x y ∧ okArgs key r t
    | .c q => y = .sl key 0 (conSize q) ⟨true, 0⟩ ⟨false, ((conLen q : Nat) : Int)⟩ ∧ okArgs (key + 1) r t
    | .n => y = .nsl ∧ okArgs key r t)
  | _, _, _ => False

section
variable {P : Program} {Γ : Tab} {w0 : World} {M : Nat → Prop} {ρ : Nat → Pl} {H : Nat → Option SB} {w : World}

def RAsD (P : Program) (w : World) (dm : Nat → Prop) (ρ : Nat → Pl) : List RA → List Value → Prop
  | [], vs => vs = []
  | x :: r, vs => ∃ u c, vs = u :: c ∧ (match x with
    | .v x => D dm ρ x u
    | .c q => ConAt P w u q ∧ ((conLen q : Nat) : Int) < 9223372036854775808 ∧ ∃ ad n cap, u = .slice ad n cap
    | .n => u = .slice none 0 0) ∧ RAsD P w dm ρ r c

theorem viewArgs_sound (hm : Mem w0 M ρ H w) : ∀ (fl : List Bool) (xs : List SV) (vs : List Value) (f : List Prop → List RA → RP Delta) (d : Delta) (rs rs' : List Nat), Ds (dmOf H) ρ xs vs → (viewArgs fl xs f).run H rs = some (d, rs') →
    ∃ p ras rs1, (f p ras).run H rs1 = some (d, rs') ∧ (AllP p → RAsD P w (dmOf H) ρ ras vs)
  | [], [], vs, f, d, rs, rs', hd, h => ⟨[], [], rs, h, fun _ => hd⟩
  | [], _ :: _, vs, f, d, rs, rs', hd, h => by simp [viewArgs, RP.run] at h
  | _ :: _, [], vs, f, d, rs, rs', hd, h => by simp [viewArgs, RP.run] at h
  | b :: fl, x :: xs, vs, f, d, rs, rs', hd, h => by
    simp only [Ds] at hd
    obtain ⟨v, c, h1, rfl, h2⟩ := hd
    simp only [viewArgs] at h
    split at h
    · obtain ⟨p, ras, rs1, q1, q2⟩ := viewArgs_sound hm fl xs c _ d rs rs' h2 h
      exact ⟨p, _, rs1, q1, fun hp => ⟨v, c, rfl, h1, q2 hp⟩⟩
    · split at h
      · rename_i key c0 est off len
        obtain ⟨p, q, rs1, q1, q2⟩ := withCon_sound (P := P) hm h1 h
        obtain ⟨p', ras, rs2, q3, q4⟩ := viewArgs_sound hm fl xs c _ d rs1 rs' h2 q1
        refine ⟨p ++ p', _, rs2, q3, fun hp => ?_⟩
        obtain ⟨hp1, hp2⟩ := hp.append
        have hq := q2 hp1
        have h1' := h1
        simp only [D] at h1'
        obtain ⟨_, _, _, hr, ad, cap, hv, _⟩ := h1'
        refine ⟨v, c, rfl, ⟨hq, ?_, ad, _, cap, hv⟩, q4 hp2⟩
        have := (hq.at_ ad _ cap hv).1
        simp only [InR] at hr
        omega
      · obtain ⟨p, ras, rs1, q1, q2⟩ := viewArgs_sound hm fl xs c _ d rs rs' h2 h
        exact ⟨p, _, rs1, q1, fun hp => ⟨v, c, rfl, h1, q2 hp⟩⟩
      · simp [RP.run] at h

theorem assoc_app : ∀ (a b : Heap) (k : Nat), assoc (a ++ b) k = (match assoc a k with | some x => some x | none => assoc b k)
  | [], b, k => rfl
  | (k', x) :: r, b, k => by
    simp only [List.cons_append, assoc]
    split
    · rfl
    · exact assoc_app r b k

theorem viewH_low : ∀ (ras : List RA) (key k : Nat) (b : SB), assoc (viewH key ras) k = some b → key ≤ k
  | [], key, k, b, h => by simp [viewH, assoc] at h
  | x :: r, key, k, b, h => by
    cases x with
    | v x => exact viewH_low r key k b h
    | n => exact viewH_low r key k b h
    | c q =>
      simp only [viewH, assoc] at h
      split at h
      · rename_i e; exact Nat.le_of_eq (Nat.eq_of_beq_eq_true e)
      · have := viewH_low r (key + 1) k b h; omega

theorem viewH_keys : ∀ (ras : List RA) (key k : Nat), k ∈ keysOf (viewH key ras) → key ≤ k ∧ k < key + ras.length
  | [], key, k, h => by simp [viewH, keysOf] at h
  | x :: r, key, k, h => by
    cases x with
    | v x => have := viewH_keys r key k h; simp; omega
    | n => have := viewH_keys r key k h; simp; omega
    | c q =>
      simp only [viewH, keysOf, List.mem_cons] at h
      rcases h with rfl | h
      · simp
      · have := viewH_keys r (key + 1) k h; simp; omega

/-- Where the viewed rows lie. -/
theorem views_at {dm : Nat → Prop} : ∀ (ras : List RA) (args : List SV) (vs : List Value) (key : Nat), RAsD P w dm ρ ras vs → okArgs key ras args →
    ∃ pl : Nat → Pl, (∀ k b, assoc (viewH key ras) k = some b → ∃ l cs, b = .segs true l ∧ SegsD (fun _ => False) (fun _ => ({ blk := 0, off := 0, cap := 0 } : Pl)) l cs ∧ cs.length ≤ (pl k).cap ∧ w.rangeAt (pl k).blk (pl k).off cs ∧ (0 < (pl k).cap → (pl k).blk < w.heap.size)) ∧
      ∀ (dm' : Nat → Prop) (ρ' : Nat → Pl), (∀ k, (assoc (viewH key ras) k).isSome = true → dm' k ∧ ρ' k = pl k) → Ds dm' ρ' args vs
  | [], [], vs, key, h, _ => ⟨fun _ => ({ blk := 0, off := 0, cap := 0 } : Pl), fun k b hb => by simp [viewH, assoc] at hb, fun _ _ _ => h⟩
  | [], _ :: _, vs, key, h, ho => ho.elim
  | _ :: _, [], vs, key, h, ho => ho.elim
  | x :: r, y :: t, vs, key, h, ho => by
    obtain ⟨u, c, rfl, hx, hr⟩ := h
    cases x with
    | v x =>
      obtain ⟨pl, p1, p2⟩ := views_at r t c key hr ho.2
      exact ⟨pl, p1, fun dm' ρ' hk => ⟨u, c, eqV_D x y u ho.1 hx, rfl, p2 dm' ρ' hk⟩⟩
    | n =>
      obtain ⟨pl, p1, p2⟩ := views_at r t c key hr ho.2
      obtain ⟨rfl, _⟩ := ho
      exact ⟨pl, p1, fun dm' ρ' hk => ⟨u, c, hx, rfl, p2 dm' ρ' hk⟩⟩
    | c q =>
      obtain ⟨pl, p1, p2⟩ := views_at r t c (key + 1) hr ho.2
      obtain ⟨rfl, _⟩ := ho
      obtain ⟨hq, hlt, ad, n, cap, rfl⟩ := hx
      obtain ⟨e1, e2, e3⟩ := hq.at_ ad n cap rfl
      obtain ⟨b, o, hpl⟩ : ∃ b o, (conLen q = 0 ∧ cap = 0 ∧ b = 0 ∧ o = 0) ∨ (ad = some ⟨b, o, none⟩ ∧ (0 < conSize q * cap → b < w.heap.size) ∧ w.rangeAt b o (conCells q)) := by
        rcases e3 with ⟨a, b⟩ | ⟨b, o, a⟩
        · exact ⟨0, 0, .inl ⟨a, b, rfl, rfl⟩⟩
        · exact ⟨b, o, .inr a⟩
      have hcl := conCells_length hq.ok
      have hle : (conCells q).length ≤ conSize q * cap := by
        rw [hcl, Nat.mul_comm]; exact Nat.mul_le_mul_left _ (by omega)
      have hsl : ∀ k, k ≠ key → assoc (viewH key (RA.c q :: r)) k = assoc (viewH (key + 1) r) k := fun k hk => by
        have : Nat.beq key k = false := by
          cases hb : Nat.beq key k with
          | false => rfl
          | true => exact absurd (Nat.eq_of_beq_eq_true hb).symm hk
        simp only [viewH, assoc, this]
      have hself : assoc (viewH key (RA.c q :: r)) key = some (.segs true [conRow q]) := by simp only [viewH, assoc, Nat.beq_refl]
      refine ⟨fun k => if k = key then { blk := b, off := o, cap := conSize q * cap } else pl k, fun k b' hb => ?_, fun dm' ρ' hk => ?_⟩
      · by_cases e : k = key
        · subst e
          rw [hself] at hb
          simp only [Option.some.injEq] at hb
          subst hb
          simp only [if_true]
          refine ⟨_, conCells q, rfl, segs_one (conRow_D hq.ok), hle, ?_, ?_⟩
          · rcases hpl with ⟨z1, z2, _⟩ | ⟨_, _, hr⟩
            · have : conCells q = [] := List.eq_nil_of_length_eq_zero (by rw [hcl, z1]; simp)
              rw [this]; exact rangeAt_nil _ _ _
            · exact hr
          · rcases hpl with ⟨z1, z2, _⟩ | ⟨_, hb, _⟩
            · rw [z2]; simp
            · exact hb
        · rw [hsl k e] at hb
          simp only [e, if_false]
          exact p1 k b' hb
      · obtain ⟨k1, k2⟩ := hk key (by rw [hself]; rfl)
        simp only [if_true] at k2
        refine ⟨_, c, ?_, rfl, p2 dm' ρ' fun k hk' => ?_⟩
        · rw [e1]
          refine sl_D k1 _ hlt (by omega) ?_
          rcases hpl with ⟨z1, z2, _⟩ | ⟨hb, _, _⟩
          · exact .inr ⟨z1, z2⟩
          · left
            rw [k2]
            exact ⟨by rw [hb]; simp [at_], Nat.le_refl _⟩
        · have hne : k ≠ key := fun e => by
            subst e
            obtain ⟨b', hb'⟩ := Option.isSome_iff_exists.1 hk'
            have := viewH_low r (k + 1) k b' hb'
            omega
          have := hk k (by rw [hsl k hne]; exact hk')
          simp only [hne, if_false] at this
          exact this

theorem mem_ro {h : Heap} {ρg : Nat → Pl} (hh : ∀ k b, assoc h k = some b → ∃ l cs, b = .segs true l ∧ SegsD (fun _ => False) (fun _ => ({ blk := 0, off := 0, cap := 0 } : Pl)) l cs ∧ cs.length ≤ (ρg k).cap ∧ w.rangeAt (ρg k).blk (ρg k).off cs ∧ (0 < (ρg k).cap → (ρg k).blk < w.heap.size)) :
    Mem w (fun _ => False) ρg (assoc h) w := by
  refine ⟨⟨fun k b hb => ?_, fun k k' ro ro' l l' h1 h2 hk hr _ _ => ?_, fun k ro l h1 hc => ?_⟩, FrameW.refl _ _, fun k l h1 _ => ?_, fun k h1 => by obtain ⟨_, _, e, _⟩ := hh k _ h1; cases e⟩
  · obtain ⟨l, cs, rfl, a1, a2, a3, a4⟩ := hh k b hb
    exact ⟨cs, SegsD.mono (fun _ h => h.elim) (fun _ h => h.elim) l cs a1, a2, a3, fun h => by cases h⟩
  · obtain ⟨_, _, e1, _⟩ := hh k _ h1
    obtain ⟨_, _, e2, _⟩ := hh k' _ h2
    simp only [SB.segs.injEq] at e1 e2
    rw [e1.1, e2.1] at hr
    rcases hr with hr | hr <;> cases hr
  · obtain ⟨_, _, _, _, _, _, h⟩ := hh k _ h1; exact h hc
  · obtain ⟨_, _, e1, _⟩ := hh k _ h1
    simp only [SB.segs.injEq] at e1
    cases e1.1

/-- A contract off a function that reads slices. -/
theorem call_read (hΓ : TabOk P Γ) (hgl : Γ.gl = keysOf Γ.gh) (hlow : ∀ g ∈ keysOf Γ.gh, g < 500) {f : FuncId} {fn : Func} (hf : P.funcs[f]? = some fn) (hn : (fn.name == "runtime.NumGoroutine") = false) (hb : fn.body.isNone = false) (flags : List Bool) (spec : List RA → Option (List Prop × SV))
    (h : ∀ ras p y, spec ras = some (p, y) → AllP p → (∀ x, RA.v x ∈ ras → FactV x) → (∀ q, RA.c q ∈ ras → conOk q ∧ ((conLen q : Nat) : Int) < 9223372036854775808) →
      ∃ args' L inv, okArgs 500 ras args' ∧ args'.length ≤ fn.ntmps ∧ Vc Γ fn L (Γ.gh ++ viewH 500 ras) args' (fun x => eqV x y) inv) : CallOk P Γ.gh f (readCtr flags spec) := by
  intro stamp args H rs rs' d vs w0 M ρ w hG hc hp hD hm
  obtain ⟨p, ras, rs1, h1, h2⟩ := viewArgs_sound (P := P) hm flags args vs _ d rs rs' hD hc
  split at h1
  · rename_i p' y hs
    have e := run_ret h1; subst e
    obtain ⟨hp1, hp2⟩ := AllP.append (l := p) (r := p') hp
    have hR := h2 hp1
    have hfacts : ∀ (ras : List RA) (vs : List Value), RAsD P w (dmOf H) ρ ras vs → (∀ x, RA.v x ∈ ras → FactV x) ∧ (∀ q, RA.c q ∈ ras → conOk q ∧ ((conLen q : Nat) : Int) < 9223372036854775808) := by
      intro ras
      induction ras with
      | nil => intro vs _; exact ⟨(fun x hx => by cases hx), (fun q hq => by cases hq)⟩
      | cons a r ih =>
        intro vs hR
        obtain ⟨u, c, rfl, hx, hr⟩ := hR
        obtain ⟨i1, i2⟩ := ih c hr
        refine ⟨fun x hx' => ?_, fun q hq => ?_⟩
        · rcases List.mem_cons.1 hx' with e | hx'
          · subst e; exact D.fact x u hx
          · exact i1 x hx'
        · rcases List.mem_cons.1 hq with e | hq
          · subst e; exact ⟨hx.1.ok, hx.2.1⟩
          · exact i2 q hq
    obtain ⟨f1, f2⟩ := hfacts ras vs hR
    obtain ⟨args', L, inv, k1, k2, k3⟩ := h ras p' y hs hp2 f1 f2
    obtain ⟨ρg, g1, g2, g3⟩ := mem_of_glob hG hm
    obtain ⟨pl, v1, v2⟩ := views_at ras args' vs 500 hR k1
    have hbelow : ∀ k b, assoc Γ.gh k = some b → k < 500 := fun k b hb => hlow k (keysOf_of_dm (by unfold dmOf; rw [hb]; rfl))
    have hat : ∀ k b, assoc (Γ.gh ++ viewH 500 ras) k = some b → (k < 500 ∧ assoc Γ.gh k = some b) ∨ (500 ≤ k ∧ assoc (viewH 500 ras) k = some b) := fun k b hb => by
      rw [assoc_app] at hb
      split at hb
      · rename_i x hx
        rw [hb] at hx
        exact .inl ⟨hbelow k b hx, hx⟩
      · exact .inr ⟨viewH_low ras 500 k b hb, hb⟩
    have hmem : Mem w (fun _ => False) (fun k => if k < 500 then ρg k else pl k) (assoc (Γ.gh ++ viewH 500 ras)) w := by
      refine mem_ro fun k b hb => ?_
      rcases hat k b hb with ⟨hk, hb⟩ | ⟨hk, hb⟩
      · simp only [hk, if_true]
        obtain ⟨l, cs, rfl, _, _, _, hlt⟩ := g2 k b (assoc_mem hb)
        obtain ⟨cs2, s1, s2, s3, _⟩ := g1.heap.blk k _ hb
        obtain ⟨_, _, e, q1, q2, _, _⟩ := g2 k _ (assoc_mem hb)
        simp only [SB.segs.injEq, true_and] at e
        subst e
        refine ⟨_, _, rfl, q1, ?_, by rw [(g3 k).1, (g3 k).2]; exact q2, fun hc => g1.heap.lt k true _ hb hc⟩
        have hu : ∀ (l : List Seg) (dm dm' : Nat → Prop) (ρ ρ' : Nat → Pl) (u v : List Value), SegsD dm ρ l u → SegsD dm' ρ' l v → u.length = v.length := by
          intro l
          induction l with
          | nil => intro _ _ _ _ u v hu hv; rw [show u = [] from hu, show v = [] from hv]
          | cons g r ih =>
            intro dm dm' ρ ρ' u v hu hv
            obtain ⟨a1, a2, a3, rfl, a5⟩ := hu
            obtain ⟨b1, b2, b3, rfl, b5⟩ := hv
            have := ih dm dm' ρ ρ' _ _ a5 b5
            have hg : a1.length = b1.length := by
              cases g with
              | one x => obtain ⟨_, _, _, e1⟩ := a3; obtain ⟨_, _, _, e2⟩ := b3; rw [e1, e2]; rfl
              | arr k n ex l => rw [a3.2.2, b3.2.2]
              | rowI k l => rw [a3.2, b3.2]
              | rowA k n l => rw [a3.2, b3.2]
            simp [this, hg]
        rw [hu _ _ _ _ _ _ _ q1 s1]
        exact s2
      · have hn : ¬ (k < 500) := by omega
        simp only [hn, if_false]
        exact v1 k b hb
    have hgo : GlOk Γ w (fun _ => False) (fun k => if k < 500 then ρg k else pl k) (assoc (Γ.gh ++ viewH 500 ras)) := by
      refine ⟨fun g hg => ?_, g2⟩
      rw [hgl] at hg
      have hk := hlow g hg
      simp only [hk, if_true]
      refine ⟨?_, (g3 g).1, (g3 g).2⟩
      have := assoc_dm hg
      unfold dmOf at this ⊢
      rw [assoc_app]
      obtain ⟨b, hb⟩ := Option.isSome_iff_exists.1 this
      rw [hb]; rfl
    have hargs : Ds (dmOf (assoc (Γ.gh ++ viewH 500 ras))) (fun k => if k < 500 then ρg k else pl k) args' vs := by
      refine v2 _ _ fun k hk => ?_
      obtain ⟨b, hb⟩ := Option.isSome_iff_exists.1 hk
      have h5 := viewH_low ras 500 k b hb
      have hn : ¬ (k < 500) := by omega
      refine ⟨?_, by simp only [hn, if_false]⟩
      unfold dmOf
      rw [assoc_app]
      split
      · rfl
      · exact hk
    refine .inr ⟨f, vs.toArray, GoFn.run ⟨fn, hf, hn, hb⟩ _ _, (vc_calls hΓ hf k3 k2 hgo hmem hargs).mono fun e w' he => ?_⟩
    obtain ⟨x, v, rfl, q1, ⟨dm, ρ', q2⟩, q3⟩ := he
    exact ⟨v, rfl, ρ, .refl _ _, eqV_D x y v q1 q2, hm.keep q3⟩
  · simp [RP.run] at h1

end
end Go.Gx
