/- A state that fits a pattern may stand as the pattern, filled. -/
import Derived.Test.YtihihilhfijloaaDoorFns
import Derived.Test.YtihihilhfijloaaDoorTmpl
namespace Go.Gx
open Go.RowKit
set_option linter.unusedVariables false

def Rle (r r' : Ren) : Prop := ∀ k c, rlook r k = some c → rlook r' k = some c
def Rinj (r : Ren) : Prop := ∀ a b c, rlook r a = some c → rlook r b = some c → a = b
def rf (r : Ren) (k : Nat) : Nat := match rlook r k with | some c => c | none => k

theorem Rle.refl (r : Ren) : Rle r r := fun _ _ h => h
theorem Rle.trans {a b c : Ren} (h : Rle a b) (k : Rle b c) : Rle a c := fun _ _ e => k _ _ (h _ _ e)

theorem rhas_look : ∀ (r : Ren) (k c : Nat), rlook r k = some c → rhas r c = true
  | (a, d) :: r, k, c, h => by
    simp only [rlook] at h
    simp only [rhas]
    split at h
    · simp only [Option.some.injEq] at h; subst h; rw [Nat.beq_refl]
    · split
      · rfl
      · exact rhas_look r k c h

theorem renKey_ok {key key' : Nat} {r r' : Ren} (h : renKey key key' r = some r') : Rle r r' ∧ rlook r' key = some key' ∧ (Rinj r → Rinj r') := by
  unfold renKey at h
  split at h
  · rename_i k2 hk
    split at h
    · rename_i e
      simp only [Option.some.injEq] at h; subst h
      exact ⟨.refl _, by rw [hk, Nat.eq_of_beq_eq_true e], fun h => h⟩
    · cases h
  · rename_i hk
    split at h
    · cases h
    · rename_i hh
      simp only [Option.some.injEq] at h; subst h
      have hl : ∀ k, rlook ((key, key') :: r) k = if k = key then some key' else rlook r k := fun k => by
        simp only [rlook]
        by_cases e : k = key
        · subst e; rw [Nat.beq_refl, if_pos rfl]
        · have : Nat.beq key k = false := by
            cases hb : Nat.beq key k with
            | false => rfl
            | true => exact absurd (Nat.eq_of_beq_eq_true hb).symm e
          rw [this, if_neg e]
      refine ⟨fun k c e => ?_, by rw [hl, if_pos rfl], fun hi a b c ha hb => ?_⟩
      · rw [hl, if_neg]
        · exact e
        · intro e2; subst e2; rw [hk] at e; cases e
      · rw [hl] at ha hb
        have no : ∀ k, rlook r k ≠ some key' := fun k e => by rw [rhas_look r k key' e] at hh; cases hh
        split at ha <;> split at hb
        · rename_i e1 e2; rw [e1, e2]
        · simp only [Option.some.injEq] at ha; subst ha; exact absurd hb (no _)
        · simp only [Option.some.injEq] at hb; subst hb; exact absurd ha (no _)
        · exact hi a b c ha hb

theorem ieq_eq {a b : Int} (h : ieq a b = true) : a = b := by
  unfold ieq at h
  split at h
  · rw [Nat.eq_of_beq_eq_true h]
  · rw [Nat.eq_of_beq_eq_true h]
  · cases h

theorem beqB_eq {a b : Bool} (h : beqB a b = true) : a = b := by cases a <;> cases b <;> simp [beqB] at h <;> rfl

theorem matchI_ok {t x : SI} {ps : List Pv} (h : matchI t x = some ps) : ∃ y : SI, y.z = x.z ∧ ∀ rest, instI t (ps ++ rest) = (y, rest) := by
  unfold matchI at h
  split at h
  · rename_i ht
    split at h
    · split at h
      · rename_i e
        simp only [Option.some.injEq] at h; subst h
        exact ⟨t, ieq_eq e, fun rest => by unfold instI; rw [ht]; rfl⟩
      · cases h
    · cases h
  · rename_i ht
    simp only [Option.some.injEq] at h; subst h
    exact ⟨⟨false, x.z⟩, rfl, fun rest => by unfold instI; rw [ht]; rfl⟩

theorem matchL_ok : ∀ (l l' : List Int) (ps : List Pv), matchL l l' = some ps → ∀ rest, instL l (ps ++ rest) = (l', rest)
  | [], [], ps, h => by simp only [matchL, Option.some.injEq] at h; subst h; exact fun rest => rfl
  | [], _ :: _, ps, h => by simp [matchL] at h
  | _ :: _, [], ps, h => by simp [matchL] at h
  | a :: t, x :: r, ps, h => by
    simp only [matchL] at h
    split at h
    · rename_i p hp
      simp only [Option.some.injEq] at h; subst h
      intro rest
      simp only [List.cons_append, instL, matchL_ok t r p hp rest]
    · cases h

theorem matchA_ok {k k' : IntKind} {n m : Nat} {ex ex' : Bool} {l l' : List Int} {ps : List Pv} (h : matchA k k' n m ex ex' l l' = some ps) : k = k' ∧ n = m ∧ ∀ rest, instA ex l (ps ++ rest) = (l', rest) := by
  unfold matchA at h
  split at h
  · rename_i e
    simp only [Bool.and_eq_true] at e
    refine ⟨keq_eq e.1, Nat.eq_of_beq_eq_true e.2, ?_⟩
    split at h
    · simp only [Option.some.injEq] at h; subst h; exact fun rest => rfl
    · split at h
      · exact matchL_ok l l' ps h
      · cases h
  · cases h

/-- What a match of values gives. -/
structure VOk (x : SV) (r r' : Ren) (y : SV) : Prop where
  le : Rle r r'
  inj : Rinj r → Rinj r'
  sub : ∀ (dm dm2 : Nat → Prop) (ρ : Nat → Pl) (R : Ren) (v : Value), Rle r' R → (∀ k c, rlook R k = some c → dm2 k) → D dm ρ x v → D dm2 (fun k => ρ (rf R k)) y v

structure VsOk (xs : List SV) (r r' : Ren) (ys : List SV) : Prop where
  le : Rle r r'
  inj : Rinj r → Rinj r'
  cs : ∀ (dm dm2 : Nat → Prop) (ρ : Nat → Pl) (R : Ren) (v : List Value), Rle r' R → (∀ k c, rlook R k = some c → dm2 k) → Cs dm ρ xs v → Cs dm2 (fun k => ρ (rf R k)) ys v
  ds : ∀ (dm dm2 : Nat → Prop) (ρ : Nat → Pl) (R : Ren) (v : List Value), Rle r' R → (∀ k c, rlook R k = some c → dm2 k) → Ds dm ρ xs v → Ds dm2 (fun k => ρ (rf R k)) ys v
  len : ys.length = xs.length
  pt : ∀ (dm dm2 : Nat → Prop) (ρ : Nat → Pl) (R : Ren) (i : Nat) (v : Value), Rle r' R → (∀ k c, rlook R k = some c → dm2 k) → D dm ρ (tget xs i) v → D dm2 (fun k => ρ (rf R k)) (tget ys i) v

mutual
theorem shEq_eq : ∀ (a b : Sh), shEq a b = true → a = b
  | .i k, b, h => by cases b <;> simp [shEq] at h; rw [keq_eq h]
  | .tb, b, h => by cases b <;> simp [shEq] at h; rfl
  | .ts, b, h => by cases b <;> simp [shEq] at h; rfl
  | .arr n k, b, h => by cases b <;> simp [shEq] at h; rw [h.1, keq_eq h.2]
  | .r a, b, h => by cases b <;> simp [shEq] at h; rw [shEqs_eq _ _ h]
  | .ints k, b, h => by cases b <;> simp [shEq] at h; rw [keq_eq h]
  | .l a, b, h => by cases b <;> simp [shEq] at h; rw [shEq_eq _ _ h]
theorem shEqs_eq : ∀ (a b : List Sh), shEqs a b = true → a = b
  | [], [], h => rfl
  | [], _ :: _, h => by simp [shEqs] at h
  | _ :: _, [], h => by simp [shEqs] at h
  | x :: r, y :: t, h => by simp only [shEqs, Bool.and_eq_true] at h; rw [shEq_eq _ _ h.1, shEqs_eq _ _ h.2]
end

theorem rf_of {R : Ren} {k c : Nat} (h : rlook R k = some c) : rf R k = c := by unfold rf; rw [h]

mutual
theorem matchV_ok : ∀ (t x : SV) (r r' : Ren) (ps : List Pv), matchV t x r = some (r', ps) → ∃ y, (∀ rest, instV t (ps ++ rest) = (y, rest)) ∧ VOk x r r' y
  | .any, x, r, r', ps, h => by
    simp only [matchV, Option.some.injEq, Prod.mk.injEq] at h
    obtain ⟨rfl, rfl⟩ := h
    exact ⟨.any, fun rest => rfl, .refl _, fun h => h, fun _ _ _ _ _ _ _ _ => trivial⟩
  | .i k a, x, r, r', ps, h => by
    simp only [matchV] at h
    split at h
    · rename_i k' c
      split at h
      · rename_i q hk hq
        simp only [Option.some.injEq, Prod.mk.injEq] at h
        obtain ⟨rfl, rfl⟩ := h
        obtain ⟨y, h1, h2⟩ := matchI_ok hq
        refine ⟨.i k y, fun rest => by simp only [instV, h2], .refl _, fun h => h, fun dm dm2 ρ R v _ _ hd => ?_⟩
        rw [keq_eq hk]
        simp only [D] at hd ⊢
        rw [h1]; exact hd
      · cases h
    · cases h
  | .b st v, x, r, r', ps, h => by
    simp only [matchV] at h
    split at h
    · rename_i st' v'
      split at h
      · split at h
        · split at h
          · rename_i e
            simp only [Option.some.injEq, Prod.mk.injEq] at h
            obtain ⟨rfl, rfl⟩ := h
            exact ⟨.b true v, fun rest => rfl, .refl _, fun h => h, fun dm dm2 ρ R u _ _ hd => by rw [beqB_eq e]; exact hd⟩
          · cases h
        · cases h
      · simp only [Option.some.injEq, Prod.mk.injEq] at h
        obtain ⟨rfl, rfl⟩ := h
        exact ⟨.b false v', fun rest => rfl, .refl _, fun h => h, fun dm dm2 ρ R u _ _ hd => hd⟩
    · cases h
  | .s s0, x, r, r', ps, h => by
    simp only [matchV] at h
    split at h
    · rename_i v
      simp only [Option.some.injEq, Prod.mk.injEq] at h
      obtain ⟨rfl, rfl⟩ := h
      exact ⟨.s v, fun rest => rfl, .refl _, fun h => h, fun dm dm2 ρ R u _ _ hd => hd⟩
    · cases h
  | .np, x, r, r', ps, h => by
    simp only [matchV] at h
    split at h
    · simp only [Option.some.injEq, Prod.mk.injEq] at h
      obtain ⟨rfl, rfl⟩ := h
      exact ⟨.np, fun rest => rfl, .refl _, fun h => h, fun dm dm2 ρ R u _ _ hd => hd⟩
    · cases h
  | .nsl, x, r, r', ps, h => by
    simp only [matchV] at h
    split at h
    · simp only [Option.some.injEq, Prod.mk.injEq] at h
      obtain ⟨rfl, rfl⟩ := h
      exact ⟨.nsl, fun rest => rfl, .refl _, fun h => h, fun dm dm2 ρ R u _ _ hd => hd⟩
    · cases h
  | .p key c, x, r, r', ps, h => by
    simp only [matchV] at h
    split at h
    · rename_i key' c'
      split at h
      · rename_i r2 hc hr
        simp only [Option.some.injEq, Prod.mk.injEq] at h
        obtain ⟨rfl, rfl⟩ := h
        obtain ⟨q1, q2, q3⟩ := renKey_ok hr
        refine ⟨.p key c, fun rest => rfl, q1, q3, fun dm dm2 ρ R u hR hd2 hd => ?_⟩
        simp only [D] at hd ⊢
        have e := hR _ _ q2
        rw [rf_of e, Nat.eq_of_beq_eq_true hc]
        exact ⟨hd2 _ _ e, hd.2⟩
      · cases h
    · cases h
  | .sl key c est off len, x, r, r', ps, h => by
    simp only [matchV] at h
    split at h
    · rename_i key' c' est' off' len'
      split at h
      · rename_i r2 p q hc hr ho hl
        simp only [Option.some.injEq, Prod.mk.injEq] at h
        obtain ⟨rfl, rfl⟩ := h
        simp only [Bool.and_eq_true] at hc
        obtain ⟨q1, q2, q3⟩ := renKey_ok hr
        obtain ⟨y1, a1, a2⟩ := matchI_ok ho
        obtain ⟨y2, b1, b2⟩ := matchI_ok hl
        refine ⟨.sl key c est y1 y2, fun rest => by simp only [instV, List.append_assoc, a2, b2], q1, q3, fun dm dm2 ρ R u hR hd2 hd => ?_⟩
        simp only [D] at hd ⊢
        have e := hR _ _ q2
        rw [rf_of e, Nat.eq_of_beq_eq_true hc.1, Nat.eq_of_beq_eq_true hc.2, a1, b1]
        exact ⟨hd2 _ _ e, hd.2⟩
      · cases h
    · cases h
  | .arr k n ex l, x, r, r', ps, h => by
    simp only [matchV] at h
    split at h
    · rename_i k' m ex' l'
      split at h
      · rename_i q hq
        simp only [Option.some.injEq, Prod.mk.injEq] at h
        obtain ⟨rfl, rfl⟩ := h
        obtain ⟨e1, e2, e3⟩ := matchA_ok hq
        refine ⟨.arr k n ex l', fun rest => by simp only [instV, e3], .refl _, fun h => h, fun dm dm2 ρ R u _ _ hd => ?_⟩
        rw [e1, e2]; exact hd
      · cases h
    · cases h
  | .agg ts, x, r, r', ps, h => by
    simp only [matchV] at h
    split at h
    · rename_i ys
      obtain ⟨zs, h1, h2⟩ := matchVs_ok ts ys r r' ps h
      refine ⟨.agg zs, fun rest => by simp only [instV, h1], h2.le, h2.inj, fun dm dm2 ρ R u hR hd2 hd => ?_⟩
      simp only [D] at hd ⊢
      obtain ⟨cs, c1, c2⟩ := hd
      exact ⟨cs, h2.cs dm dm2 ρ R cs hR hd2 c1, c2⟩
    · cases h
  | .tup ts, x, r, r', ps, h => by
    simp only [matchV] at h
    split at h
    · rename_i ys
      obtain ⟨zs, h1, h2⟩ := matchVs_ok ts ys r r' ps h
      refine ⟨.tup zs, fun rest => by simp only [instV, h1], h2.le, h2.inj, fun dm dm2 ρ R u hR hd2 hd => ?_⟩
      simp only [D] at hd ⊢
      obtain ⟨cs, c1, c2⟩ := hd
      exact ⟨cs, h2.ds dm dm2 ρ R cs hR hd2 c1, c2⟩
    · cases h
  | .fn f, x, r, r', ps, h => by
    simp only [matchV] at h
    split at h
    · rename_i g
      split at h
      · rename_i e
        simp only [Option.some.injEq, Prod.mk.injEq] at h
        obtain ⟨rfl, rfl⟩ := h
        exact ⟨.fn f, fun rest => rfl, .refl _, fun h => h, fun dm dm2 ρ R u _ _ hd => by rw [Nat.eq_of_beq_eq_true e]; exact hd⟩
      · cases h
    · cases h
  | .ro key sh d, x, r, r', ps, h => by
    simp only [matchV] at h
    split at h
    · rename_i key' sh' d'
      split at h
      · rename_i r1 he hk
        simp only [Option.some.injEq, Prod.mk.injEq] at h
        obtain ⟨rfl, rfl⟩ := h
        obtain ⟨k1, k2, k3⟩ := renKey_ok hk
        refine ⟨.ro key sh d', fun rest => rfl, k1, k3, fun dm dm2 ρ R u hR hd2 hd => ?_⟩
        have e := shEq_eq sh sh' he
        subst e
        have e2 := hR _ _ k2
        simp only [D] at hd ⊢
        rw [rf_of e2]
        exact ⟨hd2 _ _ e2, hd.2⟩
      · cases h
    · cases h
  | .rop .., x, r, r', ps, h => by simp [matchV] at h
  | .pd .., x, r, r', ps, h => by simp [matchV] at h
  | .val _, x, r, r', ps, h => by simp [matchV] at h
theorem matchVs_ok : ∀ (ts xs : List SV) (r r' : Ren) (ps : List Pv), matchVs ts xs r = some (r', ps) → ∃ ys, (∀ rest, instVs ts (ps ++ rest) = (ys, rest)) ∧ VsOk xs r r' ys
  | [], [], r, r', ps, h => by
    simp only [matchVs, Option.some.injEq, Prod.mk.injEq] at h
    obtain ⟨rfl, rfl⟩ := h
    exact ⟨[], fun rest => rfl, .refl _, fun h => h, fun _ _ _ _ _ _ _ h => h, fun _ _ _ _ _ _ _ h => h, rfl, fun _ _ _ _ _ _ _ _ _ => trivial⟩
  | [], _ :: _, r, r', ps, h => by simp [matchVs] at h
  | _ :: _, [], r, r', ps, h => by simp [matchVs] at h
  | t :: ts, x :: xs, r, r', ps, h => by
    simp only [matchVs] at h
    split at h
    · rename_i r1 p hp
      split at h
      · rename_i r2 q hq
        simp only [Option.some.injEq, Prod.mk.injEq] at h
        obtain ⟨rfl, rfl⟩ := h
        obtain ⟨y, a1, a2⟩ := matchV_ok t x r r1 p hp
        obtain ⟨ys, b1, b2⟩ := matchVs_ok ts xs r1 r2 q hq
        refine ⟨y :: ys, fun rest => by simp only [instVs, List.append_assoc, a1, b1], a2.le.trans b2.le, fun h => b2.inj (a2.inj h), ?_, ?_, by simp [b2.len], ?_⟩
        · intro dm dm2 ρ R v hR hd2 hd
          simp only [Cs] at hd ⊢
          obtain ⟨u, c, c1, c2, c3⟩ := hd
          exact ⟨u, c, a2.sub dm dm2 ρ R u (b2.le.trans hR) hd2 c1, c2, b2.cs dm dm2 ρ R c hR hd2 c3⟩
        · intro dm dm2 ρ R v hR hd2 hd
          simp only [Ds] at hd ⊢
          obtain ⟨u, c, c1, c2, c3⟩ := hd
          exact ⟨u, c, a2.sub dm dm2 ρ R u (b2.le.trans hR) hd2 c1, c2, b2.ds dm dm2 ρ R c hR hd2 c3⟩
        · intro dm dm2 ρ R i v hR hd2 hd
          cases i with
          | zero => exact a2.sub dm dm2 ρ R v (b2.le.trans hR) hd2 hd
          | succ i => exact b2.pt dm dm2 ρ R i v hR hd2 hd
      · cases h
    · cases h
end

theorem single_sub {x y : SV} {t : SV} {r r' : Ren} {ps : List Pv} (h : matchV t x r = some (r', ps)) (hs : single x = true) (hy : ∀ rest, instV t (ps ++ rest) = (y, rest)) : single y = true ∨ y = .any := by
  cases t <;> simp only [matchV] at h
  case any => right; have := hy []; simp [instV] at this; exact this.1.symm
  all_goals (cases x <;> simp only [reduceCtorEq] at h <;> simp only [single, Bool.false_eq_true] at hs)
  all_goals left
  case i k a _ _ => have e : y = (instV (.i k a) (ps ++ [])).1 := (congrArg Prod.fst (hy [])).symm; rw [e]; rfl
  case b st v _ _ =>
    have e : y = (instV (.b st v) (ps ++ [])).1 := (congrArg Prod.fst (hy [])).symm
    rw [e]; unfold instV; (repeat' split) <;> rfl
  case s s0 _ =>
    have e : y = (instV (.s s0) (ps ++ [])).1 := (congrArg Prod.fst (hy [])).symm
    rw [e]; unfold instV; (repeat' split) <;> rfl
  case ro key sh d _ _ _ =>
    have e : y = (instV (.ro key sh d) (ps ++ [])).1 := (congrArg Prod.fst (hy [])).symm
    rw [e]; unfold instV; (repeat' split) <;> rfl
  case np => have e : y = .np := (congrArg Prod.fst (hy [])).symm; rw [e]; rfl
  case nsl => have e : y = .nsl := (congrArg Prod.fst (hy [])).symm; rw [e]; rfl
  case p key c _ _ => have e : y = .p key c := (congrArg Prod.fst (hy [])).symm; rw [e]; rfl
  case sl key c est off len _ _ _ _ _ => have e : y = (instV (.sl key c est off len) (ps ++ [])).1 := (congrArg Prod.fst (hy [])).symm; rw [e]; rfl
  case fn f _ => have e : y = .fn f := (congrArg Prod.fst (hy [])).symm; rw [e]; rfl

/-- What a match of pieces gives. -/
structure GOk (x : List Seg) (r r' : Ren) (y : List Seg) : Prop where
  le : Rle r r'
  inj : Rinj r → Rinj r'
  sub : ∀ (dm dm2 : Nat → Prop) (ρ : Nat → Pl) (R : Ren) (cs : List Value), Rle r' R → (∀ k c, rlook R k = some c → dm2 k) → SegsD dm ρ x cs → SegsD dm2 (fun k => ρ (rf R k)) y cs

theorem matchSeg1_ok {t x : Seg} {r r' : Ren} {ps : List Pv} (h : matchSeg.matchSeg1 t x r = some (r', ps)) : ∃ y, (∀ rest, instSeg.instSeg1 t (ps ++ rest) = (y, rest)) ∧ Rle r r' ∧ (Rinj r → Rinj r') ∧
    ∀ (dm dm2 : Nat → Prop) (ρ : Nat → Pl) (R : Ren) (cs : List Value), Rle r' R → (∀ k c, rlook R k = some c → dm2 k) → SegD dm ρ x cs → SegD dm2 (fun k => ρ (rf R k)) y cs := by
  cases t with
  | one t =>
    cases x with
    | one x =>
      have h' : t ≠ .any ∧ matchV t x r = some (r', ps) := by
        simp only [matchSeg.matchSeg1] at h
        split at h
        · cases h
        · rename_i hne; exact ⟨hne, h⟩
      obtain ⟨hne, h⟩ := h'
      obtain ⟨y, h1, h2⟩ := matchV_ok t x r r' ps h
      refine ⟨.one y, fun rest => by simp only [instSeg.instSeg1, h1], h2.le, h2.inj, fun dm dm2 ρ R cs hR hd2 hd => ?_⟩
      obtain ⟨a1, v, a2, a3⟩ := hd
      refine ⟨?_, v, h2.sub dm dm2 ρ R v hR hd2 a2, a3⟩
      rcases single_sub h a1 h1 with hs | hs
      · exact hs
      · subst hs
        have : t = .any := by
          have := h1 []
          cases t <;> first | rfl | (exfalso; revert this; unfold instV; (repeat' split) <;> simp)
        exact absurd this hne
    | _ => simp [matchSeg.matchSeg1] at h
  | arr k n ex l =>
    cases x with
    | arr k' m ex' l' =>
      simp only [matchSeg.matchSeg1] at h
      split at h
      · rename_i q hq
        simp only [Option.some.injEq, Prod.mk.injEq] at h
        obtain ⟨rfl, rfl⟩ := h
        obtain ⟨e1, e2, e3⟩ := matchA_ok hq
        exact ⟨.arr k n ex l', fun rest => by simp only [instSeg.instSeg1, e3], .refl _, fun h => h, fun dm dm2 ρ R cs _ _ hd => by rw [e1, e2]; exact hd⟩
      · cases h
    | _ => simp [matchSeg.matchSeg1] at h
  | rowI k l =>
    cases x with
    | rowI k' l' =>
      simp only [matchSeg.matchSeg1] at h
      split at h
      · rename_i e
        simp only [Option.some.injEq, Prod.mk.injEq] at h
        obtain ⟨rfl, rfl⟩ := h
        exact ⟨.rowI k l', fun rest => rfl, .refl _, fun h => h, fun dm dm2 ρ R cs _ _ hd => by rw [keq_eq e]; exact hd⟩
      · cases h
    | _ => simp [matchSeg.matchSeg1] at h
  | rowA k n l =>
    cases x with
    | rowA k' m l' =>
      simp only [matchSeg.matchSeg1] at h
      split at h
      · rename_i e
        simp only [Bool.and_eq_true] at e
        simp only [Option.some.injEq, Prod.mk.injEq] at h
        obtain ⟨rfl, rfl⟩ := h
        exact ⟨.rowA k n l', fun rest => rfl, .refl _, fun h => h, fun dm dm2 ρ R cs _ _ hd => by rw [keq_eq e.1, Nat.eq_of_beq_eq_true e.2]; exact hd⟩
      · cases h
    | _ => simp [matchSeg.matchSeg1] at h

theorem sameL_eq : ∀ {a b : List Int}, sameL a b = true → a = b
  | [], [], _ => rfl
  | [], _ :: _, h => by simp [sameL] at h
  | _ :: _, [], h => by simp [sameL] at h
  | x :: a, y :: b, h => by
    simp only [sameL] at h
    split at h
    · rename_i e; rw [ieq_eq e, sameL_eq h]
    · cases h

theorem matchSeg_ok {low : Bool} {t x : Seg} {r r' : Ren} {ps : List Pv} (h : matchSeg low t x r = some (r', ps)) : ∃ y, (∀ rest, instSeg low t (ps ++ rest) = (y, rest)) ∧ Rle r r' ∧ (Rinj r → Rinj r') ∧
    ∀ (dm dm2 : Nat → Prop) (ρ : Nat → Pl) (R : Ren) (cs : List Value), Rle r' R → (∀ k c, rlook R k = some c → dm2 k) → SegD dm ρ x cs → SegD dm2 (fun k => ρ (rf R k)) y cs := by
  unfold matchSeg at h
  split at h
  · rename_i hl
    split at h
    · rename_i k n ex l k' m ex' l'
      split at h
      · rename_i e
        simp only [Bool.and_eq_true] at e
        simp only [Option.some.injEq, Prod.mk.injEq] at h
        obtain ⟨rfl, rfl⟩ := h
        refine ⟨.arr k n ex l, fun rest => by unfold instSeg; rw [hl]; rfl, .refl _, fun h => h, fun dm dm2 ρ R cs _ _ hd => ?_⟩
        rw [keq_eq e.1.1, Nat.eq_of_beq_eq_true e.1.2, sameL_eq e.2]; exact hd
      · cases h
    · cases h
  · rename_i hl
    obtain ⟨y, h1, h2⟩ := matchSeg1_ok h
    exact ⟨y, fun rest => by unfold instSeg; rw [hl]; exact h1 rest, h2⟩

theorem matchSegs_ok {low : Bool} : ∀ (ts xs : List Seg) (r r' : Ren) (ps : List Pv), matchSegs low ts xs r = some (r', ps) → ∃ ys, (∀ rest, instSegs low ts (ps ++ rest) = (ys, rest)) ∧ GOk xs r r' ys
  | [], [], r, r', ps, h => by
    simp only [matchSegs, Option.some.injEq, Prod.mk.injEq] at h
    obtain ⟨rfl, rfl⟩ := h
    exact ⟨[], fun rest => rfl, .refl _, fun h => h, fun _ _ _ _ _ _ _ h => h⟩
  | [], _ :: _, r, r', ps, h => by simp [matchSegs] at h
  | _ :: _, [], r, r', ps, h => by simp [matchSegs] at h
  | t :: ts, x :: xs, r, r', ps, h => by
    simp only [matchSegs] at h
    split at h
    · rename_i r1 p hp
      split at h
      · rename_i r2 q hq
        simp only [Option.some.injEq, Prod.mk.injEq] at h
        obtain ⟨rfl, rfl⟩ := h
        obtain ⟨y, a1, a2, a3, a4⟩ := matchSeg_ok hp
        obtain ⟨ys, b1, b2⟩ := matchSegs_ok ts xs r1 r2 q hq
        refine ⟨y :: ys, fun rest => by simp only [instSegs, List.append_assoc, a1, b1], a2.trans b2.le, fun h => b2.inj (a3 h), ?_⟩
        intro dm dm2 ρ R v hR hd2 hd
        obtain ⟨u, c, c1, c2, c3⟩ := hd
        exact ⟨u, c, a4 dm dm2 ρ R u (b2.le.trans hR) hd2 c1, c2, b2.sub dm dm2 ρ R c hR hd2 c3⟩
      · cases h
    · cases h

/-- What a match of heaps gives. -/
theorem matchHeap_ok (h : Heap) : ∀ (t : Heap) (r r' : Ren) (ps : List Pv), matchHeap h t r = some (r', ps) → ∃ t', (∀ rest, instHeap t (ps ++ rest) = (t', rest)) ∧ Rle r r' ∧ (Rinj r → Rinj r') ∧
    (∀ k b, assoc t' k = some b → (∃ k' ro xs ys, rlook r' k = some k' ∧ assoc h k' = some (.segs ro xs) ∧ b = .segs ro ys ∧
      ∀ (dm dm2 : Nat → Prop) (ρ : Nat → Pl) (R : Ren) (cs : List Value), Rle r' R → (∀ k c, rlook R k = some c → dm2 k) → SegsD dm ρ xs cs → SegsD dm2 (fun k => ρ (rf R k)) ys cs) ∨
      (b = .world ∧ ∃ k', rlook r' k = some k' ∧ assoc h k' = some .world)) ∧
    (∀ k, (assoc t k).isSome = true → (assoc t' k).isSome = true)
  | [], r, r', ps, hh => by
    simp only [matchHeap, Option.some.injEq, Prod.mk.injEq] at hh
    obtain ⟨rfl, rfl⟩ := hh
    exact ⟨[], fun rest => rfl, .refl _, fun h => h, fun k b hb => by simp [assoc] at hb, fun k hk => hk⟩
  | (k0, .gone) :: t, r, r', ps, hh => by simp [matchHeap] at hh
  | (k0, .world) :: t, r, r', ps, hh => by
    simp only [matchHeap] at hh
    split at hh
    · rename_i k' hk'
      split at hh
      · rename_i hw
        obtain ⟨t', b1, b2, b3, b4, b5⟩ := matchHeap_ok h t r r' ps hh
        refine ⟨(k0, .world) :: t', fun rest => by simp only [instHeap, b1], b2, b3, fun k b hb => ?_, fun k hk => ?_⟩
        · simp only [assoc] at hb
          split at hb
          · rename_i e
            have e := Nat.eq_of_beq_eq_true e
            subst e
            simp only [Option.some.injEq] at hb
            exact .inr ⟨hb.symm, k', b2 _ _ hk', hw⟩
          · exact b4 k b hb
        · simp only [assoc] at hk ⊢
          split
          · rfl
          · rename_i e
            rw [e] at hk
            exact b5 k hk
      · cases hh
    · cases hh
  | (k0, .segs ro ts) :: t, r, r', ps, hh => by
    simp only [matchHeap] at hh
    split at hh
    · rename_i k' hk'
      split at hh
      · rename_i ro' xs hxs
        split at hh
        · rename_i r1 p hro hp
          split at hh
          · rename_i r2 q hq
            simp only [Option.some.injEq, Prod.mk.injEq] at hh
            obtain ⟨rfl, rfl⟩ := hh
            obtain ⟨ys, a1, a2⟩ := matchSegs_ok ts xs r r1 p hp
            obtain ⟨t', b1, b2, b3, b4, b5⟩ := matchHeap_ok h t r1 r2 q hq
            refine ⟨(k0, .segs ro ys) :: t', fun rest => by simp only [instHeap, List.append_assoc, a1, b1], a2.le.trans b2, fun h => b3 (a2.inj h), fun k b hb => ?_, fun k hk => ?_⟩
            · simp only [assoc] at hb
              split at hb
              · rename_i e
                have e := Nat.eq_of_beq_eq_true e
                subst e
                simp only [Option.some.injEq] at hb
                subst hb
                exact .inl ⟨k', ro', xs, ys, b2 _ _ (a2.le _ _ hk'), hxs, by rw [beqB_eq hro], fun dm dm2 ρ R cs hR hd2 hd => a2.sub dm dm2 ρ R cs (b2.trans hR) hd2 hd⟩
              · exact b4 k b hb
            · simp only [assoc] at hk ⊢
              split
              · rfl
              · rename_i e
                rw [e] at hk
                exact b5 k hk
          · cases hh
        · cases hh
      · cases hh
    · cases hh

theorem lowRen_look : ∀ (h : Heap) (k : Nat), k < 1000 → (assoc h k).isSome = true → rlook (lowRen h) k = some k
  | (k', b) :: r, k, hk, hh => by
    simp only [lowRen]
    simp only [assoc] at hh
    by_cases e : k' = k
    · subst e
      have : Nat.blt k' 1000 = true := by simp [Nat.blt]; omega
      rw [this]
      simp only [rlook]
      rw [Nat.beq_refl]
    · have hb : Nat.beq k' k = false := by
        cases hb : Nat.beq k' k with
        | false => rfl
        | true => exact absurd (Nat.eq_of_beq_eq_true hb) e
      rw [hb] at hh
      have ih := lowRen_look r k hk hh
      split
      · simp only [rlook]; rw [hb]; exact ih
      · exact ih

theorem lowRen_inj : ∀ (h : Heap), nodupR (lowRen h) = true → Rinj (lowRen h) := fun h _ => by
  have : ∀ (h : Heap) (a c : Nat), rlook (lowRen h) a = some c → a = c := by
    intro h
    induction h with
    | nil => intro a c e; simp [lowRen, rlook] at e
    | cons x r ih =>
      intro a c e
      obtain ⟨k, b⟩ := x
      simp only [lowRen] at e
      split at e
      · simp only [rlook] at e
        split at e
        · rename_i hb
          simp only [Option.some.injEq] at e
          rw [← e]; exact (Nat.eq_of_beq_eq_true hb).symm
        · exact ih a c e
      · exact ih a c e
  intro a b c ha hb
  rw [this h a c ha, this h b c hb]

theorem renIn_look : ∀ (r : Ren) (h : Heap), renIn r h = true → ∀ k c, rlook r k = some c → (assoc h k).isSome = true
  | (a, d) :: r, h, hh, k, c, e => by
    simp only [renIn] at hh
    split at hh
    · rename_i b hb
      simp only [rlook] at e
      split at e
      · rename_i hk
        rw [← Nat.eq_of_beq_eq_true hk, hb]; rfl
      · exact renIn_look r h hh k c e
    · cases hh

/-- A state that fits a pattern stands as the pattern, filled. -/
theorem weak_of_match {H0 : Nat → Option SB} {t σ : St} {ps : List Pv} (h : matchSt t σ = some ps) (hlow : ∀ k, dmOf H0 k → k < 1000 ∧ (assoc t.heap k).isSome = true) : Weak H0 σ (instSt t ps) := by
  unfold matchSt at h
  split at h
  · rename_i r p hnd hp
    split at h
    · rename_i r' q hq
      split at h
      · rename_i hin
        simp only [Option.some.injEq] at h
        subst h
        obtain ⟨ys, a1, a2⟩ := matchVs_ok t.tmps σ.tmps _ r p hp
        obtain ⟨t', b1, b2, b3, b4, b5⟩ := matchHeap_ok σ.heap t.heap r r' q hq
        have e1 : instSt t (p ++ q) = ⟨ys, t', t.ctr⟩ := by
          unfold instSt
          rw [a1 q]
          have := b1 []
          rw [List.append_nil] at this
          simp only [this]
        rw [e1]
        intro w0 M ρ0 ρ a w hi
        have hinj := b3 (a2.inj (lowRen_inj _ hnd))
        have hd2 : ∀ k c, rlook r' k = some c → dmOf (assoc t') k := fun k c hk => b5 k (renIn_look r' _ hin k c hk)
        refine ⟨fun k => ρ (rf r' k), ⟨fun i => a2.pt _ _ ρ r' i _ b2 hd2 (hi.tmps i), ?_, by simp only [a2.len]; exact hi.size, fun k hk => ?_, hi.defers⟩⟩
        · refine ⟨⟨fun k b hb => ?_, fun k k' ro ro' l l' h1 h2 hkk hr c1 c2 => ?_, fun k ro l h1 c1 => ?_⟩, hi.mem.frame, fun k l h1 c1 => ?_, fun k h1 => ?_⟩
          · rcases b4 k b hb with ⟨k', ro, xs, ys', q1, q2, rfl, q4⟩ | ⟨rfl, _⟩
            · obtain ⟨vs, s1, s2, s3, s4⟩ := hi.mem.heap.blk k' _ q2
              simp only [BlkD, rf_of q1]
              exact ⟨vs, q4 _ _ ρ r' vs (.refl _) hd2 s1, s2, s3, s4⟩
            · trivial
          · obtain ⟨j, ro1, xs, ys1, q1, q2, q3, _⟩ := (b4 k _ h1).resolve_right fun h => by cases h.1
            obtain ⟨j', ro1', xs', ys1', q1', q2', q3', _⟩ := (b4 k' _ h2).resolve_right fun h => by cases h.1
            simp only [SB.segs.injEq] at q3 q3'
            rw [rf_of q1] at c1
            rw [rf_of q1'] at c2
            show (ρ (rf r' k)).blk ≠ (ρ (rf r' k')).blk
            rw [rf_of q1, rf_of q1']
            refine hi.mem.heap.sep j j' ro1 ro1' xs xs' q2 q2' (fun e => ?_) (by rw [← q3.1, ← q3'.1]; exact hr) c1 c2
            subst e
            exact hkk (hinj k k' j q1 q1')
          · obtain ⟨j, ro1, xs, ys1, q1, q2, q3, _⟩ := (b4 k _ h1).resolve_right fun h => by cases h.1
            rw [rf_of q1] at c1
            show (ρ (rf r' k)).blk < _
            rw [rf_of q1]
            exact hi.mem.heap.lt j ro1 xs q2 c1
          · obtain ⟨j, ro1, xs, ys1, q1, q2, q3, _⟩ := (b4 k _ h1).resolve_right fun h => by cases h.1
            simp only [SB.segs.injEq] at q3
            rw [rf_of q1] at c1
            show _ ≤ (ρ (rf r' k)).blk ∨ M (ρ (rf r' k)).blk
            rw [rf_of q1]
            rw [← q3.1] at q2
            exact hi.mem.own j xs q2 c1
          · rcases b4 k _ h1 with ⟨_, _, _, _, _, _, e, _⟩ | ⟨_, k', q1, q2⟩
            · cases e
            · show (ρ (rf r' k)).rel = _
              rw [rf_of q1]; exact hi.mem.view k' q2
        · obtain ⟨k1, k2⟩ := hlow k hk
          have e : rlook r' k = some k := b2 _ _ (a2.le _ _ (lowRen_look _ k k1 k2))
          refine ⟨b5 k k2, ?_⟩
          show ρ (rf r' k) = ρ0 k
          rw [rf_of e]
          exact (hi.base k hk).2
      · cases h
    · cases h
  · cases h

/-- What the evaluator must show of a function, its loops by patterns. -/
structure Vc (Γ : Tab) (fn : Func) (L : Loops) (h : Heap) (args : List SV) (K : SV → Prop) (inv : Nat → List Pv → Nat → Prop) : Prop where
  low : ∀ k t, (k, t) ∈ L → ∀ g, g ∈ keysOf h → g < 1000 ∧ (assoc t.heap g).isSome = true
  loop : ∀ key ps m, inv key ps m → loopVc Γ fn L key ps K fun key' ps' => ∃ m', m' < m ∧ inv key' ps' m'
  entry : fnVc Γ fn L args h K fun key' ps' => ∃ m', inv key' ps' m'

theorem keysOf_of_dm : ∀ {h : Heap} {k : Nat}, dmOf (assoc h) k → k ∈ keysOf h
  | [], k, hk => by simp [dmOf, assoc] at hk
  | (k', b) :: r, k, hk => by
    unfold dmOf at hk
    simp only [assoc] at hk
    split at hk
    · rename_i e; rw [Nat.eq_of_beq_eq_true e]; simp [keysOf]
    · simp only [keysOf, List.mem_cons]; exact .inr (keysOf_of_dm hk)

theorem assoc_memL : ∀ {L : Loops} {k : Nat} {t : St}, assoc L k = some t → (k, t) ∈ L
  | (k', b') :: r, k, b, hh => by
    simp only [assoc] at hh
    split at hh
    · rename_i e
      simp only [Option.some.injEq] at hh
      rw [Nat.eq_of_beq_eq_true e, hh]; simp
    · exact List.mem_cons_of_mem _ (assoc_memL hh)

section
variable {P : Program} {Γ : Tab}

/-- A call of a function that the evaluator has run: what it begins with it only reads. -/
theorem vc_calls (hΓ : TabOk P Γ) {f : FuncId} {fn : Func} (hf : P.funcs[f]? = some fn) {L : Loops} {h : Heap} {args : List SV} {K : SV → Prop} {inv : Nat → List Pv → Nat → Prop} (hv : Vc Γ fn L h args K inv) (hlen : args.length ≤ fn.ntmps)
    {w : World} {ρg : Nat → Pl} {vs : List Value} (hgo : GlOk Γ w (fun _ => False) ρg (assoc h)) (g1 : Mem w (fun _ => False) ρg (assoc h) w) (ha : Ds (dmOf (assoc h)) ρg args vs) :
    Calls P f vs.toArray w fun e w' => ∃ x v, e = .returned v ∧ K x ∧ (∃ dm ρ', D dm ρ' x v) ∧ Below w.heap.size w w' := by
  have hweak : ∀ key t σ' ps, assoc L key = some t → matchSt t σ' = some ps → Weak (assoc h) σ' (instSt t ps) := fun key t σ' ps ht hm =>
    weak_of_match hm fun k hk => hv.low key t (assoc_memL ht) k (keysOf_of_dm hk)
  have hand : ∀ (Q : Nat → List Pv → Prop) key σ', handL L Q key σ' → ∃ t ps, assoc L key = some t ∧ matchSt t σ' = some ps ∧ Q key ps := fun Q key σ' h => by
    unfold handL at h
    split at h
    · rename_i t ht
      split at h
      · rename_i ps hps; exact ⟨t, ps, ht, hps, h⟩
      · exact h.elim
    · exact h.elim
  refine (fn_calls hΓ hf hgo hlen ha g1 (fun m key σ => ∃ t ps, assoc L key = some t ∧ σ = instSt t ps ∧ inv key ps m) (fun m => handL L fun key' ps' => ∃ m', m' < m ∧ inv key' ps' m') (fun m key σ hj => ?_) (fun m key σ' h => ?_)
    (handL L fun key' ps' => ∃ m', inv key' ps' m') (fun key σ' h => ?_) hv.entry).mono fun e w' he => ?_
  · obtain ⟨t, ps, ht, rfl, hinv⟩ := hj
    have := hv.loop key ps m hinv
    unfold loopVc at this
    rw [ht] at this
    exact this
  · obtain ⟨t, ps, ht, hps, m', hlt, hinv⟩ := hand _ _ _ h
    exact ⟨m', hlt, _, hweak _ _ _ _ ht hps, t, ps, ht, rfl, hinv⟩
  · obtain ⟨t, ps, ht, hps, m', hinv⟩ := hand _ _ _ h
    exact ⟨m', _, hweak _ _ _ _ ht hps, t, ps, ht, rfl, hinv⟩
  · obtain ⟨x, v, h', ρ', rfl, k1, k2, k3, k4⟩ := he
    exact ⟨x, v, rfl, k1, ⟨_, _, k2⟩, k3.frame.below fun _ h => h⟩

/-- A contract off a function that the evaluator has run. -/
theorem call_pure (hΓ : TabOk P Γ) (hgl : Γ.gl = keysOf Γ.gh) {f : FuncId} {fn : Func} (hf : P.funcs[f]? = some fn) (hn : (fn.name == "runtime.NumGoroutine") = false) (hb : fn.body.isNone = false) (spec : List SV → Option (List Prop × SV))
    (h : ∀ args p y, spec args = some (p, y) → AllP p → FactVs args → ∃ args' L inv, eqVs args args' ∧ args'.length ≤ fn.ntmps ∧ Vc Γ fn L Γ.gh args' (fun x => eqV x y) inv) : CallOk P Γ.gh f (pureCtr spec) := by
  intro stamp args H rs rs' d vs w0 M ρ w hG hc hp hD hm
  obtain ⟨p, y, hs, rfl⟩ := pureCtr_run hc
  obtain ⟨args', L, inv, h1, h2, h3⟩ := h args p y hs hp (Ds.fact args vs hD)
  obtain ⟨ρg, g1, g2, g3⟩ := mem_of_glob hG hm
  have hgo : GlOk Γ w (fun _ => False) ρg (assoc Γ.gh) := ⟨fun g hg => ⟨assoc_dm (by rw [← hgl]; exact hg), (g3 g).1, (g3 g).2⟩, g2⟩
  refine .inr ⟨f, vs.toArray, GoFn.run ⟨fn, hf, hn, hb⟩ _ _, (vc_calls hΓ hf h3 h2 hgo g1 (eqVs_Ds args args' vs h1 hD)).mono fun e w' he => ?_⟩
  obtain ⟨x, v, rfl, k1, ⟨dm, ρ', k2⟩, k3⟩ := he
  exact ⟨v, rfl, ρ, .refl _ _, eqV_D x y v k1 k2, hm.keep k3⟩

theorem vc_noloops {fn : Func} {h : Heap} {args : List SV} {K : SV → Prop} (hv : fnVc Γ fn [] args h K fun _ _ => False) : Vc Γ fn [] h args K fun _ _ _ => False :=
  ⟨fun k t ht => by simp at ht, fun key ps m h => h.elim, by simpa using hv⟩

theorem TabOk.cons {ty : List (Nat × TInfo)} {l : List (Nat × Ctr)} {gl : List Nat} {gh : Heap} (h : TabOk P ⟨ty, l, gl, gh⟩) {f : Nat} {c : Ctr} (hc : CallOk P gh f c) : TabOk P ⟨ty, (f, c) :: l, gl, gh⟩ :=
  ⟨h.mix, h.ty, fun g d hd => by
    simp only [assoc] at hd
    split at hd
    · rename_i e
      simp only [Option.some.injEq] at hd
      subst hd
      rw [← Nat.eq_of_beq_eq_true e]; exact hc
    · exact h.ctr g d hd⟩

theorem TabOk.nil {ty : List (Nat × TInfo)} {gl : List Nat} {gh : Heap} (h1 : P.follows .mixedOrders = true) (h2 : tabB P ty = true) : TabOk P ⟨ty, [], gl, gh⟩ :=
  ⟨h1, h2, fun g d hd => by simp [assoc] at hd⟩

end
end Go.Gx
