/- Operations that read and write memory. -/
import Derived.Test.YtihihilhfijloaaDoorOpsA
namespace Go.Gx
open Go.RowKit
set_option linter.unusedVariables false

/-! ### Lists -/

/-- 'ys' laid over 'vs' from place 'c' on. -/
def over {α : Type} (vs : List α) (c : Nat) (ys : List α) : List α := vs.take c ++ ys ++ vs.drop (c + ys.length)

theorem over_length {α : Type} {vs ys : List α} {c : Nat} (h : c + ys.length ≤ vs.length) : (over vs c ys).length = vs.length := by
  unfold over; simp; omega

theorem over_nil {α : Type} (vs : List α) (c : Nat) : over vs c [] = vs := by
  unfold over; simp

theorem over_over {α : Type} (vs ys zs : List α) (c : Nat) (h : c + ys.length ≤ vs.length) : over (over vs c ys) (c + ys.length) zs = over vs c (ys ++ zs) := by
  have h1 : (vs.take c ++ ys).length = c + ys.length := by simp; omega
  unfold over
  have e1 : (vs.take c ++ ys ++ vs.drop (c + ys.length)).take (c + ys.length) = vs.take c ++ ys := by
    rw [List.take_append_of_le_length (by omega), List.take_of_length_le (by omega)]
  have e2 : (vs.take c ++ ys ++ vs.drop (c + ys.length)).drop (c + ys.length + zs.length) = vs.drop (c + (ys ++ zs).length) := by
    have h0 : (vs.take c).length = c := by simp; omega
    rw [List.drop_append, List.drop_eq_nil_of_le (by omega), List.nil_append, List.drop_drop, List.length_append, List.length_append, h0]
    congr 1
    omega
  rw [e1, e2]
  simp [List.append_assoc]

theorem over_mid {α : Type} (pre cs post ys : List α) (j : Nat) (h : j + ys.length ≤ cs.length) : over (pre ++ cs ++ post) (pre.length + j) ys = pre ++ over cs j ys ++ post := by
  unfold over
  have e1 : (pre ++ cs ++ post).take (pre.length + j) = pre ++ cs.take j := by
    rw [List.append_assoc, List.take_append, List.take_of_length_le (by omega), List.take_append_of_le_length (by omega)]
    congr 2; omega
  have e2 : (pre ++ cs ++ post).drop (pre.length + j + ys.length) = cs.drop (j + ys.length) ++ post := by
    rw [List.append_assoc, List.drop_append, List.drop_eq_nil_of_le (by omega), List.nil_append, List.drop_append_of_le_length (by omega)]
    congr 2; omega
  rw [e1, e2]
  simp [List.append_assoc]

theorem drop_mid {α : Type} (pre cs post : List α) (j n : Nat) (h : j + n ≤ cs.length) : ((pre ++ cs ++ post).drop (pre.length + j)).take n = (cs.drop j).take n := by
  rw [List.append_assoc, List.drop_append, List.drop_eq_nil_of_le (by omega), List.nil_append, show pre.length + j - pre.length = j by omega, List.drop_append_of_le_length (by omega), List.take_append_of_le_length (by simp; omega)]

theorem nth_some {α : Type} : ∀ {l : List α} {j : Nat} {z : α}, nth l j = some z → l[j]? = some z
  | [], j, z, h => by simp [nth] at h
  | x :: r, 0, z, h => by simpa [nth] using h
  | x :: r, j + 1, z, h => by simp only [nth] at h; simpa using nth_some h

theorem setn_some {α : Type} : ∀ {l l' : List α} {j : Nat} {z : α}, setn l j z = some l' → l' = l.set j z ∧ j < l.length
  | [], l', j, z, h => by simp [setn] at h
  | x :: r, l', 0, z, h => by simp only [setn, Option.some.injEq] at h; subst h; simp
  | x :: r, l', j + 1, z, h => by
    simp only [setn] at h
    split at h
    · rename_i r' hr
      simp only [Option.some.injEq] at h; subst h
      obtain ⟨h1, h2⟩ := setn_some hr
      rw [h1]; simp; omega
    · cases h

theorem getI_some {ex : Bool} {l : List Int} {j : Nat} {z : Int} (h : getI ex l j = some z) (hj : j < l.length) : z = l[j] := by
  unfold getI at h
  split at h
  · have := nth_some h
    rw [List.getElem?_eq_getElem hj] at this
    simpa using this.symm
  · simp only [Option.some.injEq] at h; rw [← h]; simp [List.getD, hj]

theorem setI_some {ex : Bool} {l l' : List Int} {j : Nat} {z : Int} (h : setI ex l j z = some l') : l' = l.set j z := by
  unfold setI at h
  split at h
  · exact (setn_some h).1
  · simp only [Option.some.injEq] at h; exact h.symm

theorem set_over {α : Type} (l : List α) (j : Nat) (z : α) (h : j < l.length) : l.set j z = over l j [z] := by
  unfold over
  rw [List.set_eq_take_append_cons_drop, if_pos h]
  simp

theorem flatten_len {k : IntKind} {n : Nat} : ∀ {l : List (List Int)}, AllA k n l → l.flatten.length = n * l.length
  | [], _ => by simp
  | a :: r, h => by
    have := flatten_len (l := r) (fun x hx => h x (by simp [hx]))
    simp only [List.flatten_cons, List.length_append, this, (h a (by simp)).1, List.length_cons, Nat.mul_add, Nat.mul_one]; omega

theorem flatten_at {k : IntKind} {n : Nat} : ∀ {l : List (List Int)} {i : Nat} (h : AllA k n l) (hi : i < l.length), (l.flatten.drop (n * i)).take n = l[i]
  | a :: r, 0, h, _ => by
    have := (h a (by simp)).1
    simp only [List.flatten_cons, Nat.mul_zero, List.drop_zero, List.getElem_cons_zero]
    rw [List.take_append_of_le_length (by omega), List.take_of_length_le (by omega)]
  | a :: r, i + 1, h, hi => by
    have ha := (h a (by simp)).1
    have ih := flatten_at (l := r) (i := i) (fun x hx => h x (by simp [hx])) (by simpa using hi)
    simp only [List.flatten_cons, List.getElem_cons_succ]
    rw [List.drop_append, List.drop_eq_nil_of_le (by rw [ha, Nat.mul_add]; omega), List.nil_append, show n * (i + 1) - a.length = n * i by rw [ha, Nat.mul_add]; omega]
    exact ih

theorem flatten_set {k : IntKind} {n : Nat} : ∀ {l : List (List Int)} {i : Nat} {y : List Int} (h : AllA k n l) (hi : i < l.length) (hy : y.length = n), (l.set i y).flatten = over l.flatten (n * i) y
  | a :: r, 0, y, h, _, hy => by
    have ha := (h a (by simp)).1
    simp only [List.set_cons_zero, List.flatten_cons, Nat.mul_zero, over, List.take_zero, List.nil_append, Nat.zero_add]
    rw [hy, ← ha, List.drop_left]
  | a :: r, i + 1, y, h, hi, hy => by
    have ha := (h a (by simp)).1
    have hr : AllA k n r := fun x hx => h x (by simp [hx])
    have ih := flatten_set (l := r) (i := i) (y := y) hr (by simpa using hi) hy
    simp only [List.set_cons_succ, List.flatten_cons, ih]
    have hl := flatten_len hr
    have hb : n * i + y.length ≤ r.flatten.length := by
      have : i + 1 ≤ r.length := by simp at hi; omega
      have := Nat.mul_le_mul_left n this
      rw [hl, hy]; rw [Nat.mul_add] at this; omega
    have := over_mid a r.flatten [] y (n * i) hb
    simp only [List.append_nil] at this
    rw [← this]
    congr 1
    rw [ha, Nat.mul_add]; omega

theorem AllA.set {k : IntKind} {n : Nat} {l : List (List Int)} {i : Nat} {y : List Int} (h : AllA k n l) (hy : y.length = n) (hr : AllR k y) : AllA k n (l.set i y) := fun a ha => by
  rcases List.mem_or_eq_of_mem_set ha with h' | h'
  · exact h a h'
  · rw [h']; exact ⟨hy, hr⟩

theorem AllR.set {k : IntKind} {l : List Int} {i : Nat} {z : Int} (h : AllR k l) (hz : InR k z) : AllR k (l.set i z) := fun a ha => by
  rcases List.mem_or_eq_of_mem_set ha with h' | h'
  · exact h a h'
  · rw [h']; exact hz

theorem AllR.at {k : IntKind} {l : List Int} {j : Nat} (h : AllR k l) (hj : j < l.length) : InR k l[j] := h _ (List.getElem_mem hj)

theorem getAll_eq : ∀ (n j : Nat) (l : List Int), j + n ≤ l.length → getAll l n j = (l.drop j).take n
  | 0, j, l, _ => by simp [getAll]
  | n + 1, j, l, h => by
    have hj : j < l.length := by omega
    rw [getAll, getAll_eq n (j + 1) l (by omega)]
    rw [List.drop_eq_getElem_cons hj, List.take_succ_cons]
    simp [List.getD, hj]

/-! ### Reading a piece -/

theorem fits_spec {t : Ty} {x : SV} (h : fits t x = true) : t.size = 1 ∧ isRow t = false := by
  cases t <;> cases x <;> simp [fits] at h <;> exact ⟨rfl, rfl⟩

theorem drop_take_one {α : Type} {cs : List α} {j : Nat} (h : j < cs.length) : (cs.drop j).take 1 = [cs[j]] := by
  rw [List.drop_eq_getElem_cons h]; rfl

/-- What is read: a value, and where its cells stand. -/
def ReadOk (dm : Nat → Prop) (ρ : Nat → Pl) (x : SV) (t : Ty) (cs : List Value) (j : Nat) : Prop :=
  ∃ v, D dm ρ x v ∧ v.cells.toList = (cs.drop j).take t.size ∧ j + t.size ≤ cs.length ∧ (isRow t = true → ∃ a, v = .agg a) ∧ (isRow t = false → v.cells = #[v])

theorem readSeg_sound {dm : Nat → Prop} {ρ : Nat → Pl} {g : Seg} {j : Nat} {t : Ty} {p : List Prop} {x : SV} {cs : List Value} (h : readSeg g j t = some (p, x)) (hp : AllP p)
    (hg : SegD dm ρ g cs) (hj : ∀ n, segLen g = some n → j < n) : ReadOk dm ρ x t cs j := by
  cases g with
  | one y =>
    simp only [readSeg] at h
    split at h
    · rename_i hf
      simp only [Option.some.injEq, Prod.mk.injEq] at h
      obtain ⟨_, rfl⟩ := h
      obtain ⟨h1, v, h2, h3⟩ := hg
      have hj0 : j = 0 := by have := hj 1 rfl; omega
      obtain ⟨hs, hr⟩ := fits_spec hf
      subst hj0
      exact ⟨v, h2, by rw [(single_cell h1 h2).2, h3, hs]; rfl, by rw [h3, hs]; simp, (fun hr' => by rw [hr] at hr'; cases hr'), fun _ => (single_cell h1 h2).2⟩
    · cases h
  | arr k m ex l =>
    obtain ⟨h1, h2, h3⟩ := hg
    cases t with
    | int k' =>
      simp only [readSeg] at h
      split at h
      · rename_i z hk hz
        simp only [Option.some.injEq, Prod.mk.injEq] at h
        obtain ⟨_, rfl⟩ := h
        have hjn : j < l.length := by rw [h1]; exact hj m rfl
        have hzz := getI_some hz hjn
        have hjc : j < cs.length := by rw [h3]; simpa using hjn
        refine ⟨.int k z, ⟨rfl, by rw [hzz]; exact h2.at hjn⟩, ?_, by simp [Ty.size]; omega, (fun hr' => by cases hr'), fun _ => rfl⟩
        show [Value.int k z] = (cs.drop j).take 1
        rw [drop_take_one hjc]
        simp only [h3, List.getElem_map, hzz]
      · cases h
    | arr n e =>
      cases e with
      | int k' =>
        simp only [readSeg] at h
        split at h
        · rename_i hb
          simp only [Bool.and_eq_true] at hb
          obtain ⟨⟨b1, b2⟩, b3⟩ := hb
          have e2 := Nat.eq_of_beq_eq_true b2
          have e3 := Nat.eq_of_beq_eq_true b3
          simp only [Option.some.injEq, Prod.mk.injEq] at h
          obtain ⟨_, rfl⟩ := h
          subst e3
          have hcl : cs.length = n := by rw [h3]; simp; omega
          refine ⟨.agg (l.map (Value.int k)).toArray, ⟨by omega, h2, rfl⟩, ?_, by simp [Ty.size]; omega, (fun _ => ⟨_, rfl⟩), (fun hr' => by cases hr')⟩
          simp only [Value.cells, List.drop_zero, Ty.size, Nat.mul_one]
          rw [List.take_of_length_le (by omega), h3]
        · cases h
      | _ => simp [readSeg] at h
    | _ => simp [readSeg] at h
  | rowI k l =>
    obtain ⟨h2, h3⟩ := hg
    cases t with
    | int k' =>
      simp only [readSeg] at h
      split at h
      · simp only [Option.some.injEq, Prod.mk.injEq] at h
        obtain ⟨rfl, rfl⟩ := h
        have hjn : j < l.length := hp.1
        have hjc : j < cs.length := by rw [h3]; simpa using hjn
        have hzz : l.getD j 0 = l[j] := by simp [List.getD, hjn]
        refine ⟨.int k (l.getD j 0), ⟨rfl, by rw [hzz]; exact h2.at hjn⟩, ?_, by simp [Ty.size]; omega, (fun hr' => by cases hr'), fun _ => rfl⟩
        show [Value.int k (l.getD j 0)] = (cs.drop j).take 1
        rw [drop_take_one hjc]
        simp only [h3, List.getElem_map, hzz]
      · cases h
    | _ => simp [readSeg] at h
  | rowA k n l =>
    obtain ⟨h2, h3⟩ := hg
    have hfl := flatten_len h2
    cases t with
    | int k' =>
      simp only [readSeg] at h
      split at h
      · rename_i hb
        simp only [Bool.and_eq_true] at hb
        have hn : 0 < n := by have := hb.2; simp [Nat.blt] at this; omega
        simp only [Option.some.injEq, Prod.mk.injEq] at h
        obtain ⟨rfl, rfl⟩ := h
        have hi : j / n < l.length := hp.1
        have hm : j % n < n := Nat.mod_lt _ hn
        have hlen := (h2 _ (List.getElem_mem hi)).1
        have hdm := Nat.div_add_mod j n
        have hjf : j < l.flatten.length := by
          rw [hfl]
          have := Nat.mul_le_mul_left n (show j / n + 1 ≤ l.length from hi)
          rw [Nat.mul_add] at this; omega
        have hjc : j < cs.length := by rw [h3, List.length_map]; exact hjf
        have hat := flatten_at h2 hi
        have hz : l.flatten[j] = (l[j / n])[j % n]'(by omega) := by
          have e1 : l.flatten[j]? = ((l.flatten.drop (n * (j / n))).take n)[j % n]? := by
            rw [List.getElem?_take, if_pos hm, List.getElem?_drop, hdm]
          rw [hat, List.getElem?_eq_getElem hjf, List.getElem?_eq_getElem (by omega)] at e1
          simpa using e1
        have hzz : (l.getD (j / n) []).getD (j % n) 0 = l.flatten[j] := by
          rw [hz]
          have : l.getD (j / n) [] = l[j / n] := by simp [List.getD, hi]
          rw [this]
          simp [List.getD, hlen, hm]
        refine ⟨.int k ((l.getD (j / n) []).getD (j % n) 0), ⟨rfl, ?_⟩, ?_, by simp [Ty.size]; omega, (fun hr' => by cases hr'), fun _ => rfl⟩
        · rw [hzz, hz]; exact (h2 _ (List.getElem_mem hi)).2.at (by omega)
        · show [Value.int k _] = (cs.drop j).take 1
          rw [drop_take_one hjc]
          simp only [h3, List.getElem_map, hzz]
      · cases h
    | arr m e =>
      cases e with
      | int k' =>
        simp only [readSeg] at h
        split at h
        · rename_i hb
          simp only [Bool.and_eq_true] at hb
          obtain ⟨⟨b1, b2⟩, b3⟩ := hb
          have e2 := Nat.eq_of_beq_eq_true b2
          have e3 := Nat.eq_of_beq_eq_true b3
          simp only [Option.some.injEq, Prod.mk.injEq] at h
          obtain ⟨rfl, rfl⟩ := h
          subst e2
          have hi : j / m < l.length := hp.1
          have hdm := Nat.div_add_mod j m
          rw [e3, Nat.add_zero] at hdm
          have hlen := (h2 _ (List.getElem_mem hi)).1
          have hat := flatten_at h2 hi
          rw [hdm] at hat
          have hget : l.getD (j / m) [] = l[j / m] := by simp [List.getD, hi]
          have hall : getAll (l.getD (j / m) []) m 0 = l[j / m] := by
            rw [hget, getAll_eq m 0 _ (by omega), List.drop_zero, List.take_of_length_le (by omega)]
          have hjf : j + m ≤ l.flatten.length := by
            rw [hfl]
            have := Nat.mul_le_mul_left m (show j / m + 1 ≤ l.length from hi)
            rw [Nat.mul_add] at this; omega
          have hjc : j + m ≤ cs.length := by rw [h3, List.length_map]; exact hjf
          refine ⟨.agg ((l[j / m]).map (Value.int k)).toArray, ?_, ?_, by simp [Ty.size]; omega, (fun _ => ⟨_, rfl⟩), (fun hr' => by cases hr')⟩
          · rw [hall]; exact ⟨hlen, (h2 _ (List.getElem_mem hi)).2, rfl⟩
          · simp only [Value.cells, Ty.size, Nat.mul_one]
            rw [h3, ← List.map_drop, ← List.map_take, hat]
        · cases h
      | _ => simp [readSeg] at h
    | _ => simp [readSeg] at h

theorem ReadOk.mid {dm : Nat → Prop} {ρ : Nat → Pl} {x : SV} {t : Ty} {pre cs post : List Value} {j : Nat} (h : ReadOk dm ρ x t cs j) : ReadOk dm ρ x t (pre ++ cs ++ post) (pre.length + j) := by
  obtain ⟨v, h1, h2, h3, h4⟩ := h
  exact ⟨v, h1, by rw [h2, drop_mid _ _ _ _ _ h3], by simp; omega, h4⟩

theorem readCell_sound {dm : Nat → Prop} {ρ : Nat → Pl} {l : List Seg} {c : Nat} {t : Ty} {p : List Prop} {x : SV} {vs : List Value} (h : readCell l c t = some (p, x)) (hp : AllP p)
    (hl : SegsD dm ρ l vs) : ReadOk dm ρ x t vs c := by
  unfold readCell at h
  split at h
  · rename_i g j hs
    obtain ⟨pre, cs, post, e1, e2, e3, e4, _⟩ := segAt_D l c vs g j hl hs
    rw [e1, ← e3]
    exact (readSeg_sound h hp e2 e4).mid
  · cases h

mutual
theorem readVar_sound {dm : Nat → Prop} {ρ : Nat → Pl} {l : List Seg} {vs : List Value} (hl : SegsD dm ρ l vs) : ∀ (t : Ty) (c : Nat) (p : List Prop) (x : SV), readVar l c t = some (p, x) → AllP p → ReadOk dm ρ x t vs c
  | .struct fs, c, p, x, h, hp => by
    simp only [readVar] at h
    split at h
    · rename_i q xs t ts hs
      simp only [Option.some.injEq, Prod.mk.injEq] at h
      obtain ⟨rfl, rfl⟩ := h
      obtain ⟨h1, h2⟩ := readAll_sound hl (t :: ts) c q xs hs hp
      have h3 : c + Ty.sizes (t :: ts) ≤ vs.length := by rcases h2 with h2 | h2; exact h2; cases h2
      refine ⟨.agg ((vs.drop c).take (Ty.sizes (t :: ts))).toArray, ⟨_, h1, rfl⟩, by simp [Value.cells, Ty.size], by simpa [Ty.size] using h3, (fun _ => ⟨_, rfl⟩), (fun hr => by cases hr)⟩
    · cases h
  | .arr n e, c, p, x, h, hp => readCell_sound (by simpa only [readVar] using h) hp hl
  | .int k, c, p, x, h, hp => readCell_sound (by simpa only [readVar] using h) hp hl
  | .bool, c, p, x, h, hp => readCell_sound (by simpa only [readVar] using h) hp hl
  | .str, c, p, x, h, hp => readCell_sound (by simpa only [readVar] using h) hp hl
  | .ptr, c, p, x, h, hp => readCell_sound (by simpa only [readVar] using h) hp hl
  | .slice, c, p, x, h, hp => readCell_sound (by simpa only [readVar] using h) hp hl
  | .func, c, p, x, h, hp => readCell_sound (by simpa only [readVar] using h) hp hl
  | .iface, c, p, x, h, hp => by simp [readVar] at h
theorem readAll_sound {dm : Nat → Prop} {ρ : Nat → Pl} {l : List Seg} {vs : List Value} (hl : SegsD dm ρ l vs) : ∀ (ts : List Ty) (c : Nat) (p : List Prop) (xs : List SV), readAll l c ts = some (p, xs) → AllP p →
    Cs dm ρ xs ((vs.drop c).take (Ty.sizes ts)) ∧ (c + Ty.sizes ts ≤ vs.length ∨ ts = [])
  | [], c, p, xs, h, hp => by
    simp only [readAll, Option.some.injEq, Prod.mk.injEq] at h
    obtain ⟨rfl, rfl⟩ := h
    exact ⟨by simp [Cs, Ty.sizes], .inr rfl⟩
  | t :: ts, c, p, xs, h, hp => by
    simp only [readAll] at h
    split at h
    · rename_i p1 x1 p2 x2 h1 h2
      simp only [Option.some.injEq, Prod.mk.injEq] at h
      obtain ⟨rfl, rfl⟩ := h
      obtain ⟨hp1, hp2⟩ := AllP.append hp
      obtain ⟨v, a1, a2, a3, _⟩ := readVar_sound hl t c p1 x1 h1 hp1
      obtain ⟨b1, b2⟩ := readAll_sound hl ts (c + t.size) p2 x2 h2 hp2
      have hle : c + Ty.sizes (t :: ts) ≤ vs.length := by
        rcases b2 with b2 | rfl
        · simp only [Ty.sizes]; omega
        · simp only [Ty.sizes]; omega
      refine ⟨⟨v, (vs.drop (c + t.size)).take (Ty.sizes ts), a1, ?_, b1⟩, .inl hle⟩
      rw [a2, Ty.sizes, ← List.drop_drop, List.take_add]
    · cases h
end

end Go.Gx
