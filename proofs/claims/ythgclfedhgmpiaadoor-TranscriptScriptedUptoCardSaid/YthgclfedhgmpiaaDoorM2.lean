/- Part 2 of the proof: the evaluator of the code, its soundness, and what it shows of the functions. -/
import Derived.Test.YthgclfedhgmpiaaDoorM1
import Derived.Great.BuildSlice
import Derived.Laws.MakeOwn
import Derived.Laws.AppendOwn
import Derived.Laws.IdiomStrings

/- Operations that read and write memory. -/
namespace Go.Gx
open Go.RowKit
set_option linter.unusedVariables false

/-! ### Lists -/

def over {α : Type} (vs : List α) (c : Nat) (ys : List α) : List α := vs.take c ++ ys ++ vs.drop (c + ys.length)

theorem over_length {α : Type} {vs ys : List α} {c : Nat} (h : c + ys.length ≤ vs.length) : (over vs c ys).length = vs.length := by
 unfold over; simp; omega

theorem over_nil {α : Type} (vs : List α) (c : Nat) : over vs c [] = vs := by
 unfold over; simp

theorem over_over {α : Type} (vs ys zs : List α) (c : Nat) (h : c + ys.length ≤ vs.length) : over (over vs c ys) (c + ys.length) zs = over vs c (ys ++ zs) := by
 have h1 : (vs.take c ++ ys).length = c + ys.length := by simp; omega
 unfold over
 have e1 : (vs.take c ++ ys ++ vs.drop (c + ys.length)).take (c + ys.length) = vs.take c ++ ys := by
  rw [List.take_append_of_le_length (by omega), List.take_of_length_le (by omega)]
 have e2 : (vs.take c ++ ys ++ vs.drop (c + ys.length)).drop (c + ys.length + zs.length) = vs.drop (c + (ys ++ zs).length) := by
  have h0 : (vs.take c).length = c := by simp; omega
  rw [List.drop_append, List.drop_eq_nil_of_le (by omega), List.nil_append, List.drop_drop, List.length_append, List.length_append, h0]
  congr 1
  omega
 rw [e1, e2]
 simp [List.append_assoc]

theorem over_mid {α : Type} (pre cs post ys : List α) (j : Nat) (h : j + ys.length ≤ cs.length) : over (pre ++ cs ++ post) (pre.length + j) ys = pre ++ over cs j ys ++ post := by
 unfold over
 have e1 : (pre ++ cs ++ post).take (pre.length + j) = pre ++ cs.take j := by
  rw [List.append_assoc, List.take_append, List.take_of_length_le (by omega), List.take_append_of_le_length (by omega)]
  congr 2; omega
 have e2 : (pre ++ cs ++ post).drop (pre.length + j + ys.length) = cs.drop (j + ys.length) ++ post := by
  rw [List.append_assoc, List.drop_append, List.drop_eq_nil_of_le (by omega), List.nil_append, List.drop_append_of_le_length (by omega)]
  congr 2; omega
 rw [e1, e2]
 simp [List.append_assoc]

theorem drop_mid {α : Type} (pre cs post : List α) (j n : Nat) (h : j + n ≤ cs.length) : ((pre ++ cs ++ post).drop (pre.length + j)).take n = (cs.drop j).take n := by
 rw [List.append_assoc, List.drop_append, List.drop_eq_nil_of_le (by omega), List.nil_append, show pre.length + j - pre.length = j by omega, List.drop_append_of_le_length (by omega), List.take_append_of_le_length (by simp; omega)]

theorem nth_some {α : Type} : ∀ {l : List α} {j : Nat} {z : α}, nth l j = some z → l[j]? = some z
 | [], j, z, h => by simp [nth] at h
 | x :: r, 0, z, h => by simpa [nth] using h
 | x :: r, j + 1, z, h => by simp only [nth] at h; simpa using nth_some h

theorem setn_some {α : Type} : ∀ {l l' : List α} {j : Nat} {z : α}, setn l j z = some l' → l' = l.set j z ∧ j < l.length
 | [], l', j, z, h => by simp [setn] at h
 | x :: r, l', 0, z, h => by simp only [setn, Option.some.injEq] at h; subst h; simp
 | x :: r, l', j + 1, z, h => by
  simp only [setn] at h
  split at h
  ·rename_i r' hr
   simp only [Option.some.injEq] at h; subst h
   obtain ⟨h1, h2⟩ := setn_some hr
   rw [h1]; simp; omega
  ·cases h

theorem getI_some {ex : Bool} {l : List Int} {j : Nat} {z : Int} (h : getI ex l j = some z) (hj : j < l.length) : z = l[j] := by
 unfold getI at h
 split at h
 ·have := nth_some h
  rw [List.getElem?_eq_getElem hj] at this
  simpa using this.symm
 ·simp only [Option.some.injEq] at h; rw [← h]; simp [List.getD, hj]

theorem setI_some {ex : Bool} {l l' : List Int} {j : Nat} {z : Int} (h : setI ex l j z = some l') : l' = l.set j z := by
 unfold setI at h
 split at h
 ·exact (setn_some h).1
 ·simp only [Option.some.injEq] at h; exact h.symm

theorem set_over {α : Type} (l : List α) (j : Nat) (z : α) (h : j < l.length) : l.set j z = over l j [z] := by
 unfold over
 rw [List.set_eq_take_append_cons_drop, if_pos h]
 simp

theorem flatten_len {k : IntKind} {n : Nat} : ∀ {l : List (List Int)}, AllA k n l → l.flatten.length = n * l.length
 | [], _ => by simp
 | a :: r, h => by
  have := flatten_len (l := r) (fun x hx => h x (by simp [hx]))
  simp only [List.flatten_cons, List.length_append, this, (h a (by simp)).1, List.length_cons, Nat.mul_add, Nat.mul_one]; omega

theorem flatten_at {k : IntKind} {n : Nat} : ∀ {l : List (List Int)} {i : Nat} (h : AllA k n l) (hi : i < l.length), (l.flatten.drop (n * i)).take n = l[i]
 | a :: r, 0, h, _ => by
  have := (h a (by simp)).1
  simp only [List.flatten_cons, Nat.mul_zero, List.drop_zero, List.getElem_cons_zero]
  rw [List.take_append_of_le_length (by omega), List.take_of_length_le (by omega)]
 | a :: r, i + 1, h, hi => by
  have ha := (h a (by simp)).1
  have ih := flatten_at (l := r) (i := i) (fun x hx => h x (by simp [hx])) (by simpa using hi)
  simp only [List.flatten_cons, List.getElem_cons_succ]
  rw [List.drop_append, List.drop_eq_nil_of_le (by rw [ha, Nat.mul_add]; omega), List.nil_append, show n * (i + 1) - a.length = n * i by rw [ha, Nat.mul_add]; omega]
  exact ih

theorem flatten_set {k : IntKind} {n : Nat} : ∀ {l : List (List Int)} {i : Nat} {y : List Int} (h : AllA k n l) (hi : i < l.length) (hy : y.length = n), (l.set i y).flatten = over l.flatten (n * i) y
 | a :: r, 0, y, h, _, hy => by
  have ha := (h a (by simp)).1
  simp only [List.set_cons_zero, List.flatten_cons, Nat.mul_zero, over, List.take_zero, List.nil_append, Nat.zero_add]
  rw [hy, ← ha, List.drop_left]
 | a :: r, i + 1, y, h, hi, hy => by
  have ha := (h a (by simp)).1
  have hr : AllA k n r := fun x hx => h x (by simp [hx])
  have ih := flatten_set (l := r) (i := i) (y := y) hr (by simpa using hi) hy
  simp only [List.set_cons_succ, List.flatten_cons, ih]
  have hl := flatten_len hr
  have hb : n * i + y.length ≤ r.flatten.length := by
   have : i + 1 ≤ r.length := by simp at hi; omega
   have := Nat.mul_le_mul_left n this
   rw [hl, hy]; rw [Nat.mul_add] at this; omega
  have := over_mid a r.flatten [] y (n * i) hb
  simp only [List.append_nil] at this
  rw [← this]
  congr 1
  rw [ha, Nat.mul_add]; omega

theorem AllA.set {k : IntKind} {n : Nat} {l : List (List Int)} {i : Nat} {y : List Int} (h : AllA k n l) (hy : y.length = n) (hr : AllR k y) : AllA k n (l.set i y) := fun a ha => by
 rcases List.mem_or_eq_of_mem_set ha with h' | h'
 ·exact h a h'
 ·rw [h']; exact ⟨hy, hr⟩

theorem AllR.set {k : IntKind} {l : List Int} {i : Nat} {z : Int} (h : AllR k l) (hz : InR k z) : AllR k (l.set i z) := fun a ha => by
 rcases List.mem_or_eq_of_mem_set ha with h' | h'
 ·exact h a h'
 ·rw [h']; exact hz

theorem AllR.at {k : IntKind} {l : List Int} {j : Nat} (h : AllR k l) (hj : j < l.length) : InR k l[j] := h _ (List.getElem_mem hj)

theorem getAll_eq : ∀ (n j : Nat) (l : List Int), j + n ≤ l.length → getAll l n j = (l.drop j).take n
 | 0, j, l, _ => by simp [getAll]
 | n + 1, j, l, h => by
  have hj : j < l.length := by omega
  rw [getAll, getAll_eq n (j + 1) l (by omega)]
  rw [List.drop_eq_getElem_cons hj, List.take_succ_cons]
  simp [List.getD, hj]

/-! ### Reading a piece -/

theorem fits_spec {t : Ty} {x : SV} (h : fits t x = true) : t.size = 1 ∧ isRow t = false := by
 cases t <;> cases x <;> simp [fits] at h <;> exact ⟨rfl, rfl⟩

theorem drop_take_one {α : Type} {cs : List α} {j : Nat} (h : j < cs.length) : (cs.drop j).take 1 = [cs[j]] := by
 rw [List.drop_eq_getElem_cons h]; rfl

def ReadOk (dm : Nat → Prop) (ρ : Nat → Pl) (x : SV) (t : Ty) (cs : List Value) (j : Nat) : Prop :=
 ∃ v, D dm ρ x v ∧ v.cells.toList = (cs.drop j).take t.size ∧ j + t.size ≤ cs.length ∧ (isRow t = true → ∃ a, v = .agg a) ∧ (isRow t = false → v.cells = #[v])

theorem readSeg_sound {dm : Nat → Prop} {ρ : Nat → Pl} {g : Seg} {j : Nat} {t : Ty} {p : List Prop} {x : SV} {cs : List Value} (h : readSeg g j t = some (p, x)) (hp : AllP p)
  (hg : SegD dm ρ g cs) (hj : ∀ n, segLen g = some n → j < n) : ReadOk dm ρ x t cs j := by
 cases g with
 | one y =>
  simp only [readSeg] at h
  split at h
  ·rename_i hf
   simp only [Option.some.injEq, Prod.mk.injEq] at h
   obtain ⟨_, rfl⟩ := h
   obtain ⟨h1, v, h2, h3⟩ := hg
   have hj0 : j = 0 := by have := hj 1 rfl; omega
   obtain ⟨hs, hr⟩ := fits_spec hf
   subst hj0
   exact ⟨v, h2, by rw [(single_cell h1 h2).2, h3, hs]; rfl, by rw [h3, hs]; simp, (fun hr' => by rw [hr] at hr'; cases hr'), fun _ => (single_cell h1 h2).2⟩
  ·cases h
 | arr k m ex l =>
  obtain ⟨h1, h2, h3⟩ := hg
  cases t with
  | int k' =>
   simp only [readSeg] at h
   split at h
   ·rename_i z hk hz
    simp only [Option.some.injEq, Prod.mk.injEq] at h
    obtain ⟨_, rfl⟩ := h
    have hjn : j < l.length := by rw [h1]; exact hj m rfl
    have hzz := getI_some hz hjn
    have hjc : j < cs.length := by rw [h3]; simpa using hjn
    refine ⟨.int k z, ⟨rfl, by rw [hzz]; exact h2.at hjn⟩, ?_, by simp [Ty.size]; omega, (fun hr' => by cases hr'), fun _ => rfl⟩
    show [Value.int k z] = (cs.drop j).take 1
    rw [drop_take_one hjc]
    simp only [h3, List.getElem_map, hzz]
   ·cases h
  | arr n e =>
   cases e with
   | int k' =>
    simp only [readSeg] at h
    split at h
    ·rename_i hb
     simp only [Bool.and_eq_true] at hb
     obtain ⟨⟨b1, b2⟩, b3⟩ := hb
     have e2 := Nat.eq_of_beq_eq_true b2
     have e3 := Nat.eq_of_beq_eq_true b3
     simp only [Option.some.injEq, Prod.mk.injEq] at h
     obtain ⟨_, rfl⟩ := h
     subst e3
     have hcl : cs.length = n := by rw [h3]; simp; omega
     refine ⟨.agg (l.map (Value.int k)).toArray, ⟨by omega, h2, rfl⟩, ?_, by simp [Ty.size]; omega, (fun _ => ⟨_, rfl⟩), (fun hr' => by cases hr')⟩
     simp only [Value.cells, List.drop_zero, Ty.size, Nat.mul_one]
     rw [List.take_of_length_le (by omega), h3]
    ·cases h
   | _ => simp [readSeg] at h
  | _ => simp [readSeg] at h
 | rowI k l =>
  obtain ⟨h2, h3⟩ := hg
  cases t with
  | int k' =>
   simp only [readSeg] at h
   split at h
   ·simp only [Option.some.injEq, Prod.mk.injEq] at h
    obtain ⟨rfl, rfl⟩ := h
    have hjn : j < l.length := hp.1
    have hjc : j < cs.length := by rw [h3]; simpa using hjn
    have hzz : l.getD j 0 = l[j] := by simp [List.getD, hjn]
    refine ⟨.int k (l.getD j 0), ⟨rfl, by rw [hzz]; exact h2.at hjn⟩, ?_, by simp [Ty.size]; omega, (fun hr' => by cases hr'), fun _ => rfl⟩
    show [Value.int k (l.getD j 0)] = (cs.drop j).take 1
    rw [drop_take_one hjc]
    simp only [h3, List.getElem_map, hzz]
   ·cases h
  | _ => simp [readSeg] at h
 | rowH key hs =>
  cases t with
  | slice =>
   simp only [readSeg, Option.some.injEq, Prod.mk.injEq] at h
   obtain ⟨rfl, rfl⟩ := h
   have hjn : j < hs.length := hp.1
   obtain ⟨v, q1, q2⟩ := hg.2.at_ j hjn
   have hjc : j < cs.length := by rw [hg.2.len]; exact hjn
   have hv : cs[j] = v := by rw [List.getElem?_eq_getElem hjc] at q1; simpa using q1
   have hc := (single_cell rfl q2).2
   refine ⟨v, q2, ?_, by simp [Ty.size]; omega, (fun hr' => by cases hr'), fun _ => hc⟩
   show v.cells.toList = (cs.drop j).take 1
   rw [drop_take_one hjc, hc, hv]
  | arr n e => cases e <;> simp [readSeg] at h
  | _ => simp [readSeg] at h
 | rowD key sh ds =>
  cases t with
  | arr n e => cases e <;> simp [readSeg] at h
  | _ => simp [readSeg] at h
 | rowP key n =>
  cases t with
  | ptr =>
   simp only [readSeg, Option.some.injEq, Prod.mk.injEq] at h
   obtain ⟨rfl, rfl⟩ := h
   have hjn : j < n := hp.1
   obtain ⟨h1, h2, rfl⟩ := hg
   have hjc : j < (ptrsV (ρ key) n).length := by rw [ptrsV_len]; exact hjn
   have hv : (ptrsV (ρ key) n)[j] = .pointer (some ⟨(ρ key).pb j, (ρ key).po j, none⟩) := by
    have := ptrsV_at (p := ρ key) hjn
    rw [List.getElem?_eq_getElem hjc] at this; simpa using this
   refine ⟨.pointer (some ⟨(ρ key).pb j, (ρ key).po j, none⟩), ⟨h1, by omega, by decide, rfl⟩, ?_, by rw [ptrsV_len]; simp [Ty.size]; omega, (fun hr' => by cases hr'), fun _ => rfl⟩
   show [_] = (List.drop j _).take 1
   rw [drop_take_one hjc, hv]
  | arr n e => cases e <;> simp [readSeg] at h
  | _ => simp [readSeg] at h
 | rowA k n l =>
  obtain ⟨h2, h3⟩ := hg
  have hfl := flatten_len h2
  cases t with
  | int k' =>
   simp only [readSeg] at h
   split at h
   ·rename_i hb
    simp only [Bool.and_eq_true] at hb
    have hn : 0 < n := by have := hb.2; simp [Nat.blt] at this; omega
    simp only [Option.some.injEq, Prod.mk.injEq] at h
    obtain ⟨rfl, rfl⟩ := h
    have hi : j / n < l.length := hp.1
    have hm : j % n < n := Nat.mod_lt _ hn
    have hlen := (h2 _ (List.getElem_mem hi)).1
    have hdm := Nat.div_add_mod j n
    have hjf : j < l.flatten.length := by
     rw [hfl]
     have := Nat.mul_le_mul_left n (show j / n + 1 ≤ l.length from hi)
     rw [Nat.mul_add] at this; omega
    have hjc : j < cs.length := by rw [h3, List.length_map]; exact hjf
    have hat := flatten_at h2 hi
    have hz : l.flatten[j] = (l[j / n])[j % n]'(by omega) := by
     have e1 : l.flatten[j]? = ((l.flatten.drop (n * (j / n))).take n)[j % n]? := by
      rw [List.getElem?_take, if_pos hm, List.getElem?_drop, hdm]
     rw [hat, List.getElem?_eq_getElem hjf, List.getElem?_eq_getElem (by omega)] at e1
     simpa using e1
    have hzz : (l.getD (j / n) []).getD (j % n) 0 = l.flatten[j] := by
     rw [hz]
     have : l.getD (j / n) [] = l[j / n] := by simp [List.getD, hi]
     rw [this]
     simp [List.getD, hlen, hm]
    refine ⟨.int k ((l.getD (j / n) []).getD (j % n) 0), ⟨rfl, ?_⟩, ?_, by simp [Ty.size]; omega, (fun hr' => by cases hr'), fun _ => rfl⟩
    ·rw [hzz, hz]; exact (h2 _ (List.getElem_mem hi)).2.at (by omega)
    ·show [Value.int k _] = (cs.drop j).take 1
     rw [drop_take_one hjc]
     simp only [h3, List.getElem_map, hzz]
   ·cases h
  | arr m e =>
   cases e with
   | int k' =>
    simp only [readSeg] at h
    split at h
    ·rename_i hb
     simp only [Bool.and_eq_true] at hb
     obtain ⟨⟨b1, b2⟩, b3⟩ := hb
     have e2 := Nat.eq_of_beq_eq_true b2
     have e3 := Nat.eq_of_beq_eq_true b3
     simp only [Option.some.injEq, Prod.mk.injEq] at h
     obtain ⟨rfl, rfl⟩ := h
     subst e2
     have hi : j / m < l.length := hp.1
     have hdm := Nat.div_add_mod j m
     rw [e3, Nat.add_zero] at hdm
     have hlen := (h2 _ (List.getElem_mem hi)).1
     have hat := flatten_at h2 hi
     rw [hdm] at hat
     have hget : l.getD (j / m) [] = l[j / m] := by simp [List.getD, hi]
     have hall : getAll (l.getD (j / m) []) m 0 = l[j / m] := by
      rw [hget, getAll_eq m 0 _ (by omega), List.drop_zero, List.take_of_length_le (by omega)]
     have hjf : j + m ≤ l.flatten.length := by
      rw [hfl]
      have := Nat.mul_le_mul_left m (show j / m + 1 ≤ l.length from hi)
      rw [Nat.mul_add] at this; omega
     have hjc : j + m ≤ cs.length := by rw [h3, List.length_map]; exact hjf
     refine ⟨.agg ((l[j / m]).map (Value.int k)).toArray, ?_, ?_, by simp [Ty.size]; omega, (fun _ => ⟨_, rfl⟩), (fun hr' => by cases hr')⟩
     ·rw [hall]; exact ⟨hlen, (h2 _ (List.getElem_mem hi)).2, rfl⟩
     ·simp only [Value.cells, Ty.size, Nat.mul_one]
      rw [h3, ← List.map_drop, ← List.map_take, hat]
    ·cases h
   | _ => simp [readSeg] at h
  | _ => simp [readSeg] at h

theorem ReadOk.mid {dm : Nat → Prop} {ρ : Nat → Pl} {x : SV} {t : Ty} {pre cs post : List Value} {j : Nat} (h : ReadOk dm ρ x t cs j) : ReadOk dm ρ x t (pre ++ cs ++ post) (pre.length + j) := by
 obtain ⟨v, h1, h2, h3, h4⟩ := h
 exact ⟨v, h1, by rw [h2, drop_mid _ _ _ _ _ h3], by simp; omega, h4⟩

theorem readCell_sound {dm : Nat → Prop} {ρ : Nat → Pl} {l : List Seg} {c : Nat} {t : Ty} {p : List Prop} {x : SV} {vs : List Value} (h : readCell l c t = some (p, x)) (hp : AllP p)
  (hl : SegsD dm ρ l vs) : ReadOk dm ρ x t vs c := by
 unfold readCell at h
 split at h
 ·rename_i g j hs
  obtain ⟨pre, cs, post, e1, e2, e3, e4, _⟩ := segAt_D l c vs g j hl hs
  rw [e1, ← e3]
  exact (readSeg_sound h hp e2 e4).mid
 ·cases h

mutual
theorem readVar_sound {dm : Nat → Prop} {ρ : Nat → Pl} {l : List Seg} {vs : List Value} (hl : SegsD dm ρ l vs) : ∀ (t : Ty) (c : Nat) (p : List Prop) (x : SV), readVar l c t = some (p, x) → AllP p → ReadOk dm ρ x t vs c
 | .struct fs, c, p, x, h, hp => by
  simp only [readVar] at h
  split at h
  ·rename_i q xs t ts hs
   simp only [Option.some.injEq, Prod.mk.injEq] at h
   obtain ⟨rfl, rfl⟩ := h
   obtain ⟨h1, h2⟩ := readAll_sound hl (t :: ts) c q xs hs hp
   have h3 : c + Ty.sizes (t :: ts) ≤ vs.length := by rcases h2 with h2 | h2; exact h2; cases h2
   refine ⟨.agg ((vs.drop c).take (Ty.sizes (t :: ts))).toArray, ⟨_, h1, rfl⟩, by simp [Value.cells, Ty.size], by simpa [Ty.size] using h3, (fun _ => ⟨_, rfl⟩), (fun hr => by cases hr)⟩
  ·cases h
 | .arr n e, c, p, x, h, hp => readCell_sound (by simpa only [readVar] using h) hp hl
 | .int k, c, p, x, h, hp => readCell_sound (by simpa only [readVar] using h) hp hl
 | .bool, c, p, x, h, hp => readCell_sound (by simpa only [readVar] using h) hp hl
 | .str, c, p, x, h, hp => readCell_sound (by simpa only [readVar] using h) hp hl
 | .ptr, c, p, x, h, hp => readCell_sound (by simpa only [readVar] using h) hp hl
 | .slice, c, p, x, h, hp => readCell_sound (by simpa only [readVar] using h) hp hl
 | .func, c, p, x, h, hp => readCell_sound (by simpa only [readVar] using h) hp hl
 | .iface, c, p, x, h, hp => by simp [readVar] at h
theorem readAll_sound {dm : Nat → Prop} {ρ : Nat → Pl} {l : List Seg} {vs : List Value} (hl : SegsD dm ρ l vs) : ∀ (ts : List Ty) (c : Nat) (p : List Prop) (xs : List SV), readAll l c ts = some (p, xs) → AllP p →
  Cs dm ρ xs ((vs.drop c).take (Ty.sizes ts)) ∧ (c + Ty.sizes ts ≤ vs.length ∨ ts = [])
 | [], c, p, xs, h, hp => by
  simp only [readAll, Option.some.injEq, Prod.mk.injEq] at h
  obtain ⟨rfl, rfl⟩ := h
  exact ⟨by simp [Cs, Ty.sizes], .inr rfl⟩
 | t :: ts, c, p, xs, h, hp => by
  simp only [readAll] at h
  split at h
  ·rename_i p1 x1 p2 x2 h1 h2
   simp only [Option.some.injEq, Prod.mk.injEq] at h
   obtain ⟨rfl, rfl⟩ := h
   obtain ⟨hp1, hp2⟩ := AllP.append hp
   obtain ⟨v, a1, a2, a3, _⟩ := readVar_sound hl t c p1 x1 h1 hp1
   obtain ⟨b1, b2⟩ := readAll_sound hl ts (c + t.size) p2 x2 h2 hp2
   have hle : c + Ty.sizes (t :: ts) ≤ vs.length := by
    rcases b2 with b2 | rfl
    ·simp only [Ty.sizes]; omega
    ·simp only [Ty.sizes]; omega
   refine ⟨⟨v, (vs.drop (c + t.size)).take (Ty.sizes ts), a1, ?_, b1⟩, .inl hle⟩
   rw [a2, Ty.sizes, ← List.drop_drop, List.take_add]
  ·cases h
end

end Go.Gx

/- Data that is only read: what a loaded piece of it is. -/
namespace Go.Gx
open Go.RowKit
set_option linter.unusedVariables false

/-! ### Data that is only read -/

mutual
theorem RoD_cells {w : World} {Out : Nat → Prop} : ∀ (sh : Sh) (d : RO) (v : Value), RoD w Out sh d v → v.cells.toList.length = shSize sh
 | .i k, d, v, h => by simp only [RoD] at h; rw [h.1]; rfl
 | .tb, d, v, h => by simp only [RoD] at h; rw [h]; rfl
 | .ts, d, v, h => by simp only [RoD] at h; rw [h.1]; rfl
 | .arr n k, d, v, h => by simp only [RoD] at h; rw [h.2.2]; simp [Value.cells, shSize, h.1]
 | .r fs, d, v, h => by
  simp only [RoD] at h
  obtain ⟨cs, h1, rfl⟩ := h
  simp only [Value.cells, shSize]
  exact RoCs_cells fs d 0 cs h1
 | .ints k, d, v, h => by simp only [RoD] at h; obtain ⟨a, cap, h, _⟩ := h; rw [h]; rfl
 | .l e, d, v, h => by simp only [RoD] at h; obtain ⟨a, cap, cs, h, _⟩ := h; rw [h]; rfl
theorem RoCs_cells {w : World} {Out : Nat → Prop} : ∀ (fs : List Sh) (d : RO) (i : Nat) (cs : List Value), RoCs w Out fs d i cs → cs.length = shSizes fs
 | [], d, i, cs, h => by simp only [RoCs] at h; rw [h]; rfl
 | s :: r, d, i, cs, h => by
  simp only [RoCs] at h
  obtain ⟨v, c, h1, rfl, h3⟩ := h
  rw [List.length_append, RoD_cells s _ v h1, RoCs_cells r d _ c h3]; rfl
end

mutual
theorem svOf_D {dm : Nat → Prop} {ρ : Nat → Pl} {key : Nat} (hk : dm key) {w : World} {Out : Nat → Prop} (hr : (ρ key).rel = RoD w Out) : ∀ (sh : Sh) (d : RO) (v : Value), RoD w Out sh d v → D dm ρ (svOf key sh d) v
 | .i k, d, v, h => by simp only [RoD] at h; exact h
 | .tb, d, v, h => by simp only [RoD] at h; exact h
 | .ts, d, v, h => by simp only [RoD] at h; exact h
 | .arr n k, d, v, h => by simp only [RoD] at h; exact h
 | .r fs, d, v, h => by
  simp only [RoD] at h
  obtain ⟨cs, h1, rfl⟩ := h
  simp only [svOf, D]
  exact ⟨cs, svOfs_D hk hr fs d 0 cs h1, rfl⟩
 | .ints k, d, v, h => by
  have h0 := h
  simp only [RoD] at h
  obtain ⟨a, cap, h1, h2, h3, h4, h5⟩ := h
  simp only [svOf, D]
  refine ⟨hk, by rw [hr]; exact h0, RoD.fact _ _ _ h0, a, cap, h1, h2, h3, ?_⟩
  rcases h5 with ⟨b, o, q, _⟩ | h5
  ·exact .inl ⟨b, o, q⟩
  ·exact .inr h5
 | .l e, d, v, h => by
  have h0 := h
  simp only [RoD] at h
  obtain ⟨a, cap, cs, h1, h2, h3, h4, h5⟩ := h
  simp only [svOf, D]
  refine ⟨hk, by rw [hr]; exact h0, RoD.fact _ _ _ h0, a, cap, h1, h2, h3, ?_⟩
  rcases h5 with ⟨b, o, q, _⟩ | h5
  ·exact .inl ⟨b, o, q⟩
  ·exact .inr h5
theorem svOfs_D {dm : Nat → Prop} {ρ : Nat → Pl} {key : Nat} (hk : dm key) {w : World} {Out : Nat → Prop} (hr : (ρ key).rel = RoD w Out) : ∀ (fs : List Sh) (d : RO) (i : Nat) (cs : List Value), RoCs w Out fs d i cs → Cs dm ρ (svOfs key fs d i) cs
 | [], d, i, cs, h => by simp only [RoCs] at h; exact h
 | s :: r, d, i, cs, h => by
  simp only [RoCs] at h
  obtain ⟨v, c, h1, h2, h3⟩ := h
  simp only [svOfs, Cs]
  exact ⟨v, c, svOf_D hk hr s _ v h1, h2, svOfs_D hk hr r d _ c h3⟩
end

def isRowSh : Sh → Bool
 | .arr _ _ => true
 | .r _ => true
 | _ => false

mutual
theorem shFits_size : ∀ (t : Ty) (sh : Sh), shFits t sh = true → t.size = shSize sh ∧ (isRow t = true ↔ isRowSh sh = true)
 | .int _, sh, h => by cases sh <;> simp [shFits] at h; exact ⟨rfl, by simp [isRow, isRowSh]⟩
 | .bool, sh, h => by cases sh <;> simp [shFits] at h; exact ⟨rfl, by simp [isRow, isRowSh]⟩
 | .str, sh, h => by cases sh <;> simp [shFits] at h; exact ⟨rfl, by simp [isRow, isRowSh]⟩
 | .ptr, sh, h => by cases sh <;> simp [shFits] at h
 | .slice, sh, h => by cases sh <;> simp [shFits] at h <;> exact ⟨rfl, by simp [isRow, isRowSh]⟩
 | .func, sh, h => by cases sh <;> simp [shFits] at h
 | .iface, sh, h => by cases sh <;> simp [shFits] at h
 | .arr n e, sh, h => by
  cases e <;> cases sh <;> simp [shFits] at h
  simp only [Ty.size, shSize, isRow, isRowSh, and_true]
  omega
 | .struct [], sh, h => by cases sh <;> simp [shFits] at h
 | .struct (t :: ts), sh, h => by
  cases sh <;> try (simp [shFits] at h; done)
  rename_i fs
  cases fs <;> simp [shFits] at h
  rename_i s ss
  have h1 := (shFits_size t s h.1).1
  have h2 := shFitss_size ts ss h.2
  simp only [Ty.size, Ty.sizes, shSize, shSizes, isRow, isRowSh, and_self, h1, h2]
theorem shFitss_size : ∀ (ts : List Ty) (ss : List Sh), shFitss ts ss = true → Ty.sizes ts = shSizes ss
 | [], [], h => rfl
 | [], _ :: _, h => by simp [shFitss] at h
 | _ :: _, [], h => by simp [shFitss] at h
 | t :: ts, s :: ss, h => by
  simp only [shFitss, Bool.and_eq_true] at h
  simp only [Ty.sizes, shSizes, (shFits_size t s h.1).1, shFitss_size ts ss h.2]
end

theorem RoD_row {w : World} {Out : Nat → Prop} {sh : Sh} {d : RO} {v : Value} (h : RoD w Out sh d v) : isRowSh sh = true → ∃ a, v = .agg a := by
 cases sh <;> simp only [RoD] at h <;> intro hh <;> (try (cases hh; done))
 ·exact ⟨_, h.2.2⟩
 ·obtain ⟨cs, _, h⟩ := h; exact ⟨_, h⟩
theorem RoD_one {w : World} {Out : Nat → Prop} {sh : Sh} {d : RO} {v : Value} (h : RoD w Out sh d v) : ¬ isRowSh sh = true → v.cells = #[v] := by
 cases sh <;> simp only [RoD] at h <;> intro hh <;> (try exact absurd rfl hh)
 ·rw [h.1]; rfl
 ·rw [h]; rfl
 ·rw [h.1]; rfl
 ·obtain ⟨a, cap, h, _⟩ := h; rw [h]; rfl
 ·obtain ⟨a, cap, cs, h, _⟩ := h; rw [h]; rfl

theorem svOf_read {dm : Nat → Prop} {ρ : Nat → Pl} {key : Nat} (hk : dm key) {w : World} {Out : Nat → Prop} (hr : (ρ key).rel = RoD w Out) {sh : Sh} {d : RO} {v : Value} {t : Ty} (h : RoD w Out sh d v) (hf : shFits t sh = true) :
  ReadOk dm ρ (svOf key sh d) t v.cells.toList 0 := by
 obtain ⟨h1, h2⟩ := shFits_size t sh hf
 have hl := RoD_cells sh d v h
 refine ⟨v, svOf_D hk hr sh d v h, ?_, by omega, fun hh => RoD_row h (h2.1 hh), fun hh => RoD_one h (fun hn => by rw [h2.2 hn] at hh; cases hh)⟩
 rw [List.drop_zero, List.take_of_length_le (by omega)]

mutual
theorem readSh_sound {dm : Nat → Prop} {ρ : Nat → Pl} {key : Nat} (hk : dm key) {w : World} {Out : Nat → Prop} (hr : (ρ key).rel = RoD w Out) : ∀ (sh : Sh) (d : RO) (j : Nat) (t : Ty) (x : SV) (v : Value), readSh key sh d j t = some x → RoD w Out sh d v → ReadOk dm ρ x t v.cells.toList j
 | .i k, d, j, t, x, v, h, hd => by
  simp only [readSh] at h
  split at h
  ·rename_i hb
   simp only [Bool.and_eq_true] at hb
   simp only [Option.some.injEq] at h; subst h
   rw [Nat.eq_of_beq_eq_true hb.1]; exact svOf_read hk hr hd hb.2
  ·cases h
 | .tb, d, j, t, x, v, h, hd => by
  simp only [readSh] at h
  split at h
  ·rename_i hb
   simp only [Bool.and_eq_true] at hb
   simp only [Option.some.injEq] at h; subst h
   rw [Nat.eq_of_beq_eq_true hb.1]; exact svOf_read hk hr hd hb.2
  ·cases h
 | .ts, d, j, t, x, v, h, hd => by
  simp only [readSh] at h
  split at h
  ·rename_i hb
   simp only [Bool.and_eq_true] at hb
   simp only [Option.some.injEq] at h; subst h
   rw [Nat.eq_of_beq_eq_true hb.1]; exact svOf_read hk hr hd hb.2
  ·cases h
 | .ints k, d, j, t, x, v, h, hd => by
  simp only [readSh] at h
  split at h
  ·rename_i hb
   simp only [Bool.and_eq_true] at hb
   simp only [Option.some.injEq] at h; subst h
   rw [Nat.eq_of_beq_eq_true hb.1]; exact svOf_read hk hr hd hb.2
  ·cases h
 | .l e, d, j, t, x, v, h, hd => by
  simp only [readSh] at h
  split at h
  ·rename_i hb
   simp only [Bool.and_eq_true] at hb
   simp only [Option.some.injEq] at h; subst h
   rw [Nat.eq_of_beq_eq_true hb.1]; exact svOf_read hk hr hd hb.2
  ·cases h
 | .arr n k, d, j, t, x, v, h, hd => by
  have gen : (match Nat.beq j 0 && shFits t (.arr n k) with | true => some (svOf key (.arr n k) d) | false => none) = some x → ReadOk dm ρ x t v.cells.toList j := fun h => by
   split at h
   ·rename_i hb
    simp only [Bool.and_eq_true] at hb
    simp only [Option.some.injEq] at h; subst h
    rw [Nat.eq_of_beq_eq_true hb.1]; exact svOf_read hk hr hd hb.2
   ·cases h
  cases t with
  | int k' =>
   simp only [readSh] at h
   split at h
   ·rename_i hb
    simp only [Bool.and_eq_true] at hb
    have hjn : j < n := by have := hb.2; simp [Nat.blt] at this; omega
    have hkk := keq_eq hb.1
    subst hkk
    simp only [Option.some.injEq] at h; subst h
    simp only [RoD] at hd
    obtain ⟨h1, h2, h3⟩ := hd
    have hj : j < (roL d).length := by omega
    have hzz : (roL d).getD j 0 = (roL d)[j] := by simp [List.getD, hj]
    have hc : v.cells.toList = (roL d).map (Value.int k) := by rw [h3]; simp [Value.cells]
    rw [hc]
    refine ⟨.int k ((roL d).getD j 0), ⟨rfl, by rw [hzz]; exact h2.at hj⟩, ?_, by simp [Ty.size]; omega, (fun hr' => by cases hr'), fun _ => rfl⟩
    show [Value.int k ((roL d).getD j 0)] = (((roL d).map (Value.int k)).drop j).take 1
    rw [drop_take_one (by simpa using hj)]
    simp only [List.getElem_map, hzz]
   ·cases h
  | _ => exact gen h
 | .r fs, d, j, t, x, v, h, hd => by
  simp only [readSh] at h
  split at h
  ·rename_i hb
   simp only [Bool.and_eq_true] at hb
   simp only [Option.some.injEq] at h; subst h
   rw [Nat.eq_of_beq_eq_true hb.1]; exact svOf_read hk hr hd hb.2
  ·simp only [RoD] at hd
   obtain ⟨cs, h1, rfl⟩ := hd
   simp only [Value.cells]
   exact readShs_sound hk hr fs d 0 j t x cs h h1
theorem readShs_sound {dm : Nat → Prop} {ρ : Nat → Pl} {key : Nat} (hk : dm key) {w : World} {Out : Nat → Prop} (hr : (ρ key).rel = RoD w Out) : ∀ (fs : List Sh) (d : RO) (i j : Nat) (t : Ty) (x : SV) (cs : List Value), readShs key fs d i j t = some x → RoCs w Out fs d i cs → ReadOk dm ρ x t cs j
 | [], d, i, j, t, x, cs, h, hd => by simp [readShs] at h
 | s :: r, d, i, j, t, x, cs, h, hd => by
  simp only [RoCs] at hd
  obtain ⟨v, c, h1, rfl, h3⟩ := hd
  have hl := RoD_cells s _ v h1
  simp only [readShs] at h
  split at h
  ·rename_i hb
   have hle := Nat.le_of_ble_eq_true hb
   have := (readShs_sound hk hr r d (i + 1) (j - shSize s) t x c h h3).mid (pre := v.cells.toList) (post := [])
   rw [List.append_nil, hl, Nat.add_sub_cancel' hle] at this
   exact this
  ·have := (readSh_sound hk hr s _ j t x v h h1).mid (pre := []) (post := c)
   simpa using this
end

theorem chain_at_ {R : RO → Value → Prop} {n : Nat} (hn : ∀ d v, R d v → v.cells.toList.length = n) : ∀ (xs : List RO) (cs : List Value) (i : Nat) (hi : i < xs.length), ChainR R xs cs →
  ∃ v pre post, cs = pre ++ v.cells.toList ++ post ∧ pre.length = n * i ∧ R xs[i] v
 | x :: r, cs, 0, hi, h => by
  obtain ⟨v, c, h1, h2, h3⟩ := h
  exact ⟨v, [], c, by simpa using h2, by simp, h1⟩
 | x :: r, cs, i + 1, hi, h => by
  obtain ⟨v, c, h1, rfl, h3⟩ := h
  obtain ⟨u, pre, post, q1, q2, q3⟩ := chain_at_ hn r c i (by simpa using hi) h3
  refine ⟨u, v.cells.toList ++ pre, post, by rw [q1]; simp [List.append_assoc], ?_, q3⟩
  rw [List.length_append, hn x v h1, q2, Nat.mul_add]; omega

theorem readEl_sound {dm : Nat → Prop} {ρ : Nat → Pl} {key : Nat} (hk : dm key) {w : World} {Out : Nat → Prop} (hr : (ρ key).rel = RoD w Out) {sh : Sh} {d : RO} {x : Int} {j : Nat} {t : Ty} {y : SV} {b o n cap : Nat}
  (h : readEl key sh d x j t = some y) (hd : RoD w Out sh d (.slice (some ⟨b, o, none⟩) n cap)) (h0 : 0 ≤ x) (hx : x < (roLen sh d : Int)) : Out b ∧ ∃ cs, w.rangeAt b o cs ∧ ReadOk dm ρ y t cs (shEl sh * x.toNat + j) := by
 have hxn : x.toNat < roLen sh d := by omega
 unfold readEl at h
 split at h
 ·rename_i k k'
  split at h
  ·rename_i hb
   simp only [Bool.and_eq_true] at hb
   have hkk := keq_eq hb.1
   have hj0 := Nat.eq_of_beq_eq_true hb.2
   subst hkk hj0
   simp only [Option.some.injEq] at h; subst h
   simp only [RoD] at hd
   obtain ⟨a, cap', h1, h2, h3, h4, h5⟩ := hd
   simp only [Value.slice.injEq] at h1
   obtain ⟨rfl, rfl, rfl⟩ := h1
   simp only [roLen] at hxn
   rcases h5 with ⟨b', o', q1, q2, q3⟩ | ⟨h5, _⟩
   ·simp only [Option.some.injEq, Addr.mk.injEq] at q1
    obtain ⟨rfl, rfl, _⟩ := q1
    refine ⟨q2, _, q3, ?_⟩
    have hzz : (roL d).getD x.toNat 0 = (roL d)[x.toNat] := by simp [List.getD, hxn]
    refine ⟨.int k ((roL d).getD x.toNat 0), ⟨rfl, by rw [hzz]; exact h4.at hxn⟩, ?_, by simp [Ty.size, shEl]; omega, (fun hr' => by cases hr'), fun _ => rfl⟩
    show [Value.int k _] = (((roL d).map (Value.int k)).drop (1 * x.toNat + 0)).take 1
    rw [Nat.one_mul, Nat.add_zero, drop_take_one (by simpa using hxn)]
    simp only [List.getElem_map, hzz]
   ·omega
  ·cases h
 ·rename_i e
  simp only [RoD] at hd
  obtain ⟨a, cap', cs, h1, h2, h3, h4, h5⟩ := hd
  simp only [Value.slice.injEq] at h1
  obtain ⟨rfl, rfl, rfl⟩ := h1
  simp only [roLen] at hxn
  rcases h5 with ⟨b', o', q1, q2, q3⟩ | ⟨h5, _⟩
  ·simp only [Option.some.injEq, Addr.mk.injEq] at q1
   obtain ⟨rfl, rfl, _⟩ := q1
   refine ⟨q2, cs, q3, ?_⟩
   obtain ⟨v, pre, post, e1, e2, e3⟩ := chain_at_ (fun d v h => RoD_cells e d v h) _ cs x.toNat hxn h4
   have hg : roN d x.toNat = (roX d)[x.toNat] := by simp [roN, List.getD, hxn]
   rw [← hg] at e3
   have := (readSh_sound hk hr e _ j t y v h e3).mid (pre := pre) (post := post)
   rw [← e1, e2] at this
   exact this
  ·omega
 ·cases h

end Go.Gx

/- Writing pieces; places that are reckoned. -/
namespace Go.Gx
open Go.RowKit
set_option linter.unusedVariables false

theorem map_over {α β : Type} (f : α → β) (l ys : List α) (c : Nat) : (over l c ys).map f = over (l.map f) c (ys.map f) := by
 unfold over; simp [List.map_take, List.map_drop]

theorem over_self {α : Type} (l ys : List α) (h : ys.length = l.length) : over l 0 ys = ys := by
 unfold over; simp [h]

theorem putSeg_sound {dm : Nat → Prop} {ρ : Nat → Pl} {g g' x : Seg} {j : Nat} {p : List Prop} {cs ys : List Value} (h : putSeg g j x = some (p, g')) (hp : AllP p)
  (hg : SegD dm ρ g cs) (hx : SegD dm ρ x ys) (hj : ∀ n, segLen g = some n → j < n) : SegD dm ρ g' (over cs j ys) ∧ j + ys.length ≤ cs.length ∧ ys.length = segSize x := by
 cases x with
 | one v =>
  obtain ⟨hv1, u, hv2, hv3⟩ := hx
  have hyl : ys.length = 1 := by rw [hv3]; rfl
  cases g with
  | rowH key hs => cases v <;> simp [putSeg] at h
  | rowP key n => cases v <;> simp [putSeg] at h
  | rowD key sh ds => cases v <;> simp [putSeg] at h
  | one y =>
   simp only [putSeg, Option.some.injEq, Prod.mk.injEq] at h
   obtain ⟨_, rfl⟩ := h
   obtain ⟨_, v0, _, h3⟩ := hg
   have hj0 : j = 0 := by have := hj 1 rfl; omega
   subst hj0
   refine ⟨⟨hv1, u, hv2, ?_⟩, by rw [h3, hyl]; simp, hyl⟩
   rw [over_self _ _ (by rw [h3, hyl]; rfl), hv3]
  | arr k n ex l =>
   obtain ⟨h1, h2, h3⟩ := hg
   have hjl : j < l.length := by rw [h1]; exact hj n rfl
   cases v with
   | i k' a =>
    simp only [putSeg] at h
    split at h
    ·rename_i l' hk hs
     simp only [Option.some.injEq, Prod.mk.injEq] at h
     obtain ⟨_, rfl⟩ := h
     have hkk := keq_eq hk; subst hkk
     have hl := setI_some hs
     simp only [D] at hv2
     obtain ⟨hu, hr⟩ := hv2
     refine ⟨⟨by rw [hl]; simpa using h1, by rw [hl]; exact h2.set hr, ?_⟩, by rw [h3, hyl]; simp; omega, hyl⟩
     rw [hl, set_over _ _ _ hjl, map_over, h3, hv3, hu]; rfl
    ·cases h
   | _ => simp [putSeg] at h
  | rowI k l =>
   obtain ⟨h2, h3⟩ := hg
   cases v with
   | i k' a =>
    simp only [putSeg] at h
    split at h
    ·rename_i hk
     simp only [Option.some.injEq, Prod.mk.injEq] at h
     obtain ⟨rfl, rfl⟩ := h
     have hkk := keq_eq hk; subst hkk
     have hjl : j < l.length := hp.1
     simp only [D] at hv2
     obtain ⟨hu, hr⟩ := hv2
     refine ⟨⟨h2.set hr, ?_⟩, by rw [h3, hyl]; simp; omega, hyl⟩
     rw [set_over _ _ _ hjl, map_over, h3, hv3, hu]; rfl
    ·cases h
   | _ => simp [putSeg] at h
  | rowA k n l =>
   obtain ⟨h2, h3⟩ := hg
   have hfl := flatten_len h2
   cases v with
   | i k' a =>
    simp only [putSeg] at h
    split at h
    ·rename_i hb
     simp only [Bool.and_eq_true] at hb
     have hkk := keq_eq hb.1; subst hkk
     have hn : 0 < n := by have := hb.2; simp [Nat.blt] at this; omega
     simp only [Option.some.injEq, Prod.mk.injEq] at h
     obtain ⟨rfl, rfl⟩ := h
     have hi : j / n < l.length := hp.1
     have hm : j % n < n := Nat.mod_lt _ hn
     have hel := h2 _ (List.getElem_mem hi)
     have hdm := Nat.div_add_mod j n
     have hget : l.getD (j / n) [] = l[j / n] := by simp [List.getD, hi]
     simp only [D] at hv2
     obtain ⟨hu, hr⟩ := hv2
     have hjf : j + 1 ≤ l.flatten.length := by
      rw [hfl]
      have := Nat.mul_le_mul_left n (show j / n + 1 ≤ l.length from hi)
      rw [Nat.mul_add] at this; omega
     refine ⟨⟨AllA.set h2 (by rw [hget]; simpa using hel.1) (by rw [hget]; exact hel.2.set hr), ?_⟩, by rw [h3, hyl, List.length_map]; omega, hyl⟩
     have hlen2 : (l[j / n].set (j % n) a.z).length = n := by simpa using hel.1
     rw [hget, flatten_set h2 hi hlen2, h3, hv3, hu]
     rw [show [Value.int k a.z] = [a.z].map (Value.int k) from rfl, ← map_over]
     congr 1
     -- one number in the middle of its array
     have hat := flatten_at h2 hi
     have hnl : n * (j / n) + n ≤ l.flatten.length := by
      rw [hfl]
      have := Nat.mul_le_mul_left n (show j / n + 1 ≤ l.length from hi)
      rwa [Nat.mul_add, Nat.mul_one] at this
     have hsplit : l.flatten = l.flatten.take (n * (j / n)) ++ l[j / n] ++ l.flatten.drop (n * (j / n) + n) := by
      rw [← hat, List.append_assoc, ← List.drop_drop, List.take_append_drop, List.take_append_drop]
     have hpl : (l.flatten.take (n * (j / n))).length = n * (j / n) := by simp only [List.length_take]; omega
     have h5 := over_mid (l.flatten.take (n * (j / n))) l[j / n] (l.flatten.drop (n * (j / n) + n)) [a.z] (j % n) (by rw [hel.1]; simp; omega)
     rw [← hsplit, hpl, hdm] at h5
     rw [h5, set_over _ _ _ (by rw [hel.1]; exact hm)]
     unfold over
     have h6 : ((l[j / n]).take (j % n) ++ [a.z] ++ (l[j / n]).drop (j % n + [a.z].length)).length = n := by
      have := over_length (vs := l[j / n]) (ys := [a.z]) (c := j % n) (by rw [hel.1]; simp; omega)
      unfold over at this; rw [this]; exact hel.1
     rw [h6]
    ·cases h
   | _ => simp [putSeg] at h
 | arr k' m ex' y =>
  obtain ⟨hy1, hy2, hy3⟩ := hx
  have hyl : ys.length = m := by rw [hy3]; simpa using hy1
  cases g with
  | one v => simp [putSeg] at h
  | arr k n ex l =>
   obtain ⟨h1, h2, h3⟩ := hg
   simp only [putSeg] at h
   split at h
   ·rename_i hb
    simp only [Bool.and_eq_true] at hb
    obtain ⟨⟨b1, b2⟩, b3⟩ := hb
    have e1 := keq_eq b1
    have e2 := Nat.eq_of_beq_eq_true b2
    have e3 := Nat.eq_of_beq_eq_true b3
    simp only [Option.some.injEq, Prod.mk.injEq] at h
    obtain ⟨_, rfl⟩ := h
    subst e1 e2 e3
    have hcl : cs.length = n := by rw [h3]; simpa using h1
    exact ⟨⟨hy1, hy2, by rw [over_self _ _ (by omega), hy3]⟩, by omega, hyl⟩
   ·cases h
  | rowI k l => simp [putSeg] at h
  | rowH key hs => simp [putSeg] at h
  | rowP key n => simp [putSeg] at h
  | rowD key sh ds => simp [putSeg] at h
  | rowA k n l =>
   obtain ⟨h2, h3⟩ := hg
   have hfl := flatten_len h2
   simp only [putSeg] at h
   split at h
   ·rename_i hb
    simp only [Bool.and_eq_true] at hb
    obtain ⟨⟨b1, b2⟩, b3⟩ := hb
    have e1 := keq_eq b1
    have e2 := Nat.eq_of_beq_eq_true b2
    have e3 := Nat.eq_of_beq_eq_true b3
    simp only [Option.some.injEq, Prod.mk.injEq] at h
    obtain ⟨rfl, rfl⟩ := h
    subst e1 e2
    have hi : j / n < l.length := hp.1
    have hdm := Nat.div_add_mod j n
    rw [e3, Nat.add_zero] at hdm
    have hjf : j + n ≤ l.flatten.length := by
     rw [hfl]
     have := Nat.mul_le_mul_left n (show j / n + 1 ≤ l.length from hi)
     rw [Nat.mul_add] at this; omega
    refine ⟨⟨AllA.set h2 hy1 hy2, ?_⟩, by rw [h3, List.length_map, hyl]; exact hjf, hyl⟩
    rw [flatten_set h2 hi hy1, hdm, map_over, h3, hy3]
   ·cases h
 | rowI k l => cases g <;> simp [putSeg] at h
 | rowA k n l => cases g <;> simp [putSeg] at h
 | rowH key hs => cases g <;> simp [putSeg] at h
 | rowP key n => cases g <;> simp [putSeg] at h
 | rowD key sh ds => cases g <;> simp [putSeg] at h

theorem writeSegs_sound {dm : Nat → Prop} {ρ : Nat → Pl} : ∀ (xs : List Seg) (l l' : List Seg) (c : Nat) (p : List Prop) (vs ys : List Value), writeSegs l c xs = some (p, l') → AllP p →
  SegsD dm ρ l vs → SegsD dm ρ xs ys → SegsD dm ρ l' (over vs c ys) ∧ (c + ys.length ≤ vs.length ∨ xs = [])
 | [], l, l', c, p, vs, ys, h, hp, hl, hx => by
  simp only [writeSegs, Option.some.injEq, Prod.mk.injEq] at h
  obtain ⟨_, rfl⟩ := h
  rw [show ys = [] from hx, over_nil]
  exact ⟨hl, .inr rfl⟩
 | x :: r, l, l', c, p, vs, ys, h, hp, hl, hx => by
  obtain ⟨y1, y2, hx1, rfl, hx2⟩ := hx
  simp only [writeSegs] at h
  split at h
  ·rename_i g j hs
   split at h
   ·rename_i p1 g' hput
    split at h
    ·rename_i l1 hset
     split at h
     ·rename_i q l2 hrec
      simp only [Option.some.injEq, Prod.mk.injEq] at h
      obtain ⟨rfl, rfl⟩ := h
      obtain ⟨hp1, hp2⟩ := AllP.append hp
      obtain ⟨pre, cs, post, e1, e2, e3, e4, e5⟩ := segAt_D l c vs g j hl hs
      obtain ⟨a1, a2, a3⟩ := putSeg_sound hput hp1 e2 hx1 e4
      have hb : c + y1.length ≤ vs.length := by rw [e1]; simp; omega
      have h1 : SegsD dm ρ l1 (over vs c y1) := by
       rw [e1, ← e3, over_mid _ _ _ _ _ a2]
       exact e5 g' _ l1 hset a1
      obtain ⟨b1, b2⟩ := writeSegs_sound r l1 l2 (c + segSize x) q (over vs c y1) y2 hrec hp2 h1 hx2
      rw [← a3, over_over _ _ _ _ hb] at b1
      refine ⟨b1, .inl ?_⟩
      rcases b2 with b2 | rfl
      ·rw [over_length hb, ← a3] at b2; simp; omega
      ·rw [show y2 = [] from hx2]; simpa using hb
     ·cases h
    ·cases h
   ·cases h
  ·cases h

/-! ### Places that are reckoned -/

theorem toNat_lt {x : Int} {n : Nat} (h : 0 ≤ x ∧ x < (n : Int)) : x.toNat < n := by omega

theorem readDyn_sound {dm : Nat → Prop} {ρ : Nat → Pl} {g : Seg} {x : Int} {j est : Nat} {t : Ty} {p : List Prop} {v : SV} {cs : List Value} (h : readDyn g x j est t = some (p, v)) (hp : AllP p)
  (hg : SegD dm ρ g cs) : ReadOk dm ρ v t cs (est * x.toNat + j) := by
 have one : ∀ (k : IntKind) (l : List Int), AllR k l → cs = l.map (Value.int k) → x.toNat < l.length → ReadOk dm ρ (.i k ⟨false, l.getD x.toNat 0⟩) (.int k) cs (1 * x.toNat + 0) := fun k l h2 h3 hx => by
  have hzz : l.getD x.toNat 0 = l[x.toNat] := by simp [List.getD, hx]
  have hjc : x.toNat < cs.length := by rw [h3]; simpa using hx
  refine ⟨.int k (l.getD x.toNat 0), ⟨rfl, by rw [hzz]; exact h2.at hx⟩, ?_, by simp [Ty.size]; omega, (fun hr' => by cases hr'), fun _ => rfl⟩
  show [Value.int k _] = (cs.drop (1 * x.toNat + 0)).take 1
  rw [Nat.one_mul, Nat.add_zero, drop_take_one hjc]
  simp only [h3, List.getElem_map, hzz]
 cases g with
 | one y => simp [readDyn] at h
 | rowH key hs =>
  cases t with
  | slice =>
   simp only [readDyn] at h
   split at h
   ·rename_i hb
    simp only [Bool.and_eq_true] at hb
    have e2 := Nat.eq_of_beq_eq_true hb.1
    have e3 := Nat.eq_of_beq_eq_true hb.2
    simp only [Option.some.injEq, Prod.mk.injEq] at h
    obtain ⟨rfl, rfl⟩ := h
    subst e2 e3
    have hjn : x.toNat < hs.length := toNat_lt hp.1
    obtain ⟨v, q1, q2⟩ := hg.2.at_ x.toNat hjn
    have hjc : x.toNat < cs.length := by rw [hg.2.len]; exact hjn
    have hv : cs[x.toNat] = v := by rw [List.getElem?_eq_getElem hjc] at q1; simpa using q1
    have hc := (single_cell rfl q2).2
    refine ⟨v, q2, ?_, by simp [Ty.size]; omega, (fun hr' => by cases hr'), fun _ => hc⟩
    show v.cells.toList = (cs.drop (1 * x.toNat + 0)).take 1
    rw [Nat.one_mul, Nat.add_zero, drop_take_one hjc, hc, hv]
   ·cases h
  | arr n e => cases e <;> simp [readDyn] at h
  | _ => simp [readDyn] at h
 | rowP key n =>
  cases t with
  | ptr =>
   simp only [readDyn] at h
   split at h
   ·rename_i hb
    simp only [Bool.and_eq_true] at hb
    have e2 := Nat.eq_of_beq_eq_true hb.1
    have e3 := Nat.eq_of_beq_eq_true hb.2
    simp only [Option.some.injEq, Prod.mk.injEq] at h
    obtain ⟨rfl, rfl⟩ := h
    subst e2 e3
    have hjn : x.toNat < n := toNat_lt hp.1
    obtain ⟨h1, h2, rfl⟩ := hg
    have hjc : x.toNat < (ptrsV (ρ key) n).length := by rw [ptrsV_len]; exact hjn
    have hv : (ptrsV (ρ key) n)[x.toNat] = .pointer (some ⟨(ρ key).pb x.toNat, (ρ key).po x.toNat, none⟩) := by
     have := ptrsV_at (p := ρ key) hjn
     rw [List.getElem?_eq_getElem hjc] at this; simpa using this
    refine ⟨.pointer (some ⟨(ρ key).pb x.toNat, (ρ key).po x.toNat, none⟩), ⟨h1, by omega, by decide, rfl⟩, ?_, by rw [ptrsV_len]; simp [Ty.size]; omega, (fun hr' => by cases hr'), fun _ => rfl⟩
    show [_] = (List.drop (1 * x.toNat + 0) _).take 1
    rw [Nat.one_mul, Nat.add_zero, drop_take_one hjc, hv]
   ·cases h
  | arr n e => cases e <;> simp [readDyn] at h
  | _ => simp [readDyn] at h
 | rowD key sh ds =>
  obtain ⟨h1, ⟨w', Out, h2⟩, h3, h4, h5, h6⟩ := hg
  simp only [readDyn] at h
  split at h
  ·rename_i y hb hy
   simp only [Bool.and_eq_true] at hb
   have e2 := Nat.eq_of_beq_eq_true hb.1
   simp only [Option.some.injEq, Prod.mk.injEq] at h
   obtain ⟨rfl, rfl⟩ := h
   subst e2
   have hx := toNat_lt hp.1
   rw [h2] at h3
   obtain ⟨u, pre, post, q1, q2, q3⟩ := chain_at_ (fun d v h => RoD_cells sh d v h) _ cs x.toNat hx h3
   have hg : ds.getD x.toNat (.r []) = ds[x.toNat] := by simp [List.getD, hx]
   rw [hg] at hy
   have := (readSh_sound h1 h2 sh _ j t y u hy q3).mid (pre := pre) (post := post)
   rw [← q1, q2] at this
   exact this
  ·cases h
 | arr k n ex l =>
  obtain ⟨h1, h2, h3⟩ := hg
  cases t with
  | int k' =>
   simp only [readDyn] at h
   split at h
   ·rename_i hb
    simp only [Bool.and_eq_true] at hb
    obtain ⟨⟨b1, b2⟩, b3⟩ := hb
    have e1 := keq_eq b1
    have e2 := Nat.eq_of_beq_eq_true b2
    have e3 := Nat.eq_of_beq_eq_true b3
    simp only [Option.some.injEq, Prod.mk.injEq] at h
    obtain ⟨rfl, rfl⟩ := h
    subst e1 e2 e3
    exact one k l h2 h3 (by rw [h1]; exact toNat_lt hp.1)
   ·cases h
  | _ => simp [readDyn] at h
 | rowI k l =>
  obtain ⟨h2, h3⟩ := hg
  cases t with
  | int k' =>
   simp only [readDyn] at h
   split at h
   ·rename_i hb
    simp only [Bool.and_eq_true] at hb
    obtain ⟨⟨b1, b2⟩, b3⟩ := hb
    have e1 := keq_eq b1
    have e2 := Nat.eq_of_beq_eq_true b2
    have e3 := Nat.eq_of_beq_eq_true b3
    simp only [Option.some.injEq, Prod.mk.injEq] at h
    obtain ⟨rfl, rfl⟩ := h
    subst e1 e2 e3
    exact one k l h2 h3 (toNat_lt hp.1)
   ·cases h
  | _ => simp [readDyn] at h
 | rowA k n l =>
  obtain ⟨h2, h3⟩ := hg
  have hfl := flatten_len h2
  cases t with
  | int k' =>
   simp only [readDyn] at h
   split at h
   ·rename_i hb
    simp only [Bool.and_eq_true] at hb
    obtain ⟨⟨b1, b2⟩, b3⟩ := hb
    have e1 := keq_eq b1
    have e2 := Nat.eq_of_beq_eq_true b2
    have hjn : j < n := by simp [Nat.blt] at b3; omega
    simp only [Option.some.injEq, Prod.mk.injEq] at h
    obtain ⟨rfl, rfl⟩ := h
    subst e1 e2
    have hi : x.toNat < l.length := toNat_lt hp.1
    have hel := h2 _ (List.getElem_mem hi)
    have hat := flatten_at h2 hi
    have hget : l.getD x.toNat [] = l[x.toNat] := by simp [List.getD, hi]
    have hjf : n * x.toNat + j < l.flatten.length := by
     rw [hfl]
     have := Nat.mul_le_mul_left n (show x.toNat + 1 ≤ l.length from hi)
     rw [Nat.mul_add] at this; omega
    have hjc : n * x.toNat + j < cs.length := by rw [h3, List.length_map]; exact hjf
    have hz : l.flatten[n * x.toNat + j] = (l[x.toNat])[j]'(by omega) := by
     have e1 : l.flatten[n * x.toNat + j]? = ((l.flatten.drop (n * x.toNat)).take n)[j]? := by
      rw [List.getElem?_take, if_pos hjn, List.getElem?_drop]
     rw [hat, List.getElem?_eq_getElem hjf, List.getElem?_eq_getElem (by omega)] at e1
     simpa using e1
    have hzz : (l.getD x.toNat []).getD j 0 = l.flatten[n * x.toNat + j] := by
     rw [hz, hget]; simp [List.getD, hel.1, hjn]
    refine ⟨.int k ((l.getD x.toNat []).getD j 0), ⟨rfl, ?_⟩, ?_, by simp [Ty.size]; omega, (fun hr' => by cases hr'), fun _ => rfl⟩
    ·rw [hzz, hz]; exact hel.2.at (by omega)
    ·show [Value.int k _] = (cs.drop (n * x.toNat + j)).take 1
     rw [drop_take_one hjc]
     simp only [h3, List.getElem_map, hzz]
   ·cases h
  | arr m e =>
   cases e with
   | int k' =>
    simp only [readDyn] at h
    split at h
    ·rename_i hb
     simp only [Bool.and_eq_true] at hb
     obtain ⟨⟨⟨b1, b2⟩, b3⟩, b4⟩ := hb
     have e1 := keq_eq b1
     have e2 := Nat.eq_of_beq_eq_true b2
     have e3 := Nat.eq_of_beq_eq_true b3
     have e4 := Nat.eq_of_beq_eq_true b4
     simp only [Option.some.injEq, Prod.mk.injEq] at h
     obtain ⟨rfl, rfl⟩ := h
     subst e1 e2 e3 e4
     have hi : x.toNat < l.length := toNat_lt hp.1
     have hel := h2 _ (List.getElem_mem hi)
     have hat := flatten_at h2 hi
     have hget : l.getD x.toNat [] = l[x.toNat] := by simp [List.getD, hi]
     have hall : getAll (l.getD x.toNat []) n 0 = l[x.toNat] := by
      rw [hget, getAll_eq n 0 _ (by omega), List.drop_zero, List.take_of_length_le (by omega)]
     have hjf : n * x.toNat + n ≤ l.flatten.length := by
      rw [hfl]
      have := Nat.mul_le_mul_left n (show x.toNat + 1 ≤ l.length from hi)
      rw [Nat.mul_add] at this; omega
     have hjc : n * x.toNat + n ≤ cs.length := by rw [h3, List.length_map]; exact hjf
     refine ⟨.agg ((l[x.toNat]).map (Value.int k)).toArray, ?_, ?_, by simp [Ty.size]; omega, (fun _ => ⟨_, rfl⟩), (fun hr' => by cases hr')⟩
     ·rw [hall]; exact ⟨hel.1, hel.2, rfl⟩
     ·simp only [Value.cells, Ty.size, Nat.mul_one, Nat.add_zero]
      rw [h3, ← List.map_drop, ← List.map_take, hat]
    ·cases h
   | _ => simp [readDyn] at h
  | _ => simp [readDyn] at h

end Go.Gx

/- The model's load, store and new variable; what an operation comes to. -/
namespace Go.Gx
open Go.RowKit
set_option linter.unusedVariables false

theorem writeDyn_sound {dm : Nat → Prop} {ρ : Nat → Pl} {g g' : Seg} {x : Int} {j est : Nat} {p : List Prop} {v : SV} {u : Value} {cs : List Value} (h : writeDyn g x j est v = some (p, g')) (hp : AllP p)
  (hg : SegD dm ρ g cs) (hv : D dm ρ v u) : SegD dm ρ g' (over cs (est * x.toNat + j) u.cells.toList) ∧ est * x.toNat + j + u.cells.size ≤ cs.length := by
 cases v with
 | i k' a =>
  simp only [D] at hv
  obtain ⟨hu, hr⟩ := hv
  have huc : u.cells = #[u] := by rw [hu]; rfl
  cases g with
  | one y => simp [writeDyn] at h
  | rowH key hs => simp [writeDyn] at h
  | rowP key n => simp [writeDyn] at h
  | rowD key sh ds => simp [writeDyn] at h
  | arr k n ex l =>
   obtain ⟨h1, h2, h3⟩ := hg
   simp only [writeDyn] at h
   split at h
   ·rename_i hb
    simp only [Bool.and_eq_true] at hb
    obtain ⟨⟨b1, b2⟩, b3⟩ := hb
    have e1 := keq_eq b1
    have e2 := Nat.eq_of_beq_eq_true b2
    have e3 := Nat.eq_of_beq_eq_true b3
    simp only [Option.some.injEq, Prod.mk.injEq] at h
    obtain ⟨rfl, rfl⟩ := h
    subst e1 e2 e3
    have hx : x.toNat < l.length := by rw [h1]; exact toNat_lt hp.1
    refine ⟨⟨by simpa using h1, h2.set hr, ?_⟩, by rw [huc, h3]; simp; omega⟩
    rw [huc, Nat.one_mul, Nat.add_zero, set_over _ _ _ hx, map_over, h3, hu]; rfl
   ·cases h
  | rowI k l =>
   obtain ⟨h2, h3⟩ := hg
   simp only [writeDyn] at h
   split at h
   ·rename_i hb
    simp only [Bool.and_eq_true] at hb
    obtain ⟨⟨b1, b2⟩, b3⟩ := hb
    have e1 := keq_eq b1
    have e2 := Nat.eq_of_beq_eq_true b2
    have e3 := Nat.eq_of_beq_eq_true b3
    simp only [Option.some.injEq, Prod.mk.injEq] at h
    obtain ⟨rfl, rfl⟩ := h
    subst e1 e2 e3
    have hx : x.toNat < l.length := toNat_lt hp.1
    refine ⟨⟨h2.set hr, ?_⟩, by rw [huc, h3]; simp; omega⟩
    rw [huc, Nat.one_mul, Nat.add_zero, set_over _ _ _ hx, map_over, h3, hu]; rfl
   ·cases h
  | rowA k n l =>
   obtain ⟨h2, h3⟩ := hg
   have hfl := flatten_len h2
   simp only [writeDyn] at h
   split at h
   ·rename_i hb
    simp only [Bool.and_eq_true] at hb
    obtain ⟨⟨b1, b2⟩, b3⟩ := hb
    have e1 := keq_eq b1
    have e2 := Nat.eq_of_beq_eq_true b2
    have hjn : j < n := by simp [Nat.blt] at b3; omega
    simp only [Option.some.injEq, Prod.mk.injEq] at h
    obtain ⟨rfl, rfl⟩ := h
    subst e1 e2
    have hi : x.toNat < l.length := toNat_lt hp.1
    have hel := h2 _ (List.getElem_mem hi)
    have hget : l.getD x.toNat [] = l[x.toNat] := by simp [List.getD, hi]
    have hnl : n * x.toNat + n ≤ l.flatten.length := by
     rw [hfl]
     have := Nat.mul_le_mul_left n (show x.toNat + 1 ≤ l.length from hi)
     rwa [Nat.mul_add, Nat.mul_one] at this
    refine ⟨⟨AllA.set h2 (by rw [hget]; simpa using hel.1) (by rw [hget]; exact hel.2.set hr), ?_⟩, by rw [huc, h3, List.length_map]; show n * x.toNat + j + 1 ≤ _; omega⟩
    have hlen2 : (l[x.toNat].set j a.z).length = n := by simpa using hel.1
    rw [hget, flatten_set h2 hi hlen2, huc, h3, hu]
    rw [show (#[Value.int k a.z] : Array Value).toList = [a.z].map (Value.int k) from rfl, ← map_over]
    congr 1
    have hat := flatten_at h2 hi
    have hsplit : l.flatten = l.flatten.take (n * x.toNat) ++ l[x.toNat] ++ l.flatten.drop (n * x.toNat + n) := by
     rw [← hat, List.append_assoc, ← List.drop_drop, List.take_append_drop, List.take_append_drop]
    have hpl : (l.flatten.take (n * x.toNat)).length = n * x.toNat := by simp only [List.length_take]; omega
    have h5 := over_mid (l.flatten.take (n * x.toNat)) l[x.toNat] (l.flatten.drop (n * x.toNat + n)) [a.z] j (by rw [hel.1]; simp; omega)
    rw [← hsplit, hpl] at h5
    rw [h5, set_over _ _ _ (by rw [hel.1]; exact hjn)]
    unfold over
    have h6 : ((l[x.toNat]).take j ++ [a.z] ++ (l[x.toNat]).drop (j + [a.z].length)).length = n := by
     have := over_length (vs := l[x.toNat]) (ys := [a.z]) (c := j) (by rw [hel.1]; simp; omega)
     unfold over at this; rw [this]; exact hel.1
    rw [h6]
   ·cases h
 | arr k' m ex y =>
  simp only [D] at hv
  obtain ⟨hy1, hy2, hu⟩ := hv
  have huc : u.cells.toList = y.map (Value.int k') := by rw [hu]; simp [Value.cells]
  have hus : u.cells.size = m := by rw [← Array.length_toList, huc]; simpa using hy1
  cases g with
  | rowA k n l =>
   obtain ⟨h2, h3⟩ := hg
   have hfl := flatten_len h2
   simp only [writeDyn] at h
   split at h
   ·rename_i hb
    simp only [Bool.and_eq_true] at hb
    obtain ⟨⟨⟨b1, b2⟩, b3⟩, b4⟩ := hb
    have e1 := keq_eq b1
    have e2 := Nat.eq_of_beq_eq_true b2
    have e3 := Nat.eq_of_beq_eq_true b3
    have e4 := Nat.eq_of_beq_eq_true b4
    simp only [Option.some.injEq, Prod.mk.injEq] at h
    obtain ⟨rfl, rfl⟩ := h
    subst e1 e2 e3 e4
    have hi : x.toNat < l.length := toNat_lt hp.1
    have hnl : n * x.toNat + n ≤ l.flatten.length := by
     rw [hfl]
     have := Nat.mul_le_mul_left n (show x.toNat + 1 ≤ l.length from hi)
     rwa [Nat.mul_add, Nat.mul_one] at this
    refine ⟨⟨AllA.set h2 hy1 hy2, ?_⟩, by rw [h3, List.length_map, hus]; omega⟩
    rw [flatten_set h2 hi hy1, Nat.add_zero, map_over, h3, huc]
   ·cases h
  | _ => simp [writeDyn] at h
 | nsl =>
  simp only [D] at hv
  subst hv
  cases g with
  | rowH key hs =>
   simp only [writeDyn] at h
   split at h
   ·rename_i hb
    simp only [Bool.and_eq_true] at hb
    have e2 := Nat.eq_of_beq_eq_true hb.1
    have e3 := Nat.eq_of_beq_eq_true hb.2
    simp only [Option.some.injEq, Prod.mk.injEq] at h
    obtain ⟨rfl, rfl⟩ := h
    subst e2 e3
    have hjn : x.toNat < hs.length := toNat_lt hp.1
    obtain ⟨w0, q1, q2⟩ := hg.2.at_ x.toNat hjn
    have hcl := hg.2.len
    have huc : (Value.slice none 0 0).cells.toList = [.slice none 0 0] := rfl
    have hjc : x.toNat < cs.length := by omega
    refine ⟨⟨hg.1, ?_⟩, by show 1 * x.toNat + 0 + 1 ≤ _; omega⟩
    rw [huc, Nat.one_mul, Nat.add_zero, ← set_over _ _ _ hjc]
    refine HdrsD.set ?_ _ hg.2
    simp only [D] at q2 ⊢
    exact ⟨q2.1, q2.2.1, by simp, by simp [InR], none, 0, by simp, Nat.le_refl _, .inr ⟨by simp, rfl⟩⟩
   ·cases h
  | _ => simp [writeDyn] at h
 | _ => cases g <;> simp [writeDyn] at h

/-! ### The model's operations on variables -/

theorem tyB_row {P : Program} {t : Ty} {T : TypeId} (h : tyB P t T = true) : ∃ d, P.underlying T = some d ∧ d.isRow = isRow t := by
 cases t <;> unfold tyB at h <;> split at h <;> first
  | (rename_i hu; exact ⟨_, hu, rfl⟩)
  | cases h

theorem rangeAt_part {w : World} {b o : Nat} {vs : List Value} (h : w.rangeAt b o vs) (c n : Nat) : w.rangeAt b (o + c) ((vs.drop c).take n) := fun j v hv => by
 rw [List.getElem?_take] at hv
 split at hv
 ·rw [List.getElem?_drop] at hv
  rw [Nat.add_assoc]; exact h _ v hv
 ·cases hv

theorem load_run {P : Program} {T : TypeId} {ti : TInfo} (hT : RowOk P T ti) {w : World} {b o c : Nat} {vs : List Value} (hr : w.rangeAt b o vs) {dm : Nat → Prop} {ρ : Nat → Pl} {x : SV}
  (h : ReadOk dm ρ x ti.ty vs c) : ∃ v, (Instr.loadAt T (.pointer (some ⟨b, o + c, none⟩))).run P w = .ok v w ∧ D dm ρ x v := by
 obtain ⟨v, h1, h2, h3, h4, h5⟩ := h
 obtain ⟨d, hd, hrow⟩ := tyB_row hT.ty
 refine ⟨v, ?_, h1⟩
 cases hh : isRow ti.ty with
 | true =>
  obtain ⟨a, rfl⟩ := h4 hh
  have hra := rangeAt_part hr c ti.ty.size
  rw [← h2] at hra
  have hlen : (Value.agg a).cells.toList.length = ti.ty.size := by rw [h2]; simp; omega
  have := run_loadAt_mid (P := P) w b (o + c) T (Value.agg a).cells.toList d hra hd (by rw [hrow, hh]) (by rw [hT.size, hlen])
  rw [this]; simp [Value.cells]
 | false =>
  have hc := h5 hh
  have hagg : (isAgg T).run P w = .ok false w := by
   unfold isAgg
   rw [Sem.run_bind, run_underlying hd w]
   rw [hh] at hrow
   cases d <;> simp_all
  have hcell : w.cell? ⟨b, o + c, none⟩ = some v := by
   have := rangeAt_part hr c ti.ty.size 0 v (by rw [← h2, hc]; rfl)
   simpa using this
  simp [Instr.loadAt, Instr.sureAddr, loadVar, hagg, hcell]

theorem store_run {P : Program} {T : TypeId} {w : World} {b o : Nat} {v : Value} (hs : (P.info? T).map (·.size) = some v.cells.size) (ht : w.there b o v.cells.size) (h1 : ∀ x ∈ v.cells.toList, x.oneCell' = true) :
  (Instr.storeAt T (.pointer (some ⟨b, o, none⟩)) v).run P w = .ok () (w.setCells b o v.cells.toList) := by
 have := run_storeCells_cells (P := P) b o v.cells.toList 0 w (fun j hj => by simpa using (ht j (by simpa using hj)).1) (fun j hj => by simpa using (ht j (by simpa using hj)).2) h1
 cases hq : P.info? T with
 | none => simp [hq] at hs
 | some i =>
  have hsz : v.cells.size = i.size := by simp [hq] at hs; omega
  simp only [Nat.add_zero] at this
  simp [Instr.storeAt, Instr.sureAddr, storeVar, sizeOf, typeInfo, hq, hsz, this]

/-! ### What an operation comes to -/

def Ext (H : Nat → Option SB) (ρ ρ' : Nat → Pl) : Prop := ∀ k, dmOf H k → PlLe (ρ k) (ρ' k)

def After (w0 : World) (M : Nat → Prop) (ρ : Nat → Pl) (H : Nat → Option SB) (d : Delta) (v : Value) (w' : World) : Prop :=
 ∃ ρ', Ext H ρ ρ' ∧ D (dmOf (updsH H d.ws)) ρ' d.v v ∧ Mem w0 M ρ' (updsH H d.ws) w'

def Outc (P : Program) (w0 : World) (M : Nat → Prop) (ρ : Nat → Pl) (H : Nat → Option SB) (d : Delta) (w : World) (r : Result Next) : Prop :=
 (∃ v w', (r = .ok (.value v) w' ∨ (r = .ok .skip w' ∧ v = undef)) ∧ After w0 M ρ H d v w') ∨
 (∃ f args, r = .ok (.enter f args) w ∧ Calls P f args w fun e w' => ∃ v, e = .returned v ∧ After w0 M ρ H d v w')

section
variable {P : Program} {w0 : World} {M : Nat → Prop} {ρ : Nat → Pl} {H : Nat → Option SB} {w : World}

theorem Ext.refl (H : Nat → Option SB) (ρ : Nat → Pl) : Ext H ρ ρ := fun _ _ => .refl _

theorem Outc.same (hm : Mem w0 M ρ H w) {d : Delta} {v : Value} {s : Sem Value} (hw : d.ws = []) (hr : s.run P w = .ok v w) (hd : D (dmOf H) ρ d.v v) :
  Outc P w0 M ρ H d w ((do pure (.value (← s)) : Sem Next).run P w) :=
 .inl ⟨v, w, .inl (by simp [hr]), ρ, .refl _ _, by rw [hw]; exact hd, by rw [hw]; exact hm⟩

theorem Outc.move (hm : Mem w0 M ρ H w) {d : Delta} {v : Value} (hw : d.ws = []) (hd : D (dmOf H) ρ d.v v) : Outc P w0 M ρ H d w ((pure (.value v) : Sem Next).run P w) :=
 .inl ⟨v, w, .inl rfl, ρ, .refl _ _, by rw [hw]; exact hd, by rw [hw]; exact hm⟩

theorem Mem.segs (hm : Mem w0 M ρ H w) {key : Nat} {ro : Bool} {l : List Seg} (h : H key = some (.segs ro l)) :
  ∃ vs, SegsD (dmOf H) ρ l vs ∧ vs.length ≤ (ρ key).cap ∧ w.rangeAt (ρ key).blk (ρ key).off vs ∧ (ro = false → w.there (ρ key).blk (ρ key).off (ρ key).cap) := hm.heap.blk key _ h

theorem dm_of {key : Nat} {b : SB} (h : H key = some b) : dmOf H key := by unfold dmOf; rw [h]; rfl

theorem Mem.keeps (hm : Mem w0 M ρ H w) : Keeps w0 w (OutB w0 M) (OutB w0 M) := fun b hb => ⟨hb, hm.frame.block b hb.1 hb.2⟩

theorem load_sound {T : TypeId} {ti : TInfo} (hT : RowOk P T ti) (hm : Mem w0 M ρ H w) {a : SV} {va : Value} (ha : D (dmOf H) ρ a va) {d : Delta} {rs rs' : List Nat}
  (h : (loadOp ti a).run H rs = some (d, rs')) (hp : AllP d.pre) : d.ws = [] ∧ ∃ v, (Instr.loadAt T va).run P w = .ok v w ∧ D (dmOf H) ρ d.v v := by
 cases a with
 | p key c =>
  simp only [D] at ha
  obtain ⟨_, rfl⟩ := ha
  simp only [loadOp, RP.run] at h
  split at h
  ·rename_i ro l hk
   split at h
   ·rename_i p v hv
    have e := run_ret h; subst e
    obtain ⟨vs, h1, h2, h3, _⟩ := hm.segs hk
    exact ⟨rfl, load_run hT h3 (readVar_sound h1 ti.ty c p v hv hp)⟩
   ·simp [RP.run] at h
  ·simp [RP.run] at h
 | pd key c est x j =>
  simp only [D] at ha
  obtain ⟨_, hx, rfl⟩ := ha
  simp only [loadOp, RP.run] at h
  split at h
  ·rename_i ro l hk
   split at h
   ·rename_i g hg
    split at h
    ·rename_i p v hv
     have e := run_ret h; subst e
     obtain ⟨vs, h1, h2, h3, _⟩ := hm.segs hk
     unfold segHead at hg
     split at hg
     ·rename_i g' hs
      simp only [Option.some.injEq] at hg; subst hg
      obtain ⟨pre, cs, post, e1, e2, e3, e4, _⟩ := segAt_D l c vs g' 0 h1 hs
      have hro := (readDyn_sound hv hp e2).mid (pre := pre) (post := post)
      rw [← e1] at hro
      rw [show pre.length + (est * x.toNat + j) = c + est * x.toNat + j by omega] at hro
      exact ⟨rfl, load_run hT h3 hro⟩
     ·cases hg
    ·simp [RP.run] at h
   ·simp [RP.run] at h
  ·simp [RP.run] at h
 | rop key sh dd x j =>
  simp only [D] at ha
  obtain ⟨hk, h0, hx, b, o, n, cap, hrel, rfl⟩ := ha
  simp only [loadOp, RP.run] at h
  split at h
  ·rename_i hkey
   split at h
   ·rename_i v hv
    have e := run_ret h; subst e
    have hr := hm.view key hkey
    rw [hr] at hrel
    obtain ⟨q1, cs, q2, q3⟩ := readEl_sound hk hr hv hrel h0 hx
    exact ⟨rfl, load_run hT (hm.keeps.range q1 q2) q3⟩
   ·simp [RP.run] at h
  ·simp [RP.run] at h
 | pq key r x =>
  simp only [D] at ha
  obtain ⟨_, hr, hx, rfl⟩ := ha
  simp only [loadOp, RP.run] at h
  split at h
  ·rename_i k ms hk
   split at h
   ·rename_i k' hti
    split at h
    ·rename_i hkk
     have e := run_ret h; subst e
     have hkk := keq_eq hkk
     subst hkk
     have hlt : x < ((ms.getD r []).length : Int) := hp.1
     have hP := hm.pools.pool key k ms hk
     have hrl : r < ms.length := by rw [← hP.cnt]; exact hr
     have hrm : ms[r]? = some (ms.getD r []) := by rw [List.getD_eq_getElem?_getD, List.getElem?_eq_getElem hrl]; rfl
     obtain ⟨a1, a2, a3, a4⟩ := hP.rowk r _ hrm
     refine ⟨rfl, ?_⟩
     have hxl : x.toNat < (ms.getD r []).length := by omega
     have hzz : (ms.getD r []).getD x.toNat 0 = (ms.getD r [])[x.toNat] := by rw [List.getD_eq_getElem?_getD, List.getElem?_eq_getElem hxl]; rfl
     have hjc : x.toNat < ((ms.getD r []).map (Value.int k)).length := by simpa using hxl
     refine load_run hT a3 (dm := dmOf H) (ρ := ρ) (c := x.toNat) ⟨.int k ((ms.getD r []).getD x.toNat 0), ⟨rfl, by rw [hzz]; exact a1.at hxl⟩, ?_, ?_, ?_, fun _ => rfl⟩
     ·rw [hti]
      show [Value.int k _] = (((ms.getD r []).map (Value.int k)).drop x.toNat).take 1
      rw [drop_take_one hjc, List.getElem_map, hzz]
     ·rw [hti]; simp only [Ty.size]; omega
     ·rw [hti]; intro hr'; cases hr'
    ·simp [RP.run] at h
   ·simp [RP.run] at h
  ·simp [RP.run] at h
 | _ => simp [loadOp, RP.run] at h

mutual
theorem ofTy_size {dm : Nat → Prop} {ρ : Nat → Pl} : ∀ (t : Ty) (x : SV) (v : Value), ofTy t x = true → D dm ρ x v → v.cells.size = t.size
 | .arr n e, x, v, h, hv => by
  cases e with
  | int k =>
   cases x <;> simp only [ofTy, fits, Bool.false_eq_true] at h
   simp only [Bool.and_eq_true] at h
   have := Nat.eq_of_beq_eq_true h.2
   simp only [D] at hv
   rw [hv.2.2]
   simp only [Value.cells, List.size_toArray, List.length_map, Ty.size, Nat.mul_one]
   omega
  | _ => cases x <;> simp [ofTy, fits] at h
 | .struct fs, x, v, h, hv => by
  cases x <;> simp only [ofTy, fits, Bool.false_eq_true] at h
  rename_i xs
  simp only [D] at hv
  obtain ⟨cs, h1, rfl⟩ := hv
  have := ofTys_size fs xs cs h h1
  simpa [Value.cells, Ty.size] using this
 | .int k, x, v, h, hv => by cases x <;> simp [ofTy, fits] at h; rw [(single_cell (x := .i _ _) rfl hv).2]; rfl
 | .bool, x, v, h, hv => by cases x <;> simp [ofTy, fits] at h; rw [(single_cell (x := .b _ _) rfl hv).2]; rfl
 | .str, x, v, h, hv => by cases x <;> simp [ofTy, fits] at h; rw [(single_cell (x := .s _) rfl hv).2]; rfl
 | .ptr, x, v, h, hv => by
  cases x <;> simp [ofTy, fits] at h
  ·rw [(single_cell (x := .np) rfl hv).2]; rfl
  ·rw [(single_cell (x := .p _ _) rfl hv).2]; rfl
 | .slice, x, v, h, hv => by
  cases x <;> simp [ofTy, fits] at h
  ·rw [(single_cell (x := .nsl) rfl hv).2]; rfl
  ·rw [(single_cell (x := .sl _ _ _ _ _) rfl hv).2]; rfl
  ·rw [(single_cell (x := .ro _ _ _) rfl hv).2]; rfl
  ·rw [(single_cell (x := .ps _ _ _) rfl hv).2]; rfl
 | .func, x, v, h, hv => by cases x <;> simp [ofTy, fits] at h; rw [(single_cell (x := .fn _) rfl hv).2]; rfl
 | .iface, x, v, h, hv => by cases x <;> simp [ofTy, fits] at h
theorem ofTys_size {dm : Nat → Prop} {ρ : Nat → Pl} : ∀ (ts : List Ty) (xs : List SV) (cs : List Value), ofTys ts xs = true → Cs dm ρ xs cs → cs.length = Ty.sizes ts
 | [], xs, cs, h, hc => by
  cases xs <;> simp [ofTys] at h
  rw [show cs = [] from hc]; rfl
 | t :: ts, xs, cs, h, hc => by
  cases xs <;> simp only [ofTys, Bool.false_eq_true, Bool.and_eq_true] at h
  simp only [Cs] at hc
  obtain ⟨v, c, h1, rfl, h3⟩ := hc
  have e1 := ofTy_size t _ v h.1 h1
  have e2 := ofTys_size ts _ c h.2 h3
  simp [Ty.sizes, e1, e2]
end

theorem store_sound {T : TypeId} {ti : TInfo} (hT : RowOk P T ti) (hm : Mem w0 M ρ H w) {a x : SV} {va vx : Value} (ha : D (dmOf H) ρ a va) (hx : D (dmOf H) ρ x vx) (hty : ofTy ti.ty x = true) {d : Delta} {rs rs' : List Nat}
  (h : (storeOp a x).run H rs = some (d, rs')) (hp : AllP d.pre) : d.v = .any ∧ ∃ w', (Instr.storeAt T va vx).run P w = .ok () w' ∧ Mem w0 M ρ (updsH H d.ws) w' := by
 have hsz := ofTy_size ti.ty x vx hty hx
 cases a with
 | p key c =>
  simp only [D] at ha
  obtain ⟨_, rfl⟩ := ha
  simp only [storeOp, RP.run] at h
  split at h
  ·rename_i l hk
   split at h
   ·rename_i xs hxs
    split at h
    ·rename_i p l' hw
     have e := run_ret h; subst e
     obtain ⟨vs, h1, h2, h3, h4⟩ := hm.segs hk
     have hys := segsOf_D x xs vx hxs hx
     obtain ⟨a1, a2⟩ := writeSegs_sound xs l l' c p vs vx.cells.toList hw hp h1 hys
     have hle : c + vx.cells.toList.length ≤ vs.length ∨ vx.cells.toList = [] := by
      rcases a2 with a2 | rfl
      ·exact .inl a2
      ·exact .inr hys
     refine ⟨rfl, w.setCells (ρ key).blk ((ρ key).off + c) vx.cells.toList, ?_, ?_⟩
     ·refine store_run (by rw [hT.size, hsz]) (fun i hi => ?_) (fun u hu => hys.oneCell u hu)
      rcases hle with hle | hle
      ·have := h4 rfl (c + i) (by simp at hle; omega)
       rwa [← Nat.add_assoc] at this
      ·rw [← Array.length_toList, hle] at hi; simp at hi
     ·rcases hle with hle | hle
      ·exact hm.store hk h3 (by omega) (by omega) h2 rfl a1
      ·rw [hle, over_nil] at a1
       rw [hle]
       have := hm.store (nv := []) (o := 0) hk h3 (by omega) (by simp) h2 rfl (by simpa using a1)
       simp only [World.setCells] at this ⊢
       exact this
    ·simp [RP.run] at h
   ·simp [RP.run] at h
  ·simp [RP.run] at h
 | pd key c est z j =>
  simp only [D] at ha
  obtain ⟨_, hz, rfl⟩ := ha
  simp only [storeOp, RP.run] at h
  split at h
  ·rename_i l hk
   split at h
   ·rename_i g hg
    split at h
    ·rename_i p g' hw
     split at h
     ·rename_i l' hset
      have e := run_ret h; subst e
      obtain ⟨vs, h1, h2, h3, h4⟩ := hm.segs hk
      unfold segHead at hg
      split at hg
      ·rename_i g0 hs
       simp only [Option.some.injEq] at hg; subst hg
       obtain ⟨pre, cs, post, e1, e2, e3, e4, e5⟩ := segAt_D l c vs g0 0 h1 hs
       obtain ⟨a1, a2⟩ := writeDyn_sound hw hp e2 hx
       have a3 := e5 g' _ l' hset a1
       rw [← over_mid _ _ _ _ _ (by simpa using a2), ← e1, show pre.length + (est * z.toNat + j) = c + est * z.toNat + j by omega] at a3
       have hle : c + est * z.toNat + j + vx.cells.toList.length ≤ vs.length := by rw [e1]; simp; omega
       have hone : ∀ u ∈ vx.cells.toList, u.oneCell' = true := by
        cases x <;> simp only [writeDyn, reduceCtorEq] at hw
        case i => intro u hu; rw [(single_cell (x := .i _ _) rfl hx).2] at hu; simp at hu; rw [hu]; exact (single_cell (x := .i _ _) rfl hx).1
        case arr =>
         simp only [D] at hx
         intro u hu; rw [hx.2.2] at hu; simp [Value.cells] at hu; obtain ⟨q, _, rfl⟩ := hu; rfl
        case nsl => intro u hu; rw [(single_cell (x := .nsl) rfl hx).2] at hu; simp at hu; rw [hu]; exact (single_cell (x := .nsl) rfl hx).1
        all_goals (cases g0 <;> simp [writeDyn] at hw)
       refine ⟨rfl, w.setCells (ρ key).blk ((ρ key).off + (c + est * z.toNat + j)) vx.cells.toList, ?_, hm.store hk h3 (by omega) (by omega) h2 rfl a3⟩
       refine store_run (by rw [hT.size, hsz]) (fun i hi => ?_) hone
       have := h4 rfl (c + est * z.toNat + j + i) (by simp at hle; omega)
       rwa [← Nat.add_assoc] at this
      ·cases hg
     ·simp [RP.run] at h
    ·simp [RP.run] at h
   ·simp [RP.run] at h
  ·simp [RP.run] at h
 | pq key r z =>
  simp only [D] at ha
  obtain ⟨_, hr, hz, rfl⟩ := ha
  simp only [storeOp, RP.run] at h
  split at h
  ·rename_i k ms hk
   split at h
   ·rename_i k' c
    split at h
    ·rename_i hkk
     have e := run_ret h; subst e
     have hkk := keq_eq hkk
     subst hkk
     simp only [D] at hx
     obtain ⟨rfl, hcr⟩ := hx
     have hlt : z < ((ms.getD r []).length : Int) := hp.1
     have hP := hm.pools.pool key k ms hk
     have hrl : r < ms.length := by rw [← hP.cnt]; exact hr
     have hrm : ms[r]? = some (ms.getD r []) := by rw [List.getD_eq_getElem?_getD, List.getElem?_eq_getElem hrl]; rfl
     obtain ⟨a1, a2, a3, a4⟩ := hP.rowk r _ hrm
     have hxl : z.toNat < (ms.getD r []).length := by omega
     refine ⟨rfl, w.setCells ((ρ key).pb r) ((ρ key).po r + z.toNat) [.int k c.z], ?_, hm.pool_set hk hrm hxl hcr⟩
     refine store_run (by rw [hT.size, hsz]) (fun i hi => ?_) (fun u hu => by simp [Value.cells] at hu; rw [hu]; rfl)
     have := a4 (z.toNat + i) (by simp [Value.cells] at hi; omega)
     rwa [← Nat.add_assoc] at this
    ·simp [RP.run] at h
   ·simp [RP.run] at h
  ·simp [RP.run] at h
 | _ => simp [storeOp, RP.run] at h
end
end Go.Gx

/- New variables, addresses, parts. -/
namespace Go.Gx
open Go.RowKit
set_option linter.unusedVariables false

section
variable {P : Program} {w0 : World} {M : Nat → Prop} {ρ : Nat → Pl} {H : Nat → Option SB} {w : World}

theorem fresh_run {H : Nat → Option SB} {stamp : Nat} {l : List Seg} {v : SV} {pre : List Prop} {gen : Bool} {rs rs' : List Nat} {d : Delta} (h : (fresh stamp l v pre gen).run H rs = some (d, rs')) :
  H stamp = none ∧ d = ⟨pre, v, [(stamp, .segs false l)], gen⟩ := by
 simp only [fresh, RP.run] at h
 split at h
 ·rename_i e
  exact ⟨e, run_ret h⟩
 ·simp [RP.run] at h

theorem After.alloc (hm : Mem w0 M ρ H w) {stamp : Nat} (hn : H stamp = none) {l : List Seg} {vs : List Value} (hl : SegsD (dmOf H) ρ l vs) {cells : Array Value} {T : TypeId} {fr : Nat × Nat} {extra : List Value}
  (hc : cells.toList = vs ++ extra) (hfr : fr.1 = fr.2 ∨ cells.size ≤ fr.1) {d : Delta} (hd : d.ws = [(stamp, .segs false l)]) {v : Value}
  (hv : D (dmOf (updH H stamp (.segs false l))) (updP ρ stamp ({ blk := w.heap.size, off := 0, cap := cells.size } : Pl)) d.v v) : After w0 M ρ H d v (w.alloc (.cells cells T fr)) :=
 ⟨updP ρ stamp ({ blk := w.heap.size, off := 0, cap := cells.size } : Pl), updP_keeps hn, by rw [hd]; exact hv, by rw [hd]; exact hm.alloc hn hl hc hfr⟩

theorem dm_new (H : Nat → Option SB) (stamp : Nat) (b : SB) : dmOf (updH H stamp b) stamp := by unfold dmOf; rw [updH_same]; rfl

theorem box_sound (hm : Mem w0 M ρ H w) {stamp : Nat} {x : SV} {v : Value} (hx : D (dmOf H) ρ x v) {d : Delta} {rs rs' : List Nat} (h : (boxOp stamp x).run H rs = some (d, rs')) (T : TypeId) :
  After w0 M ρ H d (.pointer (some ⟨w.heap.size, 0, none⟩)) (w.alloc (.cells v.cells T)) := by
 unfold boxOp at h
 split at h
 ·rename_i l hl
  obtain ⟨hn, rfl⟩ := fresh_run h
  refine After.alloc hm hn (segsOf_D x l v hl hx) (extra := []) (by simp) (.inl rfl) rfl ?_
  exact ⟨dm_new _ _ _, by rw [updP_same]; rfl⟩
 ·simp [RP.run] at h

theorem alloc_run {T : TypeId} {ti : TInfo} (hT : RowOk P T ti) (w : World) : ∃ z, (Instr.alloc T true (.tuple #[])).run P w = .ok (.pointer (some ⟨w.heap.size, 0, none⟩)) (w.alloc (.cells z.cells T)) ∧
  ∀ (dm : Nat → Prop) (ρ : Nat → Pl), D dm ρ (zero ti.ty) z := by
 obtain ⟨i, z, h1, h2, h3, h4, h5⟩ := hT.info
 refine ⟨z, ?_, fun dm ρ => zeroB_D h5⟩
 simp [Instr.alloc, zeroValue, typeInfo, h1, h4, newVar, newRow]

theorem box_run (T : TypeId) (v : Value) (w : World) : (Instr.box T v).run P w = .ok (.pointer (some ⟨w.heap.size, 0, none⟩)) (w.alloc (.cells v.cells T)) := by
 simp [Instr.box, newVar, newRow]

/-! ### Addresses -/

theorem addr_add (p : Pl) (c n : Nat) : (at_ p c).add n = at_ p (c + n) := by
 unfold at_
 rw [Addr.add_mid, Nat.add_assoc]

theorem ptrAt_sound {dm : Nat → Prop} {key c est : Nat} {x : SI} {v : SV} (h : ptrAt key c est x = some v) (hk : dm key) (hx : 0 ≤ x.z) : D dm ρ v (.pointer (some (at_ (ρ key) (c + est * x.z.toNat)))) := by
 unfold ptrAt at h
 split at h
 ·simp only [Option.some.injEq] at h; subst h; exact ⟨hk, rfl⟩
 ·cases h
 ·simp only [Option.some.injEq] at h; subst h
  exact ⟨hk, hx, by simp⟩

theorem addI_z (x y : SI) : (addI x y).z = x.z + y.z := by
 unfold addI
 split
 ·simp [litI_eq]
 ·simp
 ·simp
 ·rfl

theorem subI_z (x y : SI) : (subI x y).z = x.z - y.z := by
 unfold subI
 split
 ·simp [litI_eq]
 ·simp
 ·rfl

theorem indexAddr_sound {T : TypeId} {ti : TInfo} {ty : List (Nat × TInfo)} (hT : RowOk P T ti) (hty : tabB P ty = true) {x i : SV} {vx vi : Value} (hx : D (dmOf H) ρ x vx) (hi : D (dmOf H) ρ i vi) {d : Delta} {rs rs' : List Nat}
  (h : (indexAddrOp ty ti x i).run H rs = some (d, rs')) (hp : AllP d.pre) : d.ws = [] ∧ ∃ v, (Instr.indexAt T vx vi).run P w = .ok v w ∧ D (dmOf H) ρ d.v v := by
 unfold indexAddrOp at h
 split at h
 ·rename_i key c k a n e ht
  simp only [D] at hx hi
  obtain ⟨hk, rfl⟩ := hx
  obtain ⟨rfl, ha⟩ := hi
  split at h
  ·rename_i p v hb hv
   have e' := run_ret h; subst e'
   obtain ⟨b1, b2⟩ := bound_ok hb hp
   refine ⟨rfl, _, ?_, ptrAt_sound hv hk b1⟩
   have hty' := hT.ty
   rw [ht] at hty'
   unfold tyB at hty'
   split at hty'
   ·rename_i n' T' hu
    simp only [Bool.and_eq_true] at hty'
    obtain ⟨⟨e1, e2⟩, e3⟩ := hty'
    have hn := Nat.eq_of_beq_eq_true e1
    split at e2
    ·rename_i ii hii
     have hs := Nat.eq_of_beq_eq_true e2
     have hlt : 0 ≤ a.z ∧ a.z < (n' : Int) := ⟨b1, by rw [← hn]; exact b2⟩
     simp [Instr.indexAt, asIntOf, run_underlying hu, Instr.sureAddr, sizeOf, typeInfo, hii, hs, hlt, addr_add, Nat.mul_comm]
    ·cases e2
   ·cases hty'
  ·simp [RP.run] at h
 ·rename_i key c est z j k a n e ht
  simp only [D] at hx hi
  obtain ⟨hk, hz, rfl⟩ := hx
  obtain ⟨rfl, ha⟩ := hi
  split at h
  ·rename_i p m hb
   have e' := run_ret h; subst e'
   obtain ⟨b1, b2⟩ := bound_ok hb hp
   simp only at b1 b2
   refine ⟨rfl, .pointer (some (at_ (ρ key) (c + est * z.toNat + (j + e.size * m)))), ?_, hk, hz, rfl⟩
   have hty' := hT.ty
   rw [ht] at hty'
   unfold tyB at hty'
   split at hty'
   ·rename_i n' T' hu
    simp only [Bool.and_eq_true] at hty'
    obtain ⟨⟨e1, e2⟩, e3⟩ := hty'
    have hn := Nat.eq_of_beq_eq_true e1
    split at e2
    ·rename_i ii hii
     have hs := Nat.eq_of_beq_eq_true e2
     have hlt : m < n' := by rw [← hn]; exact Int.ofNat_lt.1 b2
     simp [Instr.indexAt, asIntOf, run_underlying hu, Instr.sureAddr, sizeOf, typeInfo, hii, hs, hlt, addr_add, Nat.mul_comm, Nat.add_assoc]
    ·cases e2
   ·cases hty'
  ·simp [RP.run] at h
 ·rename_i key c est off len k a ht
  simp only [D] at hx hi
  obtain ⟨hk, ho, hl, _, ad, cap, rfl, hlc, hdis⟩ := hx
  obtain ⟨rfl, ha⟩ := hi
  split at h
  ·rename_i te hte
   split at h
   ·rename_i p v hest hb hv
    have e' := run_ret h; subst e'
    obtain ⟨b1, b2⟩ := bound_ok hb hp
    have hTe := rowB_ok (tabB_row hty hte)
    have hes := Nat.eq_of_beq_eq_true hest
    rcases hdis with ⟨rfl, hcap⟩ | ⟨h0, _⟩
    ·refine ⟨rfl, _, ?_, ptrAt_sound hv hk (by rw [addI_z]; omega)⟩
     have hty' := hT.ty
     rw [ht] at hty'
     unfold tyB at hty'
     split at hty'
     ·rename_i e hu
      have hee := hT.slice e hu
      subst hee
      have hlt : 0 ≤ a.z ∧ a.z < len.z := ⟨b1, b2⟩
      have hsz := hTe.sizeOf (w := w)
      have h3 : ∀ y, (sizeOf ti.elem).run P y = .ok est y := fun y => by rw [hTe.sizeOf, hes]
      have hmx : max len.z 0 = len.z := by omega
      simp [Instr.indexAt, asIntOf, run_underlying hu, h3, b1, addr_add, addI_z, hmx, b2]
      congr 1
      rw [Int.toNat_add ho b1, Nat.mul_add, Nat.mul_comm est a.z.toNat, Nat.add_assoc]
     ·cases hty'
    ·omega
   ·simp [RP.run] at h
  ·simp [RP.run] at h
 ·rename_i key r len k a ht
  simp only [D] at hx hi
  obtain ⟨hk, hrp, hl, _, ad, cap, rfl, hlc, hdis⟩ := hx
  obtain ⟨rfl, ha⟩ := hi
  split at h
  ·rename_i te hte
   split at h
   ·rename_i p hest hb
    have e' := run_ret h; subst e'
    obtain ⟨b1, b2⟩ := bound_ok hb hp
    have hTe := rowB_ok (tabB_row hty hte)
    have hes := Nat.eq_of_beq_eq_true hest
    rcases hdis with ⟨rfl, hcap⟩ | ⟨h0, _⟩
    ·refine ⟨rfl, .pointer (some ⟨(ρ key).pb r, (ρ key).po r + a.z.toNat, none⟩), ?_, hk, hrp, b1, rfl⟩
     have hty' := hT.ty
     rw [ht] at hty'
     unfold tyB at hty'
     split at hty'
     ·rename_i e hu
      have hee := hT.slice e hu
      subst hee
      have hlt : 0 ≤ a.z ∧ a.z < len.z := ⟨b1, b2⟩
      have h3 : ∀ y, (sizeOf ti.elem).run P y = .ok 1 y := fun y => by rw [hTe.sizeOf, hes]
      have hmx : max len.z 0 = len.z := by omega
      have hadd : ∀ n, (⟨(ρ key).pb r, (ρ key).po r, none⟩ : Addr).add n = ⟨(ρ key).pb r, (ρ key).po r + n, none⟩ := fun n => by by_cases h : n = 0 <;> simp [Addr.add, h]
      simp [Instr.indexAt, asIntOf, run_underlying hu, h3, b1, hadd, hmx, b2]
     ·cases hty'
    ·omega
   ·simp [RP.run] at h
  ·simp [RP.run] at h
 ·rename_i key r jk len k a ht
  simp only [D] at hx hi
  obtain ⟨hk, hkj, hrp, hl, _, ad, cap, rfl, hlc, hdis⟩ := hx
  obtain ⟨rfl, ha⟩ := hi
  split at h
  ·rename_i te hte
   split at h
   ·rename_i p hest hb
    have e' := run_ret h; subst e'
    obtain ⟨b1, b2⟩ := bound_ok hb hp
    have hTe := rowB_ok (tabB_row hty hte)
    have hes := Nat.eq_of_beq_eq_true hest
    have hty' := hT.ty
    rw [ht] at hty'
    unfold tyB at hty'
    split at hty'
    ·rename_i e hu
     have hee := hT.slice e hu
     subst hee
     have h3 : ∀ y, (sizeOf ti.elem).run P y = .ok 1 y := fun y => by rw [hTe.sizeOf, hes]
     have hmx : max len.z 0 = len.z := by omega
     have hadd : ∀ (b o n : Nat), (⟨b, o, none⟩ : Addr).add n = ⟨b, o + n, none⟩ := fun b o n => by by_cases h : n = 0 <;> simp [Addr.add, h]
     have run : ∀ b o : Nat, (Instr.indexAt T (.slice (some ⟨b, o, none⟩) len.z.toNat cap) (.int k a.z)).run P w = .ok (.pointer (some ⟨b, o + a.z.toNat, none⟩)) w := fun b o => by
      simp [Instr.indexAt, asIntOf, run_underlying hu, h3, b1, hadd, hmx, b2]
     rcases hdis with ⟨rfl, hcap⟩ | ⟨rfl, hcap⟩ | ⟨h0, _⟩
     ·exact ⟨rfl, _, run _ _, hk, hkj, hrp, b1, .inl ⟨rfl, by omega⟩⟩
     ·refine ⟨rfl, _, run _ _, hk, hkj, hrp, b1, .inr ⟨?_, by omega⟩⟩
      simp [at_]
     ·omega
    ·cases hty'
   ·simp [RP.run] at h
  ·simp [RP.run] at h
 ·rename_i key est jk len k a ht
  simp only [D] at hx hi
  obtain ⟨hk, hkj, hl, _, ad, cap, rfl, hlc, hdis⟩ := hx
  obtain ⟨rfl, ha⟩ := hi
  split at h
  ·rename_i te hte
   split at h
   ·rename_i p hest hb
    have e' := run_ret h; subst e'
    obtain ⟨b1, b2⟩ := bound_ok hb hp
    have hTe := rowB_ok (tabB_row hty hte)
    have hes := Nat.eq_of_beq_eq_true hest
    have hty' := hT.ty
    rw [ht] at hty'
    unfold tyB at hty'
    split at hty'
    ·rename_i e hu
     have hee := hT.slice e hu
     subst hee
     have h3 : ∀ y, (sizeOf ti.elem).run P y = .ok est y := fun y => by rw [hTe.sizeOf, hes]
     have hmx : max len.z 0 = len.z := by omega
     have hadd : ∀ (b o n : Nat), (⟨b, o, none⟩ : Addr).add n = ⟨b, o + n, none⟩ := fun b o n => by by_cases h : n = 0 <;> simp [Addr.add, h]
     have run : ∀ b o : Nat, (Instr.indexAt T (.slice (some ⟨b, o, none⟩) len.z.toNat cap) (.int k a.z)).run P w = .ok (.pointer (some ⟨b, o + est * a.z.toNat, none⟩)) w := fun b o => by
      simp [Instr.indexAt, asIntOf, run_underlying hu, h3, b1, hadd, hmx, b2, Nat.mul_comm]
     have hle : est * a.z.toNat + est ≤ est * cap := by
      rw [← Nat.mul_succ]
      exact Nat.mul_le_mul_left _ (by omega)
     rcases hdis with ⟨rfl, hcap⟩ | ⟨rfl, hcap⟩ | ⟨h0, _⟩
     ·refine ⟨rfl, _, run _ _, hk, hkj, b1, .inl ⟨?_, by omega⟩⟩
      simp [at_]
     ·refine ⟨rfl, _, run _ _, hk, hkj, b1, .inr ⟨?_, by omega⟩⟩
      simp [at_]
     ·omega
    ·cases hty'
   ·simp [RP.run] at h
  ·simp [RP.run] at h
 ·rename_i key sh dd k a ht
  simp only [D] at hx hi
  obtain ⟨hk, hrel, hF, ad, cap, rfl, hlc, hl63, hdis⟩ := hx
  obtain ⟨rfl, ha⟩ := hi
  split at h
  ·rename_i te hte
   split at h
   ·rename_i hest
    have e' := run_ret h; subst e'
    obtain ⟨b1, b2⟩ := hp.1
    have hTe := rowB_ok (tabB_row hty hte)
    have hes := Nat.eq_of_beq_eq_true hest
    rcases hdis with ⟨b, o, rfl⟩ | ⟨h0, _⟩
    ·refine ⟨rfl, .pointer (some ⟨b, o + (shEl sh * a.z.toNat + 0), none⟩), ?_, hk, b1, b2, b, o, _, _, hrel, rfl⟩
     have hty' := hT.ty
     rw [ht] at hty'
     unfold tyB at hty'
     split at hty'
     ·rename_i e hu
      have hee := hT.slice e hu
      subst hee
      have hlt : 0 ≤ a.z ∧ a.z < (roLen sh dd : Int) := ⟨b1, b2⟩
      have h3 : ∀ y, (sizeOf ti.elem).run P y = .ok (shEl sh) y := fun y => by rw [hTe.sizeOf, hes]
      have hadd : ∀ n, (⟨b, o, none⟩ : Addr).add n = ⟨b, o + n, none⟩ := fun n => by by_cases h : n = 0 <;> simp [Addr.add, h]
      simp [Instr.indexAt, asIntOf, run_underlying hu, h3, b1, b2, hadd, Nat.mul_comm]
     ·cases hty'
    ·omega
   ·simp [RP.run] at h
  ·simp [RP.run] at h
 ·rename_i key sh dd xx j k a n e ht
  simp only [D] at hx hi
  obtain ⟨hk, h0, hlt0, b, o, n0, cap, hrel, rfl⟩ := hx
  obtain ⟨rfl, ha⟩ := hi
  split at h
  ·rename_i p m hb
   have e' := run_ret h; subst e'
   obtain ⟨b1, b2⟩ := bound_ok hb hp
   simp only at b1 b2
   refine ⟨rfl, .pointer (some ⟨b, o + (shEl sh * xx.toNat + (j + e.size * m)), none⟩), ?_, hk, h0, hlt0, b, o, n0, cap, hrel, rfl⟩
   have hty' := hT.ty
   rw [ht] at hty'
   unfold tyB at hty'
   split at hty'
   ·rename_i n' T' hu
    simp only [Bool.and_eq_true] at hty'
    obtain ⟨⟨e1, e2⟩, e3⟩ := hty'
    have hn := Nat.eq_of_beq_eq_true e1
    split at e2
    ·rename_i ii hii
     have hs := Nat.eq_of_beq_eq_true e2
     have hlt : m < n' := by rw [← hn]; exact Int.ofNat_lt.1 b2
     have hadd : ∀ m n, (⟨b, m, none⟩ : Addr).add n = ⟨b, m + n, none⟩ := fun m n => by by_cases h : n = 0 <;> simp [Addr.add, h]
     simp [Instr.indexAt, asIntOf, run_underlying hu, Instr.sureAddr, sizeOf, typeInfo, hii, hs, hlt, hadd, Nat.mul_comm, Nat.add_assoc]
    ·cases e2
   ·cases hty'
  ·simp [RP.run] at h
 ·simp [RP.run] at h

theorem fieldAddr_sound {T : TypeId} {ti : TInfo} (hT : RowOk P T ti) {x : SV} {vx : Value} (hx : D (dmOf H) ρ x vx) {f : Nat} {d : Delta} {rs rs' : List Nat}
  (h : (fieldAddrOp ti x f).run H rs = some (d, rs')) : d.ws = [] ∧ ∃ v, (Instr.fieldAt T vx f).run P w = .ok v w ∧ D (dmOf H) ρ d.v v := by
 have key : ∀ (fs : List Ty) (fl : List Field) (off f : Nat), fieldsB P fs off fl = true → f < fs.length → ∃ g i, fl[f]? = some g ∧ g.offset = off + fieldOff fs f ∧ P.info? g.type = some i ∧ i.size ≠ 0 := by
  intro fs
  induction fs with
  | nil => intro fl off f _ hf; simp at hf
  | cons t r ih =>
   intro fl off f hB hf
   cases fl with
   | nil => simp [fieldsB] at hB
   | cons g gr =>
    simp only [fieldsB, Bool.and_eq_true] at hB
    obtain ⟨⟨⟨h1, h2⟩, h3⟩, h4⟩ := hB
    cases f with
    | zero =>
     split at h2
     ·rename_i i hi
      simp only [Bool.and_eq_true] at h2
      refine ⟨g, i, rfl, by simp [fieldOff, Nat.eq_of_beq_eq_true h1], hi, ?_⟩
      have e1 := Nat.eq_of_beq_eq_true h2.1
      have e2 := h2.2
      simp [Nat.blt] at e2; omega
     ·cases h2
    | succ f =>
     obtain ⟨g', i, a1, a2, a3, a4⟩ := ih gr (off + t.size) f h4 (by simpa using hf)
     exact ⟨g', i, by simpa using a1, by rw [a2]; simp [fieldOff]; omega, a3, a4⟩
 unfold fieldAddrOp at h
 split at h
 ·rename_i k c fs ht
  simp only [D] at hx
  obtain ⟨hk, rfl⟩ := hx
  split at h
  ·rename_i hlt
   have e := run_ret h; subst e
   have hf : f < fs.length := by simp [Nat.blt] at hlt; omega
   have hty' := hT.ty
   rw [ht] at hty'
   unfold tyB at hty'
   split at hty'
   ·rename_i fl hu
    obtain ⟨g, i, a1, a2, a3, a4⟩ := key fs fl.toList 0 f hty' hf
    have a1' : fl[f]? = some g := by rw [← Array.getElem?_toList]; exact a1
    refine ⟨rfl, .pointer (some (at_ (ρ k) (c + fieldOff fs f))), ?_, hk, rfl⟩
    simp [Instr.fieldAt, run_underlying hu, a1', Instr.sureAddr, fieldPlace, sizeOf, typeInfo, a3, a4, a2, addr_add]
   ·cases hty'
  ·simp [RP.run] at h
 ·rename_i k sh dd xx j fs ht
  simp only [D] at hx
  obtain ⟨hk, h0, hlt0, b, o, n, cap, hrel, rfl⟩ := hx
  split at h
  ·rename_i hlt
   have e := run_ret h; subst e
   have hf : f < fs.length := by simp [Nat.blt] at hlt; omega
   have hty' := hT.ty
   rw [ht] at hty'
   unfold tyB at hty'
   split at hty'
   ·rename_i fl hu
    obtain ⟨g, i, a1, a2, a3, a4⟩ := key fs fl.toList 0 f hty' hf
    have a1' : fl[f]? = some g := by rw [← Array.getElem?_toList]; exact a1
    have hadd : ∀ m n, (⟨b, m, none⟩ : Addr).add n = ⟨b, m + n, none⟩ := fun m n => by by_cases h : n = 0 <;> simp [Addr.add, h]
    refine ⟨rfl, .pointer (some ⟨b, o + (shEl sh * xx.toNat + (j + fieldOff fs f)), none⟩), ?_, hk, h0, hlt0, b, o, n, cap, hrel, rfl⟩
    simp [Instr.fieldAt, run_underlying hu, a1', Instr.sureAddr, fieldPlace, sizeOf, typeInfo, a3, a4, a2, hadd, Nat.add_assoc]
   ·cases hty'
  ·simp [RP.run] at h
 ·rename_i k r xx fs ht
  simp only [D] at hx
  obtain ⟨hk, hr, h0, rfl⟩ := hx
  split at h
  ·rename_i hlt
   have e := run_ret h; subst e
   simp only [Bool.and_eq_true] at hlt
   have hf : f < fs.length := by have := hlt.1; simp [Nat.blt] at this; omega
   have hz := Nat.eq_of_beq_eq_true hlt.2
   have hty' := hT.ty
   rw [ht] at hty'
   unfold tyB at hty'
   split at hty'
   ·rename_i fl hu
    obtain ⟨g, i, a1, a2, a3, a4⟩ := key fs fl.toList 0 f hty' hf
    have a1' : fl[f]? = some g := by rw [← Array.getElem?_toList]; exact a1
    rw [hz] at a2
    refine ⟨rfl, _, ?_, hk, hr, h0, rfl⟩
    simp [Instr.fieldAt, run_underlying hu, a1', Instr.sureAddr, fieldPlace, sizeOf, typeInfo, a3, a4, a2, Addr.add]
   ·cases hty'
  ·simp [RP.run] at h
 ·simp [RP.run] at h

theorem boxLoad_sound {T : TypeId} {ti : TInfo} (hT : RowOk P T ti) (hm : Mem w0 M ρ H w) {stamp : Nat} {a : SV} {va : Value} (ha : D (dmOf H) ρ a va) {d : Delta} {rs rs' : List Nat}
  (h : (boxLoad stamp ti a).run H rs = some (d, rs')) (hp : AllP d.pre) : ∃ v w', (Instr.loadAt T va).run P w = .ok v w' ∧ After w0 M ρ H d v w' := by
 obtain ⟨h1, v, h2, h3⟩ := load_sound hT hm ha h hp
 exact ⟨v, w, h2, ρ, .refl _ _, by rw [h1]; exact h3, by rw [h1]; exact hm⟩
end
end Go.Gx

/- Parts by value, slices, literals, make, conversions of numbers. -/
namespace Go.Gx
open Go.RowKit
set_option linter.unusedVariables false

section
variable {P : Program} {w0 : World} {M : Nat → Prop} {ρ : Nat → Pl} {H : Nat → Option SB} {w : World}

theorem isAgg_run {P : Program} {T : TypeId} {d : TypeDesc} (h : P.underlying T = some d) (w : World) : (isAgg T).run P w = .ok d.isRow w := by
 unfold isAgg
 rw [Sem.run_bind, run_underlying h w]
 cases d <;> rfl

theorem index_sound {T : TypeId} {ti : TInfo} (hT : RowOk P T ti) {x i : SV} {vx vi : Value} (hx : D (dmOf H) ρ x vx) (hi : D (dmOf H) ρ i vi) {d : Delta} {rs rs' : List Nat}
  (h : (indexOp ti x i).run H rs = some (d, rs')) (hp : AllP d.pre) : d.ws = [] ∧ ∃ v, (Instr.index T vx vi).run P w = .ok v w ∧ D (dmOf H) ρ d.v v := by
 unfold indexOp at h
 split at h
 ·rename_i k m ex l k' a n k2 ht
  simp only [D] at hx hi
  obtain ⟨h1, h2, rfl⟩ := hx
  obtain ⟨rfl, ha⟩ := hi
  split at h
  ·rename_i p hnm hb
   have hnm' := Nat.eq_of_beq_eq_true hnm
   have hty' := hT.ty
   rw [ht] at hty'
   unfold tyB at hty'
   split at hty'
   ·rename_i n' T' hu
    simp only [Bool.and_eq_true] at hty'
    obtain ⟨⟨e1, e2⟩, e3⟩ := hty'
    have hn := Nat.eq_of_beq_eq_true e1
    split at e2
    ·rename_i ii hii
     have hs : ii.size = 1 := Nat.eq_of_beq_eq_true e2
     obtain ⟨dd, hdd, hrow⟩ := tyB_row e3
     have hagg : (isAgg T').run P w = .ok false w := by rw [isAgg_run hdd w, hrow]; rfl
     have main : ∀ z : Int, 0 ≤ z → z < (n : Int) → (Instr.index T (.agg (l.map (Value.int k)).toArray) (.int k' z)).run P w = .ok (.int k (l.getD z.toNat 0)) w := fun z h0 h3 => by
      have hz : z.toNat < l.length := by omega
      have hlt : 0 ≤ z ∧ z < (n' : Int) := ⟨h0, by omega⟩
      simp [Instr.index, asIntOf, run_underlying hu, hlt, sizeOf, typeInfo, hii, hs, part, hagg, hz, List.getD]
     have hin : ∀ z : Int, 0 ≤ z → z < (n : Int) → InR k (l.getD z.toNat 0) := fun z h0 h3 => by
      have hz : z.toNat < l.length := by omega
      have : l.getD z.toNat 0 = l[z.toNat] := by simp [List.getD, hz]
      rw [this]; exact h2.at hz
     split at h
     ·rename_i j
      split at h
      ·rename_i z hz
       have e := run_ret h; subst e
       obtain ⟨b1, b2⟩ := bound_ok hb hp
       simp only at b1 b2
       have hj : j < l.length := by have : (j : Int) < (n : Int) := b2; omega
       have hzz := getI_some hz hj
       refine ⟨rfl, _, main _ b1 b2, ?_⟩
       have : l.getD (Int.toNat (Int.ofNat j)) 0 = z := by simp [List.getD, hj, hzz]
       rw [this]
       exact ⟨rfl, by rw [hzz]; exact h2.at hj⟩
      ·simp [RP.run] at h
     ·simp [RP.run] at h
     ·rename_i z
      have e := run_ret h; subst e
      obtain ⟨b1, b2⟩ := bound_ok hb hp
      exact ⟨rfl, _, main z b1 b2, rfl, hin z b1 b2⟩
    ·cases e2
   ·cases hty'
  ·simp [RP.run] at h
 ·rename_i v k a ht
  simp only [D] at hx hi
  obtain ⟨rfl, _⟩ := hx
  obtain ⟨rfl, ha⟩ := hi
  have e := run_ret h; subst e
  obtain ⟨b1, b2⟩ := hp.1
  have hty' := hT.ty
  rw [ht] at hty'
  unfold tyB at hty'
  split at hty'
  ·rename_i hu
   have hz : a.z.toNat < v.size := by omega
   have hz' : a.z.toNat < v.data.size := hz
   have hget : v[a.z.toNat]? = some (v.data[a.z.toNat]) := by
    rw [getElem?_pos v a.z.toNat hz]; rfl
   refine ⟨rfl, .int .u8 (v.data[a.z.toNat].toNat), ?_, ?_, ?_⟩
   ·simp [Instr.index, asIntOf, run_underlying hu, b1, hget]
   ·have : v.data.getD a.z.toNat 0 = v.data[a.z.toNat] := by unfold Array.getD; exact dif_pos hz'
    rw [this]
   ·have := UInt8.toNat_lt (v.data.getD a.z.toNat 0)
    show 0 ≤ ((v.data.getD a.z.toNat 0).toNat : Int) ∧ ((v.data.getD a.z.toNat 0).toNat : Int) < 256
    omega
  ·cases hty'
 ·simp [RP.run] at h

theorem extract_sound {x v : SV} {vx : Value} {n : Nat} {xs : List SV} (hx : D (dmOf H) ρ (.tup xs) vx) (hn : nth xs n = some v) : ∃ u, (Instr.extract vx n).run P w = .ok u w ∧ D (dmOf H) ρ v u := by
 simp only [D] at hx
 obtain ⟨vs, h1, rfl⟩ := hx
 have key : ∀ (xs : List SV) (vs : List Value) (n : Nat), Ds (dmOf H) ρ xs vs → nth xs n = some v → ∃ u, vs[n]? = some u ∧ D (dmOf H) ρ v u := by
  intro xs
  induction xs with
  | nil => intro vs n _ h; simp [nth] at h
  | cons y r ih =>
   intro vs n hd h
   simp only [Ds] at hd
   obtain ⟨u, c, a1, rfl, a3⟩ := hd
   cases n with
   | zero => simp only [nth, Option.some.injEq] at h; subst h; exact ⟨u, rfl, a1⟩
   | succ n =>
    simp only [nth] at h
    obtain ⟨u', b1, b2⟩ := ih c n a3 h
    exact ⟨u', by simpa using b1, b2⟩
 obtain ⟨u, h2, h3⟩ := key xs vs n h1 hn
 exact ⟨u, by simp [Instr.extract, h2], h3⟩

theorem len_sound {T : TypeId} {ti : TInfo} (hT : RowOk P T ti) {x : SV} {vx : Value} (hx : D (dmOf H) ρ x vx) {d : Delta} {rs rs' : List Nat}
  (h : (lenOp ti x).run H rs = some (d, rs')) (ty : TypeId) (ats : Array TypeId) (ha : ats[0]? = some T) : d.ws = [] ∧ ∃ v, (Builtin.len_ ats ty #[vx]).run P w = .ok v w ∧ D (dmOf H) ρ d.v v := by
 unfold lenOp at h
 split at h
 ·rename_i a hl
  have e := run_ret h; subst e
  have hty' := hT.ty
  unfold lenOf at hl
  split at hl
  ·rename_i len ht
   simp only [Option.some.injEq] at hl; subst hl
   simp only [D] at hx
   obtain ⟨_, _, h2, h3, ad, cap, rfl, _⟩ := hx
   rw [ht] at hty'
   unfold tyB at hty'
   split at hty'
   ·rename_i e hu
    refine ⟨rfl, .int .i64 len.z, ?_, rfl, h3⟩
    have : max len.z 0 = len.z := by omega
    simp [Builtin.len_, ha, run_underlying hu, goInt, this]
   ·cases hty'
  ·rename_i ht
   simp only [Option.some.injEq] at hl; subst hl
   simp only [D] at hx
   subst hx
   rw [ht] at hty'
   unfold tyB at hty'
   split at hty'
   ·rename_i e hu
    exact ⟨rfl, .int .i64 0, by simp [Builtin.len_, ha, run_underlying hu, goInt], rfl, by simp [InR]⟩
   ·cases hty'
  ·rename_i _ sh dd ht
   simp only [Option.some.injEq] at hl; subst hl
   simp only [D] at hx
   obtain ⟨_, _, _, ad, cap, rfl, _, h3, _⟩ := hx
   rw [ht] at hty'
   unfold tyB at hty'
   split at hty'
   ·rename_i e hu
    exact ⟨rfl, .int .i64 (roLen sh dd : Int), by simp [Builtin.len_, ha, run_underlying hu, goInt], rfl, by simp only [InR]; omega⟩
   ·cases hty'
  ·rename_i _ _ len ht
   simp only [Option.some.injEq] at hl; subst hl
   simp only [D] at hx
   obtain ⟨_, _, h2, h3, ad, cap, rfl, _⟩ := hx
   rw [ht] at hty'
   unfold tyB at hty'
   split at hty'
   ·rename_i e hu
    refine ⟨rfl, .int .i64 len.z, ?_, rfl, h3⟩
    have : max len.z 0 = len.z := by omega
    simp [Builtin.len_, ha, run_underlying hu, goInt, this]
   ·cases hty'
  ·rename_i _ _ _ len ht
   simp only [Option.some.injEq] at hl; subst hl
   simp only [D] at hx
   obtain ⟨_, _, _, h2, h3, ad, cap, rfl, _⟩ := hx
   rw [ht] at hty'
   unfold tyB at hty'
   split at hty'
   ·rename_i e hu
    refine ⟨rfl, .int .i64 len.z, ?_, rfl, h3⟩
    have : max len.z 0 = len.z := by omega
    simp [Builtin.len_, ha, run_underlying hu, goInt, this]
   ·cases hty'
  ·rename_i _ _ _ len ht
   simp only [Option.some.injEq] at hl; subst hl
   simp only [D] at hx
   obtain ⟨_, _, h2, h3, ad, cap, rfl, _⟩ := hx
   rw [ht] at hty'
   unfold tyB at hty'
   split at hty'
   ·rename_i e hu
    refine ⟨rfl, .int .i64 len.z, ?_, rfl, h3⟩
    have : max len.z 0 = len.z := by omega
    simp [Builtin.len_, ha, run_underlying hu, goInt, this]
   ·cases hty'
  ·rename_i v ht
   simp only [Option.some.injEq] at hl; subst hl
   simp only [D] at hx
   obtain ⟨rfl, hb⟩ := hx
   rw [ht] at hty'
   unfold tyB at hty'
   split at hty'
   ·rename_i hu
    exact ⟨rfl, .int .i64 v.size, by simp [Builtin.len_, ha, run_underlying hu, goInt], rfl, by simp only [InR]; omega⟩
   ·cases hty'
  ·rename_i n e ht
   split at hl
   ·rename_i hn
    simp only [Option.some.injEq] at hl; subst hl
    rw [ht] at hty'
    unfold tyB at hty'
    split at hty'
    ·rename_i n' T' hu
     simp only [Bool.and_eq_true] at hty'
     have hnn := Nat.eq_of_beq_eq_true hty'.1.1
     have hlt := Nat.le_of_ble_eq_true hn
     refine ⟨rfl, .int .i64 n, ?_, rfl, by simp only [InR]; omega⟩
     have hval : (Builtin.len_ ats ty #[vx]).run P w = .ok (goInt n') w := by
      cases vx <;> simp [Builtin.len_, ha, run_underlying hu]
     rw [hval, ← hnn]; rfl
    ·cases hty'
   ·cases hl
  ·cases hl
 ·simp [RP.run] at h

theorem sliceBounds_run {P : Program} {w : World} (b : Bool) (len cap : Nat) (l h : SI) (lo hi : Option Value) (hl : (lo = none ∧ l.z = 0) ∨ ∃ k, lo = some (.int k l.z)) (hh : (hi = none ∧ h.z = len) ∨ ∃ k, hi = some (.int k h.z))
  (h0 : 0 ≤ l.z) (h1 : l.z ≤ h.z) (h2 : h.z ≤ cap) : (Instr.sliceBounds b len cap lo hi none).run P w = .ok (l.z.toNat, h.z.toNat, cap) w := by
 have hb : ∀ (k : IntKind) (z : Int) (y : Nat) (c : BoundsCode), 0 ≤ z → z ≤ y → (Instr.sliceBound (.int k z) y c).run P w = .ok z.toNat w := fun k z y c a1 a2 => by
  simp [Instr.sliceBound, asIntOf, a1, a2]
 have e1 : l.z ≤ ((h.z.toNat : Nat) : Int) := by omega
 unfold Instr.sliceBounds
 rcases hl with ⟨rfl, e⟩ | ⟨k, rfl⟩ <;> rcases hh with ⟨rfl, e'⟩ | ⟨k', rfl⟩
 ·simp [e, e']
 ·simp [e, hb k' h.z cap _ (by omega) h2]
 ·have := hb k l.z len .sliceB h0 (by omega)
  simp [e', this]
 ·simp [hb k' h.z cap _ (by omega) h2, hb k l.z h.z.toNat .sliceB h0 e1]

end
end Go.Gx

/- Slices, parts of structs, literals, make. -/
namespace Go.Gx
open Go.RowKit
set_option linter.unusedVariables false

section
variable {P : Program} {w0 : World} {M : Nat → Prop} {ρ : Nat → Pl} {H : Nat → Option SB} {w : World}

def OptD (dm : Nat → Prop) (ρ : Nat → Pl) (x : Option SV) (v : Option Value) : Prop :=
 (x = none ∧ v = none) ∨ ∃ y u, x = some y ∧ v = some u ∧ D dm ρ y u

theorem optI_sound {dm : Nat → Prop} {d a : SI} {x : Option SV} {v : Option Value} (h : optI d x = some a) (hx : OptD dm ρ x v) : (v = none ∧ a = d) ∨ ∃ k, v = some (.int k a.z) := by
 rcases hx with ⟨rfl, rfl⟩ | ⟨y, u, rfl, rfl, hd⟩
 ·simp only [optI, Option.some.injEq] at h; exact .inl ⟨rfl, h.symm⟩
 ·cases y <;> simp only [optI, Option.some.injEq, reduceCtorEq] at h
  subst h
  simp only [D] at hd
  exact .inr ⟨_, by rw [hd.1]⟩

theorem AllR.drop_take_ {k : IntKind} {l : List Int} (h : AllR k l) (a b : Nat) : AllR k ((l.drop a).take b) := fun z hz => h z (List.mem_of_mem_drop (List.mem_of_mem_take hz))

theorem ChainR.drop {R : RO → Value → Prop} {n : Nat} (hn : ∀ d v, R d v → v.cells.toList.length = n) : ∀ (a : Nat) (xs : List RO) (cs : List Value), ChainR R xs cs → ChainR R (xs.drop a) (cs.drop (n * a))
 | 0, xs, cs, h => by simpa using h
 | a + 1, [], cs, h => by rw [show cs = [] from h]; simp; rfl
 | a + 1, x :: r, cs, h => by
  obtain ⟨v, c, h1, rfl, h3⟩ := h
  have ih := ChainR.drop hn a r c h3
  have hl := hn x v h1
  have e : (v.cells.toList ++ c).drop (n * (a + 1)) = c.drop (n * a) := by
   rw [Nat.mul_add, Nat.mul_one, List.drop_append, List.drop_eq_nil_of_le (as := v.cells.toList) (by omega), List.nil_append, hl, Nat.add_sub_cancel]
  rw [List.drop_succ_cons, e]
  exact ih
theorem ChainR.take {R : RO → Value → Prop} {n : Nat} (hn : ∀ d v, R d v → v.cells.toList.length = n) : ∀ (a : Nat) (xs : List RO) (cs : List Value), ChainR R xs cs → ChainR R (xs.take a) (cs.take (n * a))
 | 0, xs, cs, h => by simp; rfl
 | a + 1, [], cs, h => by rw [show cs = [] from h]; simp; rfl
 | a + 1, x :: r, cs, h => by
  obtain ⟨v, c, h1, rfl, h3⟩ := h
  have ih := ChainR.take hn a r c h3
  have hl := hn x v h1
  have e : (v.cells.toList ++ c).take (n * (a + 1)) = v.cells.toList ++ c.take (n * a) := by
   rw [Nat.mul_add, Nat.mul_one, List.take_append, List.take_of_length_le (l := v.cells.toList) (by omega), hl, Nat.add_sub_cancel]
  rw [List.take_succ_cons, e]
  exact ⟨v, _, h1, rfl, ih⟩

theorem RoD_sub {w : World} {Out : Nat → Prop} {sh : Sh} {d : RO} {ad : Option Addr} {n cap : Nat} (h : RoD w Out sh d (.slice ad n cap)) (hn : n = roLen sh d) {a z : Nat} (h1 : a + z ≤ n) :
  roLen sh (roSub sh d a z) = z ∧ ∀ ad', (a < cap → ad' = ad.map (·.add (a * shEl sh))) → RoD w Out sh (roSub sh d a z) (.slice ad' z (cap - a)) := by
 have hadd : ∀ (b o m : Nat), (⟨b, o, none⟩ : Addr).add m = ⟨b, o + m, none⟩ := fun b o m => by by_cases h : m = 0 <;> simp [Addr.add, h]
 cases sh with
 | ints k =>
  simp only [RoD] at h
  obtain ⟨a0, cap', q1, q2, q3, q4, q5⟩ := h
  simp only [Value.slice.injEq] at q1
  obtain ⟨rfl, rfl, rfl⟩ := q1
  have hz : (((roL d).drop a).take z).length = z := by rw [List.length_take, List.length_drop]; omega
  refine ⟨hz, fun ad' had => ?_⟩
  have er : ∀ x, roL (.l x) = x := fun x => rfl
  simp only [RoD, roSub, er]
  refine ⟨ad', cap - a, by rw [hz], by rw [hz]; omega, by rw [hz]; omega, q4.drop_take_ _ _, ?_⟩
  rcases q5 with ⟨b, o, rfl, r1, r2⟩ | ⟨r1, r2⟩
  ·by_cases hc : a < cap
   ·left
    refine ⟨b, o + a, by rw [had hc]; simp [shEl, hadd], r1, ?_⟩
    have := rangeAt_part r2 a z
    rw [← List.map_drop, ← List.map_take] at this
    exact this
   ·exact .inr ⟨by rw [hz]; omega, by omega⟩
  ·exact .inr ⟨by rw [hz]; omega, by omega⟩
 | l e =>
  simp only [RoD] at h
  obtain ⟨a0, cap', cs, q1, q2, q3, q4, q5⟩ := h
  simp only [Value.slice.injEq] at q1
  obtain ⟨rfl, rfl, rfl⟩ := q1
  have hz : (((roX d).drop a).take z).length = z := by rw [List.length_take, List.length_drop]; omega
  refine ⟨hz, fun ad' had => ?_⟩
  have er : ∀ x, roX (.r x) = x := fun x => rfl
  simp only [RoD, roSub, er]
  refine ⟨ad', cap - a, (cs.drop (shSize e * a)).take (shSize e * z), by rw [hz], by rw [hz]; omega, by rw [hz]; omega, ChainR.take (fun d v h => RoD_cells e d v h) z _ _ (ChainR.drop (fun d v h => RoD_cells e d v h) a _ _ q4), ?_⟩
  rcases q5 with ⟨b, o, rfl, r1, r2⟩ | ⟨r1, r2⟩
  ·by_cases hc : a < cap
   ·left
    refine ⟨b, o + shSize e * a, by rw [had hc]; simp [shEl, hadd, Nat.mul_comm], r1, rangeAt_part r2 _ _⟩
   ·exact .inr ⟨by rw [hz]; omega, by omega⟩
  ·exact .inr ⟨by rw [hz]; omega, by omega⟩
 | _ => simp only [RoD] at h <;> simp at h

theorem RoD_D {dm : Nat → Prop} {ρ : Nat → Pl} {key : Nat} (hk : dm key) {w : World} {Out : Nat → Prop} (hr : (ρ key).rel = RoD w Out) {sh : Sh} {d : RO} {ad : Option Addr} {n cap : Nat} (h : RoD w Out sh d (.slice ad n cap)) : D dm ρ (.ro key sh d) (.slice ad n cap) := by
 cases sh with
 | ints k => exact svOf_D hk hr (.ints k) d _ h
 | l e => exact svOf_D hk hr (.l e) d _ h
 | _ => simp only [RoD] at h <;> simp at h

theorem slice_sound {T : TypeId} {ti : TInfo} {ty : List (Nat × TInfo)} (hT : RowOk P T ti) (hm : Mem w0 M ρ H w) {x : SV} {vx : Value} (hx : D (dmOf H) ρ x vx) {lo hi : Option SV} {vlo vhi : Option Value}
  (hlo : OptD (dmOf H) ρ lo vlo) (hhi : OptD (dmOf H) ρ hi vhi) {d : Delta} {rs rs' : List Nat} (hest : ∀ key c est off len, x = .sl key c est off len → ti.ty = .slice → (∀ y, (sizeOf ti.elem).run P y = .ok est y)) (hestR : ∀ key sh d, x = .ro key sh d → ti.ty = .slice → (∀ y, (sizeOf ti.elem).run P y = .ok (shEl sh) y)) (hestN : ti.ty = .slice → ∃ es, ∀ y, (sizeOf ti.elem).run P y = .ok es y)
  (h : (sliceOp ti x lo hi).run H rs = some (d, rs')) (hp : AllP d.pre) : d.ws = [] ∧ ∃ v, (Instr.sliceAt T vx vlo vhi none).run P w = .ok v w ∧ D (dmOf H) ρ d.v v := by
 have hty' := hT.ty
 unfold sliceOp at h
 split at h
 ·rename_i key c n k l ht hl
  simp only [D] at hx
  obtain ⟨hk, rfl⟩ := hx
  simp only [RP.run] at h
  split at h
  ·rename_i ro gs hkey
   split at h
   ·rename_i k2 m ex y hs
    split at h
    ·rename_i hh hb hhh
     simp only [Bool.and_eq_true] at hb
     have hnm := Nat.eq_of_beq_eq_true hb.1
     have hbig := Nat.le_of_ble_eq_true hb.2
     split at h
     ·rename_i p hb3
      have e := run_ret h; subst e
      obtain ⟨b1, b2, b3⟩ := bounds3_ok hb3 hp
      simp only at b3
      rw [ht] at hty'
      unfold tyB at hty'
      split at hty'
      ·rename_i n' T' hu
       simp only [Bool.and_eq_true] at hty'
       obtain ⟨⟨e1, e2⟩, e3⟩ := hty'
       have hn := Nat.eq_of_beq_eq_true e1
       split at e2
       ·rename_i ii hii
        have hsz : ii.size = 1 := Nat.eq_of_beq_eq_true e2
        obtain ⟨vs, g1, g2, g3, _⟩ := hm.segs hkey
        obtain ⟨pre, cs, post, f1, f2, f3, _, _⟩ := segAt_D gs c vs _ 0 g1 hs
        have hcs := segLen_D f2 (n := m) rfl
        have hcap : c + n ≤ (ρ key).cap := by
         have : vs.length = pre.length + cs.length + post.length := by rw [f1]; simp; omega
         omega
        have hbnd := sliceBounds_run (P := P) (w := w) false n n l hh vlo vhi
         (by rcases optI_sound hl hlo with ⟨q1, q2⟩ | q; exact .inl ⟨q1, by rw [q2]⟩; exact .inr q)
         (by rcases optI_sound hhh hhi with ⟨q1, q2⟩ | q; exact .inl ⟨q1, by rw [q2]⟩; exact .inr q) b1 b2 b3
        have hdif : (hh.z - l.z).toNat = hh.z.toNat - l.z.toNat := by omega
        subst hn
        have hrun : (Instr.sliceAt T (.pointer (some (at_ (ρ key) c))) vlo vhi none).run P w = .ok (.slice (some (if n = l.z.toNat then at_ (ρ key) c else at_ (ρ key) (c + l.z.toNat))) (hh.z.toNat - l.z.toNat) (n - l.z.toNat)) w := by
         simp [Instr.sliceAt, run_underlying hu, Instr.sureAddr, hbnd, sizeOf, typeInfo, hii, hsz, addr_add]
        refine ⟨rfl, _, hrun, hk, b1, by rw [subI_z]; omega, by rw [subI_z]; simp only [InR]; omega, _, _, by rw [subI_z, hdif], by rw [subI_z, hdif]; omega, ?_⟩
        rw [subI_z]
        by_cases he : n = l.z.toNat
        ·exact .inr ⟨by omega, by omega⟩
        ·rw [if_neg he, Nat.one_mul, Nat.one_mul]
         exact .inl ⟨rfl, by omega⟩
       ·cases e2
      ·cases hty'
     ·simp [RP.run] at h
    ·simp [RP.run] at h
   ·simp [RP.run] at h
  ·simp [RP.run] at h
 ·rename_i key c est off len l ht hl
  have hestt := hest key c est off len rfl ht
  simp only [D] at hx
  obtain ⟨hk, ho, hl0, hlr, ad, cap, rfl, hlc, hdis⟩ := hx
  split at h
  ·rename_i hh hhh
   split at h
   ·rename_i p hb3
    have e := run_ret h; subst e
    obtain ⟨b1, b2, b3⟩ := bounds3_ok hb3 hp
    rw [ht] at hty'
    unfold tyB at hty'
    split at hty'
    ·rename_i el hu
     have hee := hT.slice el hu
     subst hee
     have hbnd := sliceBounds_run (P := P) (w := w) true len.z.toNat cap l hh vlo vhi
      (by rcases optI_sound hl hlo with ⟨q1, q2⟩ | q; exact .inl ⟨q1, by rw [q2]⟩; exact .inr q)
      (by rcases optI_sound hhh hhi with ⟨q1, q2⟩ | q; exact .inl ⟨q1, by rw [q2]; omega⟩; exact .inr q) b1 b2 (by omega)
     have hdif : (hh.z - l.z).toNat = hh.z.toNat - l.z.toNat := by omega
     have hrun : (Instr.sliceAt T (.slice ad len.z.toNat cap) vlo vhi none).run P w = .ok (.slice (if cap = l.z.toNat then ad else ad.map (·.add (l.z.toNat * est))) (hh.z.toNat - l.z.toNat) (cap - l.z.toNat)) w := by
      simp [Instr.sliceAt, Instr.slice, run_underlying hu, hbnd, hestt]
     have hInR : InR .i64 (hh.z - l.z) := by simp only [InR] at hlr ⊢; omega
     refine ⟨rfl, _, hrun, hk, by rw [addI_z]; omega, by rw [subI_z]; omega, by rw [subI_z]; exact hInR, _, _, by rw [subI_z, hdif], by rw [subI_z, hdif]; omega, ?_⟩
     rw [subI_z, addI_z]
     by_cases he : cap = l.z.toNat
     ·exact .inr ⟨by omega, by omega⟩
     ·rw [if_neg he]
      rcases hdis with ⟨rfl, hcap⟩ | ⟨q1, q2⟩
      ·have e1 : (off.z + l.z).toNat = off.z.toNat + l.z.toNat := Int.toNat_add ho b1
       refine .inl ⟨?_, ?_⟩
       ·simp only [Option.map_some, addr_add, e1, Nat.mul_add]
        rw [Nat.mul_comm l.z.toNat est, Nat.add_assoc]
       ·rw [e1, Nat.mul_add]
        have : est * cap = est * l.z.toNat + est * (cap - l.z.toNat) := by rw [← Nat.mul_add]; congr 1; omega
        omega
      ·exact absurd (by omega) he
    ·cases hty'
   ·simp [RP.run] at h
  ·simp [RP.run] at h
 ·rename_i key sh dd l ht hl
  have hestt := hestR key sh dd rfl ht
  simp only [D] at hx
  obtain ⟨hk, hrel, hF, ad, cap, rfl, hlc, hl63, hdis⟩ := hx
  split at h
  ·rename_i hh hhh
   simp only [RP.run] at h
   split at h
   ·rename_i hkey
    have e := run_ret h; subst e
    obtain ⟨b1, b2, b3⟩ := hp.1
    rw [ht] at hty'
    unfold tyB at hty'
    split at hty'
    ·rename_i el hu
     have hee := hT.slice el hu
     subst hee
     have hbnd := sliceBounds_run (P := P) (w := w) true (roLen sh dd) cap l hh vlo vhi
      (by rcases optI_sound hl hlo with ⟨q1, q2⟩ | q; exact .inl ⟨q1, by rw [q2]⟩; exact .inr q)
      (by rcases optI_sound hhh hhi with ⟨q1, q2⟩ | q; exact .inl ⟨q1, by rw [q2]⟩; exact .inr q) b1 b2 (by omega)
     have hdif : (hh.z - l.z).toNat = hh.z.toNat - l.z.toNat := by omega
     have hrun : (Instr.sliceAt T (.slice ad (roLen sh dd) cap) vlo vhi none).run P w = .ok (.slice (if cap = l.z.toNat then ad else ad.map (·.add (l.z.toNat * shEl sh))) (hh.z.toNat - l.z.toNat) (cap - l.z.toNat)) w := by
      simp [Instr.sliceAt, Instr.slice, run_underlying hu, hbnd, hestt]
     have hr := hm.view key hkey
     rw [hr] at hrel
     obtain ⟨s1, s2⟩ := RoD_sub hrel rfl (a := l.z.toNat) (z := (hh.z - l.z).toNat) (by omega)
     refine ⟨rfl, _, hrun, ?_⟩
     rw [← hdif]
     exact RoD_D hk hr (s2 _ fun hc => by rw [if_neg (by omega)])
    ·cases hty'
   ·simp [RP.run] at h
  ·simp [RP.run] at h
 ·rename_i l ht hl
  simp only [D] at hx
  subst hx
  split at h
  ·rename_i hh hhh
   have e := run_ret h; subst e
   obtain ⟨b1, b2, b3⟩ := hp.1
   rw [ht] at hty'
   unfold tyB at hty'
   split at hty'
   ·rename_i el hu
    have hee := hT.slice el hu
    subst hee
    have hbnd := sliceBounds_run (P := P) (w := w) true 0 0 l hh vlo vhi
     (by rcases optI_sound hl hlo with ⟨q1, q2⟩ | q; exact .inl ⟨q1, by rw [q2]⟩; exact .inr q)
     (by rcases optI_sound hhh hhi with ⟨q1, q2⟩ | q; exact .inl ⟨q1, by rw [q2]; rfl⟩; exact .inr q) b1 b2 b3
    have l0 : l.z.toNat = 0 := by omega
    have h0 : hh.z.toNat = 0 := by omega
    have hestt := hestN ht
    refine ⟨rfl, .slice none 0 0, ?_, rfl⟩
    obtain ⟨es, hes⟩ := hestt
    simp [Instr.sliceAt, Instr.slice, run_underlying hu, hbnd, hes, l0, h0]
   ·cases hty'
  ·simp [RP.run] at h
 ·rename_i v l ht hl
  simp only [D] at hx
  obtain ⟨rfl, hv⟩ := hx
  split at h
  ·rename_i hh hhh
   have e := run_ret h; subst e
   obtain ⟨b1, b2, b3⟩ := hp.1
   rw [ht] at hty'
   unfold tyB at hty'
   split at hty'
   ·rename_i hu
    have hbnd := sliceBounds_run (P := P) (w := w) false v.size v.size l hh vlo vhi
     (by rcases optI_sound hl hlo with ⟨q1, q2⟩ | q; exact .inl ⟨q1, by rw [q2]⟩; exact .inr q)
     (by rcases optI_sound hhh hhi with ⟨q1, q2⟩ | q; exact .inl ⟨q1, by rw [q2]⟩; exact .inr q) b1 b2 b3
    refine ⟨rfl, .string (v.extract l.z.toNat hh.z.toNat), ?_, rfl, ?_⟩
    ·simp [Instr.sliceAt, Instr.slice, run_underlying hu, hbnd]
    ·have : (v.extract l.z.toNat hh.z.toNat).size ≤ v.size := by simp [ByteArray.size_extract]; omega
     omega
   ·cases hty'
  ·simp [RP.run] at h
 ·simp [RP.run] at h

/-! ### Parts of structs -/

theorem field_sound {T : TypeId} {ti : TInfo} (hT : RowOk P T ti) {x : SV} {vx : Value} (hx : D (dmOf H) ρ x vx) {f : Nat} {d : Delta} {rs rs' : List Nat}
  (h : (fieldOp ti x f).run H rs = some (d, rs')) : d.ws = [] ∧ ∃ v, (Instr.field T vx f).run P w = .ok v w ∧ D (dmOf H) ρ d.v v := by
 have key : ∀ (fs : List Ty) (fl : List Field) (xs : List SV) (cs pre : List Value) (off f : Nat) (v : SV), fieldsB P fs off fl = true → ofTys fs xs = true → Cs (dmOf H) ρ xs cs → pre.length = off → nth xs f = some v →
   ∃ g u, fl[f]? = some g ∧ D (dmOf H) ρ v u ∧ (part g.type (pre ++ cs).toArray g.offset).run P w = .ok u w := by
  intro fs
  induction fs with
  | nil => intro fl xs cs pre off f v _ ho _ _ hn; cases xs <;> simp [ofTys] at ho; simp [nth] at hn
  | cons t r ih =>
   intro fl xs cs pre off f v hB ho hc hpre hn
   cases fl with
   | nil => simp [fieldsB] at hB
   | cons g gr =>
    cases xs with
    | nil => simp [ofTys] at ho
    | cons y ys =>
     simp only [fieldsB, Bool.and_eq_true] at hB
     obtain ⟨⟨⟨h1, h2⟩, h3⟩, h4⟩ := hB
     simp only [ofTys, Bool.and_eq_true] at ho
     simp only [Cs] at hc
     obtain ⟨u, c, c1, rfl, c3⟩ := hc
     have hsz := ofTy_size t y u ho.1 c1
     have hoff := Nat.eq_of_beq_eq_true h1
     cases f with
     | zero =>
      simp only [nth, Option.some.injEq] at hn; subst hn
      refine ⟨g, u, rfl, c1, ?_⟩
      split at h2
      ·rename_i i hi
       simp only [Bool.and_eq_true] at h2
       have hs := Nat.eq_of_beq_eq_true h2.1
       obtain ⟨dd, hdd, hrow⟩ := tyB_row h3
       have hagg := isAgg_run hdd w
       rw [hrow] at hagg
       cases hr : isRow t with
       | true =>
        have : ∃ a, u = .agg a := by
         cases t <;> simp [isRow] at hr
         ·rename_i n e
          cases e <;> cases y <;> simp [ofTy, fits] at ho
          simp only [D] at c1
          exact ⟨_, c1.2.2⟩
         ·cases y <;> simp [ofTy, fits] at ho
          simp only [D] at c1
          obtain ⟨q, _, q2⟩ := c1
          exact ⟨_, q2⟩
        obtain ⟨a, rfl⟩ := this
        rw [hr] at hagg
        simp only [part, Sem.run_bind, hagg, Result.andThen_ok, sizeOf, typeInfo, if_true]
        simp only [hi, hs, run_program, Result.andThen_ok, Sem.run_pure]
        congr 2
        apply Array.ext'
        simp only [Array.toList_extract, List.extract_eq_take_drop, hoff]
        rw [show off + t.size - off = t.size by omega, ← hpre, List.drop_left, ← hsz, ← Array.length_toList]
        exact List.take_left
       | false =>
        rw [hr] at hagg
        have hcell : u.cells = #[u] := by
         have hsing : single y = true := by
          cases t <;> simp [isRow] at hr <;> cases y <;> simp [ofTy, fits] at ho <;> rfl
         exact (single_cell hsing c1).2
        have : ((pre ++ (u.cells.toList ++ c)).toArray)[g.offset]? = some u := by
         rw [hcell, hoff, ← hpre]
         simp
        simp only [part, Sem.run_bind, hagg, Result.andThen_ok, Bool.false_eq_true, if_false, this]
        rfl
      ·cases h2
     | succ f =>
      simp only [nth] at hn
      obtain ⟨g', u', a1, a2, a3⟩ := ih gr ys c (pre ++ u.cells.toList) (off + t.size) f v h4 ho.2 c3 (by simp [hpre, hsz]) hn
      exact ⟨g', u', by simpa using a1, a2, by rw [List.append_assoc] at a3; exact a3⟩
 unfold fieldOp at h
 split at h
 ·rename_i xs fs ht
  split at h
  ·rename_i v ho hn
   have e := run_ret h; subst e
   simp only [D] at hx
   obtain ⟨cs, hc, rfl⟩ := hx
   have hty' := hT.ty
   rw [ht] at hty'
   unfold tyB at hty'
   split at hty'
   ·rename_i fl hu
    obtain ⟨g, u, a1, a2, a3⟩ := key fs fl.toList xs cs [] 0 f v hty' ho hc rfl hn
    have a1' : fl[f]? = some g := by rw [← Array.getElem?_toList]; exact a1
    refine ⟨rfl, u, ?_, a2⟩
    simp only [List.nil_append] at a3
    simp [Instr.field, run_underlying hu, a1', asAgg, a3]
   ·cases hty'
  ·simp [RP.run] at h
 ·simp [RP.run] at h

theorem slice3_sound {T : TypeId} {ti : TInfo} (hT : RowOk P T ti) {x : SV} {vx : Value} (hx : D (dmOf H) ρ x vx) {lo : Option SV} {hi mx : SV} {vlo : Option Value} {vhi vmx : Value}
  (hlo : OptD (dmOf H) ρ lo vlo) (hhi : D (dmOf H) ρ hi vhi) (hmx : D (dmOf H) ρ mx vmx) {d : Delta} {rs rs' : List Nat} (hest : ∀ key c est off len, x = .sl key c est off len → ti.ty = .slice → (∀ y, (sizeOf ti.elem).run P y = .ok est y)) (hestN : ti.ty = .slice → ∃ es, ∀ y, (sizeOf ti.elem).run P y = .ok es y)
  (h : (sliceOp3 ti x lo hi mx).run H rs = some (d, rs')) (hp : AllP d.pre) : d.ws = [] ∧ ∃ v, (Instr.sliceAt T vx vlo (some vhi) (some vmx)).run P w = .ok v w ∧ D (dmOf H) ρ d.v v := by simp [sliceOp3, RP.run] at h
end
end Go.Gx

/- Literals, make, conversions. -/
namespace Go.Gx
open Go.RowKit
set_option linter.unusedVariables false

section
variable {P : Program} {w0 : World} {M : Nat → Prop} {ρ : Nat → Pl} {H : Nat → Option SB} {w : World}

def PartsD (dm : Nat → Prop) (ρ : Nat → Pl) : List (Nat × SV) → List (Nat × Value) → Prop
 | [], vs => vs = []
 | (i, x) :: r, vs => ∃ u c, vs = (i, u) :: c ∧ D dm ρ x u ∧ PartsD dm ρ r c

theorem fillI_sound {dm : Nat → Prop} {k : IntKind} {n : Nat} (place : Nat → Option (Nat × Nat)) (hpl : ∀ i, place i = some (i * 1, 1)) : ∀ (parts : List (Nat × SV)) (vs : List (Nat × Value)) (l l' : List Int), PartsD dm ρ parts vs → fillI k parts l = some l' → l.length = n → AllR k l →
  Instr.fill place (l.map (Value.int k)).toArray vs = some (l'.map (Value.int k)).toArray ∧ l'.length = n ∧ AllR k l'
 | [], vs, l, l', hd, h, hl, hr => by
  simp only [fillI, Option.some.injEq] at h; subst h
  rw [show vs = [] from hd]
  exact ⟨rfl, hl, hr⟩
 | (i, x) :: r, vs, l, l', hd, h, hl, hr => by
  obtain ⟨u, c, rfl, h1, h2⟩ := hd
  cases x <;> simp only [fillI, reduceCtorEq] at h
  rename_i k' a
  split at h
  ·rename_i l1 hk hs
   have hkk := keq_eq hk; subst hkk
   obtain ⟨e1, e2⟩ := setn_some hs
   simp only [D] at h1
   obtain ⟨rfl, ha⟩ := h1
   have hl1 : l1.length = n := by rw [e1, List.length_set]; exact hl
   have ih := fillI_sound (n := n) place hpl r c l1 l' h2 h hl1 (by rw [e1]; exact hr.set ha)
   refine ⟨?_, ih.2⟩
   rw [← ih.1]
   have hsz : (Value.int k a.z).cells.size = 1 := rfl
   simp only [Instr.fill, hpl]
   rw [if_neg (by simp [Value.cells]; omega)]
   congr 1
   simp only [Value.cells]
   rw [e1]
   apply Array.ext'
   simp [List.map_set]
  ·cases h

theorem fields_places {fs : List Ty} : ∀ {fl : List Field} {off : Nat}, fieldsB P fs off fl = true → ∃ places, fl.mapM (fun f => (P.info? f.type).map fun i => (f.offset, i.size)) = some places ∧
  ∀ i t, nth fs i = some t → places[i]? = some (off + fieldOff fs i, t.size) := by
 induction fs with
 | nil =>
  intro fl off h
  cases fl with
  | nil => exact ⟨[], by simp, fun i t h => by simp [nth] at h⟩
  | cons g gr => simp [fieldsB] at h
 | cons t r ih =>
  intro fl off h
  cases fl with
  | nil => simp [fieldsB] at h
  | cons g gr =>
   simp only [fieldsB, Bool.and_eq_true] at h
   obtain ⟨⟨⟨h1, h2⟩, h3⟩, h4⟩ := h
   obtain ⟨pl, p1, p2⟩ := ih h4
   split at h2
   ·rename_i i hi
    simp only [Bool.and_eq_true] at h2
    have e1 := Nat.eq_of_beq_eq_true h1
    have e2 := Nat.eq_of_beq_eq_true h2.1
    refine ⟨(off, t.size) :: pl, by simp [hi, p1, e1, e2], fun j u hj => ?_⟩
    cases j with
    | zero => simp only [nth, Option.some.injEq] at hj; subst hj; simp [fieldOff]
    | succ j =>
     simp only [nth] at hj
     have := p2 j u hj
     simp only [List.getElem?_cons_succ, this, fieldOff]
     congr 2; omega
   ·cases h2

theorem Cs_set {dm : Nat → Prop} : ∀ (fs : List Ty) (xs xs' : List SV) (cs : List Value) (i : Nat) (t : Ty) (x : SV) (u : Value), Cs dm ρ xs cs → ofTys fs xs = true → nth fs i = some t → setn xs i x = some xs' → ofTy t x = true → D dm ρ x u →
  Cs dm ρ xs' (over cs (fieldOff fs i) u.cells.toList) ∧ fieldOff fs i + t.size ≤ cs.length ∧ ofTys fs xs' = true
 | fs, [], xs', cs, i, t, x, u, hc, ho, hn, hs, ht, hd => by simp [setn] at hs
 | [], y :: ys, xs', cs, i, t, x, u, hc, ho, hn, hs, ht, hd => by simp [nth] at hn
 | t0 :: fs, y :: ys, xs', cs, 0, t, x, u, hc, ho, hn, hs, ht, hd => by
  simp only [nth, Option.some.injEq] at hn; subst hn
  simp only [setn, Option.some.injEq] at hs; subst hs
  simp only [Cs] at hc
  obtain ⟨v, c, c1, rfl, c3⟩ := hc
  simp only [ofTys, Bool.and_eq_true] at ho
  have e1 := ofTy_size t0 y v ho.1 c1
  have e2 := ofTy_size t0 x u ht hd
  refine ⟨⟨u, c, hd, ?_, c3⟩, by simp [fieldOff, e1], by simp [ofTys, ht, ho.2]⟩
  unfold over
  simp only [fieldOff, List.take_zero, List.nil_append, Nat.zero_add]
  congr 1
  rw [show u.cells.toList.length = v.cells.toList.length by simp [e1, e2], List.drop_left]
 | t0 :: fs, y :: ys, xs', cs, i + 1, t, x, u, hc, ho, hn, hs, ht, hd => by
  simp only [nth] at hn
  simp only [setn] at hs
  split at hs
  ·rename_i r' hr
   simp only [Option.some.injEq] at hs; subst hs
   simp only [Cs] at hc
   obtain ⟨v, c, c1, rfl, c3⟩ := hc
   simp only [ofTys, Bool.and_eq_true] at ho
   have e1 := ofTy_size t0 y v ho.1 c1
   have e2 := ofTy_size t x u ht hd
   obtain ⟨q1, q2, q3⟩ := Cs_set fs ys r' c i t x u c3 ho.2 hn hr ht hd
   refine ⟨⟨v, over c (fieldOff fs i) u.cells.toList, c1, ?_, q1⟩, by simp [fieldOff, e1]; omega, by simp [ofTys, ho.1, q3]⟩
   have := over_mid v.cells.toList c [] u.cells.toList (fieldOff fs i) (by simp [e2]; omega)
   simp only [List.append_nil] at this
   rw [← this]
   congr 1
   simp [fieldOff, e1]
  ·cases hs

theorem fold_over (off : Nat) (l : List Value) (cs : Array Value) (h : off + l.length ≤ cs.size) : ((l.zipIdx).foldl (fun cs (x : Value × Nat) => cs.setIfInBounds (off + x.2) x.1) cs) = (over cs.toList off l).toArray := by
 obtain ⟨h1, h2⟩ := Go.Great.foldl_set off l 0 cs
 have hlen : (over cs.toList off l).length = cs.size := by rw [over_length (by simpa using h)]; simp
 apply Array.ext_getElem?
 intro k
 rw [h2 k]
 simp only [Nat.add_zero, List.getElem?_toArray]
 unfold over
 by_cases c1 : k < off
 ·rw [if_neg (by omega), List.append_assoc, List.getElem?_append_left (by simp; omega), List.getElem?_take, if_pos c1]; simp
 ·by_cases c2 : k < off + l.length
  ·rw [if_pos ⟨by omega, c2, by omega⟩, List.append_assoc, List.getElem?_append_right (by simp; omega)]
   have hmin : (cs.toList.take off).length = off := by simp; omega
   rw [hmin, List.getElem?_append_left (by omega)]
  ·rw [if_neg (by omega), List.append_assoc, List.getElem?_append_right (by simp; omega)]
   have hmin : (cs.toList.take off).length = off := by simp; omega
   rw [hmin, List.getElem?_append_right (by omega), List.getElem?_drop]
   rw [show off + l.length + (k - off - l.length) = k by omega]; simp

theorem fillS_sound {dm : Nat → Prop} {fs : List Ty} (place : Nat → Option (Nat × Nat)) (hpl : ∀ i t, nth fs i = some t → place i = some (fieldOff fs i, t.size)) : ∀ (parts : List (Nat × SV)) (vs : List (Nat × Value)) (xs xs' : List SV) (cs : List Value),
  PartsD dm ρ parts vs → fillS fs parts xs = some xs' → Cs dm ρ xs cs → ofTys fs xs = true → ∃ cs', Instr.fill place cs.toArray vs = some cs'.toArray ∧ Cs dm ρ xs' cs'
 | [], vs, xs, xs', cs, hd, h, hc, ho => by
  simp only [fillS, Option.some.injEq] at h; subst h
  rw [show vs = [] from hd]
  exact ⟨cs, rfl, hc⟩
 | (i, x) :: r, vs, xs, xs', cs, hd, h, hc, ho => by
  obtain ⟨u, c, rfl, h1, h2⟩ := hd
  simp only [fillS] at h
  split at h
  ·rename_i t l1 ht hs
   split at h
   ·rename_i hty
    obtain ⟨q1, q2, q3⟩ := Cs_set fs xs l1 cs i t x u hc ho ht hs hty h1
    have e := ofTy_size t x u hty h1
    obtain ⟨cs', a1, a2⟩ := fillS_sound place hpl r c l1 xs' _ h2 h q1 q3
    refine ⟨cs', ?_, a2⟩
    simp only [Instr.fill, hpl i t ht]
    rw [if_neg (by simp [e]; omega)]
    rw [← a1]
    congr 1
    have hfo := fold_over (fieldOff fs i) u.cells.toList cs.toArray (by simp [e]; omega)
    rw [← hfo, ← Array.foldl_toList]
    simp
   ·cases h
  ·cases h

theorem build_sound {T : TypeId} {ti : TInfo} (hT : RowOk P T ti) {parts : List (Nat × SV)} {vs : Array (Nat × Value)} (hd : PartsD (dmOf H) ρ parts vs.toList) {d : Delta} {rs rs' : List Nat}
  (h : (buildOp ti parts).run H rs = some (d, rs')) : d.ws = [] ∧ ∃ v, (Instr.build T vs).run P w = .ok v w ∧ D (dmOf H) ρ d.v v := by
 have hty' := hT.ty
 obtain ⟨i, z, hi1, hi2, hi3, hi4, hi5⟩ := hT.info
 have hz := zeroB_D (dm := dmOf H) (ρ := ρ) hi5
 unfold buildOp at h
 split at h
 ·rename_i n k ht
  rw [ht] at hty' hz
  split at h
  ·rename_i hbn
   split at h
   ·rename_i l hl
    have e := run_ret h; subst e
    unfold tyB at hty'
    split at hty'
    ·rename_i n' T' hu
     simp only [Bool.and_eq_true] at hty'
     obtain ⟨⟨e1, e2⟩, e3⟩ := hty'
     split at e2
     ·rename_i ii hii
      have hs : ii.size = 1 := Nat.eq_of_beq_eq_true e2
      have hzc : z.cells = ((List.replicate n (0 : Int)).map (Value.int k)).toArray := by
       simp only [zero] at hz
       split at hz
       ·rw [reps_eq] at hz
        simp only [D] at hz; rw [hz.2.2]; rfl
       ·simp only [D] at hz; rw [hz.2.2]; rfl
      rw [reps_eq] at hl
      have hf := fillI_sound (ρ := ρ) (n := n) (fun i => some (i * 1, 1)) (fun _ => rfl) parts vs.toList _ l hd hl (by simp) (allR_rep k n)
      refine ⟨rfl, .agg (l.map (Value.int k)).toArray, ?_, hf.2.1, hf.2.2, rfl⟩
      have hfi := hf.1
      simp [Instr.build, zeroValue, typeInfo, hi1, hi4, run_underlying hu, sizeOf, hii, hs, hzc]
      simp only [List.map_replicate, Nat.mul_one, List.toArray_replicate] at hfi
      rw [hfi]
      simp
     ·cases e2
    ·cases hty'
   ·simp [RP.run] at h
  ·simp [RP.run] at h
 ·rename_i fs ht
  rw [ht] at hty' hz
  split at h
  ·rename_i l hl ho
   have e := run_ret h; subst e
   unfold tyB at hty'
   split at hty'
   ·rename_i fl hu
    obtain ⟨places, p1, p2⟩ := fields_places hty'
    simp only [zero, D] at hz
    obtain ⟨cs, c1, rfl⟩ := hz
    obtain ⟨cs', f1, f2⟩ := fillS_sound (ρ := ρ) (places.toArray[·]?) (fun i t hi => by simpa using p2 i t hi) parts vs.toList _ l cs hd hl c1 ho
    refine ⟨rfl, .agg cs'.toArray, run_build w T vs cs'.toArray ?_, cs', f2, rfl⟩
    unfold Program.built
    simp only [hi1, hu, hi4, p1]
    exact f1
   ·cases hty'
  ·simp [RP.run] at h
 ·simp [RP.run] at h

/-! ### A slice that is written out -/

theorem partsI_sound {dm : Nat → Prop} {k : IntKind} : ∀ (parts : List (Nat × SV)) (vs : List (Nat × Value)) (i : Nat) (l : List Int), PartsD dm ρ parts vs → partsI k i parts = some l →
  vs = ((l.map (Value.int k)).zipIdx i).map (fun x => (x.2, x.1)) ∧ AllR k l ∧ l.length = parts.length
 | [], vs, i, l, hd, h => by
  simp only [partsI, Option.some.injEq] at h; subst h
  rw [show vs = [] from hd]; exact ⟨rfl, (fun z hz => by cases hz), rfl⟩
 | (j, x) :: r, vs, i, l, hd, h => by
  obtain ⟨u, c, rfl, h1, h2⟩ := hd
  cases x <;> simp only [partsI, reduceCtorEq] at h
  rename_i k' a
  split at h
  ·rename_i l1 hb hr
   simp only [Bool.and_eq_true] at hb
   have e1 := Nat.eq_of_beq_eq_true hb.1
   have e2 := keq_eq hb.2
   subst e1 e2
   simp only [Option.some.injEq] at h; subst h
   simp only [D] at h1
   obtain ⟨rfl, ha⟩ := h1
   obtain ⟨q1, q2, q3⟩ := partsI_sound r c (i + 1) l1 h2 hr
   refine ⟨by rw [q1]; simp, fun z hz => ?_, by simp [q3]⟩
   rcases List.mem_cons.1 hz with rfl | hz
   ·exact ha
   ·exact q2 z hz
  ·cases h

theorem partsA_sound {dm : Nat → Prop} {k : IntKind} {n : Nat} : ∀ (parts : List (Nat × SV)) (vs : List (Nat × Value)) (i : Nat) (l : List (List Int)), PartsD dm ρ parts vs → partsA k n i parts = some l →
  ∃ us : List Value, vs = (us.zipIdx i).map (fun x => (x.2, x.1)) ∧ AllA k n l ∧ us = l.map (fun y => Value.agg (y.map (Value.int k)).toArray) ∧ l.length = parts.length
 | [], vs, i, l, hd, h => by
  simp only [partsA, Option.some.injEq] at h; subst h
  rw [show vs = [] from hd]; exact ⟨[], rfl, (fun z hz => by cases hz), rfl, rfl⟩
 | (j, x) :: r, vs, i, l, hd, h => by
  obtain ⟨u, c, rfl, h1, h2⟩ := hd
  cases x <;> simp only [partsA, reduceCtorEq] at h
  rename_i k' m ex y
  split at h
  ·rename_i l1 hb hr
   simp only [Bool.and_eq_true] at hb
   have e1 := Nat.eq_of_beq_eq_true hb.1.1
   have e2 := keq_eq hb.1.2
   have e3 := Nat.eq_of_beq_eq_true hb.2
   subst e1 e2 e3
   simp only [Option.some.injEq] at h; subst h
   simp only [D] at h1
   obtain ⟨a1, a2, rfl⟩ := h1
   obtain ⟨us, q1, q2, q3, q4⟩ := partsA_sound r c (i + 1) l1 h2 hr
   refine ⟨.agg (y.map (Value.int k)).toArray :: us, by rw [q1]; simp, fun z hz => ?_, by rw [q3]; simp, by simp [q4]⟩
   rcases List.mem_cons.1 hz with rfl | hz
   ·exact ⟨a1, a2⟩
   ·exact q2 z hz
  ·cases h

theorem fits_single {t : Ty} {x : SV} (h : fits t x = true) : single x = true := by
 cases t <;> cases x <;> simp [fits] at h <;> rfl

theorem partsS_sound {dm : Nat → Prop} {t : Ty} : ∀ (parts : List (Nat × SV)) (vs : List (Nat × Value)) (i : Nat) (l : List Seg), PartsD dm ρ parts vs → partsS t i parts = some l →
  ∃ us : List Value, vs = (us.zipIdx i).map (fun x => (x.2, x.1)) ∧ SegsD dm ρ l us ∧ (∀ u ∈ us, u.cells = #[u]) ∧ us.length = parts.length
 | [], vs, i, l, hd, h => by
  simp only [partsS, Option.some.injEq] at h; subst h
  rw [show vs = [] from hd]; exact ⟨[], rfl, rfl, (fun z hz => by cases hz), rfl⟩
 | (j, x) :: r, vs, i, l, hd, h => by
  obtain ⟨u, c, rfl, h1, h2⟩ := hd
  simp only [partsS] at h
  split at h
  ·rename_i l1 hb hr
   simp only [Bool.and_eq_true] at hb
   have e1 := Nat.eq_of_beq_eq_true hb.1
   subst e1
   simp only [Option.some.injEq] at h; subst h
   obtain ⟨us, q1, q2, q3, q4⟩ := partsS_sound r c (i + 1) l1 h2 hr
   have hs := fits_single hb.2
   refine ⟨u :: us, by rw [q1]; simp, ⟨[u], us, ⟨hs, u, h1, rfl⟩, rfl, q2⟩, fun z hz => ?_, by simp [q4]⟩
   rcases List.mem_cons.1 hz with rfl | hz
   ·exact (single_cell hs h1).2
   ·exact q3 z hz
  ·cases h

theorem PartsD.length {dm : Nat → Prop} : ∀ {parts : List (Nat × SV)} {vs : List (Nat × Value)}, PartsD dm ρ parts vs → vs.length = parts.length
 | [], vs, h => by rw [show vs = [] from h]; rfl
 | (j, x) :: r, vs, h => by obtain ⟨u, c, rfl, _, h2⟩ := h; simp [PartsD.length h2]

theorem buildSlice_zero {T e : TypeId} {ie : TypeInfo} (hu : P.underlying T = some (.slice e)) (hie : P.info? e = some ie) (w : World) :
  (Instr.buildSlice T 0 #[]).run P w = .ok (.slice (some ⟨w.heap.size, 0, none⟩) 0 0) (w.alloc (.cells #[] e)) := by
 have : (Array.range 0 : Array Nat) = #[] := rfl
 simp [Instr.buildSlice, run_underlying hu, sizeOf, typeInfo, hie, newRow, Instr.fill, this]

theorem buildSlice_sound {T : TypeId} {ti : TInfo} {ty : List (Nat × TInfo)} (hT : RowOk P T ti) (hty : tabB P ty = true) (hm : Mem w0 M ρ H w) {stamp n : Nat} {parts : List (Nat × SV)} {vs : Array (Nat × Value)} (hd : PartsD (dmOf H) ρ parts vs.toList)
  {d : Delta} {rs rs' : List Nat} (h : (buildSliceOp ty stamp ti n parts).run H rs = some (d, rs')) :
  ∃ v w', (Instr.buildSlice T n vs).run P w = .ok v w' ∧ After w0 M ρ H d v w' := by
 unfold buildSliceOp at h
 split at h
 ·rename_i te ht hte hb
  simp only [Bool.and_eq_true] at hb
  have hlen := Nat.eq_of_beq_eq_true hb.1
  have hsm := Nat.le_of_ble_eq_true hb.2
  have hTe := rowB_ok (tabB_row hty hte)
  obtain ⟨ie, z, hi1, hi2, hi3, hi4, hi5⟩ := hTe.info
  have hu : P.underlying T = some (.slice ti.elem) := by
   have hty' := hT.ty
   rw [ht] at hty'
   unfold tyB at hty'
   split at hty'
   ·rename_i e hu; rw [hu, hT.slice e hu]
   ·cases hty'
  have hvl := hd.length
  have finish : ∀ (l : List Seg) (cells : List Value) (es : Nat), es = ie.size → SegsD (dmOf H) ρ l cells → 0 < es → es ≤ 1000 → cells.length = n * es →
    (Instr.fill (fun i => some (i * es, es)) ((Array.range (n * es)).map (z.cells[· % z.cells.size]!)) vs.toList = some cells.toArray) →
    (fresh stamp l (.sl stamp 0 es ⟨true, 0⟩ ⟨true, n⟩) [] false).run H rs = some (d, rs') →
    ∃ v w', (Instr.buildSlice T n vs).run P w = .ok v w' ∧ After w0 M ρ H d v w' := fun l cells es he hl hes hes2 hcl hf hfr => by
   subst he
   obtain ⟨hn, rfl⟩ := fresh_run hfr
   have hle : n * ie.size ≤ 1000 * 1000 := Nat.mul_le_mul hsm hes2
   have hrun : (Instr.buildSlice T n vs).run P w = .ok (.slice (some ⟨w.heap.size, 0, none⟩) n n) (w.alloc (.cells cells.toArray ti.elem)) := by
    rcases Nat.eq_zero_or_pos n with rfl | hnpos
    ·have hv0 : vs = #[] := by
      have : vs.toList = [] := List.eq_nil_of_length_eq_zero (by omega)
      cases vs; simp_all
     have hc0 : cells = [] := List.eq_nil_of_length_eq_zero (by omega)
     rw [hv0, hc0]; exact buildSlice_zero hu hi1 w
    ·have hpos : 0 < n * ie.size := Nat.mul_pos hnpos hes
     exact run_buildSlice (P := P) w T ti.elem n vs cells.toArray ie z hu hi1 hi4 (by omega) (by omega) hf
   refine ⟨_, _, hrun, After.alloc hm hn hl (extra := []) (by simp) (.inl rfl) rfl ?_⟩
   refine ⟨dm_new _ _ _, by simp, by simp, by simp only [InR]; omega, _, n, rfl, by simp, .inl ⟨?_, ?_⟩⟩
   ·rw [updP_same]; simp [at_]
   ·rw [updP_same]; simp [hcl, Nat.mul_comm]
  split at h
  ·rename_i k hk
   split at h
   ·rename_i l hl
    obtain ⟨q1, q2, q3⟩ := partsI_sound parts vs.toList 0 l hd hl
    have hie : ie.size = 1 := by rw [hi2, hk]; rfl
    refine finish [.rowI k l] (l.map (Value.int k)) 1 hie.symm ⟨l.map (Value.int k), [], ⟨q2, rfl⟩, by simp, rfl⟩ (by omega) (by omega) (by simp; omega) ?_ h
    rw [q1]
    exact Go.Great.fill_flat (l.map (Value.int k)) _ (fun v hv => by simp at hv; obtain ⟨a, _, rfl⟩ := hv; rfl) (by simp; omega)
   ·simp [RP.run] at h
  ·rename_i m k hk
   split at h
   ·rename_i l hl hmm
    obtain ⟨us, q1, q2, q3, q4⟩ := partsA_sound parts vs.toList 0 l hd hl
    have hie : ie.size = m := by rw [hi2, hk]; simp [Ty.size]
    simp only [Bool.and_eq_true] at hmm
    have hm1 : 0 < m := by have := hmm.1; simp [Nat.blt] at this; omega
    have hm2 := Nat.le_of_ble_eq_true hmm.2
    have hcells : (us.flatMap fun v => v.cells.toList) = l.flatten.map (Value.int k) := by
     rw [q3]
     clear q1 q2 q3 q4 hl h hd
     induction l with
     | nil => rfl
     | cons y r ih => simp only [List.map_cons, List.flatMap_cons, List.flatten_cons, List.map_append, ih]; rfl
    refine finish [.rowA k m l] (l.flatten.map (Value.int k)) m hie.symm ⟨l.flatten.map (Value.int k), [], ⟨q2, rfl⟩, by simp, rfl⟩ hm1 hm2 (by rw [List.length_map, flatten_len q2, q4, hlen, Nat.mul_comm]) ?_ h
    rw [q1, ← hcells]
    exact Go.Great.fill_whole hm1 us _ (fun v hv => by rw [q3] at hv; simp only [List.mem_map] at hv; obtain ⟨y, hy, rfl⟩ := hv; simp [Value.cells, (q2 y hy).1]) (by rw [q3]; simp [q4, hlen])
   ·simp [RP.run] at h
  ·rename_i fs hk
   split at h
   ·rename_i xs
    split at h
    ·rename_i l hl hb2
     simp only [Bool.and_eq_true] at hb2
     obtain ⟨⟨⟨b1, b2⟩, b3⟩, b4⟩ := hb2
     have b2 : 0 < Ty.sizes fs := by simp [Nat.blt] at b2; omega
     have b3 := Nat.le_of_ble_eq_true b3
     have b4 := Nat.eq_of_beq_eq_true b4
     subst b4
     obtain ⟨u, c, e1, e2, e3⟩ := hd
     rw [show c = [] from e3] at e1
     have hsz := ofTy_size (.struct fs) (.agg xs) u b1 e2
     have hie : ie.size = Ty.sizes fs := by rw [hi2, hk]; rfl
     have hsg := segsOf_D (.agg xs) l u hl e2
     refine finish l u.cells.toList (Ty.sizes fs) hie.symm hsg b2 b3 (by rw [Array.length_toList, hsz, Nat.one_mul]; rfl) ?_ h
     rw [e1]
     have := Go.Great.fill_whole b2 [u] ((Array.range (1 * Ty.sizes fs)).map (z.cells[· % z.cells.size]!)) (fun v hv => by simp only [List.mem_singleton] at hv; subst hv; rw [hsz]; rfl) (by simp)
     simpa using this
    ·simp [RP.run] at h
   ·simp [RP.run] at h
  ·split at h
   ·rename_i l hl hs1
    obtain ⟨us, q1, q2, q3, q4⟩ := partsS_sound parts vs.toList 0 l hd hl
    have hie : ie.size = 1 := by rw [hi2]; exact Nat.eq_of_beq_eq_true hs1
    refine finish l us 1 hie.symm q2 (by omega) (by omega) (by omega) ?_ h
    rw [q1]
    exact Go.Great.fill_flat us _ q3 (by simp; omega)
   ·simp [RP.run] at h
 ·simp [RP.run] at h

/-! ### make -/

theorem madeCells_zero {dm : Nat → Prop} {t : Ty} {z : Value} (h : zeroB t z = true) (hr : isRow t = false) (n : Nat) : ∃ u, z.cells = #[u] ∧ (madeCells z.cells n).toList = List.replicate n u := by
 obtain ⟨u, hu⟩ : ∃ u, z.cells = #[u] := by
  unfold zeroB at h
  split at h
  ·simp [hr] at h
  ·cases z <;> first | exact ⟨_, rfl⟩ | (rename_i hne; exact absurd rfl (hne _))
 refine ⟨u, hu, ?_⟩
 rw [hu]
 unfold madeCells
 apply List.ext_getElem
 ·simp
 ·intro i h1 h2
  simp [Nat.mod_one]

theorem make_sound {T : TypeId} {ti : TInfo} {ty : List (Nat × TInfo)} (hT : RowOk P T ti) (hty : tabB P ty = true) (hm : Mem w0 M ρ H w) {stamp : Nat} {n m : SV} {vn vm : Value} (hn : D (dmOf H) ρ n vn) (hmm : D (dmOf H) ρ m vm)
  {d : Delta} {rs rs' : List Nat} (h : (makeOp ty stamp ti n m).run H rs = some (d, rs')) (hp : AllP d.pre) :
  ∃ v w', (Instr.makeSlice T vn vm).run P w = .ok v w' ∧ After w0 M ρ H d v w' := by
 unfold makeOp at h
 split at h
 ·rename_i te a c ht hte
  simp only [D] at hn hmm
  obtain ⟨rfl, ha⟩ := hn
  obtain ⟨rfl, hc⟩ := hmm
  have hTe := rowB_ok (tabB_row hty hte)
  obtain ⟨ie, z, hi1, hi2, hi3, hi4, hi5⟩ := hTe.info
  have hu : P.underlying T = some (.slice ti.elem) := by
   have hty' := hT.ty
   rw [ht] at hty'
   unfold tyB at hty'
   split at hty'
   ·rename_i e hu; rw [hu, hT.slice e hu]
   ·cases hty'
  have finish : ∀ (l : List Seg) (es : Nat) (zs extra : List Value), es = ie.size → SegsD (dmOf H) ρ l zs → (madeCells z.cells (c.z.toNat * es)).toList = zs ++ extra → 
    (fresh stamp l (.sl stamp 0 es ⟨true, 0⟩ a) [0 ≤ a.z ∧ a.z ≤ c.z ∧ c.z * te.bytes ≤ 70368744177664] true).run H rs = some (d, rs') →
    ∃ v w', (Instr.makeSlice T (.int .i64 a.z) (.int .i64 c.z)).run P w = .ok v w' ∧ After w0 M ρ H d v w' := fun l es zs extra he hl hc' hfr => by
   subst he
   obtain ⟨hn, rfl⟩ := fresh_run hfr
   obtain ⟨p1, p2, p3⟩ := hp.1
   have hrun := run_make (P := P) w T ti.elem ie z hu hi1 hi4 .i64 .i64 a.z c.z p1 p2 (by rw [hi3, Int.mul_comm]; omega) (by simp only [InR] at hc; omega)
   refine ⟨_, _, hrun, After.alloc hm hn hl hc' (.inl rfl) rfl ?_⟩
   refine ⟨dm_new _ _ _, by simp, p1, ha, _, c.z.toNat, rfl, by omega, .inl ⟨?_, ?_⟩⟩
   ·rw [updP_same]; simp [at_]
   ·rw [updP_same]; simp [size_madeCells, Nat.mul_comm]
  split at h
  ·rename_i k hk
   have hie : ie.size = 1 := by rw [hi2, hk]; rfl
   rw [hk] at hi5
   obtain ⟨u, hu1, hu2⟩ := madeCells_zero (dm := dmOf H) hi5 rfl (c.z.toNat * 1)
   have hu3 : u = .int k 0 := by
    have := zeroB_D (dm := dmOf H) (ρ := ρ) hi5
    simp only [zero, D] at this
    rw [this.1] at hu1
    simp [Value.cells] at hu1
    exact hu1.symm
   have hle : a.z.toNat ≤ c.z.toNat := by
    obtain ⟨_, rfl⟩ := fresh_run h
    obtain ⟨p1, p2, p3⟩ := hp.1
    omega
   refine finish [.rowI k (List.replicate a.z.toNat 0)] 1 ((List.replicate a.z.toNat (0 : Int)).map (Value.int k)) (List.replicate (c.z.toNat - a.z.toNat) (.int k 0)) hie.symm ⟨_, [], ⟨allR_rep _ _, rfl⟩, by simp, rfl⟩ ?_ h
   rw [hu2, hu3]
   simp only [List.map_replicate, Nat.mul_one, List.replicate_append_replicate]
   congr 1; omega
  ·rename_i n' k hk
   have hie : ie.size = n' := by rw [hi2, hk]; simp [Ty.size]
   rw [hk] at hi5
   have hz : z.cells = ((List.replicate n' (0 : Int)).map (Value.int k)).toArray := by
    have := zeroB_D (dm := dmOf H) (ρ := ρ) hi5
    simp only [zero] at this
    split at this
    ·rw [reps_eq] at this; simp only [D] at this; rw [this.2.2]; rfl
    ·simp only [D] at this; rw [this.2.2]; rfl
   have hle : a.z.toNat ≤ c.z.toNat := by
    obtain ⟨_, rfl⟩ := fresh_run h
    obtain ⟨p1, p2, p3⟩ := hp.1
    omega
   have hall : AllA k n' (List.replicate a.z.toNat (List.replicate n' 0)) := fun y hy => by
    rw [List.eq_of_mem_replicate hy]; exact ⟨by simp, allR_rep _ _⟩
   have hflat : ∀ q : Nat, (List.replicate q (List.replicate n' (0 : Int))).flatten = List.replicate (q * n') 0 := fun q => by
    simp [List.flatten_replicate_replicate]
   refine finish [.rowA k n' (List.replicate a.z.toNat (List.replicate n' 0))] n' ((List.replicate a.z.toNat (List.replicate n' (0 : Int))).flatten.map (Value.int k)) (List.replicate ((c.z.toNat - a.z.toNat) * n') (.int k 0)) hie.symm ⟨_, [], ⟨hall, rfl⟩, by simp, rfl⟩ ?_ h
   rw [hflat, List.map_replicate, List.replicate_append_replicate, ← Nat.add_mul, show a.z.toNat + (c.z.toNat - a.z.toNat) = c.z.toNat by omega]
   rw [hz]
   unfold madeCells
   apply List.ext_getElem
   ·simp
   ·intro i h1 h2
    simp at h1
    have hn' : 0 < n' := by
     rcases Nat.eq_zero_or_pos n' with rfl | h
     ·simp at h1
     ·exact h
    have : i % n' < n' := Nat.mod_lt _ hn'
    simp [this]
  ·simp [RP.run] at h
 ·simp [RP.run] at h

/-! ### Numbers turned -/

theorem convInt_sound {Ts Td : TypeId} {k k' : IntKind} {ks : IntKind} {a : Int} (hs : P.underlying Ts = some (.int ks)) (hd : P.underlying Td = some (.int k)) : (convert Ts Td (.int k' a)).run P w = .ok (.int k (k.wrap a)) w := by
 simp [convert, run_underlying hs, run_underlying hd, Conv.intToInt]

theorem wrap_of_InR {k : IntKind} {z : Int} (h : InR k z) : k.wrap z = z := by
 cases k <;> simp [InR] at h <;> simp [IntKind.wrap, IntKind.signed, IntKind.bits] <;> (try split) <;> omega

end
end Go.Gx

/- append, copy, clear; bytes and texts. -/
namespace Go.Gx
open Go.RowKit
set_option linter.unusedVariables false

def conCells : Con → List Value
 | .ints k l => l.map (Value.int k)
 | .arrs k n l => l.flatten.map (Value.int k)

def conOk : Con → Prop
 | .ints k l => AllR k l
 | .arrs k n l => AllA k n l

theorem conCells_length {q : Con} (h : conOk q) : (conCells q).length = conLen q * conSize q := by
 cases q with
 | ints k l => simp [conCells, conLen, conSize]
 | arrs k n l => simp only [conCells, conLen, conSize, List.length_map]; rw [flatten_len h, Nat.mul_comm]

theorem conCells_one {q : Con} : ∀ v ∈ conCells q, v.oneCell' = true := by
 cases q <;> (intro v hv; simp only [conCells, List.mem_map] at hv; obtain ⟨z, _, rfl⟩ := hv; rfl)

theorem AllR.drop_take {k : IntKind} {l : List Int} (h : AllR k l) (a b : Nat) : AllR k ((l.drop a).take b) := fun z hz => h z (List.mem_of_mem_drop (List.mem_of_mem_take hz))
theorem AllA.drop_take {k : IntKind} {n : Nat} {l : List (List Int)} (h : AllA k n l) (a b : Nat) : AllA k n ((l.drop a).take b) := fun z hz => h z (List.mem_of_mem_drop (List.mem_of_mem_take hz))

theorem drop_len_add {α : Type} (x y : List α) (m : Nat) : (x ++ y).drop (x.length + m) = y.drop m := by
 induction x with
 | nil => simp
 | cons a r ih => simp only [List.length_cons, List.cons_append]; rw [show r.length + 1 + m = (r.length + m) + 1 by omega, List.drop_succ_cons, ih]
theorem take_len_add {α : Type} (x y : List α) (m : Nat) : (x ++ y).take (x.length + m) = x ++ y.take m := by
 induction x with
 | nil => simp
 | cons a r ih => simp only [List.length_cons, List.cons_append]; rw [show r.length + 1 + m = (r.length + m) + 1 by omega, List.take_succ_cons, ih]

theorem flatten_drop {k : IntKind} {n : Nat} : ∀ {l : List (List Int)} (h : AllA k n l) (a : Nat), (l.drop a).flatten = l.flatten.drop (n * a)
 | [], _, a => by simp
 | x :: r, h, 0 => by simp
 | x :: r, h, a + 1 => by
  have hx := (h x (by simp)).1
  have e : n * (a + 1) = x.length + n * a := by rw [hx, Nat.mul_add]; omega
  simp only [List.drop_succ_cons, List.flatten_cons]
  rw [flatten_drop (fun y hy => h y (by simp [hy])) a, e]
  exact (drop_len_add x _ _).symm
theorem flatten_take {k : IntKind} {n : Nat} : ∀ {l : List (List Int)} (h : AllA k n l) (a : Nat), (l.take a).flatten = l.flatten.take (n * a)
 | [], _, a => by simp
 | x :: r, h, 0 => by simp
 | x :: r, h, a + 1 => by
  have hx := (h x (by simp)).1
  have e : n * (a + 1) = x.length + n * a := by rw [hx, Nat.mul_add]; omega
  simp only [List.take_succ_cons, List.flatten_cons]
  rw [flatten_take (fun y hy => h y (by simp [hy])) a, e]
  exact (take_len_add x _ _).symm

structure ConAt (P : Program) (w : World) (v : Value) (q : Con) : Prop where
 ok : conOk q
 len : ∀ w' : World, (Builtin.lenOf v).run P w' = .ok (conLen q) w'
 at_ : ∀ ad n cap, v = .slice ad n cap → n = conLen q ∧ n ≤ cap ∧ ((conLen q = 0 ∧ cap = 0) ∨ ∃ b o, ad = some ⟨b, o, none⟩ ∧ (0 < conSize q * cap → b < w.heap.size) ∧ w.rangeAt b o (conCells q))
 cells : ∀ w' : World, (∀ a u, w.cell? a = some u → w'.cell? a = some u) → ∀ m, m ≤ conLen q → (Builtin.firstCells (conSize q) m v).run P w' = .ok ((conCells q).take (m * conSize q)).toArray w'

theorem conSeg_sound {dm : Nat → Prop} {ρ : Nat → Pl} {g : Seg} {est : Nat} {off len : SI} {p : List Prop} {q : Con} {cs : List Value} (h : conSeg g est off len = some (p, q)) (hg : SegD dm ρ g cs) (hp : AllP p) (ho : 0 ≤ off.z) (hl : 0 ≤ len.z) :
  conOk q ∧ conLen q = len.z.toNat ∧ conSize q = est ∧ conCells q = (cs.drop (est * off.z.toNat)).take (est * len.z.toNat) ∧ est * off.z.toNat + est * len.z.toNat ≤ cs.length := by
 cases g with
 | one x => simp [conSeg] at h
 | rowH key hs => simp [conSeg] at h
 | rowP key n => simp [conSeg] at h
 | rowD key sh ds => simp [conSeg] at h
 | rowI k l =>
  obtain ⟨h1, h2⟩ := hg
  simp only [conSeg] at h
  split at h
  ·rename_i hb
   have e := Nat.eq_of_beq_eq_true hb
   simp only [Option.some.injEq, Prod.mk.injEq] at h
   obtain ⟨rfl, rfl⟩ := h
   subst e
   have hb2 := hp.1
   refine ⟨h1.drop_take _ _, by simp [conLen]; omega, rfl, ?_, by rw [h2]; simp; omega⟩
   simp only [conCells, h2, Nat.one_mul, List.map_take, List.map_drop]
  ·cases h
 | arr k n ex l =>
  obtain ⟨h0, h1, h2⟩ := hg
  simp only [conSeg] at h
  split at h
  ·rename_i p' hb hpp
   have e := Nat.eq_of_beq_eq_true hb
   simp only [Option.some.injEq, Prod.mk.injEq] at h
   obtain ⟨rfl, rfl⟩ := h
   subst e
   have hb2 : off.z + len.z ≤ (n : Int) := by
    split at hpp
    ·have := (tst_some hpp).1; simpa using this
    ·simp only [Option.some.injEq] at hpp; subst hpp; exact hp.1
   refine ⟨h1.drop_take _ _, by simp [conLen]; omega, rfl, ?_, by rw [h2]; simp; omega⟩
   simp only [conCells, h2, Nat.one_mul, List.map_take, List.map_drop]
  ·cases h
 | rowA k n l =>
  obtain ⟨h1, h2⟩ := hg
  simp only [conSeg] at h
  split at h
  ·rename_i hb
   have e := Nat.eq_of_beq_eq_true hb
   simp only [Option.some.injEq, Prod.mk.injEq] at h
   obtain ⟨rfl, rfl⟩ := h
   subst e
   have hb2 := hp.1
   have hle : off.z.toNat + len.z.toNat ≤ l.length := by omega
   refine ⟨h1.drop_take _ _, by simp [conLen]; omega, rfl, ?_, ?_⟩
   ·have h1d : AllA k est (l.drop off.z.toNat) := fun y hy => h1 y (List.mem_of_mem_drop hy)
    simp only [conCells, h2]
    rw [flatten_take h1d, flatten_drop h1, List.map_take, List.map_drop]
   ·rw [h2, List.length_map, flatten_len h1, ← Nat.mul_add]
    exact Nat.mul_le_mul_left _ hle
  ·cases h

theorem bytesI_ok (s : ByteArray) : AllR .u8 (bytesI s) := fun z hz => by
 simp only [bytesI, List.mem_map] at hz
 obtain ⟨b, _, rfl⟩ := hz
 have := UInt8.toNat_lt b
 simp only [InR]; omega

theorem bytesI_length (s : ByteArray) : (bytesI s).length = s.size := by simp [bytesI]

section
variable {P : Program} {w0 : World} {M : Nat → Prop} {ρ : Nat → Pl} {H : Nat → Option SB} {w : World}

theorem firstCells_some {w' : World} (es n : Nat) (a : Addr) (len cap : Nat) (cs : List Value) (hl : cs.length = n * es) (h : ∀ j v, cs[j]? = some v → w'.cell? (a.add j) = some v) :
  (Builtin.firstCells es n (.slice (some a) len cap)).run P w' = .ok cs.toArray w' := by
 have := run_loadCells_list (P := P) w' a cs h
 rw [hl] at this
 exact this

theorem ConAt.all {v : Value} {q : Con} (h : ConAt P w v q) (w' : World) (hw : ∀ a u, w.cell? a = some u → w'.cell? a = some u) : (Builtin.firstCells (conSize q) (conLen q) v).run P w' = .ok (conCells q).toArray w' := by
 have := h.cells w' hw (conLen q) (Nat.le_refl _)
 rwa [← conCells_length h.ok, List.take_length] at this

theorem chain_arrs {w' : World} {Out : Nat → Prop} {n : Nat} {k : IntKind} : ∀ (xs : List RO) (cs : List Value), ChainR (RoD w' Out (.arr n k)) xs cs → AllA k n (xs.map roL) ∧ cs = conCells (.arrs k n (xs.map roL))
 | [], cs, h => by
  rw [show cs = [] from h]
  exact ⟨fun a ha => (by cases ha), rfl⟩
 | x :: r, cs, h => by
  obtain ⟨v, c, h1, rfl, h3⟩ := h
  simp only [RoD] at h1
  obtain ⟨a1, a2, rfl⟩ := h1
  obtain ⟨b1, rfl⟩ := chain_arrs r c h3
  refine ⟨fun a ha => ?_, by simp [conCells, Value.cells]⟩
  rw [List.map_cons] at ha
  rcases List.mem_cons.1 ha with rfl | ha
  ·exact ⟨a1, a2⟩
  ·exact b1 a ha
theorem arrs_chain {w' : World} {Out : Nat → Prop} {n : Nat} {k : IntKind} : ∀ (l : List (List Int)), AllA k n l → ChainR (RoD w' Out (.arr n k)) (l.map RO.l) (conCells (.arrs k n l))
 | [], h => rfl
 | a :: r, h => by
  obtain ⟨a1, a2⟩ := h a (by simp)
  refine ⟨.agg (a.map (Value.int k)).toArray, conCells (.arrs k n r), ?_, by simp [conCells, Value.cells], arrs_chain r fun b hb => h b (by simp [hb])⟩
  simp only [RoD]
  exact ⟨a1, a2, rfl⟩

theorem withCon_sound (hm : Mem w0 M ρ H w) {x : SV} {v : Value} (hx : D (dmOf H) ρ x v) {f : List Prop → Con → RP Delta} {d : Delta} {rs rs' : List Nat} (h : (withCon x f).run H rs = some (d, rs')) :
  ∃ p q rs1, (f p q).run H rs1 = some (d, rs') ∧ (AllP p → ConAt P w v q) := by
 unfold withCon at h
 split at h
 ·rename_i key c est off len
  simp only [D] at hx
  obtain ⟨hk, ho, hl, hr, ad, cap, rfl, hlc, hdis⟩ := hx
  simp only [RP.run] at h
  split at h
  ·rename_i ro l hkey
   split at h
   ·rename_i g hs
    split at h
    ·rename_i p q hq
     refine ⟨p, q, _, h, fun hp => ?_⟩
     obtain ⟨vs, h1, h2, h3, _⟩ := hm.segs hkey
     obtain ⟨pre, cs, post, e1, e2, e3, _, _⟩ := segAt_D l c vs g 0 h1 hs
     obtain ⟨a1, a2, a3, a4, a5⟩ := conSeg_sound hq e2 hp ho hl
     refine ⟨a1, fun w' => by rw [a2]; rfl, ?_, fun w' hw' m hm' => ?_⟩
     ·rintro ad' n' cap' hv
      cases hv
      refine ⟨a2.symm, hlc, ?_⟩
      rcases hdis with ⟨rfl, hcap⟩ | ⟨q1, q2⟩
      ·right
       refine ⟨(ρ key).blk, (ρ key).off + (c + est * off.z.toNat), rfl, fun h0 => hm.heap.lt key ro l hkey ?_, ?_⟩
       ·rw [a3] at h0; omega
       ·have hra := rangeAt_part h3 (c + est * off.z.toNat) (est * len.z.toNat)
        have heq : conCells q = (vs.drop (c + est * off.z.toNat)).take (est * len.z.toNat) := by
         rw [a4, e1, show c + est * off.z.toNat = pre.length + est * off.z.toNat by omega, drop_mid _ _ _ _ _ a5]
        rw [heq]; exact hra
      ·left
       exact ⟨by rw [a2]; omega, q2⟩
     rw [a3]
     have hcl := conCells_length a1
     rw [a3] at hcl
     have hml : m * est ≤ conLen q * est := Nat.mul_le_mul_right _ hm'
     rcases hdis with ⟨rfl, hcap⟩ | ⟨q1, q2⟩
     ·refine firstCells_some est m _ _ _ _ (by rw [List.length_take, hcl]; omega) (fun j u hu => hw' _ _ ?_)
      rw [addr_add]
      have hra := rangeAt_part h3 (c + est * off.z.toNat) (est * len.z.toNat)
      have heq : conCells q = (vs.drop (c + est * off.z.toNat)).take (est * len.z.toNat) := by
       rw [a4, e1, show c + est * off.z.toNat = pre.length + est * off.z.toNat by omega, drop_mid _ _ _ _ _ a5]
      rw [← heq] at hra
      rw [List.getElem?_take] at hu
      split at hu
      ·have := hra j u hu
       simpa [at_, Nat.add_assoc] using this
      ·cases hu
     ·have hz : len.z.toNat = 0 := by omega
      have hm0 : m = 0 := by omega
      rw [hm0]
      cases ad <;> simp [Builtin.firstCells, loadCells, loadCellsFrom]
    ·simp [RP.run] at h
   ·simp [RP.run] at h
  ·simp [RP.run] at h
 ·rename_i s
  simp only [D] at hx
  obtain ⟨rfl, hs⟩ := hx
  refine ⟨[], _, _, h, fun _ => ⟨bytesI_ok s, fun w' => by simp [Builtin.lenOf, conLen, bytesI_length], (fun ad n cap hv => by cases hv), fun w' _ m hm' => ?_⟩⟩
  simp only [conLen, bytesI_length] at hm'
  simp only [Builtin.firstCells, conSize, conCells, Nat.mul_one, Sem.run_pure]
  congr 1
  apply Array.ext'
  simp [bytesI, Function.comp_def, ByteArray.extract, ByteArray.copySlice]
 ·rename_i key sh dd
  simp only [D] at hx
  obtain ⟨hk, hrel, hF, ad, cap, rfl, hlc, hl63, hdis⟩ := hx
  simp only [RP.run] at h
  split at h
  ·rename_i hkey
   split at h
   ·rename_i k
    have hr := hm.view key hkey
    rw [hr] at hrel
    have hrel := RoD.mono hm.keeps _ _ _ hrel
    simp only [RoD] at hrel
    obtain ⟨a0, cap', q1, q2, q3, q4, q5⟩ := hrel
    simp only [Value.slice.injEq, roLen] at q1
    obtain ⟨rfl, _, rfl⟩ := q1
    refine ⟨[], _, _, h, fun _ => ⟨q4, fun w' => rfl, ?_, fun w' hw' m hm' => ?_⟩⟩
    ·rintro ad' n' cap' hv
     cases hv
     refine ⟨rfl, hlc, ?_⟩
     rcases q5 with ⟨b, o, rfl, r1, r2⟩ | ⟨r1, r2⟩
     ·exact .inr ⟨b, o, rfl, fun _ => Nat.lt_of_lt_of_le r1.1 hm.frame.size, r2⟩
     ·exact .inl ⟨r1, r2⟩
    ·simp only [conLen] at hm'
     simp only [conSize, conCells, Nat.mul_one]
     rcases q5 with ⟨b, o, rfl, r1, r2⟩ | ⟨r1, r2⟩
     ·refine firstCells_some 1 m _ _ _ _ (by rw [List.length_take, List.length_map]; omega) (fun j u hu => hw' _ _ ?_)
      have hadd : ∀ m, (⟨b, o, none⟩ : Addr).add m = ⟨b, o + m, none⟩ := fun m => by by_cases h : m = 0 <;> simp [Addr.add, h]
      rw [hadd]
      rw [List.getElem?_take] at hu
      split at hu
      ·exact r2 j u hu
      ·cases hu
     ·have hm0 : m = 0 := by omega
      rw [hm0]
      cases ad <;> simp [Builtin.firstCells, loadCells, loadCellsFrom]
   ·rename_i n k
    have hr := hm.view key hkey
    rw [hr] at hrel
    have hrel := RoD.mono hm.keeps _ _ _ hrel
    simp only [RoD] at hrel
    obtain ⟨a0, cap', cs, q1, q2, q3, q4, q5⟩ := hrel
    simp only [Value.slice.injEq, roLen] at q1
    obtain ⟨rfl, _, rfl⟩ := q1
    obtain ⟨t1, rfl⟩ := chain_arrs (w' := w) (Out := OutB w0 M) (n := n) (k := k) _ _ q4
    have hlen : ((roX dd).map roL).length = (roX dd).length := by simp
    have hcl := conCells_length (q := .arrs k n ((roX dd).map roL)) t1
    refine ⟨[], _, _, h, fun _ => ⟨t1, fun w' => by show _ = Result.ok ((roX dd).map roL).length w'; rw [hlen]; rfl, ?_, fun w' hw' m hm' => ?_⟩⟩
    ·rintro ad' n' cap' hv
     cases hv
     refine ⟨hlen.symm, hlc, ?_⟩
     rcases q5 with ⟨b, o, rfl, r1, r2⟩ | ⟨r1, r2⟩
     ·exact .inr ⟨b, o, rfl, fun _ => Nat.lt_of_lt_of_le r1.1 hm.frame.size, r2⟩
     ·exact .inl ⟨by show ((roX dd).map roL).length = 0; omega, r2⟩
    ·have hm' : m ≤ (roX dd).length := by rw [← hlen]; exact hm'
     have hcl : (conCells (.arrs k n ((roX dd).map roL))).length = (roX dd).length * n := by rw [hcl]; show ((roX dd).map roL).length * n = _; rw [hlen]
     rcases q5 with ⟨b, o, rfl, r1, r2⟩ | ⟨r1, r2⟩
     ·refine firstCells_some n m _ _ _ _ (by rw [List.length_take, hcl]; exact Nat.min_eq_left (Nat.mul_le_mul_right _ hm')) (fun j u hu => hw' _ _ ?_)
      have hadd : ∀ m, (⟨b, o, none⟩ : Addr).add m = ⟨b, o + m, none⟩ := fun m => by by_cases h : m = 0 <;> simp [Addr.add, h]
      rw [hadd]
      rw [List.getElem?_take] at hu
      split at hu
      ·exact r2 j u hu
      ·cases hu
     ·have hm0 : m = 0 := by omega
      rw [hm0]
      cases ad <;> simp [Builtin.firstCells, loadCells, loadCellsFrom]
   ·simp [RP.run] at h
  ·simp [RP.run] at h
 ·rename_i key r len
  simp only [D] at hx
  obtain ⟨hk, hrp, hl, hr, ad, cap, rfl, hlc, hdis⟩ := hx
  simp only [RP.run] at h
  split at h
  ·rename_i k ms hkey
   refine ⟨_, _, _, h, fun hp => ?_⟩
   have hle : len.z ≤ ((ms.getD r []).length : Int) := hp.1
   have hP := hm.pools.pool key k ms hkey
   have hrl : r < ms.length := by rw [← hP.cnt]; exact hrp
   have hrm : ms[r]? = some (ms.getD r []) := by rw [List.getD_eq_getElem?_getD, List.getElem?_eq_getElem hrl]; rfl
   obtain ⟨a1, a2, a3, a4⟩ := hP.rowk r _ hrm
   have hll : ((ms.getD r []).take len.z.toNat).length = len.z.toNat := by rw [List.length_take]; omega
   have hra : w.rangeAt ((ρ key).pb r) ((ρ key).po r) (((ms.getD r []).take len.z.toNat).map (Value.int k)) := fun j v hv => by
    rw [List.map_take, List.getElem?_take] at hv
    split at hv
    ·exact a3 j v hv
    ·cases hv
   refine ⟨fun z hz => a1 z (List.mem_of_mem_take hz), fun w' => by rw [show conLen (.ints k ((ms.getD r []).take len.z.toNat)) = len.z.toNat from hll]; rfl, ?_, fun w' hw' m hm' => ?_⟩
   ·rintro ad' n' cap' hv
    cases hv
    refine ⟨hll.symm, hlc, ?_⟩
    rcases hdis with ⟨rfl, hcap⟩ | ⟨q1, q2⟩
    ·exact .inr ⟨_, _, rfl, fun h0 => hP.lt r hrl (by simp [conSize] at h0; omega), hra⟩
    ·exact .inl ⟨by rw [show conLen (.ints k ((ms.getD r []).take len.z.toNat)) = len.z.toNat from hll]; omega, q2⟩
   ·have hm' : m ≤ len.z.toNat := by rw [← hll]; exact hm'
    simp only [conSize, conCells, Nat.mul_one]
    rcases hdis with ⟨rfl, hcap⟩ | ⟨q1, q2⟩
    ·refine firstCells_some 1 m _ _ _ _ (by rw [List.length_take, List.length_map, hll]; omega) (fun j u hu => hw' _ _ ?_)
     have hadd : ∀ m, (⟨(ρ key).pb r, (ρ key).po r, none⟩ : Addr).add m = ⟨(ρ key).pb r, (ρ key).po r + m, none⟩ := fun m => by by_cases h : m = 0 <;> simp [Addr.add, h]
     rw [hadd]
     rw [List.getElem?_take] at hu
     split at hu
     ·exact hra j u hu
     ·cases hu
    ·have hm0 : m = 0 := by omega
     rw [hm0]
     cases ad <;> simp [Builtin.firstCells, loadCells, loadCellsFrom]
  ·simp [RP.run] at h
 ·simp [RP.run] at h

theorem noInt_of {T2 : TypeId} {ti : TInfo} (hT : RowOk P T2 ti) (h : (match ti.ty with | .slice => true | .str => true | _ => false) = true) : (∃ e, P.underlying T2 = some (.slice e)) ∨ P.underlying T2 = some .string := by
 have h1 := hT.ty
 revert h1 h
 generalize ti.ty = t
 intro h h1
 cases t <;> simp at h <;> unfold tyB at h1 <;> split at h1 <;> first
  | (rename_i hu; exact .inr hu)
  | (rename_i hu; exact .inl ⟨_, hu⟩)
  | cases h1

theorem append_room {T T2 ty e : TypeId} {i : TypeInfo} (ht : P.underlying T = some (.slice e)) (hi : P.info? e = some i) (h2 : (∃ e, P.underlying T2 = some (.slice e)) ∨ P.underlying T2 = some .string)
  {base : Option Addr} {sLen sCap : Nat} {v : Value} {q : Con} (hq : ConAt P w v q) (hes : conSize q = i.size) (hroom : sLen + conLen q ≤ sCap) {w' : World}
  (hst : ∀ a, base = some a → (storeCells (a.add (sLen * i.size)) (conCells q)).run P w = .ok () w') (hst' : base = none → w' = w) :
  (Builtin.append_ #[T, T2] ty #[.slice base sLen sCap, v]).run P w = .ok (.slice base (sLen + conLen q) sCap) w' := by
 have hf := hq.all w (fun _ _ h => h)
 rw [hes] at hf
 have hl := hq.len
 cases base with
 | none =>
  have hw := hst' rfl
  subst hw
  rcases h2 with ⟨e2, h2⟩ | h2 <;> simp [Builtin.append_, run_underlying ht, run_underlying h2, sizeOf, typeInfo, hi, hl, hroom, hf]
 | some a =>
  have hs := hst a rfl
  rcases h2 with ⟨e2, h2⟩ | h2 <;> simp [Builtin.append_, run_underlying ht, run_underlying h2, sizeOf, typeInfo, hi, hl, hroom, hf, hs]

theorem append_grow {T T2 ty e : TypeId} {i : TypeInfo} {z : Value} (ht : P.underlying T = some (.slice e)) (hi : P.info? e = some i) (hz0 : i.zero = some z) (h2 : (∃ e, P.underlying T2 = some (.slice e)) ∨ P.underlying T2 = some .string)
  {base : Option Addr} {sLen sCap : Nat} {v : Value} {q : Con} (hq : ConAt P w v q) (hes : conSize q = i.size) (hroom : sCap < sLen + conLen q) {xs : List Value}
  (hold : (Builtin.firstCells i.size sLen (.slice base sLen sCap)).run P w.drew = .ok xs.toArray w.drew) (h63 : ((sLen + conLen q : Nat) : Int) ≤ 9223372036854775807) (hfit : Builtin.nextslicecap (sLen + conLen q) sCap * i.bytes ≤ 281474976710656) :
  (Builtin.append_ #[T, T2] ty #[.slice base sLen sCap, v]).run P w = .ok (.slice (some ⟨w.heap.size, 0, none⟩) (sLen + conLen q) (grownCap w (sLen + conLen q) sCap e))
   (w.drew.alloc (.cells (xs.toArray ++ (conCells q).toArray ++ Builtin.zeroCells z.cells (grownCap w (sLen + conLen q) sCap e - (sLen + conLen q))) e)) := by
 have hf := hq.all w.drew (fun _ _ h => by simpa using h)
 rw [hes] at hf
 have hl := hq.len
 have hn : ¬ (sLen + conLen q ≤ sCap) := by omega
 have h63' : ¬ (9223372036854775807 < ((sLen : Int) + (conLen q : Int))) := by omega
 have h48' : ¬ (281474976710656 < Builtin.nextslicecap (sLen + conLen q) sCap * i.bytes) := by omega
 rcases h2 with ⟨e2, h2⟩ | h2 <;> simp [Builtin.append_, run_underlying ht, run_underlying h2, sizeOf, typeInfo, zeroValue, hi, hz0, hl, hn, h63', h48', Question.forced, hf, hold, newRow, grownCap] <;>
  (congr 2; apply Array.ext'; simp [List.append_assoc])

/-! ### append -/

theorem conRow_D {dm : Nat → Prop} {q : Con} (h : conOk q) : SegD dm ρ (conRow q) (conCells q) := by
 cases q <;> exact ⟨h, rfl⟩

theorem conJoin_sound {a b r : Con} (h : conJoin a b = some r) (ha : conOk a) (hb : conOk b) :
  conOk r ∧ conCells r = conCells a ++ conCells b ∧ conLen r = conLen a + conLen b ∧ conSize r = conSize a ∧ conSize b = conSize a := by
 cases a with
 | ints k l =>
  cases b with
  | ints k' y =>
   simp only [conJoin] at h
   split at h
   ·rename_i e
    have := keq_eq e
    subst this
    simp only [Option.some.injEq] at h; subst h
    exact ⟨fun z hz => (List.mem_append.1 hz).elim (ha z) (hb z), by simp [conCells], by simp [conLen], rfl, rfl⟩
   ·cases h
  | arrs => simp [conJoin] at h
 | arrs k n l =>
  cases b with
  | ints => simp [conJoin] at h
  | arrs k' m y =>
   simp only [conJoin] at h
   split at h
   ·rename_i e
    simp only [Bool.and_eq_true] at e
    have e1 := keq_eq e.1
    have e2 := Nat.eq_of_beq_eq_true e.2
    subst e1 e2
    simp only [Option.some.injEq] at h; subst h
    exact ⟨fun z hz => (List.mem_append.1 hz).elim (ha z) (hb z), by simp [conCells], by simp [conLen], rfl, rfl⟩
   ·cases h

theorem Mem.virtual (h : Mem w0 M ρ H w) {key : Nat} (hn : H key = none) {l : List Seg} (hl : SegsD (dmOf H) ρ l []) : Mem w0 M (updP ρ key ({ blk := 0, off := 0, cap := 0 } : Pl)) (updH H key (.segs false l)) w := by
 have hk := updP_keeps (ρ := ρ) (p := ({ blk := 0, off := 0, cap := 0 } : Pl)) hn
 refine ⟨⟨fun k b hb => ?_, fun k k' ro ro' l1 l2 h1 h2 hkk hr c1 c2 => ?_, fun k ro l1 h1 c1 => ?_⟩, h.frame, fun k l1 h1 c1 => ?_, view_up h.view (by simp), fun k l1 h1 c1 => ?_,
  h.pools.step (fun a ha => ⟨dm_updH _ _ _ a ha, updP_keeps hn a ha⟩) (fun k kd ms hk' => by
   have e : k ≠ key := fun e => by subst e; rw [updH_same] at hk'; cases hk'
   rw [updH_ne e] at hk'
   rw [updP_ne e]; exact ⟨hk', rfl⟩)
  (fun k ro l1 h1 c1 => by
   have n1 : k ≠ key := fun e => by subst e; rw [updP_same] at c1; exact absurd c1 (by simp)
   rw [updH_ne n1] at h1; rw [updP_ne n1] at c1 ⊢; exact .inl ⟨k, ro, l1, h1, c1, rfl⟩)
  (Nat.le_refl _) (fun _ hb => hb) (fun _ _ _ _ _ _ _ _ => rfl)⟩
 ·by_cases e : k = key
  ·subst e
   rw [updH_same] at hb
   simp only [Option.some.injEq] at hb; subst hb
   exact ⟨[], SegsD.mono (dm_updH _ _ _) hk l [] hl, by simp, rangeAt_nil _ _ _, fun _ => by rw [updP_same]; exact there_zero _ _ _⟩
  ·rw [updH_ne e] at hb
   exact (h.heap.blk k b hb).of_block (dm_updH _ _ _) hk (updP_ne e) (fun _ _ _ _ => rfl)
 ·have n1 : k ≠ key := fun e => by subst e; rw [updP_same] at c1; exact absurd c1 (by simp)
  have n2 : k' ≠ key := fun e => by subst e; rw [updP_same] at c2; exact absurd c2 (by simp)
  rw [updH_ne n1] at h1; rw [updH_ne n2] at h2
  rw [updP_ne n1] at c1 ⊢; rw [updP_ne n2] at c2 ⊢
  exact h.heap.sep k k' ro ro' l1 l2 h1 h2 hkk hr c1 c2
 ·have n1 : k ≠ key := fun e => by subst e; rw [updP_same] at c1; exact absurd c1 (by simp)
  rw [updH_ne n1] at h1; rw [updP_ne n1] at c1 ⊢
  exact h.heap.lt k ro l1 h1 c1
 ·have n1 : k ≠ key := fun e => by subst e; rw [updP_same] at c1; exact absurd c1 (by simp)
  rw [updH_ne n1] at h1; rw [updP_ne n1] at c1 ⊢
  exact h.own k l1 h1 c1
 ·have n1 : k ≠ key := fun e => by subst e; rw [updP_same] at c1; exact absurd c1 (by simp)
  rw [updH_ne n1] at h1; rw [updP_ne n1] at c1 ⊢
  exact h.clean k l1 h1 c1

theorem updH_comm {H : Nat → Option SB} {a b : Nat} (hab : a ≠ b) (x y : SB) : updH (updH H a x) b y = updH (updH H b y) a x := by
 funext k
 simp only [updH]
 split <;> split <;> simp_all

theorem updH_over {H : Nat → Option SB} {a : Nat} (x y : SB) : updH (updH H a x) a y = updH H a y := by
 funext k
 simp only [updH]
 split <;> simp_all

theorem zeroB_size {t : Ty} {z : Value} (h : zeroB t z = true) : z.cells.size = t.size := by
 unfold zeroB at h
 split at h
 ·rename_i cs
  simp only [Bool.and_eq_true] at h
  obtain ⟨h1, h2⟩ := h
  split at h2
  ·rename_i e
   obtain ⟨v, a1, a2, a3, a4, _⟩ := zc_D (dm := fun _ => False) (ρ := fun _ => ({ blk := 0, off := 0, cap := 0 } : Pl)) t cs.toList [] e
   rw [← a3]
   have := congrArg List.length a2
   simpa [Value.cells] using this
  ·cases h2
 ·simp only [Bool.and_eq_true, Bool.not_eq_true'] at h
  obtain ⟨h1, h2⟩ := h
  split at h2
  ·rename_i e
   obtain ⟨v, a1, a2, a3, _, a5⟩ := zc_D (dm := fun _ => False) (ρ := fun _ => ({ blk := 0, off := 0, cap := 0 } : Pl)) t _ [] e
   have := a5 h1
   rw [this] at a2
   simp at a2
   rw [a2]; exact a3
  ·cases h2

theorem slice_of {T : TypeId} {ti : TInfo} (hT : RowOk P T ti) (ht : ti.ty = .slice) : P.underlying T = some (.slice ti.elem) := by
 have hty' := hT.ty
 rw [ht] at hty'
 unfold tyB at hty'
 split at hty'
 ·rename_i e hu; rw [hu, hT.slice e hu]
 ·cases hty'

end
end Go.Gx

/- append, copy, clear; bytes and texts: what they come to. -/
namespace Go.Gx
open Go.RowKit
set_option linter.unusedVariables false

section
variable {P : Program} {w0 : World} {M : Nat → Prop} {ρ : Nat → Pl} {H : Nat → Option SB} {w : World}

theorem appendTo_run {stamp : Nat} {te : TInfo} {old x : Con} {gone : List (Nat × SB)} {pre : List Prop} {d : Delta} {rs rs' : List Nat} (h : (appendTo stamp te old x gone pre).run H rs = some (d, rs')) :
  ∃ r, conJoin old x = some r ∧ 0 < te.bytes ∧ te.ty.size = conSize old ∧ H stamp = none ∧
   d = ⟨(((conLen r : Nat) : Int) * (te.bytes : Int) ≤ 70368744177664) :: pre, .sl stamp 0 (conSize r) ⟨true, 0⟩ ⟨false, ((conLen r : Nat) : Int)⟩, (stamp, .segs false [conRow r]) :: gone, true⟩ := by
 unfold appendTo at h
 split at h
 ·rename_i r hr hb
  simp only [Bool.and_eq_true] at hb
  simp only [RP.run] at h
  split at h
  ·rename_i hn
   refine ⟨r, hr, ?_, Nat.eq_of_beq_eq_true hb.2, hn, run_ret h⟩
   have := hb.1
   simp [Nat.blt] at this
   omega
  ·simp [RP.run] at h
 ·simp [RP.run] at h

theorem segs_one {dm : Nat → Prop} {g : Seg} {cs : List Value} (h : SegD dm ρ g cs) : SegsD dm ρ [g] cs := ⟨cs, [], h, by simp, rfl⟩

theorem sl_D {dm : Nat → Prop} {key es : Nat} {a : Option Addr} {cap : Nat} (hk : dm key) (n : Nat) (hn : (n : Int) < 9223372036854775808) (hc : n ≤ cap)
  (h : (a = some (at_ (ρ key) 0) ∧ es * cap ≤ (ρ key).cap) ∨ (n = 0 ∧ cap = 0)) : D dm ρ (.sl key 0 es ⟨true, 0⟩ ⟨false, (n : Int)⟩) (.slice a n cap) := by
 refine ⟨hk, by simp, by simp, by simp only [InR]; omega, a, cap, by simp, by simpa using hc, ?_⟩
 rcases h with ⟨h1, h2⟩ | ⟨h1, h2⟩
 ·exact .inl ⟨by simpa using h1, by simpa using h2⟩
 ·exact .inr ⟨by simpa using h1, h2⟩

theorem grow_after (hm : Mem w0 M ρ H w) {stamp : Nat} (hn : H stamp = none) {te : TInfo} {ie : TypeInfo} {z : Value} (hz1 : z.cells.size = ie.size) {e : TypeId} {old x r : Con} (hr : conJoin old x = some r) (h1 : conOk old) (h2 : conOk x)
  (hes : conSize old = ie.size) {sLen sCap : Nat} (hl : sLen = conLen old) (hg : sCap < sLen + conLen x) (hb : 0 < ie.bytes) (hpre : ((conLen r : Nat) : Int) * (ie.bytes : Int) ≤ 70368744177664)
  {d : Delta} (hdv : d.v = .sl stamp 0 (conSize r) ⟨true, 0⟩ ⟨false, ((conLen r : Nat) : Int)⟩) (hws : d.ws = [(stamp, .segs false [conRow r])] ∨ ∃ key, (H key).isSome = true ∧ d.ws = [(stamp, .segs false [conRow r]), (key, .gone)]) :
  After w0 M ρ H d (.slice (some ⟨w.heap.size, 0, none⟩) (sLen + conLen x) (grownCap w (sLen + conLen x) sCap e))
   (w.drew.alloc (.cells ((conCells old).toArray ++ (conCells x).toArray ++ Builtin.zeroCells z.cells (grownCap w (sLen + conLen x) sCap e - (sLen + conLen x))) e)) := by
 obtain ⟨q1, q2, q3, q4, q5⟩ := conJoin_sound hr h1 h2
 have hge := grownCap_ge w (sLen + conLen x) sCap e
 generalize grownCap w (sLen + conLen x) sCap e = cp at *
 have hd : Mem w0 M ρ H w.drew := hm.drew _
 have hlen : conLen r = sLen + conLen x := by rw [q3, hl]
 have hsmall : (conLen r : Int) < 9223372036854775808 := by
  have : (conLen r : Int) * 1 ≤ (conLen r : Int) * (ie.bytes : Int) := Int.mul_le_mul_of_nonneg_left (by omega) (by omega)
  omega
 have hal := hd.alloc hn (segs_one (conRow_D (ρ := ρ) (dm := dmOf H) q1)) (cells := (conCells old).toArray ++ (conCells x).toArray ++ Builtin.zeroCells z.cells (cp - (sLen + conLen x)))
  (T := e) (fr := (0, 0)) (extra := (Builtin.zeroCells z.cells (cp - (sLen + conLen x))).toList) (by simp [q2]) (.inl rfl)
 have hsz : ((conCells old).toArray ++ (conCells x).toArray ++ Builtin.zeroCells z.cells (cp - (sLen + conLen x))).size = conSize r * cp := by
  have e1 := conCells_length h1
  have e2 := conCells_length h2
  rw [q5, hes] at e2
  rw [hes] at e1
  simp only [Array.size_append, List.size_toArray, Builtin.zeroCells, Array.size_map, Array.size_range, e1, e2, hz1, q4, hes]
  rw [← Nat.add_mul, ← Nat.add_mul, ← hl, Nat.add_sub_cancel' hge, Nat.mul_comm]
 have hD : ∀ (dm : Nat → Prop), dm stamp → D dm (updP ρ stamp ({ blk := w.drew.heap.size, off := 0, cap := ((conCells old).toArray ++ (conCells x).toArray ++ Builtin.zeroCells z.cells (cp - (sLen + conLen x))).size } : Pl)) d.v (.slice (some ⟨w.heap.size, 0, none⟩) (sLen + conLen x) cp) := fun dm hs => by
  rw [hdv, hlen]
  refine sl_D hs _ (by omega) hge (.inl ⟨?_, ?_⟩)
  ·rw [updP_same]; rfl
  ·rw [updP_same, hsz]; exact Nat.le_refl _
 rcases hws with hws | ⟨key, hk, hws⟩
 ·exact ⟨_, updP_keeps hn, hD _ (by rw [hws]; exact dm_new _ _ _), by rw [hws]; exact hal⟩
 ·exact ⟨_, updP_keeps hn, hD _ (by rw [hws]; exact dm_updH _ _ _ _ (dm_new _ _ _)), by rw [hws]; exact hal.gone key (dm_updH _ _ _ key hk)⟩

theorem append_sound {T T2 tyy : TypeId} {ti ti2 : TInfo} {ty : List (Nat × TInfo)} (hT : RowOk P T ti) (hT2 : RowOk P T2 ti2) (hty : tabB P ty = true) (hm : Mem w0 M ρ H w) {stamp : Nat} {s x : SV} {vs vx : Value} (hs : D (dmOf H) ρ s vs) (hx : D (dmOf H) ρ x vx)
  {d : Delta} {rs rs' : List Nat} (h : (appendOp ty stamp ti ti2 s x).run H rs = some (d, rs')) (hp : AllP d.pre) :
  ∃ v w', (Builtin.append_ #[T, T2] tyy #[vs, vx]).run P w = .ok v w' ∧ After w0 M ρ H d v w' := by
 unfold appendOp at h
 split at h
 ·rename_i te ht hte hsq
  have hTe := rowB_ok (tabB_row hty hte)
  obtain ⟨ie, z, hi1, hi2, hi3, hi4, hi5⟩ := hTe.info
  have hu := slice_of hT ht
  have hz1 : z.cells.size = ie.size := by rw [zeroB_size hi5, hi2]
  have h2 := noInt_of hT2 (show (match ti2.ty with | .slice => true | .str => true | _ => false) = true from hsq)
  split at h
  ·-- nil
   simp only [D] at hs
   subst hs
   split at h
   ·rename_i old hold
    obtain ⟨p, q, rs1, hw, hq⟩ := withCon_sound (P := P) hm hx h
    obtain ⟨r, hr, hb, hsz, hn, rfl⟩ := appendTo_run hw
    have hq := hq hp.2
    have hok : conOk old ∧ conLen old = 0 ∧ conCells old = [] := by
     unfold emptyCon at hold
     split at hold <;> simp only [Option.some.injEq, reduceCtorEq] at hold <;> subst hold
     ·exact ⟨fun z hz => by simp at hz, rfl, rfl⟩
     ·exact ⟨fun z hz => by simp at hz, rfl, rfl⟩
    obtain ⟨q1, q2, q3, q4, q5⟩ := conJoin_sound hr hok.1 hq.ok
    have hes : conSize q = ie.size := by rw [q5, ← hsz, hi2]
    rcases Nat.eq_zero_or_pos (conLen q) with h0 | h0
    ·have hc0 : conCells q = [] := List.eq_nil_of_length_eq_zero (by rw [conCells_length hq.ok, h0]; simp)
     refine ⟨_, w, append_room hu hi1 h2 hq hes (by omega) (fun a ha => by cases ha) (fun _ => rfl), updP ρ stamp ({ blk := 0, off := 0, cap := 0 } : Pl), updP_keeps hn, ?_, ?_⟩
     ·have : conLen r = 0 + conLen q := by rw [q3, hok.2.1]
      rw [this]
      exact sl_D (dm_new _ _ _) _ (by omega) (by omega) (.inr ⟨by omega, rfl⟩)
     ·exact hm.virtual hn (by have := segs_one (conRow_D (ρ := ρ) (dm := dmOf H) q1); rwa [q2, hok.2.2, hc0] at this)
    ·have hlr : conLen r = 0 + conLen q := by rw [q3, hok.2.1]
     have hb' : ((conLen r : Nat) : Int) * (ie.bytes : Int) ≤ 70368744177664 := by rw [hi3]; exact hp.1
     have hbn : (0 + conLen q) * ie.bytes ≤ 140737488355328 := by
      rw [← hlr]
      have : ((conLen r * ie.bytes : Nat) : Int) ≤ 70368744177664 := by simpa using hb'
      omega
     refine ⟨_, _, append_grow (xs := []) hu hi1 hi4 h2 hq hes (by omega) (by simp [Builtin.firstCells]) ?_ (growslice_fits (by omega) hbn), ?_⟩
     ·have : (0 + conLen q) * 1 ≤ (0 + conLen q) * ie.bytes := Nat.mul_le_mul_left _ (by omega)
      omega
     ·have := grow_after (e := ti.elem) (te := te) hm hn hz1 hr hok.1 hq.ok (by rw [← hsz, hi2]) (sLen := 0) (sCap := 0) hok.2.1.symm (by omega) (by omega) hb' (d := ⟨(((conLen r : Nat) : Int) * (te.bytes : Int) ≤ 70368744177664) :: p, _, _, true⟩) rfl (.inl rfl)
      rw [hok.2.2] at this
      exact this
   ·simp [RP.run] at h
  ·-- a row of the call's own
   rename_i key est len
   simp only [D] at hs
   obtain ⟨hk, ho, hl, hr0, ad, cap, rfl, hlc, hdis⟩ := hs
   simp only [RP.run] at h
   split at h
   ·rename_i g hkey
    split at h
    ·rename_i old hold
     split at h
     ·rename_i hest
      have hest := Nat.eq_of_beq_eq_true hest
      obtain ⟨p, q, rs1, hw, hq⟩ := withCon_sound (P := P) hm hx h
      obtain ⟨r, hr, hb, hsz, hn, rfl⟩ := appendTo_run hw
      have hq := hq hp.2.2
      have hlz := hp.2.1
      obtain ⟨vs, h1, h3, h4, h5⟩ := hm.segs hkey
      obtain ⟨c1, c2, e1, e2, e3⟩ := h1
      have e4 : c2 = [] := e3
      subst e4
      simp only [List.append_nil] at e2
      subst e2
      have hok : conOk old ∧ conCells old = vs ∧ conRow old = g := by
       cases g <;> simp only [rowCon, Option.some.injEq, reduceCtorEq] at hold <;> subst hold <;> exact ⟨e1.1, e1.2.symm, rfl⟩
      obtain ⟨q1, q2, q3, q4, q5⟩ := conJoin_sound hr hok.1 hq.ok
      have hes : conSize q = ie.size := by rw [q5, ← hsz, hi2]
      have hlen : len.z.toNat = conLen old := by omega
      have hcl := conCells_length hok.1
      have hlr : conLen r = len.z.toNat + conLen q := by rw [q3, hlen]
      have hb' : ((conLen r : Nat) : Int) * (ie.bytes : Int) ≤ 70368744177664 := by rw [hi3]; exact hp.1
      have hbn : (len.z.toNat + conLen q) * ie.bytes ≤ 140737488355328 := by
       rw [← hlr]; have : ((conLen r * ie.bytes : Nat) : Int) ≤ 70368744177664 := by simpa using hb'
       omega
      have hsmall : len.z.toNat + conLen q ≤ 140737488355328 := by
       have : (len.z.toNat + conLen q) * 1 ≤ (len.z.toNat + conLen q) * ie.bytes := Nat.mul_le_mul_left _ (by omega)
       omega
      rcases Nat.lt_or_ge cap (len.z.toNat + conLen q) with hroom | hroom
      ·-- it grows
       refine ⟨_, _, append_grow (xs := conCells old) hu hi1 hi4 h2 hq hes (by omega) ?_ (by omega) (growslice_fits (by omega) hbn), ?_⟩
       ·rcases hdis with ⟨rfl, hcap⟩ | ⟨d1, d2⟩
        ·refine firstCells_some _ _ _ _ _ _ (by rw [hcl, ← hsz, hi2, hlen]) (fun j u hu2 => ?_)
         rw [addr_add]
         rw [hok.2.1] at hu2
         have := h4 j u hu2
         simpa [at_] using this
        ·have : conCells old = [] := List.eq_nil_of_length_eq_zero (by rw [hcl, ← hlen, d1]; simp)
         rw [this, d1]
         cases ad <;> simp [Builtin.firstCells, loadCells, loadCellsFrom]
       ·exact grow_after (e := ti.elem) (te := te) hm hn hz1 hr hok.1 hq.ok (by rw [← hsz, hi2]) hlen (by omega) (by omega) hb' (d := ⟨(((conLen r : Nat) : Int) * (te.bytes : Int) ≤ 70368744177664) :: (len.z = ((conLen old : Nat) : Int)) :: p, _, _, true⟩) rfl (.inr ⟨key, by rw [hkey]; rfl, rfl⟩)
      ·rcases hdis with ⟨rfl, hcap⟩ | ⟨d1, d2⟩
       ·-- there is room
        have hcap' : conSize old * cap ≤ (ρ key).cap := by rw [← hest]; simpa using hcap
        have hfit : (conCells old).length + (conCells q).length ≤ (ρ key).cap := by
         rw [hcl, conCells_length hq.ok, q5, ← Nat.add_mul, Nat.mul_comm, ← hlen]
         exact Nat.le_trans (Nat.mul_le_mul_left _ hroom) hcap'
        have hclen : (conCells old).length = len.z.toNat * ie.size := by rw [hcl, ← hsz, hi2, hlen]
        have hth := h5 rfl
        have hst := run_storeCells_cells (P := P) (ρ key).blk ((ρ key).off + len.z.toNat * ie.size) (conCells q) 0 w
         (fun j hj => by have := (hth (len.z.toNat * ie.size + j) (by omega)).1; simpa [Nat.add_assoc] using this)
         (fun j hj => by have := (hth (len.z.toNat * ie.size + j) (by omega)).2; simpa [Nat.add_assoc] using this) conCells_one
        simp only [Nat.add_zero] at hst
        refine ⟨_, w.setCells (ρ key).blk ((ρ key).off + len.z.toNat * ie.size) (conCells q), append_room hu hi1 h2 hq hes hroom (fun a ha => ?_) (fun ha => by cases ha), ?_⟩
        ·simp only [Option.some.injEq] at ha
         subst ha
         rw [addr_add]
         simpa [at_] using hst
        ·have hmm := hm.store (nv := conCells q) (o := len.z.toNat * ie.size) (vs' := conCells r) (l' := [conRow r]) hkey h4 (by rw [← hok.2.1]; omega) (by omega) h3
          (by rw [← hok.2.1, ← hclen, List.take_length, List.drop_eq_nil_of_le (by omega), List.append_nil, q2]) (segs_one (conRow_D q1))
         have hn' : updH H key (.segs false [conRow r]) stamp = none := by
          rw [updH_ne]; exact hn
          intro e; rw [e, hkey] at hn; cases hn
         have hne : stamp ≠ key := fun e => by rw [e, hkey] at hn; cases hn
         have hre := hmm.rekey (new := stamp) (updH_same _ _ _) hn'
         rw [updH_over, updH_comm (Ne.symm hne)] at hre
         refine ⟨updP ρ stamp (ρ key), updP_keeps hn, ?_, hre⟩
         rw [hlr]
         refine sl_D (dm_updH _ _ _ _ (dm_new _ _ _)) _ (by omega) hroom (.inl ⟨?_, ?_⟩)
         ·rw [updP_same]; simp
         ·rw [updP_same, q4]; exact hcap'
       ·-- nothing to nothing
        have hq0 : conLen q = 0 := by omega
        have hc0 : conCells q = [] := List.eq_nil_of_length_eq_zero (by rw [conCells_length hq.ok, hq0]; simp)
        have ho0 : conCells old = [] := List.eq_nil_of_length_eq_zero (by rw [hcl, ← hlen, d1]; simp)
        refine ⟨_, w, append_room hu hi1 h2 hq hes hroom (fun a ha => by rw [hc0]; rfl) (fun _ => rfl), updP ρ stamp ({ blk := 0, off := 0, cap := 0 } : Pl), updP_keeps hn, ?_, ?_⟩
        ·rw [hlr]
         exact sl_D (dm_updH _ _ _ _ (dm_new _ _ _)) _ (by omega) hroom (.inr ⟨by omega, d2⟩)
        ·have hv := hm.virtual hn (by have := segs_one (conRow_D (ρ := ρ) (dm := dmOf H) q1); rwa [q2, ho0, hc0] at this)
         exact hv.gone key (dm_updH _ _ _ key (by rw [dmOf, hkey]; rfl))
     ·simp [RP.run] at h
    ·simp [RP.run] at h
   ·simp [RP.run] at h
  ·simp [RP.run] at h
 ·simp [RP.run] at h

end
end Go.Gx
