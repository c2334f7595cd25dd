/- Writing pieces; places that are reckoned. -/
import Derived.Test.YtihihilhfijloaaDoorOpsB
namespace Go.Gx
open Go.RowKit
set_option linter.unusedVariables false

theorem map_over {α β : Type} (f : α → β) (l ys : List α) (c : Nat) : (over l c ys).map f = over (l.map f) c (ys.map f) := by
  unfold over; simp [List.map_take, List.map_drop]

theorem over_self {α : Type} (l ys : List α) (h : ys.length = l.length) : over l 0 ys = ys := by
  unfold over; simp [h]

/-- What a piece stored into another one leaves. -/
theorem putSeg_sound {dm : Nat → Prop} {ρ : Nat → Pl} {g g' x : Seg} {j : Nat} {p : List Prop} {cs ys : List Value} (h : putSeg g j x = some (p, g')) (hp : AllP p)
    (hg : SegD dm ρ g cs) (hx : SegD dm ρ x ys) (hj : ∀ n, segLen g = some n → j < n) : SegD dm ρ g' (over cs j ys) ∧ j + ys.length ≤ cs.length ∧ ys.length = segSize x := by
  cases x with
  | one v =>
    obtain ⟨hv1, u, hv2, hv3⟩ := hx
    have hyl : ys.length = 1 := by rw [hv3]; rfl
    cases g with
    | one y =>
      simp only [putSeg, Option.some.injEq, Prod.mk.injEq] at h
      obtain ⟨_, rfl⟩ := h
      obtain ⟨_, v0, _, h3⟩ := hg
      have hj0 : j = 0 := by have := hj 1 rfl; omega
      subst hj0
      refine ⟨⟨hv1, u, hv2, ?_⟩, by rw [h3, hyl]; simp, hyl⟩
      rw [over_self _ _ (by rw [h3, hyl]; rfl), hv3]
    | arr k n ex l =>
      obtain ⟨h1, h2, h3⟩ := hg
      have hjl : j < l.length := by rw [h1]; exact hj n rfl
      cases v with
      | i k' a =>
        simp only [putSeg] at h
        split at h
        · rename_i l' hk hs
          simp only [Option.some.injEq, Prod.mk.injEq] at h
          obtain ⟨_, rfl⟩ := h
          have hkk := keq_eq hk; subst hkk
          have hl := setI_some hs
          simp only [D] at hv2
          obtain ⟨hu, hr⟩ := hv2
          refine ⟨⟨by rw [hl]; simpa using h1, by rw [hl]; exact h2.set hr, ?_⟩, by rw [h3, hyl]; simp; omega, hyl⟩
          rw [hl, set_over _ _ _ hjl, map_over, h3, hv3, hu]; rfl
        · cases h
      | _ => simp [putSeg] at h
    | rowI k l =>
      obtain ⟨h2, h3⟩ := hg
      cases v with
      | i k' a =>
        simp only [putSeg] at h
        split at h
        · rename_i hk
          simp only [Option.some.injEq, Prod.mk.injEq] at h
          obtain ⟨rfl, rfl⟩ := h
          have hkk := keq_eq hk; subst hkk
          have hjl : j < l.length := hp.1
          simp only [D] at hv2
          obtain ⟨hu, hr⟩ := hv2
          refine ⟨⟨h2.set hr, ?_⟩, by rw [h3, hyl]; simp; omega, hyl⟩
          rw [set_over _ _ _ hjl, map_over, h3, hv3, hu]; rfl
        · cases h
      | _ => simp [putSeg] at h
    | rowA k n l =>
      obtain ⟨h2, h3⟩ := hg
      have hfl := flatten_len h2
      cases v with
      | i k' a =>
        simp only [putSeg] at h
        split at h
        · rename_i hb
          simp only [Bool.and_eq_true] at hb
          have hkk := keq_eq hb.1; subst hkk
          have hn : 0 < n := by have := hb.2; simp [Nat.blt] at this; omega
          simp only [Option.some.injEq, Prod.mk.injEq] at h
          obtain ⟨rfl, rfl⟩ := h
          have hi : j / n < l.length := hp.1
          have hm : j % n < n := Nat.mod_lt _ hn
          have hel := h2 _ (List.getElem_mem hi)
          have hdm := Nat.div_add_mod j n
          have hget : l.getD (j / n) [] = l[j / n] := by simp [List.getD, hi]
          simp only [D] at hv2
          obtain ⟨hu, hr⟩ := hv2
          have hjf : j + 1 ≤ l.flatten.length := by
            rw [hfl]
            have := Nat.mul_le_mul_left n (show j / n + 1 ≤ l.length from hi)
            rw [Nat.mul_add] at this; omega
          refine ⟨⟨AllA.set h2 (by rw [hget]; simpa using hel.1) (by rw [hget]; exact hel.2.set hr), ?_⟩, by rw [h3, hyl, List.length_map]; omega, hyl⟩
          have hlen2 : (l[j / n].set (j % n) a.z).length = n := by simpa using hel.1
          rw [hget, flatten_set h2 hi hlen2, h3, hv3, hu]
          rw [show [Value.int k a.z] = [a.z].map (Value.int k) from rfl, ← map_over]
          congr 1
          -- one number in the middle of its array
          have hat := flatten_at h2 hi
          have hnl : n * (j / n) + n ≤ l.flatten.length := by
            rw [hfl]
            have := Nat.mul_le_mul_left n (show j / n + 1 ≤ l.length from hi)
            rwa [Nat.mul_add, Nat.mul_one] at this
          have hsplit : l.flatten = l.flatten.take (n * (j / n)) ++ l[j / n] ++ l.flatten.drop (n * (j / n) + n) := by
            rw [← hat, List.append_assoc, ← List.drop_drop, List.take_append_drop, List.take_append_drop]
          have hpl : (l.flatten.take (n * (j / n))).length = n * (j / n) := by simp only [List.length_take]; omega
          have h5 := over_mid (l.flatten.take (n * (j / n))) l[j / n] (l.flatten.drop (n * (j / n) + n)) [a.z] (j % n) (by rw [hel.1]; simp; omega)
          rw [← hsplit, hpl, hdm] at h5
          rw [h5, set_over _ _ _ (by rw [hel.1]; exact hm)]
          unfold over
          have h6 : ((l[j / n]).take (j % n) ++ [a.z] ++ (l[j / n]).drop (j % n + [a.z].length)).length = n := by
            have := over_length (vs := l[j / n]) (ys := [a.z]) (c := j % n) (by rw [hel.1]; simp; omega)
            unfold over at this; rw [this]; exact hel.1
          rw [h6]
        · cases h
      | _ => simp [putSeg] at h
  | arr k' m ex' y =>
    obtain ⟨hy1, hy2, hy3⟩ := hx
    have hyl : ys.length = m := by rw [hy3]; simpa using hy1
    cases g with
    | one v => simp [putSeg] at h
    | arr k n ex l =>
      obtain ⟨h1, h2, h3⟩ := hg
      simp only [putSeg] at h
      split at h
      · rename_i hb
        simp only [Bool.and_eq_true] at hb
        obtain ⟨⟨b1, b2⟩, b3⟩ := hb
        have e1 := keq_eq b1
        have e2 := Nat.eq_of_beq_eq_true b2
        have e3 := Nat.eq_of_beq_eq_true b3
        simp only [Option.some.injEq, Prod.mk.injEq] at h
        obtain ⟨_, rfl⟩ := h
        subst e1 e2 e3
        have hcl : cs.length = n := by rw [h3]; simpa using h1
        exact ⟨⟨hy1, hy2, by rw [over_self _ _ (by omega), hy3]⟩, by omega, hyl⟩
      · cases h
    | rowI k l => simp [putSeg] at h
    | rowA k n l =>
      obtain ⟨h2, h3⟩ := hg
      have hfl := flatten_len h2
      simp only [putSeg] at h
      split at h
      · rename_i hb
        simp only [Bool.and_eq_true] at hb
        obtain ⟨⟨b1, b2⟩, b3⟩ := hb
        have e1 := keq_eq b1
        have e2 := Nat.eq_of_beq_eq_true b2
        have e3 := Nat.eq_of_beq_eq_true b3
        simp only [Option.some.injEq, Prod.mk.injEq] at h
        obtain ⟨rfl, rfl⟩ := h
        subst e1 e2
        have hi : j / n < l.length := hp.1
        have hdm := Nat.div_add_mod j n
        rw [e3, Nat.add_zero] at hdm
        have hjf : j + n ≤ l.flatten.length := by
          rw [hfl]
          have := Nat.mul_le_mul_left n (show j / n + 1 ≤ l.length from hi)
          rw [Nat.mul_add] at this; omega
        refine ⟨⟨AllA.set h2 hy1 hy2, ?_⟩, by rw [h3, List.length_map, hyl]; exact hjf, hyl⟩
        rw [flatten_set h2 hi hy1, hdm, map_over, h3, hy3]
      · cases h
  | rowI k l => cases g <;> simp [putSeg] at h
  | rowA k n l => cases g <;> simp [putSeg] at h

theorem writeSegs_sound {dm : Nat → Prop} {ρ : Nat → Pl} : ∀ (xs : List Seg) (l l' : List Seg) (c : Nat) (p : List Prop) (vs ys : List Value), writeSegs l c xs = some (p, l') → AllP p →
    SegsD dm ρ l vs → SegsD dm ρ xs ys → SegsD dm ρ l' (over vs c ys) ∧ (c + ys.length ≤ vs.length ∨ xs = [])
  | [], l, l', c, p, vs, ys, h, hp, hl, hx => by
    simp only [writeSegs, Option.some.injEq, Prod.mk.injEq] at h
    obtain ⟨_, rfl⟩ := h
    rw [show ys = [] from hx, over_nil]
    exact ⟨hl, .inr rfl⟩
  | x :: r, l, l', c, p, vs, ys, h, hp, hl, hx => by
    obtain ⟨y1, y2, hx1, rfl, hx2⟩ := hx
    simp only [writeSegs] at h
    split at h
    · rename_i g j hs
      split at h
      · rename_i p1 g' hput
        split at h
        · rename_i l1 hset
          split at h
          · rename_i q l2 hrec
            simp only [Option.some.injEq, Prod.mk.injEq] at h
            obtain ⟨rfl, rfl⟩ := h
            obtain ⟨hp1, hp2⟩ := AllP.append hp
            obtain ⟨pre, cs, post, e1, e2, e3, e4, e5⟩ := segAt_D l c vs g j hl hs
            obtain ⟨a1, a2, a3⟩ := putSeg_sound hput hp1 e2 hx1 e4
            have hb : c + y1.length ≤ vs.length := by rw [e1]; simp; omega
            have h1 : SegsD dm ρ l1 (over vs c y1) := by
              rw [e1, ← e3, over_mid _ _ _ _ _ a2]
              exact e5 g' _ l1 hset a1
            obtain ⟨b1, b2⟩ := writeSegs_sound r l1 l2 (c + segSize x) q (over vs c y1) y2 hrec hp2 h1 hx2
            rw [← a3, over_over _ _ _ _ hb] at b1
            refine ⟨b1, .inl ?_⟩
            rcases b2 with b2 | rfl
            · rw [over_length hb, ← a3] at b2; simp; omega
            · rw [show y2 = [] from hx2]; simpa using hb
          · cases h
        · cases h
      · cases h
    · cases h

/-! ### Places that are reckoned -/

theorem toNat_lt {x : Int} {n : Nat} (h : 0 ≤ x ∧ x < (n : Int)) : x.toNat < n := by omega

theorem readDyn_sound {dm : Nat → Prop} {ρ : Nat → Pl} {g : Seg} {x : Int} {j est : Nat} {t : Ty} {p : List Prop} {v : SV} {cs : List Value} (h : readDyn g x j est t = some (p, v)) (hp : AllP p)
    (hg : SegD dm ρ g cs) : ReadOk dm ρ v t cs (est * x.toNat + j) := by
  have one : ∀ (k : IntKind) (l : List Int), AllR k l → cs = l.map (Value.int k) → x.toNat < l.length → ReadOk dm ρ (.i k ⟨false, l.getD x.toNat 0⟩) (.int k) cs (1 * x.toNat + 0) := fun k l h2 h3 hx => by
    have hzz : l.getD x.toNat 0 = l[x.toNat] := by simp [List.getD, hx]
    have hjc : x.toNat < cs.length := by rw [h3]; simpa using hx
    refine ⟨.int k (l.getD x.toNat 0), ⟨rfl, by rw [hzz]; exact h2.at hx⟩, ?_, by simp [Ty.size]; omega, (fun hr' => by cases hr'), fun _ => rfl⟩
    show [Value.int k _] = (cs.drop (1 * x.toNat + 0)).take 1
    rw [Nat.one_mul, Nat.add_zero, drop_take_one hjc]
    simp only [h3, List.getElem_map, hzz]
  cases g with
  | one y => simp [readDyn] at h
  | arr k n ex l =>
    obtain ⟨h1, h2, h3⟩ := hg
    cases t with
    | int k' =>
      simp only [readDyn] at h
      split at h
      · rename_i hb
        simp only [Bool.and_eq_true] at hb
        obtain ⟨⟨b1, b2⟩, b3⟩ := hb
        have e1 := keq_eq b1
        have e2 := Nat.eq_of_beq_eq_true b2
        have e3 := Nat.eq_of_beq_eq_true b3
        simp only [Option.some.injEq, Prod.mk.injEq] at h
        obtain ⟨rfl, rfl⟩ := h
        subst e1 e2 e3
        exact one k l h2 h3 (by rw [h1]; exact toNat_lt hp.1)
      · cases h
    | _ => simp [readDyn] at h
  | rowI k l =>
    obtain ⟨h2, h3⟩ := hg
    cases t with
    | int k' =>
      simp only [readDyn] at h
      split at h
      · rename_i hb
        simp only [Bool.and_eq_true] at hb
        obtain ⟨⟨b1, b2⟩, b3⟩ := hb
        have e1 := keq_eq b1
        have e2 := Nat.eq_of_beq_eq_true b2
        have e3 := Nat.eq_of_beq_eq_true b3
        simp only [Option.some.injEq, Prod.mk.injEq] at h
        obtain ⟨rfl, rfl⟩ := h
        subst e1 e2 e3
        exact one k l h2 h3 (toNat_lt hp.1)
      · cases h
    | _ => simp [readDyn] at h
  | rowA k n l =>
    obtain ⟨h2, h3⟩ := hg
    have hfl := flatten_len h2
    cases t with
    | int k' =>
      simp only [readDyn] at h
      split at h
      · rename_i hb
        simp only [Bool.and_eq_true] at hb
        obtain ⟨⟨b1, b2⟩, b3⟩ := hb
        have e1 := keq_eq b1
        have e2 := Nat.eq_of_beq_eq_true b2
        have hjn : j < n := by simp [Nat.blt] at b3; omega
        simp only [Option.some.injEq, Prod.mk.injEq] at h
        obtain ⟨rfl, rfl⟩ := h
        subst e1 e2
        have hi : x.toNat < l.length := toNat_lt hp.1
        have hel := h2 _ (List.getElem_mem hi)
        have hat := flatten_at h2 hi
        have hget : l.getD x.toNat [] = l[x.toNat] := by simp [List.getD, hi]
        have hjf : n * x.toNat + j < l.flatten.length := by
          rw [hfl]
          have := Nat.mul_le_mul_left n (show x.toNat + 1 ≤ l.length from hi)
          rw [Nat.mul_add] at this; omega
        have hjc : n * x.toNat + j < cs.length := by rw [h3, List.length_map]; exact hjf
        have hz : l.flatten[n * x.toNat + j] = (l[x.toNat])[j]'(by omega) := by
          have e1 : l.flatten[n * x.toNat + j]? = ((l.flatten.drop (n * x.toNat)).take n)[j]? := by
            rw [List.getElem?_take, if_pos hjn, List.getElem?_drop]
          rw [hat, List.getElem?_eq_getElem hjf, List.getElem?_eq_getElem (by omega)] at e1
          simpa using e1
        have hzz : (l.getD x.toNat []).getD j 0 = l.flatten[n * x.toNat + j] := by
          rw [hz, hget]; simp [List.getD, hel.1, hjn]
        refine ⟨.int k ((l.getD x.toNat []).getD j 0), ⟨rfl, ?_⟩, ?_, by simp [Ty.size]; omega, (fun hr' => by cases hr'), fun _ => rfl⟩
        · rw [hzz, hz]; exact hel.2.at (by omega)
        · show [Value.int k _] = (cs.drop (n * x.toNat + j)).take 1
          rw [drop_take_one hjc]
          simp only [h3, List.getElem_map, hzz]
      · cases h
    | arr m e =>
      cases e with
      | int k' =>
        simp only [readDyn] at h
        split at h
        · rename_i hb
          simp only [Bool.and_eq_true] at hb
          obtain ⟨⟨⟨b1, b2⟩, b3⟩, b4⟩ := hb
          have e1 := keq_eq b1
          have e2 := Nat.eq_of_beq_eq_true b2
          have e3 := Nat.eq_of_beq_eq_true b3
          have e4 := Nat.eq_of_beq_eq_true b4
          simp only [Option.some.injEq, Prod.mk.injEq] at h
          obtain ⟨rfl, rfl⟩ := h
          subst e1 e2 e3 e4
          have hi : x.toNat < l.length := toNat_lt hp.1
          have hel := h2 _ (List.getElem_mem hi)
          have hat := flatten_at h2 hi
          have hget : l.getD x.toNat [] = l[x.toNat] := by simp [List.getD, hi]
          have hall : getAll (l.getD x.toNat []) n 0 = l[x.toNat] := by
            rw [hget, getAll_eq n 0 _ (by omega), List.drop_zero, List.take_of_length_le (by omega)]
          have hjf : n * x.toNat + n ≤ l.flatten.length := by
            rw [hfl]
            have := Nat.mul_le_mul_left n (show x.toNat + 1 ≤ l.length from hi)
            rw [Nat.mul_add] at this; omega
          have hjc : n * x.toNat + n ≤ cs.length := by rw [h3, List.length_map]; exact hjf
          refine ⟨.agg ((l[x.toNat]).map (Value.int k)).toArray, ?_, ?_, by simp [Ty.size]; omega, (fun _ => ⟨_, rfl⟩), (fun hr' => by cases hr')⟩
          · rw [hall]; exact ⟨hel.1, hel.2, rfl⟩
          · simp only [Value.cells, Ty.size, Nat.mul_one, Nat.add_zero]
            rw [h3, ← List.map_drop, ← List.map_take, hat]
        · cases h
      | _ => simp [readDyn] at h
    | _ => simp [readDyn] at h

end Go.Gx
