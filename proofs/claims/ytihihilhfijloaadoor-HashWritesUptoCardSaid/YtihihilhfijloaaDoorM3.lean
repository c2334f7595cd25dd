/- Part 3 of the proof: the evaluator of the code, its soundness, and what it shows of the functions. -/
import Derived.Test.YtihihilhfijloaaDoorM2
import Derived.Laws.AppendOwn
import Derived.Laws.IdiomStrings
import Derived.Lib.SliceRun
import Derived.BigFrame

/- Literals, make, conversions. -/
namespace Go.Gx
open Go.RowKit
set_option linter.unusedVariables false

section
variable {P : Program} {w0 : World} {M : Nat → Prop} {ρ : Nat → Pl} {H : Nat → Option SB} {w : World}

def PartsD (dm : Nat → Prop) (ρ : Nat → Pl) : List (Nat × SV) → List (Nat × Value) → Prop
 | [], vs => vs = []
 | (i, x) :: r, vs => ∃ u c, vs = (i, u) :: c ∧ D dm ρ x u ∧ PartsD dm ρ r c

theorem fillI_sound {dm : Nat → Prop} {k : IntKind} {n : Nat} (place : Nat → Option (Nat × Nat)) (hpl : ∀ i, place i = some (i * 1, 1)) : ∀ (parts : List (Nat × SV)) (vs : List (Nat × Value)) (l l' : List Int), PartsD dm ρ parts vs → fillI k parts l = some l' → l.length = n → AllR k l →
  Instr.fill place (l.map (Value.int k)).toArray vs = some (l'.map (Value.int k)).toArray ∧ l'.length = n ∧ AllR k l'
 | [], vs, l, l', hd, h, hl, hr => by
  simp only [fillI, Option.some.injEq] at h; subst h
  rw [show vs = [] from hd]
  exact ⟨rfl, hl, hr⟩
 | (i, x) :: r, vs, l, l', hd, h, hl, hr => by
  obtain ⟨u, c, rfl, h1, h2⟩ := hd
  cases x <;> simp only [fillI, reduceCtorEq] at h
  rename_i k' a
  split at h
  ·rename_i l1 hk hs
   have hkk := keq_eq hk; subst hkk
   obtain ⟨e1, e2⟩ := setn_some hs
   simp only [D] at h1
   obtain ⟨rfl, ha⟩ := h1
   have hl1 : l1.length = n := by rw [e1, List.length_set]; exact hl
   have ih := fillI_sound (n := n) place hpl r c l1 l' h2 h hl1 (by rw [e1]; exact hr.set ha)
   refine ⟨?_, ih.2⟩
   rw [← ih.1]
   have hsz : (Value.int k a.z).cells.size = 1 := rfl
   simp only [Instr.fill, hpl]
   rw [if_neg (by simp [Value.cells]; omega)]
   congr 1
   simp only [Value.cells]
   rw [e1]
   apply Array.ext'
   simp [List.map_set]
  ·cases h

theorem fields_places {fs : List Ty} : ∀ {fl : List Field} {off : Nat}, fieldsB P fs off fl = true → ∃ places, fl.mapM (fun f => (P.info? f.type).map fun i => (f.offset, i.size)) = some places ∧
  ∀ i t, nth fs i = some t → places[i]? = some (off + fieldOff fs i, t.size) := by
 induction fs with
 | nil =>
  intro fl off h
  cases fl with
  | nil => exact ⟨[], by simp, fun i t h => by simp [nth] at h⟩
  | cons g gr => simp [fieldsB] at h
 | cons t r ih =>
  intro fl off h
  cases fl with
  | nil => simp [fieldsB] at h
  | cons g gr =>
   simp only [fieldsB, Bool.and_eq_true] at h
   obtain ⟨⟨⟨h1, h2⟩, h3⟩, h4⟩ := h
   obtain ⟨pl, p1, p2⟩ := ih h4
   split at h2
   ·rename_i i hi
    simp only [Bool.and_eq_true] at h2
    have e1 := Nat.eq_of_beq_eq_true h1
    have e2 := Nat.eq_of_beq_eq_true h2.1
    refine ⟨(off, t.size) :: pl, by simp [hi, p1, e1, e2], fun j u hj => ?_⟩
    cases j with
    | zero => simp only [nth, Option.some.injEq] at hj; subst hj; simp [fieldOff]
    | succ j =>
     simp only [nth] at hj
     have := p2 j u hj
     simp only [List.getElem?_cons_succ, this, fieldOff]
     congr 2; omega
   ·cases h2

theorem Cs_set {dm : Nat → Prop} : ∀ (fs : List Ty) (xs xs' : List SV) (cs : List Value) (i : Nat) (t : Ty) (x : SV) (u : Value), Cs dm ρ xs cs → ofTys fs xs = true → nth fs i = some t → setn xs i x = some xs' → ofTy t x = true → D dm ρ x u →
  Cs dm ρ xs' (over cs (fieldOff fs i) u.cells.toList) ∧ fieldOff fs i + t.size ≤ cs.length ∧ ofTys fs xs' = true
 | fs, [], xs', cs, i, t, x, u, hc, ho, hn, hs, ht, hd => by simp [setn] at hs
 | [], y :: ys, xs', cs, i, t, x, u, hc, ho, hn, hs, ht, hd => by simp [nth] at hn
 | t0 :: fs, y :: ys, xs', cs, 0, t, x, u, hc, ho, hn, hs, ht, hd => by
  simp only [nth, Option.some.injEq] at hn; subst hn
  simp only [setn, Option.some.injEq] at hs; subst hs
  simp only [Cs] at hc
  obtain ⟨v, c, c1, rfl, c3⟩ := hc
  simp only [ofTys, Bool.and_eq_true] at ho
  have e1 := ofTy_size t0 y v ho.1 c1
  have e2 := ofTy_size t0 x u ht hd
  refine ⟨⟨u, c, hd, ?_, c3⟩, by simp [fieldOff, e1], by simp [ofTys, ht, ho.2]⟩
  unfold over
  simp only [fieldOff, List.take_zero, List.nil_append, Nat.zero_add]
  congr 1
  rw [show u.cells.toList.length = v.cells.toList.length by simp [e1, e2], List.drop_left]
 | t0 :: fs, y :: ys, xs', cs, i + 1, t, x, u, hc, ho, hn, hs, ht, hd => by
  simp only [nth] at hn
  simp only [setn] at hs
  split at hs
  ·rename_i r' hr
   simp only [Option.some.injEq] at hs; subst hs
   simp only [Cs] at hc
   obtain ⟨v, c, c1, rfl, c3⟩ := hc
   simp only [ofTys, Bool.and_eq_true] at ho
   have e1 := ofTy_size t0 y v ho.1 c1
   have e2 := ofTy_size t x u ht hd
   obtain ⟨q1, q2, q3⟩ := Cs_set fs ys r' c i t x u c3 ho.2 hn hr ht hd
   refine ⟨⟨v, over c (fieldOff fs i) u.cells.toList, c1, ?_, q1⟩, by simp [fieldOff, e1]; omega, by simp [ofTys, ho.1, q3]⟩
   have := over_mid v.cells.toList c [] u.cells.toList (fieldOff fs i) (by simp [e2]; omega)
   simp only [List.append_nil] at this
   rw [← this]
   congr 1
   simp [fieldOff, e1]
  ·cases hs

theorem fold_over (off : Nat) (l : List Value) (cs : Array Value) (h : off + l.length ≤ cs.size) : ((l.zipIdx).foldl (fun cs (x : Value × Nat) => cs.setIfInBounds (off + x.2) x.1) cs) = (over cs.toList off l).toArray := by
 obtain ⟨h1, h2⟩ := Go.Great.foldl_set off l 0 cs
 have hlen : (over cs.toList off l).length = cs.size := by rw [over_length (by simpa using h)]; simp
 apply Array.ext_getElem?
 intro k
 rw [h2 k]
 simp only [Nat.add_zero, List.getElem?_toArray]
 unfold over
 by_cases c1 : k < off
 ·rw [if_neg (by omega), List.append_assoc, List.getElem?_append_left (by simp; omega), List.getElem?_take, if_pos c1]; simp
 ·by_cases c2 : k < off + l.length
  ·rw [if_pos ⟨by omega, c2, by omega⟩, List.append_assoc, List.getElem?_append_right (by simp; omega)]
   have hmin : (cs.toList.take off).length = off := by simp; omega
   rw [hmin, List.getElem?_append_left (by omega)]
  ·rw [if_neg (by omega), List.append_assoc, List.getElem?_append_right (by simp; omega)]
   have hmin : (cs.toList.take off).length = off := by simp; omega
   rw [hmin, List.getElem?_append_right (by omega), List.getElem?_drop]
   rw [show off + l.length + (k - off - l.length) = k by omega]; simp

theorem fillS_sound {dm : Nat → Prop} {fs : List Ty} (place : Nat → Option (Nat × Nat)) (hpl : ∀ i t, nth fs i = some t → place i = some (fieldOff fs i, t.size)) : ∀ (parts : List (Nat × SV)) (vs : List (Nat × Value)) (xs xs' : List SV) (cs : List Value),
  PartsD dm ρ parts vs → fillS fs parts xs = some xs' → Cs dm ρ xs cs → ofTys fs xs = true → ∃ cs', Instr.fill place cs.toArray vs = some cs'.toArray ∧ Cs dm ρ xs' cs'
 | [], vs, xs, xs', cs, hd, h, hc, ho => by
  simp only [fillS, Option.some.injEq] at h; subst h
  rw [show vs = [] from hd]
  exact ⟨cs, rfl, hc⟩
 | (i, x) :: r, vs, xs, xs', cs, hd, h, hc, ho => by
  obtain ⟨u, c, rfl, h1, h2⟩ := hd
  simp only [fillS] at h
  split at h
  ·rename_i t l1 ht hs
   split at h
   ·rename_i hty
    obtain ⟨q1, q2, q3⟩ := Cs_set fs xs l1 cs i t x u hc ho ht hs hty h1
    have e := ofTy_size t x u hty h1
    obtain ⟨cs', a1, a2⟩ := fillS_sound place hpl r c l1 xs' _ h2 h q1 q3
    refine ⟨cs', ?_, a2⟩
    simp only [Instr.fill, hpl i t ht]
    rw [if_neg (by simp [e]; omega)]
    rw [← a1]
    congr 1
    have hfo := fold_over (fieldOff fs i) u.cells.toList cs.toArray (by simp [e]; omega)
    rw [← hfo, ← Array.foldl_toList]
    simp
   ·cases h
  ·cases h

theorem build_sound {T : TypeId} {ti : TInfo} (hT : RowOk P T ti) {parts : List (Nat × SV)} {vs : Array (Nat × Value)} (hd : PartsD (dmOf H) ρ parts vs.toList) {d : Delta} {rs rs' : List Nat}
  (h : (buildOp ti parts).run H rs = some (d, rs')) : d.ws = [] ∧ ∃ v, (Instr.build T vs).run P w = .ok v w ∧ D (dmOf H) ρ d.v v := by
 have hty' := hT.ty
 obtain ⟨i, z, hi1, hi2, hi3, hi4, hi5⟩ := hT.info
 have hz := zeroB_D (dm := dmOf H) (ρ := ρ) hi5
 unfold buildOp at h
 split at h
 ·rename_i n k ht
  rw [ht] at hty' hz
  split at h
  ·rename_i hbn
   split at h
   ·rename_i l hl
    have e := run_ret h; subst e
    unfold tyB at hty'
    split at hty'
    ·rename_i n' T' hu
     simp only [Bool.and_eq_true] at hty'
     obtain ⟨⟨e1, e2⟩, e3⟩ := hty'
     split at e2
     ·rename_i ii hii
      have hs : ii.size = 1 := Nat.eq_of_beq_eq_true e2
      have hzc : z.cells = ((List.replicate n (0 : Int)).map (Value.int k)).toArray := by
       simp only [zero] at hz
       split at hz
       ·rw [reps_eq] at hz
        simp only [D] at hz; rw [hz.2.2]; rfl
       ·simp only [D] at hz; rw [hz.2.2]; rfl
      rw [reps_eq] at hl
      have hf := fillI_sound (ρ := ρ) (n := n) (fun i => some (i * 1, 1)) (fun _ => rfl) parts vs.toList _ l hd hl (by simp) (allR_rep k n)
      refine ⟨rfl, .agg (l.map (Value.int k)).toArray, ?_, hf.2.1, hf.2.2, rfl⟩
      have hfi := hf.1
      simp [Instr.build, zeroValue, typeInfo, hi1, hi4, run_underlying hu, sizeOf, hii, hs, hzc]
      simp only [List.map_replicate, Nat.mul_one, List.toArray_replicate] at hfi
      rw [hfi]
      simp
     ·cases e2
    ·cases hty'
   ·simp [RP.run] at h
  ·simp [RP.run] at h
 ·rename_i fs ht
  rw [ht] at hty' hz
  split at h
  ·rename_i l hl ho
   have e := run_ret h; subst e
   unfold tyB at hty'
   split at hty'
   ·rename_i fl hu
    obtain ⟨places, p1, p2⟩ := fields_places hty'
    simp only [zero, D] at hz
    obtain ⟨cs, c1, rfl⟩ := hz
    obtain ⟨cs', f1, f2⟩ := fillS_sound (ρ := ρ) (places.toArray[·]?) (fun i t hi => by simpa using p2 i t hi) parts vs.toList _ l cs hd hl c1 ho
    refine ⟨rfl, .agg cs'.toArray, run_build w T vs cs'.toArray ?_, cs', f2, rfl⟩
    unfold Program.built
    simp only [hi1, hu, hi4, p1]
    exact f1
   ·cases hty'
  ·simp [RP.run] at h
 ·simp [RP.run] at h

/-! ### A slice that is written out -/

theorem partsI_sound {dm : Nat → Prop} {k : IntKind} : ∀ (parts : List (Nat × SV)) (vs : List (Nat × Value)) (i : Nat) (l : List Int), PartsD dm ρ parts vs → partsI k i parts = some l →
  vs = ((l.map (Value.int k)).zipIdx i).map (fun x => (x.2, x.1)) ∧ AllR k l ∧ l.length = parts.length
 | [], vs, i, l, hd, h => by
  simp only [partsI, Option.some.injEq] at h; subst h
  rw [show vs = [] from hd]; exact ⟨rfl, (fun z hz => by cases hz), rfl⟩
 | (j, x) :: r, vs, i, l, hd, h => by
  obtain ⟨u, c, rfl, h1, h2⟩ := hd
  cases x <;> simp only [partsI, reduceCtorEq] at h
  rename_i k' a
  split at h
  ·rename_i l1 hb hr
   simp only [Bool.and_eq_true] at hb
   have e1 := Nat.eq_of_beq_eq_true hb.1
   have e2 := keq_eq hb.2
   subst e1 e2
   simp only [Option.some.injEq] at h; subst h
   simp only [D] at h1
   obtain ⟨rfl, ha⟩ := h1
   obtain ⟨q1, q2, q3⟩ := partsI_sound r c (i + 1) l1 h2 hr
   refine ⟨by rw [q1]; simp, fun z hz => ?_, by simp [q3]⟩
   rcases List.mem_cons.1 hz with rfl | hz
   ·exact ha
   ·exact q2 z hz
  ·cases h

theorem partsA_sound {dm : Nat → Prop} {k : IntKind} {n : Nat} : ∀ (parts : List (Nat × SV)) (vs : List (Nat × Value)) (i : Nat) (l : List (List Int)), PartsD dm ρ parts vs → partsA k n i parts = some l →
  ∃ us : List Value, vs = (us.zipIdx i).map (fun x => (x.2, x.1)) ∧ AllA k n l ∧ us = l.map (fun y => Value.agg (y.map (Value.int k)).toArray) ∧ l.length = parts.length
 | [], vs, i, l, hd, h => by
  simp only [partsA, Option.some.injEq] at h; subst h
  rw [show vs = [] from hd]; exact ⟨[], rfl, (fun z hz => by cases hz), rfl, rfl⟩
 | (j, x) :: r, vs, i, l, hd, h => by
  obtain ⟨u, c, rfl, h1, h2⟩ := hd
  cases x <;> simp only [partsA, reduceCtorEq] at h
  rename_i k' m ex y
  split at h
  ·rename_i l1 hb hr
   simp only [Bool.and_eq_true] at hb
   have e1 := Nat.eq_of_beq_eq_true hb.1.1
   have e2 := keq_eq hb.1.2
   have e3 := Nat.eq_of_beq_eq_true hb.2
   subst e1 e2 e3
   simp only [Option.some.injEq] at h; subst h
   simp only [D] at h1
   obtain ⟨a1, a2, rfl⟩ := h1
   obtain ⟨us, q1, q2, q3, q4⟩ := partsA_sound r c (i + 1) l1 h2 hr
   refine ⟨.agg (y.map (Value.int k)).toArray :: us, by rw [q1]; simp, fun z hz => ?_, by rw [q3]; simp, by simp [q4]⟩
   rcases List.mem_cons.1 hz with rfl | hz
   ·exact ⟨a1, a2⟩
   ·exact q2 z hz
  ·cases h

theorem fits_single {t : Ty} {x : SV} (h : fits t x = true) : single x = true := by
 cases t <;> cases x <;> simp [fits] at h <;> rfl

theorem partsS_sound {dm : Nat → Prop} {t : Ty} : ∀ (parts : List (Nat × SV)) (vs : List (Nat × Value)) (i : Nat) (l : List Seg), PartsD dm ρ parts vs → partsS t i parts = some l →
  ∃ us : List Value, vs = (us.zipIdx i).map (fun x => (x.2, x.1)) ∧ SegsD dm ρ l us ∧ (∀ u ∈ us, u.cells = #[u]) ∧ us.length = parts.length
 | [], vs, i, l, hd, h => by
  simp only [partsS, Option.some.injEq] at h; subst h
  rw [show vs = [] from hd]; exact ⟨[], rfl, rfl, (fun z hz => by cases hz), rfl⟩
 | (j, x) :: r, vs, i, l, hd, h => by
  obtain ⟨u, c, rfl, h1, h2⟩ := hd
  simp only [partsS] at h
  split at h
  ·rename_i l1 hb hr
   simp only [Bool.and_eq_true] at hb
   have e1 := Nat.eq_of_beq_eq_true hb.1
   subst e1
   simp only [Option.some.injEq] at h; subst h
   obtain ⟨us, q1, q2, q3, q4⟩ := partsS_sound r c (i + 1) l1 h2 hr
   have hs := fits_single hb.2
   refine ⟨u :: us, by rw [q1]; simp, ⟨[u], us, ⟨hs, u, h1, rfl⟩, rfl, q2⟩, fun z hz => ?_, by simp [q4]⟩
   rcases List.mem_cons.1 hz with rfl | hz
   ·exact (single_cell hs h1).2
   ·exact q3 z hz
  ·cases h

theorem PartsD.length {dm : Nat → Prop} : ∀ {parts : List (Nat × SV)} {vs : List (Nat × Value)}, PartsD dm ρ parts vs → vs.length = parts.length
 | [], vs, h => by rw [show vs = [] from h]; rfl
 | (j, x) :: r, vs, h => by obtain ⟨u, c, rfl, _, h2⟩ := h; simp [PartsD.length h2]

theorem buildSlice_zero {T e : TypeId} {ie : TypeInfo} (hu : P.underlying T = some (.slice e)) (hie : P.info? e = some ie) (w : World) :
  (Instr.buildSlice T 0 #[]).run P w = .ok (.slice (some ⟨w.heap.size, 0, none⟩) 0 0) (w.alloc (.cells #[] e)) := by
 have : (Array.range 0 : Array Nat) = #[] := rfl
 simp [Instr.buildSlice, run_underlying hu, sizeOf, typeInfo, hie, newRow, Instr.fill, this]

theorem buildSlice_sound {T : TypeId} {ti : TInfo} {ty : List (Nat × TInfo)} (hT : RowOk P T ti) (hty : tabB P ty = true) (hm : Mem w0 M ρ H w) {stamp n : Nat} {parts : List (Nat × SV)} {vs : Array (Nat × Value)} (hd : PartsD (dmOf H) ρ parts vs.toList)
  {d : Delta} {rs rs' : List Nat} (h : (buildSliceOp ty stamp ti n parts).run H rs = some (d, rs')) :
  ∃ v w', (Instr.buildSlice T n vs).run P w = .ok v w' ∧ After w0 M ρ H d v w' := by
 unfold buildSliceOp at h
 split at h
 ·rename_i te ht hte hb
  simp only [Bool.and_eq_true] at hb
  have hlen := Nat.eq_of_beq_eq_true hb.1
  have hsm := Nat.le_of_ble_eq_true hb.2
  have hTe := rowB_ok (tabB_row hty hte)
  obtain ⟨ie, z, hi1, hi2, hi3, hi4, hi5⟩ := hTe.info
  have hu : P.underlying T = some (.slice ti.elem) := by
   have hty' := hT.ty
   rw [ht] at hty'
   unfold tyB at hty'
   split at hty'
   ·rename_i e hu; rw [hu, hT.slice e hu]
   ·cases hty'
  have hvl := hd.length
  have finish : ∀ (l : List Seg) (cells : List Value) (es : Nat), es = ie.size → SegsD (dmOf H) ρ l cells → 0 < es → es ≤ 1000 → cells.length = n * es →
    (Instr.fill (fun i => some (i * es, es)) ((Array.range (n * es)).map (z.cells[· % z.cells.size]!)) vs.toList = some cells.toArray) →
    (fresh stamp l (.sl stamp 0 es ⟨true, 0⟩ ⟨true, n⟩) [] false).run H rs = some (d, rs') →
    ∃ v w', (Instr.buildSlice T n vs).run P w = .ok v w' ∧ After w0 M ρ H d v w' := fun l cells es he hl hes hes2 hcl hf hfr => by
   subst he
   obtain ⟨hn, rfl⟩ := fresh_run hfr
   have hle : n * ie.size ≤ 1000 * 1000 := Nat.mul_le_mul hsm hes2
   have hrun : (Instr.buildSlice T n vs).run P w = .ok (.slice (some ⟨w.heap.size, 0, none⟩) n n) (w.alloc (.cells cells.toArray ti.elem)) := by
    rcases Nat.eq_zero_or_pos n with rfl | hnpos
    ·have hv0 : vs = #[] := by
      have : vs.toList = [] := List.eq_nil_of_length_eq_zero (by omega)
      cases vs; simp_all
     have hc0 : cells = [] := List.eq_nil_of_length_eq_zero (by omega)
     rw [hv0, hc0]; exact buildSlice_zero hu hi1 w
    ·have hpos : 0 < n * ie.size := Nat.mul_pos hnpos hes
     exact run_buildSlice (P := P) w T ti.elem n vs cells.toArray ie z hu hi1 hi4 (by omega) (by omega) hf
   refine ⟨_, _, hrun, After.alloc hm hn hl (extra := []) (by simp) (.inl rfl) rfl ?_⟩
   refine ⟨dm_new _ _ _, by simp, by simp, by simp only [InR]; omega, _, n, rfl, by simp, .inl ⟨?_, ?_⟩⟩
   ·rw [updP_same]; simp [at_]
   ·rw [updP_same]; simp [hcl, Nat.mul_comm]
  split at h
  ·rename_i k hk
   split at h
   ·rename_i l hl
    obtain ⟨q1, q2, q3⟩ := partsI_sound parts vs.toList 0 l hd hl
    have hie : ie.size = 1 := by rw [hi2, hk]; rfl
    refine finish [.rowI k l] (l.map (Value.int k)) 1 hie.symm ⟨l.map (Value.int k), [], ⟨q2, rfl⟩, by simp, rfl⟩ (by omega) (by omega) (by simp; omega) ?_ h
    rw [q1]
    exact Go.Great.fill_flat (l.map (Value.int k)) _ (fun v hv => by simp at hv; obtain ⟨a, _, rfl⟩ := hv; rfl) (by simp; omega)
   ·simp [RP.run] at h
  ·rename_i m k hk
   split at h
   ·rename_i l hl hmm
    obtain ⟨us, q1, q2, q3, q4⟩ := partsA_sound parts vs.toList 0 l hd hl
    have hie : ie.size = m := by rw [hi2, hk]; simp [Ty.size]
    simp only [Bool.and_eq_true] at hmm
    have hm1 : 0 < m := by have := hmm.1; simp [Nat.blt] at this; omega
    have hm2 := Nat.le_of_ble_eq_true hmm.2
    have hcells : (us.flatMap fun v => v.cells.toList) = l.flatten.map (Value.int k) := by
     rw [q3]
     clear q1 q2 q3 q4 hl h hd
     induction l with
     | nil => rfl
     | cons y r ih => simp only [List.map_cons, List.flatMap_cons, List.flatten_cons, List.map_append, ih]; rfl
    refine finish [.rowA k m l] (l.flatten.map (Value.int k)) m hie.symm ⟨l.flatten.map (Value.int k), [], ⟨q2, rfl⟩, by simp, rfl⟩ hm1 hm2 (by rw [List.length_map, flatten_len q2, q4, hlen, Nat.mul_comm]) ?_ h
    rw [q1, ← hcells]
    exact Go.Great.fill_whole hm1 us _ (fun v hv => by rw [q3] at hv; simp only [List.mem_map] at hv; obtain ⟨y, hy, rfl⟩ := hv; simp [Value.cells, (q2 y hy).1]) (by rw [q3]; simp [q4, hlen])
   ·simp [RP.run] at h
  ·split at h
   ·rename_i l hl hs1
    obtain ⟨us, q1, q2, q3, q4⟩ := partsS_sound parts vs.toList 0 l hd hl
    have hie : ie.size = 1 := by rw [hi2]; exact Nat.eq_of_beq_eq_true hs1
    refine finish l us 1 hie.symm q2 (by omega) (by omega) (by omega) ?_ h
    rw [q1]
    exact Go.Great.fill_flat us _ q3 (by simp; omega)
   ·simp [RP.run] at h
 ·simp [RP.run] at h

/-! ### make -/

theorem madeCells_zero {dm : Nat → Prop} {t : Ty} {z : Value} (h : zeroB t z = true) (hr : isRow t = false) (n : Nat) : ∃ u, z.cells = #[u] ∧ (madeCells z.cells n).toList = List.replicate n u := by
 obtain ⟨u, hu⟩ : ∃ u, z.cells = #[u] := by
  unfold zeroB at h
  split at h
  ·simp [hr] at h
  ·cases z <;> first | exact ⟨_, rfl⟩ | (rename_i hne; exact absurd rfl (hne _))
 refine ⟨u, hu, ?_⟩
 rw [hu]
 unfold madeCells
 apply List.ext_getElem
 ·simp
 ·intro i h1 h2
  simp [Nat.mod_one]

theorem make_sound {T : TypeId} {ti : TInfo} {ty : List (Nat × TInfo)} (hT : RowOk P T ti) (hty : tabB P ty = true) (hm : Mem w0 M ρ H w) {stamp : Nat} {n m : SV} {vn vm : Value} (hn : D (dmOf H) ρ n vn) (hmm : D (dmOf H) ρ m vm)
  {d : Delta} {rs rs' : List Nat} (h : (makeOp ty stamp ti n m).run H rs = some (d, rs')) (hp : AllP d.pre) :
  ∃ v w', (Instr.makeSlice T vn vm).run P w = .ok v w' ∧ After w0 M ρ H d v w' := by
 unfold makeOp at h
 split at h
 ·rename_i te a c ht hte
  simp only [D] at hn hmm
  obtain ⟨rfl, ha⟩ := hn
  obtain ⟨rfl, hc⟩ := hmm
  have hTe := rowB_ok (tabB_row hty hte)
  obtain ⟨ie, z, hi1, hi2, hi3, hi4, hi5⟩ := hTe.info
  have hu : P.underlying T = some (.slice ti.elem) := by
   have hty' := hT.ty
   rw [ht] at hty'
   unfold tyB at hty'
   split at hty'
   ·rename_i e hu; rw [hu, hT.slice e hu]
   ·cases hty'
  have finish : ∀ (l : List Seg) (es : Nat) (zs extra : List Value), es = ie.size → SegsD (dmOf H) ρ l zs → (madeCells z.cells (c.z.toNat * es)).toList = zs ++ extra → 
    (fresh stamp l (.sl stamp 0 es ⟨true, 0⟩ a) [0 ≤ a.z ∧ a.z ≤ c.z ∧ c.z * te.bytes ≤ 70368744177664] true).run H rs = some (d, rs') →
    ∃ v w', (Instr.makeSlice T (.int .i64 a.z) (.int .i64 c.z)).run P w = .ok v w' ∧ After w0 M ρ H d v w' := fun l es zs extra he hl hc' hfr => by
   subst he
   obtain ⟨hn, rfl⟩ := fresh_run hfr
   obtain ⟨p1, p2, p3⟩ := hp.1
   have hrun := run_make (P := P) w T ti.elem ie z hu hi1 hi4 .i64 .i64 a.z c.z p1 p2 (by rw [hi3, Int.mul_comm]; omega) (by simp only [InR] at hc; omega)
   refine ⟨_, _, hrun, After.alloc hm hn hl hc' (.inl rfl) rfl ?_⟩
   refine ⟨dm_new _ _ _, by simp, p1, ha, _, c.z.toNat, rfl, by omega, .inl ⟨?_, ?_⟩⟩
   ·rw [updP_same]; simp [at_]
   ·rw [updP_same]; simp [size_madeCells, Nat.mul_comm]
  split at h
  ·rename_i k hk
   have hie : ie.size = 1 := by rw [hi2, hk]; rfl
   rw [hk] at hi5
   obtain ⟨u, hu1, hu2⟩ := madeCells_zero (dm := dmOf H) hi5 rfl (c.z.toNat * 1)
   have hu3 : u = .int k 0 := by
    have := zeroB_D (dm := dmOf H) (ρ := ρ) hi5
    simp only [zero, D] at this
    rw [this.1] at hu1
    simp [Value.cells] at hu1
    exact hu1.symm
   have hle : a.z.toNat ≤ c.z.toNat := by
    obtain ⟨_, rfl⟩ := fresh_run h
    obtain ⟨p1, p2, p3⟩ := hp.1
    omega
   refine finish [.rowI k (List.replicate a.z.toNat 0)] 1 ((List.replicate a.z.toNat (0 : Int)).map (Value.int k)) (List.replicate (c.z.toNat - a.z.toNat) (.int k 0)) hie.symm ⟨_, [], ⟨allR_rep _ _, rfl⟩, by simp, rfl⟩ ?_ h
   rw [hu2, hu3]
   simp only [List.map_replicate, Nat.mul_one, List.replicate_append_replicate]
   congr 1; omega
  ·rename_i n' k hk
   have hie : ie.size = n' := by rw [hi2, hk]; simp [Ty.size]
   rw [hk] at hi5
   have hz : z.cells = ((List.replicate n' (0 : Int)).map (Value.int k)).toArray := by
    have := zeroB_D (dm := dmOf H) (ρ := ρ) hi5
    simp only [zero] at this
    split at this
    ·rw [reps_eq] at this; simp only [D] at this; rw [this.2.2]; rfl
    ·simp only [D] at this; rw [this.2.2]; rfl
   have hle : a.z.toNat ≤ c.z.toNat := by
    obtain ⟨_, rfl⟩ := fresh_run h
    obtain ⟨p1, p2, p3⟩ := hp.1
    omega
   have hall : AllA k n' (List.replicate a.z.toNat (List.replicate n' 0)) := fun y hy => by
    rw [List.eq_of_mem_replicate hy]; exact ⟨by simp, allR_rep _ _⟩
   have hflat : ∀ q : Nat, (List.replicate q (List.replicate n' (0 : Int))).flatten = List.replicate (q * n') 0 := fun q => by
    simp [List.flatten_replicate_replicate]
   refine finish [.rowA k n' (List.replicate a.z.toNat (List.replicate n' 0))] n' ((List.replicate a.z.toNat (List.replicate n' (0 : Int))).flatten.map (Value.int k)) (List.replicate ((c.z.toNat - a.z.toNat) * n') (.int k 0)) hie.symm ⟨_, [], ⟨hall, rfl⟩, by simp, rfl⟩ ?_ h
   rw [hflat, List.map_replicate, List.replicate_append_replicate, ← Nat.add_mul, show a.z.toNat + (c.z.toNat - a.z.toNat) = c.z.toNat by omega]
   rw [hz]
   unfold madeCells
   apply List.ext_getElem
   ·simp
   ·intro i h1 h2
    simp at h1
    have hn' : 0 < n' := by
     rcases Nat.eq_zero_or_pos n' with rfl | h
     ·simp at h1
     ·exact h
    have : i % n' < n' := Nat.mod_lt _ hn'
    simp [this]
  ·simp [RP.run] at h
 ·simp [RP.run] at h

/-! ### Numbers turned -/

theorem convInt_sound {Ts Td : TypeId} {k k' : IntKind} {ks : IntKind} {a : Int} (hs : P.underlying Ts = some (.int ks)) (hd : P.underlying Td = some (.int k)) : (convert Ts Td (.int k' a)).run P w = .ok (.int k (k.wrap a)) w := by
 simp [convert, run_underlying hs, run_underlying hd, Conv.intToInt]

theorem wrap_of_InR {k : IntKind} {z : Int} (h : InR k z) : k.wrap z = z := by
 cases k <;> simp [InR] at h <;> simp [IntKind.wrap, IntKind.signed, IntKind.bits] <;> (try split) <;> omega

end
end Go.Gx

/- append, copy, clear; bytes and texts. -/
namespace Go.Gx
open Go.RowKit
set_option linter.unusedVariables false

def conCells : Con → List Value
 | .ints k l => l.map (Value.int k)
 | .arrs k n l => l.flatten.map (Value.int k)

def conOk : Con → Prop
 | .ints k l => AllR k l
 | .arrs k n l => AllA k n l

theorem conCells_length {q : Con} (h : conOk q) : (conCells q).length = conLen q * conSize q := by
 cases q with
 | ints k l => simp [conCells, conLen, conSize]
 | arrs k n l => simp only [conCells, conLen, conSize, List.length_map]; rw [flatten_len h, Nat.mul_comm]

theorem conCells_one {q : Con} : ∀ v ∈ conCells q, v.oneCell' = true := by
 cases q <;> (intro v hv; simp only [conCells, List.mem_map] at hv; obtain ⟨z, _, rfl⟩ := hv; rfl)

theorem AllR.drop_take {k : IntKind} {l : List Int} (h : AllR k l) (a b : Nat) : AllR k ((l.drop a).take b) := fun z hz => h z (List.mem_of_mem_drop (List.mem_of_mem_take hz))
theorem AllA.drop_take {k : IntKind} {n : Nat} {l : List (List Int)} (h : AllA k n l) (a b : Nat) : AllA k n ((l.drop a).take b) := fun z hz => h z (List.mem_of_mem_drop (List.mem_of_mem_take hz))

theorem drop_len_add {α : Type} (x y : List α) (m : Nat) : (x ++ y).drop (x.length + m) = y.drop m := by
 induction x with
 | nil => simp
 | cons a r ih => simp only [List.length_cons, List.cons_append]; rw [show r.length + 1 + m = (r.length + m) + 1 by omega, List.drop_succ_cons, ih]
theorem take_len_add {α : Type} (x y : List α) (m : Nat) : (x ++ y).take (x.length + m) = x ++ y.take m := by
 induction x with
 | nil => simp
 | cons a r ih => simp only [List.length_cons, List.cons_append]; rw [show r.length + 1 + m = (r.length + m) + 1 by omega, List.take_succ_cons, ih]

theorem flatten_drop {k : IntKind} {n : Nat} : ∀ {l : List (List Int)} (h : AllA k n l) (a : Nat), (l.drop a).flatten = l.flatten.drop (n * a)
 | [], _, a => by simp
 | x :: r, h, 0 => by simp
 | x :: r, h, a + 1 => by
  have hx := (h x (by simp)).1
  have e : n * (a + 1) = x.length + n * a := by rw [hx, Nat.mul_add]; omega
  simp only [List.drop_succ_cons, List.flatten_cons]
  rw [flatten_drop (fun y hy => h y (by simp [hy])) a, e]
  exact (drop_len_add x _ _).symm
theorem flatten_take {k : IntKind} {n : Nat} : ∀ {l : List (List Int)} (h : AllA k n l) (a : Nat), (l.take a).flatten = l.flatten.take (n * a)
 | [], _, a => by simp
 | x :: r, h, 0 => by simp
 | x :: r, h, a + 1 => by
  have hx := (h x (by simp)).1
  have e : n * (a + 1) = x.length + n * a := by rw [hx, Nat.mul_add]; omega
  simp only [List.take_succ_cons, List.flatten_cons]
  rw [flatten_take (fun y hy => h y (by simp [hy])) a, e]
  exact (take_len_add x _ _).symm

structure ConAt (P : Program) (w : World) (v : Value) (q : Con) : Prop where
 ok : conOk q
 len : ∀ w' : World, (Builtin.lenOf v).run P w' = .ok (conLen q) w'
 at_ : ∀ ad n cap, v = .slice ad n cap → n = conLen q ∧ n ≤ cap ∧ ((conLen q = 0 ∧ cap = 0) ∨ ∃ b o, ad = some ⟨b, o, none⟩ ∧ (0 < conSize q * cap → b < w.heap.size) ∧ w.rangeAt b o (conCells q))
 cells : ∀ w' : World, (∀ a u, w.cell? a = some u → w'.cell? a = some u) → ∀ m, m ≤ conLen q → (Builtin.firstCells (conSize q) m v).run P w' = .ok ((conCells q).take (m * conSize q)).toArray w'

theorem conSeg_sound {dm : Nat → Prop} {ρ : Nat → Pl} {g : Seg} {est : Nat} {off len : SI} {p : List Prop} {q : Con} {cs : List Value} (h : conSeg g est off len = some (p, q)) (hg : SegD dm ρ g cs) (hp : AllP p) (ho : 0 ≤ off.z) (hl : 0 ≤ len.z) :
  conOk q ∧ conLen q = len.z.toNat ∧ conSize q = est ∧ conCells q = (cs.drop (est * off.z.toNat)).take (est * len.z.toNat) ∧ est * off.z.toNat + est * len.z.toNat ≤ cs.length := by
 cases g with
 | one x => simp [conSeg] at h
 | rowH key hs => simp [conSeg] at h
 | rowP key n => simp [conSeg] at h
 | rowI k l =>
  obtain ⟨h1, h2⟩ := hg
  simp only [conSeg] at h
  split at h
  ·rename_i hb
   have e := Nat.eq_of_beq_eq_true hb
   simp only [Option.some.injEq, Prod.mk.injEq] at h
   obtain ⟨rfl, rfl⟩ := h
   subst e
   have hb2 := hp.1
   refine ⟨h1.drop_take _ _, by simp [conLen]; omega, rfl, ?_, by rw [h2]; simp; omega⟩
   simp only [conCells, h2, Nat.one_mul, List.map_take, List.map_drop]
  ·cases h
 | arr k n ex l =>
  obtain ⟨h0, h1, h2⟩ := hg
  simp only [conSeg] at h
  split at h
  ·rename_i p' hb hpp
   have e := Nat.eq_of_beq_eq_true hb
   simp only [Option.some.injEq, Prod.mk.injEq] at h
   obtain ⟨rfl, rfl⟩ := h
   subst e
   have hb2 : off.z + len.z ≤ (n : Int) := by
    split at hpp
    ·have := (tst_some hpp).1; simpa using this
    ·simp only [Option.some.injEq] at hpp; subst hpp; exact hp.1
   refine ⟨h1.drop_take _ _, by simp [conLen]; omega, rfl, ?_, by rw [h2]; simp; omega⟩
   simp only [conCells, h2, Nat.one_mul, List.map_take, List.map_drop]
  ·cases h
 | rowA k n l =>
  obtain ⟨h1, h2⟩ := hg
  simp only [conSeg] at h
  split at h
  ·rename_i hb
   have e := Nat.eq_of_beq_eq_true hb
   simp only [Option.some.injEq, Prod.mk.injEq] at h
   obtain ⟨rfl, rfl⟩ := h
   subst e
   have hb2 := hp.1
   have hle : off.z.toNat + len.z.toNat ≤ l.length := by omega
   refine ⟨h1.drop_take _ _, by simp [conLen]; omega, rfl, ?_, ?_⟩
   ·have h1d : AllA k est (l.drop off.z.toNat) := fun y hy => h1 y (List.mem_of_mem_drop hy)
    simp only [conCells, h2]
    rw [flatten_take h1d, flatten_drop h1, List.map_take, List.map_drop]
   ·rw [h2, List.length_map, flatten_len h1, ← Nat.mul_add]
    exact Nat.mul_le_mul_left _ hle
  ·cases h

theorem bytesI_ok (s : ByteArray) : AllR .u8 (bytesI s) := fun z hz => by
 simp only [bytesI, List.mem_map] at hz
 obtain ⟨b, _, rfl⟩ := hz
 have := UInt8.toNat_lt b
 simp only [InR]; omega

theorem bytesI_length (s : ByteArray) : (bytesI s).length = s.size := by simp [bytesI]

section
variable {P : Program} {w0 : World} {M : Nat → Prop} {ρ : Nat → Pl} {H : Nat → Option SB} {w : World}

theorem firstCells_some {w' : World} (es n : Nat) (a : Addr) (len cap : Nat) (cs : List Value) (hl : cs.length = n * es) (h : ∀ j v, cs[j]? = some v → w'.cell? (a.add j) = some v) :
  (Builtin.firstCells es n (.slice (some a) len cap)).run P w' = .ok cs.toArray w' := by
 have := run_loadCells_list (P := P) w' a cs h
 rw [hl] at this
 exact this

theorem ConAt.all {v : Value} {q : Con} (h : ConAt P w v q) (w' : World) (hw : ∀ a u, w.cell? a = some u → w'.cell? a = some u) : (Builtin.firstCells (conSize q) (conLen q) v).run P w' = .ok (conCells q).toArray w' := by
 have := h.cells w' hw (conLen q) (Nat.le_refl _)
 rwa [← conCells_length h.ok, List.take_length] at this

theorem chain_arrs {w' : World} {Out : Nat → Prop} {n : Nat} {k : IntKind} : ∀ (xs : List RO) (cs : List Value), ChainR (RoD w' Out (.arr n k)) xs cs → AllA k n (xs.map roL) ∧ cs = conCells (.arrs k n (xs.map roL))
 | [], cs, h => by
  rw [show cs = [] from h]
  exact ⟨fun a ha => (by cases ha), rfl⟩
 | x :: r, cs, h => by
  obtain ⟨v, c, h1, rfl, h3⟩ := h
  simp only [RoD] at h1
  obtain ⟨a1, a2, rfl⟩ := h1
  obtain ⟨b1, rfl⟩ := chain_arrs r c h3
  refine ⟨fun a ha => ?_, by simp [conCells, Value.cells]⟩
  rw [List.map_cons] at ha
  rcases List.mem_cons.1 ha with rfl | ha
  ·exact ⟨a1, a2⟩
  ·exact b1 a ha
theorem arrs_chain {w' : World} {Out : Nat → Prop} {n : Nat} {k : IntKind} : ∀ (l : List (List Int)), AllA k n l → ChainR (RoD w' Out (.arr n k)) (l.map RO.l) (conCells (.arrs k n l))
 | [], h => rfl
 | a :: r, h => by
  obtain ⟨a1, a2⟩ := h a (by simp)
  refine ⟨.agg (a.map (Value.int k)).toArray, conCells (.arrs k n r), ?_, by simp [conCells, Value.cells], arrs_chain r fun b hb => h b (by simp [hb])⟩
  simp only [RoD]
  exact ⟨a1, a2, rfl⟩

theorem withCon_sound (hm : Mem w0 M ρ H w) {x : SV} {v : Value} (hx : D (dmOf H) ρ x v) {f : List Prop → Con → RP Delta} {d : Delta} {rs rs' : List Nat} (h : (withCon x f).run H rs = some (d, rs')) :
  ∃ p q rs1, (f p q).run H rs1 = some (d, rs') ∧ (AllP p → ConAt P w v q) := by
 unfold withCon at h
 split at h
 ·rename_i key c est off len
  simp only [D] at hx
  obtain ⟨hk, ho, hl, hr, ad, cap, rfl, hlc, hdis⟩ := hx
  simp only [RP.run] at h
  split at h
  ·rename_i ro l hkey
   split at h
   ·rename_i g hs
    split at h
    ·rename_i p q hq
     refine ⟨p, q, _, h, fun hp => ?_⟩
     obtain ⟨vs, h1, h2, h3, _⟩ := hm.segs hkey
     obtain ⟨pre, cs, post, e1, e2, e3, _, _⟩ := segAt_D l c vs g 0 h1 hs
     obtain ⟨a1, a2, a3, a4, a5⟩ := conSeg_sound hq e2 hp ho hl
     refine ⟨a1, fun w' => by rw [a2]; rfl, ?_, fun w' hw' m hm' => ?_⟩
     ·rintro ad' n' cap' hv
      cases hv
      refine ⟨a2.symm, hlc, ?_⟩
      rcases hdis with ⟨rfl, hcap⟩ | ⟨q1, q2⟩
      ·right
       refine ⟨(ρ key).blk, (ρ key).off + (c + est * off.z.toNat), rfl, fun h0 => hm.heap.lt key ro l hkey ?_, ?_⟩
       ·rw [a3] at h0; omega
       ·have hra := rangeAt_part h3 (c + est * off.z.toNat) (est * len.z.toNat)
        have heq : conCells q = (vs.drop (c + est * off.z.toNat)).take (est * len.z.toNat) := by
         rw [a4, e1, show c + est * off.z.toNat = pre.length + est * off.z.toNat by omega, drop_mid _ _ _ _ _ a5]
        rw [heq]; exact hra
      ·left
       exact ⟨by rw [a2]; omega, q2⟩
     rw [a3]
     have hcl := conCells_length a1
     rw [a3] at hcl
     have hml : m * est ≤ conLen q * est := Nat.mul_le_mul_right _ hm'
     rcases hdis with ⟨rfl, hcap⟩ | ⟨q1, q2⟩
     ·refine firstCells_some est m _ _ _ _ (by rw [List.length_take, hcl]; omega) (fun j u hu => hw' _ _ ?_)
      rw [addr_add]
      have hra := rangeAt_part h3 (c + est * off.z.toNat) (est * len.z.toNat)
      have heq : conCells q = (vs.drop (c + est * off.z.toNat)).take (est * len.z.toNat) := by
       rw [a4, e1, show c + est * off.z.toNat = pre.length + est * off.z.toNat by omega, drop_mid _ _ _ _ _ a5]
      rw [← heq] at hra
      rw [List.getElem?_take] at hu
      split at hu
      ·have := hra j u hu
       simpa [at_, Nat.add_assoc] using this
      ·cases hu
     ·have hz : len.z.toNat = 0 := by omega
      have hm0 : m = 0 := by omega
      rw [hm0]
      cases ad <;> simp [Builtin.firstCells, loadCells, loadCellsFrom]
    ·simp [RP.run] at h
   ·simp [RP.run] at h
  ·simp [RP.run] at h
 ·rename_i s
  simp only [D] at hx
  obtain ⟨rfl, hs⟩ := hx
  refine ⟨[], _, _, h, fun _ => ⟨bytesI_ok s, fun w' => by simp [Builtin.lenOf, conLen, bytesI_length], (fun ad n cap hv => by cases hv), fun w' _ m hm' => ?_⟩⟩
  simp only [conLen, bytesI_length] at hm'
  simp only [Builtin.firstCells, conSize, conCells, Nat.mul_one, Sem.run_pure]
  congr 1
  apply Array.ext'
  simp [bytesI, Function.comp_def, ByteArray.extract, ByteArray.copySlice]
 ·rename_i key sh dd
  simp only [D] at hx
  obtain ⟨hk, hrel, hF, ad, cap, rfl, hlc, hl63, hdis⟩ := hx
  simp only [RP.run] at h
  split at h
  ·rename_i hkey
   split at h
   ·rename_i k
    have hr := hm.view key hkey
    rw [hr] at hrel
    have hrel := RoD.mono hm.keeps _ _ _ hrel
    simp only [RoD] at hrel
    obtain ⟨a0, cap', q1, q2, q3, q4, q5⟩ := hrel
    simp only [Value.slice.injEq, roLen] at q1
    obtain ⟨rfl, _, rfl⟩ := q1
    refine ⟨[], _, _, h, fun _ => ⟨q4, fun w' => rfl, ?_, fun w' hw' m hm' => ?_⟩⟩
    ·rintro ad' n' cap' hv
     cases hv
     refine ⟨rfl, hlc, ?_⟩
     rcases q5 with ⟨b, o, rfl, r1, r2⟩ | ⟨r1, r2⟩
     ·exact .inr ⟨b, o, rfl, fun _ => Nat.lt_of_lt_of_le r1.1 hm.frame.size, r2⟩
     ·exact .inl ⟨r1, r2⟩
    ·simp only [conLen] at hm'
     simp only [conSize, conCells, Nat.mul_one]
     rcases q5 with ⟨b, o, rfl, r1, r2⟩ | ⟨r1, r2⟩
     ·refine firstCells_some 1 m _ _ _ _ (by rw [List.length_take, List.length_map]; omega) (fun j u hu => hw' _ _ ?_)
      have hadd : ∀ m, (⟨b, o, none⟩ : Addr).add m = ⟨b, o + m, none⟩ := fun m => by by_cases h : m = 0 <;> simp [Addr.add, h]
      rw [hadd]
      rw [List.getElem?_take] at hu
      split at hu
      ·exact r2 j u hu
      ·cases hu
     ·have hm0 : m = 0 := by omega
      rw [hm0]
      cases ad <;> simp [Builtin.firstCells, loadCells, loadCellsFrom]
   ·rename_i n k
    have hr := hm.view key hkey
    rw [hr] at hrel
    have hrel := RoD.mono hm.keeps _ _ _ hrel
    simp only [RoD] at hrel
    obtain ⟨a0, cap', cs, q1, q2, q3, q4, q5⟩ := hrel
    simp only [Value.slice.injEq, roLen] at q1
    obtain ⟨rfl, _, rfl⟩ := q1
    obtain ⟨t1, rfl⟩ := chain_arrs (w' := w) (Out := OutB w0 M) (n := n) (k := k) _ _ q4
    have hlen : ((roX dd).map roL).length = (roX dd).length := by simp
    have hcl := conCells_length (q := .arrs k n ((roX dd).map roL)) t1
    refine ⟨[], _, _, h, fun _ => ⟨t1, fun w' => by show _ = Result.ok ((roX dd).map roL).length w'; rw [hlen]; rfl, ?_, fun w' hw' m hm' => ?_⟩⟩
    ·rintro ad' n' cap' hv
     cases hv
     refine ⟨hlen.symm, hlc, ?_⟩
     rcases q5 with ⟨b, o, rfl, r1, r2⟩ | ⟨r1, r2⟩
     ·exact .inr ⟨b, o, rfl, fun _ => Nat.lt_of_lt_of_le r1.1 hm.frame.size, r2⟩
     ·exact .inl ⟨by show ((roX dd).map roL).length = 0; omega, r2⟩
    ·have hm' : m ≤ (roX dd).length := by rw [← hlen]; exact hm'
     have hcl : (conCells (.arrs k n ((roX dd).map roL))).length = (roX dd).length * n := by rw [hcl]; show ((roX dd).map roL).length * n = _; rw [hlen]
     rcases q5 with ⟨b, o, rfl, r1, r2⟩ | ⟨r1, r2⟩
     ·refine firstCells_some n m _ _ _ _ (by rw [List.length_take, hcl]; exact Nat.min_eq_left (Nat.mul_le_mul_right _ hm')) (fun j u hu => hw' _ _ ?_)
      have hadd : ∀ m, (⟨b, o, none⟩ : Addr).add m = ⟨b, o + m, none⟩ := fun m => by by_cases h : m = 0 <;> simp [Addr.add, h]
      rw [hadd]
      rw [List.getElem?_take] at hu
      split at hu
      ·exact r2 j u hu
      ·cases hu
     ·have hm0 : m = 0 := by omega
      rw [hm0]
      cases ad <;> simp [Builtin.firstCells, loadCells, loadCellsFrom]
   ·simp [RP.run] at h
  ·simp [RP.run] at h
 ·rename_i key r len
  simp only [D] at hx
  obtain ⟨hk, hrp, hl, hr, ad, cap, rfl, hlc, hdis⟩ := hx
  simp only [RP.run] at h
  split at h
  ·rename_i k ms hkey
   refine ⟨_, _, _, h, fun hp => ?_⟩
   have hle : len.z ≤ ((ms.getD r []).length : Int) := hp.1
   have hP := hm.pools.pool key k ms hkey
   have hrl : r < ms.length := by rw [← hP.cnt]; exact hrp
   have hrm : ms[r]? = some (ms.getD r []) := by rw [List.getD_eq_getElem?_getD, List.getElem?_eq_getElem hrl]; rfl
   obtain ⟨a1, a2, a3, a4⟩ := hP.rowk r _ hrm
   have hll : ((ms.getD r []).take len.z.toNat).length = len.z.toNat := by rw [List.length_take]; omega
   have hra : w.rangeAt ((ρ key).pb r) ((ρ key).po r) (((ms.getD r []).take len.z.toNat).map (Value.int k)) := fun j v hv => by
    rw [List.map_take, List.getElem?_take] at hv
    split at hv
    ·exact a3 j v hv
    ·cases hv
   refine ⟨fun z hz => a1 z (List.mem_of_mem_take hz), fun w' => by rw [show conLen (.ints k ((ms.getD r []).take len.z.toNat)) = len.z.toNat from hll]; rfl, ?_, fun w' hw' m hm' => ?_⟩
   ·rintro ad' n' cap' hv
    cases hv
    refine ⟨hll.symm, hlc, ?_⟩
    rcases hdis with ⟨rfl, hcap⟩ | ⟨q1, q2⟩
    ·exact .inr ⟨_, _, rfl, fun h0 => hP.lt r hrl (by simp [conSize] at h0; omega), hra⟩
    ·exact .inl ⟨by rw [show conLen (.ints k ((ms.getD r []).take len.z.toNat)) = len.z.toNat from hll]; omega, q2⟩
   ·have hm' : m ≤ len.z.toNat := by rw [← hll]; exact hm'
    simp only [conSize, conCells, Nat.mul_one]
    rcases hdis with ⟨rfl, hcap⟩ | ⟨q1, q2⟩
    ·refine firstCells_some 1 m _ _ _ _ (by rw [List.length_take, List.length_map, hll]; omega) (fun j u hu => hw' _ _ ?_)
     have hadd : ∀ m, (⟨(ρ key).pb r, (ρ key).po r, none⟩ : Addr).add m = ⟨(ρ key).pb r, (ρ key).po r + m, none⟩ := fun m => by by_cases h : m = 0 <;> simp [Addr.add, h]
     rw [hadd]
     rw [List.getElem?_take] at hu
     split at hu
     ·exact hra j u hu
     ·cases hu
    ·have hm0 : m = 0 := by omega
     rw [hm0]
     cases ad <;> simp [Builtin.firstCells, loadCells, loadCellsFrom]
  ·simp [RP.run] at h
 ·simp [RP.run] at h

theorem noInt_of {T2 : TypeId} {ti : TInfo} (hT : RowOk P T2 ti) (h : (match ti.ty with | .slice => true | .str => true | _ => false) = true) : (∃ e, P.underlying T2 = some (.slice e)) ∨ P.underlying T2 = some .string := by
 have h1 := hT.ty
 revert h1 h
 generalize ti.ty = t
 intro h h1
 cases t <;> simp at h <;> unfold tyB at h1 <;> split at h1 <;> first
  | (rename_i hu; exact .inr hu)
  | (rename_i hu; exact .inl ⟨_, hu⟩)
  | cases h1

theorem append_room {T T2 ty e : TypeId} {i : TypeInfo} (ht : P.underlying T = some (.slice e)) (hi : P.info? e = some i) (h2 : (∃ e, P.underlying T2 = some (.slice e)) ∨ P.underlying T2 = some .string)
  {base : Option Addr} {sLen sCap : Nat} {v : Value} {q : Con} (hq : ConAt P w v q) (hes : conSize q = i.size) (hroom : sLen + conLen q ≤ sCap) {w' : World}
  (hst : ∀ a, base = some a → (storeCells (a.add (sLen * i.size)) (conCells q)).run P w = .ok () w') (hst' : base = none → w' = w) :
  (Builtin.append_ #[T, T2] ty #[.slice base sLen sCap, v]).run P w = .ok (.slice base (sLen + conLen q) sCap) w' := by
 have hf := hq.all w (fun _ _ h => h)
 rw [hes] at hf
 have hl := hq.len
 cases base with
 | none =>
  have hw := hst' rfl
  subst hw
  rcases h2 with ⟨e2, h2⟩ | h2 <;> simp [Builtin.append_, run_underlying ht, run_underlying h2, sizeOf, typeInfo, hi, hl, hroom, hf]
 | some a =>
  have hs := hst a rfl
  rcases h2 with ⟨e2, h2⟩ | h2 <;> simp [Builtin.append_, run_underlying ht, run_underlying h2, sizeOf, typeInfo, hi, hl, hroom, hf, hs]

theorem append_grow {T T2 ty e : TypeId} {i : TypeInfo} {z : Value} (ht : P.underlying T = some (.slice e)) (hi : P.info? e = some i) (hz0 : i.zero = some z) (h2 : (∃ e, P.underlying T2 = some (.slice e)) ∨ P.underlying T2 = some .string)
  {base : Option Addr} {sLen sCap : Nat} {v : Value} {q : Con} (hq : ConAt P w v q) (hes : conSize q = i.size) (hroom : sCap < sLen + conLen q) {xs : List Value}
  (hold : (Builtin.firstCells i.size sLen (.slice base sLen sCap)).run P w.drew = .ok xs.toArray w.drew) (h63 : ((sLen + conLen q : Nat) : Int) ≤ 9223372036854775807) (hfit : Builtin.nextslicecap (sLen + conLen q) sCap * i.bytes ≤ 281474976710656) :
  (Builtin.append_ #[T, T2] ty #[.slice base sLen sCap, v]).run P w = .ok (.slice (some ⟨w.heap.size, 0, none⟩) (sLen + conLen q) (grownCap w (sLen + conLen q) sCap e))
   (w.drew.alloc (.cells (xs.toArray ++ (conCells q).toArray ++ Builtin.zeroCells z.cells (grownCap w (sLen + conLen q) sCap e - (sLen + conLen q))) e)) := by
 have hf := hq.all w.drew (fun _ _ h => by simpa using h)
 rw [hes] at hf
 have hl := hq.len
 have hn : ¬ (sLen + conLen q ≤ sCap) := by omega
 have h63' : ¬ (9223372036854775807 < ((sLen : Int) + (conLen q : Int))) := by omega
 have h48' : ¬ (281474976710656 < Builtin.nextslicecap (sLen + conLen q) sCap * i.bytes) := by omega
 rcases h2 with ⟨e2, h2⟩ | h2 <;> simp [Builtin.append_, run_underlying ht, run_underlying h2, sizeOf, typeInfo, zeroValue, hi, hz0, hl, hn, h63', h48', Question.forced, hf, hold, newRow, grownCap] <;>
  (congr 2; apply Array.ext'; simp [List.append_assoc])

/-! ### append -/

theorem conRow_D {dm : Nat → Prop} {q : Con} (h : conOk q) : SegD dm ρ (conRow q) (conCells q) := by
 cases q <;> exact ⟨h, rfl⟩

theorem conJoin_sound {a b r : Con} (h : conJoin a b = some r) (ha : conOk a) (hb : conOk b) :
  conOk r ∧ conCells r = conCells a ++ conCells b ∧ conLen r = conLen a + conLen b ∧ conSize r = conSize a ∧ conSize b = conSize a := by
 cases a with
 | ints k l =>
  cases b with
  | ints k' y =>
   simp only [conJoin] at h
   split at h
   ·rename_i e
    have := keq_eq e
    subst this
    simp only [Option.some.injEq] at h; subst h
    exact ⟨fun z hz => (List.mem_append.1 hz).elim (ha z) (hb z), by simp [conCells], by simp [conLen], rfl, rfl⟩
   ·cases h
  | arrs => simp [conJoin] at h
 | arrs k n l =>
  cases b with
  | ints => simp [conJoin] at h
  | arrs k' m y =>
   simp only [conJoin] at h
   split at h
   ·rename_i e
    simp only [Bool.and_eq_true] at e
    have e1 := keq_eq e.1
    have e2 := Nat.eq_of_beq_eq_true e.2
    subst e1 e2
    simp only [Option.some.injEq] at h; subst h
    exact ⟨fun z hz => (List.mem_append.1 hz).elim (ha z) (hb z), by simp [conCells], by simp [conLen], rfl, rfl⟩
   ·cases h

theorem Mem.virtual (h : Mem w0 M ρ H w) {key : Nat} (hn : H key = none) {l : List Seg} (hl : SegsD (dmOf H) ρ l []) : Mem w0 M (updP ρ key ({ blk := 0, off := 0, cap := 0 } : Pl)) (updH H key (.segs false l)) w := by
 have hk := updP_keeps (ρ := ρ) (p := ({ blk := 0, off := 0, cap := 0 } : Pl)) hn
 refine ⟨⟨fun k b hb => ?_, fun k k' ro ro' l1 l2 h1 h2 hkk hr c1 c2 => ?_, fun k ro l1 h1 c1 => ?_⟩, h.frame, fun k l1 h1 c1 => ?_, view_up h.view (by simp), fun k l1 h1 c1 => ?_,
  h.pools.step (fun a ha => ⟨dm_updH _ _ _ a ha, updP_keeps hn a ha⟩) (fun k kd ms hk' => by
   have e : k ≠ key := fun e => by subst e; rw [updH_same] at hk'; cases hk'
   rw [updH_ne e] at hk'
   rw [updP_ne e]; exact ⟨hk', rfl⟩)
  (fun k ro l1 h1 c1 => by
   have n1 : k ≠ key := fun e => by subst e; rw [updP_same] at c1; exact absurd c1 (by simp)
   rw [updH_ne n1] at h1; rw [updP_ne n1] at c1 ⊢; exact .inl ⟨k, ro, l1, h1, c1, rfl⟩)
  (Nat.le_refl _) (fun _ hb => hb) (fun _ _ _ _ _ _ _ _ => rfl)⟩
 ·by_cases e : k = key
  ·subst e
   rw [updH_same] at hb
   simp only [Option.some.injEq] at hb; subst hb
   exact ⟨[], SegsD.mono (dm_updH _ _ _) hk l [] hl, by simp, rangeAt_nil _ _ _, fun _ => by rw [updP_same]; exact there_zero _ _ _⟩
  ·rw [updH_ne e] at hb
   exact (h.heap.blk k b hb).of_block (dm_updH _ _ _) hk (updP_ne e) (fun _ _ _ _ => rfl)
 ·have n1 : k ≠ key := fun e => by subst e; rw [updP_same] at c1; exact absurd c1 (by simp)
  have n2 : k' ≠ key := fun e => by subst e; rw [updP_same] at c2; exact absurd c2 (by simp)
  rw [updH_ne n1] at h1; rw [updH_ne n2] at h2
  rw [updP_ne n1] at c1 ⊢; rw [updP_ne n2] at c2 ⊢
  exact h.heap.sep k k' ro ro' l1 l2 h1 h2 hkk hr c1 c2
 ·have n1 : k ≠ key := fun e => by subst e; rw [updP_same] at c1; exact absurd c1 (by simp)
  rw [updH_ne n1] at h1; rw [updP_ne n1] at c1 ⊢
  exact h.heap.lt k ro l1 h1 c1
 ·have n1 : k ≠ key := fun e => by subst e; rw [updP_same] at c1; exact absurd c1 (by simp)
  rw [updH_ne n1] at h1; rw [updP_ne n1] at c1 ⊢
  exact h.own k l1 h1 c1
 ·have n1 : k ≠ key := fun e => by subst e; rw [updP_same] at c1; exact absurd c1 (by simp)
  rw [updH_ne n1] at h1; rw [updP_ne n1] at c1 ⊢
  exact h.clean k l1 h1 c1

theorem updH_comm {H : Nat → Option SB} {a b : Nat} (hab : a ≠ b) (x y : SB) : updH (updH H a x) b y = updH (updH H b y) a x := by
 funext k
 simp only [updH]
 split <;> split <;> simp_all

theorem updH_over {H : Nat → Option SB} {a : Nat} (x y : SB) : updH (updH H a x) a y = updH H a y := by
 funext k
 simp only [updH]
 split <;> simp_all

theorem zeroB_size {t : Ty} {z : Value} (h : zeroB t z = true) : z.cells.size = t.size := by
 unfold zeroB at h
 split at h
 ·rename_i cs
  simp only [Bool.and_eq_true] at h
  obtain ⟨h1, h2⟩ := h
  split at h2
  ·rename_i e
   obtain ⟨v, a1, a2, a3, a4, _⟩ := zc_D (dm := fun _ => False) (ρ := fun _ => ({ blk := 0, off := 0, cap := 0 } : Pl)) t cs.toList [] e
   rw [← a3]
   have := congrArg List.length a2
   simpa [Value.cells] using this
  ·cases h2
 ·simp only [Bool.and_eq_true, Bool.not_eq_true'] at h
  obtain ⟨h1, h2⟩ := h
  split at h2
  ·rename_i e
   obtain ⟨v, a1, a2, a3, _, a5⟩ := zc_D (dm := fun _ => False) (ρ := fun _ => ({ blk := 0, off := 0, cap := 0 } : Pl)) t _ [] e
   have := a5 h1
   rw [this] at a2
   simp at a2
   rw [a2]; exact a3
  ·cases h2

theorem slice_of {T : TypeId} {ti : TInfo} (hT : RowOk P T ti) (ht : ti.ty = .slice) : P.underlying T = some (.slice ti.elem) := by
 have hty' := hT.ty
 rw [ht] at hty'
 unfold tyB at hty'
 split at hty'
 ·rename_i e hu; rw [hu, hT.slice e hu]
 ·cases hty'

end
end Go.Gx

/- append, copy, clear; bytes and texts: what they come to. -/
namespace Go.Gx
open Go.RowKit
set_option linter.unusedVariables false

section
variable {P : Program} {w0 : World} {M : Nat → Prop} {ρ : Nat → Pl} {H : Nat → Option SB} {w : World}

theorem appendTo_run {stamp : Nat} {te : TInfo} {old x : Con} {gone : List (Nat × SB)} {pre : List Prop} {d : Delta} {rs rs' : List Nat} (h : (appendTo stamp te old x gone pre).run H rs = some (d, rs')) :
  ∃ r, conJoin old x = some r ∧ 0 < te.bytes ∧ te.ty.size = conSize old ∧ H stamp = none ∧
   d = ⟨(((conLen r : Nat) : Int) * (te.bytes : Int) ≤ 70368744177664) :: pre, .sl stamp 0 (conSize r) ⟨true, 0⟩ ⟨false, ((conLen r : Nat) : Int)⟩, (stamp, .segs false [conRow r]) :: gone, true⟩ := by
 unfold appendTo at h
 split at h
 ·rename_i r hr hb
  simp only [Bool.and_eq_true] at hb
  simp only [RP.run] at h
  split at h
  ·rename_i hn
   refine ⟨r, hr, ?_, Nat.eq_of_beq_eq_true hb.2, hn, run_ret h⟩
   have := hb.1
   simp [Nat.blt] at this
   omega
  ·simp [RP.run] at h
 ·simp [RP.run] at h

theorem segs_one {dm : Nat → Prop} {g : Seg} {cs : List Value} (h : SegD dm ρ g cs) : SegsD dm ρ [g] cs := ⟨cs, [], h, by simp, rfl⟩

theorem sl_D {dm : Nat → Prop} {key es : Nat} {a : Option Addr} {cap : Nat} (hk : dm key) (n : Nat) (hn : (n : Int) < 9223372036854775808) (hc : n ≤ cap)
  (h : (a = some (at_ (ρ key) 0) ∧ es * cap ≤ (ρ key).cap) ∨ (n = 0 ∧ cap = 0)) : D dm ρ (.sl key 0 es ⟨true, 0⟩ ⟨false, (n : Int)⟩) (.slice a n cap) := by
 refine ⟨hk, by simp, by simp, by simp only [InR]; omega, a, cap, by simp, by simpa using hc, ?_⟩
 rcases h with ⟨h1, h2⟩ | ⟨h1, h2⟩
 ·exact .inl ⟨by simpa using h1, by simpa using h2⟩
 ·exact .inr ⟨by simpa using h1, h2⟩

theorem grow_after (hm : Mem w0 M ρ H w) {stamp : Nat} (hn : H stamp = none) {te : TInfo} {ie : TypeInfo} {z : Value} (hz1 : z.cells.size = ie.size) {e : TypeId} {old x r : Con} (hr : conJoin old x = some r) (h1 : conOk old) (h2 : conOk x)
  (hes : conSize old = ie.size) {sLen sCap : Nat} (hl : sLen = conLen old) (hg : sCap < sLen + conLen x) (hb : 0 < ie.bytes) (hpre : ((conLen r : Nat) : Int) * (ie.bytes : Int) ≤ 70368744177664)
  {d : Delta} (hdv : d.v = .sl stamp 0 (conSize r) ⟨true, 0⟩ ⟨false, ((conLen r : Nat) : Int)⟩) (hws : d.ws = [(stamp, .segs false [conRow r])] ∨ ∃ key, (H key).isSome = true ∧ d.ws = [(stamp, .segs false [conRow r]), (key, .gone)]) :
  After w0 M ρ H d (.slice (some ⟨w.heap.size, 0, none⟩) (sLen + conLen x) (grownCap w (sLen + conLen x) sCap e))
   (w.drew.alloc (.cells ((conCells old).toArray ++ (conCells x).toArray ++ Builtin.zeroCells z.cells (grownCap w (sLen + conLen x) sCap e - (sLen + conLen x))) e)) := by
 obtain ⟨q1, q2, q3, q4, q5⟩ := conJoin_sound hr h1 h2
 have hge := grownCap_ge w (sLen + conLen x) sCap e
 generalize grownCap w (sLen + conLen x) sCap e = cp at *
 have hd : Mem w0 M ρ H w.drew := hm.drew _
 have hlen : conLen r = sLen + conLen x := by rw [q3, hl]
 have hsmall : (conLen r : Int) < 9223372036854775808 := by
  have : (conLen r : Int) * 1 ≤ (conLen r : Int) * (ie.bytes : Int) := Int.mul_le_mul_of_nonneg_left (by omega) (by omega)
  omega
 have hal := hd.alloc hn (segs_one (conRow_D (ρ := ρ) (dm := dmOf H) q1)) (cells := (conCells old).toArray ++ (conCells x).toArray ++ Builtin.zeroCells z.cells (cp - (sLen + conLen x)))
  (T := e) (fr := (0, 0)) (extra := (Builtin.zeroCells z.cells (cp - (sLen + conLen x))).toList) (by simp [q2]) (.inl rfl)
 have hsz : ((conCells old).toArray ++ (conCells x).toArray ++ Builtin.zeroCells z.cells (cp - (sLen + conLen x))).size = conSize r * cp := by
  have e1 := conCells_length h1
  have e2 := conCells_length h2
  rw [q5, hes] at e2
  rw [hes] at e1
  simp only [Array.size_append, List.size_toArray, Builtin.zeroCells, Array.size_map, Array.size_range, e1, e2, hz1, q4, hes]
  rw [← Nat.add_mul, ← Nat.add_mul, ← hl, Nat.add_sub_cancel' hge, Nat.mul_comm]
 have hD : ∀ (dm : Nat → Prop), dm stamp → D dm (updP ρ stamp ({ blk := w.drew.heap.size, off := 0, cap := ((conCells old).toArray ++ (conCells x).toArray ++ Builtin.zeroCells z.cells (cp - (sLen + conLen x))).size } : Pl)) d.v (.slice (some ⟨w.heap.size, 0, none⟩) (sLen + conLen x) cp) := fun dm hs => by
  rw [hdv, hlen]
  refine sl_D hs _ (by omega) hge (.inl ⟨?_, ?_⟩)
  ·rw [updP_same]; rfl
  ·rw [updP_same, hsz]; exact Nat.le_refl _
 rcases hws with hws | ⟨key, hk, hws⟩
 ·exact ⟨_, updP_keeps hn, hD _ (by rw [hws]; exact dm_new _ _ _), by rw [hws]; exact hal⟩
 ·exact ⟨_, updP_keeps hn, hD _ (by rw [hws]; exact dm_updH _ _ _ _ (dm_new _ _ _)), by rw [hws]; exact hal.gone key (dm_updH _ _ _ key hk)⟩

theorem append_sound {T T2 tyy : TypeId} {ti ti2 : TInfo} {ty : List (Nat × TInfo)} (hT : RowOk P T ti) (hT2 : RowOk P T2 ti2) (hty : tabB P ty = true) (hm : Mem w0 M ρ H w) {stamp : Nat} {s x : SV} {vs vx : Value} (hs : D (dmOf H) ρ s vs) (hx : D (dmOf H) ρ x vx)
  {d : Delta} {rs rs' : List Nat} (h : (appendOp ty stamp ti ti2 s x).run H rs = some (d, rs')) (hp : AllP d.pre) :
  ∃ v w', (Builtin.append_ #[T, T2] tyy #[vs, vx]).run P w = .ok v w' ∧ After w0 M ρ H d v w' := by
 unfold appendOp at h
 split at h
 ·rename_i te ht hte hsq
  have hTe := rowB_ok (tabB_row hty hte)
  obtain ⟨ie, z, hi1, hi2, hi3, hi4, hi5⟩ := hTe.info
  have hu := slice_of hT ht
  have hz1 : z.cells.size = ie.size := by rw [zeroB_size hi5, hi2]
  have h2 := noInt_of hT2 (show (match ti2.ty with | .slice => true | .str => true | _ => false) = true from hsq)
  split at h
  ·-- nil
   simp only [D] at hs
   subst hs
   split at h
   ·rename_i old hold
    obtain ⟨p, q, rs1, hw, hq⟩ := withCon_sound (P := P) hm hx h
    obtain ⟨r, hr, hb, hsz, hn, rfl⟩ := appendTo_run hw
    have hq := hq hp.2
    have hok : conOk old ∧ conLen old = 0 ∧ conCells old = [] := by
     unfold emptyCon at hold
     split at hold <;> simp only [Option.some.injEq, reduceCtorEq] at hold <;> subst hold
     ·exact ⟨fun z hz => by simp at hz, rfl, rfl⟩
     ·exact ⟨fun z hz => by simp at hz, rfl, rfl⟩
    obtain ⟨q1, q2, q3, q4, q5⟩ := conJoin_sound hr hok.1 hq.ok
    have hes : conSize q = ie.size := by rw [q5, ← hsz, hi2]
    rcases Nat.eq_zero_or_pos (conLen q) with h0 | h0
    ·have hc0 : conCells q = [] := List.eq_nil_of_length_eq_zero (by rw [conCells_length hq.ok, h0]; simp)
     refine ⟨_, w, append_room hu hi1 h2 hq hes (by omega) (fun a ha => by cases ha) (fun _ => rfl), updP ρ stamp ({ blk := 0, off := 0, cap := 0 } : Pl), updP_keeps hn, ?_, ?_⟩
     ·have : conLen r = 0 + conLen q := by rw [q3, hok.2.1]
      rw [this]
      exact sl_D (dm_new _ _ _) _ (by omega) (by omega) (.inr ⟨by omega, rfl⟩)
     ·exact hm.virtual hn (by have := segs_one (conRow_D (ρ := ρ) (dm := dmOf H) q1); rwa [q2, hok.2.2, hc0] at this)
    ·have hlr : conLen r = 0 + conLen q := by rw [q3, hok.2.1]
     have hb' : ((conLen r : Nat) : Int) * (ie.bytes : Int) ≤ 70368744177664 := by rw [hi3]; exact hp.1
     have hbn : (0 + conLen q) * ie.bytes ≤ 140737488355328 := by
      rw [← hlr]
      have : ((conLen r * ie.bytes : Nat) : Int) ≤ 70368744177664 := by simpa using hb'
      omega
     refine ⟨_, _, append_grow (xs := []) hu hi1 hi4 h2 hq hes (by omega) (by simp [Builtin.firstCells]) ?_ (growslice_fits (by omega) hbn), ?_⟩
     ·have : (0 + conLen q) * 1 ≤ (0 + conLen q) * ie.bytes := Nat.mul_le_mul_left _ (by omega)
      omega
     ·have := grow_after (e := ti.elem) (te := te) hm hn hz1 hr hok.1 hq.ok (by rw [← hsz, hi2]) (sLen := 0) (sCap := 0) hok.2.1.symm (by omega) (by omega) hb' (d := ⟨(((conLen r : Nat) : Int) * (te.bytes : Int) ≤ 70368744177664) :: p, _, _, true⟩) rfl (.inl rfl)
      rw [hok.2.2] at this
      exact this
   ·simp [RP.run] at h
  ·-- a row of the call's own
   rename_i key est len
   simp only [D] at hs
   obtain ⟨hk, ho, hl, hr0, ad, cap, rfl, hlc, hdis⟩ := hs
   simp only [RP.run] at h
   split at h
   ·rename_i g hkey
    split at h
    ·rename_i old hold
     split at h
     ·rename_i hest
      have hest := Nat.eq_of_beq_eq_true hest
      obtain ⟨p, q, rs1, hw, hq⟩ := withCon_sound (P := P) hm hx h
      obtain ⟨r, hr, hb, hsz, hn, rfl⟩ := appendTo_run hw
      have hq := hq hp.2.2
      have hlz := hp.2.1
      obtain ⟨vs, h1, h3, h4, h5⟩ := hm.segs hkey
      obtain ⟨c1, c2, e1, e2, e3⟩ := h1
      have e4 : c2 = [] := e3
      subst e4
      simp only [List.append_nil] at e2
      subst e2
      have hok : conOk old ∧ conCells old = vs ∧ conRow old = g := by
       cases g <;> simp only [rowCon, Option.some.injEq, reduceCtorEq] at hold <;> subst hold <;> exact ⟨e1.1, e1.2.symm, rfl⟩
      obtain ⟨q1, q2, q3, q4, q5⟩ := conJoin_sound hr hok.1 hq.ok
      have hes : conSize q = ie.size := by rw [q5, ← hsz, hi2]
      have hlen : len.z.toNat = conLen old := by omega
      have hcl := conCells_length hok.1
      have hlr : conLen r = len.z.toNat + conLen q := by rw [q3, hlen]
      have hb' : ((conLen r : Nat) : Int) * (ie.bytes : Int) ≤ 70368744177664 := by rw [hi3]; exact hp.1
      have hbn : (len.z.toNat + conLen q) * ie.bytes ≤ 140737488355328 := by
       rw [← hlr]; have : ((conLen r * ie.bytes : Nat) : Int) ≤ 70368744177664 := by simpa using hb'
       omega
      have hsmall : len.z.toNat + conLen q ≤ 140737488355328 := by
       have : (len.z.toNat + conLen q) * 1 ≤ (len.z.toNat + conLen q) * ie.bytes := Nat.mul_le_mul_left _ (by omega)
       omega
      rcases Nat.lt_or_ge cap (len.z.toNat + conLen q) with hroom | hroom
      ·-- it grows
       refine ⟨_, _, append_grow (xs := conCells old) hu hi1 hi4 h2 hq hes (by omega) ?_ (by omega) (growslice_fits (by omega) hbn), ?_⟩
       ·rcases hdis with ⟨rfl, hcap⟩ | ⟨d1, d2⟩
        ·refine firstCells_some _ _ _ _ _ _ (by rw [hcl, ← hsz, hi2, hlen]) (fun j u hu2 => ?_)
         rw [addr_add]
         rw [hok.2.1] at hu2
         have := h4 j u hu2
         simpa [at_] using this
        ·have : conCells old = [] := List.eq_nil_of_length_eq_zero (by rw [hcl, ← hlen, d1]; simp)
         rw [this, d1]
         cases ad <;> simp [Builtin.firstCells, loadCells, loadCellsFrom]
       ·exact grow_after (e := ti.elem) (te := te) hm hn hz1 hr hok.1 hq.ok (by rw [← hsz, hi2]) hlen (by omega) (by omega) hb' (d := ⟨(((conLen r : Nat) : Int) * (te.bytes : Int) ≤ 70368744177664) :: (len.z = ((conLen old : Nat) : Int)) :: p, _, _, true⟩) rfl (.inr ⟨key, by rw [hkey]; rfl, rfl⟩)
      ·rcases hdis with ⟨rfl, hcap⟩ | ⟨d1, d2⟩
       ·-- there is room
        have hcap' : conSize old * cap ≤ (ρ key).cap := by rw [← hest]; simpa using hcap
        have hfit : (conCells old).length + (conCells q).length ≤ (ρ key).cap := by
         rw [hcl, conCells_length hq.ok, q5, ← Nat.add_mul, Nat.mul_comm, ← hlen]
         exact Nat.le_trans (Nat.mul_le_mul_left _ hroom) hcap'
        have hclen : (conCells old).length = len.z.toNat * ie.size := by rw [hcl, ← hsz, hi2, hlen]
        have hth := h5 rfl
        have hst := run_storeCells_cells (P := P) (ρ key).blk ((ρ key).off + len.z.toNat * ie.size) (conCells q) 0 w
         (fun j hj => by have := (hth (len.z.toNat * ie.size + j) (by omega)).1; simpa [Nat.add_assoc] using this)
         (fun j hj => by have := (hth (len.z.toNat * ie.size + j) (by omega)).2; simpa [Nat.add_assoc] using this) conCells_one
        simp only [Nat.add_zero] at hst
        refine ⟨_, w.setCells (ρ key).blk ((ρ key).off + len.z.toNat * ie.size) (conCells q), append_room hu hi1 h2 hq hes hroom (fun a ha => ?_) (fun ha => by cases ha), ?_⟩
        ·simp only [Option.some.injEq] at ha
         subst ha
         rw [addr_add]
         simpa [at_] using hst
        ·have hmm := hm.store (nv := conCells q) (o := len.z.toNat * ie.size) (vs' := conCells r) (l' := [conRow r]) hkey h4 (by rw [← hok.2.1]; omega) (by omega) h3
          (by rw [← hok.2.1, ← hclen, List.take_length, List.drop_eq_nil_of_le (by omega), List.append_nil, q2]) (segs_one (conRow_D q1))
         have hn' : updH H key (.segs false [conRow r]) stamp = none := by
          rw [updH_ne]; exact hn
          intro e; rw [e, hkey] at hn; cases hn
         have hne : stamp ≠ key := fun e => by rw [e, hkey] at hn; cases hn
         have hre := hmm.rekey (new := stamp) (updH_same _ _ _) hn'
         rw [updH_over, updH_comm (Ne.symm hne)] at hre
         refine ⟨updP ρ stamp (ρ key), updP_keeps hn, ?_, hre⟩
         rw [hlr]
         refine sl_D (dm_updH _ _ _ _ (dm_new _ _ _)) _ (by omega) hroom (.inl ⟨?_, ?_⟩)
         ·rw [updP_same]; simp
         ·rw [updP_same, q4]; exact hcap'
       ·-- nothing to nothing
        have hq0 : conLen q = 0 := by omega
        have hc0 : conCells q = [] := List.eq_nil_of_length_eq_zero (by rw [conCells_length hq.ok, hq0]; simp)
        have ho0 : conCells old = [] := List.eq_nil_of_length_eq_zero (by rw [hcl, ← hlen, d1]; simp)
        refine ⟨_, w, append_room hu hi1 h2 hq hes hroom (fun a ha => by rw [hc0]; rfl) (fun _ => rfl), updP ρ stamp ({ blk := 0, off := 0, cap := 0 } : Pl), updP_keeps hn, ?_, ?_⟩
        ·rw [hlr]
         exact sl_D (dm_updH _ _ _ _ (dm_new _ _ _)) _ (by omega) hroom (.inr ⟨by omega, d2⟩)
        ·have hv := hm.virtual hn (by have := segs_one (conRow_D (ρ := ρ) (dm := dmOf H) q1); rwa [q2, ho0, hc0] at this)
         exact hv.gone key (dm_updH _ _ _ key (by rw [dmOf, hkey]; rfl))
     ·simp [RP.run] at h
    ·simp [RP.run] at h
   ·simp [RP.run] at h
  ·simp [RP.run] at h
 ·simp [RP.run] at h

end
end Go.Gx

/- append, of headers: rows of the call's own join a pool. -/
namespace Go.Gx
open Go.RowKit
set_option linter.unusedVariables false

section
variable {P : Program} {w0 : World} {M : Nat → Prop} {ρ : Nat → Pl} {H : Nat → Option SB} {w : World}

structure OneAt (P : Program) (w : World) (vx u : Value) : Prop where
 len : ∀ w' : World, (Builtin.lenOf vx).run P w' = .ok 1 w'
 cells : ∀ w' : World, (∀ a u, w.cell? a = some u → w'.cell? a = some u) → (Builtin.firstCells 1 1 vx).run P w' = .ok #[u] w'

theorem append_room1 {T T2 ty e : TypeId} {i : TypeInfo} (ht : P.underlying T = some (.slice e)) (hi : P.info? e = some i) (h2 : (∃ e, P.underlying T2 = some (.slice e)) ∨ P.underlying T2 = some .string) (hes : i.size = 1)
  {a : Addr} {sLen sCap : Nat} {v u : Value} (hq : OneAt P w v u) (hroom : sLen + 1 ≤ sCap) {w' : World}
  (hst : (storeCells (a.add sLen) [u]).run P w = .ok () w') :
  (Builtin.append_ #[T, T2] ty #[.slice (some a) sLen sCap, v]).run P w = .ok (.slice (some a) (sLen + 1) sCap) w' := by
 have hf := hq.cells w (fun _ _ h => h)
 have hl := hq.len
 rcases h2 with ⟨e2, h2⟩ | h2 <;> simp [Builtin.append_, run_underlying ht, run_underlying h2, sizeOf, typeInfo, hi, hl, hroom, hf, hst, hes]

theorem append_grow1 {T T2 ty e : TypeId} {i : TypeInfo} {z : Value} (ht : P.underlying T = some (.slice e)) (hi : P.info? e = some i) (hz0 : i.zero = some z) (h2 : (∃ e, P.underlying T2 = some (.slice e)) ∨ P.underlying T2 = some .string) (hes : i.size = 1)
  {base : Option Addr} {sLen sCap : Nat} {v u : Value} (hq : OneAt P w v u) (hroom : sCap < sLen + 1) {xs : List Value}
  (hold : (Builtin.firstCells 1 sLen (.slice base sLen sCap)).run P w.drew = .ok xs.toArray w.drew) (h63 : ((sLen + 1 : Nat) : Int) ≤ 9223372036854775807) (hfit : Builtin.nextslicecap (sLen + 1) sCap * i.bytes ≤ 281474976710656) :
  (Builtin.append_ #[T, T2] ty #[.slice base sLen sCap, v]).run P w = .ok (.slice (some ⟨w.heap.size, 0, none⟩) (sLen + 1) (grownCap w (sLen + 1) sCap e))
   (w.drew.alloc (.cells (xs.toArray ++ #[u] ++ Builtin.zeroCells z.cells (grownCap w (sLen + 1) sCap e - (sLen + 1))) e)) := by
 have hf := hq.cells w.drew (fun _ _ h => by simpa using h)
 have hl := hq.len
 have hn : ¬ (sLen + 1 ≤ sCap) := by omega
 have h63'' : ¬ (9223372036854775807 < ((sLen : Int) + 1)) := by omega
 have h48' : ¬ (281474976710656 < Builtin.nextslicecap (sLen + 1) sCap * i.bytes) := by omega
 rcases h2 with ⟨e2, h2⟩ | h2 <;> simp [Builtin.append_, run_underlying ht, run_underlying h2, sizeOf, typeInfo, zeroValue, hi, hz0, hl, hn, h63'', h48', Question.forced, hf, hold, newRow, grownCap, hes]

theorem HdrsD.one {dm : Nat → Prop} {key r n : Nat} {u : Value} (h : D dm ρ (.ps key r ⟨false, (n : Int)⟩) u) : HdrsD dm ρ key [(r, n)] [u] := ⟨u, [], h, rfl, rfl⟩

theorem dm_ps {dm : Nat → Prop} {key r : Nat} {n : SI} {u : Value} (h : D dm ρ (.ps key r n) u) : dm key := by simp only [D] at h; exact h.1

theorem appH_core {T T2 tyy : TypeId} {ti ti2 te : TInfo} {ty : List (Nat × TInfo)} (hT : RowOk P T ti) (ht : ti.ty = .slice) (hte : assoc ty ti.elem = some te) (hsl : te.ty = .slice) (hT2 : RowOk P T2 ti2) (hty : tabB P ty = true) (hsq : ti2.ty = .slice) (hb : 0 < te.bytes)
  (hm : Mem w0 M ρ H w) {stamp : Nat} (hn : H stamp = none) {pk r n : Nat} {u vx vs : Value} (hu : D (dmOf H) ρ (.ps pk r ⟨false, (n : Int)⟩) u) (hq : OneAt P w vx u) {hs : List (Nat × Nat)}
  (hpre : (((hs.length + 1 : Nat) : Int) * (te.bytes : Int)) ≤ 70368744177664)
  {gone : List (Nat × SB)} (hold : (vs = .slice none 0 0 ∧ hs = [] ∧ gone = []) ∨ ∃ key len, D (dmOf H) ρ (.sl key 0 1 ⟨true, 0⟩ len) vs ∧ H key = some (.segs false [.rowH pk hs]) ∧ len.z = (hs.length : Int) ∧ gone = [(key, .gone)]) :
  ∃ v w', (Builtin.append_ #[T, T2] tyy #[vs, vx]).run P w = .ok v w' ∧
   ∃ ρ', Ext H ρ ρ' ∧ D (dmOf (updsH H ((stamp, .segs false [.rowH pk (hs ++ [(r, n)])]) :: gone))) ρ' (.sl stamp 0 1 ⟨true, 0⟩ ⟨false, ((hs.length + 1 : Nat) : Int)⟩) v ∧ Mem w0 M ρ' (updsH H ((stamp, .segs false [.rowH pk (hs ++ [(r, n)])]) :: gone)) w' := by
 have hTe := rowB_ok (tabB_row hty hte)
 obtain ⟨ie, z, hi1, hi2, hi3, hi4, hi5⟩ := hTe.info
 have hU := slice_of hT ht
 have hes : ie.size = 1 := by rw [hi2, hsl]; rfl
 have hz1 : z.cells.size = 1 := by rw [zeroB_size hi5, hsl]; rfl
 have h2 := noInt_of hT2 (show (match ti2.ty with | .slice => true | .str => true | _ => false) = true by rw [hsq])
 have hb' : ((hs.length + 1 : Nat) : Int) * (ie.bytes : Int) ≤ 70368744177664 := by rw [hi3]; exact hpre
 have hbn : (hs.length + 1) * ie.bytes ≤ 140737488355328 := by
  have : (((hs.length + 1) * ie.bytes : Nat) : Int) ≤ 70368744177664 := by simpa using hb'
  omega
 have hbb : 0 < ie.bytes := by rw [hi3]; exact hb
 have hsmall : hs.length + 1 ≤ 140737488355328 := by
  have : (hs.length + 1) * 1 ≤ (hs.length + 1) * ie.bytes := Nat.mul_le_mul_left _ (by omega)
  omega
 have hpk := dm_ps hu
 have grow : ∀ (cs : List Value) (sCap : Nat), HdrsD (dmOf H) ρ pk hs cs → sCap < hs.length + 1 → ∀ G : List (Nat × SB), (G = [] ∨ ∃ key, (H key).isSome = true ∧ G = [(key, .gone)]) →
   ∃ ρ', Ext H ρ ρ' ∧ D (dmOf (updsH H ((stamp, .segs false [.rowH pk (hs ++ [(r, n)])]) :: G))) ρ' (.sl stamp 0 1 ⟨true, 0⟩ ⟨false, ((hs.length + 1 : Nat) : Int)⟩) (.slice (some ⟨w.heap.size, 0, none⟩) (hs.length + 1) (grownCap w (hs.length + 1) sCap ti.elem)) ∧
    Mem w0 M ρ' (updsH H ((stamp, .segs false [.rowH pk (hs ++ [(r, n)])]) :: G)) (w.drew.alloc (.cells (cs.toArray ++ #[u] ++ Builtin.zeroCells z.cells (grownCap w (hs.length + 1) sCap ti.elem - (hs.length + 1))) ti.elem)) := by
  intro cs sCap hcs hlt G hG
  have hge := grownCap_ge w (hs.length + 1) sCap ti.elem
  generalize grownCap w (hs.length + 1) sCap ti.elem = cp at *
  have hal := (hm.drew (w.drawn + 1)).alloc hn (segs_one (dm := dmOf H) (ρ := ρ) (g := .rowH pk (hs ++ [(r, n)])) (cs := cs ++ [u]) ⟨hpk, hcs.append (HdrsD.one hu)⟩) (cells := cs.toArray ++ #[u] ++ Builtin.zeroCells z.cells (cp - (hs.length + 1)))
   (T := ti.elem) (fr := (0, 0)) (extra := (Builtin.zeroCells z.cells (cp - (hs.length + 1))).toList) (by simp) (.inl rfl)
  have hsz : (cs.toArray ++ #[u] ++ Builtin.zeroCells z.cells (cp - (hs.length + 1))).size = cp := by
   have := hcs.len
   simp only [Array.size_append, List.size_toArray, Builtin.zeroCells, Array.size_map, Array.size_range, hz1]
   simp
   omega
  have hDD : ∀ (dm : Nat → Prop), dm stamp → D dm (updP ρ stamp ({ blk := w.drew.heap.size, off := 0, cap := (cs.toArray ++ #[u] ++ Builtin.zeroCells z.cells (cp - (hs.length + 1))).size } : Pl)) (.sl stamp 0 1 ⟨true, 0⟩ ⟨false, ((hs.length + 1 : Nat) : Int)⟩) (.slice (some ⟨w.heap.size, 0, none⟩) (hs.length + 1) cp) := fun dm hs' => by
   refine sl_D hs' _ (by omega) hge (.inl ⟨?_, ?_⟩)
   ·rw [updP_same]; rfl
   ·rw [updP_same, hsz]; show 1 * cp ≤ cp; omega
  rcases hG with rfl | ⟨key, hk, rfl⟩
  ·exact ⟨_, updP_keeps hn, hDD _ (dm_new _ _ _), hal⟩
  ·exact ⟨_, updP_keeps hn, hDD _ (dm_updH _ _ _ _ (dm_new _ _ _)), hal.gone key (dm_updH _ _ _ key hk)⟩
 rcases hold with ⟨rfl, rfl, rfl⟩ | ⟨key, len, hD, hkey, hlz, rfl⟩
 ·refine ⟨_, _, append_grow1 (xs := []) hU hi1 hi4 h2 hes hq (by omega) (by simp [Builtin.firstCells]) (by omega) (growslice_fits (by omega) (by simpa using hbn)), ?_⟩
  exact grow [] 0 rfl (by simp) [] (.inl rfl)
 ·simp only [D] at hD
  obtain ⟨hk, ho, hl, hr0, ad, cap, rfl, hlc, hdis⟩ := hD
  have hlen : len.z.toNat = hs.length := by omega
  rw [hlen] at hlc ⊢
  obtain ⟨vs, h1, h3, h4, h5⟩ := hm.segs hkey
  obtain ⟨c1, c2, ⟨_, e1⟩, rfl, e3⟩ := h1
  have e4 : c2 = [] := e3
  subst e4
  simp only [List.append_nil] at h3 h4
  have hcl := e1.len
  rcases Nat.lt_or_ge cap (hs.length + 1) with hroom | hroom
  ·refine ⟨_, _, append_grow1 (xs := c1) hU hi1 hi4 h2 hes hq (by omega) ?_ (by omega) (growslice_fits (by omega) hbn), ?_⟩
   ·rcases hdis with ⟨rfl, hcap⟩ | ⟨d1, d2⟩
    ·refine firstCells_some _ _ _ _ _ _ (by rw [hcl]; omega) (fun j u hu2 => ?_)
     rw [addr_add]
     have := h4 j u hu2
     simpa [at_] using this
    ·have h0 : hs.length = 0 := by omega
     have : c1 = [] := List.eq_nil_of_length_eq_zero (by omega)
     rw [this, h0]
     cases ad <;> simp [Builtin.firstCells, loadCells, loadCellsFrom]
   ·exact grow c1 cap e1 (by omega) _ (.inr ⟨key, by rw [hkey]; rfl, rfl⟩)
  ·rcases hdis with ⟨rfl, hcap⟩ | ⟨d1, d2⟩
   ·have hcap' : cap ≤ (ρ key).cap := by simpa using hcap
    have hth := h5 rfl
    have hone : ∀ v ∈ [u], v.oneCell' = true := fun v hv => by
     simp only [List.mem_singleton] at hv; subst hv
     exact (single_cell rfl hu).1
    have hst := run_storeCells_cells (P := P) (ρ key).blk ((ρ key).off + hs.length) [u] 0 w
     (fun j hj => by have := (hth (hs.length + j) (by simp at hj; omega)).1; simpa [Nat.add_assoc] using this)
     (fun j hj => by have := (hth (hs.length + j) (by simp at hj; omega)).2; simpa [Nat.add_assoc] using this) hone
    simp only [Nat.add_zero] at hst
    refine ⟨_, w.setCells (ρ key).blk ((ρ key).off + hs.length) [u], append_room1 hU hi1 h2 hes hq hroom ?_, ?_⟩
    ·rw [addr_add]
     simpa [at_] using hst
    ·have hmm := hm.store (nv := [u]) (o := hs.length) (vs' := c1 ++ [u]) (l' := [.rowH pk (hs ++ [(r, n)])]) hkey h4 (by omega) (by simp; omega) h3
      (by rw [← hcl, List.take_length, List.drop_eq_nil_of_le (by omega), List.append_nil]) (segs_one ⟨hpk, e1.append (HdrsD.one hu)⟩)
     have hn' : updH H key (.segs false [.rowH pk (hs ++ [(r, n)])]) stamp = none := by
      rw [updH_ne]; exact hn
      intro e; rw [e, hkey] at hn; cases hn
     have hne : stamp ≠ key := fun e => by rw [e, hkey] at hn; cases hn
     have hre := hmm.rekey (new := stamp) (updH_same _ _ _) hn'
     rw [updH_over, updH_comm (Ne.symm hne)] at hre
     refine ⟨updP ρ stamp (ρ key), updP_keeps hn, ?_, hre⟩
     refine sl_D (dm_updH _ _ _ _ (dm_new _ _ _)) _ (by omega) hroom (.inl ⟨?_, ?_⟩)
     ·rw [updP_same]; simp
     ·rw [updP_same]; simpa using hcap'
   ·omega

theorem one_at (hm : Mem w0 M ρ H w) {kx : Nat} {ro : Bool} {y : SV} {vx : Value} (hx : D (dmOf H) ρ (.sl kx 0 1 ⟨true, .ofNat 0⟩ ⟨true, .ofNat 1⟩) vx) (hk : H kx = some (.segs ro [.one y])) : ∃ u, D (dmOf H) ρ y u ∧ OneAt P w vx u := by
 simp only [D] at hx
 obtain ⟨_, _, _, _, ad, cap, rfl, hlc, hdis⟩ := hx
 obtain ⟨vs, h1, h2, h3, h4⟩ := hm.segs hk
 obtain ⟨c1, c2, ⟨_, u, hu, rfl⟩, rfl, e3⟩ := h1
 have e4 : c2 = [] := e3
 subst e4
 rcases hdis with ⟨rfl, hcap⟩ | ⟨h0, _⟩
 ·refine ⟨u, hu, fun w' => rfl, fun w' hw' => ?_⟩
  refine firstCells_some 1 1 _ _ _ [u] (by simp) (fun j v hv => hw' _ _ ?_)
  rw [addr_add]
  have := h3 j v (by simpa using hv)
  simpa [at_] using this
 ·exact absurd h0 (by decide)

theorem appHdr_sound {stamp : Nat} {te : TInfo} {old : Option (Nat × List (Nat × Nat))} {y : SV} {gone : List (Nat × SB)} {pre : List Prop} {d : Delta} {rs rs' : List Nat} (hm : Mem w0 M ρ H w) {u : Value} (hu : D (dmOf H) ρ y u) (hgone : ∀ k b, (k, b) ∈ gone → (H k).isSome = true)
  (h : (appHdr stamp te old y gone pre).run H rs = some (d, rs')) :
  ∃ (pk : Nat) (hs : List (Nat × Nat)) (r n : Nat) (ws : List (Nat × SB)) (ρ1 : Nat → Pl), 0 < te.bytes ∧ (old = none ∧ hs = [] ∨ old = some (pk, hs)) ∧ updsH H ws stamp = none ∧ (∀ k, k ∉ keysOf ws → updsH H ws k = H k) ∧
   (∀ k pk' hs', H k = some (.segs false [.rowH pk' hs']) → k ∉ keysOf ws) ∧ Ext H ρ ρ1 ∧ Mem w0 M ρ1 (updsH H ws) w ∧ D (dmOf (updsH H ws)) ρ1 (.ps pk r ⟨false, (n : Int)⟩) u ∧ (∀ k, dmOf H k → dmOf (updsH H ws) k) ∧
   d = ⟨((((hs.length + 1 : Nat) : Int) * (te.bytes : Int)) ≤ 70368744177664) :: pre, .sl stamp 0 1 ⟨true, 0⟩ ⟨false, ((hs.length + 1 : Nat) : Int)⟩, ws ++ ((stamp, .segs false [.rowH pk (hs ++ [(r, n)])]) :: gone), true⟩ := by
 have fin : ∀ (pk : Nat) (hs : List (Nat × Nat)) (r n : Nat) (ws : List (Nat × SB)) (rs0 : List Nat), (appH stamp te pk hs r n ws gone pre).run H rs0 = some (d, rs') → 0 < te.bytes ∧ H stamp = none ∧
   d = ⟨((((hs.length + 1 : Nat) : Int) * (te.bytes : Int)) ≤ 70368744177664) :: pre, .sl stamp 0 1 ⟨true, 0⟩ ⟨false, ((hs.length + 1 : Nat) : Int)⟩, ws ++ ((stamp, .segs false [.rowH pk (hs ++ [(r, n)])]) :: gone), true⟩ := by
  intro pk hs r n ws rs0 h
  unfold appH at h
  split at h
  ·rename_i hb
   simp only [RP.run] at h
   split at h
   ·rename_i hn
    refine ⟨?_, hn, run_ret h⟩
    simp [Nat.blt] at hb; omega
   ·simp [RP.run] at h
  ·simp [RP.run] at h
 have plain : ∀ (pk : Nat) (r : Nat) (len : SI) (rs0 : List Nat), D (dmOf H) ρ (.ps pk r len) u → (match old with
   | none => appH stamp te pk [] r len.z.toNat [] gone pre
   | some (pk', hs) => (match Nat.beq pk pk' with | true => appH stamp te pk hs r len.z.toNat [] gone pre | false => .fail)).run H rs0 = some (d, rs') →
   ∃ (pk : Nat) (hs : List (Nat × Nat)) (r n : Nat) (ws : List (Nat × SB)) (ρ1 : Nat → Pl), 0 < te.bytes ∧ (old = none ∧ hs = [] ∨ old = some (pk, hs)) ∧ updsH H ws stamp = none ∧ (∀ k, k ∉ keysOf ws → updsH H ws k = H k) ∧
   (∀ k pk' hs', H k = some (.segs false [.rowH pk' hs']) → k ∉ keysOf ws) ∧ Ext H ρ ρ1 ∧ Mem w0 M ρ1 (updsH H ws) w ∧ D (dmOf (updsH H ws)) ρ1 (.ps pk r ⟨false, (n : Int)⟩) u ∧ (∀ k, dmOf H k → dmOf (updsH H ws) k) ∧
   d = ⟨((((hs.length + 1 : Nat) : Int) * (te.bytes : Int)) ≤ 70368744177664) :: pre, .sl stamp 0 1 ⟨true, 0⟩ ⟨false, ((hs.length + 1 : Nat) : Int)⟩, ws ++ ((stamp, .segs false [.rowH pk (hs ++ [(r, n)])]) :: gone), true⟩ := by
  clear h
  intro pk r len rs0 hD h
  have hD' : D (dmOf H) ρ (.ps pk r ⟨false, (len.z.toNat : Int)⟩) u := by
   simp only [D] at hD ⊢
   have : ((len.z.toNat : Nat) : Int) = len.z := by omega
   rw [this]; exact hD
  split at h
  ·obtain ⟨a1, a2, a3⟩ := fin _ _ _ _ _ _ h
   exact ⟨pk, [], r, len.z.toNat, [], ρ, a1, .inl ⟨rfl, rfl⟩, a2, fun _ _ => rfl, fun _ _ _ _ h => (by cases h), Ext.refl _ _, hm, hD', fun _ h => h, a3⟩
  ·rename_i pk' hs
   split at h
   ·rename_i hb
    have e := Nat.eq_of_beq_eq_true hb
    subst e
    obtain ⟨a1, a2, a3⟩ := fin _ _ _ _ _ _ h
    exact ⟨pk, hs, r, len.z.toNat, [], ρ, a1, .inr rfl, a2, fun _ _ => rfl, fun _ _ _ _ h => (by cases h), Ext.refl _ _, hm, hD', fun _ h => h, a3⟩
   ·simp [RP.run] at h
 unfold appHdr at h
 split at h
 ·rename_i pk r len
  exact plain pk r len rs hu h
 ·rename_i kf len
  have hu0 := hu
  simp only [D] at hu
  obtain ⟨hk, _, hl, hr, ad, cap, rfl, hlc, hdis⟩ := hu
  have hz : ((len.z.toNat : Nat) : Int) = len.z := by omega
  simp only [RP.run] at h
  split at h
  ·rename_i pk r hkf
   obtain ⟨b1, b2, b3, b4, b5⟩ : BlkD (dmOf H) ρ w kf (.alias pk r) := hm.heap.blk kf _ hkf
   refine plain pk r len _ ?_ h
   simp only [D]
   refine ⟨b1, b2, hl, hr, ad, cap, rfl, hlc, ?_⟩
   rcases hdis with ⟨rfl, hcap⟩ | h0
   ·exact .inl ⟨by simp [at_, b3, b4], by rw [← b5]; simpa using hcap⟩
   ·exact .inr h0
  ·rename_i k l hkf
   -- the slice as a row of the pool
   have key : ∀ (ρ2 : Nat → Pl) (H2 : Nat → Option SB) (pk : Nat) (ms : List (List Int)), (ρ2 = ρ ∨ ∃ p, ρ2 = updP ρ pk p) → ρ2 kf = ρ kf → Mem w0 M ρ2 H2 w → H2 pk = some (.pool k ms) → H2 kf = some (.segs false [.rowI k l]) →
     D (dmOf (updH (updH H2 pk (.pool k (ms ++ [l]))) kf (.alias pk ms.length))) (updP ρ2 pk (joinP (ρ2 pk) (ρ2 kf))) (.ps pk ms.length ⟨false, (len.z.toNat : Int)⟩) (.slice ad len.z.toNat cap) := by
    intro ρ2 H2 pk ms _ hkf2 hm2 h2p h2f
    have hne : pk ≠ kf := fun e => by rw [e, h2f] at h2p; cases h2p
    have hP := hm2.pools.pool pk k ms h2p
    simp only [D]
    refine ⟨?_, ?_, by omega, by rw [hz]; exact hr, ad, cap, by rw [hz], by rw [hz]; exact hlc, ?_⟩
    ·unfold dmOf; rw [updH_ne hne, updH_same]; rfl
    ·rw [updP_same]; show ms.length < (ρ2 pk).pn + 1; rw [hP.cnt]; omega
    ·rw [hz]
     rcases hdis with ⟨rfl, hcap⟩ | h0
     ·refine .inl ⟨?_, ?_⟩
      ·rw [updP_same]; simp [joinP, hP.cnt, hkf2, at_]
      ·rw [updP_same]; simp [joinP, hP.cnt, hkf2]; simpa using hcap
     ·exact .inr h0
   split at h
   ·-- a new pool
    simp only [RP.run] at h
    split at h
    ·rename_i hnew
     obtain ⟨a1, a2, a3⟩ := fin _ _ _ _ _ _ h
     have hne : kf ≠ stamp + 500000 := fun e => by rw [← e, hkf] at hnew; cases hnew
     have hm2 := hm.pool_new hnew k rfl
     have e1 : updH H (stamp + 500000) (.pool k []) (stamp + 500000) = some (.pool k []) := updH_same _ _ _
     have e2 : updH H (stamp + 500000) (.pool k []) kf = some (.segs false [.rowI k l]) := by rw [updH_ne hne]; exact hkf
     obtain ⟨hm3, hle⟩ := hm2.pool_join e1 e2
     have hk3 := key _ _ _ _ (.inr ⟨_, rfl⟩) (updP_ne hne) hm2 e1 e2
     rw [updH_over] at hm3 hk3
     simp only [List.nil_append, List.length_nil] at hm3 hk3
     have hst : stamp ≠ stamp + 500000 := by omega
     have hst2 : stamp ≠ kf := fun e => by rw [e, hkf] at a2; cases a2
     refine ⟨stamp + 500000, [], 0, len.z.toNat, [(stamp + 500000, .pool k [l]), (kf, .alias (stamp + 500000) 0)], _, a1, .inl ⟨rfl, rfl⟩, ?_, ?_, ?_, ?_, hm3, hk3, fun a ha => dm_updH _ _ _ a (dm_updH _ _ _ a ha), a3⟩
     ·show updH (updH H _ _) kf _ stamp = none
      rw [updH_ne hst2, updH_ne hst]; exact a2
     ·intro a ha
      simp only [keysOf, List.mem_cons, List.not_mem_nil, or_false, not_or] at ha
      show updH (updH H _ _) kf _ a = _
      rw [updH_ne ha.2, updH_ne ha.1]
     ·intro a pk' hs' ha hm'
      simp only [keysOf, List.mem_cons, List.not_mem_nil, or_false] at hm'
      rcases hm' with rfl | rfl
      ·rw [hnew] at ha; cases ha
      ·rw [hkf] at ha; simp at ha
     ·intro a ha
      exact (updP_keeps hnew a ha).trans (hle a)
    ·simp [RP.run] at h
   ·rename_i pk hs
    simp only [RP.run] at h
    split at h
    ·rename_i k' ms hpk
     split at h
     ·rename_i hkk
      have hkk := keq_eq hkk
      subst hkk
      obtain ⟨a1, a2, a3⟩ := fin _ _ _ _ _ _ h
      obtain ⟨hm3, hle⟩ := hm.pool_join hpk hkf
      have hk3 := key _ _ _ _ (.inl rfl) rfl hm hpk hkf
      have hst : stamp ≠ pk := fun e => by rw [e, hpk] at a2; cases a2
      have hst2 : stamp ≠ kf := fun e => by rw [e, hkf] at a2; cases a2
      refine ⟨pk, hs, ms.length, len.z.toNat, [(pk, .pool k' (ms ++ [l])), (kf, .alias pk ms.length)], _, a1, .inr rfl, ?_, ?_, ?_, (fun a _ => hle a), hm3, hk3, fun a ha => dm_updH _ _ _ a (dm_updH _ _ _ a ha), a3⟩
      ·show updH (updH H _ _) kf _ stamp = none
       rw [updH_ne hst2, updH_ne hst]; exact a2
      ·intro a ha
       simp only [keysOf, List.mem_cons, List.not_mem_nil, or_false, not_or] at ha
       show updH (updH H _ _) kf _ a = _
       rw [updH_ne ha.2, updH_ne ha.1]
      ·intro a pk' hs' ha hm'
       simp only [keysOf, List.mem_cons, List.not_mem_nil, or_false] at hm'
       rcases hm' with rfl | rfl
       ·rw [hpk] at ha; cases ha
       ·rw [hkf] at ha; simp at ha
     ·simp [RP.run] at h
    ·simp [RP.run] at h
  ·simp [RP.run] at h
 ·simp [RP.run] at h

theorem onesN_len {dm : Nat → Prop} : ∀ (l : List Seg) (cs : List Value) (n : Nat), onesN l = some n → SegsD dm ρ l cs → cs.length = n
 | [], cs, n, h, hd => by
  simp only [onesN, Option.some.injEq] at h
  rw [show cs = [] from hd, ← h]; rfl
 | .one x :: r, cs, n, h, hd => by
  simp only [onesN] at h
  split at h
  ·rename_i m hm
   obtain ⟨c1, c2, ⟨_, v, _, rfl⟩, rfl, h3⟩ := hd
   simp only [Option.some.injEq] at h
   rw [List.length_append, onesN_len r c2 m hm h3, ← h]; simp; omega
  ·cases h
 | .arr .. :: r, cs, n, h, hd => by simp [onesN] at h
 | .rowI .. :: r, cs, n, h, hd => by simp [onesN] at h
 | .rowA .. :: r, cs, n, h, hd => by simp [onesN] at h
 | .rowH .. :: r, cs, n, h, hd => by simp [onesN] at h

theorem segs_snoc {dm : Nat → Prop} {g : Seg} {c : List Value} (hg : SegD dm ρ g c) : ∀ (l : List Seg) (cs : List Value), SegsD dm ρ l cs → SegsD dm ρ (l ++ [g]) (cs ++ c)
 | [], cs, h => by
  rw [show cs = [] from h]
  exact segs_one hg
 | x :: r, cs, h => by
  obtain ⟨c1, c2, h1, rfl, h3⟩ := h
  exact ⟨c1, c2 ++ c, h1, by simp, segs_snoc hg r c2 h3⟩

theorem one_ro (hm : Mem w0 M ρ H w) {kx : Nat} {k : IntKind} {d0 : RO} {vx : Value} (hx : D (dmOf H) ρ (.ro kx (.l (.ints k)) (.r [d0])) vx) (hk : H kx = some .world) : ∃ u, D (dmOf H) ρ (.ro kx (.ints k) d0) u ∧ OneAt P w vx u := by
 simp only [D] at hx
 obtain ⟨hdm, hrel, _, _⟩ := hx
 have hr := hm.view kx hk
 rw [hr] at hrel
 simp only [RoD, roX] at hrel
 obtain ⟨a, cap, cs, rfl, hcap, _, ⟨u, c, hu, rfl, hc⟩, hdis⟩ := hrel
 have hc : c = [] := hc
 subst hc
 have hD := svOf_D (dm := dmOf H) hdm hr (.ints k) d0 u hu
 have hD : D (dmOf H) ρ (.ro kx (.ints k) d0) u := hD
 have hcells := (single_cell (x := .ro kx (.ints k) d0) rfl hD).2
 refine ⟨u, hD, ?_⟩
 rcases hdis with ⟨b, o, rfl, hb, hr2⟩ | ⟨h0, _⟩
 ·refine ⟨fun w' => rfl, fun w' hw' => ?_⟩
  refine firstCells_some 1 1 _ _ _ [u] (by simp) (fun j v hv => hw' _ _ ?_)
  have h3 := hm.keeps.range hb hr2 j v (by rw [hcells]; simpa using hv)
  have hadd : (⟨b, o, none⟩ : Addr).add j = ⟨b, o + j, none⟩ := by by_cases h : j = 0 <;> simp [Addr.add, h]
  rw [hadd]; exact h3
 ·simp at h0

theorem appS_core {T T2 tyy : TypeId} {ti ti2 te : TInfo} {ty : List (Nat × TInfo)} (hT : RowOk P T ti) (ht : ti.ty = .slice) (hte : assoc ty ti.elem = some te) (hsl : te.ty = .slice) (hT2 : RowOk P T2 ti2) (hty : tabB P ty = true) (hsq : ti2.ty = .slice) (hb : 0 < te.bytes)
  (hm : Mem w0 M ρ H w) {stamp : Nat} (hn : H stamp = none) {y : SV} {u vx vs : Value} (hu : D (dmOf H) ρ y u) (hsy : single y = true) (hq : OneAt P w vx u) {l : List Seg} {n key : Nat}
  (hpre : (n + 1) * te.bytes ≤ 1000000) (hD : D (dmOf H) ρ (.sl key 0 1 ⟨true, 0⟩ ⟨true, (n : Int)⟩) vs) (hkey : H key = some (.segs false l)) (hln : onesN l = some n) :
  ∃ v w', (Builtin.append_ #[T, T2] tyy #[vs, vx]).run P w = .ok v w' ∧
   ∃ ρ', Ext H ρ ρ' ∧ D (dmOf (updsH H [(stamp, .segs false (l ++ [.one y])), (key, .gone)])) ρ' (.sl stamp 0 1 ⟨true, 0⟩ ⟨true, ((n + 1 : Nat) : Int)⟩) v ∧ Mem w0 M ρ' (updsH H [(stamp, .segs false (l ++ [.one y])), (key, .gone)]) w' := by
 have hTe := rowB_ok (tabB_row hty hte)
 obtain ⟨ie, z, hi1, hi2, hi3, hi4, hi5⟩ := hTe.info
 have hU := slice_of hT ht
 have hes : ie.size = 1 := by rw [hi2, hsl]; rfl
 have hz1 : z.cells.size = 1 := by rw [zeroB_size hi5, hsl]; rfl
 have h2 := noInt_of hT2 (show (match ti2.ty with | .slice => true | .str => true | _ => false) = true by rw [hsq])
 have hbn : (n + 1) * ie.bytes ≤ 140737488355328 := by rw [hi3]; omega
 have hbb : 0 < ie.bytes := by rw [hi3]; exact hb
 have hsmall : n + 1 ≤ 140737488355328 := by
  have : (n + 1) * 1 ≤ (n + 1) * ie.bytes := Nat.mul_le_mul_left _ (by omega)
  omega
 have hu1 : SegD (dmOf H) ρ (.one y) [u] := ⟨hsy, u, hu, rfl⟩
 simp only [D] at hD
 obtain ⟨hk, ho, hl, hr0, ad, cap, rfl, hlc, hdis⟩ := hD
 have hlen : ((n : Int)).toNat = n := by omega
 rw [hlen] at hlc ⊢
 obtain ⟨c1, e1, h3, h4, h5⟩ := hm.segs hkey
 have hcl := onesN_len l c1 n hln e1
 have hkS : (H key).isSome = true := by rw [hkey]; rfl
 have hne : stamp ≠ key := fun e => by rw [e, hkey] at hn; cases hn
 rcases Nat.lt_or_ge cap (n + 1) with hroom | hroom
 ·refine ⟨_, _, append_grow1 (xs := c1) hU hi1 hi4 h2 hes hq (by omega) ?_ (by omega) (growslice_fits (by omega) hbn), ?_⟩
  ·rcases hdis with ⟨rfl, hcap⟩ | ⟨d1, d2⟩
   ·refine firstCells_some _ _ _ _ _ _ (by rw [hcl]; omega) (fun j u hu2 => ?_)
    rw [addr_add]
    have := h4 j u hu2
    simpa [at_] using this
   ·have h0 : n = 0 := by omega
    have : c1 = [] := List.eq_nil_of_length_eq_zero (by omega)
    rw [this, h0]
    cases ad <;> simp [Builtin.firstCells, loadCells, loadCellsFrom]
  ·have hge := grownCap_ge w (n + 1) cap ti.elem
   generalize grownCap w (n + 1) cap ti.elem = cp at *
   have hal := (hm.drew (w.drawn + 1)).alloc hn (segs_snoc hu1 l c1 e1) (cells := c1.toArray ++ #[u] ++ Builtin.zeroCells z.cells (cp - (n + 1)))
    (T := ti.elem) (fr := (0, 0)) (extra := (Builtin.zeroCells z.cells (cp - (n + 1))).toList) (by simp) (.inl rfl)
   have hsz : (c1.toArray ++ #[u] ++ Builtin.zeroCells z.cells (cp - (n + 1))).size = cp := by
    simp only [Array.size_append, List.size_toArray, Builtin.zeroCells, Array.size_map, Array.size_range, hz1]
    simp
    omega
   refine ⟨_, updP_keeps hn, ?_, hal.gone key (dm_updH _ _ _ key hkS)⟩
   refine sl_D (es := 1) (dm_updH _ _ _ _ (dm_new _ _ _)) _ (by omega) hge (.inl ⟨?_, ?_⟩)
   ·rw [updP_same]; rfl
   ·rw [updP_same, hsz]; show 1 * cp ≤ cp; omega
 ·rcases hdis with ⟨rfl, hcap⟩ | ⟨d1, d2⟩
  ·have hcap' : cap ≤ (ρ key).cap := by simpa using hcap
   have hth := h5 rfl
   have hone : ∀ v ∈ [u], v.oneCell' = true := fun v hv => by
    simp only [List.mem_singleton] at hv; subst hv
    exact (single_cell hsy hu).1
   have hst := run_storeCells_cells (P := P) (ρ key).blk ((ρ key).off + n) [u] 0 w
    (fun j hj => by have := (hth (n + j) (by simp at hj; omega)).1; simpa [Nat.add_assoc] using this)
    (fun j hj => by have := (hth (n + j) (by simp at hj; omega)).2; simpa [Nat.add_assoc] using this) hone
   simp only [Nat.add_zero] at hst
   refine ⟨_, w.setCells (ρ key).blk ((ρ key).off + n) [u], append_room1 hU hi1 h2 hes hq hroom ?_, ?_⟩
   ·rw [addr_add]
    simpa [at_] using hst
   ·have hmm := hm.store (nv := [u]) (o := n) (vs' := c1 ++ [u]) (l' := l ++ [.one y]) hkey h4 (by omega) (by simp; omega) h3
     (by rw [← hcl, List.take_length, List.drop_eq_nil_of_le (by omega), List.append_nil]) (segs_snoc hu1 l c1 e1)
    have hn' : updH H key (.segs false (l ++ [.one y])) stamp = none := by
     rw [updH_ne]; exact hn
     intro e; rw [e, hkey] at hn; cases hn
    have hre := hmm.rekey (new := stamp) (updH_same _ _ _) hn'
    rw [updH_over, updH_comm (Ne.symm hne)] at hre
    refine ⟨updP ρ stamp (ρ key), updP_keeps hn, ?_, hre⟩
    refine sl_D (es := 1) (dm_updH _ _ _ _ (dm_new _ _ _)) _ (by omega) hroom (.inl ⟨?_, ?_⟩)
    ·rw [updP_same]; simp
    ·rw [updP_same]; simpa using hcap'
  ·omega

theorem updsH_append (H : Nat → Option SB) : ∀ (a b : List (Nat × SB)), updsH H (a ++ b) = updsH (updsH H a) b
 | [], b => rfl
 | (k, x) :: r, b => by simp only [List.cons_append, updsH]; exact updsH_append _ r b

theorem appendH_sound {T T2 tyy : TypeId} {ti ti2 te : TInfo} {ty : List (Nat × TInfo)} (hT : RowOk P T ti) (ht : ti.ty = .slice) (hte : assoc ty ti.elem = some te) (hsl : te.ty = .slice) (hT2 : RowOk P T2 ti2) (hty : tabB P ty = true) (hsq : ti2.ty = .slice)
  (hm : Mem w0 M ρ H w) {stamp : Nat} {s x : SV} {vs vx : Value} (hs : D (dmOf H) ρ s vs) (hx : D (dmOf H) ρ x vx) {d : Delta} {rs rs' : List Nat} (h : (appendHOp stamp te s x).run H rs = some (d, rs')) (hp : AllP d.pre) :
  ∃ v w', (Builtin.append_ #[T, T2] tyy #[vs, vx]).run P w = .ok v w' ∧ After w0 M ρ H d v w' := by
 unfold appendHOp at h
 split at h
 ·rename_i kx k d0
  unfold appSOp at h
  split at h
  ·rename_i key n
   simp only [RP.run] at h
   split at h
   ·rename_i hkx
    simp only [RP.run] at h
    split at h
    ·rename_i l hkey
     split at h
     ·rename_i m hln
      split at h
      ·rename_i hb
       simp only [Bool.and_eq_true] at hb
       have hmn := Nat.eq_of_beq_eq_true hb.1.1
       subst hmn
       have hb1 : 0 < te.bytes := by have := hb.1.2; simp [Nat.blt] at this; omega
       have hb2 := Nat.le_of_ble_eq_true hb.2
       simp only [RP.run] at h
       split at h
       ·rename_i hn
        have e := run_ret h
        subst e
        obtain ⟨u, hu, hone⟩ := one_ro (P := P) hm hx hkx
        obtain ⟨v, w', q1, ρ', q2, q3, q4⟩ := appS_core (tyy := tyy) hT ht hte hsl hT2 hty hsq hb1 hm hn hu rfl hone hb2 hs hkey hln
        refine ⟨v, w', q1, ρ', q2, ?_, q4⟩
        have e : litI (Int.ofNat (m + 1)) = ((m + 1 : Nat) : Int) := litI_eq _
        show D _ _ (.sl stamp 0 1 ⟨true, 0⟩ ⟨true, litI (Int.ofNat (m + 1))⟩) v
        rw [e]; exact q3
       ·simp [RP.run] at h
      ·simp [RP.run] at h
     ·simp [RP.run] at h
    ·simp [RP.run] at h
   ·simp [RP.run] at h
  ·simp [RP.run] at h
 ·rename_i kx
  simp only [RP.run] at h
  split at h
  ·rename_i ro y hkx
   obtain ⟨u, hu, hone⟩ := one_at (P := P) hm hx hkx
   split at h
   ·simp only [D] at hs
    subst hs
    obtain ⟨pk, hs, r, n, ws, ρ1, b1, b2, b3, b4, b5, b6, b7, b8, b9, rfl⟩ := appHdr_sound hm hu (fun k b hb => by cases hb) h
    have hh : hs = [] := by rcases b2 with b2 | b2; exact b2.2; cases b2
    subst hh
    obtain ⟨v, w', q1, ρ', q2, q3, q4⟩ := appH_core (tyy := tyy) (gone := []) hT ht hte hsl hT2 hty hsq b1 b7 b3 b8 hone hp.1 (.inl ⟨rfl, rfl, rfl⟩)
    refine ⟨v, w', q1, ρ', fun k hk => (b6 k hk).trans (q2 k (b9 k hk)), ?_, ?_⟩
    ·rw [updsH_append]; exact q3
    ·rw [updsH_append]; exact q4
   ·rename_i key len
    simp only [RP.run] at h
    split at h
    ·rename_i pk0 hs0 hkey
     obtain ⟨pk, hs, r, n, ws, ρ1, b1, b2, b3, b4, b5, b6, b7, b8, b9, rfl⟩ := appHdr_sound hm hu (fun k b hb => by simp only [List.mem_singleton, Prod.mk.injEq] at hb; rw [hb.1, hkey]; rfl) h
     have hh : pk0 = pk ∧ hs0 = hs := by
      rcases b2 with ⟨b2, _⟩ | b2
      ·cases b2
      ·simpa using b2
     obtain ⟨rfl, rfl⟩ := hh
     have hkey2 : updsH H ws key = some (.segs false [.rowH pk0 hs0]) := by rw [b4 key (b5 key _ _ hkey)]; exact hkey
     have hs2 : D (dmOf (updsH H ws)) ρ1 (.sl key 0 1 ⟨true, 0⟩ len) vs := D.mono b9 b6 _ _ hs
     obtain ⟨v, w', q1, ρ', q2, q3, q4⟩ := appH_core (tyy := tyy) hT ht hte hsl hT2 hty hsq b1 b7 b3 b8 hone hp.1 (.inr ⟨key, len, hs2, hkey2, hp.2.1, rfl⟩)
     refine ⟨v, w', q1, ρ', fun k hk => (b6 k hk).trans (q2 k (b9 k hk)), ?_, ?_⟩
     ·rw [updsH_append]; exact q3
     ·rw [updsH_append]; exact q4
    ·simp [RP.run] at h
   ·simp [RP.run] at h
  ·simp [RP.run] at h
 ·simp [RP.run] at h

/-! ### A pool's row appended to -/

theorem cells_there {b o n : Nat} (ht : w.there b o n) (m : Nat) (hm' : m ≤ n) (len cap : Nat) : ∃ cs : List Value, cs.length = m ∧ ∀ w' : World, (∀ a u, w.cell? a = some u → w'.cell? a = some u) → (Builtin.firstCells 1 m (.slice (some ⟨b, o, none⟩) len cap)).run P w' = .ok cs.toArray w' := by
 refine ⟨(List.range m).map fun j => (w.cell? ⟨b, o + j, none⟩).getD (.bool false), by simp, fun w' hw' => ?_⟩
 refine firstCells_some 1 m _ _ _ _ (by simp) (fun j v hv => ?_)
 have hj : j < m := by have := (List.getElem?_eq_some_iff.1 hv).1; simpa using this
 have hadd : (⟨b, o, none⟩ : Addr).add j = ⟨b, o + j, none⟩ := by by_cases h : j = 0 <;> simp [Addr.add, h]
 rw [hadd]
 have h1 := (ht j (by omega)).1
 obtain ⟨u, hu⟩ := Option.isSome_iff_exists.1 h1
 have hu' := hu
 simp [hj, hu] at hv
 subst hv
 exact hw' _ _ hu

theorem appendM_sound {T T2 tyy : TypeId} {ti ti2 : TInfo} {ty : List (Nat × TInfo)} (hT : RowOk P T ti) (hT2 : RowOk P T2 ti2) (hty : tabB P ty = true) (hm : Mem w0 M ρ H w) {stamp : Nat} {s x : SV} {vs vx : Value} (hs : D (dmOf H) ρ s vs) (hx : D (dmOf H) ρ x vx)
  {key r : Nat} {jk : Option Nat} {len : SI} (hmore : isMore s = some (key, r, jk, len)) {d : Delta} {rs rs' : List Nat} (h : (appendMOp ty stamp ti ti2 key r jk len x).run H rs = some (d, rs')) (hp : AllP d.pre) :
  ∃ v w', (Builtin.append_ #[T, T2] tyy #[vs, vx]).run P w = .ok v w' ∧ After w0 M ρ H d v w' := by
 have hbase : dmOf H key ∧ r < (ρ key).pn ∧ 0 ≤ len.z ∧ ∃ a cap, vs = .slice a len.z.toNat cap ∧ len.z.toNat ≤ cap ∧
   ((a = some ⟨(ρ key).pb r, (ρ key).po r, none⟩ ∧ cap ≤ (ρ key).pc r) ∨ (∃ j, jk = some j ∧ a = some (at_ (ρ j) 0) ∧ cap ≤ (ρ j).cap) ∨ (len.z = 0 ∧ cap = 0)) := by
  unfold isMore at hmore
  split at hmore
  ·simp only [Option.some.injEq, Prod.mk.injEq] at hmore
   obtain ⟨rfl, rfl, rfl, rfl⟩ := hmore
   simp only [D] at hs
   obtain ⟨h1, h2, h3, _, a, cap, h4, h5, h6⟩ := hs
   refine ⟨h1, h2, h3, a, cap, h4, h5, ?_⟩
   rcases h6 with h6 | h6
   ·exact .inl h6
   ·exact .inr (.inr h6)
  ·simp only [Option.some.injEq, Prod.mk.injEq] at hmore
   obtain ⟨rfl, rfl, rfl, rfl⟩ := hmore
   simp only [D] at hs
   obtain ⟨h1, h1', h2, h3, _, a, cap, h4, h5, h6⟩ := hs
   refine ⟨h1, h2, h3, a, cap, h4, h5, ?_⟩
   rcases h6 with h6 | h6 | h6
   ·exact .inl h6
   ·exact .inr (.inl ⟨_, rfl, h6⟩)
   ·exact .inr (.inr h6)
  ·cases hmore
 obtain ⟨hkey, hrp, hl0, a, cap, rfl, hlc, hdis⟩ := hbase
 unfold appendMOp at h
 split at h
 ·rename_i te hts hte hsq
  split at h
  ·rename_i k hti hb
   have hTe := rowB_ok (tabB_row hty hte)
   obtain ⟨ie, z, hi1, hi2, hi3, hi4, hi5⟩ := hTe.info
   have hU := slice_of hT hts
   have hes : ie.size = 1 := by rw [hi2, hti]; rfl
   have hz1 : z.cells.size = 1 := by rw [zeroB_size hi5, hti]; rfl
   have h2 := noInt_of hT2 (show (match ti2.ty with | .slice => true | .str => true | _ => false) = true from hsq)
   have hbp : 0 < te.bytes := by simp [Nat.blt] at hb; omega
   obtain ⟨p, q, rs1, hw, hq⟩ := withCon_sound (P := P) hm hx h
   split at hw
   ·rename_i k' l
    split at hw
    ·rename_i hkk
     have hkk := keq_eq hkk
     subst hkk
     simp only [RP.run] at hw
     split at hw
     ·rename_i k2 ms hpool
      split at hw
      ·rename_i hk2
       have hk2 := keq_eq hk2
       subst hk2
       have fin : ∃ gone : List (Nat × SB), H stamp = none ∧ (gone = [] ∧ jk = none ∨ ∃ j, jk = some j ∧ H j = some (.segs false []) ∧ gone = [(j, .gone)]) ∧
         d = ⟨(((ms.getD r []).length : Int) ≤ len.z) :: ((len.z + (l.length : Int)) * (te.bytes : Int) ≤ 70368744177664) :: p, .mr key r stamp ⟨false, len.z + (l.length : Int)⟩, (stamp, .segs false []) :: gone, true⟩ := by
        split at hw
        ·simp only [RP.run] at hw
         split at hw
         ·rename_i hn
          exact ⟨[], hn, .inl ⟨rfl, rfl⟩, run_ret hw⟩
         ·simp [RP.run] at hw
        ·rename_i j
         simp only [RP.run] at hw
         split at hw
         ·rename_i hj
          simp only [RP.run] at hw
          split at hw
          ·rename_i hn
           exact ⟨[(j, .gone)], hn, .inr ⟨j, rfl, hj, rfl⟩, run_ret hw⟩
          ·simp [RP.run] at hw
         ·simp [RP.run] at hw
       obtain ⟨gone, hn, hg, rfl⟩ := fin
       have hrow : ((ms.getD r []).length : Int) ≤ len.z := hp.1
       have hbytes : (len.z + (l.length : Int)) * (te.bytes : Int) ≤ 70368744177664 := hp.2.1
       have hq := hq hp.2.2
       have hP := hm.pools.pool key k2 ms hpool
       have hrl : r < ms.length := by rw [← hP.cnt]; exact hrp
       have hrm : ms[r]? = some (ms.getD r []) := by rw [List.getD_eq_getElem?_getD, List.getElem?_eq_getElem hrl]; rfl
       obtain ⟨a1, a2, a3, a4⟩ := hP.rowk r _ hrm
       have hne : key ≠ stamp := fun e => by rw [e, hn] at hpool; cases hpool
       have hcl : (conCells (.ints k2 l)).length = l.length := by simp [conCells]
       have hqe : conSize (.ints k2 l) = ie.size := by rw [hes]; rfl
       have hL : (((len.z.toNat + l.length : Nat)) : Int) = len.z + (l.length : Int) := by rw [Int.natCast_add, Int.toNat_of_nonneg hl0]
       have hbn : (len.z.toNat + l.length) * ie.bytes ≤ 140737488355328 := by
        have : (((len.z.toNat + l.length) * ie.bytes : Nat) : Int) ≤ 70368744177664 := by rw [Int.natCast_mul, hL, hi3]; exact hbytes
        omega
       have hbb : 0 < ie.bytes := by rw [hi3]; exact hbp
       have hsmall : len.z.toNat + l.length ≤ 140737488355328 := by
        have : (len.z.toNat + l.length) * 1 ≤ (len.z.toNat + l.length) * ie.bytes := Nat.mul_le_mul_left _ (by omega)
        omega
       -- the answer, wherever it lies
       have ans : ∀ (ρ' : Nat → Pl) (a' : Option Addr) (cap' : Nat), (ρ' key = ρ key) → len.z.toNat + l.length ≤ cap' →
         ((a' = some ⟨(ρ key).pb r, (ρ key).po r, none⟩ ∧ cap' ≤ (ρ key).pc r) ∨ (a' = some (at_ (ρ' stamp) 0) ∧ cap' ≤ (ρ' stamp).cap) ∨ (len.z + (l.length : Int) = 0 ∧ cap' = 0)) →
         D (dmOf (updsH H ((stamp, .segs false []) :: gone))) ρ' (.mr key r stamp ⟨false, len.z + (l.length : Int)⟩) (.slice a' (len.z.toNat + l.length) cap') := by
        intro ρ' a' cap' hρ hc hc'
        have dmu : ∀ b, dmOf (updH H stamp (.segs false [])) b → dmOf (updsH H ((stamp, .segs false []) :: gone)) b := fun b hb => dm_updsH gone _ b hb
        have ht : (len.z + (l.length : Int)).toNat = len.z.toNat + l.length := by omega
        simp only [D]
        refine ⟨dmu _ (dm_updH _ _ _ _ hkey), dmu _ (dm_new _ _ _), by rw [hρ]; exact hrp, by omega, by simp only [InR]; omega, a', cap', by rw [ht], by omega, ?_⟩
        rw [hρ]; exact hc'
       rcases Nat.lt_or_ge cap (len.z.toNat + l.length) with hroom | hroom
       ·-- it grows
        have hold : ∃ cs : List Value, cs.length = len.z.toNat ∧ (Builtin.firstCells ie.size len.z.toNat (.slice a len.z.toNat cap)).run P w.drew = .ok cs.toArray w.drew := by
         rw [hes]
         rcases hdis with ⟨rfl, hcap⟩ | ⟨j, hj, rfl, hcap⟩ | ⟨d1, d2⟩
         ·obtain ⟨cs, c1, c2⟩ := cells_there (P := P) a4 len.z.toNat (by omega) len.z.toNat cap
          exact ⟨cs, c1, c2 _ fun _ _ h => by simpa using h⟩
         ·rcases hg with ⟨_, e⟩ | ⟨j', e, hj', _⟩
          ·rw [hj] at e; cases e
          ·rw [hj] at e
           simp only [Option.some.injEq] at e
           subst e
           obtain ⟨_, _, _, _, s4⟩ := hm.segs hj'
           obtain ⟨cs, c1, c2⟩ := cells_there (P := P) (s4 rfl) len.z.toNat (by omega) len.z.toNat cap
           exact ⟨cs, c1, c2 _ fun _ _ h => by simpa using h⟩
         ·refine ⟨[], by simp [d1], ?_⟩
          rw [d1]
          cases a <;> simp [Builtin.firstCells, loadCells, loadCellsFrom]
        obtain ⟨cs, hcs, hold⟩ := hold
        have hge := grownCap_ge w (len.z.toNat + l.length) cap ti.elem
        refine ⟨_, _, append_grow (xs := cs) hU hi1 hi4 h2 hq hqe hroom hold (by show (((len.z.toNat + l.length : Nat)) : Int) ≤ _; omega) (growslice_fits (by simp only [conLen]; omega) hbn), ?_⟩
        have hcl2 : conLen (.ints k2 l) = l.length := rfl
        rw [hcl2]
        generalize grownCap w (len.z.toNat + l.length) cap ti.elem = cp at *
        have hsz : (cs.toArray ++ (conCells (.ints k2 l)).toArray ++ Builtin.zeroCells z.cells (cp - (len.z.toNat + l.length))).size = cp := by
         simp only [Array.size_append, List.size_toArray, Builtin.zeroCells, Array.size_map, Array.size_range, hz1, hcl, hcs]
         omega
        have hal := (hm.drew (w.drawn + 1)).alloc hn (l := []) (vs := []) rfl (cells := cs.toArray ++ (conCells (.ints k2 l)).toArray ++ Builtin.zeroCells z.cells (cp - (len.z.toNat + l.length)))
         (T := ti.elem) (fr := (0, 0)) (extra := (cs.toArray ++ (conCells (.ints k2 l)).toArray ++ Builtin.zeroCells z.cells (cp - (len.z.toNat + l.length))).toList) (by simp) (.inl rfl)
        refine ⟨updP ρ stamp ({ blk := w.drew.heap.size, off := 0, cap := (cs.toArray ++ (conCells (.ints k2 l)).toArray ++ Builtin.zeroCells z.cells (cp - (len.z.toNat + l.length))).size } : Pl), updP_keeps hn, ans _ _ _ (updP_ne hne) hge (.inr (.inl ⟨?_, ?_⟩)), ?_⟩
        ·rw [updP_same]; rfl
        ·rw [updP_same, hsz]; exact Nat.le_refl _
        ·rcases hg with ⟨rfl, _⟩ | ⟨j, _, hj, rfl⟩
         ·exact hal
         ·exact hal.gone j (dm_updH _ _ _ j (dm_of hj))
       ·-- there is room
        have virt : ∀ w' : World, Mem w0 M ρ H w' → Mem w0 M (updP ρ stamp ({ blk := 0, off := 0, cap := 0 } : Pl)) (updsH H ((stamp, .segs false []) :: gone)) w' := fun w' hm' => by
         have hv := hm'.virtual hn (l := []) rfl
         rcases hg with ⟨rfl, _⟩ | ⟨j, _, hj, rfl⟩
         ·exact hv
         ·exact hv.gone j (dm_updH _ _ _ j (dm_of hj))
        rcases hdis with ⟨rfl, hcap⟩ | ⟨j, hj, rfl, hcap⟩ | ⟨d1, d2⟩
        ·have hst := run_storeCells_cells (P := P) ((ρ key).pb r) ((ρ key).po r + len.z.toNat) (conCells (.ints k2 l)) 0 w
          (fun i hi => by have := (a4 (len.z.toNat + i) (by omega)).1; simpa [Nat.add_assoc] using this)
          (fun i hi => by have := (a4 (len.z.toNat + i) (by omega)).2; simpa [Nat.add_assoc] using this) conCells_one
         simp only [Nat.add_zero] at hst
         have hadd : (⟨(ρ key).pb r, (ρ key).po r, none⟩ : Addr).add (len.z.toNat * ie.size) = ⟨(ρ key).pb r, (ρ key).po r + len.z.toNat, none⟩ := by
          rw [hes, Nat.mul_one]; by_cases h : len.z.toNat = 0 <;> simp [Addr.add, h]
         refine ⟨_, w.setCells ((ρ key).pb r) ((ρ key).po r + len.z.toNat) (conCells (.ints k2 l)), append_room hU hi1 h2 hq hqe hroom (fun b hb => ?_) (fun hb => by cases hb), updP ρ stamp ({ blk := 0, off := 0, cap := 0 } : Pl), updP_keeps hn, ans _ _ _ (updP_ne hne) hroom (.inl ⟨rfl, hcap⟩), virt _ ?_⟩
         ·simp only [Option.some.injEq] at hb
          subst hb
          rw [hadd]; simpa using hst
         ·rcases Nat.eq_zero_or_pos ((ρ key).pc r) with h0 | h0
          ·have : conCells (.ints k2 l) = [] := List.eq_nil_of_length_eq_zero (by rw [hcl]; omega)
           rw [this]; exact hm
          ·exact hm.beyond_row hpool hrm (by omega) h0
        ·rcases hg with ⟨_, e⟩ | ⟨j', e, hj', rfl⟩
         ·rw [hj] at e; cases e
         ·rw [hj] at e
          simp only [Option.some.injEq] at e
          subst e
          obtain ⟨_, _, _, _, s4⟩ := hm.segs hj'
          have hth := s4 rfl
          have hst := run_storeCells_cells (P := P) (ρ j).blk ((ρ j).off + len.z.toNat) (conCells (.ints k2 l)) 0 w
           (fun i hi => by have := (hth (len.z.toNat + i) (by omega)).1; simpa [Nat.add_assoc] using this)
           (fun i hi => by have := (hth (len.z.toNat + i) (by omega)).2; simpa [Nat.add_assoc] using this) conCells_one
          simp only [Nat.add_zero] at hst
          have hnej : stamp ≠ j := fun e => by rw [e, hj'] at hn; cases hn
          have hmm : Mem w0 M ρ H (w.setCells (ρ j).blk ((ρ j).off + len.z.toNat) (conCells (.ints k2 l))) := by
           rcases Nat.eq_zero_or_pos (ρ j).cap with h0 | h0
           ·have : conCells (.ints k2 l) = [] := List.eq_nil_of_length_eq_zero (by rw [hcl]; omega)
            rw [this]; exact hm
           ·exact hm.beyond_blank hj' h0
          have hre := hmm.rekey (new := stamp) hj' hn
          rw [updH_comm (Ne.symm hnej)] at hre
          refine ⟨_, _, append_room hU hi1 h2 hq hqe hroom (fun b hb => ?_) (fun hb => by cases hb), updP ρ stamp (ρ j), updP_keeps hn, ans _ _ _ (updP_ne hne) hroom (.inr (.inl ⟨?_, ?_⟩)), hre⟩
          ·simp only [Option.some.injEq] at hb
           subst hb
           rw [addr_add, hes, Nat.mul_one]
           simpa [at_] using hst
          ·rw [updP_same]
          ·rw [updP_same]; exact hcap
        ·have hm0 : l.length = 0 := by omega
         have hc0 : conCells (.ints k2 l) = [] := List.eq_nil_of_length_eq_zero (by rw [hcl, hm0])
         exact ⟨_, w, append_room hU hi1 h2 hq hqe hroom (fun b hb => by rw [hc0]; rfl) (fun _ => rfl), updP ρ stamp ({ blk := 0, off := 0, cap := 0 } : Pl), updP_keeps hn, ans _ _ _ (updP_ne hne) hroom (.inr (.inr ⟨by omega, d2⟩)), virt _ hm⟩
      ·simp [RP.run] at hw
     ·simp [RP.run] at hw
    ·simp [RP.run] at hw
   ·simp [RP.run] at hw
  ·simp [RP.run] at h
 ·simp [RP.run] at h

theorem cells_thereN {b o c : Nat} (ht : w.there b o c) (n m : Nat) (hm' : n * m ≤ c) (len cap : Nat) : ∃ cs : List Value, cs.length = n * m ∧ ∀ w' : World, (∀ a u, w.cell? a = some u → w'.cell? a = some u) → (Builtin.firstCells n m (.slice (some ⟨b, o, none⟩) len cap)).run P w' = .ok cs.toArray w' := by
 refine ⟨(List.range (n * m)).map fun j => (w.cell? ⟨b, o + j, none⟩).getD (.bool false), by simp, fun w' hw' => ?_⟩
 refine firstCells_some n m _ _ _ _ (by simp [Nat.mul_comm]) (fun j v hv => ?_)
 have hj : j < n * m := by have := (List.getElem?_eq_some_iff.1 hv).1; simpa using this
 have hadd : (⟨b, o, none⟩ : Addr).add j = ⟨b, o + j, none⟩ := by by_cases h : j = 0 <;> simp [Addr.add, h]
 rw [hadd]
 have h1 := (ht j (by omega)).1
 obtain ⟨u, hu⟩ := Option.isSome_iff_exists.1 h1
 have hu' := hu
 simp [hj, hu] at hv
 subst hv
 exact hw' _ _ hu

theorem appendK_sound {T T2 tyy : TypeId} {ti ti2 : TInfo} {ty : List (Nat × TInfo)} (hT : RowOk P T ti) (hT2 : RowOk P T2 ti2) (hty : tabB P ty = true) (hm : Mem w0 M ρ H w) {stamp : Nat} {s x : SV} {vs vx : Value} (hs : D (dmOf H) ρ s vs) (hx : D (dmOf H) ρ x vx)
  {key est : Nat} {jk : Option Nat} {len : SI} (hmore : keepOf s = some (key, est, jk, len)) {d : Delta} {rs rs' : List Nat} (h : (appendKOp ty stamp ti ti2 key est jk len x).run H rs = some (d, rs')) (hp : AllP d.pre) :
  ∃ v w', (Builtin.append_ #[T, T2] tyy #[vs, vx]).run P w = .ok v w' ∧ After w0 M ρ H d v w' := by
 have hbase : dmOf H key ∧ 0 ≤ len.z ∧ ∃ a cap, vs = .slice a len.z.toNat cap ∧ len.z.toNat ≤ cap ∧
   ((a = some (at_ (ρ key) 0) ∧ est * cap ≤ (ρ key).cap) ∨ (∃ j, jk = some j ∧ a = some (at_ (ρ j) 0) ∧ est * cap ≤ (ρ j).cap) ∨ (len.z = 0 ∧ cap = 0)) := by
  unfold keepOf at hmore
  split at hmore
  ·split at hmore
   ·simp only [Option.some.injEq, Prod.mk.injEq] at hmore
    obtain ⟨rfl, rfl, rfl, rfl⟩ := hmore
    simp only [D] at hs
    obtain ⟨h1, _, h3, _, a, cap, h4, h5, h6⟩ := hs
    refine ⟨h1, h3, a, cap, h4, h5, ?_⟩
    rcases h6 with ⟨h6, h7⟩ | h6
    ·exact .inl ⟨by simpa using h6, by simpa using h7⟩
    ·exact .inr (.inr h6)
   ·cases hmore
  ·simp only [Option.some.injEq, Prod.mk.injEq] at hmore
   obtain ⟨rfl, rfl, rfl, rfl⟩ := hmore
   simp only [D] at hs
   obtain ⟨h1, h1', h3, _, a, cap, h4, h5, h6⟩ := hs
   refine ⟨h1, h3, a, cap, h4, h5, ?_⟩
   rcases h6 with h6 | h6 | h6
   ·exact .inl h6
   ·exact .inr (.inl ⟨_, rfl, h6⟩)
   ·exact .inr (.inr h6)
  ·cases hmore
 obtain ⟨hkey, hl0, a, cap, rfl, hlc, hdis⟩ := hbase
 unfold appendKOp at h
 split at h
 ·rename_i te hts hte hsq
  split at h
  ·rename_i n k hti hb
   have hTe := rowB_ok (tabB_row hty hte)
   obtain ⟨ie, z, hi1, hi2, hi3, hi4, hi5⟩ := hTe.info
   have hU := slice_of hT hts
   have hes : ie.size = n := by rw [hi2, hti]; simp [Ty.size]
   have hz1 : z.cells.size = n := by rw [zeroB_size hi5, hti]; simp [Ty.size]
   have h2 := noInt_of hT2 (show (match ti2.ty with | .slice => true | .str => true | _ => false) = true from hsq)
   have hbp : 0 < te.bytes := by simp [Nat.blt] at hb; omega
   obtain ⟨p, q, rs1, hw, hq⟩ := withCon_sound (P := P) hm hx h
   split at hw
   ·rename_i k' m l
    split at hw
    ·rename_i hkk
     simp only [Bool.and_eq_true] at hkk
     have e1 := Nat.eq_of_beq_eq_true hkk.1.1
     have e2 := Nat.eq_of_beq_eq_true hkk.1.2
     have hn0 : 0 < n := by have := hkk.2; simp [Nat.blt] at this; omega
     subst e1 e2
     simp only [RP.run] at hw
     split at hw
     ·rename_i k2 n2 r hrow0
      split at hw
      ·rename_i hk2
       have hk2 := Nat.eq_of_beq_eq_true hk2
       subst hk2
       have fin : ∃ gone : List (Nat × SB), H stamp = none ∧ (gone = [] ∧ jk = none ∨ ∃ j, jk = some j ∧ H j = some (.segs false []) ∧ gone = [(j, .gone)]) ∧
         d = ⟨((r.length : Int) ≤ len.z) :: ((len.z + (l.length : Int)) * (te.bytes : Int) ≤ 70368744177664) :: p, .kr key n2 stamp ⟨false, len.z + (l.length : Int)⟩, (stamp, .segs false []) :: gone, true⟩ := by
        split at hw
        ·simp only [RP.run] at hw
         split at hw
         ·rename_i hn
          exact ⟨[], hn, .inl ⟨rfl, rfl⟩, run_ret hw⟩
         ·simp [RP.run] at hw
        ·rename_i j
         simp only [RP.run] at hw
         split at hw
         ·rename_i hj
          simp only [RP.run] at hw
          split at hw
          ·rename_i hn
           exact ⟨[(j, .gone)], hn, .inr ⟨j, rfl, hj, rfl⟩, run_ret hw⟩
          ·simp [RP.run] at hw
         ·simp [RP.run] at hw
       obtain ⟨gone, hn, hg, rfl⟩ := fin
       have hrow : (r.length : Int) ≤ len.z := hp.1
       have hbytes : (len.z + (l.length : Int)) * (te.bytes : Int) ≤ 70368744177664 := hp.2.1
       have hq := hq hp.2.2
       obtain ⟨vr, s1, s2, s3, a4⟩ := hm.segs hrow0
       have a4 := a4 rfl
       have hbeyond : ∀ vs, SegsD (dmOf H) ρ [.rowA k2 n2 r] vs → vs.length ≤ n2 * len.z.toNat := fun vs hv => by
        obtain ⟨c1, c2, ⟨q1, rfl⟩, rfl, q3⟩ := hv
        have q3 : c2 = [] := q3
        subst q3
        rw [List.append_nil, List.length_map]
        have hfl : ∀ l : List (List Int), AllA k2 n2 l → l.flatten.length = n2 * l.length := by
         intro l
         induction l with
         | nil => intro _; simp
         | cons a r ih =>
          intro hA
          rw [List.flatten_cons, List.length_append, (hA a (by simp)).1, ih (fun b hb => hA b (by simp [hb])), List.length_cons, Nat.mul_succ]
          omega
        rw [hfl r q1]
        exact Nat.mul_le_mul_left _ (by omega)
       have hne : key ≠ stamp := fun e => by rw [e, hn] at hrow0; cases hrow0
       have hqe : conSize (.arrs k' n2 l) = ie.size := by rw [hes]; rfl
       have hcl : (conCells (.arrs k' n2 l)).length = n2 * l.length := by rw [conCells_length hq.ok, Nat.mul_comm]; rfl
       have hL : (((len.z.toNat + l.length : Nat)) : Int) = len.z + (l.length : Int) := by rw [Int.natCast_add, Int.toNat_of_nonneg hl0]
       have hbn : (len.z.toNat + l.length) * ie.bytes ≤ 140737488355328 := by
        have : (((len.z.toNat + l.length) * ie.bytes : Nat) : Int) ≤ 70368744177664 := by rw [Int.natCast_mul, hL, hi3]; exact hbytes
        omega
       have hbb : 0 < ie.bytes := by rw [hi3]; exact hbp
       have hsmall : len.z.toNat + l.length ≤ 140737488355328 := by
        have : (len.z.toNat + l.length) * 1 ≤ (len.z.toNat + l.length) * ie.bytes := Nat.mul_le_mul_left _ (by omega)
        omega
       have ans : ∀ (ρ' : Nat → Pl) (a' : Option Addr) (cap' : Nat), (ρ' key = ρ key) → len.z.toNat + l.length ≤ cap' →
         ((a' = some (at_ (ρ key) 0) ∧ n2 * cap' ≤ (ρ key).cap) ∨ (a' = some (at_ (ρ' stamp) 0) ∧ n2 * cap' ≤ (ρ' stamp).cap) ∨ (len.z + (l.length : Int) = 0 ∧ cap' = 0)) →
         D (dmOf (updsH H ((stamp, .segs false []) :: gone))) ρ' (.kr key n2 stamp ⟨false, len.z + (l.length : Int)⟩) (.slice a' (len.z.toNat + l.length) cap') := by
        intro ρ' a' cap' hρ hc hc'
        have dmu : ∀ b, dmOf (updH H stamp (.segs false [])) b → dmOf (updsH H ((stamp, .segs false []) :: gone)) b := fun b hb => dm_updsH gone _ b hb
        have ht : (len.z + (l.length : Int)).toNat = len.z.toNat + l.length := by omega
        simp only [D]
        refine ⟨dmu _ (dm_updH _ _ _ _ hkey), dmu _ (dm_new _ _ _), by omega, by simp only [InR]; omega, a', cap', by rw [ht], by omega, ?_⟩
        rw [hρ]; exact hc'
       rcases Nat.lt_or_ge cap (len.z.toNat + l.length) with hroom | hroom
       ·-- it grows
        have hmulc : n2 * len.z.toNat ≤ n2 * cap := Nat.mul_le_mul_left _ hlc
        have hold : ∃ cs : List Value, cs.length = n2 * len.z.toNat ∧ (Builtin.firstCells ie.size len.z.toNat (.slice a len.z.toNat cap)).run P w.drew = .ok cs.toArray w.drew := by
         rw [hes]
         rcases hdis with ⟨rfl, hcap⟩ | ⟨j, hj, rfl, hcap⟩ | ⟨d1, d2⟩
         ·obtain ⟨cs, c1, c2⟩ := cells_thereN (P := P) a4 n2 len.z.toNat (by omega) len.z.toNat cap
          exact ⟨cs, c1, by rw [show at_ (ρ key) 0 = ⟨(ρ key).blk, (ρ key).off, none⟩ by simp [at_]]; exact c2 _ fun _ _ h => by simpa using h⟩
         ·rcases hg with ⟨_, e⟩ | ⟨j', e, hj', _⟩
          ·rw [hj] at e; cases e
          ·rw [hj] at e
           simp only [Option.some.injEq] at e
           subst e
           obtain ⟨_, _, _, _, s4⟩ := hm.segs hj'
           obtain ⟨cs, c1, c2⟩ := cells_thereN (P := P) (s4 rfl) n2 len.z.toNat (by omega) len.z.toNat cap
           exact ⟨cs, c1, by rw [show at_ (ρ j) 0 = ⟨(ρ j).blk, (ρ j).off, none⟩ by simp [at_]]; exact c2 _ fun _ _ h => by simpa using h⟩
         ·refine ⟨[], by simp [d1], ?_⟩
          rw [d1]
          cases a <;> simp [Builtin.firstCells, loadCells, loadCellsFrom]
        obtain ⟨cs, hcs, hold⟩ := hold
        have hge := grownCap_ge w (len.z.toNat + l.length) cap ti.elem
        refine ⟨_, _, append_grow (xs := cs) hU hi1 hi4 h2 hq hqe hroom hold (by show (((len.z.toNat + l.length : Nat)) : Int) ≤ _; omega) (growslice_fits (by simp only [conLen]; omega) hbn), ?_⟩
        have hcl2 : conLen (.arrs k' n2 l) = l.length := rfl
        rw [hcl2]
        generalize grownCap w (len.z.toNat + l.length) cap ti.elem = cp at *
        have hsz : (cs.toArray ++ (conCells (.arrs k' n2 l)).toArray ++ Builtin.zeroCells z.cells (cp - (len.z.toNat + l.length))).size = n2 * cp := by
         simp only [Array.size_append, List.size_toArray, Builtin.zeroCells, Array.size_map, Array.size_range, hcl, hcs, hz1]
         rw [← Nat.mul_add, Nat.mul_comm (cp - _) n2, ← Nat.mul_add, Nat.add_sub_cancel' hge]
        have hal := (hm.drew (w.drawn + 1)).alloc hn (l := []) (vs := []) rfl (cells := cs.toArray ++ (conCells (.arrs k' n2 l)).toArray ++ Builtin.zeroCells z.cells (cp - (len.z.toNat + l.length)))
         (T := ti.elem) (fr := (0, 0)) (extra := (cs.toArray ++ (conCells (.arrs k' n2 l)).toArray ++ Builtin.zeroCells z.cells (cp - (len.z.toNat + l.length))).toList) (by simp) (.inl rfl)
        refine ⟨updP ρ stamp ({ blk := w.drew.heap.size, off := 0, cap := (cs.toArray ++ (conCells (.arrs k' n2 l)).toArray ++ Builtin.zeroCells z.cells (cp - (len.z.toNat + l.length))).size } : Pl), updP_keeps hn, ans _ _ _ (updP_ne hne) hge (.inr (.inl ⟨?_, ?_⟩)), ?_⟩
        ·rw [updP_same]; rfl
        ·rw [updP_same, hsz]; exact Nat.le_refl _
        ·rcases hg with ⟨rfl, _⟩ | ⟨j, _, hj, rfl⟩
         ·exact hal
         ·exact hal.gone j (dm_updH _ _ _ j (dm_of hj))
       ·-- there is room
        have hmulc : n2 * len.z.toNat + n2 * l.length ≤ n2 * cap := by rw [← Nat.mul_add]; exact Nat.mul_le_mul_left _ hroom
        have virt : ∀ w' : World, Mem w0 M ρ H w' → Mem w0 M (updP ρ stamp ({ blk := 0, off := 0, cap := 0 } : Pl)) (updsH H ((stamp, .segs false []) :: gone)) w' := fun w' hm' => by
         have hv := hm'.virtual hn (l := []) rfl
         rcases hg with ⟨rfl, _⟩ | ⟨j, _, hj, rfl⟩
         ·exact hv
         ·exact hv.gone j (dm_updH _ _ _ j (dm_of hj))
        rcases hdis with ⟨rfl, hcap⟩ | ⟨j, hj, rfl, hcap⟩ | ⟨d1, d2⟩
        ·have hst := run_storeCells_cells (P := P) (ρ key).blk ((ρ key).off + n2 * len.z.toNat) (conCells (.arrs k' n2 l)) 0 w
          (fun i hi => by have := (a4 (n2 * len.z.toNat + i) (by omega)).1; simpa [Nat.add_assoc] using this)
          (fun i hi => by have := (a4 (n2 * len.z.toNat + i) (by omega)).2; simpa [Nat.add_assoc] using this) conCells_one
         simp only [Nat.add_zero] at hst
         refine ⟨_, w.setCells (ρ key).blk ((ρ key).off + n2 * len.z.toNat) (conCells (.arrs k' n2 l)), append_room hU hi1 h2 hq hqe hroom (fun b hb => ?_) (fun hb => by cases hb), updP ρ stamp ({ blk := 0, off := 0, cap := 0 } : Pl), updP_keeps hn, ans _ _ _ (updP_ne hne) hroom (.inl ⟨rfl, hcap⟩), virt _ ?_⟩
         ·simp only [Option.some.injEq] at hb
          subst hb
          rw [addr_add, hes, Nat.mul_comm]
          simpa [at_] using hst
         ·rcases Nat.eq_zero_or_pos (ρ key).cap with h0 | h0
          ·have : conCells (.arrs k' n2 l) = [] := List.eq_nil_of_length_eq_zero (by rw [hcl]; omega)
           rw [this]; exact hm
          ·exact hm.beyond_own hrow0 h0 hbeyond
        ·rcases hg with ⟨_, e⟩ | ⟨j', e, hj', rfl⟩
         ·rw [hj] at e; cases e
         ·rw [hj] at e
          simp only [Option.some.injEq] at e
          subst e
          obtain ⟨_, _, _, _, s4⟩ := hm.segs hj'
          have hth := s4 rfl
          have hst := run_storeCells_cells (P := P) (ρ j).blk ((ρ j).off + n2 * len.z.toNat) (conCells (.arrs k' n2 l)) 0 w
           (fun i hi => by have := (hth (n2 * len.z.toNat + i) (by omega)).1; simpa [Nat.add_assoc] using this)
           (fun i hi => by have := (hth (n2 * len.z.toNat + i) (by omega)).2; simpa [Nat.add_assoc] using this) conCells_one
          simp only [Nat.add_zero] at hst
          have hnej : stamp ≠ j := fun e => by rw [e, hj'] at hn; cases hn
          have hmm : Mem w0 M ρ H (w.setCells (ρ j).blk ((ρ j).off + n2 * len.z.toNat) (conCells (.arrs k' n2 l))) := by
           rcases Nat.eq_zero_or_pos (ρ j).cap with h0 | h0
           ·have : conCells (.arrs k' n2 l) = [] := List.eq_nil_of_length_eq_zero (by rw [hcl]; omega)
            rw [this]; exact hm
           ·exact hm.beyond_blank hj' h0
          have hre := hmm.rekey (new := stamp) hj' hn
          rw [updH_comm (Ne.symm hnej)] at hre
          refine ⟨_, _, append_room hU hi1 h2 hq hqe hroom (fun b hb => ?_) (fun hb => by cases hb), updP ρ stamp (ρ j), updP_keeps hn, ans _ _ _ (updP_ne hne) hroom (.inr (.inl ⟨?_, ?_⟩)), hre⟩
          ·simp only [Option.some.injEq] at hb
           subst hb
           rw [addr_add, hes, Nat.mul_comm]
           simpa [at_] using hst
          ·rw [updP_same]
          ·rw [updP_same]; exact hcap
        ·have hm0 : l.length = 0 := by omega
         have hc0 : conCells (.arrs k' n2 l) = [] := List.eq_nil_of_length_eq_zero (by rw [hcl, hm0]; simp)
         exact ⟨_, w, append_room hU hi1 h2 hq hqe hroom (fun b hb => by rw [hc0]; rfl) (fun _ => rfl), updP ρ stamp ({ blk := 0, off := 0, cap := 0 } : Pl), updP_keeps hn, ans _ _ _ (updP_ne hne) hroom (.inr (.inr ⟨by omega, d2⟩)), virt _ hm⟩
      ·simp [RP.run] at hw
     ·simp [RP.run] at hw
    ·simp [RP.run] at hw
   ·simp [RP.run] at hw
  ·simp [RP.run] at h
 ·simp [RP.run] at h

end
end Go.Gx

/- append, of pointers: records of the call's own join a pool. -/
namespace Go.Gx
open Go.RowKit
set_option linter.unusedVariables false

section
variable {P : Program} {w0 : World} {M : Nat → Prop} {ρ : Nat → Pl} {H : Nat → Option SB} {w : World}

theorem app1_core {T T2 tyy : TypeId} {ti ti2 te : TInfo} {ty : List (Nat × TInfo)} (hT : RowOk P T ti) (ht : ti.ty = .slice) (hte : assoc ty ti.elem = some te) (hes1 : te.ty.size = 1) (hT2 : RowOk P T2 ti2) (hty : tabB P ty = true) (hsq : ti2.ty = .slice) (hb : 0 < te.bytes)
  (hm : Mem w0 M ρ H w) {stamp : Nat} (hn : H stamp = none) {u vx vs : Value} (hu1 : u.oneCell' = true) (hq : OneAt P w vx u) {g0 g1 : Seg} {n : Nat}
  (hpre : (((n + 1 : Nat) : Int) * (te.bytes : Int)) ≤ 70368744177664) {key : Nat} {len : SI}
  (hD : D (dmOf H) ρ (.sl key 0 1 ⟨true, 0⟩ len) vs) (hkey : H key = some (.segs false [g0])) (hlz : len.z = (n : Int)) (hg : ∀ cs, SegD (dmOf H) ρ g0 cs → cs.length = n ∧ SegD (dmOf H) ρ g1 (cs ++ [u])) :
  ∃ v w', (Builtin.append_ #[T, T2] tyy #[vs, vx]).run P w = .ok v w' ∧
   ∃ ρ', Ext H ρ ρ' ∧ D (dmOf (updsH H [(stamp, .segs false [g1]), (key, .gone)])) ρ' (.sl stamp 0 1 ⟨true, 0⟩ ⟨false, ((n + 1 : Nat) : Int)⟩) v ∧ Mem w0 M ρ' (updsH H [(stamp, .segs false [g1]), (key, .gone)]) w' := by
 have hTe := rowB_ok (tabB_row hty hte)
 obtain ⟨ie, z, hi1, hi2, hi3, hi4, hi5⟩ := hTe.info
 have hU := slice_of hT ht
 have hes : ie.size = 1 := by rw [hi2, hes1]
 have hz1 : z.cells.size = 1 := by rw [zeroB_size hi5, hes1]
 have h2 := noInt_of hT2 (show (match ti2.ty with | .slice => true | .str => true | _ => false) = true by rw [hsq])
 have hb' : ((n + 1 : Nat) : Int) * (ie.bytes : Int) ≤ 70368744177664 := by rw [hi3]; exact hpre
 have hbn : (n + 1) * ie.bytes ≤ 140737488355328 := by
  have : (((n + 1) * ie.bytes : Nat) : Int) ≤ 70368744177664 := by simpa using hb'
  omega
 have hbb : 0 < ie.bytes := by rw [hi3]; exact hb
 have hsmall : n + 1 ≤ 140737488355328 := by
  have : (n + 1) * 1 ≤ (n + 1) * ie.bytes := Nat.mul_le_mul_left _ (by omega)
  omega
 simp only [D] at hD
 obtain ⟨hk, ho, hl, hr0, ad, cap, rfl, hlc, hdis⟩ := hD
 have hlen : len.z.toNat = n := by omega
 rw [hlen] at hlc ⊢
 obtain ⟨vs, h1, h3, h4, h5⟩ := hm.segs hkey
 obtain ⟨c1, c2, e1, rfl, e3⟩ := h1
 have e4 : c2 = [] := e3
 subst e4
 simp only [List.append_nil] at h3 h4
 obtain ⟨hcl, hnew⟩ := hg c1 e1
 rcases Nat.lt_or_ge cap (n + 1) with hroom | hroom
 ·refine ⟨_, _, append_grow1 (xs := c1) hU hi1 hi4 h2 hes hq (by omega) ?_ (by omega) (growslice_fits (by omega) hbn), ?_⟩
  ·rcases hdis with ⟨rfl, hcap⟩ | ⟨d1, d2⟩
   ·refine firstCells_some _ _ _ _ _ _ (by rw [hcl]; omega) (fun j u hu2 => ?_)
    rw [addr_add]
    have := h4 j u hu2
    simpa [at_] using this
   ·have h0 : n = 0 := by omega
    have : c1 = [] := List.eq_nil_of_length_eq_zero (by omega)
    rw [this, h0]
    cases ad <;> simp [Builtin.firstCells, loadCells, loadCellsFrom]
  ·have hge := grownCap_ge w (n + 1) cap ti.elem
   generalize grownCap w (n + 1) cap ti.elem = cp at *
   have hal := (hm.drew (w.drawn + 1)).alloc hn (segs_one (dm := dmOf H) (ρ := ρ) (g := g1) (cs := c1 ++ [u]) hnew) (cells := c1.toArray ++ #[u] ++ Builtin.zeroCells z.cells (cp - (n + 1)))
    (T := ti.elem) (fr := (0, 0)) (extra := (Builtin.zeroCells z.cells (cp - (n + 1))).toList) (by simp) (.inl rfl)
   have hsz : (c1.toArray ++ #[u] ++ Builtin.zeroCells z.cells (cp - (n + 1))).size = cp := by
    simp only [Array.size_append, List.size_toArray, Builtin.zeroCells, Array.size_map, Array.size_range, hz1]
    simp
    omega
   refine ⟨_, updP_keeps hn, ?_, hal.gone key (dm_updH _ _ _ key (by unfold dmOf; rw [hkey]; rfl))⟩
   refine sl_D (dm_updH _ _ _ _ (dm_new _ _ _)) _ (by omega) hge (.inl ⟨?_, ?_⟩)
   ·rw [updP_same]; rfl
   ·rw [updP_same, hsz]; show 1 * cp ≤ cp; omega
 ·rcases hdis with ⟨rfl, hcap⟩ | ⟨d1, d2⟩
  ·have hcap' : cap ≤ (ρ key).cap := by simpa using hcap
   have hth := h5 rfl
   have hone : ∀ v ∈ [u], v.oneCell' = true := fun v hv => by
    simp only [List.mem_singleton] at hv; subst hv; exact hu1
   have hst := run_storeCells_cells (P := P) (ρ key).blk ((ρ key).off + n) [u] 0 w
    (fun j hj => by have := (hth (n + j) (by simp at hj; omega)).1; simpa [Nat.add_assoc] using this)
    (fun j hj => by have := (hth (n + j) (by simp at hj; omega)).2; simpa [Nat.add_assoc] using this) hone
   simp only [Nat.add_zero] at hst
   refine ⟨_, w.setCells (ρ key).blk ((ρ key).off + n) [u], append_room1 hU hi1 h2 hes hq hroom ?_, ?_⟩
   ·rw [addr_add]
    simpa [at_] using hst
   ·have hmm := hm.store (nv := [u]) (o := n) (vs' := c1 ++ [u]) (l' := [g1]) hkey h4 (by omega) (by simp; omega) h3
     (by rw [← hcl, List.take_length, List.drop_eq_nil_of_le (by omega), List.append_nil]) (segs_one hnew)
    have hn' : updH H key (.segs false [g1]) stamp = none := by
     rw [updH_ne]; exact hn
     intro e; rw [e, hkey] at hn; cases hn
    have hne : stamp ≠ key := fun e => by rw [e, hkey] at hn; cases hn
    have hre := hmm.rekey (new := stamp) (updH_same _ _ _) hn'
    rw [updH_over, updH_comm (Ne.symm hne)] at hre
    refine ⟨updP ρ stamp (ρ key), updP_keeps hn, ?_, hre⟩
    refine sl_D (dm_updH _ _ _ _ (dm_new _ _ _)) _ (by omega) hroom (.inl ⟨?_, ?_⟩)
    ·rw [updP_same]; simp
    ·rw [updP_same]; simpa using hcap'
  ·omega

theorem ptrs_join {p q : Pl} {n : Nat} (h : p.pn = n) : ptrsV (joinP p q) (n + 1) = ptrsV p n ++ [.pointer (some ⟨q.blk, q.off, none⟩)] := by
 unfold ptrsV
 rw [List.range_succ, List.map_append, List.map_cons, List.map_nil]
 congr 1
 ·refine List.map_congr_left fun i hi => ?_
  have hi := List.mem_range.1 hi
  simp [joinP, show i ≠ p.pn by omega]
 ·simp [joinP, h]

theorem boxJoinW_sound {T T2 tyy : TypeId} {ti ti2 te : TInfo} {ty : List (Nat × TInfo)} (hT : RowOk P T ti) (ht : ti.ty = .slice) (hte : assoc ty ti.elem = some te) (hsl : te.ty = .ptr) (hT2 : RowOk P T2 ti2) (hty : tabB P ty = true) (hsq : ti2.ty = .slice)
  (hm : Mem w0 M ρ H w) {stamp key kx kf kr : Nat} {len : SI} {vs vx : Value} (hs : D (dmOf H) ρ (.sl key 0 1 ⟨true, 0⟩ len) vs) (hx : D (dmOf H) ρ (.sl kx 0 1 ⟨true, .ofNat 0⟩ ⟨true, .ofNat 1⟩) vx) (hkx : H kx = some (.segs false [.one (.p kf 0)])) {x : SV} (hkf : H kf = some (.segs false [.one x])) {m : List Int} {pre : List Prop}
  (hxx : AllP pre → (x = .nsl ∧ m = [] ∧ kr = kf) ∨ (∃ len, x = .sl kr 0 1 ⟨true, 0⟩ len ∧ len.z = (m.length : Int) ∧ H kr = some (.segs false [.rowI .u8 m])))
  {d : Delta} {rs rs' : List Nat} (h : (boxJoinW stamp te key kf kr m len pre).run H rs = some (d, rs')) (hp : AllP d.pre) :
  ∃ v w', (Builtin.append_ #[T, T2] tyy #[vs, vx]).run P w = .ok v w' ∧ After w0 M ρ H d v w' := by
 obtain ⟨u, hu, hone⟩ := one_at (P := P) hm hx hkx
 unfold boxJoinW at h
 simp only [RP.run] at h
 split at h
 ·rename_i pk n hkey
  simp only [RP.run] at h
  split at h
  ·rename_i v0 ms hpk
   split at h
   ·rename_i hb1
    have hb1 : 0 < te.bytes := by simp [Nat.blt] at hb1; omega
    simp only [RP.run] at h
    split at h
    ·rename_i hn
     have e := run_ret h
     subst e
     obtain ⟨p1, p2, p3, p4⟩ := hp
     have hxx := hxx p4
     subst p2
     have hP := hm.pools.pool pk _ ms hpk
     obtain ⟨hm1, hle⟩ := hm.box_join hpk hkf hxx
     have n1 : pk ≠ kf := fun e => by rw [e, hkf] at hpk; cases hpk
     have n2 : key ≠ pk := fun e => by rw [e, hpk] at hkey; cases hkey
     have n3 : key ≠ kf := fun e => by
      rw [e, hkf] at hkey
      simp at hkey
     have n4 : stamp ≠ pk := fun e => by rw [e, hpk] at hn; cases hn
     have n5 : stamp ≠ kf := fun e => by rw [e, hkf] at hn; cases hn
     have hkrs : (kr = kf) ∨ H kr = some (.segs false [.rowI .u8 m]) := by
      rcases hxx with ⟨_, _, e⟩ | ⟨_, _, _, e⟩
      ·exact .inl e
      ·exact .inr e
     have n6 : key ≠ kr := fun e => by
      rcases hkrs with e2 | e2
      ·exact n3 (e.trans e2)
      ·rw [e, e2] at hkey; simp at hkey
     have n7 : stamp ≠ kr := fun e => by
      rcases hkrs with e2 | e2
      ·exact n5 (e.trans e2)
      ·rw [e, e2] at hn; cases hn
     generalize hH1 : updH (updH (updH H kr .gone) pk (.pool (.b .u8 none) (ms ++ [m]))) kf (.alias pk ms.length) = H1 at hm1
     have hdm : ∀ a, dmOf H a → dmOf H1 a := fun a ha => by rw [← hH1]; exact dm_updH _ _ _ a (dm_updH _ _ _ a (dm_updH _ _ _ a ha))
     have hkey1 : H1 key = some (.segs false [.rowP pk ms.length]) := by rw [← hH1, updH_ne n3, updH_ne n2, updH_ne n6]; exact hkey
     have hn1 : H1 stamp = none := by rw [← hH1, updH_ne n5, updH_ne n4, updH_ne n7]; exact hn
     have hs1 : D (dmOf H1) (updP ρ pk (joinP (ρ pk) (ρ kf))) (.sl key 0 1 ⟨true, 0⟩ len) vs := D.mono hdm (fun a _ => hle a) _ _ hs
     have hpkd : dmOf H1 pk := hdm pk (by unfold dmOf; rw [hpk]; rfl)
     simp only [D] at hu
     obtain ⟨_, rfl⟩ := hu
     obtain ⟨v, w', q1, ρ', q2, q3, q4⟩ := app1_core (tyy := tyy) (g1 := .rowP pk (ms.length + 1)) hT ht hte (by rw [hsl]; rfl) hT2 hty hsq hb1 hm1 hn1 rfl hone p3 hs1 hkey1 p1 fun cs hcs => by
      obtain ⟨a1, a2, a3⟩ := hcs
      rw [updP_same] at a2 a3
      have e0 : ptrsV (joinP (ρ pk) (ρ kf)) ms.length = ptrsV (ρ pk) ms.length := ptrsV_le (joinP_le _ _) (by rw [hP.cnt]; exact Nat.le_refl _)
      refine ⟨by rw [a3, ptrsV_len], hpkd, ?_, ?_⟩
      ·rw [updP_same]; show ms.length + 1 ≤ (ρ pk).pn + 1; rw [hP.cnt]; exact Nat.le_refl _
      ·rw [updP_same, a3, ptrs_join hP.cnt, e0]; rfl
     have hH : updsH H ((match Nat.beq kr kf with | true => [] | false => [(kr, .gone)]) ++ [(pk, .pool (.b .u8 none) (ms ++ [m])), (kf, .alias pk ms.length), (stamp, .segs false [.rowP pk (ms.length + 1)]), (key, .gone)]) = updsH H1 [(stamp, .segs false [.rowP pk (ms.length + 1)]), (key, .gone)] := by
      rw [← hH1]
      cases hbq : Nat.beq kr kf with
      | true =>
       have e := Nat.eq_of_beq_eq_true hbq
       subst e
       have : updH (updH (updH H kr .gone) pk (.pool (.b .u8 none) (ms ++ [m]))) kr (.alias pk ms.length) = updH (updH H pk (.pool (.b .u8 none) (ms ++ [m]))) kr (.alias pk ms.length) := by
        funext a
        by_cases e : a = kr
        ·subst e; rw [updH_same, updH_same]
        ·rw [updH_ne e, updH_ne e]
         by_cases e2 : a = pk
         ·subst e2; rw [updH_same, updH_same]
         ·rw [updH_ne e2, updH_ne e2, updH_ne e]
       rw [this]; rfl
      | false => rfl
     refine ⟨v, w', q1, ρ', fun k hk => (hle k).trans (q2 k (hdm k hk)), ?_, ?_⟩
     ·refine Eq.mp ?_ q3
      rw [← hH]; rfl
     ·refine Eq.mp ?_ q4
      rw [← hH]; rfl
    ·simp [RP.run] at h
   ·simp [RP.run] at h
  ·simp [RP.run] at h
 ·simp [RP.run] at h

theorem boxJoin_sound {T T2 tyy : TypeId} {ti ti2 te : TInfo} {ty : List (Nat × TInfo)} (hT : RowOk P T ti) (ht : ti.ty = .slice) (hte : assoc ty ti.elem = some te) (hsl : te.ty = .ptr) (hT2 : RowOk P T2 ti2) (hty : tabB P ty = true) (hsq : ti2.ty = .slice)
  (hm : Mem w0 M ρ H w) {stamp key kx kf : Nat} {len : SI} {vs vx : Value} (hs : D (dmOf H) ρ (.sl key 0 1 ⟨true, 0⟩ len) vs) (hx : D (dmOf H) ρ (.sl kx 0 1 ⟨true, .ofNat 0⟩ ⟨true, .ofNat 1⟩) vx) (hkx : H kx = some (.segs false [.one (.p kf 0)])) {l : List Seg} (hkf : H kf = some (.segs false l))
  {d : Delta} {rs rs' : List Nat} (h : (boxJoin stamp te key kf l len).run H rs = some (d, rs')) (hp : AllP d.pre) :
  ∃ v w', (Builtin.append_ #[T, T2] tyy #[vs, vx]).run P w = .ok v w' ∧ After w0 M ρ H d v w' := by
 unfold boxJoin at h
 split at h
 ·exact boxJoinW_sound hT ht hte hsl hT2 hty hsq hm hs hx hkx hkf (fun _ => .inl ⟨rfl, rfl, rfl⟩) h hp
 ·rename_i kr n
  simp only [RP.run] at h
  split at h
  ·rename_i m hkr
   exact boxJoinW_sound (pre := [n.z = (m.length : Int)]) hT ht hte hsl hT2 hty hsq hm hs hx hkx hkf (fun hp => .inr ⟨n, rfl, hp.1, hkr⟩) h hp
  ·simp [RP.run] at h
 ·simp [RP.run] at h

theorem appendP_sound {T T2 tyy : TypeId} {ti ti2 te : TInfo} {ty : List (Nat × TInfo)} (hT : RowOk P T ti) (ht : ti.ty = .slice) (hte : assoc ty ti.elem = some te) (hsl : te.ty = .ptr) (hT2 : RowOk P T2 ti2) (hty : tabB P ty = true) (hsq : ti2.ty = .slice)
  (hm : Mem w0 M ρ H w) {stamp : Nat} {s x : SV} {vs vx : Value} (hs : D (dmOf H) ρ s vs) (hx : D (dmOf H) ρ x vx) {d : Delta} {rs rs' : List Nat} (h : (appendPOp stamp te s x).run H rs = some (d, rs')) (hp : AllP d.pre) :
  ∃ v w', (Builtin.append_ #[T, T2] tyy #[vs, vx]).run P w = .ok v w' ∧ After w0 M ρ H d v w' := by
 unfold appendPOp at h
 split at h
 ·rename_i key len kx
  simp only [RP.run] at h
  split at h
  ·rename_i kf hkx
   obtain ⟨u, hu, hone⟩ := one_at (P := P) hm hx hkx
   simp only [RP.run] at h
   split at h
   ·rename_i l hkf
    split at h
    ·rename_i ts m hfl
     simp only [RP.run] at h
     split at h
     ·rename_i pk n hkey
      simp only [RP.run] at h
      split at h
      ·rename_i ts' ms hpk
       split at h
       ·rename_i hb
        simp only [Bool.and_eq_true] at hb
        have hts := tysEq_eq hb.1
        subst hts
        have hb1 : 0 < te.bytes := by have := hb.2; simp [Nat.blt] at this; omega
        simp only [RP.run] at h
        split at h
        ·rename_i hn
         have e := run_ret h
         subst e
         obtain ⟨p1, p2, p3, _⟩ := hp
         subst p2
         have hP := hm.pools.pool pk _ ms hpk
         obtain ⟨hm1, hle⟩ := hm.pool_joinG rfl hpk hkf fun dm ρ' cs hd => flatSegs_D l cs ts' m hfl hd
         have n1 : pk ≠ kf := fun e => by rw [e, hkf] at hpk; cases hpk
         have n2 : key ≠ pk := fun e => by rw [e, hpk] at hkey; cases hkey
         have n3 : key ≠ kf := fun e => by
          rw [e, hkf] at hkey
          simp only [Option.some.injEq, SB.segs.injEq, true_and] at hkey
          subst hkey
          simp [flatSegs] at hfl
         have n4 : stamp ≠ pk := fun e => by rw [e, hpk] at hn; cases hn
         have n5 : stamp ≠ kf := fun e => by rw [e, hkf] at hn; cases hn
         generalize hH1 : updH (updH H pk (.pool (.r ts') (ms ++ [m]))) kf (.alias pk ms.length) = H1 at hm1
         have hdm : ∀ a, dmOf H a → dmOf H1 a := fun a ha => by rw [← hH1]; exact dm_updH _ _ _ a (dm_updH _ _ _ a ha)
         have hkey1 : H1 key = some (.segs false [.rowP pk ms.length]) := by rw [← hH1, updH_ne n3, updH_ne n2]; exact hkey
         have hn1 : H1 stamp = none := by rw [← hH1, updH_ne n5, updH_ne n4]; exact hn
         have hs1 : D (dmOf H1) (updP ρ pk (joinP (ρ pk) (ρ kf))) (.sl key 0 1 ⟨true, 0⟩ len) vs := D.mono hdm (fun a _ => hle a) _ _ hs
         have hpkd : dmOf H1 pk := hdm pk (by unfold dmOf; rw [hpk]; rfl)
         simp only [D] at hu
         obtain ⟨_, rfl⟩ := hu
         obtain ⟨v, w', q1, ρ', q2, q3, q4⟩ := app1_core (tyy := tyy) (g1 := .rowP pk (ms.length + 1)) hT ht hte (by rw [hsl]; rfl) hT2 hty hsq hb1 hm1 hn1 rfl hone p3 hs1 hkey1 p1 fun cs hcs => by
          obtain ⟨a1, a2, a3⟩ := hcs
          rw [updP_same] at a2 a3
          have e0 : ptrsV (joinP (ρ pk) (ρ kf)) ms.length = ptrsV (ρ pk) ms.length := ptrsV_le (joinP_le _ _) (by rw [hP.cnt]; exact Nat.le_refl _)
          refine ⟨by rw [a3, ptrsV_len], hpkd, ?_, ?_⟩
          ·rw [updP_same]; show ms.length + 1 ≤ (ρ pk).pn + 1; rw [hP.cnt]; exact Nat.le_refl _
          ·rw [updP_same, a3, ptrs_join hP.cnt, e0]; rfl
         have hH : updsH H [(pk, .pool (.r ts') (ms ++ [m])), (kf, .alias pk ms.length), (stamp, .segs false [.rowP pk (ms.length + 1)]), (key, .gone)] = updsH H1 [(stamp, .segs false [.rowP pk (ms.length + 1)]), (key, .gone)] := by rw [← hH1]; rfl
         refine ⟨v, w', q1, ρ', fun k hk => (hle k).trans (q2 k (hdm k hk)), ?_, ?_⟩
         ·show D (dmOf (updsH H _)) _ _ _
          rw [hH]; exact q3
         ·show Mem w0 M ρ' (updsH H _) w'
          rw [hH]; exact q4
        ·simp [RP.run] at h
       ·simp [RP.run] at h
      ·simp [RP.run] at h
     ·simp [RP.run] at h
    ·obtain ⟨v, w', q1, q2⟩ := boxJoin_sound (tyy := tyy) hT ht hte hsl hT2 hty hsq hm hs hx hkx hkf h hp
     exact ⟨v, w', q1, q2⟩
   ·simp [RP.run] at h
  ·simp [RP.run] at h
 ·simp [RP.run] at h

theorem assign_sound (hm : Mem w0 M ρ H w) {stamp : Nat} {x : SV} {v : Value} (hx : D (dmOf H) ρ x v) {d : Delta} {rs rs' : List Nat} (h : (assignOp stamp x).run H rs = some (d, rs')) : After w0 M ρ H d v w := by
 have same : ∀ {rs0 : List Nat}, (ret x).run H rs0 = some (d, rs') → After w0 M ρ H d v w := fun h => by
  have e := run_ret h
  subst e
  exact ⟨ρ, fun _ _ => .refl _, hx, hm⟩
 unfold assignOp at h
 split at h
 ·rename_i key
  unfold beginP at h
  simp only [RP.run] at h
  split at h
  ·rename_i kf hkey
   simp only [RP.run] at h
   split at h
   ·rename_i l hkf
    split at h
    ·rename_i ts m hfl
     simp only [RP.run] at h
     split at h
     ·rename_i hn
      have e := run_ret h
      subst e
      have n1 : kf ≠ stamp + 500000 := fun e => by rw [e, hn] at hkf; cases hkf
      have n2 : key ≠ stamp + 500000 := fun e => by rw [e, hn] at hkey; cases hkey
      have n3 : key ≠ kf := fun e => by
       rw [e, hkf] at hkey
       simp only [Option.some.injEq, SB.segs.injEq, true_and] at hkey
       subst hkey
       simp [flatSegs] at hfl
      have hm2 := hm.pool_new hn (.r ts) rfl
      have e1 : updH H (stamp + 500000) (.pool (.r ts) []) (stamp + 500000) = some (.pool (.r ts) []) := updH_same _ _ _
      have e2 : updH H (stamp + 500000) (.pool (.r ts) []) kf = some (.segs false l) := by rw [updH_ne n1]; exact hkf
      obtain ⟨hm3, hle⟩ := hm2.pool_joinG rfl e1 e2 fun dm ρ' cs hd => flatSegs_D l cs ts m hfl hd
      rw [updH_over] at hm3
      simp only [List.nil_append, List.length_nil] at hm3
      have hkeep := updP_keeps (ρ := ρ) (p := ({ blk := 0, off := 0, cap := 0 } : Pl)) hn
      generalize hρ2 : updP ρ (stamp + 500000) ({ blk := 0, off := 0, cap := 0 } : Pl) = ρ2 at *
      have hkf2 : ρ2 kf = ρ kf := by rw [← hρ2, updP_ne n1]
      have hst2 : (ρ2 (stamp + 500000)).pn = 0 := by rw [← hρ2, updP_same]
      generalize hρ3 : updP ρ2 (stamp + 500000) (joinP (ρ2 (stamp + 500000)) (ρ2 kf)) = ρ3 at *
      generalize hH3 : updH (updH H (stamp + 500000) (.pool (.r ts) [m])) kf (.alias (stamp + 500000) 0) = H3 at *
      have hext : ∀ k, dmOf H k → PlLe (ρ k) (ρ3 k) := fun k hk => (hkeep k hk).trans (hle k)
      have hdm : ∀ a, dmOf H a → dmOf H3 a := fun a ha => by rw [← hH3]; exact dm_updH _ _ _ a (dm_updH _ _ _ a ha)
      have hkey3 : H3 key = some (.segs false [.one (.p kf 0)]) := by rw [← hH3, updH_ne n3, updH_ne n2]; exact hkey
      have hpd : dmOf H3 (stamp + 500000) := by rw [← hH3]; exact dm_updH _ _ _ _ (dm_new _ _ _)
      have hrow : ∀ cs, SegsD (dmOf H3) ρ3 [.one (.p kf 0)] cs → SegsD (dmOf H3) ρ3 [.rowP (stamp + 500000) 1] cs := fun cs hcs => by
       obtain ⟨c1, c2, ⟨_, u, hu, rfl⟩, rfl, h3⟩ := hcs
       simp only [D] at hu
       obtain ⟨_, rfl⟩ := hu
       refine ⟨_, c2, ⟨hpd, ?_, ?_⟩, rfl, h3⟩
       ·rw [← hρ3, updP_same]; show 1 ≤ (ρ2 (stamp + 500000)).pn + 1; omega
       ·have hz := hm3.heap.blk kf _ (show H3 kf = some (.alias (stamp + 500000) 0) by rw [← hH3, updH_same])
        obtain ⟨_, _, b3, b4, _⟩ := hz
        show _ = [Value.pointer (some ⟨(ρ3 (stamp + 500000)).pb 0, (ρ3 (stamp + 500000)).po 0, none⟩)]
        rw [← b3, ← b4]; rfl
      have hm4 := hm3.respell hkey3 hrow
      refine ⟨ρ3, hext, ?_, ?_⟩
      ·show D (dmOf (updsH H _)) ρ3 (.sl key 0 1 ⟨true, 0⟩ ⟨false, 1⟩) v
       have e : updsH H [(stamp + 500000, .pool (.r ts) [m]), (kf, .alias (stamp + 500000) 0), (key, .segs false [.rowP (stamp + 500000) 1])] = updH H3 key (.segs false [.rowP (stamp + 500000) 1]) := by rw [← hH3]; rfl
       rw [e]
       exact D.mono (fun k hk => dm_updH _ _ _ k (hdm k hk)) hext _ _ hx
      ·exact (show updsH H [(stamp + 500000, .pool (.r ts) [m]), (kf, .alias (stamp + 500000) 0), (key, .segs false [.rowP (stamp + 500000) 1])] = updH H3 key (.segs false [.rowP (stamp + 500000) 1]) by rw [← hH3]; rfl) ▸ hm4
     ·simp [RP.run] at h
    ·split at h
     ·simp only [RP.run] at h
      split at h
      ·rename_i hn
       have e := run_ret h
       subst e
       have n1 : kf ≠ stamp + 500000 := fun e => by rw [e, hn] at hkf; cases hkf
       have n2 : key ≠ stamp + 500000 := fun e => by rw [e, hn] at hkey; cases hkey
       have n3 : key ≠ kf := fun e => by
        rw [e, hkf] at hkey
        simp at hkey
       have hm2 := hm.pool_new hn (.b .u8 none) rfl
       have e1 : updH H (stamp + 500000) (.pool (.b .u8 none) []) (stamp + 500000) = some (.pool (.b .u8 none) []) := updH_same _ _ _
       have e2 : updH H (stamp + 500000) (.pool (.b .u8 none) []) kf = some (.segs false [.one .nsl]) := by rw [updH_ne n1]; exact hkf
       obtain ⟨hm3, hle⟩ := hm2.box_join (kr := kf) (m := []) e1 e2 (.inl ⟨rfl, rfl, rfl⟩)
       have hover : updH (updH (updH (updH H (stamp + 500000) (.pool (.b .u8 none) [])) kf .gone) (stamp + 500000) (.pool (.b .u8 none) ([] ++ [[]]))) kf (.alias (stamp + 500000) ([] : List (List Int)).length) = updH (updH H (stamp + 500000) (.pool (.b .u8 none) [[]])) kf (.alias (stamp + 500000) 0) := by
        funext a
        by_cases e : a = kf
        ·subst e; rw [updH_same, updH_same]; rfl
        ·rw [updH_ne e, updH_ne e]
         by_cases e2 : a = stamp + 500000
         ·subst e2; rw [updH_same, updH_same]; rfl
         ·rw [updH_ne e2, updH_ne e2, updH_ne e, updH_ne e2]
       rw [hover] at hm3
       have hkeep := updP_keeps (ρ := ρ) (p := ({ blk := 0, off := 0, cap := 0 } : Pl)) hn
       generalize hρ2 : updP ρ (stamp + 500000) ({ blk := 0, off := 0, cap := 0 } : Pl) = ρ2 at *
       have hkf2 : ρ2 kf = ρ kf := by rw [← hρ2, updP_ne n1]
       have hst2 : (ρ2 (stamp + 500000)).pn = 0 := by rw [← hρ2, updP_same]
       generalize hρ3 : updP ρ2 (stamp + 500000) (joinP (ρ2 (stamp + 500000)) (ρ2 kf)) = ρ3 at *
       generalize hH3 : updH (updH H (stamp + 500000) (.pool (.b .u8 none) [[]])) kf (.alias (stamp + 500000) 0) = H3 at *
       have hext : ∀ k, dmOf H k → PlLe (ρ k) (ρ3 k) := fun k hk => (hkeep k hk).trans (hle k)
       have hdm : ∀ a, dmOf H a → dmOf H3 a := fun a ha => by rw [← hH3]; exact dm_updH _ _ _ a (dm_updH _ _ _ a ha)
       have hkey3 : H3 key = some (.segs false [.one (.p kf 0)]) := by rw [← hH3, updH_ne n3, updH_ne n2]; exact hkey
       have hpd : dmOf H3 (stamp + 500000) := by rw [← hH3]; exact dm_updH _ _ _ _ (dm_new _ _ _)
       have hrow : ∀ cs, SegsD (dmOf H3) ρ3 [.one (.p kf 0)] cs → SegsD (dmOf H3) ρ3 [.rowP (stamp + 500000) 1] cs := fun cs hcs => by
        obtain ⟨c1, c2, ⟨_, u, hu, rfl⟩, rfl, h3⟩ := hcs
        simp only [D] at hu
        obtain ⟨_, rfl⟩ := hu
        refine ⟨_, c2, ⟨hpd, ?_, ?_⟩, rfl, h3⟩
        ·rw [← hρ3, updP_same]; show 1 ≤ (ρ2 (stamp + 500000)).pn + 1; omega
        ·have hz := hm3.heap.blk kf _ (show H3 kf = some (.alias (stamp + 500000) 0) by rw [← hH3, updH_same])
         obtain ⟨_, _, b3, b4, _⟩ := hz
         show _ = [Value.pointer (some ⟨(ρ3 (stamp + 500000)).pb 0, (ρ3 (stamp + 500000)).po 0, none⟩)]
         rw [← b3, ← b4]; rfl
       have hm4 := hm3.respell hkey3 hrow
       refine ⟨ρ3, hext, ?_, ?_⟩
       ·show D (dmOf (updsH H _)) ρ3 (.sl key 0 1 ⟨true, 0⟩ ⟨false, 1⟩) v
        have e : updsH H [(stamp + 500000, .pool (.b .u8 none) [[]]), (kf, .alias (stamp + 500000) 0), (key, .segs false [.rowP (stamp + 500000) 1])] = updH H3 key (.segs false [.rowP (stamp + 500000) 1]) := by rw [← hH3]; rfl
        rw [e]
        exact D.mono (fun k hk => dm_updH _ _ _ k (hdm k hk)) hext _ _ hx
       ·exact (show updsH H [(stamp + 500000, .pool (.b .u8 none) [[]]), (kf, .alias (stamp + 500000) 0), (key, .segs false [.rowP (stamp + 500000) 1])] = updH H3 key (.segs false [.rowP (stamp + 500000) 1]) by rw [← hH3]; rfl) ▸ hm4
      ·simp [RP.run] at h
     ·exact same h
   ·exact same h
  ·exact same h
 ·exact same h

end
end Go.Gx

/- copy, clear; bytes and texts. -/
namespace Go.Gx
open Go.RowKit
set_option linter.unusedVariables false

section
variable {P : Program} {w0 : World} {M : Nat → Prop} {ρ : Nat → Pl} {H : Nat → Option SB} {w : World}

theorem laySeg_sound {dm : Nat → Prop} {g g' : Seg} {k : IntKind} {off n : Int} {z : List Int} {p : Prop} {cs : List Value} (h : laySeg g k off n z = some (p, g')) (hg : SegD dm ρ g cs) (hp : p) (ho : 0 ≤ off) (hz : (z.length : Int) ≤ n) (hk : AllR k z) :
  SegD dm ρ g' (over cs off.toNat (z.map (Value.int k))) ∧ off.toNat + z.length ≤ cs.length := by
 have hall : ∀ {y : List Int}, AllR k y → AllR k (over y off.toNat z) := fun hy u hu => by
  unfold over at hu
  rcases List.mem_append.1 hu with hu | hu
  ·rcases List.mem_append.1 hu with hu | hu
   ·exact hy u (List.mem_of_mem_take hu)
   ·exact hk u hu
  ·exact hy u (List.mem_of_mem_drop hu)
 cases g <;> simp only [laySeg, reduceCtorEq] at h
 ·rename_i k' m ex y
  split at h
  ·rename_i e
   have e := keq_eq e
   subst e
   simp only [Option.some.injEq, Prod.mk.injEq] at h
   obtain ⟨rfl, rfl⟩ := h
   obtain ⟨h1, h2, h3⟩ := hg
   have hle : off.toNat + z.length ≤ y.length := by omega
   exact ⟨⟨by show (over y off.toNat z).length = m; rw [over_length hle, h1], hall h2, by rw [h3]; exact (map_over _ _ _ _).symm⟩, by rw [h3]; simpa using hle⟩
  ·cases h
 ·rename_i k' y
  split at h
  ·rename_i e
   have e := keq_eq e
   subst e
   simp only [Option.some.injEq, Prod.mk.injEq] at h
   obtain ⟨rfl, rfl⟩ := h
   obtain ⟨h2, h3⟩ := hg
   have hle : off.toNat + z.length ≤ y.length := by omega
   exact ⟨⟨hall h2, by rw [h3]; exact (map_over _ _ _ _).symm⟩, by rw [h3]; simpa using hle⟩
  ·cases h

theorem lay_sound (hm : Mem w0 M ρ H w) {key c : Nat} {off len : SI} {l l' : List Seg} (hkey : H key = some (.segs false l)) {g g' : Seg} (hs : segAt l c = some (g, 0)) {k : IntKind} {z : List Int} {p : Prop}
  (hlay : laySeg g k off.z len.z z = some (p, g')) (hp : p) (ho : 0 ≤ off.z) (hz : (z.length : Int) ≤ len.z) (hk : AllR k z) (hset : segSet l c g' = some l') :
  (∀ ad cap, ((ad = some (at_ (ρ key) (c + 1 * off.z.toNat)) ∧ c + 1 * off.z.toNat + 1 * cap ≤ (ρ key).cap) ∨ (len.z = 0 ∧ cap = 0)) →
   ∃ w', (∀ a, ad = some a → (storeCells a (z.map (Value.int k))).run P w = .ok () w') ∧ (ad = none → w' = w) ∧ Mem w0 M ρ (updH H key (.segs false l')) w' ∧
    (z = [] → w' = w)) := by
 intro ad cap hdis
 obtain ⟨vs, h1, h2, h3, h4⟩ := hm.segs hkey
 obtain ⟨pre, cs, post, e1, e2, e3, _, e5⟩ := segAt_D l c vs g 0 h1 hs
 obtain ⟨a1, a2⟩ := laySeg_sound hlay e2 hp ho hz hk
 have a3 := e5 g' _ l' hset a1
 rw [← over_mid _ _ _ _ _ (by simpa using a2), ← e1, show pre.length + off.z.toNat = c + off.z.toNat by omega] at a3
 have hle : c + off.z.toNat + z.length ≤ vs.length := by rw [e1]; simp; omega
 have hth := h4 rfl
 rcases hdis with ⟨rfl, hcap⟩ | ⟨d1, d2⟩
 ·refine ⟨w.setCells (ρ key).blk ((ρ key).off + (c + off.z.toNat)) (z.map (Value.int k)), fun a ha => ?_, (fun ha => by cases ha), hm.store hkey h3 (by omega) (by simp; omega) h2 rfl a3, (fun hz => by rw [hz]; rfl)⟩
  simp only [Option.some.injEq] at ha
  subst ha
  have hst := run_storeCells_cells (P := P) (ρ key).blk ((ρ key).off + (c + off.z.toNat)) (z.map (Value.int k)) 0 w
   (fun j hj => by simp only [List.length_map] at hj; have := (hth (c + off.z.toNat + j) (by omega)).1; simpa [Nat.add_assoc] using this)
   (fun j hj => by simp only [List.length_map] at hj; have := (hth (c + off.z.toNat + j) (by omega)).2; simpa [Nat.add_assoc] using this)
   (fun v hv => by simp only [List.mem_map] at hv; obtain ⟨q, _, rfl⟩ := hv; rfl)
  simpa [at_] using hst
 ·have hz0 : z = [] := List.eq_nil_of_length_eq_zero (by omega)
  subst hz0
  refine ⟨w, fun a _ => rfl, fun _ => rfl, ?_, fun _ => rfl⟩
  rw [List.map_nil, over_nil] at a3
  have := hm.store (nv := []) (o := 0) hkey h3 (by omega) (by simp) h2 rfl (by simpa using a3)
  simpa only [World.setCells] using this

theorem intElem_of {T : TypeId} {ti : TInfo} {ty : List (Nat × TInfo)} (hT : RowOk P T ti) (hty : tabB P ty = true) (h : intElem ty ti = true) : P.underlying T = some (.slice ti.elem) ∧ ∃ ie, P.info? ti.elem = some ie ∧ ie.size = 1 := by
 unfold intElem at h
 split at h
 ·rename_i te ht hte
  obtain ⟨ie, z, hi1, hi2, hi3, hi4, hi5⟩ := (rowB_ok (tabB_row hty hte)).info
  refine ⟨slice_of hT ht, ie, hi1, ?_⟩
  split at h
  ·rename_i k hk; rw [hi2, hk]; rfl
  ·cases h
 ·cases h

theorem copy_run {T T2 tyy e : TypeId} {ie : TypeInfo} (hu : P.underlying T = some (.slice e)) (hi : P.info? e = some ie) (h1 : ie.size = 1) {ad : Option Addr} {n cap : Nat} {v : Value} {q : Con} (hq : ConAt P w v q) (hs : conSize q = 1) {w' : World}
  (hst : ∀ a, ad = some a → (storeCells a ((conCells q).take (Nat.min (conLen q) n))).run P w = .ok () w') (hst' : ad = none → w' = w) :
  (Builtin.copy_ #[T, T2] tyy #[.slice ad n cap, v]).run P w = .ok (.int .i64 (Nat.min (conLen q) n)) w' := by
 have hl := hq.len w
 have hc := hq.cells w (fun _ _ h => h) (Nat.min (conLen q) n) (Nat.min_le_left _ _)
 rw [hs] at hc
 simp only [Nat.mul_one] at hc
 cases ad with
 | none =>
  have := hst' rfl
  subst this
  simp [Builtin.copy_, run_underlying hu, hl, sizeOf, typeInfo, hi, h1, hc, goInt]
 | some a =>
  have := hst a rfl
  simp [Builtin.copy_, run_underlying hu, hl, sizeOf, typeInfo, hi, h1, hc, goInt, this]

theorem copy_sound {T T2 tyy : TypeId} {ti : TInfo} {ty : List (Nat × TInfo)} (hT : RowOk P T ti) (hty : tabB P ty = true) (hm : Mem w0 M ρ H w) {x y : SV} {vx vy : Value} (hx : D (dmOf H) ρ x vx) (hy : D (dmOf H) ρ y vy)
  {d : Delta} {rs rs' : List Nat} (h : (copyOp ty ti x y).run H rs = some (d, rs')) (hp : AllP d.pre) :
  ∃ v w', (Builtin.copy_ #[T, T2] tyy #[vx, vy]).run P w = .ok v w' ∧ After w0 M ρ H d v w' := by
 unfold copyOp at h
 split at h
 ·rename_i key c est off len hie
  obtain ⟨hu, ie, hi1, hi2⟩ := intElem_of hT hty hie
  obtain ⟨p, q, rs1, hw, hq⟩ := withCon_sound (P := P) hm hy h
  simp only [RP.run] at hw
  split at hw
  ·rename_i l hkey
   split at hw
   ·rename_i g k z hs hest
    have hest := Nat.eq_of_beq_eq_true hest
    subst hest
    split at hw
    ·rename_i p' g' hlay
     split at hw
     ·rename_i l' hset
      have e := run_ret hw
      subst e
      have hq := hq hp.2
      simp only [D] at hx
      obtain ⟨hk, ho, hl, hr, ad, cap, rfl, hlc, hdis⟩ := hx
      have htl : ((z.take len.z.toNat).length : Int) ≤ len.z := by simp; omega
      have htk : AllR k (z.take len.z.toNat) := fun u hu => hq.ok u (List.mem_of_mem_take hu)
      obtain ⟨w', f1, f2, f3, _⟩ := lay_sound (P := P) hm hkey hs hlay hp.1 ho htl htk hset ad cap hdis
      have hmin : (conCells (.ints k z)).take (Nat.min (conLen (.ints k z)) len.z.toNat) = (z.take len.z.toNat).map (Value.int k) := by
       simp only [conCells, conLen, ← List.map_take]
       congr 1
       have : Nat.min z.length len.z.toNat = min len.z.toNat z.length := Nat.min_comm _ _
       rw [this, ← List.take_take, List.take_length]
      refine ⟨_, w', copy_run hu hi1 hi2 hq rfl (fun a ha => by rw [hmin]; exact f1 a ha) f2, ρ, .refl _ _, ?_, f3⟩
      simp only [InR] at hr
      refine ⟨?_, by simp only [InR]; omega⟩
      simp only [conLen]
      congr 1
      have : Nat.min z.length len.z.toNat = min z.length len.z.toNat := rfl
      rw [this]; omega
     ·simp [RP.run] at hw
    ·simp [RP.run] at hw
   ·simp [RP.run] at hw
  ·simp [RP.run] at hw
 ·simp [RP.run] at h

theorem clear_sound {T tyy : TypeId} {ti : TInfo} {ty : List (Nat × TInfo)} (hT : RowOk P T ti) (hty : tabB P ty = true) (hm : Mem w0 M ρ H w) {x : SV} {vx : Value} (hx : D (dmOf H) ρ x vx)
  {d : Delta} {rs rs' : List Nat} (h : (clearOp ty ti x).run H rs = some (d, rs')) (hp : AllP d.pre) :
  ∃ v w', (Builtin.clear_ #[T] tyy #[vx]).run P w = .ok v w' ∧ After w0 M ρ H d v w' := by
 unfold clearOp at h
 split at h
 ·rename_i key c est off len te ht hte
  obtain ⟨ie, z, hi1, hi2, hi3, hi4, hi5⟩ := (rowB_ok (tabB_row hty hte)).info
  have hu := slice_of hT ht
  simp only [RP.run] at h
  split at h
  ·rename_i l hkey
   split at h
   ·rename_i g k hs hk hest
    have hest := Nat.eq_of_beq_eq_true hest
    subst hest
    split at h
    ·rename_i p' g' hlay
     split at h
     ·rename_i l' hset
      have e := run_ret h
      subst e
      simp only [D] at hx
      obtain ⟨hkk, ho, hl, hr, ad, cap, rfl, hlc, hdis⟩ := hx
      obtain ⟨w', f1, f2, f3, f4⟩ := lay_sound (P := P) hm hkey hs hlay hp.1 ho (by simp; omega) (allR_rep k _) hset ad cap hdis
      refine ⟨.tuple #[], w', ?_, ρ, .refl _ _, trivial, f3⟩
      rw [hk] at hi5
      obtain ⟨u, hu1, hu2⟩ := madeCells_zero (dm := fun _ => False) hi5 rfl 0
      have hu3 : u = .int k 0 := by
       have := zeroB_D (dm := fun _ => False) (ρ := ρ) hi5
       simp only [zero, D] at this
       rw [this.1] at hu1
       simp [Value.cells] at hu1
       exact hu1.symm
      rcases Nat.eq_zero_or_pos len.z.toNat with h0 | h0
      ·have := f4 (by rw [h0]; rfl)
       subst this
       rw [h0]
       cases ad <;> simp [Builtin.clear_, run_underlying hu]
      ·cases ad with
       | none =>
        rcases hdis with ⟨d1, _⟩ | ⟨d1, _⟩
        ·cases d1
        ·omega
       | some a =>
        have := f1 a rfl
        have hzc : (Builtin.zeroCells z.cells len.z.toNat).toList = (List.replicate len.z.toNat (0 : Int)).map (Value.int k) := by
         rw [hu1, hu3]
         simp [Builtin.zeroCells]
         apply List.ext_getElem
         ·simp
         ·intro i h1 h2
          simp [Nat.mod_one]
        obtain ⟨m, hm'⟩ : ∃ m, len.z.toNat = m + 1 := ⟨len.z.toNat - 1, by omega⟩
        rw [hm'] at this hzc ⊢
        simp only [List.map_replicate] at this hzc
        simp [Builtin.clear_, run_underlying hu, zeroValue, typeInfo, hi1, hi4, hzc, this]
     ·simp [RP.run] at h
    ·simp [RP.run] at h
   ·simp [RP.run] at h
  ·simp [RP.run] at h
 ·simp [RP.run] at h

/-! ### Bytes and texts -/

theorem isBytes_of {ti : TInfo} {ty : List (Nat × TInfo)} (hty : tabB P ty = true) (h : isBytes ty ti = true) : P.underlying ti.elem = some (.int .u8) := by
 unfold isBytes at h
 split at h
 ·rename_i te hte
  have hT := rowB_ok (tabB_row hty hte)
  split at h
  ·rename_i hk
   have h1 := hT.ty
   rw [hk] at h1
   unfold tyB at h1
   split at h1
   ·rename_i k' hu
    rw [hu, keq_eq h1]
   ·cases h1
  ·cases h
 ·cases h

theorem ofBytes_run {a : Option Addr} {n cap : Nat} {l : List Int} (h : ConAt P w (.slice a n cap) (.ints .u8 l)) (hn : n = l.length) : (Conv.bytesToString (.slice a n cap)).run P w = .ok (.string (ofBytesI l)) w := by
 have hc := h.all w (fun _ _ h => h)
 simp only [conSize, conLen] at hc
 have hf : ∀ (l : List Int) (r : ByteArray), l.foldl (fun r n => r.push (UInt8.ofNat n.toNat)) r = ⟨r.data ++ (l.map fun z => UInt8.ofNat z.toNat).toArray⟩ := by
  intro l
  induction l with
  | nil => intro r; simp
  | cons b l ih => intro r; simp only [List.foldl_cons]; rw [ih]; simp [ByteArray.push]
 cases a with
 | none =>
  simp only [Builtin.firstCells, Sem.run_pure] at hc
  have : l = [] := by
   have := congrArg (fun r : Result (Array Value) => match r with | .ok x _ => x.size | _ => 0) hc
   simp [conCells] at this
   exact List.eq_nil_of_length_eq_zero this.symm
  subst this
  simp [Conv.bytesToString, ofBytesI]; rfl
 | some a =>
  simp only [Builtin.firstCells, Nat.mul_one] at hc
  rw [run_bytesToString w a n cap l (by rw [hn]; exact hc), hf]
  have he0 : ByteArray.empty.data = #[] := rfl
  rw [he0]
  simp [ofBytesI]

theorem convert_sound {Ts Td : TypeId} {ti ti2 : TInfo} {ty : List (Nat × TInfo)} (hT : RowOk P Ts ti) (hT2 : RowOk P Td ti2) (hty : tabB P ty = true) (hm : Mem w0 M ρ H w) {stamp : Nat} {x : SV} {vx : Value} (hx : D (dmOf H) ρ x vx)
  {d : Delta} {rs rs' : List Nat} (h : (convertOp ty stamp ti ti2 x).run H rs = some (d, rs')) (hp : AllP d.pre) :
  ∃ v w', (convert Ts Td vx).run P w = .ok v w' ∧ After w0 M ρ H d v w' := by
 have same : ∀ {v : Value}, d.ws = [] → D (dmOf H) ρ d.v v → (convert Ts Td vx).run P w = .ok v w → ∃ v w', (convert Ts Td vx).run P w = .ok v w' ∧ After w0 M ρ H d v w' :=
  fun hw hv hr => ⟨_, w, hr, ρ, .refl _ _, by rw [hw]; exact hv, by rw [hw]; exact hm⟩
 have hint : ∀ {t : TInfo} {T : TypeId} {k : IntKind}, RowOk P T t → t.ty = .int k → P.underlying T = some (.int k) := fun hT ht => by
  have h1 := hT.ty
  rw [ht] at h1
  unfold tyB at h1
  split at h1
  ·rename_i k' hu; rw [hu, keq_eq h1]
  ·cases h1
 have hstr : ∀ {t : TInfo} {T : TypeId}, RowOk P T t → t.ty = .str → P.underlying T = some .string := fun hT ht => by
  have h1 := hT.ty
  rw [ht] at h1
  unfold tyB at h1
  split at h1
  ·rename_i hu; exact hu
  ·cases h1
 unfold convertOp at h
 split at h
 ·rename_i ks k k' a h1 h2
  have u1 := hint hT h1
  have u2 := hint hT2 h2
  simp only [D] at hx
  obtain ⟨rfl, hr⟩ := hx
  have hrun := convInt_sound (w := w) (k' := k') (a := a.z) u1 u2
  split at h
  ·rename_i e
   have e := keq_eq e
   subst e
   have e := run_ret h; subst e
   refine same rfl ⟨rfl, hr⟩ (by rw [hrun, wrap_of_InR hr])
  ·split at h
   ·split at h
    ·rename_i hb
     have e := run_ret h; subst e
     have hb := InRb_iff hb
     refine same rfl ⟨rfl, hb⟩ (by rw [hrun, wrap_of_InR hb])
    ·have e := run_ret h; subst e
     exact same rfl ⟨rfl, inR_wrap _ _⟩ hrun
   ·have e := run_ret h; subst e
    exact same rfl ⟨rfl, inR_wrap _ _⟩ hrun
 ·rename_i s h1 h2
  have u1 := hstr hT h1
  have u2 := hstr hT2 h2
  have e := run_ret h; subst e
  simp only [D] at hx
  obtain ⟨rfl, hs⟩ := hx
  exact same rfl ⟨rfl, hs⟩ (by simp [convert, run_underlying u1, run_underlying u2])
 ·rename_i s h1 h2
  have u1 := hstr hT h1
  have u2 := slice_of hT2 h2
  split at h
  ·rename_i hb
   have u3 := isBytes_of hty hb
   obtain ⟨hn, rfl⟩ := fresh_run h
   simp only [D] at hx
   obtain ⟨rfl, hs⟩ := hx
   have hrun := run_bytes_of_string (P := P) w Ts Td ti2.elem s u1 u2 u3
   have hge := grownCap_ge w s.size 0 ti2.elem
   generalize grownCap w s.size 0 ti2.elem = cp at *
   refine ⟨_, _, hrun, ?_⟩
   have hsz : (bytesRow s cp).size = cp := by
    have : s.data.size = s.size := rfl
    simp [bytesRow, this]; omega
   have hd : Mem w0 M ρ H w.drew := hm.drew _
   refine After.alloc (hd) hn (segs_one (dm := dmOf H) (g := .rowI .u8 (bytesI s)) (cs := (bytesI s).map (Value.int .u8)) ⟨bytesI_ok s, rfl⟩) (extra := List.replicate (cp - s.size) (.int .u8 0)) (by simp [bytesRow, bytesI, Function.comp_def]) (.inr (Nat.le_refl _)) rfl ?_
   refine sl_D (dm_new _ _ _) _ hs hge (.inl ⟨?_, ?_⟩)
   ·rw [updP_same]; rfl
   ·rw [updP_same, hsz]; simp
  ·simp [RP.run] at h
 ·rename_i h1 h2
  have u1 := slice_of hT h1
  have u2 := hstr hT2 h2
  split at h
  ·rename_i hb
   have u3 := isBytes_of hty hb
   have e := run_ret h; subst e
   simp only [D] at hx
   subst hx
   refine same (v := .string ByteArray.empty) rfl ⟨rfl, by decide⟩ ?_
   rw [run_convert_bytes_string w Ts Td ti.elem none 0 0 u1 u3 u2]; rfl
  ·simp [RP.run] at h
 ·rename_i key c est off len h1 h2
  have u1 := slice_of hT h1
  have u2 := hstr hT2 h2
  split at h
  ·rename_i hb
   have u3 := isBytes_of hty hb
   obtain ⟨p, q, rs1, hw, hq⟩ := withCon_sound (P := P) hm hx h
   split at hw
   ·rename_i l
    have e := run_ret hw; subst e
    have hq := hq hp
    simp only [D] at hx
    obtain ⟨hk, ho, hl, hr, ad, cap, rfl, hlc, hdis⟩ := hx
    have hll : l.length = len.z.toNat := by
     have := hq.len w
     simp [Builtin.lenOf, conLen] at this
     omega
    refine same rfl ⟨rfl, ?_⟩ (by rw [run_convert_bytes_string w Ts Td ti.elem ad len.z.toNat cap u1 u3 u2]; exact ofBytes_run hq hll.symm)
    simp only [InR] at hr
    have : (ofBytesI l).size = l.length := by simp [ofBytesI, ByteArray.size]
    rw [this, hll]; omega
   ·simp [RP.run] at hw
  ·simp [RP.run] at h
 ·rename_i key r len h1 h2
  have u1 := slice_of hT h1
  have u2 := hstr hT2 h2
  split at h
  ·rename_i hb
   have u3 := isBytes_of hty hb
   obtain ⟨p, q, rs1, hw, hq⟩ := withCon_sound (P := P) hm hx h
   split at hw
   ·rename_i l
    have e := run_ret hw; subst e
    have hq := hq hp
    simp only [D] at hx
    obtain ⟨hk, hrp, hl, hr, ad, cap, rfl, hlc, hdis⟩ := hx
    have hll : l.length = len.z.toNat := by
     have := hq.len w
     simp [Builtin.lenOf, conLen] at this
     omega
    refine same rfl ⟨rfl, ?_⟩ (by rw [run_convert_bytes_string w Ts Td ti.elem ad len.z.toNat cap u1 u3 u2]; exact ofBytes_run hq hll.symm)
    simp only [InR] at hr
    have : (ofBytesI l).size = l.length := by simp [ofBytesI, ByteArray.size]
    rw [this, hll]; omega
   ·simp [RP.run] at hw
  ·simp [RP.run] at h
 ·rename_i key sh dd h1 h2
  have u1 := slice_of hT h1
  have u2 := hstr hT2 h2
  split at h
  ·rename_i hb
   have u3 := isBytes_of hty hb
   obtain ⟨p, q, rs1, hw, hq⟩ := withCon_sound (P := P) hm hx h
   split at hw
   ·rename_i l
    have e := run_ret hw; subst e
    have hq := hq hp
    simp only [D] at hx
    obtain ⟨hk, hrel, hF, ad, cap, rfl, hlc, hl63, hdis⟩ := hx
    have hll : l.length = roLen sh dd := by
     have := hq.len w
     simp [Builtin.lenOf, conLen] at this
     omega
    refine same rfl ⟨rfl, ?_⟩ (by rw [run_convert_bytes_string w Ts Td ti.elem ad (roLen sh dd) cap u1 u3 u2]; exact ofBytes_run hq hll.symm)
    have : (ofBytesI l).size = l.length := by simp [ofBytesI, ByteArray.size]
    rw [this, hll]; omega
   ·simp [RP.run] at hw
  ·simp [RP.run] at h
 ·simp [RP.run] at h

/-! ### A literal's slice, turned to its own type -/

theorem freeze_heap (w : World) (b n : Nat) (k : Nat) : (w.freeze ⟨b, n, none⟩ 1).heap[k]? = if k = b then (w.heap[k]?).map (fun o => match o with | .cells c elem (lo, hi) => .cells c elem (if lo == hi then (n, n + 1) else (min lo n, max hi (n + 1))) | o => o) else w.heap[k]? := by
 unfold World.freeze
 rw [if_neg (by decide)]
 simp only [Array.getElem?_modify]
 by_cases e : k = b
 ·subst e
  rw [if_pos rfl, if_pos rfl]
  cases w.heap[k]? with
  | none => rfl
  | some o => cases o <;> rfl
 ·rw [if_neg (Ne.symm e), if_neg e]

theorem freeze_cell (w : World) (b n : Nat) (a : Addr) : (w.freeze ⟨b, n, none⟩ 1).cell? a = w.cell? a := by
 unfold World.cell?
 rw [freeze_heap]
 by_cases e : a.block = b
 ·rw [if_pos e]
  cases h : w.heap[a.block]? with
  | none => rfl
  | some o => cases o <;> rfl
 ·rw [if_neg e]

theorem Mem.freeze (hm : Mem w0 M ρ H w) {key : Nat} {l : List Seg} (hk : H key = some (.segs false l)) (hc : 0 < (ρ key).cap) {cs : Array Value} {T : TypeId} {lo hi : Nat} (hb : w.heap[(ρ key).blk]? = some (.cells cs T (lo, hi))) :
  Mem w0 M ρ H (w.freeze ⟨(ρ key).blk, cs.size, none⟩ 1) := by
 have hcl := hm.clean key l hk hc cs T lo hi hb
 have hnew : ∃ hi', (w.freeze ⟨(ρ key).blk, cs.size, none⟩ 1).heap[(ρ key).blk]? = some (.cells cs T (cs.size, hi')) := by
  rw [freeze_heap, if_pos rfl, hb]
  by_cases e : lo = hi
  ·subst e; exact ⟨cs.size + 1, by simp⟩
  ·have : cs.size ≤ lo := hcl.resolve_left e
   refine ⟨max hi (cs.size + 1), ?_⟩
   have e' : (lo == hi) = false := by simpa using e
   simp [e, Nat.min_eq_right this]
 obtain ⟨hi', hnew⟩ := hnew
 have hsz : (w.freeze ⟨(ρ key).blk, cs.size, none⟩ 1).heap.size = w.heap.size := by
  unfold World.freeze; rw [if_neg (by decide)]; simp
 have hoth : ∀ k, k ≠ (ρ key).blk → (w.freeze ⟨(ρ key).blk, cs.size, none⟩ 1).heap[k]? = w.heap[k]? := fun k hk => by rw [freeze_heap, if_neg hk]
 have hfr : ∀ a, (w.cell? a).isSome = true → w.frozen? a = false → (w.freeze ⟨(ρ key).blk, cs.size, none⟩ 1).frozen? a = false := fun a h1 h2 => by
  by_cases e : a.block = (ρ key).blk
  ·unfold World.frozen?
   rw [e, hnew]
   unfold World.cell? at h1
   rw [e, hb] at h1
   simp only at h1
   split at h1
   ·cases h1
   ·have : a.off < cs.size := by
     rcases Nat.lt_or_ge a.off cs.size with h | h
     ·exact h
     ·rw [Array.getElem?_eq_none h] at h1; cases h1
    simp; omega
  ·unfold World.frozen? at h2 ⊢
   rw [hoth _ e]; exact h2
 refine ⟨⟨fun k b hkb => ?_, hm.heap.sep, fun k ro l1 h1 c1 => by rw [hsz]; exact hm.heap.lt k ro l1 h1 c1⟩, ⟨?_, ?_, ?_, by rw [hsz]; exact hm.frame.size, fun k h1 h2 => ?_⟩, hm.own, hm.view, fun k l1 h1 c1 => ?_,
  hm.pools.step (fun a ha => ⟨ha, .refl _⟩) (fun _ _ _ e => ⟨e, rfl⟩) (fun key ro l e c => .inl ⟨key, ro, l, e, c, rfl⟩) (by rw [hsz]; exact Nat.le_refl _) (fun _ hb => hb) (fun k kd ms i c' hk' hi h0 => hoth _ (hm.pools.apartD k kd ms key false l i c' hk' hk hc hi h0).symm)⟩
 ·cases b with
  | gone => trivial
  | world => trivial
  | pool _ _ => trivial
  | boxv _ => trivial
  | alias _ _ => exact hm.heap.blk k _ hkb
  | segs ro l1 =>
   obtain ⟨vs, s1, s2, s3, s4⟩ := hm.segs hkb
   exact ⟨vs, s1, s2, fun j v hv => by rw [freeze_cell]; exact s3 j v hv, fun hr j hj => ⟨by rw [freeze_cell]; exact (s4 hr j hj).1, hfr _ (s4 hr j hj).1 (s4 hr j hj).2⟩⟩
 ·unfold World.freeze; rw [if_neg (by decide)]; exact hm.frame.os
 ·unfold World.freeze; rw [if_neg (by decide)]; exact hm.frame.tape
 ·unfold World.freeze; rw [if_neg (by decide)]; exact hm.frame.output
 ·rw [hoth]
  ·exact hm.frame.block k h1 h2
  ·intro e
   rcases hm.own key l hk hc with h | h
   ·omega
   ·exact h2 (e ▸ h)
 ·by_cases e : (ρ k).blk = (ρ key).blk
  ·intro cs' T' lo' hi2 e2
   rw [e, hnew] at e2
   simp only [Option.some.injEq, Obj.cells.injEq, Prod.mk.injEq] at e2
   obtain ⟨rfl, _, rfl, _⟩ := e2
   exact .inr (Nat.le_refl _)
  ·exact (hm.clean k l1 h1 c1).of_block (hoth _ e)

theorem lit_sound {T : TypeId} {ti : TInfo} {ty : List (Nat × TInfo)} (hT : RowOk P T ti) (hty : tabB P ty = true) (hsl : isSl ti.ty = true) (hm : Mem w0 M ρ H w) {x : SV} {vx : Value} (hx : D (dmOf H) ρ x vx)
  {d : Delta} {rs rs' : List Nat} (h : (litOp ty ti x).run H rs = some (d, rs')) (hp : AllP d.pre) : ∃ v w', (convert T T vx).run P w = .ok v w' ∧ After w0 M ρ H d v w' := by
 have hts : ti.ty = .slice := by
  generalize ti.ty = t at hsl
  cases t <;> simp [isSl] at hsl
  rfl
 unfold litOp at h
 split at h
 ·rename_i key len
  split at h
  ·rename_i p hb hq
   have u3 := isBytes_of hty hb
   have u1 := slice_of hT hts
   simp only [RP.run] at h
   split at h
   ·rename_i l hkey
    have e := run_ret h; subst e
    have hx0 := hx
    simp only [D] at hx
    obtain ⟨hk, ho, hl, hr, ad, cap, rfl, hlc, hdis⟩ := hx
    have hne : len.z ≠ 0 := by
     simp only [arithPre] at hq
     split at hq
     ·have := (tst_some hq).1; simpa using this
     ·simp only [Option.some.injEq] at hq; subst hq; exact hp.1
    rcases hdis with ⟨rfl, hcap⟩ | ⟨h0, _⟩
    ·have hcp : 0 < (ρ key).cap := by simp at hcap; omega
     obtain ⟨vs, s1, s2, s3, s4⟩ := hm.segs hkey
     have h0 := (s4 rfl 0 hcp).1
     unfold World.cell? at h0
     have hblk : ∃ cs T' lo hi, w.heap[(ρ key).blk]? = some (.cells cs T' (lo, hi)) := by
      split at h0
      ·rename_i c e' fr hh
       obtain ⟨lo, hi⟩ := fr
       exact ⟨c, e', lo, hi, hh⟩
      ·cases h0
     obtain ⟨cs, T', lo, hi, hh⟩ := hblk
     refine ⟨.slice (some (at_ (ρ key) (0 + 1 * (Int.ofNat 0).toNat))) len.z.toNat cap, w.freeze ⟨(ρ key).blk, cs.size, none⟩ 1, ?_, ρ, .refl _ _, ?_, ?_⟩
     ·have hsh : w.shape? (ρ key).blk = some (T', cs.size) := by unfold World.shape?; rw [hh]
      simp [convert, run_underlying u1, run_underlying u3, markStringish, at_, hsh]
     ·exact D.mono (fun k hk => dm_updsH _ _ k hk) (fun _ _ => .refl _) _ _ hx0
     ·have hu : updsH H [(key, .segs false l)] = H := by
       funext k
       simp only [updsH, updH]
       by_cases e : k = key
       ·subst e; rw [if_pos rfl, hkey]
       ·rw [if_neg e]
      show Mem w0 M ρ (updsH H [(key, .segs false l)]) _
      rw [hu]
      exact hm.freeze hkey hcp hh
    ·omega
   ·simp [RP.run] at h
  ·simp [RP.run] at h
 ·simp [RP.run] at h

end
end Go.Gx

/- Every operation: what it comes to. -/
namespace Go.Gx
open Go.RowKit
set_option linter.unusedVariables false

section
variable {P : Program} {w0 : World} {M : Nat → Prop} {ρ : Nat → Pl} {H : Nat → Option SB} {w : World}

theorem bool_of {T : TypeId} {ti : TInfo} (hT : RowOk P T ti) (ht : ti.ty = .bool) : P.underlying T = some .bool := by
 have h1 := hT.ty
 rw [ht] at h1
 unfold tyB at h1
 split at h1
 ·rename_i hu; exact hu
 ·cases h1
theorem ptr_of {T : TypeId} {ti : TInfo} (hT : RowOk P T ti) (ht : ti.ty = .ptr) : ∃ e, P.underlying T = some (.pointer e) := by
 have h1 := hT.ty
 rw [ht] at h1
 unfold tyB at h1
 split at h1
 ·rename_i e hu; exact ⟨_, hu⟩
 ·cases h1

theorem equalIn_bool {t : TypeId} (hu : P.underlying t = some .bool) (d : Nat) (a c : Bool) : (Op.equalIn (d + 1) t (.bool a) (.bool c)).run P w = .ok (a == c) w := by
 simp [Op.equalIn, run_underlying hu]
theorem equalIn_ptr {t e : TypeId} (hu : P.underlying t = some (.pointer e)) (d : Nat) (a : Option Addr) : (Op.equalIn (d + 1) t (.pointer a) (.pointer none)).run P w = .ok a.isNone w := by
 cases a <;> simp [Op.equalIn, run_underlying hu]

theorem binop_sound {ty : List (Nat × TInfo)} (hty : tabB P ty = true) {op : BinOp} {t : TypeId} {x y : SV} {vx vy : Value} {ox oy : Operand} (hx : D (dmOf H) ρ x vx) (hy : D (dmOf H) ρ y vy)
  {d : Delta} {rs rs' : List Nat} (h : (binop ty op t x y).run H rs = some (d, rs')) (hp : AllP d.pre) :
  d.ws = [] ∧ ∃ v, (do eqGuard op t ox oy vx vy; binOp op t vx vy : Sem Value).run P w = .ok v w ∧ D (dmOf H) ρ d.v v := by
 have both : ∀ {v : Value}, ((∀ c, vx ≠ .agg c) ∨ (∀ c, vy ≠ .agg c)) → (vx ≠ .nilIface ∨ vy ≠ .nilIface) → (binOp op t vx vy).run P w = .ok v w →
   (do eqGuard op t ox oy vx vy; binOp op t vx vy : Sem Value).run P w = .ok v w := fun h1 h2 h3 => by
  rw [Sem.run_bind, eqGuard_other (w := w) ox oy h1 h2]; exact h3
 have eqs : ∀ {b : Bool} {x y : Value}, (∀ op : BinOp, op = .eql ∨ op = .neq → binOp op t x y = (match op with | .eql => (do pure (.bool (← Op.equal t x y))) | _ => (do pure (.bool (!(← Op.equal t x y)))))) →
   (Op.equal t x y).run P w = .ok b w → d.ws = [] ∧ ((op = .eql ∧ D (dmOf H) ρ d.v (.bool b)) ∨ (op = .neq ∧ D (dmOf H) ρ d.v (.bool (!b)))) →
   d.ws = [] ∧ ∃ v, (binOp op t x y).run P w = .ok v w ∧ D (dmOf H) ρ d.v v := fun hb hr hd => by
  refine ⟨hd.1, ?_⟩
  rcases hd.2 with ⟨ho, hd2⟩ | ⟨ho, hd2⟩
  ·exact ⟨_, eql_of_equal w hb hr (.inl ho), by rw [if_pos ho]; exact hd2⟩
  ·exact ⟨_, eql_of_equal w hb hr (.inr ho), by rw [if_neg (by rw [ho]; decide)]; exact hd2⟩
 unfold binop at h
 split at h
 ·rename_i k a k' c
  simp only [D] at hx hy
  obtain ⟨rfl, hr⟩ := hx
  obtain ⟨rfl, _⟩ := hy
  split at h
  ·rename_i hk
   simp only [Bool.or_eq_true] at hk
   obtain ⟨h1, v, h2, h3⟩ := numOp_sound (P := P) w t h hp (hk.imp id keq_eq) hr
   exact ⟨h1, v, both (.inl fun c => by simp) (.inl (by simp)) h2, h3⟩
  ·simp [RP.run] at h
 ·rename_i a _ c
  split at h
  ·rename_i ti hti
   have hT := rowB_ok (tabB_row hty hti)
   split at h
   ·rename_i hb
    have hu := bool_of hT hb
    simp only [D] at hx hy
    subst hx hy
    obtain ⟨h1, v, h2, h3⟩ := eqs (x := .bool a) (y := .bool c) (fun op ho => by rcases ho with rfl | rfl <;> rfl) (equalIn_bool hu 9999 a c) (eqOp_sound h)
    exact ⟨h1, v, both (.inl fun c => by simp) (.inl (by simp)) h2, h3⟩
   ·simp [RP.run] at h
  ·simp [RP.run] at h
 ·rename_i a c
  simp only [D] at hx hy
  obtain ⟨rfl, _⟩ := hx
  obtain ⟨rfl, _⟩ := hy
  unfold strOp at h
  split at h
  ·have e := run_ret h
   subst e
   have hsz : ((a.size + c.size : Nat) : Int) < 9223372036854775808 := hp.1
   refine ⟨rfl, _, both (.inl fun c => by simp) (.inl (by simp)) (v := .string (a ++ c)) ?_, rfl, ?_⟩
   ·have hn : ¬ (((a.size + c.size : Nat) : Int) > IntKind.i64.max) := by
     have : IntKind.i64.max = 9223372036854775807 := rfl
     omega
    simp only [binOp, Op.stringOp, hn, if_false]
    rfl
   ·rw [ByteArray.size_append]; exact hsz
  ·obtain ⟨h1, h2⟩ := eqOp_sound (ρ := ρ) (dm := dmOf H) h
   refine ⟨h1, ?_⟩
   rcases h2 with ⟨rfl, h2⟩ | ⟨rfl, h2⟩
   ·exact ⟨_, both (.inl fun c => by simp) (.inl (by simp)) (by simp [binOp, Op.stringOp]), h2⟩
   ·exact ⟨_, both (.inl fun c => by simp) (.inl (by simp)) (by simp [binOp, Op.stringOp]), h2⟩
 ·rename_i k n ex a k' m ex' c
  split at h
  ·rename_i ti hb hti
   simp only [Bool.and_eq_true] at hb
   have e1 := keq_eq hb.1
   have e2 := Nat.eq_of_beq_eq_true hb.2
   subst e1 e2
   have hT := rowB_ok (tabB_row hty hti)
   split at h
   ·rename_i n' k2 ht
    split at h
    ·rename_i hn
     have hn := Nat.eq_of_beq_eq_true hn
     subst hn
     have h1 := hT.ty
     rw [ht] at h1
     simp only [D] at hx hy
     obtain ⟨a1, a2, rfl⟩ := hx
     obtain ⟨c1, c2, rfl⟩ := hy
     obtain ⟨q1, v, q2, q3⟩ := eqs (x := .agg (a.map (Value.int k)).toArray) (y := .agg (c.map (Value.int k)).toArray) (fun op ho => by rcases ho with rfl | rfl <;> rfl) (equal_arr w h1 a1 c1) (eqOp_sound h)
     refine ⟨q1, v, ?_, q3⟩
     rw [Sem.run_bind, eqGuard_arr w h1]; exact q2
    ·simp [RP.run] at h
   ·simp [RP.run] at h
  ·simp [RP.run] at h
 ·rename_i key c
  split at h
  ·rename_i ti hti
   have hT := rowB_ok (tabB_row hty hti)
   split at h
   ·rename_i hb
    obtain ⟨e, hu⟩ := ptr_of hT hb
    simp only [D] at hx hy
    obtain ⟨_, rfl⟩ := hx
    subst hy
    obtain ⟨h1, v, h2, h3⟩ := eqs (x := .pointer (some (at_ (ρ key) c))) (y := .pointer none) (fun op ho => by rcases ho with rfl | rfl <;> rfl) (equalIn_ptr hu 9999 _) (eqSt_sound h)
    exact ⟨h1, v, both (.inl fun c => by simp) (.inl (by simp)) h2, h3⟩
   ·simp [RP.run] at h
  ·simp [RP.run] at h
 ·split at h
  ·rename_i ti hti
   have hT := rowB_ok (tabB_row hty hti)
   split at h
   ·rename_i hb
    obtain ⟨e, hu⟩ := ptr_of hT hb
    simp only [D] at hx hy
    subst hx hy
    obtain ⟨h1, v, h2, h3⟩ := eqs (x := .pointer none) (y := .pointer none) (fun op ho => by rcases ho with rfl | rfl <;> rfl) (equalIn_ptr hu 9999 _) (eqSt_sound h)
    exact ⟨h1, v, both (.inl fun c => by simp) (.inl (by simp)) h2, h3⟩
   ·simp [RP.run] at h
  ·simp [RP.run] at h
 ·simp [RP.run] at h

theorem unop_sound {op : UnOp} {x : SV} {vx : Value} (hx : D (dmOf H) ρ x vx) {d : Delta} {rs rs' : List Nat} (h : (unop op x).run H rs = some (d, rs')) (hp : AllP d.pre) :
  d.ws = [] ∧ ∃ v, (Op.unary op vx).run P w = .ok v w ∧ D (dmOf H) ρ d.v v := by
 unfold unop at h
 split at h
 ·simp only [D] at hx
  subst hx
  split at h <;> (have e := run_ret h; subst e; exact ⟨rfl, _, rfl, rfl⟩)
 ·simp only [D] at hx
  subst hx
  have e := run_ret h; subst e; exact ⟨rfl, _, rfl, rfl⟩
 ·rename_i k a
  simp only [D] at hx
  obtain ⟨rfl, hr⟩ := hx
  obtain ⟨h1, v, h2, h3⟩ := numOp_sound (P := P) (ρ := ρ) (dm := dmOf H) w 0 h hp (.inr rfl) (x := ⟨true, 0⟩) (inR_zero k)
  exact ⟨h1, v, by rw [← h2]; simp [Op.unary, binOp], h3⟩
 ·rename_i k a
  simp only [D] at hx
  obtain ⟨rfl, hr⟩ := hx
  have e := run_ret h; subst e
  exact ⟨rfl, .int k (notI k a.z), by simp [Op.unary, Op.intBits, notI, xorI], rfl, inR_wrap _ _⟩
 ·simp [RP.run] at h

theorem arrPtr_sound {T : TypeId} {ti : TInfo} (hT : RowOk P T ti) (hm : Mem w0 M ρ H w) {x : SV} {vx : Value} (hx : D (dmOf H) ρ x vx) {d : Delta} {rs rs' : List Nat} (h : (arrPtrOp ti x).run H rs = some (d, rs')) (hp : AllP d.pre) :
  d.ws = [] ∧ ∃ v, (Instr.arrayAt T vx).run P w = .ok v w ∧ D (dmOf H) ρ d.v v := by
 unfold arrPtrOp at h
 split at h
 ·rename_i key c est off len n e ht
  split at h
  ·rename_i v hb hv
   have e := run_ret h; subst e
   simp only [Bool.and_eq_true] at hb
   have e1 := Nat.eq_of_beq_eq_true hb.1
   have e2 : 0 < n := by have := hb.2; simp [Nat.blt] at this; omega
   have hle := hp.1
   simp only [D] at hx
   obtain ⟨hk, ho, hl, hr, ad, cap, rfl, hlc, hdis⟩ := hx
   have h1 := hT.ty
   rw [ht] at h1
   unfold tyB at h1
   split at h1
   ·rename_i n' T' hu
    simp only [Bool.and_eq_true] at h1
    have hn := Nat.eq_of_beq_eq_true h1.1.1
    subst hn
    rcases hdis with ⟨rfl, hcap⟩ | ⟨d1, d2⟩
    ·refine ⟨rfl, .pointer (some (at_ (ρ key) (c + est * off.z.toNat))), ?_, ptrAt_sound hv hk ho⟩
     have : ¬ (len.z.toNat < n) := by omega
     simp [Instr.arrayAt, run_underlying hu, this]
    ·omega
   ·cases h1
  ·simp [RP.run] at h
 ·rename_i key k d n k' ht
  split at h
  ·rename_i hb
   simp only [Bool.and_eq_true] at hb
   have e1 := keq_eq hb.1
   have e2 : 0 < n := by have := hb.2; simp [Nat.blt] at this; omega
   subst e1
   simp only [RP.run] at h
   split at h
   ·rename_i hk
    have e := run_ret h; subst e
    have hle : (n : Int) ≤ ((roL d).length : Int) := hp.1
    simp only [D] at hx
    obtain ⟨hdm, hrel, hF, _⟩ := hx
    have hv := hm.view key hk
    rw [hv] at hrel
    simp only [RoD] at hrel
    obtain ⟨a, cap, rfl, hlc, hl63, hall, hdis⟩ := hrel
    rcases hdis with ⟨b, o, rfl, hout, hra⟩ | ⟨h0, _⟩
    ·have h1 := hT.ty
     rw [ht] at h1
     unfold tyB at h1
     split at h1
     ·rename_i n' T' hu
      simp only [Bool.and_eq_true] at h1
      have hn := Nat.eq_of_beq_eq_true h1.1.1
      subst hn
      refine ⟨rfl, .pointer (some ⟨b, o, none⟩), ?_, ?_⟩
      ·have : ¬ ((roL d).length < n) := by omega
       simp [Instr.arrayAt, run_underlying hu, this]
      ·have hln : ((roL d).take n).length = n := by rw [List.length_take]; omega
       refine ⟨hdm, by simp, by simp [roLen, roX], b, o, 1, 1, ?_, by simp⟩
       rw [hv]
       simp only [RoD, roX, List.length_singleton]
       refine ⟨_, _, ((roL d).take n).map (Value.int k), rfl, Nat.le_refl _, by omega, ⟨.agg (((roL d).take n).map (Value.int k)).toArray, [], ⟨hln, fun z hz => hall z (List.mem_of_mem_take hz), rfl⟩, by simp [Value.cells], rfl⟩, .inl ⟨b, o, rfl, hout, fun j v hj => hra j v ?_⟩⟩
       rw [List.getElem?_map] at hj ⊢
       rw [List.getElem?_take] at hj
       split at hj
       ·exact hj
       ·cases hj
     ·cases h1
    ·omega
   ·simp [RP.run] at h
  ·simp [RP.run] at h
 ·simp [RP.run] at h

end
end Go.Gx

/- Every operation of the evaluator against the model's. -/
namespace Go.Gx
open Go.RowKit
set_option linter.unusedVariables false

def GoFn (P : Program) (f : FuncId) : Prop := ∃ fn, P.funcs[f]? = some fn ∧ (fn.name == "runtime.NumGoroutine") = false ∧ fn.body.isNone = false

theorem GoFn.run {P : Program} {f : FuncId} (h : GoFn P f) (args : Array Value) (w : World) : (callFunc f args).run P w = .ok (.enter f args) w := by
 obtain ⟨fn, h1, h2, h3⟩ := h
 simp only [callFunc, Sem.run_bind, run_program, Result.andThen_ok, h1, h2, h3, Bool.false_eq_true, if_false, Sem.run_pure]

def Glob (gh : Heap) (w0 : World) (M : Nat → Prop) : Prop :=
 ∀ g b, (g, b) ∈ gh → ∃ l vs, b = .segs true l ∧ SegsD (fun _ => False) (fun _ => ({ blk := 0, off := 0, cap := 0 } : Pl)) l vs ∧ w0.rangeAt g 0 vs ∧ ¬ M g ∧ g < w0.heap.size

def CallOk (P : Program) (gh : Heap) (f : FuncId) (c : Ctr) : Prop :=
 ∀ (stamp : Nat) (args : List SV) (H : Nat → Option SB) (rs rs' : List Nat) (d : Delta) (vs : List Value) (w0 : World) (M : Nat → Prop) (ρ : Nat → Pl) (w : World),
  Glob gh w0 M → (c stamp args).run H rs = some (d, rs') → AllP d.pre → Ds (dmOf H) ρ args vs → Mem w0 M ρ H w → Outc P w0 M ρ H d w ((callFunc f vs.toArray).run P w)

structure TabOk (P : Program) (Γ : Tab) : Prop where
 mix : P.follows .mixedOrders = true
 ty : tabB P Γ.ty = true
 ctr : ∀ f c, assoc Γ.ctr f = some c → CallOk P Γ.gh f c

section
variable {P : Program} {w0 : World} {M : Nat → Prop} {ρ : Nat → Pl} {H : Nat → Option SB} {w : World}

theorem Outc.val (hm : Mem w0 M ρ H w) {d : Delta} {s : Sem Value} (h : d.ws = [] ∧ ∃ v, s.run P w = .ok v w ∧ D (dmOf H) ρ d.v v) : Outc P w0 M ρ H d w ((do pure (.value (← s)) : Sem Next).run P w) := by
 obtain ⟨h1, v, h2, h3⟩ := h
 exact Outc.same hm h1 h2 h3

theorem Outc.made {d : Delta} {s : Sem Value} (h : ∃ v w', s.run P w = .ok v w' ∧ After w0 M ρ H d v w') : Outc P w0 M ρ H d w ((do pure (.value (← s)) : Sem Next).run P w) := by
 obtain ⟨v, w', h1, h2⟩ := h
 exact .inl ⟨v, w', .inl (by simp [h1]), h2⟩

theorem PartsD_of {ev : Operand → SV} {ρe : Operand → Value} : ∀ (l : List (Nat × Operand)), (∀ x ∈ l.map (·.2), D (dmOf H) ρ (ev x) (ρe x)) → PartsD (dmOf H) ρ (l.map fun (i, x) => (i, ev x)) (l.map fun (i, x) => (i, ρe x))
 | [], _ => rfl
 | (i, x) :: r, h => ⟨ρe x, _, rfl, h x (by simp), PartsD_of r fun y hy => h y (by simp at hy ⊢; exact .inr hy)⟩

theorem Ds_of {ev : Operand → SV} {ρe : Operand → Value} : ∀ (l : List Operand), (∀ x ∈ l, D (dmOf H) ρ (ev x) (ρe x)) → Ds (dmOf H) ρ (l.map ev) (l.map ρe)
 | [], _ => rfl
 | x :: r, h => ⟨ρe x, _, h x (by simp), rfl, Ds_of r fun y hy => h y (by simp [hy])⟩

theorem OptD_of {ev : Operand → SV} {ρe : Operand → Value} (x : Option Operand) (h : ∀ y, x = some y → D (dmOf H) ρ (ev y) (ρe y)) : OptD (dmOf H) ρ (x.map ev) (x.map ρe) := by
 cases x with
 | none => exact .inl ⟨rfl, rfl⟩
 | some y => exact .inr ⟨_, _, rfl, rfl, h y rfl⟩

theorem builtin_sound {Γ : Tab} (hΓ : TabOk P Γ) (hm : Mem w0 M ρ H w) {stamp : Nat} {b : Builtin} {ts : List TypeId} {xs : List SV} {vs : List Value} (hx : Ds (dmOf H) ρ xs vs) {d : Delta} {rs rs' : List Nat}
  (h : (builtinOp Γ.ty stamp b ts xs).run H rs = some (d, rs')) (hp : AllP d.pre) (type : TypeId) (cs : Array Bool) : Outc P w0 M ρ H d w ((builtin b ts.toArray type cs vs.toArray).run P w) := by
 unfold builtinOp at h
 split at h
 ·rename_i t x
  simp only [Ds] at hx
  obtain ⟨v, _, hx, rfl, rfl⟩ := hx
  split at h
  ·rename_i ti hti
   exact Outc.val hm (len_sound (rowB_ok (tabB_row hΓ.ty hti)) hx h _ _ rfl)
  ·simp [RP.run] at h
 ·rename_i t t2 s x
  simp only [Ds] at hx
  obtain ⟨v, _, hx, rfl, v2, _, hx2, rfl, rfl⟩ := hx
  split at h
  ·rename_i ti ti2 hti hti2
   split at h
   ·rename_i hb
    simp only [Bool.and_eq_true] at hb
    obtain ⟨hb1, hb2⟩ := hb
    have isl : ∀ t : Ty, isSl t = true → t = .slice := fun t ht => by cases t <;> simp [isSl] at ht; rfl
    unfold hdrElem at hb1
    split at hb1
    ·rename_i te hts hte
     have e : teOf Γ.ty ti = te := by unfold teOf; rw [hte]
     rw [e] at h
     exact Outc.made (appendH_sound (rowB_ok (tabB_row hΓ.ty hti)) hts hte (isl _ hb1) (rowB_ok (tabB_row hΓ.ty hti2)) hΓ.ty (isl _ hb2) hm hx hx2 h hp)
    ·cases hb1
   ·split at h
    ·rename_i key r jk len hmore
     exact Outc.made (appendM_sound (rowB_ok (tabB_row hΓ.ty hti)) (rowB_ok (tabB_row hΓ.ty hti2)) hΓ.ty hm hx hx2 hmore h hp)
    ·split at h
     ·rename_i key est jk len hmore
      exact Outc.made (appendK_sound (rowB_ok (tabB_row hΓ.ty hti)) (rowB_ok (tabB_row hΓ.ty hti2)) hΓ.ty hm hx hx2 hmore h hp)
     ·split at h
      ·rename_i hb
       simp only [Bool.and_eq_true] at hb
       obtain ⟨hb1, hb2⟩ := hb
       have isl : ∀ t : Ty, isSl t = true → t = .slice := fun t ht => by cases t <;> simp [isSl] at ht; rfl
       unfold ptrElem at hb1
       split at hb1
       ·rename_i te hts hte
        have e : teOf Γ.ty ti = te := by unfold teOf; rw [hte]
        rw [e] at h
        have hpt : te.ty = .ptr := by
         split at hb1
         ·rename_i hh; exact hh
         ·cases hb1
        exact Outc.made (appendP_sound (rowB_ok (tabB_row hΓ.ty hti)) hts hte hpt (rowB_ok (tabB_row hΓ.ty hti2)) hΓ.ty (isl _ hb2) hm hx hx2 h hp)
       ·cases hb1
      ·exact Outc.made (append_sound (rowB_ok (tabB_row hΓ.ty hti)) (rowB_ok (tabB_row hΓ.ty hti2)) hΓ.ty hm hx hx2 h hp)
  ·simp [RP.run] at h
 ·rename_i t _ s x
  simp only [Ds] at hx
  obtain ⟨v, _, hx, rfl, v2, _, hx2, rfl, rfl⟩ := hx
  split at h
  ·rename_i ti hti
   exact Outc.made (copy_sound (rowB_ok (tabB_row hΓ.ty hti)) hΓ.ty hm hx hx2 h hp)
  ·simp [RP.run] at h
 ·rename_i t s
  simp only [Ds] at hx
  obtain ⟨v, _, hx, rfl, rfl⟩ := hx
  split at h
  ·rename_i ti hti
   exact Outc.made (clear_sound (rowB_ok (tabB_row hΓ.ty hti)) hΓ.ty hm hx h hp)
  ·simp [RP.run] at h
 ·simp [RP.run] at h

theorem est_any {ty : List (Nat × TInfo)} (hty : tabB P ty = true) {t : TInfo} {x : SV} (hest : estOk ty t x = true) (hsl : t.ty = .slice) : ∃ es, ∀ y, (sizeOf t.elem).run P y = .ok es y := by
 have main : ∀ te, assoc ty t.elem = some te → ∃ es, ∀ y, (sizeOf t.elem).run P y = .ok es y := fun te hte => by
  obtain ⟨ie, z, hi1, hi2, _⟩ := (rowB_ok (tabB_row hty hte)).info
  exact ⟨ie.size, fun y => by simp [sizeOf, typeInfo, hi1]⟩
 unfold estOk at hest
 rw [hsl] at hest
 split at hest
 ·split at hest
  ·rename_i te hte; exact main te hte
  ·cases hest
 ·split at hest
  ·rename_i te hte; exact main te hte
  ·cases hest
 ·split at hest
  ·rename_i te hte; exact main te hte
  ·cases hest
 ·simp_all

set_option maxHeartbeats 2000000 in
theorem sop_sound {Γ : Tab} (hΓ : TabOk P Γ) (hG : Glob Γ.gh w0 M) (hm : Mem w0 M ρ H w) {stamp : Nat} {o : Oper} {ev : Operand → SV} {ρe : Operand → Value} (he : ∀ x ∈ o.op.operands, D (dmOf H) ρ (ev x) (ρe x)) {d : Delta} {rs rs' : List Nat}
  (h : (sop Γ stamp o.op o.type ev).run H rs = some (d, rs')) (hp : AllP d.pre) : Outc P w0 M ρ H d w ((execOp ρe o).run P w) := by
 obtain ⟨dst, op, type, pos, after, guard⟩ := o
 simp only at h he
 have row : ∀ {T : TypeId} {t : TInfo}, assoc Γ.ty T = some t → RowOk P T t := fun ht => rowB_ok (tabB_row hΓ.ty ht)
 unfold sop at h
 split at h <;> simp only [execOp]
 ·rename_i x
  have hx := he x (by simp [Op.operands])
  have e := run_ret h; subst e
  exact Outc.move hm rfl hx
 ·rename_i x
  have hx := he x (by simp [Op.operands])
  obtain ⟨ρ', a1, a2, a3⟩ := assign_sound hm hx h
  exact .inl ⟨ρe x, w, .inl (by simp), ρ', a1, a2, a3⟩
 ·rename_i c a b
  have hc := he c (by simp [Op.operands])
  have ha := he a (by simp [Op.operands])
  have hb := he b (by simp [Op.operands])
  split at h
  ·rename_i v e1
   rw [e1] at hc
   simp only [D] at hc
   cases v with
   | true =>
    have e := run_ret h; subst e
    exact .inl ⟨ρe a, w, .inl (by simp [hc, asBool]), ρ, .refl _ _, ha, hm⟩
   | false =>
    have e := run_ret h; subst e
    exact .inl ⟨ρe b, w, .inl (by simp [hc, asBool]), ρ, .refl _ _, hb, hm⟩
  ·rename_i v _ x _ y e1 e2 e3
   rw [e1] at hc
   rw [e2] at ha
   rw [e3] at hb
   simp only [D] at hc ha hb
   have e := run_ret h; subst e
   refine .inl ⟨.bool (if v then x else y), w, .inl ?_, ρ, .refl _ _, rfl, hm⟩
   cases v <;> simp [hc, ha, hb, asBool]
  ·simp [RP.run] at h
 ·rename_i e
  split at h
  ·rename_i t ht
   obtain ⟨z, h1, h2⟩ := alloc_run (row ht) w
   exact Outc.made ⟨_, _, h1, box_sound hm (h2 _ _) h _⟩
  ·simp [RP.run] at h
 ·rename_i e x
  exact Outc.made ⟨_, _, box_run _ _ _, box_sound hm (he x (by simp [Op.operands])) h _⟩
 ·rename_i t parts
  split at h
  ·rename_i ti ht
   have hpd : PartsD (dmOf H) ρ (parts.toList.map fun (i, x) => (i, ev x)) (parts.map fun (i, x) => (i, ρe x)).toList := by
    rw [Array.toList_map]
    exact PartsD_of (H := H) (ρ := ρ) (ev := ev) (ρe := ρe) parts.toList (fun x hx => he x (by simpa [Op.operands] using hx))
   exact Outc.val hm (build_sound (row ht) hpd h)
  ·simp [RP.run] at h
 ·rename_i t n parts
  split at h
  ·rename_i ti ht
   have hpd : PartsD (dmOf H) ρ (parts.toList.map fun (i, x) => (i, ev x)) (parts.map fun (i, x) => (i, ρe x)).toList := by
    rw [Array.toList_map]
    exact PartsD_of (H := H) (ρ := ρ) (ev := ev) (ρe := ρe) parts.toList (fun x hx => he x (by simpa [Op.operands] using hx))
   exact Outc.made (buildSlice_sound (row ht) hΓ.ty hm hpd h)
  ·simp [RP.run] at h
 ·rename_i t a
  split at h
  ·rename_i ti ht
   exact Outc.made (boxLoad_sound (row ht) hm (he a (by simp [Op.operands])) h hp)
  ·simp [RP.run] at h
 ·rename_i t a x
  split at h
  ·rename_i ti ht
   split at h
   ·rename_i hty
    obtain ⟨h1, w', h2, h3⟩ := store_sound (row ht) hm (he a (by simp [Op.operands])) (he x (by simp [Op.operands])) hty h hp
    exact .inl ⟨undef, w', .inr ⟨by simp [h2], rfl⟩, ρ, .refl _ _, by rw [h1]; trivial, h3⟩
   ·simp [RP.run] at h
  ·simp [RP.run] at h
 ·rename_i x
  have hx := he x (by simp [Op.operands])
  split at h
  ·rename_i k c e1
   rw [e1] at hx
   have e := run_ret h; subst e
   have hx' := hx
   simp only [D] at hx
   rw [hx.2]
   exact Outc.move hm rfl (by rw [← hx.2]; exact hx')
  ·rename_i k r z e1
   rw [e1] at hx
   have e := run_ret h; subst e
   have hx' := hx
   simp only [D] at hx
   rw [hx.2.2.2]
   exact Outc.move hm rfl (by rw [← hx.2.2.2]; exact hx')
  ·simp [RP.run] at h
 ·rename_i op t x y yt
  exact Outc.val hm (binop_sound hΓ.ty (he x (by simp [Op.operands])) (he y (by simp [Op.operands])) h hp)
 ·rename_i op t x
  exact Outc.val hm (unop_sound (he x (by simp [Op.operands])) h hp)
 ·rename_i s t x
  split at h
  ·rename_i ti ti2 ht ht2
   split at h
   ·rename_i hb
    simp only [Bool.and_eq_true] at hb
    have e := Nat.eq_of_beq_eq_true hb.1
    subst e
    exact Outc.made (lit_sound (row ht) hΓ.ty hb.2 hm (he x (by simp [Op.operands])) h hp)
   exact Outc.made (convert_sound (row ht) (row ht2) hΓ.ty hm (he x (by simp [Op.operands])) h hp)
  ·simp [RP.run] at h
 ·rename_i t x
  split at h
  ·rename_i ti ht
   exact Outc.val hm (arrPtr_sound (row ht) hm (he x (by simp [Op.operands])) h hp)
  ·simp [RP.run] at h
 ·rename_i t n m
  split at h
  ·rename_i ti ht
   exact Outc.made (make_sound (row ht) hΓ.ty hm (he n (by simp [Op.operands])) (he m (by simp [Op.operands])) h hp)
  ·simp [RP.run] at h
 ·rename_i t x lo hi
  split at h
  ·rename_i ti ht
   split at h
   ·rename_i hest
    refine Outc.val hm (slice_sound (ty := Γ.ty) (row ht) hm (he x (by simp [Op.operands])) (OptD_of lo fun y hy => he y (by simp [Op.operands, hy])) (OptD_of hi fun y hy => he y (by simp [Op.operands, hy])) ?_ ?_ ?_ h hp)
    intro key c est off len hx ht2 y
    unfold estOk at hest
    rw [hx, ht2] at hest
    simp only at hest
    split at hest
    ·rename_i te hte
     have := Nat.eq_of_beq_eq_true hest
     obtain ⟨ie, z, hi1, hi2, _⟩ := (row hte).info
     simp [sizeOf, typeInfo, hi1, hi2, this]
    ·cases hest
    intro key sh d hx ht2 y
    unfold estOk at hest
    rw [hx, ht2] at hest
    simp only at hest
    split at hest
    ·rename_i te hte
     have := Nat.eq_of_beq_eq_true hest
     obtain ⟨ie, z, hi1, hi2, _⟩ := (row hte).info
     simp [sizeOf, typeInfo, hi1, hi2, this]
    ·cases hest
    exact fun hsl => est_any hΓ.ty hest hsl
   ·simp [RP.run] at h
  ·simp [RP.run] at h
 ·rename_i t x lo hi mx
  split at h
  ·rename_i ti ht
   split at h
   ·rename_i hest
    refine Outc.val hm (slice3_sound (row ht) (he x (by simp [Op.operands])) (OptD_of lo fun y hy => he y (by simp [Op.operands, hy])) (he hi (by simp [Op.operands])) (he mx (by simp [Op.operands])) ?_ ?_ h hp)
    intro key c est off len hx ht2 y
    unfold estOk at hest
    rw [hx, ht2] at hest
    simp only at hest
    split at hest
    ·rename_i te hte
     have := Nat.eq_of_beq_eq_true hest
     obtain ⟨ie, z, hi1, hi2, _⟩ := (row hte).info
     simp [sizeOf, typeInfo, hi1, hi2, this]
    ·cases hest
    exact fun hsl => est_any hΓ.ty hest hsl
   ·simp [RP.run] at h
  ·simp [RP.run] at h
 ·rename_i t x f
  split at h
  ·rename_i ti ht
   exact Outc.val hm (fieldAddr_sound (row ht) (he x (by simp [Op.operands])) h)
  ·simp [RP.run] at h
 ·rename_i t x f
  split at h
  ·rename_i ti ht
   exact Outc.val hm (field_sound (row ht) (he x (by simp [Op.operands])) h)
  ·simp [RP.run] at h
 ·rename_i t x i
  split at h
  ·rename_i ti ht
   exact Outc.val hm (indexAddr_sound (row ht) hΓ.ty (he x (by simp [Op.operands])) (he i (by simp [Op.operands])) h hp)
  ·simp [RP.run] at h
 ·rename_i t x i
  split at h
  ·rename_i ti ht
   exact Outc.val hm (index_sound (row ht) (he x (by simp [Op.operands])) (he i (by simp [Op.operands])) h hp)
  ·simp [RP.run] at h
 ·rename_i x n
  have hx := he x (by simp [Op.operands])
  split at h
  ·rename_i xs e1
   rw [e1] at hx
   split at h
   ·rename_i v hv
    have e := run_ret h; subst e
    exact Outc.val hm ⟨rfl, extract_sound (x := .any) hx hv⟩
   ·simp [RP.run] at h
  ·simp [RP.run] at h
 ·rename_i c
  split at h
  ·rename_i f hf
   have hargs := Ds_of (H := H) (ρ := ρ) (ev := ev) (ρe := ρe) c.args.toList (fun x hx => he x (by simp only [Op.operands, Call.operands, Array.mem_append]; exact .inr (by simpa using hx)))
   have hfv := he f (by simp [Op.operands, Call.operands, hf])
   split at h
   ·rename_i fn e1
    rw [e1] at hfv
    simp only [D] at hfv
    split at h
    ·rename_i g hg
     have hok := hΓ.ctr fn g hg _ _ _ _ _ _ _ _ _ _ _ hG h hp hargs hm
     have e2 : (#[] ++ c.args.map ρe ++ #[] : Array Value) = (c.args.toList.map ρe).toArray := by
      apply Array.ext'
      simp
     simp only [resolve, hf, hfv, Deferred.ofValue, invoke, Sem.run_bind, Sem.run_pure, Result.andThen_ok]
     rw [e2]
     exact hok
    ·simp [RP.run] at h
   ·simp [RP.run] at h
  ·rename_i b hb
   have hargs := Ds_of (H := H) (ρ := ρ) (ev := ev) (ρe := ρe) c.args.toList (fun x hx => he x (by simp only [Op.operands, Call.operands, Array.mem_append]; exact .inr (by simpa using hx)))
   have := builtin_sound hΓ hm hargs h hp type (c.args.map fun | .const _ => true | _ => false)
   have e1 : (c.args.toList.map ρe).toArray = c.args.map ρe := by
    apply Array.ext'
    simp
   have e2 : c.argTypes.toList.toArray = c.argTypes := rfl
   rw [e1, e2] at this
   unfold resolve
   simp only [hb]
   exact this
  ·simp [RP.run] at h
 ·simp [RP.run] at h

end
end Go.Gx
