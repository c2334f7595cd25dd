/- Literals, make, conversions. -/
import Derived.Test.YtihihilhfijloaaDoorOpsG
namespace Go.Gx
open Go.RowKit
set_option linter.unusedVariables false

section
variable {P : Program} {w0 : World} {M : Nat → Prop} {ρ : Nat → Pl} {H : Nat → Option SB} {w : World}

/-- The parts of a literal, as values. -/
def PartsD (dm : Nat → Prop) (ρ : Nat → Pl) : List (Nat × SV) → List (Nat × Value) → Prop
  | [], vs => vs = []
  | (i, x) :: r, vs => ∃ u c, vs = (i, u) :: c ∧ D dm ρ x u ∧ PartsD dm ρ r c

theorem toArray_toList {α : Type} (a : Array α) : a.toList.toArray = a := rfl

theorem fillI_sound {dm : Nat → Prop} {k : IntKind} {n : Nat} (place : Nat → Option (Nat × Nat)) (hpl : ∀ i, place i = some (i * 1, 1)) : ∀ (parts : List (Nat × SV)) (vs : List (Nat × Value)) (l l' : List Int), PartsD dm ρ parts vs → fillI k parts l = some l' → l.length = n → AllR k l →
    Instr.fill place (l.map (Value.int k)).toArray vs = some (l'.map (Value.int k)).toArray ∧ l'.length = n ∧ AllR k l'
  | [], vs, l, l', hd, h, hl, hr => by
    simp only [fillI, Option.some.injEq] at h; subst h
    rw [show vs = [] from hd]
    exact ⟨rfl, hl, hr⟩
  | (i, x) :: r, vs, l, l', hd, h, hl, hr => by
    obtain ⟨u, c, rfl, h1, h2⟩ := hd
    cases x <;> simp only [fillI, reduceCtorEq] at h
    rename_i k' a
    split at h
    · rename_i l1 hk hs
      have hkk := keq_eq hk; subst hkk
      obtain ⟨e1, e2⟩ := setn_some hs
      simp only [D] at h1
      obtain ⟨rfl, ha⟩ := h1
      have hl1 : l1.length = n := by rw [e1, List.length_set]; exact hl
      have ih := fillI_sound (n := n) place hpl r c l1 l' h2 h hl1 (by rw [e1]; exact hr.set ha)
      refine ⟨?_, ih.2⟩
      rw [← ih.1]
      have hsz : (Value.int k a.z).cells.size = 1 := rfl
      simp only [Instr.fill, hpl]
      rw [if_neg (by simp [Value.cells]; omega)]
      congr 1
      simp only [Value.cells]
      rw [e1]
      apply Array.ext'
      simp [List.map_set]
    · cases h

theorem fields_places {fs : List Ty} : ∀ {fl : List Field} {off : Nat}, fieldsB P fs off fl = true → ∃ places, fl.mapM (fun f => (P.info? f.type).map fun i => (f.offset, i.size)) = some places ∧
    ∀ i t, nth fs i = some t → places[i]? = some (off + fieldOff fs i, t.size) := by
  induction fs with
  | nil =>
    intro fl off h
    cases fl with
    | nil => exact ⟨[], by simp, fun i t h => by simp [nth] at h⟩
    | cons g gr => simp [fieldsB] at h
  | cons t r ih =>
    intro fl off h
    cases fl with
    | nil => simp [fieldsB] at h
    | cons g gr =>
      simp only [fieldsB, Bool.and_eq_true] at h
      obtain ⟨⟨⟨h1, h2⟩, h3⟩, h4⟩ := h
      obtain ⟨pl, p1, p2⟩ := ih h4
      split at h2
      · rename_i i hi
        simp only [Bool.and_eq_true] at h2
        have e1 := Nat.eq_of_beq_eq_true h1
        have e2 := Nat.eq_of_beq_eq_true h2.1
        refine ⟨(off, t.size) :: pl, by simp [hi, p1, e1, e2], fun j u hj => ?_⟩
        cases j with
        | zero => simp only [nth, Option.some.injEq] at hj; subst hj; simp [fieldOff]
        | succ j =>
          simp only [nth] at hj
          have := p2 j u hj
          simp only [List.getElem?_cons_succ, this, fieldOff]
          congr 2; omega
      · cases h2

theorem Cs_set {dm : Nat → Prop} : ∀ (fs : List Ty) (xs xs' : List SV) (cs : List Value) (i : Nat) (t : Ty) (x : SV) (u : Value), Cs dm ρ xs cs → ofTys fs xs = true → nth fs i = some t → setn xs i x = some xs' → ofTy t x = true → D dm ρ x u →
    Cs dm ρ xs' (over cs (fieldOff fs i) u.cells.toList) ∧ fieldOff fs i + t.size ≤ cs.length ∧ ofTys fs xs' = true
  | fs, [], xs', cs, i, t, x, u, hc, ho, hn, hs, ht, hd => by simp [setn] at hs
  | [], y :: ys, xs', cs, i, t, x, u, hc, ho, hn, hs, ht, hd => by simp [nth] at hn
  | t0 :: fs, y :: ys, xs', cs, 0, t, x, u, hc, ho, hn, hs, ht, hd => by
    simp only [nth, Option.some.injEq] at hn; subst hn
    simp only [setn, Option.some.injEq] at hs; subst hs
    simp only [Cs] at hc
    obtain ⟨v, c, c1, rfl, c3⟩ := hc
    simp only [ofTys, Bool.and_eq_true] at ho
    have e1 := ofTy_size t0 y v ho.1 c1
    have e2 := ofTy_size t0 x u ht hd
    refine ⟨⟨u, c, hd, ?_, c3⟩, by simp [fieldOff, e1], by simp [ofTys, ht, ho.2]⟩
    unfold over
    simp only [fieldOff, List.take_zero, List.nil_append, Nat.zero_add]
    congr 1
    rw [show u.cells.toList.length = v.cells.toList.length by simp [e1, e2], List.drop_left]
  | t0 :: fs, y :: ys, xs', cs, i + 1, t, x, u, hc, ho, hn, hs, ht, hd => by
    simp only [nth] at hn
    simp only [setn] at hs
    split at hs
    · rename_i r' hr
      simp only [Option.some.injEq] at hs; subst hs
      simp only [Cs] at hc
      obtain ⟨v, c, c1, rfl, c3⟩ := hc
      simp only [ofTys, Bool.and_eq_true] at ho
      have e1 := ofTy_size t0 y v ho.1 c1
      have e2 := ofTy_size t x u ht hd
      obtain ⟨q1, q2, q3⟩ := Cs_set fs ys r' c i t x u c3 ho.2 hn hr ht hd
      refine ⟨⟨v, over c (fieldOff fs i) u.cells.toList, c1, ?_, q1⟩, by simp [fieldOff, e1]; omega, by simp [ofTys, ho.1, q3]⟩
      have := over_mid v.cells.toList c [] u.cells.toList (fieldOff fs i) (by simp [e2]; omega)
      simp only [List.append_nil] at this
      rw [← this]
      congr 1
      simp [fieldOff, e1]
    · cases hs

theorem fold_over (off : Nat) (l : List Value) (cs : Array Value) (h : off + l.length ≤ cs.size) : ((l.zipIdx).foldl (fun cs (x : Value × Nat) => cs.setIfInBounds (off + x.2) x.1) cs) = (over cs.toList off l).toArray := by
  obtain ⟨h1, h2⟩ := Go.Great.foldl_set off l 0 cs
  have hlen : (over cs.toList off l).length = cs.size := by rw [over_length (by simpa using h)]; simp
  apply Array.ext_getElem?
  intro k
  rw [h2 k]
  simp only [Nat.add_zero, List.getElem?_toArray]
  unfold over
  by_cases c1 : k < off
  · rw [if_neg (by omega), List.append_assoc, List.getElem?_append_left (by simp; omega), List.getElem?_take, if_pos c1]; simp
  · by_cases c2 : k < off + l.length
    · rw [if_pos ⟨by omega, c2, by omega⟩, List.append_assoc, List.getElem?_append_right (by simp; omega)]
      have hmin : (cs.toList.take off).length = off := by simp; omega
      rw [hmin, List.getElem?_append_left (by omega)]
    · rw [if_neg (by omega), List.append_assoc, List.getElem?_append_right (by simp; omega)]
      have hmin : (cs.toList.take off).length = off := by simp; omega
      rw [hmin, List.getElem?_append_right (by omega), List.getElem?_drop]
      rw [show off + l.length + (k - off - l.length) = k by omega]; simp

theorem fillS_sound {dm : Nat → Prop} {fs : List Ty} (place : Nat → Option (Nat × Nat)) (hpl : ∀ i t, nth fs i = some t → place i = some (fieldOff fs i, t.size)) : ∀ (parts : List (Nat × SV)) (vs : List (Nat × Value)) (xs xs' : List SV) (cs : List Value),
    PartsD dm ρ parts vs → fillS fs parts xs = some xs' → Cs dm ρ xs cs → ofTys fs xs = true → ∃ cs', Instr.fill place cs.toArray vs = some cs'.toArray ∧ Cs dm ρ xs' cs'
  | [], vs, xs, xs', cs, hd, h, hc, ho => by
    simp only [fillS, Option.some.injEq] at h; subst h
    rw [show vs = [] from hd]
    exact ⟨cs, rfl, hc⟩
  | (i, x) :: r, vs, xs, xs', cs, hd, h, hc, ho => by
    obtain ⟨u, c, rfl, h1, h2⟩ := hd
    simp only [fillS] at h
    split at h
    · rename_i t l1 ht hs
      split at h
      · rename_i hty
        obtain ⟨q1, q2, q3⟩ := Cs_set fs xs l1 cs i t x u hc ho ht hs hty h1
        have e := ofTy_size t x u hty h1
        obtain ⟨cs', a1, a2⟩ := fillS_sound place hpl r c l1 xs' _ h2 h q1 q3
        refine ⟨cs', ?_, a2⟩
        simp only [Instr.fill, hpl i t ht]
        rw [if_neg (by simp [e]; omega)]
        rw [← a1]
        congr 1
        have hfo := fold_over (fieldOff fs i) u.cells.toList cs.toArray (by simp [e]; omega)
        rw [← hfo, ← Array.foldl_toList]
        simp
      · cases h
    · cases h

theorem build_sound {T : TypeId} {ti : TInfo} (hT : RowOk P T ti) {parts : List (Nat × SV)} {vs : Array (Nat × Value)} (hd : PartsD (dmOf H) ρ parts vs.toList) {d : Delta} {rs rs' : List Nat}
    (h : (buildOp ti parts).run H rs = some (d, rs')) : d.ws = [] ∧ ∃ v, (Instr.build T vs).run P w = .ok v w ∧ D (dmOf H) ρ d.v v := by
  have hty' := hT.ty
  obtain ⟨i, z, hi1, hi2, hi3, hi4, hi5⟩ := hT.info
  have hz := zeroB_D (dm := dmOf H) (ρ := ρ) hi5
  unfold buildOp at h
  split at h
  · rename_i n k ht
    rw [ht] at hty' hz
    split at h
    · rename_i hbn
      split at h
      · rename_i l hl
        have e := run_ret h; subst e
        unfold tyB at hty'
        split at hty'
        · rename_i n' T' hu
          simp only [Bool.and_eq_true] at hty'
          obtain ⟨⟨e1, e2⟩, e3⟩ := hty'
          split at e2
          · rename_i ii hii
            have hs : ii.size = 1 := Nat.eq_of_beq_eq_true e2
            have hzc : z.cells = ((List.replicate n (0 : Int)).map (Value.int k)).toArray := by
              simp only [zero] at hz
              split at hz
              · rw [reps_eq] at hz
                simp only [D] at hz; rw [hz.2.2]; rfl
              · simp only [D] at hz; rw [hz.2.2]; rfl
            rw [reps_eq] at hl
            have hf := fillI_sound (ρ := ρ) (n := n) (fun i => some (i * 1, 1)) (fun _ => rfl) parts vs.toList _ l hd hl (by simp) (allR_rep k n)
            refine ⟨rfl, .agg (l.map (Value.int k)).toArray, ?_, hf.2.1, hf.2.2, rfl⟩
            have hfi := hf.1
            simp [Instr.build, zeroValue, typeInfo, hi1, hi4, run_underlying hu, sizeOf, hii, hs, hzc]
            simp only [List.map_replicate, Nat.mul_one, List.toArray_replicate] at hfi
            rw [hfi]
            simp
          · cases e2
        · cases hty'
      · simp [RP.run] at h
    · simp [RP.run] at h
  · rename_i fs ht
    rw [ht] at hty' hz
    split at h
    · rename_i l hl ho
      have e := run_ret h; subst e
      unfold tyB at hty'
      split at hty'
      · rename_i fl hu
        obtain ⟨places, p1, p2⟩ := fields_places hty'
        simp only [zero, D] at hz
        obtain ⟨cs, c1, rfl⟩ := hz
        obtain ⟨cs', f1, f2⟩ := fillS_sound (ρ := ρ) (places.toArray[·]?) (fun i t hi => by simpa using p2 i t hi) parts vs.toList _ l cs hd hl c1 ho
        refine ⟨rfl, .agg cs'.toArray, run_build w T vs cs'.toArray ?_, cs', f2, rfl⟩
        unfold Program.built
        simp only [hi1, hu, hi4, p1]
        exact f1
      · cases hty'
    · simp [RP.run] at h
  · simp [RP.run] at h

/-! ### A slice that is written out -/

theorem partsI_sound {dm : Nat → Prop} {k : IntKind} : ∀ (parts : List (Nat × SV)) (vs : List (Nat × Value)) (i : Nat) (l : List Int), PartsD dm ρ parts vs → partsI k i parts = some l →
    vs = ((l.map (Value.int k)).zipIdx i).map (fun x => (x.2, x.1)) ∧ AllR k l ∧ l.length = parts.length
  | [], vs, i, l, hd, h => by
    simp only [partsI, Option.some.injEq] at h; subst h
    rw [show vs = [] from hd]; exact ⟨rfl, (fun z hz => by cases hz), rfl⟩
  | (j, x) :: r, vs, i, l, hd, h => by
    obtain ⟨u, c, rfl, h1, h2⟩ := hd
    cases x <;> simp only [partsI, reduceCtorEq] at h
    rename_i k' a
    split at h
    · rename_i l1 hb hr
      simp only [Bool.and_eq_true] at hb
      have e1 := Nat.eq_of_beq_eq_true hb.1
      have e2 := keq_eq hb.2
      subst e1 e2
      simp only [Option.some.injEq] at h; subst h
      simp only [D] at h1
      obtain ⟨rfl, ha⟩ := h1
      obtain ⟨q1, q2, q3⟩ := partsI_sound r c (i + 1) l1 h2 hr
      refine ⟨by rw [q1]; simp, fun z hz => ?_, by simp [q3]⟩
      rcases List.mem_cons.1 hz with rfl | hz
      · exact ha
      · exact q2 z hz
    · cases h

theorem partsA_sound {dm : Nat → Prop} {k : IntKind} {n : Nat} : ∀ (parts : List (Nat × SV)) (vs : List (Nat × Value)) (i : Nat) (l : List (List Int)), PartsD dm ρ parts vs → partsA k n i parts = some l →
    ∃ us : List Value, vs = (us.zipIdx i).map (fun x => (x.2, x.1)) ∧ AllA k n l ∧ us = l.map (fun y => Value.agg (y.map (Value.int k)).toArray) ∧ l.length = parts.length
  | [], vs, i, l, hd, h => by
    simp only [partsA, Option.some.injEq] at h; subst h
    rw [show vs = [] from hd]; exact ⟨[], rfl, (fun z hz => by cases hz), rfl, rfl⟩
  | (j, x) :: r, vs, i, l, hd, h => by
    obtain ⟨u, c, rfl, h1, h2⟩ := hd
    cases x <;> simp only [partsA, reduceCtorEq] at h
    rename_i k' m ex y
    split at h
    · rename_i l1 hb hr
      simp only [Bool.and_eq_true] at hb
      have e1 := Nat.eq_of_beq_eq_true hb.1.1
      have e2 := keq_eq hb.1.2
      have e3 := Nat.eq_of_beq_eq_true hb.2
      subst e1 e2 e3
      simp only [Option.some.injEq] at h; subst h
      simp only [D] at h1
      obtain ⟨a1, a2, rfl⟩ := h1
      obtain ⟨us, q1, q2, q3, q4⟩ := partsA_sound r c (i + 1) l1 h2 hr
      refine ⟨.agg (y.map (Value.int k)).toArray :: us, by rw [q1]; simp, fun z hz => ?_, by rw [q3]; simp, by simp [q4]⟩
      rcases List.mem_cons.1 hz with rfl | hz
      · exact ⟨a1, a2⟩
      · exact q2 z hz
    · cases h

theorem fits_single {t : Ty} {x : SV} (h : fits t x = true) : single x = true := by
  cases t <;> cases x <;> simp [fits] at h <;> rfl

theorem partsS_sound {dm : Nat → Prop} {t : Ty} : ∀ (parts : List (Nat × SV)) (vs : List (Nat × Value)) (i : Nat) (l : List Seg), PartsD dm ρ parts vs → partsS t i parts = some l →
    ∃ us : List Value, vs = (us.zipIdx i).map (fun x => (x.2, x.1)) ∧ SegsD dm ρ l us ∧ (∀ u ∈ us, u.cells = #[u]) ∧ us.length = parts.length
  | [], vs, i, l, hd, h => by
    simp only [partsS, Option.some.injEq] at h; subst h
    rw [show vs = [] from hd]; exact ⟨[], rfl, rfl, (fun z hz => by cases hz), rfl⟩
  | (j, x) :: r, vs, i, l, hd, h => by
    obtain ⟨u, c, rfl, h1, h2⟩ := hd
    simp only [partsS] at h
    split at h
    · rename_i l1 hb hr
      simp only [Bool.and_eq_true] at hb
      have e1 := Nat.eq_of_beq_eq_true hb.1
      subst e1
      simp only [Option.some.injEq] at h; subst h
      obtain ⟨us, q1, q2, q3, q4⟩ := partsS_sound r c (i + 1) l1 h2 hr
      have hs := fits_single hb.2
      refine ⟨u :: us, by rw [q1]; simp, ⟨[u], us, ⟨hs, u, h1, rfl⟩, rfl, q2⟩, fun z hz => ?_, by simp [q4]⟩
      rcases List.mem_cons.1 hz with rfl | hz
      · exact (single_cell hs h1).2
      · exact q3 z hz
    · cases h

theorem PartsD.length {dm : Nat → Prop} : ∀ {parts : List (Nat × SV)} {vs : List (Nat × Value)}, PartsD dm ρ parts vs → vs.length = parts.length
  | [], vs, h => by rw [show vs = [] from h]; rfl
  | (j, x) :: r, vs, h => by obtain ⟨u, c, rfl, _, h2⟩ := h; simp [PartsD.length h2]

theorem buildSlice_zero {T e : TypeId} {ie : TypeInfo} (hu : P.underlying T = some (.slice e)) (hie : P.info? e = some ie) (w : World) :
    (Instr.buildSlice T 0 #[]).run P w = .ok (.slice (some ⟨w.heap.size, 0, none⟩) 0 0) (w.alloc (.cells #[] e)) := by
  have : (Array.range 0 : Array Nat) = #[] := rfl
  simp [Instr.buildSlice, run_underlying hu, sizeOf, typeInfo, hie, newRow, Instr.fill, this]

theorem buildSlice_sound {T : TypeId} {ti : TInfo} {ty : List (Nat × TInfo)} (hT : RowOk P T ti) (hty : tabB P ty = true) (hm : Mem w0 M ρ H w) {stamp n : Nat} {parts : List (Nat × SV)} {vs : Array (Nat × Value)} (hd : PartsD (dmOf H) ρ parts vs.toList)
    {d : Delta} {rs rs' : List Nat} (h : (buildSliceOp ty stamp ti n parts).run H rs = some (d, rs')) :
    ∃ v w', (Instr.buildSlice T n vs).run P w = .ok v w' ∧ After w0 M ρ H d v w' := by
  unfold buildSliceOp at h
  split at h
  · rename_i te ht hte hb
    simp only [Bool.and_eq_true] at hb
    have hlen := Nat.eq_of_beq_eq_true hb.1
    have hsm := Nat.le_of_ble_eq_true hb.2
    have hTe := rowB_ok (tabB_row hty hte)
    obtain ⟨ie, z, hi1, hi2, hi3, hi4, hi5⟩ := hTe.info
    have hu : P.underlying T = some (.slice ti.elem) := by
      have hty' := hT.ty
      rw [ht] at hty'
      unfold tyB at hty'
      split at hty'
      · rename_i e hu; rw [hu, hT.slice e hu]
      · cases hty'
    have hvl := hd.length
    have finish : ∀ (l : List Seg) (cells : List Value) (es : Nat), es = ie.size → SegsD (dmOf H) ρ l cells → 0 < es → es ≤ 1000 → cells.length = n * es →
        (Instr.fill (fun i => some (i * es, es)) ((Array.range (n * es)).map (z.cells[· % z.cells.size]!)) vs.toList = some cells.toArray) →
        (fresh stamp l (.sl stamp 0 es ⟨true, 0⟩ ⟨true, n⟩) [] false).run H rs = some (d, rs') →
        ∃ v w', (Instr.buildSlice T n vs).run P w = .ok v w' ∧ After w0 M ρ H d v w' := fun l cells es he hl hes hes2 hcl hf hfr => by
      subst he
      obtain ⟨hn, rfl⟩ := fresh_run hfr
      have hle : n * ie.size ≤ 1000 * 1000 := Nat.mul_le_mul hsm hes2
      have hrun : (Instr.buildSlice T n vs).run P w = .ok (.slice (some ⟨w.heap.size, 0, none⟩) n n) (w.alloc (.cells cells.toArray ti.elem)) := by
        rcases Nat.eq_zero_or_pos n with rfl | hnpos
        · have hv0 : vs = #[] := by
            have : vs.toList = [] := List.eq_nil_of_length_eq_zero (by omega)
            cases vs; simp_all
          have hc0 : cells = [] := List.eq_nil_of_length_eq_zero (by omega)
          rw [hv0, hc0]; exact buildSlice_zero hu hi1 w
        · have hpos : 0 < n * ie.size := Nat.mul_pos hnpos hes
          exact run_buildSlice (P := P) w T ti.elem n vs cells.toArray ie z hu hi1 hi4 (by omega) (by omega) hf
      refine ⟨_, _, hrun, After.alloc hm hn hl (extra := []) (by simp) (fun j hj => by omega) rfl ?_⟩
      refine ⟨dm_new _ _ _, by simp, by simp, by simp only [InR]; omega, _, n, rfl, by simp, .inl ⟨?_, ?_⟩⟩
      · rw [updP_same]; simp [at_]
      · rw [updP_same]; simp [hcl, Nat.mul_comm]
    split at h
    · rename_i k hk
      split at h
      · rename_i l hl
        obtain ⟨q1, q2, q3⟩ := partsI_sound parts vs.toList 0 l hd hl
        have hie : ie.size = 1 := by rw [hi2, hk]; rfl
        refine finish [.rowI k l] (l.map (Value.int k)) 1 hie.symm ⟨l.map (Value.int k), [], ⟨q2, rfl⟩, by simp, rfl⟩ (by omega) (by omega) (by simp; omega) ?_ h
        rw [q1]
        exact Go.Great.fill_flat (l.map (Value.int k)) _ (fun v hv => by simp at hv; obtain ⟨a, _, rfl⟩ := hv; rfl) (by simp; omega)
      · simp [RP.run] at h
    · rename_i m k hk
      split at h
      · rename_i l hl hmm
        obtain ⟨us, q1, q2, q3, q4⟩ := partsA_sound parts vs.toList 0 l hd hl
        have hie : ie.size = m := by rw [hi2, hk]; simp [Ty.size]
        simp only [Bool.and_eq_true] at hmm
        have hm1 : 0 < m := by have := hmm.1; simp [Nat.blt] at this; omega
        have hm2 := Nat.le_of_ble_eq_true hmm.2
        have hcells : (us.flatMap fun v => v.cells.toList) = l.flatten.map (Value.int k) := by
          rw [q3]
          clear q1 q2 q3 q4 hl h hd
          induction l with
          | nil => rfl
          | cons y r ih => simp only [List.map_cons, List.flatMap_cons, List.flatten_cons, List.map_append, ih]; rfl
        refine finish [.rowA k m l] (l.flatten.map (Value.int k)) m hie.symm ⟨l.flatten.map (Value.int k), [], ⟨q2, rfl⟩, by simp, rfl⟩ hm1 hm2 (by rw [List.length_map, flatten_len q2, q4, hlen, Nat.mul_comm]) ?_ h
        rw [q1, ← hcells]
        exact Go.Great.fill_whole hm1 us _ (fun v hv => by rw [q3] at hv; simp only [List.mem_map] at hv; obtain ⟨y, hy, rfl⟩ := hv; simp [Value.cells, (q2 y hy).1]) (by rw [q3]; simp [q4, hlen])
      · simp [RP.run] at h
    · split at h
      · rename_i l hl hs1
        obtain ⟨us, q1, q2, q3, q4⟩ := partsS_sound parts vs.toList 0 l hd hl
        have hie : ie.size = 1 := by rw [hi2]; exact Nat.eq_of_beq_eq_true hs1
        refine finish l us 1 hie.symm q2 (by omega) (by omega) (by omega) ?_ h
        rw [q1]
        exact Go.Great.fill_flat us _ q3 (by simp; omega)
      · simp [RP.run] at h
  · simp [RP.run] at h

/-! ### make -/

theorem madeCells_zero {dm : Nat → Prop} {t : Ty} {z : Value} (h : zeroB t z = true) (hr : isRow t = false) (n : Nat) : ∃ u, z.cells = #[u] ∧ (madeCells z.cells n).toList = List.replicate n u := by
  obtain ⟨u, hu⟩ : ∃ u, z.cells = #[u] := by
    unfold zeroB at h
    split at h
    · simp [hr] at h
    · cases z <;> first | exact ⟨_, rfl⟩ | (rename_i hne; exact absurd rfl (hne _))
  refine ⟨u, hu, ?_⟩
  rw [hu]
  unfold madeCells
  apply List.ext_getElem
  · simp
  · intro i h1 h2
    simp [Nat.mod_one]

theorem make_sound {T : TypeId} {ti : TInfo} {ty : List (Nat × TInfo)} (hT : RowOk P T ti) (hty : tabB P ty = true) (hm : Mem w0 M ρ H w) {stamp : Nat} {n m : SV} {vn vm : Value} (hn : D (dmOf H) ρ n vn) (hmm : D (dmOf H) ρ m vm)
    {d : Delta} {rs rs' : List Nat} (h : (makeOp ty stamp ti n m).run H rs = some (d, rs')) (hp : AllP d.pre) :
    ∃ v w', (Instr.makeSlice T vn vm).run P w = .ok v w' ∧ After w0 M ρ H d v w' := by
  unfold makeOp at h
  split at h
  · rename_i te a c ht hte
    simp only [D] at hn hmm
    obtain ⟨rfl, ha⟩ := hn
    obtain ⟨rfl, hc⟩ := hmm
    have hTe := rowB_ok (tabB_row hty hte)
    obtain ⟨ie, z, hi1, hi2, hi3, hi4, hi5⟩ := hTe.info
    have hu : P.underlying T = some (.slice ti.elem) := by
      have hty' := hT.ty
      rw [ht] at hty'
      unfold tyB at hty'
      split at hty'
      · rename_i e hu; rw [hu, hT.slice e hu]
      · cases hty'
    have finish : ∀ (l : List Seg) (es : Nat) (zs extra : List Value), es = ie.size → SegsD (dmOf H) ρ l zs → (madeCells z.cells (c.z.toNat * es)).toList = zs ++ extra → 
        (fresh stamp l (.sl stamp 0 es ⟨true, 0⟩ a) [0 ≤ a.z ∧ a.z ≤ c.z ∧ c.z * te.bytes ≤ 70368744177664] true).run H rs = some (d, rs') →
        ∃ v w', (Instr.makeSlice T (.int .i64 a.z) (.int .i64 c.z)).run P w = .ok v w' ∧ After w0 M ρ H d v w' := fun l es zs extra he hl hc' hfr => by
      subst he
      obtain ⟨hn, rfl⟩ := fresh_run hfr
      obtain ⟨p1, p2, p3⟩ := hp.1
      have hrun := run_make (P := P) w T ti.elem ie z hu hi1 hi4 .i64 .i64 a.z c.z p1 p2 (by rw [hi3, Int.mul_comm]; omega) (by simp only [InR] at hc; omega)
      refine ⟨_, _, hrun, After.alloc hm hn hl hc' (fun j hj => by omega) rfl ?_⟩
      refine ⟨dm_new _ _ _, by simp, p1, ha, _, c.z.toNat, rfl, by omega, .inl ⟨?_, ?_⟩⟩
      · rw [updP_same]; simp [at_]
      · rw [updP_same]; simp [size_madeCells, Nat.mul_comm]
    split at h
    · rename_i k hk
      have hie : ie.size = 1 := by rw [hi2, hk]; rfl
      rw [hk] at hi5
      obtain ⟨u, hu1, hu2⟩ := madeCells_zero (dm := dmOf H) hi5 rfl (c.z.toNat * 1)
      have hu3 : u = .int k 0 := by
        have := zeroB_D (dm := dmOf H) (ρ := ρ) hi5
        simp only [zero, D] at this
        rw [this.1] at hu1
        simp [Value.cells] at hu1
        exact hu1.symm
      have hle : a.z.toNat ≤ c.z.toNat := by
        obtain ⟨_, rfl⟩ := fresh_run h
        obtain ⟨p1, p2, p3⟩ := hp.1
        omega
      refine finish [.rowI k (List.replicate a.z.toNat 0)] 1 ((List.replicate a.z.toNat (0 : Int)).map (Value.int k)) (List.replicate (c.z.toNat - a.z.toNat) (.int k 0)) hie.symm ⟨_, [], ⟨allR_rep _ _, rfl⟩, by simp, rfl⟩ ?_ h
      rw [hu2, hu3]
      simp only [List.map_replicate, Nat.mul_one, List.replicate_append_replicate]
      congr 1; omega
    · rename_i n' k hk
      have hie : ie.size = n' := by rw [hi2, hk]; simp [Ty.size]
      rw [hk] at hi5
      have hz : z.cells = ((List.replicate n' (0 : Int)).map (Value.int k)).toArray := by
        have := zeroB_D (dm := dmOf H) (ρ := ρ) hi5
        simp only [zero] at this
        split at this
        · rw [reps_eq] at this; simp only [D] at this; rw [this.2.2]; rfl
        · simp only [D] at this; rw [this.2.2]; rfl
      have hle : a.z.toNat ≤ c.z.toNat := by
        obtain ⟨_, rfl⟩ := fresh_run h
        obtain ⟨p1, p2, p3⟩ := hp.1
        omega
      have hall : AllA k n' (List.replicate a.z.toNat (List.replicate n' 0)) := fun y hy => by
        rw [List.eq_of_mem_replicate hy]; exact ⟨by simp, allR_rep _ _⟩
      have hflat : ∀ q : Nat, (List.replicate q (List.replicate n' (0 : Int))).flatten = List.replicate (q * n') 0 := fun q => by
        simp [List.flatten_replicate_replicate]
      refine finish [.rowA k n' (List.replicate a.z.toNat (List.replicate n' 0))] n' ((List.replicate a.z.toNat (List.replicate n' (0 : Int))).flatten.map (Value.int k)) (List.replicate ((c.z.toNat - a.z.toNat) * n') (.int k 0)) hie.symm ⟨_, [], ⟨hall, rfl⟩, by simp, rfl⟩ ?_ h
      rw [hflat, List.map_replicate, List.replicate_append_replicate, ← Nat.add_mul, show a.z.toNat + (c.z.toNat - a.z.toNat) = c.z.toNat by omega]
      rw [hz]
      unfold madeCells
      apply List.ext_getElem
      · simp
      · intro i h1 h2
        simp at h1
        have hn' : 0 < n' := by
          rcases Nat.eq_zero_or_pos n' with rfl | h
          · simp at h1
          · exact h
        have : i % n' < n' := Nat.mod_lt _ hn'
        simp [this]
    · simp [RP.run] at h
  · simp [RP.run] at h

/-! ### Numbers turned -/

theorem convInt_sound {Ts Td : TypeId} {k k' : IntKind} {ks : IntKind} {a : Int} (hs : P.underlying Ts = some (.int ks)) (hd : P.underlying Td = some (.int k)) : (convert Ts Td (.int k' a)).run P w = .ok (.int k (k.wrap a)) w := by
  simp [convert, run_underlying hs, run_underlying hd, Conv.intToInt]

theorem wrap_of_InR {k : IntKind} {z : Int} (h : InR k z) : k.wrap z = z := by
  cases k <;> simp [InR] at h <;> simp [IntKind.wrap, IntKind.signed, IntKind.bits] <;> (try split) <;> omega

end
end Go.Gx
