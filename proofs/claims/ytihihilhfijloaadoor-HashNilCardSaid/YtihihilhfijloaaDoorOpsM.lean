/- Every operation of the evaluator against the model's. -/
import Derived.Test.YtihihilhfijloaaDoorOpsL
namespace Go.Gx
open Go.RowKit
set_option linter.unusedVariables false

/-- A function with a body of its own. -/
def GoFn (P : Program) (f : FuncId) : Prop := ∃ fn, P.funcs[f]? = some fn ∧ (fn.name == "runtime.NumGoroutine") = false ∧ fn.body.isNone = false

theorem GoFn.run {P : Program} {f : FuncId} (h : GoFn P f) (args : Array Value) (w : World) : (callFunc f args).run P w = .ok (.enter f args) w := by
  obtain ⟨fn, h1, h2, h3⟩ := h
  simp only [callFunc, Sem.run_bind, run_program, Result.andThen_ok, h1, h2, h3, Bool.false_eq_true, if_false, Sem.run_pure]

/-- The globals that never turn: where they lie, what they hold. -/
def Glob (gh : Heap) (w0 : World) (M : Nat → Prop) : Prop :=
  ∀ g b, (g, b) ∈ gh → ∃ l vs, b = .segs true l ∧ SegsD (fun _ => False) (fun _ => ({ blk := 0, off := 0, cap := 0 } : Pl)) l vs ∧ w0.rangeAt g 0 vs ∧ ¬ M g ∧ g < w0.heap.size

/-- What a contract promises. -/
def CallOk (P : Program) (gh : Heap) (f : FuncId) (c : Ctr) : Prop :=
  ∀ (stamp : Nat) (args : List SV) (H : Nat → Option SB) (rs rs' : List Nat) (d : Delta) (vs : List Value) (w0 : World) (M : Nat → Prop) (ρ : Nat → Pl) (w : World),
    Glob gh w0 M → (c stamp args).run H rs = some (d, rs') → AllP d.pre → Ds (dmOf H) ρ args vs → Mem w0 M ρ H w → Outc P w0 M ρ H d w ((callFunc f vs.toArray).run P w)

structure TabOk (P : Program) (Γ : Tab) : Prop where
  mix : P.follows .mixedOrders = true
  ty : tabB P Γ.ty = true
  ctr : ∀ f c, assoc Γ.ctr f = some c → CallOk P Γ.gh f c

section
variable {P : Program} {w0 : World} {M : Nat → Prop} {ρ : Nat → Pl} {H : Nat → Option SB} {w : World}

theorem Outc.val (hm : Mem w0 M ρ H w) {d : Delta} {s : Sem Value} (h : d.ws = [] ∧ ∃ v, s.run P w = .ok v w ∧ D (dmOf H) ρ d.v v) : Outc P w0 M ρ H d w ((do pure (.value (← s)) : Sem Next).run P w) := by
  obtain ⟨h1, v, h2, h3⟩ := h
  exact Outc.same hm h1 h2 h3

theorem Outc.made {d : Delta} {s : Sem Value} (h : ∃ v w', s.run P w = .ok v w' ∧ After w0 M ρ H d v w') : Outc P w0 M ρ H d w ((do pure (.value (← s)) : Sem Next).run P w) := by
  obtain ⟨v, w', h1, h2⟩ := h
  exact .inl ⟨v, w', .inl (by simp [h1]), h2⟩

theorem PartsD_of {ev : Operand → SV} {ρe : Operand → Value} : ∀ (l : List (Nat × Operand)), (∀ x ∈ l.map (·.2), D (dmOf H) ρ (ev x) (ρe x)) → PartsD (dmOf H) ρ (l.map fun (i, x) => (i, ev x)) (l.map fun (i, x) => (i, ρe x))
  | [], _ => rfl
  | (i, x) :: r, h => ⟨ρe x, _, rfl, h x (by simp), PartsD_of r fun y hy => h y (by simp at hy ⊢; exact .inr hy)⟩

theorem Ds_of {ev : Operand → SV} {ρe : Operand → Value} : ∀ (l : List Operand), (∀ x ∈ l, D (dmOf H) ρ (ev x) (ρe x)) → Ds (dmOf H) ρ (l.map ev) (l.map ρe)
  | [], _ => rfl
  | x :: r, h => ⟨ρe x, _, h x (by simp), rfl, Ds_of r fun y hy => h y (by simp [hy])⟩

theorem OptD_of {ev : Operand → SV} {ρe : Operand → Value} (x : Option Operand) (h : ∀ y, x = some y → D (dmOf H) ρ (ev y) (ρe y)) : OptD (dmOf H) ρ (x.map ev) (x.map ρe) := by
  cases x with
  | none => exact .inl ⟨rfl, rfl⟩
  | some y => exact .inr ⟨_, _, rfl, rfl, h y rfl⟩

theorem builtin_sound {Γ : Tab} (hΓ : TabOk P Γ) (hm : Mem w0 M ρ H w) {stamp : Nat} {b : Builtin} {ts : List TypeId} {xs : List SV} {vs : List Value} (hx : Ds (dmOf H) ρ xs vs) {d : Delta} {rs rs' : List Nat}
    (h : (builtinOp Γ.ty stamp b ts xs).run H rs = some (d, rs')) (hp : AllP d.pre) (type : TypeId) (cs : Array Bool) : Outc P w0 M ρ H d w ((builtin b ts.toArray type cs vs.toArray).run P w) := by
  unfold builtinOp at h
  split at h
  · rename_i t x
    simp only [Ds] at hx
    obtain ⟨v, _, hx, rfl, rfl⟩ := hx
    split at h
    · rename_i ti hti
      exact Outc.val hm (len_sound (rowB_ok (tabB_row hΓ.ty hti)) hx h _ _ rfl)
    · simp [RP.run] at h
  · rename_i t t2 s x
    simp only [Ds] at hx
    obtain ⟨v, _, hx, rfl, v2, _, hx2, rfl, rfl⟩ := hx
    split at h
    · rename_i ti ti2 hti hti2
      exact Outc.made (append_sound (rowB_ok (tabB_row hΓ.ty hti)) (rowB_ok (tabB_row hΓ.ty hti2)) hΓ.ty hm hx hx2 h hp)
    · simp [RP.run] at h
  · rename_i t _ s x
    simp only [Ds] at hx
    obtain ⟨v, _, hx, rfl, v2, _, hx2, rfl, rfl⟩ := hx
    split at h
    · rename_i ti hti
      exact Outc.made (copy_sound (rowB_ok (tabB_row hΓ.ty hti)) hΓ.ty hm hx hx2 h hp)
    · simp [RP.run] at h
  · rename_i t s
    simp only [Ds] at hx
    obtain ⟨v, _, hx, rfl, rfl⟩ := hx
    split at h
    · rename_i ti hti
      exact Outc.made (clear_sound (rowB_ok (tabB_row hΓ.ty hti)) hΓ.ty hm hx h hp)
    · simp [RP.run] at h
  · simp [RP.run] at h

set_option maxHeartbeats 2000000 in
theorem sop_sound {Γ : Tab} (hΓ : TabOk P Γ) (hG : Glob Γ.gh w0 M) (hm : Mem w0 M ρ H w) {stamp : Nat} {o : Oper} {ev : Operand → SV} {ρe : Operand → Value} (he : ∀ x ∈ o.op.operands, D (dmOf H) ρ (ev x) (ρe x)) {d : Delta} {rs rs' : List Nat}
    (h : (sop Γ stamp o.op o.type ev).run H rs = some (d, rs')) (hp : AllP d.pre) : Outc P w0 M ρ H d w ((execOp ρe o).run P w) := by
  obtain ⟨dst, op, type, pos, after, guard⟩ := o
  simp only at h he
  have row : ∀ {T : TypeId} {t : TInfo}, assoc Γ.ty T = some t → RowOk P T t := fun ht => rowB_ok (tabB_row hΓ.ty ht)
  unfold sop at h
  split at h <;> simp only [execOp]
  · rename_i x
    have hx := he x (by simp [Op.operands])
    have e := run_ret h; subst e
    exact Outc.move hm rfl hx
  · rename_i x
    have hx := he x (by simp [Op.operands])
    have e := run_ret h; subst e
    exact Outc.move hm rfl hx
  · rename_i c a b
    have hc := he c (by simp [Op.operands])
    have ha := he a (by simp [Op.operands])
    have hb := he b (by simp [Op.operands])
    split at h
    · rename_i v e1
      rw [e1] at hc
      simp only [D] at hc
      cases v with
      | true =>
        have e := run_ret h; subst e
        exact .inl ⟨ρe a, w, .inl (by simp [hc, asBool]), ρ, .refl _ _, ha, hm⟩
      | false =>
        have e := run_ret h; subst e
        exact .inl ⟨ρe b, w, .inl (by simp [hc, asBool]), ρ, .refl _ _, hb, hm⟩
    · rename_i v _ x _ y e1 e2 e3
      rw [e1] at hc
      rw [e2] at ha
      rw [e3] at hb
      simp only [D] at hc ha hb
      have e := run_ret h; subst e
      refine .inl ⟨.bool (if v then x else y), w, .inl ?_, ρ, .refl _ _, rfl, hm⟩
      cases v <;> simp [hc, ha, hb, asBool]
    · simp [RP.run] at h
  · rename_i e
    split at h
    · rename_i t ht
      obtain ⟨z, h1, h2⟩ := alloc_run (row ht) w
      exact Outc.made ⟨_, _, h1, box_sound hm (h2 _ _) h _⟩
    · simp [RP.run] at h
  · rename_i e x
    exact Outc.made ⟨_, _, box_run _ _ _, box_sound hm (he x (by simp [Op.operands])) h _⟩
  · rename_i t parts
    split at h
    · rename_i ti ht
      have hpd : PartsD (dmOf H) ρ (parts.toList.map fun (i, x) => (i, ev x)) (parts.map fun (i, x) => (i, ρe x)).toList := by
        rw [Array.toList_map]
        exact PartsD_of (H := H) (ρ := ρ) (ev := ev) (ρe := ρe) parts.toList (fun x hx => he x (by simpa [Op.operands] using hx))
      exact Outc.val hm (build_sound (row ht) hpd h)
    · simp [RP.run] at h
  · rename_i t n parts
    split at h
    · rename_i ti ht
      have hpd : PartsD (dmOf H) ρ (parts.toList.map fun (i, x) => (i, ev x)) (parts.map fun (i, x) => (i, ρe x)).toList := by
        rw [Array.toList_map]
        exact PartsD_of (H := H) (ρ := ρ) (ev := ev) (ρe := ρe) parts.toList (fun x hx => he x (by simpa [Op.operands] using hx))
      exact Outc.made (buildSlice_sound (row ht) hΓ.ty hm hpd h)
    · simp [RP.run] at h
  · rename_i t a
    split at h
    · rename_i ti ht
      exact Outc.val hm (load_sound (row ht) hm (he a (by simp [Op.operands])) h hp)
    · simp [RP.run] at h
  · rename_i t a x
    split at h
    · rename_i ti ht
      split at h
      · rename_i hty
        obtain ⟨h1, w', h2, h3⟩ := store_sound (row ht) hm (he a (by simp [Op.operands])) (he x (by simp [Op.operands])) hty h hp
        exact .inl ⟨undef, w', .inr ⟨by simp [h2], rfl⟩, ρ, .refl _ _, by rw [h1]; trivial, h3⟩
      · simp [RP.run] at h
    · simp [RP.run] at h
  · rename_i x
    have hx := he x (by simp [Op.operands])
    split at h
    · rename_i k c e1
      rw [e1] at hx
      have e := run_ret h; subst e
      have hx' := hx
      simp only [D] at hx
      rw [hx.2]
      exact Outc.move hm rfl (by rw [← hx.2]; exact hx')
    · simp [RP.run] at h
  · rename_i op t x y yt
    exact Outc.val hm (binop_sound hΓ.ty (he x (by simp [Op.operands])) (he y (by simp [Op.operands])) h hp)
  · rename_i op t x
    exact Outc.val hm (unop_sound (he x (by simp [Op.operands])) h hp)
  · rename_i s t x
    split at h
    · rename_i ti ti2 ht ht2
      exact Outc.made (convert_sound (row ht) (row ht2) hΓ.ty hm (he x (by simp [Op.operands])) h hp)
    · simp [RP.run] at h
  · rename_i t x
    split at h
    · rename_i ti ht
      exact Outc.val hm (arrPtr_sound (row ht) (he x (by simp [Op.operands])) h hp)
    · simp [RP.run] at h
  · rename_i t n m
    split at h
    · rename_i ti ht
      exact Outc.made (make_sound (row ht) hΓ.ty hm (he n (by simp [Op.operands])) (he m (by simp [Op.operands])) h hp)
    · simp [RP.run] at h
  · rename_i t x lo hi
    split at h
    · rename_i ti ht
      split at h
      · rename_i hest
        refine Outc.val hm (slice_sound (ty := Γ.ty) (row ht) hm (he x (by simp [Op.operands])) (OptD_of lo fun y hy => he y (by simp [Op.operands, hy])) (OptD_of hi fun y hy => he y (by simp [Op.operands, hy])) ?_ ?_ h hp)
        intro key c est off len hx ht2 y
        unfold estOk at hest
        rw [hx, ht2] at hest
        simp only at hest
        split at hest
        · rename_i te hte
          have := Nat.eq_of_beq_eq_true hest
          obtain ⟨ie, z, hi1, hi2, _⟩ := (row hte).info
          simp [sizeOf, typeInfo, hi1, hi2, this]
        · cases hest
        intro key sh d hx ht2 y
        unfold estOk at hest
        rw [hx, ht2] at hest
        simp only at hest
        split at hest
        · rename_i te hte
          have := Nat.eq_of_beq_eq_true hest
          obtain ⟨ie, z, hi1, hi2, _⟩ := (row hte).info
          simp [sizeOf, typeInfo, hi1, hi2, this]
        · cases hest
      · simp [RP.run] at h
    · simp [RP.run] at h
  · rename_i t x f
    split at h
    · rename_i ti ht
      exact Outc.val hm (fieldAddr_sound (row ht) (he x (by simp [Op.operands])) h)
    · simp [RP.run] at h
  · rename_i t x f
    split at h
    · rename_i ti ht
      exact Outc.val hm (field_sound (row ht) (he x (by simp [Op.operands])) h)
    · simp [RP.run] at h
  · rename_i t x i
    split at h
    · rename_i ti ht
      exact Outc.val hm (indexAddr_sound (row ht) hΓ.ty (he x (by simp [Op.operands])) (he i (by simp [Op.operands])) h hp)
    · simp [RP.run] at h
  · rename_i t x i
    split at h
    · rename_i ti ht
      exact Outc.val hm (index_sound (row ht) (he x (by simp [Op.operands])) (he i (by simp [Op.operands])) h hp)
    · simp [RP.run] at h
  · rename_i x n
    have hx := he x (by simp [Op.operands])
    split at h
    · rename_i xs e1
      rw [e1] at hx
      split at h
      · rename_i v hv
        have e := run_ret h; subst e
        exact Outc.val hm ⟨rfl, extract_sound (x := .any) hx hv⟩
      · simp [RP.run] at h
    · simp [RP.run] at h
  · rename_i c
    split at h
    · rename_i f hf
      have hargs := Ds_of (H := H) (ρ := ρ) (ev := ev) (ρe := ρe) c.args.toList (fun x hx => he x (by simp only [Op.operands, Call.operands, Array.mem_append]; exact .inr (by simpa using hx)))
      have hfv := he f (by simp [Op.operands, Call.operands, hf])
      split at h
      · rename_i fn e1
        rw [e1] at hfv
        simp only [D] at hfv
        split at h
        · rename_i g hg
          have hok := hΓ.ctr fn g hg _ _ _ _ _ _ _ _ _ _ _ hG h hp hargs hm
          have e2 : (#[] ++ c.args.map ρe ++ #[] : Array Value) = (c.args.toList.map ρe).toArray := by
            apply Array.ext'
            simp
          simp only [resolve, hf, hfv, Deferred.ofValue, invoke, Sem.run_bind, Sem.run_pure, Result.andThen_ok]
          rw [e2]
          exact hok
        · simp [RP.run] at h
      · simp [RP.run] at h
    · rename_i b hb
      have hargs := Ds_of (H := H) (ρ := ρ) (ev := ev) (ρe := ρe) c.args.toList (fun x hx => he x (by simp only [Op.operands, Call.operands, Array.mem_append]; exact .inr (by simpa using hx)))
      have := builtin_sound hΓ hm hargs h hp type (c.args.map fun | .const _ => true | _ => false)
      have e1 : (c.args.toList.map ρe).toArray = c.args.map ρe := by
        apply Array.ext'
        simp
      have e2 : c.argTypes.toList.toArray = c.argTypes := rfl
      rw [e1, e2] at this
      unfold resolve
      simp only [hb]
      exact this
    · simp [RP.run] at h
  · simp [RP.run] at h

end
end Go.Gx
