/- A function's code. -/
import Derived.Test.YtihihilhfijloaaDoorAny
import Derived.Scope
namespace Go.Gx
open Go.RowKit
set_option linter.unusedVariables false

/-- From here on the call ends so. -/
def Goes (P : Program) (b : Frame) (R : Ending → World → Prop) (items : List Item) (a : Act) (w : World) : Prop :=
  ∀ cs, ∃ e w' fr, R e w' ∧ Comes P (lone (b.at a items) cs w) (lone fr cs w') e ∧ fr.fn = b.fn ∧ fr.leaving P w' e

section
variable {P : Program} {Γ : Tab} {w0 : World} {M : Nat → Prop} {ρ0 ρ : Nat → Pl} {H0 : Nat → Option SB} {b : Frame} {R : Ending → World → Prop} {a : Act} {w : World}

theorem Goes.one {items items' : List Item} (h : ∀ cs, Go.step P (lone (b.at a items) cs w) = .next (lone (b.at a items') cs w)) (hg : Goes P b R items' a w) : Goes P b R items a w := fun cs => by
  obtain ⟨e, w', fr, h1, h2, h3⟩ := hg cs
  exact ⟨e, w', fr, h1, .of_steps (.one (h cs)) h2, h3⟩

theorem Goes.wp {c : Code} {k : List Item} (h : c.wp P (fun e a' w' => e = .normal ∧ Goes P b R k a' w') a w) : Goes P b R (.code c :: k) a w := fun cs => by
  obtain ⟨e, a', w', ⟨rfl, hg⟩, harr⟩ := h b k cs
  obtain ⟨e2, w2, fr, h1, h2, h3⟩ := hg cs
  exact ⟨e2, w2, fr, h1, .of_steps harr h2, h3⟩

theorem Goes.done {fn : Func} {items : List Item} (hk : b.kind = .normal) (hf : P.funcs[b.fn]? = some fn) (hd : a.defers = []) {v : Value} (hr : (results fn a.tmps).run P w = .ok v w) (hR : R (.returned v) w)
    (h : ∀ cs, Go.step P (lone (b.at a items) cs w) = .next (lone { b.at a items with mode := .returning } cs w)) : Goes P b R items a w := fun cs =>
  ⟨.returned v, w, { b.at a items with mode := .returning }, hR, Steps.one (h cs), rfl, rfl, hd, hk, fn, hf, hr⟩

def resV (tmps : Array Value) : ResultVar → Sem Value
  | .tmp t => pure (tmps.getD t undef)
  | .cell ad t => do loadVar t (← asAddr (tmps.getD ad undef))

theorem results_list (hΓ : TabOk P Γ) {σ : St} (hi : Inv w0 M ρ0 H0 ρ (tget σ.tmps) (assoc σ.heap) σ.tmps.length a w) : ∀ (rs : List ResultVar) (K : List SV → Prop), resultsK Γ σ rs K →
    ∃ xs vs, K xs ∧ Ds (dmOf (assoc σ.heap)) ρ xs vs ∧ (rs.mapM (resV a.tmps)).run P w = .ok vs w
  | [], K, h => ⟨[], [], h, rfl, by simp⟩
  | .tmp t :: r, K, h => by
    obtain ⟨xs, vs, h1, h2, h3⟩ := results_list hΓ hi r _ h
    exact ⟨_, _ :: vs, h1, ⟨_, vs, hi.tmps t, rfl, h2⟩, by simp only [List.mapM_cons, Sem.run_bind, h3, resV, Sem.run_pure, Result.andThen_ok]⟩
  | .cell ad t :: r, K, h => by
    simp only [resultsK] at h
    split at h
    · rename_i ti hti
      split at h
      · rename_i d rs hrun
        obtain ⟨hp, h⟩ := preK_of _ _ h
        obtain ⟨xs, vs, h1, h2, h3⟩ := results_list hΓ hi r _ h
        obtain ⟨q1, v, q2, q3⟩ := load_sound (P := P) (rowB_ok (tabB_row hΓ.ty hti)) hi.mem (hi.tmps ad) hrun hp
        have q4 : (do loadVar t (← asAddr (a.tmps.getD ad undef)) : Sem Value).run P w = .ok v w := by
          unfold Instr.loadAt at q2
          generalize a.tmps.getD ad undef = u at q2
          cases u <;> try (simp [Instr.sureAddr] at q2; done)
          rename_i p
          cases p with
          | none => simp [Instr.sureAddr] at q2
          | some p => simpa [Instr.sureAddr, asAddr] using q2
        refine ⟨_, v :: vs, h1, ⟨v, vs, q3, rfl, h2⟩, ?_⟩
        have q5 : (resV a.tmps (.cell ad t)).run P w = .ok v w := q4
        simp only [List.mapM_cons, Sem.run_bind, q5, h3, Sem.run_pure, Result.andThen_ok]
      · exact h.elim
    · exact h.elim

theorem ret_sound (hΓ : TabOk P Γ) {σ : St} (hi : Inv w0 M ρ0 H0 ρ (tget σ.tmps) (assoc σ.heap) σ.tmps.length a w) {fn : Func} {K : SV → Heap → Prop} (h : retK Γ fn.results.toList σ K) :
    ∃ x v, K x σ.heap ∧ D (dmOf (assoc σ.heap)) ρ x v ∧ (results fn a.tmps).run P w = .ok v w := by
  unfold retK at h
  obtain ⟨xs, vs, h1, h2, h3⟩ := results_list hΓ hi _ _ h
  have hrun : (results fn a.tmps).run P w = .ok (if h : vs.toArray.size = 1 then vs.toArray[0] else .tuple vs.toArray) w := by
    have e : results fn a.tmps = (do let vs ← fn.results.mapM (resV a.tmps); pure (if h : vs.size = 1 then vs[0] else .tuple vs)) := by
      unfold results
      congr 2
    rw [e, Sem.run_bind, Array.mapM_eq_mapM_toList]
    have h4 : (List.toArray <$> List.mapM (resV a.tmps) fn.results.toList).run P w = .ok vs.toArray w := by
      rw [Sem.run_map, h3]; rfl
    rw [h4]
    rfl
  cases xs with
  | nil =>
    simp only [Ds] at h2
    subst h2
    exact ⟨_, _, h1, ⟨[], rfl, rfl⟩, hrun⟩
  | cons x r =>
    simp only [Ds] at h2
    obtain ⟨v, vs', hx, rfl, h2⟩ := h2
    cases r with
    | nil =>
      simp only [Ds] at h2
      subst h2
      exact ⟨x, v, h1, hx, hrun⟩
    | cons y r =>
      have h2' := h2
      simp only [Ds] at h2
      obtain ⟨v2, vs2, hy, rfl, h3'⟩ := h2
      refine ⟨_, .tuple (v :: v2 :: vs2).toArray, h1, ?_, ?_⟩
      · simp only [D]
        exact ⟨_, ⟨v, _, hx, rfl, h2'⟩, rfl⟩
      · rw [hrun]; simp

/-- The evaluator's run is the call's. -/
theorem run_goes (hΓ : TabOk P Γ) (hg : GlOk Γ w0 M ρ0 H0) {fn : Func} (hf : P.funcs[b.fn]? = some fn) (hk : b.kind = .normal) {stops : List Nat} {K : SV → Heap → Prop} {I : Nat → List Item → St → Prop}
    (hK : ∀ (x : SV) (v : Value) (σ : St) (ρ' : Nat → Pl) (a' : Act) (w' : World), K x σ.heap → D (dmOf (assoc σ.heap)) ρ' x v → Inv w0 M ρ0 H0 ρ' (tget σ.tmps) (assoc σ.heap) σ.tmps.length a' w' → R (.returned v) w')
    (hI : ∀ (key : Nat) (items : List Item) (σ : St) (ρ' : Nat → Pl) (a' : Act) (w' : World), I key items σ → Inv w0 M ρ0 H0 ρ' (tget σ.tmps) (assoc σ.heap) σ.tmps.length a' w' → Goes P b R items a' w') :
    ∀ (n : Nat) (items : List Item) (σ : St) (ρ : Nat → Pl) (a : Act) (w : World), run Γ fn.results.toList stops n items σ K I → Inv w0 M ρ0 H0 ρ (tget σ.tmps) (assoc σ.heap) σ.tmps.length a w → Goes P b R items a w
  | 0, items, σ, ρ, a, w, h, hi => h.elim
  | n + 1, items, σ, ρ, a, w, h, hi => by
    have go := fun items σ ρ a w => run_goes (stops := stops) hΓ hg hf hk hK hI n items σ ρ a w
    cases items with
    | nil =>
      simp only [run] at h
      obtain ⟨x, v, h1, h2, h3⟩ := ret_sound hΓ hi h
      exact Goes.done hk hf hi.defers h3 (hK x v σ ρ a w h1 h2 hi) fun cs => step_end
    | cons it k =>
      cases it with
      | code c =>
        cases c with
        | ret =>
          simp only [run] at h
          obtain ⟨x, v, h1, h2, h3⟩ := ret_sound hΓ hi h
          exact Goes.done hk hf hi.defers h3 (hK x v σ ρ a w h1 h2 hi) fun cs => step_ret
        | skip => simp only [run] at h; exact Goes.one (fun cs => step_skip) (go _ _ _ _ _ h hi)
        | label l => simp only [run] at h; exact Goes.one (fun cs => step_label) (go _ _ _ _ _ h hi)
        | seq x y => simp only [run] at h; exact Goes.one (fun cs => step_seq) (go _ _ _ _ _ h hi)
        | cond c x y =>
          simp only [run] at h
          have hc := hi.eval hg c
          rw [← evalS_eq] at hc
          split at h
          · rename_i v e
            rw [e] at hc
            simp only [D] at hc
            cases v with
            | true => exact Goes.one (fun cs => step_cond hc) (go _ _ _ _ _ h hi)
            | false => exact Goes.one (fun cs => step_cond hc) (go _ _ _ _ _ h hi)
          · rename_i v e
            rw [e] at hc
            simp only [D] at hc
            cases v with
            | true => exact Goes.one (fun cs => step_cond hc) (go _ _ _ _ _ (h.1 rfl) hi)
            | false => exact Goes.one (fun cs => step_cond hc) (go _ _ _ _ _ (h.2 rfl) hi)
          · exact h.elim
        | block id c => simp only [run] at h; exact Goes.one (fun cs => step_block) (go _ _ _ _ _ h hi)
        | scope c => simp only [run] at h; exact Goes.one (fun cs => step_scope) (go _ _ _ _ _ h hi)
        | loop c =>
          simp only [run] at h
          refine Goes.one (fun cs => step_loop) ?_
          split at h
          · exact hI _ _ _ _ _ _ h hi
          · exact go _ _ _ _ _ h hi
        | exit id =>
          simp only [run] at h
          split at h
          · rename_i k' hx; exact Goes.one (fun cs => step_exit hx) (go _ _ _ _ _ h hi)
          · exact h.elim
        | region id ops draw =>
          simp only [run] at h
          exact Goes.wp (region_sound hΓ hg h hi fun σ' ρ' a' w' hk' hi' => ⟨rfl, go _ _ _ _ _ hk' hi'⟩)
        | _ => exact h.elim
      | inBlock id => simp only [run] at h; exact Goes.one (fun cs => step_inBlock) (go _ _ _ _ _ h hi)
      | inScope c => simp only [run] at h; exact Goes.one (fun cs => step_inScope) (go _ _ _ _ _ h hi)
      | inLoop c =>
        simp only [run] at h
        refine Goes.one (fun cs => step_inLoop) ?_
        split at h
        · exact hI _ _ _ _ _ _ h hi
        · exact go _ _ _ _ _ h hi
      | _ => exact h.elim

/-- One state may stand for another one. -/
def Weak (H0 : Nat → Option SB) (σ σ' : St) : Prop :=
  ∀ (w0 : World) (M : Nat → Prop) (ρ0 ρ : Nat → Pl) (a : Act) (w : World), Inv w0 M ρ0 H0 ρ (tget σ.tmps) (assoc σ.heap) σ.tmps.length a w → ∃ ρ', Inv w0 M ρ0 H0 ρ' (tget σ'.tmps) (assoc σ'.heap) σ'.tmps.length a w

theorem loops_go (hΓ : TabOk P Γ) (hg : GlOk Γ w0 M ρ0 H0) {fn : Func} (hf : P.funcs[b.fn]? = some fn) (hk : b.kind = .normal) {stops : List Nat} {K : SV → Heap → Prop}
    (hK : ∀ (x : SV) (v : Value) (σ : St) (ρ' : Nat → Pl) (a' : Act) (w' : World), K x σ.heap → D (dmOf (assoc σ.heap)) ρ' x v → Inv w0 M ρ0 H0 ρ' (tget σ.tmps) (assoc σ.heap) σ.tmps.length a' w' → R (.returned v) w')
    (J Hd : Nat → Nat → St → Prop) (hJ : ∀ m key σ, J m key σ → runLoop Γ fn stops key σ K (Hd m)) (hH : ∀ m key' σ', Hd m key' σ' → ∃ m', m' < m ∧ ∃ σ2, Weak H0 σ' σ2 ∧ J m' key' σ2) :
    ∀ (m key : Nat) (σ : St) (ρ : Nat → Pl) (a : Act) (w : World), J m key σ → Inv w0 M ρ0 H0 ρ (tget σ.tmps) (assoc σ.heap) σ.tmps.length a w → Goes P b R (itemsOf fn key) a w := by
  intro m
  induction m using Nat.strongRecOn with
  | _ m ih =>
    intro key σ ρ a w hj hi
    have hrun := hJ m key σ hj
    unfold runLoop at hrun
    revert hrun
    generalize 100000 = N
    intro hrun
    refine run_goes hΓ hg hf hk hK (fun key' items' σ' ρ' a' w' h hi' => ?_) N _ σ ρ a w hrun hi
    obtain ⟨rfl, h⟩ := h
    obtain ⟨m', hm, σ2, hw, hj'⟩ := hH _ _ _ h
    obtain ⟨ρ2, hi2⟩ := hw _ _ _ _ _ _ hi'
    exact ih m' hm key' σ2 ρ2 a' w' hj' hi2

theorem tget_tmps0 {dm : Nat → Prop} : ∀ (args : List SV) (vs : List Value) (n t : Nat), Ds dm ρ args vs → D dm ρ (tget (args ++ reps .any n) t) ((vs ++ List.replicate n undef).getD t undef)
  | [], vs, n, t, h => by
    have : ∀ (n t : Nat), tget (reps .any n) t = .any := by
      intro n
      induction n with
      | zero => intro t; rfl
      | succ n ih => intro t; cases t <;> simp [reps, tget, ih]
    rw [List.nil_append, this]; trivial
  | x :: r, vs, n, 0, h => by
    simp only [Ds] at h
    obtain ⟨v, c, h1, rfl, h2⟩ := h
    exact h1
  | x :: r, vs, n, t + 1, h => by
    simp only [Ds] at h
    obtain ⟨v, c, h1, rfl, h2⟩ := h
    exact tget_tmps0 r c n t h2

theorem Ds_length {dm : Nat → Prop} : ∀ {xs : List SV} {vs : List Value}, Ds dm ρ xs vs → vs.length = xs.length
  | [], vs, h => by rw [show vs = [] from h]; rfl
  | x :: r, vs, h => by
    simp only [Ds] at h
    obtain ⟨v, c, _, rfl, h2⟩ := h
    simp [Ds_length h2]

/-- A function, by the evaluator. -/
theorem fn_calls (hΓ : TabOk P Γ) {f : FuncId} {fn : Func} (hf : P.funcs[f]? = some fn) {stops : List Nat} {args : List SV} {h : Heap} {K : SV → Heap → Prop} {vs : List Value}
    (hg : GlOk Γ w0 M ρ (assoc h)) (hlen : args.length ≤ fn.ntmps) (ha : Ds (dmOf (assoc h)) ρ args vs) (hm : Mem w0 M ρ (assoc h) w)
    (J Hd : Nat → Nat → St → Prop) (hJ : ∀ m key σ, J m key σ → runLoop Γ fn stops key σ K (Hd m)) (hH : ∀ m key' σ', Hd m key' σ' → ∃ m', m' < m ∧ ∃ σ2, Weak (assoc h) σ' σ2 ∧ J m' key' σ2)
    (He : Nat → St → Prop) (hE : ∀ key' σ', He key' σ' → ∃ m' σ2, Weak (assoc h) σ' σ2 ∧ J m' key' σ2) (hrun : runFn Γ fn stops args h K He) :
    Calls P f vs.toArray w fun e w' => ∃ x v h' ρ', e = .returned v ∧ K x h' ∧ D (dmOf (assoc h')) ρ' x v ∧ Mem w0 M ρ' (assoc h') w' ∧ ∀ k, dmOf (assoc h) k → dmOf (assoc h') k ∧ ρ' k = ρ k := by
  unfold runFn at hrun
  split at hrun
  · rename_i c hb
    revert hrun
    generalize 100000 = N
    intro hrun cs
    let b : Frame := { (default : Frame) with fn := f, kind := .normal }
    have hvl := Ds_length ha
    have henter : Frame.enter P f vs.toArray .normal = b.at { tmps := vs.toArray ++ Array.replicate (fn.ntmps - vs.toArray.size) undef, defers := [] } [.code c] := by
      simp [Frame.enter, Frame.at, hf, hb, b]
    have hlen0 : (tmps0 args fn.ntmps).length = fn.ntmps := by
      have : ∀ n, (reps SV.any n).length = n := by
        intro n; rw [reps_eq]; simp
      simp [tmps0, this]; omega
    have hi : Inv w0 M ρ (assoc h) ρ (tget (tmps0 args fn.ntmps)) (assoc h) (tmps0 args fn.ntmps).length { tmps := vs.toArray ++ Array.replicate (fn.ntmps - vs.toArray.size) undef, defers := [] } w := by
      refine ⟨fun t => ?_, hm, ?_, fun k hk => ⟨hk, rfl⟩, rfl⟩
      · have := tget_tmps0 args vs (fn.ntmps - args.length) t ha
        rw [← hvl] at this
        simp only [tmps0]
        rw [← hvl]
        have e : (vs.toArray ++ Array.replicate (fn.ntmps - vs.toArray.size) undef).getD t undef = (vs ++ List.replicate (fn.ntmps - vs.length) undef).getD t undef := by
          rw [Array.getD_eq_getD_getElem?, List.getD_eq_getElem?_getD, ← Array.getElem?_toList]
          simp
        rw [e]; exact this
      · rw [hlen0]; simp; omega
    rw [henter]
    have hKK : ∀ (x : SV) (v : Value) (σ : St) (ρ' : Nat → Pl) (a' : Act) (w' : World), K x σ.heap → D (dmOf (assoc σ.heap)) ρ' x v → Inv w0 M ρ (assoc h) ρ' (tget σ.tmps) (assoc σ.heap) σ.tmps.length a' w' →
        (fun (e : Ending) (w' : World) => ∃ x v h' ρ', e = .returned v ∧ K x h' ∧ D (dmOf (assoc h')) ρ' x v ∧ Mem w0 M ρ' (assoc h') w' ∧ ∀ k, dmOf (assoc h) k → dmOf (assoc h') k ∧ ρ' k = ρ k) (.returned v) w' :=
      fun x v σ ρ' a' w' h1 h2 h3 => ⟨x, v, σ.heap, ρ', rfl, h1, h2, h3.mem, h3.base⟩
    exact run_goes (b := b) hΓ hg hf rfl hKK (fun key items σ ρ' a' w' hI hi' => by
      obtain ⟨rfl, hI⟩ := hI
      obtain ⟨m', σ2, hw, hj⟩ := hE _ _ hI
      obtain ⟨ρ2, hi2⟩ := hw _ _ _ _ _ _ hi'
      exact loops_go (b := b) hΓ hg hf rfl hKK J Hd hJ hH m' key σ2 ρ2 a' w' hj hi2) N _ _ ρ _ w hrun hi cs
  · exact hrun.elim

end
end Go.Gx
