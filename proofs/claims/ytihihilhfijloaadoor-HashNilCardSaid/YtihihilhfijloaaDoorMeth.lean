/- Contracts of methods that turn a record of the caller's, through a pointer. -/
import Derived.Test.YtihihilhfijloaaDoorFresh
namespace Go.Gx
open Go.RowKit
set_option linter.unusedVariables false

/-- The same parts of a block. -/
def eqSeg : Seg → Seg → Prop
  | .one x, .one y => single y = true ∧ eqV x y
  | .arr k n _ l, .arr k' n' _ l' => keq k k' = true ∧ n = n' ∧ l = l'
  | .rowI k l, .rowI k' l' => keq k k' = true ∧ l = l'
  | _, _ => False
def eqSegs : List Seg → List Seg → Prop
  | [], [] => True
  | x :: r, y :: t => eqSeg x y ∧ eqSegs r t
  | _, _ => False
def FactSeg : Seg → Prop
  | .one x => FactV x
  | .arr k n _ l => l.length = n ∧ AllR k l
  | .rowI k l => AllR k l
  | _ => True
def FactSegs : List Seg → Prop
  | [] => True
  | x :: r => FactSeg x ∧ FactSegs r

theorem eqSeg_D {dm dm' : Nat → Prop} {ρ ρ' : Nat → Pl} : ∀ (x y : Seg) (cs : List Value), eqSeg x y → SegD dm ρ x cs → SegD dm' ρ' y cs
  | .one x, y, cs, h, hd => by
    cases y <;> simp only [eqSeg] at h
    obtain ⟨h1, h2⟩ := h
    obtain ⟨_, v, hv, rfl⟩ := hd
    exact ⟨h1, v, eqV_D _ _ v h2 hv, rfl⟩
  | .arr k n e l, y, cs, h, hd => by
    cases y <;> simp only [eqSeg] at h
    obtain ⟨h1, rfl, rfl⟩ := h
    obtain rfl := keq_eq h1
    exact hd
  | .rowI k l, y, cs, h, hd => by
    cases y <;> simp only [eqSeg] at h
    obtain ⟨h1, rfl⟩ := h
    obtain rfl := keq_eq h1
    exact hd
  | .rowA k n l, y, cs, h, hd => by cases y <;> simp only [eqSeg] at h
theorem eqSegs_D {dm dm' : Nat → Prop} {ρ ρ' : Nat → Pl} : ∀ (xs ys : List Seg) (cs : List Value), eqSegs xs ys → SegsD dm ρ xs cs → SegsD dm' ρ' ys cs
  | [], [], cs, h, hd => hd
  | x :: r, y :: t, cs, h, hd => by
    obtain ⟨c1, c2, h1, rfl, h2⟩ := hd
    exact ⟨c1, c2, eqSeg_D x y c1 h.1 h1, rfl, eqSegs_D r t c2 h.2 h2⟩
  | [], _ :: _, cs, h, hd => h.elim
  | _ :: _, [], cs, h, hd => h.elim

/-- An answer, and what the record holds then. -/
def kvM (x : SV) (h : Heap) (K : SV → List Seg → Prop) : Prop :=
  match assoc h 600 with
  | some (.segs false l) => K x l
  | _ => False

def fnVcM (Γ : Tab) (fn : Func) (L : Loops) (args : List SV) (h : Heap) (K : SV → List Seg → Prop) (Q : Nat → List Pv → Prop) : Prop :=
  runFn Γ fn (loopKeysM L) args h (fun x h' => kvM x h' K) (handM L Q)
def loopVcM (Γ : Tab) (fn : Func) (L : Loops) (key : Nat) (ps : List Pv) (K : SV → List Seg → Prop) (Q : Nat → List Pv → Prop) : Prop :=
  match assoc L key with
  | some t => runLoop Γ fn (loopKeysM L) (key % 1000) (instSt t ps) (fun x h' => kvM x h' K) (handM L Q)
  | none => False

structure VcM (Γ : Tab) (fn : Func) (L : Loops) (h : Heap) (args : List SV) (K : SV → List Seg → Prop) (inv : Nat → List Pv → Nat → Prop) : Prop where
  low : ∀ k t, (k, t) ∈ L → ∀ g, g ∈ keysOf h → g < 1000 ∧ (assoc t.heap g).isSome = true
  loop : ∀ vk t ps m, (vk, t) ∈ L → inv vk ps m → runLoop Γ fn (loopKeysM L) (vk % 1000) (instSt t ps) (fun x h' => kvM x h' K) (handM L fun key' ps' => ∃ m', m' < m ∧ inv key' ps' m')
  entry : fnVcM Γ fn L args h K fun key' ps' => ∃ m', inv key' ps' m'

def methCtr (spec : List Seg → List SV → Option (List Prop × SV × List Seg)) : Ctr := fun _ args =>
  match args with
  | .p key c :: rest => (match Nat.beq c 0 with
    | true => .get key fun b => (match b with
      | some (.segs false l) => (match spec l rest with
        | some (p, v, l') => .ret ⟨p, v, [(key, .segs false l')], true⟩
        | none => .fail)
      | _ => .fail)
    | false => .fail)
  | _ => .fail

theorem methCtr_run {H : Nat → Option SB} {spec : List Seg → List SV → Option (List Prop × SV × List Seg)} {stamp : Nat} {args : List SV} {rs rs' : List Nat} {d : Delta} (h : (methCtr spec stamp args).run H rs = some (d, rs')) :
    ∃ key rest l p v l', args = .p key 0 :: rest ∧ H key = some (.segs false l) ∧ spec l rest = some (p, v, l') ∧ d = ⟨p, v, [(key, .segs false l')], true⟩ := by
  unfold methCtr at h
  split at h
  · rename_i key c rest
    split at h
    · rename_i hc
      obtain rfl : c = 0 := Nat.eq_of_beq_eq_true hc
      simp only [RP.run] at h
      split at h
      · rename_i l hl
        split at h
        · rename_i p v l' hs
          exact ⟨key, rest, l, p, v, l', rfl, hl, hs, run_ret h⟩
        · simp [RP.run] at h
      · simp [RP.run] at h
    · simp [RP.run] at h
  · simp [RP.run] at h

section
variable {P : Program} {Γ : Tab}

/-- A block of the caller's that a call has turned. -/
theorem Mem.turn {w0 : World} {M : Nat → Prop} {ρ : Nat → Pl} {H : Nat → Option SB} {w w' : World} (h : Mem w0 M ρ H w) {key : Nat} {l l' : List Seg} (hk : H key = some (.segs false l)) (hpos : 0 < (ρ key).cap) (hf : FrameW (fun b => b = (ρ key).blk) w w') {vs : List Value}
    (hl : SegsD (fun _ => False) (fun _ => ({ blk := 0, off := 0, cap := 0 } : Pl)) l' vs) (h1 : vs.length ≤ (ρ key).cap) (h2 : w'.rangeAt (ρ key).blk (ρ key).off vs) (h3 : w'.there (ρ key).blk (ρ key).off (ρ key).cap) :
    Mem w0 M ρ (updH H key (.segs false l')) w' := by
  have hsome : (H key).isSome = true := by rw [hk]; rfl
  have hold : ∀ k b, k ≠ key → H k = some b → ∀ ro l1, b = .segs ro l1 → 0 < (ρ k).cap → w'.heap[(ρ k).blk]? = w.heap[(ρ k).blk]? := fun k b hne hb ro l1 e c => by
    subst e
    exact hf.block _ (h.heap.lt k ro l1 hb c) (h.heap.sep k key ro false l1 l hb hk hne (.inr rfl) c hpos)
  refine ⟨⟨fun k b hb => ?_, fun k k' ro ro' l1 l2 e1 e2 hkk hr c1 c2 => ?_, fun k ro l1 e1 c1 => ?_⟩, ⟨hf.os.trans h.frame.os, hf.tape.trans h.frame.tape, hf.output.trans h.frame.output, Nat.le_trans h.frame.size hf.size, fun k hk1 hk2 => ?_⟩, fun k l1 e1 c1 => ?_, view_upH h.view (by simp)⟩
  · by_cases e : k = key
    · subst e
      rw [updH_same] at hb
      simp only [Option.some.injEq] at hb; subst hb
      exact ⟨vs, SegsD.mono (fun _ h => h.elim) (fun _ h => h.elim) l' vs hl, h1, h2, fun _ => h3⟩
    · rw [updH_ne e] at hb
      exact (h.heap.blk k b hb).of_block (dm_updH _ _ _) (fun _ _ => rfl) rfl (hold k b e hb)
  · have s1 : ∃ l1', H k = some (.segs ro l1') := by
      by_cases e : k = key
      · subst e; rw [updH_same] at e1; simp only [Option.some.injEq, SB.segs.injEq] at e1; exact ⟨l, by rw [hk, e1.1]⟩
      · rw [updH_ne e] at e1; exact ⟨l1, e1⟩
    have s2 : ∃ l2', H k' = some (.segs ro' l2') := by
      by_cases e : k' = key
      · subst e; rw [updH_same] at e2; simp only [Option.some.injEq, SB.segs.injEq] at e2; exact ⟨l, by rw [hk, e2.1]⟩
      · rw [updH_ne e] at e2; exact ⟨l2, e2⟩
    obtain ⟨l1', s1⟩ := s1
    obtain ⟨l2', s2⟩ := s2
    exact h.heap.sep k k' ro ro' l1' l2' s1 s2 hkk hr c1 c2
  · by_cases e : k = key
    · subst e; exact Nat.lt_of_lt_of_le (h.heap.lt k false l hk c1) hf.size
    · rw [updH_ne e] at e1; exact Nat.lt_of_lt_of_le (h.heap.lt k ro l1 e1 c1) hf.size
  · have hne : ¬ k = (ρ key).blk := fun e => by
      rcases h.own key l hk hpos with hh | hh
      · omega
      · exact hk2 (e ▸ hh)
    rw [hf.block k (Nat.lt_of_lt_of_le hk1 h.frame.size) hne]
    exact h.frame.block k hk1 hk2
  · by_cases e : k = key
    · subst e; exact h.own k l hk c1
    · rw [updH_ne e] at e1; exact h.own k l1 e1 c1

theorem SegsD.fact {dm : Nat → Prop} {ρ : Nat → Pl} : ∀ (l : List Seg) (cs : List Value), SegsD dm ρ l cs → FactSegs l
  | [], cs, h => trivial
  | g :: r, cs, h => by
    obtain ⟨c1, c2, h1, rfl, h2⟩ := h
    refine ⟨?_, SegsD.fact r c2 h2⟩
    cases g with
    | one x => obtain ⟨_, v, hv, _⟩ := h1; exact D.fact x v hv
    | arr k n e l => exact ⟨h1.1, h1.2.1⟩
    | rowI k l => exact h1.1
    | rowA k n l => trivial

theorem vcM_calls (hΓ : TabOk P Γ) {f : FuncId} {fn : Func} (hf : P.funcs[f]? = some fn) {L : Loops} {h : Heap} {args : List SV} {K : SV → List Seg → Prop} {inv : Nat → List Pv → Nat → Prop} (hv : VcM Γ fn L h args K inv) (hlen : args.length ≤ fn.ntmps)
    {w : World} {M : Nat → Prop} {ρg : Nat → Pl} {vs : List Value} (hgo : GlOk Γ w M ρg (assoc h)) (g1 : Mem w M ρg (assoc h) w) (ha : Ds (dmOf (assoc h)) ρg args vs) :
    Calls P f vs.toArray w fun e w' => ∃ x v h' ρ', e = .returned v ∧ kvM x h' K ∧ D (dmOf (assoc h')) ρ' x v ∧ Mem w M ρ' (assoc h') w' ∧ ∀ k, dmOf (assoc h) k → dmOf (assoc h') k ∧ ρ' k = ρg k := by
  have hweak : ∀ vk t σ' ps, (vk, t) ∈ L → matchSt t σ' = some ps → Weak (assoc h) σ' (instSt t ps) := fun vk t σ' ps ht hm =>
    weak_of_match hm fun k hk => hv.low vk t ht k (keysOf_of_dm hk)
  refine (fn_calls hΓ hf hgo hlen ha g1 (fun m key σ => ∃ vk t ps, (vk, t) ∈ L ∧ vk % 1000 = key ∧ σ = instSt t ps ∧ inv vk ps m) (fun m => handM L fun key' ps' => ∃ m', m' < m ∧ inv key' ps' m') (fun m key σ hj => ?_) (fun m key σ' h => ?_)
    (handM L fun key' ps' => ∃ m', inv key' ps' m') (fun key σ' h => ?_) hv.entry).mono fun e w' he => ?_
  · obtain ⟨vk, t, ps, ht, rfl, rfl, hinv⟩ := hj
    exact hv.loop vk t ps m ht hinv
  · obtain ⟨vk, t, ps, ht, hk, hps, m', hlt, hinv⟩ := handM_of h
    exact ⟨m', hlt, _, hweak _ _ _ _ ht hps, vk, t, ps, ht, hk, rfl, hinv⟩
  · obtain ⟨vk, t, ps, ht, hk, hps, m', hinv⟩ := handM_of h
    exact ⟨m', _, hweak _ _ _ _ ht hps, vk, t, ps, ht, hk, rfl, hinv⟩
  · obtain ⟨x, v, h', ρ', rfl, k1, k2, k3, k4⟩ := he
    exact ⟨x, v, h', ρ', rfl, k1, k2, k3, k4⟩

/-- The contract of such a method. -/
theorem call_meth (hΓ : TabOk P Γ) (hgl : Γ.gl = keysOf Γ.gh) (hg6 : ∀ g ∈ keysOf Γ.gh, g < 600) {f : FuncId} {fn : Func} (hf : P.funcs[f]? = some fn) (hn : (fn.name == "runtime.NumGoroutine") = false) (hb : fn.body.isNone = false) (spec : List Seg → List SV → Option (List Prop × SV × List Seg))
    (h : ∀ l rest p v l', spec l rest = some (p, v, l') → AllP p → FactSegs l → FactVs rest → (∀ dm ρ cs, SegsD dm ρ l cs → 0 < cs.length) ∧ ∃ l0 args' L inv, eqSegs l l0 ∧ eqVs rest args' ∧ args'.length + 1 ≤ fn.ntmps ∧ VcM Γ fn L (Γ.gh ++ [(600, .segs false l0)]) (.p 600 0 :: args') (fun x l1 => eqV x v ∧ eqSegs l1 l') inv) : CallOk P Γ.gh f (methCtr spec) := by
  intro stamp args H rs rs' d vs w0 M ρ w hG hc hp hD hm
  obtain ⟨key, rest, l, p, v, l', rfl, hkey, hs, rfl⟩ := methCtr_run hc
  simp only [Ds] at hD
  obtain ⟨v0, vr, hv0, rfl, hvr⟩ := hD
  simp only [D] at hv0
  obtain ⟨hdk, rfl⟩ := hv0
  obtain ⟨cs, hcs, hcl, hra, hth⟩ := hm.heap.blk key _ hkey
  obtain ⟨hpos, l0, args', L, inv, k1, k2, k3, k4⟩ := h l rest p v l' hs hp (SegsD.fact l cs hcs) (Ds.fact rest vr hvr)
  have hcap : 0 < (ρ key).cap := Nat.lt_of_lt_of_le (hpos _ _ cs hcs) hcl
  obtain ⟨ρg, g1, g2, g3⟩ := mem_of_glob hG hm
  have hne : ∀ g b, (g, b) ∈ Γ.gh → g ≠ (ρ key).blk := fun g b hgb e => by
    obtain ⟨_, _, _, _, _, q1, q2⟩ := hG g b hgb
    rcases hm.own key l hkey hcap with hh | hh
    · omega
    · exact q1 (e ▸ hh)
  have hlow : ∀ k b, assoc Γ.gh k = some b → k < 600 := fun k b hb => hg6 k (keysOf_of_dm (by unfold dmOf; rw [hb]; rfl))
  have hself : assoc (Γ.gh ++ [(600, SB.segs false l0)]) 600 = some (.segs false l0) := by
    rw [assoc_app]
    split
    · rename_i x hx
      have := hlow _ _ hx; omega
    · rfl
  have hat : ∀ k b, assoc (Γ.gh ++ [(600, SB.segs false l0)]) k = some b → (k < 600 ∧ assoc Γ.gh k = some b) ∨ (k = 600 ∧ b = .segs false l0) := fun k b hb => by
    rw [assoc_app] at hb
    split at hb
    · rename_i x hx
      rw [hb] at hx
      exact .inl ⟨hlow k b hx, hx⟩
    · simp only [assoc] at hb
      split at hb
      · rename_i e
        exact .inr ⟨(Nat.eq_of_beq_eq_true e).symm, (Option.some.inj hb).symm⟩
      · cases hb
  have hup : ∀ k b, assoc Γ.gh k = some b → assoc (Γ.gh ++ [(600, SB.segs false l0)]) k = some b := fun k b hb => by rw [assoc_app, hb]
  let M' : Nat → Prop := fun b => b = (ρ key).blk
  let ρ1 : Nat → Pl := fun k => if k < 600 then ρg k else ρ key
  have hρ6 : ρ1 600 = ρ key := by simp [ρ1]
  have hρg : ∀ k, k < 600 → ρ1 k = ρg k := fun k hk => by simp [ρ1, hk]
  have hro : ∀ k b, assoc Γ.gh k = some b → ∃ l, b = .segs true l := fun k b hb => by
    obtain ⟨l, _, e, _⟩ := g2 k b (assoc_mem hb); exact ⟨l, e⟩
  have hmem : Mem w M' ρ1 (assoc (Γ.gh ++ [(600, SB.segs false l0)])) w := by
    refine ⟨⟨fun k b hb => ?_, fun k k' ro ro' l1 l2 e1 e2 hkk hr c1 c2 => ?_, fun k ro l1 e1 c1 => ?_⟩, FrameW.refl _ _, fun k l1 e1 c1 => ?_, fun k e1 => ?_⟩
    · rcases hat k b hb with ⟨hk, hb'⟩ | ⟨rfl, rfl⟩
      · refine (g1.heap.blk k b hb').of_block (fun j hj => ?_) (fun j hj => ?_) (hρg k hk) (fun _ _ _ _ => rfl)
        · unfold dmOf at hj ⊢
          obtain ⟨b', hb''⟩ := Option.isSome_iff_exists.1 hj
          rw [hup j b' hb'']; rfl
        · unfold dmOf at hj
          obtain ⟨b', hb''⟩ := Option.isSome_iff_exists.1 hj
          exact hρg j (hlow j b' hb'')
      · exact ⟨cs, eqSegs_D l l0 cs k1 hcs, by rw [hρ6]; exact hcl, by rw [hρ6]; exact hra, fun _ => by rw [hρ6]; exact hth rfl⟩
    · have hk0 : ∀ a b lx, assoc (Γ.gh ++ [(600, SB.segs false l0)]) a = some (.segs b lx) → a < 600 → (ρ1 a).blk ≠ (ρ key).blk ∧ b = true := fun a b lx ha hlt => by
        rcases hat a _ ha with ⟨_, ha'⟩ | ⟨e, _⟩
        · obtain ⟨lz, ez⟩ := hro a _ ha'
          simp only [SB.segs.injEq] at ez
          exact ⟨by rw [hρg a hlt, (g3 a).1]; exact hne a _ (assoc_mem ha'), ez.1⟩
        · omega
      rcases hat k _ e1 with ⟨h1, _⟩ | ⟨h1, _⟩
      · rcases hat k' _ e2 with ⟨h2, _⟩ | ⟨h2, _⟩
        · have := (hk0 k ro l1 e1 h1).2; have := (hk0 k' ro' l2 e2 h2).2
          rcases hr with hr | hr <;> simp_all
        · subst h2; rw [hρ6]; exact (hk0 k ro l1 e1 h1).1
      · subst h1
        rcases hat k' _ e2 with ⟨h2, _⟩ | ⟨h2, _⟩
        · rw [hρ6]; exact fun e => (hk0 k' ro' l2 e2 h2).1 e.symm
        · exact absurd h2.symm hkk
    · rcases hat k _ e1 with ⟨h1, h1'⟩ | ⟨rfl, _⟩
      · rw [hρg k h1] at c1 ⊢; exact g1.heap.lt k ro l1 h1' c1
      · rw [hρ6] at c1 ⊢; exact hm.heap.lt key false l hkey c1
    · rcases hat k _ e1 with ⟨h1, h1'⟩ | ⟨rfl, _⟩
      · obtain ⟨lz, ez⟩ := hro k _ h1'
        simp only [SB.segs.injEq] at ez
        cases ez.1
      · right; show (ρ1 600).blk = (ρ key).blk; rw [hρ6]
    · rcases hat k _ e1 with ⟨h1, h1'⟩ | ⟨_, h1⟩
      · obtain ⟨lz, ez⟩ := hro k _ h1'; cases ez
      · cases h1
  have hgo : GlOk Γ w M' ρ1 (assoc (Γ.gh ++ [(600, SB.segs false l0)])) := by
    refine ⟨fun g hg => ?_, fun g b hgb => ?_⟩
    · have hdm : dmOf (assoc Γ.gh) g := assoc_dm (by rw [← hgl]; exact hg)
      unfold dmOf at hdm
      obtain ⟨b', hb''⟩ := Option.isSome_iff_exists.1 hdm
      refine ⟨by unfold dmOf; rw [hup g b' hb'']; rfl, ?_, ?_⟩
      · rw [hρg g (hlow g b' hb'')]; exact (g3 g).1
      · rw [hρg g (hlow g b' hb'')]; exact (g3 g).2
    · obtain ⟨lz, vz, q0, q1, q2, _, q4⟩ := g2 g b hgb
      exact ⟨lz, vz, q0, q1, q2, hne g b hgb, q4⟩
  have hdm6 : dmOf (assoc (Γ.gh ++ [(600, SB.segs false l0)])) 600 := by unfold dmOf; rw [hself]; rfl
  have hargs : Ds (dmOf (assoc (Γ.gh ++ [(600, SB.segs false l0)]))) ρ1 (.p 600 0 :: args') (.pointer (some (at_ (ρ key) 0)) :: vr) := by
    simp only [Ds]
    exact ⟨_, vr, ⟨hdm6, by rw [hρ6]⟩, rfl, eqVs_Ds rest args' vr k2 hvr⟩
  refine .inr ⟨f, _, GoFn.run ⟨fn, hf, hn, hb⟩ _ _, (vcM_calls hΓ hf k4 (by simpa using k3) hgo hmem hargs).mono fun e w' he => ?_⟩
  obtain ⟨x, v', h', ρ', rfl, r1, r2, r3, r4⟩ := he
  unfold kvM at r1
  split at r1
  · rename_i l1 hl1
    obtain ⟨t1, t2⟩ := r1
    have hρ' : ρ' 600 = ρ key := by rw [(r4 600 hdm6).2, hρ6]
    obtain ⟨cs', s1, s2, s3, s4⟩ := r3.heap.blk 600 _ hl1
    rw [hρ'] at s2 s3 s4
    exact ⟨v', rfl, ρ, .refl _ _, eqV_D x v v' t1 r2, Mem.turn hm hkey hcap r3.frame (eqSegs_D l1 l' cs' t2 s1) s2 s3 (s4 rfl)⟩
  · exact r1.elim
end
end Go.Gx
