/- From a law's call to what its row asks, for laws that only read. -/
import Derived.Test.YtihihilhfijloaaDoorViews
import Derived.Test.YtihihilhfijloaaDoorCards
import Derived.Test.YtihihilhfijloaaDoorTie
import Derived.WalkKit
import Derived.ProofKit
import Derived.OpenShut
import Derived.Carry
import Derived.Deep.DeepHandedRow
import Derived.Lib.LaidTab
namespace Go.Gx
open Go.ChangeShapes Go.WideShapes Go.ChangeAt Go.RowKit
set_option linter.unusedVariables false

section
variable {P : Program}

theorem cell_int {w : World} {r : Reach} {b : Nat} {e : TypeId} {k : IntKind} {v : Value} (he : P.underlying e = some (.int k)) (h : Cell.okWide P w r b e v) : ∃ z, v = .int k z ∧ InR k z := by
  have h' : Value.okWide P w r b e v := by
    unfold Value.okWide
    rw [he]; exact h
  obtain ⟨z, rfl⟩ := okWide_int he h'
  refine ⟨z, rfl, ?_⟩
  simp only [Cell.okWide, Cell.ok, he, IntKind.has] at h
  cases k <;> simp [InR, IntKind.min, IntKind.max, IntKind.bits, IntKind.signed] at h ⊢ <;> omega

theorem ints_of {k : IntKind} : ∀ (cs : List Value), (∀ v ∈ cs, ∃ z, v = .int k z ∧ InR k z) → ∃ l : List Int, AllR k l ∧ cs = l.map (Value.int k)
  | [], _ => ⟨[], fun _ h => by simp at h, rfl⟩
  | v :: cs, h => by
    obtain ⟨l, h1, rfl⟩ := ints_of cs fun v hv => h v (by simp [hv])
    obtain ⟨z, rfl, hz⟩ := h v (by simp)
    refine ⟨z :: l, fun x hx => ?_, rfl⟩
    rcases List.mem_cons.1 hx with rfl | hx
    · exact hz
    · exact h1 x hx

/-- An argument that is an array of numbers. -/
theorem arr_arg {w : World} {r : Reach} {b : Nat} {t e : TypeId} {n : Nat} {k : IntKind} {v : Value} (ht : P.underlying t = some (.array n e)) (he : P.underlying e = some (.int k)) (hc : P.cellsOf t = n) (hts : P.cellTypes P.depth t = some (List.replicate n e)) (h : Value.okWide P w r b t v) :
    ∃ l : List Int, l.length = n ∧ AllR k l ∧ v = .agg (l.map (Value.int k)).toArray := by
  unfold Value.okWide at h
  rw [ht] at h
  obtain ⟨cs, rfl, hs, ts, hts', _, hall⟩ := h
  rw [hts] at hts'
  obtain rfl := Option.some.inj hts'
  obtain ⟨l, h1, h2⟩ := ints_of (k := k) cs.toList fun v hv => by
    obtain ⟨i, hi, rfl⟩ := List.getElem_of_mem hv
    obtain ⟨u, hu, hcell⟩ := hall i (cs.toList[i]) (by simp at hi ⊢)
    have : u = e := by
      have := List.mem_of_getElem? hu
      exact (List.mem_replicate.1 this).2
    subst this
    exact cell_int he hcell
  refine ⟨l, ?_, h1, ?_⟩
  · have := congrArg List.length h2
    simp at this
    omega
  · rw [← h2]

theorem int_arg {w : World} {r : Reach} {b : Nat} {e : TypeId} {k : IntKind} {v : Value} (he : P.underlying e = some (.int k)) (h : Value.okWide P w r b e v) : ∃ z, v = .int k z ∧ InR k z := by
  unfold Value.okWide at h
  rw [he] at h
  exact cell_int he h

/-- All arguments read behind the call as they did. -/
theorem below_trodAll {H : Type} {enc : TypeId × Value → H} {W W' : World} (hl : laidOutB P = true) (hB : Below W.heap.size W W') {sp : Nat → Bool} : ∀ {ts : List TypeId} {vs : List Value} {ds : List (DataW H)} {ps : List MemPlace},
    (∀ t ∈ ts, P.readableRec t = true ∧ t < P.types.size) → DataW.TrodAll enc P W 0 (fun _ => true) true ts vs ds ps → (∀ p ∈ ps, p.block < W.heap.size) → (∀ p ∈ ps, sp p.block = true) → DataW.TrodAll enc P W' 0 sp true ts vs ds ps
  | [], _, _, _, _, h, _, _ => by
    obtain ⟨rfl, rfl, rfl⟩ := trodAll_nil h
    exact trodAll_mk0
  | t :: ts, _, _, _, ht, h, hlt, hs => by
    obtain ⟨v, vs1, d, ds1, p, q, rfl, rfl, rfl, h1, h2⟩ := trodAll_cons h
    have := ht t (by simp)
    exact trodAll_cons_mk (WideElems.Trod_stays hl this.1 this.2 h1 (fun x hx => hB.same (hlt x (by simp [hx]))) fun x hx => hs x (by simp [hx]))
      (below_trodAll hl hB (fun t h => ht t (by simp [h])) h2 (fun x hx => hlt x (by simp [hx])) fun x hx => hs x (by simp [hx]))

/-- What a row asks behind a call that has answered true and turned nothing old. -/
theorem post_true {H : Type} {enc : TypeId × Value → H} {f : Func} {s : ChangeSpec} {tb : TypeId} {W W' : World} {args : Array Value} {ds gs : List (DataW H)} {before : List MemPlace}
    (hl : laidOutB P = true) (hv : s.vars = []) (hr : f.resultTypes = #[tb]) (hb : P.underlying tb = some .bool) (hread : ∀ t ∈ f.params.toList, P.readableRec t = true ∧ t < P.types.size)
    (hfn : ∀ ds : List (DataW H), ds.length = f.params.size → (s.fn H ds).results = [.lit (.bool true)] ∧ (s.fn H ds).args = ds ∧ (s.fn H ds).vars = [])
    (hW : DataW.Whole enc P f.params.toList s.vars false W args.toList ds gs before) (hB : Below W.heap.size W W') : s.post enc P f false true false false W args (.bool true) W' := by
  have hW' := hW
  obtain ⟨p, q, hA0, hV, rfl, hz, hn⟩ := hW
  have hA : DataW.TrodAll enc P W 0 (fun _ => true) true f.params.toList args.toList ds p := hA0
  rw [hv] at hV
  obtain ⟨rfl, rfl⟩ := trodVars_none hV
  have hlen : ds.length = f.params.size := by
    have : ∀ {ts : List TypeId} {vs : List Value} {ds : List (DataW H)} {ps : List MemPlace}, DataW.TrodAll enc P W 0 (fun _ => true) true ts vs ds ps → ds.length = ts.length := by
      intro ts
      induction ts with
      | nil => intro vs ds ps h; obtain ⟨_, rfl, _⟩ := trodAll_nil h; rfl
      | cons t ts ih => intro vs ds ps h; obtain ⟨_, _, _, _, _, _, rfl, rfl, rfl, _, h2⟩ := trodAll_cons h; simp [ih h2]
    simpa using this hA
  obtain ⟨k1, k2, k3⟩ := hfn ds hlen
  have hlt : ∀ x ∈ p, x.block < W.heap.size := fun x hx => hW'.lt x (by simp [hx])
  have hres : ∀ (b : Nat) (sp : Nat → Bool) (hd : Bool), DataW.TrodAll enc P W' b sp hd f.resultTypes.toList ((Value.bool true).resultList f.resultTypes.size) (s.fn H (ds ++ [])).results [] := fun b sp hd => by
    rw [List.append_nil, k1, hr]
    exact trodAll_cons_mk (shut_bool hb _) trodAll_mk0
  have hargs : ∀ sp : Nat → Bool, (∀ x ∈ p, sp x.block = true) → DataW.TrodAll enc P W' 0 sp true f.params.toList args.toList (s.fn H (ds ++ [])).args p := fun sp hs => by
    rw [List.append_nil, k2]
    exact below_trodAll hl hB hread hA hlt hs
  have hvars : ∀ sp : Nat → Bool, DataW.TrodVars enc P W' sp s.vars (s.fn H (ds ++ [])).vars [] := fun sp => by
    rw [List.append_nil, k3, hv]; rfl
  refine ⟨ds, [], p ++ [], [], p, [], hW', hres _ _ _, hargs _ (fun x hx => by simpa using hlt x hx), hvars _, hB.frame _, fun _ => ?_⟩
  refine ⟨ok_one hr rfl (okWide_bool_mk hb _), _, _, ([] ++ p) ++ [], ⟨[] ++ p, [], trodAll_append (hargs _ (fun _ _ => rfl)) (hres _ _ _), hvars _, rfl, ?_, ?_⟩, ?_⟩
  · intro b off hp
    have hp' : MemPlace.cell b off ∈ p := by simpa using hp
    rw [hB.frozen (hlt _ hp')]
    exact hz b off (by simpa using hp')
  · intro ha
    have := hn ha
    simpa using this
  · intro x hx _
    simpa using hx

theorem chunks {α : Type} {n : Nat} : ∀ (m : Nat) (cs : List α) (f : Nat → List α), cs.length = m * n → (∀ i, i < m → (cs.drop (i * n)).take n = f i) → cs = ((List.range m).map f).flatten
  | 0, cs, f, hl, _ => by
    have : cs = [] := List.length_eq_zero_iff.1 (by simpa using hl)
    simp [this]
  | m + 1, cs, f, hl, h => by
    have ih := chunks (n := n) m (cs.drop n) (fun i => f (i + 1)) (by rw [List.length_drop, hl, Nat.succ_mul]; omega) fun i hi => by
      rw [List.drop_drop, ← h (i + 1) (by omega), Nat.succ_mul, Nat.add_comm n]
    have h0 := h 0 (by omega)
    rw [Nat.zero_mul, List.drop_zero] at h0
    rw [List.range_succ_eq_map, List.map_cons, List.flatten_cons, List.map_map]
    conv => lhs; rw [← List.take_append_drop n cs]
    rw [h0, ih]
    rfl

/-- A listed table of rows of numbers: its cells. -/
theorem tab2_of_head {W : World} {name : String} {k : IntKind} {rows : List (List Int)} {rest : List (String × DataW Unit)} {g : Nat} {t e1 e : TypeId} {m n : Nat}
    (hg : P.globalNamed name = some g) (hty : (P.globals[g]?).map (·.type) = some t) (ht : P.underlying t = some (.array m e1)) (ht1 : P.underlying e1 = some (.array n e)) (he : P.underlying e = some (.int k)) (hce : P.cellsOf e = 1) (hc1 : P.cellsOf e1 = n) (hct : P.cellsOf t = m * n)
    (h : laidMet P ((name, .agg (rows.map (Lib.tabData k))) :: rest) W) : W.rangeAt g 0 ((List.range m).map fun i => (rows.getD i []).map (Value.int k)).flatten ∧ g < W.heap.size := by
  obtain ⟨ps, ⟨g', t', cs, fuel, p, q, hg', ht', hvar, hd, _, _⟩, _⟩ := h
  obtain rfl := Option.some.inj (hg.symm.trans hg')
  obtain rfl := Option.some.inj (hty.symm.trans ht')
  have hcs : cs.toList = ((List.range m).map fun i => (rows.getD i []).map (Value.int k)).flatten := by
    cases fuel with
    | zero => simp [DataW.trod] at hd
    | succ fuel =>
      simp only [DataW.trod, ht, hc1, hct] at hd
      split at hd
      · rename_i hl
        obtain ⟨xs, hm, hx⟩ := Option.map_eq_some_iff.1 hd
        have hxs : xs.map (·.1) = rows.map (Lib.tabData k) := by
          have := congrArg Prod.fst hx
          simpa using this
        have hxl : xs.length = m := by simpa using Lib.mapM_length hm
        have hrl : rows.length = m := by
          have := congrArg List.length hxs
          simp at this
          omega
        refine chunks m _ _ hl fun i hi => ?_
        obtain ⟨b, hb, hf⟩ := Lib.mapM_at hm i i (by simp [hi])
        have h2 : (xs.map (·.1))[i]? = some b.1 := by simp [hb]
        rw [hxs] at h2
        simp only [List.getElem?_map, Option.map_eq_some_iff] at h2
        obtain ⟨r, hr, hrb⟩ := h2
        have hf' : DataW.trod (fun _ => ()) P W 0 (fun _ => true) false fuel e1 ((cs.toList.drop (i * n)).take n) = some (Lib.tabData k r, b.2) := by
          rw [hrb]; exact hf
        rw [Lib.cells_of_tab ht1 he hce hc1 hf']
        simp [List.getD, hr]
      · cases hd
  constructor
  · rw [← hcs]
    intro j v hj
    have := World.var?_cell hg hvar j
    rw [Nat.zero_add, this]
    simpa using hj
  · unfold World.var? at hvar
    rw [hg] at hvar
    simp only [Option.bind_some] at hvar
    split at hvar
    · rename_i hh
      exact (Array.getElem?_eq_some_iff.1 hh).1
    · cases hvar

theorem mem_start (W : World) (ρ : Nat → Pl) : Mem W (fun _ => False) ρ (fun _ => none) W :=
  ⟨by constructor <;> (intros; contradiction), FrameW.refl _ _, by intros; contradiction, by intros; contradiction⟩

/-- A law as a call off a world that holds the globals: its arguments hold no pointers. -/
theorem law_calls {Γ : Tab} (hΓ : TabOk P Γ) (hgl : Γ.gl = keysOf Γ.gh) {f : FuncId} {fn : Func} (hf : P.funcs[f]? = some fn) {L : Loops} {args : List SV} {K : SV → Prop} {inv : Nat → List Pv → Nat → Prop} (hv : Vc Γ fn L Γ.gh args K inv) (hlen : args.length ≤ fn.ntmps)
    {W : World} {vs : List Value} (hG : Glob Γ.gh W fun _ => False) (ha : Ds (fun _ => False) (fun _ => ({ blk := 0, off := 0, cap := 0 } : Pl)) args vs) (hK : ∀ x, K x → ∃ e, x = .b e true) :
    Calls P f vs.toArray W fun e w' => e = .returned (.bool true) ∧ Below W.heap.size W w' := by
  obtain ⟨ρg, g1, g2, g3⟩ := mem_of_glob hG (mem_start W fun _ => ({ blk := 0, off := 0, cap := 0 } : Pl))
  have hgo : GlOk Γ W (fun _ => False) ρg (assoc Γ.gh) := ⟨fun g hg => ⟨assoc_dm (by rw [← hgl]; exact hg), (g3 g).1, (g3 g).2⟩, g2⟩
  refine (vc_calls hΓ hf hv hlen hgo g1 (Ds.mono (fun _ h => h.elim) (fun _ h => h.elim) args vs ha)).mono fun e w' he => ?_
  obtain ⟨x, v, rfl, k1, ⟨dm, ρ', k2⟩, k3⟩ := he
  obtain ⟨e, rfl⟩ := hK x k1
  simp only [D] at k2
  exact ⟨by rw [k2], k3⟩
end
end Go.Gx
