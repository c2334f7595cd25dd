/- A law that reads slices, as a call off a world that holds the globals. -/
import Derived.Test.YtihihilhfijloaaDoorLift
import Derived.ChangeSlices
import Derived.SizedLaws
namespace Go.Gx
open Go.RowKit Go.ChangeShapes Go.WideShapes Go.ChangeAt
set_option linter.unusedVariables false

section
variable {P : Program}

theorem law_views {Γ : Tab} (hΓ : TabOk P Γ) (hgl : Γ.gl = keysOf Γ.gh) (hlow : ∀ g ∈ keysOf Γ.gh, g < 500) {f : FuncId} {fn : Func} (hf : P.funcs[f]? = some fn) {L : Loops} {ras : List RA} {args' : List SV} {K : SV → Prop} {inv : Nat → List Pv → Nat → Prop}
    (k1 : okArgs 500 ras args') (k3 : Vc Γ fn L (Γ.gh ++ viewH 500 ras) args' K inv) (k2 : args'.length ≤ fn.ntmps)
    {W : World} {vs : List Value} (hG : Glob Γ.gh W fun _ => False) (hR : RAsD P W (fun _ => False) (fun _ => ({ blk := 0, off := 0, cap := 0 } : Pl)) ras vs) (hK : ∀ x, K x → ∃ e, x = .b e true) :
    Calls P f vs.toArray W fun e w' => e = .returned (.bool true) ∧ Below W.heap.size W w' := by
  obtain ⟨ρg, g1, g2, g3⟩ := mem_of_glob hG (mem_start W fun _ => ({ blk := 0, off := 0, cap := 0 } : Pl))
  obtain ⟨pl, v1, v2⟩ := views_at ras args' vs 500 hR k1
  have hbelow : ∀ k b, assoc Γ.gh k = some b → k < 500 := fun k b hb => hlow k (keysOf_of_dm (by unfold dmOf; rw [hb]; rfl))
  have hat : ∀ k b, assoc (Γ.gh ++ viewH 500 ras) k = some b → (k < 500 ∧ assoc Γ.gh k = some b) ∨ (500 ≤ k ∧ assoc (viewH 500 ras) k = some b) := fun k b hb => by
    rw [assoc_app] at hb
    split at hb
    · rename_i x hx
      rw [hb] at hx
      exact .inl ⟨hbelow k b hx, hx⟩
    · exact .inr ⟨viewH_low ras 500 k b hb, hb⟩
  have hmem : Mem W (fun _ => False) (fun k => if k < 500 then ρg k else pl k) (assoc (Γ.gh ++ viewH 500 ras)) W := by
    refine mem_ro fun k b hb => ?_
    rcases hat k b hb with ⟨hk, hb⟩ | ⟨hk, hb⟩
    · simp only [hk, if_true]
      obtain ⟨l, cs, rfl, _, _, _, hlt⟩ := g2 k b (assoc_mem hb)
      obtain ⟨cs2, s1, s2, s3, _⟩ := g1.heap.blk k _ hb
      obtain ⟨_, _, e, q1, q2, _, _⟩ := g2 k _ (assoc_mem hb)
      simp only [SB.segs.injEq, true_and] at e
      subst e
      refine ⟨_, _, rfl, q1, ?_, by rw [(g3 k).1, (g3 k).2]; exact q2, fun hc => g1.heap.lt k true _ hb hc⟩
      have hu : ∀ (l : List Seg) (dm dm' : Nat → Prop) (ρ ρ' : Nat → Pl) (u v : List Value), SegsD dm ρ l u → SegsD dm' ρ' l v → u.length = v.length := by
        intro l
        induction l with
        | nil => intro _ _ _ _ u v hu hv; rw [show u = [] from hu, show v = [] from hv]
        | cons g r ih =>
          intro dm dm' ρ ρ' u v hu hv
          obtain ⟨a1, a2, a3, rfl, a5⟩ := hu
          obtain ⟨b1, b2, b3, rfl, b5⟩ := hv
          have := ih dm dm' ρ ρ' _ _ a5 b5
          have hg : a1.length = b1.length := by
            cases g with
            | one x => obtain ⟨_, _, _, e1⟩ := a3; obtain ⟨_, _, _, e2⟩ := b3; rw [e1, e2]; rfl
            | arr k n ex l => rw [a3.2.2, b3.2.2]
            | rowI k l => rw [a3.2, b3.2]
            | rowA k n l => rw [a3.2, b3.2]
          simp [this, hg]
      rw [hu _ _ _ _ _ _ _ q1 s1]
      exact s2
    · have hn : ¬ (k < 500) := by omega
      simp only [hn, if_false]
      exact v1 k b hb
  have hgo : GlOk Γ W (fun _ => False) (fun k => if k < 500 then ρg k else pl k) (assoc (Γ.gh ++ viewH 500 ras)) := by
    refine ⟨fun g hg => ?_, g2⟩
    rw [hgl] at hg
    have hk := hlow g hg
    simp only [hk, if_true]
    refine ⟨?_, (g3 g).1, (g3 g).2⟩
    have := assoc_dm hg
    unfold dmOf at this ⊢
    rw [assoc_app]
    obtain ⟨b, hb⟩ := Option.isSome_iff_exists.1 this
    rw [hb]; rfl
  have hargs : Ds (dmOf (assoc (Γ.gh ++ viewH 500 ras))) (fun k => if k < 500 then ρg k else pl k) args' vs := by
    refine v2 _ _ fun k hk => ?_
    obtain ⟨b, hb⟩ := Option.isSome_iff_exists.1 hk
    have h5 := viewH_low ras 500 k b hb
    have hn : ¬ (k < 500) := by omega
    refine ⟨?_, by simp only [hn, if_false]⟩
    unfold dmOf
    rw [assoc_app]
    split
    · rfl
    · exact hk
  refine (vc_calls hΓ hf k3 k2 hgo hmem hargs).mono fun e w' he => ?_
  obtain ⟨x, v, rfl, q1, ⟨dm, ρ', q2⟩, q3⟩ := he
  obtain ⟨e, rfl⟩ := hK x q1
  simp only [D] at q2
  exact ⟨by rw [q2], q3⟩

/-- An argument that is a slice of numbers: nil, or its numbers, which are few. -/
theorem slice_arg {H : Type} {enc : TypeId × Value → H} {W : World} {t e : TypeId} {k : IntKind} {v : Value} {d : DataW H} {ps : List MemPlace} {b : Nat} (hone : v.cells = #[v])
    (ht : P.underlying t = some (.slice e)) (he : P.underlying e = some (.int k)) (hc : P.cellsOf e = 1) (h : DataW.Trod enc P W b (fun _ => true) true t v d ps) {ts : List TypeId} {ds : List (DataW H)} {j : Nat} (hj : ts[j]? = some t) (hd : ds[j]? = some d) (hw : (DataW.weightsEach P ts ds).all (· ≤ reachBytes) = true) (hbs : 0 < P.bytesOf e) :
    (v = .slice none 0 0) ∨ ∃ zs : List Int, AllR k zs ∧ zs.length < 140737488355328 ∧ ConAt P W v (.ints k zs) ∧ ∃ ad n cap, v = .slice ad n cap := by
  obtain ⟨fuel, h⟩ := h
  rw [hone] at h
  rcases open_ints ht he hc h with ⟨h1, _⟩ | ⟨a, len, cap, zs, h1, h2, h3, h4, h5, h6, h7, h8⟩
  · left; simpa using h1
  · right
    have hv : v = .slice (some a) len cap := by simpa using h1
    have hzl : zs.length = cap := by simpa using h5
    have hdz : d = .slice (lits k (zs.take len)) (lits k (zs.drop len)) := by
      have := congrArg Prod.fst h6; simpa using this
    have hsz := sized_slice hw hj (by rw [hd, hdz]) ht
    have hll : ∀ l : List Int, (lits (H := H) k l).length = l.length := fun l => by simp [lits]
    rw [hll, hll, List.length_take, List.length_drop, hzl, Nat.min_eq_left h3] at hsz
    have hcap : cap < 2 ^ 47 := by
      have h9 := reachBytes_lt
      have : cap * 1 ≤ cap * P.bytesOf e := Nat.mul_le_mul_left _ hbs
      rw [show len + (cap - len) = cap by omega] at hsz
      omega
    have hR : AllR k zs := fun z hz => by
      have := h8 z hz
      simp only [Lit.wf, IntKind.has, Bool.and_eq_true, decide_eq_true_eq] at this
      cases k <;> simp [InR, IntKind.min, IntKind.max, IntKind.bits, IntKind.signed] at this ⊢ <;> omega
    have hRt : AllR k (zs.take len) := fun z hz => hR z (List.mem_of_mem_take hz)
    have hlen : (zs.take len).length = len := by rw [List.length_take]; omega
    have hget : ∀ i v, (((zs.take len).map (Value.int k))[i]? = some v) → W.cell? (a.add i) = some v := fun i v hv => by
      rw [List.getElem?_map, Option.map_eq_some_iff] at hv
      obtain ⟨z, hz, rfl⟩ := hv
      have hi : i < len := by have := (List.getElem?_eq_some_iff.1 hz).1; omega
      rw [List.getElem?_take, if_pos hi] at hz
      rw [h7 i (by omega)]
      simp [List.getD, hz]
    refine ⟨zs.take len, hRt, by omega, ⟨hRt, fun w' => ?_, fun ad n c' hv' => ?_, fun w' hw' m hm => ?_⟩, some a, len, cap, hv⟩
    · rw [hv]; simp [Builtin.lenOf, conLen, hlen]
    · rw [hv] at hv'
      simp only [Value.slice.injEq] at hv'
      obtain ⟨rfl, rfl, rfl⟩ := hv'
      refine ⟨by simp [conLen, hlen], h3, ?_⟩
      rcases Nat.eq_zero_or_pos cap with h0 | h0
      · exact .inl ⟨by simp only [conLen]; omega, h0⟩
      · right
        have h00 := h7 0 (by omega)
        obtain ⟨bk, of, sp⟩ := a
        have hsp : sp = none ∧ bk < W.heap.size := by
          unfold World.cell? at h00
          split at h00
          · rename_i hb
            have hb : W.heap[bk]? = _ := hb
            refine ⟨?_, (Array.getElem?_eq_some_iff.1 hb).1⟩
            split at h00
            · cases h00
            · rename_i hs
              have hs : ¬ sp.isSome = true := hs
              simpa using hs
          · cases h00
        obtain ⟨rfl, hbk⟩ := hsp
        refine ⟨bk, of, rfl, fun _ => hbk, fun i u hu => ?_⟩
        have := hget i u hu
        have ea : (⟨bk, of, none⟩ : Addr).add i = ⟨bk, of + i, none⟩ := by
          by_cases h : i = 0 <;> simp [Addr.add, h]
        rw [ea] at this
        exact this
    · rw [hv]
      have hm' : m ≤ len := by simpa [conLen, hlen] using hm
      refine firstCells_some 1 m a len cap _ (by simp only [conSize, conCells, Nat.mul_one, List.length_take, List.length_map, hlen]; omega) (fun i u hu => hw' _ _ (hget i u ?_))
      rw [List.getElem?_take] at hu
      split at hu
      · exact hu
      · cases hu
end
end Go.Gx
