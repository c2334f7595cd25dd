/- Contracts of methods that turn a record and read slices. -/
import Derived.Test.YtihihilhfijloaaDoorPtr
namespace Go.Gx
open Go.RowKit
set_option linter.unusedVariables false

section
variable {P : Program} {Γ : Tab}

/-- A callee that gets a record of the caller's (under 600) and sees rows of his (from 500 on). -/
theorem meth_core (hΓ : TabOk P Γ) (hgl : Γ.gl = keysOf Γ.gh) (hg5 : ∀ g ∈ keysOf Γ.gh, g < 500) {f : FuncId} {fn : Func} (hf : P.funcs[f]? = some fn)
    {w0 : World} {M : Nat → Prop} {ρ : Nat → Pl} {H : Nat → Option SB} {w : World} (hG : Glob Γ.gh w0 M) (hm : Mem w0 M ρ H w)
    {key : Nat} {l l0 l' : List Seg} (hkey : H key = some (.segs false l)) (hpos : ∀ dm ρ cs, SegsD dm ρ l cs → 0 < cs.length) (k1 : eqSegs l l0)
    {V : Heap} {pl : Nat → Pl} (hV : ∀ k b, assoc V k = some b → 500 ≤ k ∧ k < 600 ∧ ∃ l cs, b = .segs true l ∧ SegsD (fun _ => False) (fun _ => ({ blk := 0, off := 0, cap := 0 } : Pl)) l cs ∧ cs.length ≤ (pl k).cap ∧ w.rangeAt (pl k).blk (pl k).off cs ∧ (0 < (pl k).cap → (pl k).blk < w.heap.size ∧ (pl k).blk ≠ (ρ key).blk))
    {args' : List SV} {vr : List Value} (hargs' : ∀ (dm' : Nat → Prop) (ρ' : Nat → Pl), (∀ k, (assoc V k).isSome = true → dm' k ∧ ρ' k = pl k) → Ds dm' ρ' args' vr) (k3 : args'.length + 1 ≤ fn.ntmps)
    {v : SV} {L : Loops} {inv : Nat → List Pv → Nat → Prop} (k4 : VcM Γ fn L (Γ.gh ++ (V ++ [(600, .segs false l0)])) (.p 600 0 :: args') (fun x l1 => eqV x v ∧ eqSegs l1 l') inv) :
    Calls P f (.pointer (some (at_ (ρ key) 0)) :: vr).toArray w fun e w' => ∃ v', e = .returned v' ∧ (∀ dm ρ, D dm ρ v v') ∧ Mem w0 M ρ (updH H key (.segs false l')) w' := by
  obtain ⟨cs, hcs, hcl, hra, hth⟩ := hm.heap.blk key _ hkey
  have hcap : 0 < (ρ key).cap := Nat.lt_of_lt_of_le (hpos _ _ cs hcs) hcl
  obtain ⟨ρg, g1, g2, g3⟩ := mem_of_glob hG hm
  have hne : ∀ g b, (g, b) ∈ Γ.gh → g ≠ (ρ key).blk := fun g b hgb e => by
    obtain ⟨_, _, _, _, _, q1, q2⟩ := hG g b hgb
    rcases hm.own key l hkey hcap with hh | hh
    · omega
    · exact q1 (e ▸ hh)
  have hlow : ∀ k b, assoc Γ.gh k = some b → k < 500 := fun k b hb => hg5 k (keysOf_of_dm (by unfold dmOf; rw [hb]; rfl))
  let HH : Heap := Γ.gh ++ (V ++ [(600, SB.segs false l0)])
  have hself : assoc HH 600 = some (.segs false l0) := by
    show assoc (Γ.gh ++ (V ++ [(600, SB.segs false l0)])) 600 = _
    rw [assoc_app]
    split
    · rename_i x hx
      have := hlow _ _ hx; omega
    · rw [assoc_app]
      split
      · rename_i x hx
        have := (hV _ _ hx).2.1; omega
      · rfl
  have hat : ∀ k b, assoc HH k = some b → (k < 500 ∧ assoc Γ.gh k = some b) ∨ (500 ≤ k ∧ k < 600 ∧ assoc V k = some b) ∨ (k = 600 ∧ b = .segs false l0) := fun k b hb => by
    have hb : assoc (Γ.gh ++ (V ++ [(600, SB.segs false l0)])) k = some b := hb
    rw [assoc_app] at hb
    split at hb
    · rename_i x hx
      rw [hb] at hx
      exact .inl ⟨hlow k b hx, hx⟩
    · rw [assoc_app] at hb
      split at hb
      · rename_i x hx
        rw [hb] at hx
        exact .inr (.inl ⟨(hV k b hx).1, (hV k b hx).2.1, hx⟩)
      · simp only [assoc] at hb
        split at hb
        · rename_i e
          exact .inr (.inr ⟨(Nat.eq_of_beq_eq_true e).symm, (Option.some.inj hb).symm⟩)
        · cases hb
  have hup : ∀ k b, assoc Γ.gh k = some b → assoc HH k = some b := fun k b hb => by
    show assoc (Γ.gh ++ (V ++ [(600, SB.segs false l0)])) k = _
    rw [assoc_app, hb]
  have hupV : ∀ k b, assoc V k = some b → assoc HH k = some b := fun k b hb => by
    show assoc (Γ.gh ++ (V ++ [(600, SB.segs false l0)])) k = _
    rw [assoc_app]
    split
    · rename_i x hx
      have := hlow _ _ hx; have := (hV k b hb).1; omega
    · rw [assoc_app, hb]
  let M' : Nat → Prop := fun b => b = (ρ key).blk
  let ρ1 : Nat → Pl := fun k => if k < 500 then ρg k else if k < 600 then pl k else ρ key
  have hρ6 : ρ1 600 = ρ key := by simp [ρ1]
  have hρg : ∀ k, k < 500 → ρ1 k = ρg k := fun k hk => by simp [ρ1, hk]
  have hρv : ∀ k, 500 ≤ k → k < 600 → ρ1 k = pl k := fun k hk hk2 => by simp [ρ1, hk2]; omega
  have hro : ∀ k b, assoc Γ.gh k = some b → ∃ l, b = .segs true l := fun k b hb => by
    obtain ⟨l, _, e, _⟩ := g2 k b (assoc_mem hb); exact ⟨l, e⟩
  have hmem : Mem w M' ρ1 (assoc HH) w := by
    refine ⟨⟨fun k b hb => ?_, fun k k' ro ro' l1 l2 e1 e2 hkk hr c1 c2 => ?_, fun k ro l1 e1 c1 => ?_⟩, FrameW.refl _ _, fun k l1 e1 c1 => ?_, fun k e1 => ?_⟩
    · rcases hat k b hb with ⟨hk, hb'⟩ | ⟨hk, hk2, hb'⟩ | ⟨rfl, rfl⟩
      · refine (g1.heap.blk k b hb').of_block (fun j hj => ?_) (fun j hj => ?_) (hρg k hk) (fun _ _ _ _ => rfl)
        · unfold dmOf at hj ⊢
          obtain ⟨b', hb''⟩ := Option.isSome_iff_exists.1 hj
          rw [hup j b' hb'']; rfl
        · unfold dmOf at hj
          obtain ⟨b', hb''⟩ := Option.isSome_iff_exists.1 hj
          exact hρg j (hlow j b' hb'')
      · obtain ⟨_, _, lz, cz, rfl, z1, z2, z3, _⟩ := hV k b hb'
        exact ⟨cz, SegsD.mono (fun _ h => h.elim) (fun _ h => h.elim) lz cz z1, by rw [hρv k hk hk2]; exact z2, by rw [hρv k hk hk2]; exact z3, fun h => by cases h⟩
      · exact ⟨cs, eqSegs_D l l0 cs k1 hcs, by rw [hρ6]; exact hcl, by rw [hρ6]; exact hra, fun _ => by rw [hρ6]; exact hth rfl⟩
    · have hk0 : ∀ a b lx, assoc HH a = some (.segs b lx) → a < 600 → 0 < (ρ1 a).cap → (ρ1 a).blk ≠ (ρ key).blk ∧ b = true := fun a b lx ha hlt hca => by
        rcases hat a _ ha with ⟨ha1, ha'⟩ | ⟨ha1, ha2, ha'⟩ | ⟨e, _⟩
        · obtain ⟨lz, ez⟩ := hro a _ ha'
          simp only [SB.segs.injEq] at ez
          exact ⟨by rw [hρg a ha1, (g3 a).1]; exact hne a _ (assoc_mem ha'), ez.1⟩
        · obtain ⟨_, _, lz, cz, ez, z1, z2, z3, z4⟩ := hV a _ ha'
          simp only [SB.segs.injEq] at ez
          rw [hρv a ha1 ha2] at hca ⊢
          exact ⟨(z4 hca).2, ez.1⟩
        · omega
      have hc6 : ∀ a b lx, assoc HH a = some (.segs b lx) → a < 600 ∨ a = 600 := fun a b lx ha => by
        rcases hat a _ ha with ⟨ha1, _⟩ | ⟨_, ha2, _⟩ | ⟨e, _⟩
        · exact .inl (by omega)
        · exact .inl ha2
        · exact .inr e
      rcases hc6 k _ _ e1 with h1 | h1
      · rcases hc6 k' _ _ e2 with h2 | h2
        · have := (hk0 k ro l1 e1 h1 c1).2; have := (hk0 k' ro' l2 e2 h2 c2).2
          rcases hr with hr | hr <;> simp_all
        · subst h2; rw [hρ6]; exact (hk0 k ro l1 e1 h1 c1).1
      · subst h1
        rcases hc6 k' _ _ e2 with h2 | h2
        · rw [hρ6]; exact fun e => (hk0 k' ro' l2 e2 h2 c2).1 e.symm
        · exact absurd h2.symm hkk
    · rcases hat k _ e1 with ⟨h1, h1'⟩ | ⟨h1, h2, h1'⟩ | ⟨rfl, _⟩
      · rw [hρg k h1] at c1 ⊢; exact g1.heap.lt k ro l1 h1' c1
      · obtain ⟨_, _, lz, cz, ez, z1, z2, z3, z4⟩ := hV k _ h1'
        rw [hρv k h1 h2] at c1 ⊢; exact (z4 c1).1
      · rw [hρ6] at c1 ⊢; exact hm.heap.lt key false l hkey c1
    · rcases hat k _ e1 with ⟨h1, h1'⟩ | ⟨h1, h2, h1'⟩ | ⟨rfl, _⟩
      · obtain ⟨lz, ez⟩ := hro k _ h1'
        simp only [SB.segs.injEq] at ez
        cases ez.1
      · obtain ⟨_, _, lz, cz, ez, _⟩ := hV k _ h1'
        simp only [SB.segs.injEq] at ez
        cases ez.1
      · right; show (ρ1 600).blk = (ρ key).blk; rw [hρ6]
    · rcases hat k _ e1 with ⟨h1, h1'⟩ | ⟨h1, h2, h1'⟩ | ⟨_, h1⟩
      · obtain ⟨lz, ez⟩ := hro k _ h1'; cases ez
      · obtain ⟨_, _, lz, cz, ez, _⟩ := hV k _ h1'; cases ez
      · cases h1
  have hgo : GlOk Γ w M' ρ1 (assoc HH) := by
    refine ⟨fun g hg => ?_, fun g b hgb => ?_⟩
    · have hdm : dmOf (assoc Γ.gh) g := assoc_dm (by rw [← hgl]; exact hg)
      unfold dmOf at hdm
      obtain ⟨b', hb''⟩ := Option.isSome_iff_exists.1 hdm
      refine ⟨by unfold dmOf; rw [hup g b' hb'']; rfl, ?_, ?_⟩
      · rw [hρg g (hlow g b' hb'')]; exact (g3 g).1
      · rw [hρg g (hlow g b' hb'')]; exact (g3 g).2
    · obtain ⟨lz, vz, q0, q1, q2, _, q4⟩ := g2 g b hgb
      exact ⟨lz, vz, q0, q1, q2, hne g b hgb, q4⟩
  have hdm6 : dmOf (assoc HH) 600 := by unfold dmOf; rw [hself]; rfl
  have hargs : Ds (dmOf (assoc HH)) ρ1 (.p 600 0 :: args') (.pointer (some (at_ (ρ key) 0)) :: vr) := by
    simp only [Ds]
    refine ⟨_, vr, ⟨hdm6, by rw [hρ6]⟩, rfl, hargs' _ _ fun k hk => ?_⟩
    obtain ⟨b, hb⟩ := Option.isSome_iff_exists.1 hk
    exact ⟨by unfold dmOf; rw [hupV k b hb]; rfl, hρv k (hV k b hb).1 (hV k b hb).2.1⟩
  refine (vcM_calls hΓ hf k4 (by simpa using k3) hgo hmem hargs).mono fun e w' he => ?_
  obtain ⟨x, v', h', ρ', rfl, r1, r2, r3, r4⟩ := he
  unfold kvM at r1
  split at r1
  · rename_i l1 hl1
    obtain ⟨t1, t2⟩ := r1
    have hρ' : ρ' 600 = ρ key := by rw [(r4 600 hdm6).2, hρ6]
    obtain ⟨cs', s1, s2, s3, s4⟩ := r3.heap.blk 600 _ hl1
    rw [hρ'] at s2 s3 s4
    exact ⟨v', rfl, fun dm ρ => eqV_D x v v' t1 r2, Mem.turn hm hkey hcap r3.frame (eqSegs_D l1 l' cs' t2 s1) s2 s3 (s4 rfl)⟩
  · exact r1.elim

theorem con_est {est : Nat} {q : Con} (h : ∃ g off len p, conSeg g est off len = some (p, q)) : conSize q = est := by
  obtain ⟨g, off, len, p, h⟩ := h
  cases g <;> simp only [conSeg] at h
  · cases h
  · split at h
    · rename_i e _; simp only [Option.some.injEq, Prod.mk.injEq] at h; rw [← h.2]; exact (Nat.eq_of_beq_eq_true e).symm
    · cases h
  · split at h
    · rename_i e; simp only [Option.some.injEq, Prod.mk.injEq] at h; rw [← h.2]; exact (Nat.eq_of_beq_eq_true e).symm
    · cases h
  · split at h
    · rename_i e; simp only [Option.some.injEq, Prod.mk.injEq] at h; rw [← h.2]; exact (Nat.eq_of_beq_eq_true e).symm
    · cases h

/-- 'withCon' of a slice: its row too. -/
theorem withCon_more {w0 : World} {M : Nat → Prop} {ρ : Nat → Pl} {H : Nat → Option SB} {w : World} (hm : Mem w0 M ρ H w) {key c est : Nat} {off len : SI} {v : Value} (hx : D (dmOf H) ρ (.sl key c est off len) v) {f : List Prop → Con → RP Delta} {d : Delta} {rs rs' : List Nat} (h : (withCon (.sl key c est off len) f).run H rs = some (d, rs')) :
    ∃ p q rs1, (f p q).run H rs1 = some (d, rs') ∧ (AllP p → ConAt P w v q) ∧ ∃ ro l, H key = some (.segs ro l) ∧ ∃ g off len p, conSeg g est off len = some (p, q) := by
  have h0 := h
  unfold withCon at h
  simp only [RP.run] at h
  split at h
  · rename_i ro l hkey
    split at h
    · rename_i g hs
      split at h
      · rename_i p q hq
        obtain ⟨p', q', rs1, a1, a2⟩ := withCon_sound (P := P) hm hx (f := fun p' q' => .ret ⟨[q' = q ∧ p' = p], .any, [], false⟩) (d := ⟨[q = q ∧ p = p], .any, [], false⟩) (rs := rs) (rs' := key :: rs) (by
          unfold withCon
          simp only [RP.run, hkey, hs, hq])
        simp only [RP.run, Option.some.injEq, Prod.mk.injEq, Delta.mk.injEq, List.cons.injEq, and_true] at a1
        have e : (q' = q ∧ p' = p) := by have e0 := a1.1; simp only [and_self, eq_iff_iff, iff_true] at e0; exact e0
        obtain ⟨rfl, rfl⟩ := e
        exact ⟨p', q', _, h, a2, ro, l, hkey, g, off, len, p', hq⟩
      · simp [RP.run] at h
    · simp [RP.run] at h
  · simp [RP.run] at h

/-- A method with one slice that it reads. -/
def methvCtr (spec : List Seg → Con → Option (List Prop × SV × List Seg)) : Ctr := fun _ args =>
  match args with
  | [.p key c, .sl k1 c1 est off len] => (match Nat.beq c 0, Nat.beq k1 key with
    | true, false => withCon (.sl k1 c1 est off len) fun p q => .get key fun b => (match b with
      | some (.segs false l) => (match spec l q with
        | some (p', v, l') => .ret ⟨p ++ p', v, [(key, .segs false l')], true⟩
        | none => .fail)
      | _ => .fail)
    | _, _ => .fail)
  | _ => .fail

theorem call_methv (hΓ : TabOk P Γ) (hgl : Γ.gl = keysOf Γ.gh) (hg5 : ∀ g ∈ keysOf Γ.gh, g < 500) {f : FuncId} {fn : Func} (hf : P.funcs[f]? = some fn) (hn : (fn.name == "runtime.NumGoroutine") = false) (hb : fn.body.isNone = false) (spec : List Seg → Con → Option (List Prop × SV × List Seg)) (hnt : 2 ≤ fn.ntmps)
    (h : ∀ l q p v l', spec l q = some (p, v, l') → AllP p → FactSegs l → conOk q → ((conLen q : Nat) : Int) < 9223372036854775808 → (∀ dm ρ cs, SegsD dm ρ l cs → 0 < cs.length) ∧ ∃ l0 L inv, eqSegs l l0 ∧ VcM Γ fn L (Γ.gh ++ ([(500, .segs true [conRow q])] ++ [(600, .segs false l0)])) [.p 600 0, .sl 500 0 (conSize q) ⟨true, 0⟩ ⟨false, ((conLen q : Nat) : Int)⟩] (fun x l1 => eqV x v ∧ eqSegs l1 l') inv) : CallOk P Γ.gh f (methvCtr spec) := by
  intro stamp args H rs rs' d vs w0 M ρ w hG hc hp hD hm
  unfold methvCtr at hc
  split at hc
  · rename_i key c k1 c1 est off len
    split at hc
    · rename_i hc0 hkk
      obtain rfl : c = 0 := Nat.eq_of_beq_eq_true hc0
      have hne : k1 ≠ key := fun e => by subst e; rw [Nat.beq_refl] at hkk; cases hkk
      simp only [Ds] at hD
      obtain ⟨v0, vr, hv0, rfl, vs1, vr1, hs1, rfl, rfl⟩ := hD
      obtain ⟨p, q, rs1, hw, hq, ro, lx, hk1, hcE⟩ := withCon_more (P := P) hm hs1 hc
      simp only [RP.run] at hw
      split at hw
      · rename_i l hkey
        split at hw
        · rename_i p' v l' hs
          have e := run_ret hw; subst e
          obtain ⟨hp1, hp2⟩ := AllP.append (l := p) (r := p') hp
          have hcon := hq hp1
          have hs1' := hs1
          simp only [D] at hs1'
          obtain ⟨_, ho, hl, hr, ad, cap, rfl, hlc, hdis⟩ := hs1'
          have hv0' := hv0
          simp only [D] at hv0'
          obtain ⟨hdk, rfl⟩ := hv0'
          obtain ⟨cs, hcs, hcl, hra, hth⟩ := hm.heap.blk key _ hkey
          have hlt : ((conLen q : Nat) : Int) < 9223372036854775808 := by
            have := (hcon.at_ ad _ cap rfl).1
            simp only [InR] at hr
            omega
          obtain ⟨hpos, l0, L, inv, x1, x2⟩ := h l q p' v l' hs hp2 (SegsD.fact l cs hcs) hcon.ok hlt
          have hcap : 0 < (ρ key).cap := Nat.lt_of_lt_of_le (hpos _ _ cs hcs) hcl
          obtain ⟨e1, e2, e3⟩ := hcon.at_ ad _ cap rfl
          obtain ⟨b, o, hpl⟩ : ∃ b o, (conLen q = 0 ∧ cap = 0 ∧ b = 0 ∧ o = 0) ∨ (ad = some ⟨b, o, none⟩ ∧ (0 < conSize q * cap → b < w.heap.size) ∧ w.rangeAt b o (conCells q)) := by
            rcases e3 with ⟨a, b⟩ | ⟨b, o, a⟩
            · exact ⟨0, 0, .inl ⟨a, b, rfl, rfl⟩⟩
            · exact ⟨b, o, .inr a⟩
          have hcl' := conCells_length hcon.ok
          have hle : (conCells q).length ≤ conSize q * cap := by
            rw [hcl', Nat.mul_comm]; exact Nat.mul_le_mul_left _ (by omega)
          have hsep : 0 < conSize q * cap → b ≠ (ρ key).blk := fun h0 => by
            rcases hpl with ⟨z1, z2, _, _⟩ | ⟨ha, _, _⟩
            · rw [z2] at h0; simp at h0
            · rcases hdis with ⟨ha', hc2⟩ | ⟨_, hc0⟩
              · rw [ha'] at ha
                simp only [Option.some.injEq, at_, Addr.mk.injEq] at ha
                rw [← ha.1]
                have hest : conSize q = est := con_est hcE
                have : 0 < est * cap := by rw [← hest]; exact h0
                exact hm.heap.sep k1 key ro false lx l hk1 hkey hne (.inr rfl) (by omega) hcap
              · rw [hc0] at h0; simp at h0
          have hV : ∀ k b', assoc [(500, SB.segs true [conRow q])] k = some b' → 500 ≤ k ∧ k < 600 ∧ ∃ l cs, b' = .segs true l ∧ SegsD (fun _ => False) (fun _ => ({ blk := 0, off := 0, cap := 0 } : Pl)) l cs ∧ cs.length ≤ ({ blk := b, off := o, cap := conSize q * cap } : Pl).cap ∧ w.rangeAt b o cs ∧ (0 < conSize q * cap → b < w.heap.size ∧ b ≠ (ρ key).blk) := fun k b' hb' => by
            simp only [assoc] at hb'
            split at hb'
            · rename_i e
              have e := Nat.eq_of_beq_eq_true e
              subst e
              simp only [Option.some.injEq] at hb'
              subst hb'
              refine ⟨by omega, by omega, _, conCells q, rfl, segs_one (conRow_D hcon.ok), hle, ?_, fun h0 => ⟨?_, hsep h0⟩⟩
              · rcases hpl with ⟨z1, z2, _⟩ | ⟨_, _, hr⟩
                · have : conCells q = [] := List.eq_nil_of_length_eq_zero (by rw [hcl', z1]; simp)
                  rw [this]; exact rangeAt_nil _ _ _
                · exact hr
              · rcases hpl with ⟨z1, z2, _⟩ | ⟨_, hb, _⟩
                · rw [z2] at h0; simp at h0
                · exact hb h0
            · cases hb'
          refine .inr ⟨f, _, GoFn.run ⟨fn, hf, hn, hb⟩ _ _, (meth_core hΓ hgl hg5 hf hG hm hkey hpos x1 (pl := fun _ => { blk := b, off := o, cap := conSize q * cap }) hV (args' := [.sl 500 0 (conSize q) ⟨true, 0⟩ ⟨false, ((conLen q : Nat) : Int)⟩]) (fun dm' ρ' hk => ?_) (by simpa using hnt) x2).mono fun e w' he => ?_⟩
          · obtain ⟨k1', k2'⟩ := hk 500 (by simp only [assoc]; rfl)
            simp only [Ds]
            refine ⟨_, [], ?_, rfl, rfl⟩
            rw [e1]
            refine sl_D k1' _ hlt (by omega) ?_
            rcases hpl with ⟨z1, z2, _⟩ | ⟨hb, _, _⟩
            · exact .inr ⟨z1, z2⟩
            · left
              rw [k2']
              exact ⟨by rw [hb]; simp [at_], Nat.le_refl _⟩
          · obtain ⟨v', rfl, y1, y2⟩ := he
            exact ⟨v', rfl, ρ, .refl _ _, y1 _ _, y2⟩
        · simp [RP.run] at hw
      · simp [RP.run] at hw
    · simp [RP.run] at hc
  · simp [RP.run] at hc
end
end Go.Gx
