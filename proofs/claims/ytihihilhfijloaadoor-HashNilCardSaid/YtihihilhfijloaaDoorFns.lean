/- Contracts, off functions that the evaluator has run. -/
import Derived.Test.YtihihilhfijloaaDoorWalk
import Derived.Laws.Externs
namespace Go.Gx
open Go.RowKit
set_option linter.unusedVariables false

mutual
/-- The same value; what is known of it while evaluating may differ. No pointers. -/
def eqV : SV → SV → Prop
  | .i k a, .i k' c => (match keq k k' with | true => a.z = c.z | false => False)
  | .b _ x, .b _ y => x = y
  | .s x, .s y => x = y
  | .np, .np => True
  | .nsl, .nsl => True
  | .arr k n _ l, .arr k' m _ l' => (match keq k k' && Nat.beq n m with | true => l = l' | false => False)
  | .agg xs, .agg ys => eqVs xs ys
  | .tup xs, .tup ys => eqVs xs ys
  | _, _ => False
def eqVs : List SV → List SV → Prop
  | [], [] => True
  | x :: r, y :: t => eqV x y ∧ eqVs r t
  | _, _ => False
end

mutual
theorem eqV_D {dm dm' : Nat → Prop} {ρ ρ' : Nat → Pl} : ∀ (x y : SV) (v : Value), eqV x y → D dm ρ x v → D dm' ρ' y v
  | .i k a, y, v, h, hd => by
    cases y <;> simp only [eqV] at h
    split at h
    · rename_i e
      rw [← keq_eq e]
      simp only [D] at hd ⊢
      rw [← h]; exact hd
    · exact h.elim
  | .b _ x, y, v, h, hd => by
    cases y <;> simp only [eqV] at h
    simp only [D] at hd ⊢
    rw [← h]; exact hd
  | .s x, y, v, h, hd => by
    cases y <;> simp only [eqV] at h
    simp only [D] at hd ⊢
    rw [← h]; exact hd
  | .np, y, v, h, hd => by cases y <;> simp only [eqV] at h; exact hd
  | .nsl, y, v, h, hd => by cases y <;> simp only [eqV] at h; exact hd
  | .arr k n _ l, y, v, h, hd => by
    cases y <;> simp only [eqV] at h
    split at h
    · rename_i e
      simp only [Bool.and_eq_true] at e
      rw [← keq_eq e.1, ← Nat.eq_of_beq_eq_true e.2]
      simp only [D] at hd ⊢
      rw [← h]; exact hd
    · exact h.elim
  | .agg xs, y, v, h, hd => by
    cases y <;> simp only [eqV] at h
    simp only [D] at hd ⊢
    obtain ⟨cs, h1, h2⟩ := hd
    exact ⟨cs, eqVs_Cs xs _ cs h h1, h2⟩
  | .tup xs, y, v, h, hd => by
    cases y <;> simp only [eqV] at h
    simp only [D] at hd ⊢
    obtain ⟨cs, h1, h2⟩ := hd
    exact ⟨cs, eqVs_Ds xs _ cs h h1, h2⟩
  | .p _ _, y, v, h, hd => by simp [eqV] at h
  | .pd .., y, v, h, hd => by simp [eqV] at h
  | .sl .., y, v, h, hd => by simp [eqV] at h
  | .fn _, y, v, h, hd => by simp [eqV] at h
  | .ro .., y, v, h, hd => by simp [eqV] at h
  | .rop .., y, v, h, hd => by simp [eqV] at h
  | .val _, y, v, h, hd => by simp [eqV] at h
  | .any, y, v, h, hd => by simp [eqV] at h
theorem eqVs_Cs {dm dm' : Nat → Prop} {ρ ρ' : Nat → Pl} : ∀ (xs ys : List SV) (cs : List Value), eqVs xs ys → Cs dm ρ xs cs → Cs dm' ρ' ys cs
  | [], [], cs, h, hd => hd
  | x :: r, y :: t, cs, h, hd => by
    simp only [Cs] at hd ⊢
    obtain ⟨v, c, h1, h2, h3⟩ := hd
    exact ⟨v, c, eqV_D x y v h.1 h1, h2, eqVs_Cs r t c h.2 h3⟩
  | [], _ :: _, cs, h, hd => h.elim
  | _ :: _, [], cs, h, hd => h.elim
theorem eqVs_Ds {dm dm' : Nat → Prop} {ρ ρ' : Nat → Pl} : ∀ (xs ys : List SV) (cs : List Value), eqVs xs ys → Ds dm ρ xs cs → Ds dm' ρ' ys cs
  | [], [], cs, h, hd => hd
  | x :: r, y :: t, cs, h, hd => by
    simp only [Ds] at hd ⊢
    obtain ⟨v, c, h1, h2, h3⟩ := hd
    exact ⟨v, c, eqV_D x y v h.1 h1, h2, eqVs_Ds r t c h.2 h3⟩
  | [], _ :: _, cs, h, hd => h.elim
  | _ :: _, [], cs, h, hd => h.elim
end

section
variable {P : Program} {Γ : Tab} {w0 : World} {M : Nat → Prop} {ρ : Nat → Pl} {H : Nat → Option SB} {w : World}

theorem assoc_mem : ∀ {h : Heap} {k : Nat} {b : SB}, assoc h k = some b → (k, b) ∈ h
  | (k', b') :: r, k, b, hh => by
    simp only [assoc] at hh
    split at hh
    · rename_i e
      simp only [Option.some.injEq] at hh
      rw [Nat.eq_of_beq_eq_true e, hh]; simp
    · exact List.mem_cons_of_mem _ (assoc_mem hh)

theorem assoc_dm : ∀ {h : Heap} {k : Nat}, k ∈ keysOf h → dmOf (assoc h) k
  | (k', b') :: r, k, hk => by
    unfold dmOf
    simp only [assoc]
    split
    · rfl
    · rename_i e
      simp only [keysOf, List.mem_cons] at hk
      have : k ∈ keysOf r := hk.resolve_left fun e' => by subst e'; rw [Nat.beq_refl] at e; cases e
      exact assoc_dm this

/-- The heap that a call begins with. -/
theorem mem_of_glob {gh : Heap} (hG : Glob gh w0 M) (hm : Mem w0 M ρ H w) : ∃ ρg, Mem w (fun _ => False) ρg (assoc gh) w ∧ Glob gh w (fun _ => False) ∧ ∀ k, (ρg k).blk = k ∧ (ρg k).off = 0 := by
  have hat : ∀ g b, (g, b) ∈ gh → ∃ l vs, b = .segs true l ∧ SegsD (fun _ => False) (fun _ => ({ blk := 0, off := 0, cap := 0 } : Pl)) l vs ∧ w.rangeAt g 0 vs ∧ g < w.heap.size := fun g b hb => by
    obtain ⟨l, vs, h1, h2, h3, h4, h5⟩ := hG g b hb
    exact ⟨l, vs, h1, h2, rangeAt_of_block (hm.frame.block g h5 h4) h3, Nat.lt_of_lt_of_le h5 hm.frame.size⟩
  refine ⟨fun k => Pl.mk k 0 (match assoc gh k with | some (.segs _ l) => (match Classical.propDecidable (∃ vs, SegsD (fun _ => False) (fun _ => ({ blk := 0, off := 0, cap := 0 } : Pl)) l vs) with | .isTrue h => (Classical.choose h).length | .isFalse _ => 0) | _ => 0) (fun _ _ _ => False), ?_, ?_, fun k => ⟨rfl, rfl⟩⟩
  · refine ⟨⟨fun k b hb => ?_, fun k k' ro ro' l l' h1 h2 hk hr _ _ => ?_, fun k ro l h1 _ => ?_⟩, FrameW.refl _ _, fun k l h1 _ => ?_, fun k h1 => by obtain ⟨_, _, e, _⟩ := hat k _ (assoc_mem h1); cases e⟩
    · obtain ⟨l, vs, rfl, h2, h3, h4⟩ := hat k b (assoc_mem hb)
      refine ⟨vs, SegsD.mono (fun _ h => h.elim) (fun _ h => h.elim) l vs h2, ?_, h3, fun h => by cases h⟩
      have hex : ∃ vs, SegsD (fun _ => False) (fun _ => ({ blk := 0, off := 0, cap := 0 } : Pl)) l vs := ⟨vs, h2⟩
      have hu : ∀ (l : List Seg) (u v : List Value), SegsD (fun _ => False) (fun _ => ({ blk := 0, off := 0, cap := 0 } : Pl)) l u → SegsD (fun _ => False) (fun _ => ({ blk := 0, off := 0, cap := 0 } : Pl)) l v → u.length = v.length := by
        intro l
        induction l with
        | nil => intro u v hu hv; rw [show u = [] from hu, show v = [] from hv]
        | cons g r ih =>
          intro u v hu hv
          obtain ⟨a1, a2, a3, rfl, a5⟩ := hu
          obtain ⟨b1, b2, b3, rfl, b5⟩ := hv
          have := ih _ _ a5 b5
          have hg : a1.length = b1.length := by
            cases g with
            | one x => obtain ⟨_, _, _, e1⟩ := a3; obtain ⟨_, _, _, e2⟩ := b3; rw [e1, e2]; rfl
            | arr k n ex l => rw [a3.2.2, b3.2.2]
            | rowI k l => rw [a3.2, b3.2]
            | rowA k n l => rw [a3.2, b3.2]
          simp [this, hg]
      simp only [hb]
      split
      · rename_i h e
        exact Nat.le_of_eq (hu l _ _ h2 (Classical.choose_spec h))
      · rename_i h e; exact absurd hex h
    · obtain ⟨_, _, e1, _⟩ := hat k _ (assoc_mem h1)
      obtain ⟨_, _, e2, _⟩ := hat k' _ (assoc_mem h2)
      simp only [SB.segs.injEq] at e1 e2
      rw [e1.1, e2.1] at hr
      rcases hr with hr | hr <;> cases hr
    · obtain ⟨_, _, _, _, _, h⟩ := hat k _ (assoc_mem h1); exact h
    · obtain ⟨_, _, e1, _⟩ := hat k _ (assoc_mem h1)
      simp only [SB.segs.injEq] at e1
      cases e1.1
  · intro g b hb
    obtain ⟨l, vs, h1, h2, h3, h4⟩ := hat g b hb
    exact ⟨l, vs, h1, h2, h3, fun h => h, h4⟩

/-- A contract that touches no memory. -/
def pureCtr (spec : List SV → Option (List Prop × SV)) : Ctr := fun _ args =>
  match spec args with
  | some (p, v) => .ret ⟨p, v, [], true⟩
  | none => .fail

theorem pureCtr_run {spec : List SV → Option (List Prop × SV)} {stamp : Nat} {args : List SV} {rs rs' : List Nat} {d : Delta} (h : (pureCtr spec stamp args).run H rs = some (d, rs')) :
    ∃ p v, spec args = some (p, v) ∧ d = ⟨p, v, [], true⟩ := by
  unfold pureCtr at h
  split at h
  · rename_i p v e; exact ⟨p, v, e, run_ret h⟩
  · simp [RP.run] at h

/-- Sums and differences with a carry. -/
def add64S : List SV → Option (List Prop × SV)
  | [.i .u64 x, .i .u64 y, .i .u64 c] => some ([c.z ≤ 1], .tup [.i .u64 ⟨false, (x.z + y.z + c.z) % 18446744073709551616⟩, .i .u64 ⟨false, (x.z + y.z + c.z) / 18446744073709551616⟩])
  | _ => none
def _root_.Go.Sp.borI (x y c : Int) : Int := if x < y + c then 1 else 0
open Go.Sp (borI)
def sub64S : List SV → Option (List Prop × SV)
  | [.i .u64 x, .i .u64 y, .i .u64 c] => some ([c.z ≤ 1], .tup [.i .u64 ⟨false, (x.z - y.z - c.z) % 18446744073709551616⟩, .i .u64 ⟨false, borI x.z y.z c.z⟩])
  | _ => none

theorem add64_ok {gh : Heap} {f : FuncId} {fn : Func} (hf : P.funcs[f]? = some fn) (hn : (fn.name == "runtime.NumGoroutine") = false) (hb : fn.body.isNone = true) (h1 : Extern.findNext fn = none) (h2 : Extern.find fn = some Go.add64Entry) : CallOk P gh f (pureCtr add64S) := by
  intro stamp args H rs rs' d vs w0 M ρ w hG hc hp hD hm
  obtain ⟨p, v, hs, rfl⟩ := pureCtr_run hc
  unfold add64S at hs
  split at hs
  · rename_i x y c
    simp only [Option.some.injEq, Prod.mk.injEq] at hs
    obtain ⟨rfl, rfl⟩ := hs
    simp only [Ds, D] at hD
    obtain ⟨_, _, ⟨rfl, hx⟩, rfl, _, _, ⟨rfl, hy⟩, rfl, _, _, ⟨rfl, hc'⟩, rfl, rfl⟩ := hD
    simp only [InR] at hx hy hc'
    have hp := hp.1
    refine .inl ⟨_, w, .inl (by rw [run_callFunc_extern hf hn hb h1 h2]; show Result.andThen ((Go.add64Entry #[.int .u64 x.z, .int .u64 y.z, .int .u64 c.z]).run P w) _ = _; rw [Go.run_add64 x.z y.z c.z (by omega) (by omega) (by omega) (by omega)]; rfl), ρ, .refl _ _, ?_, hm⟩
    refine ⟨_, ⟨_, _, ⟨rfl, by simp only [InR]; omega⟩, rfl, _, _, ⟨rfl, by simp only [InR]; omega⟩, rfl, rfl⟩, ?_⟩
    rfl
  · cases hs

/-- The model's entry for the difference. -/
def sub64E : Array Value → Sem Value := fun args => do
  let (x, y, b) ← Extern.MathBitsCarry.three "Sub64" args
  pure (Extern.MathBitsCarry.pair ((x + Extern.MathBitsCarry.m64 - y - b) % Extern.MathBitsCarry.m64) (if x < y + b then 1 else 0))

theorem run_sub64E (x y c : Int) (hx : 0 ≤ x) (hy : 0 ≤ y) (hx' : x < 18446744073709551616) (hy' : y < 18446744073709551616) (hc0 : 0 ≤ c) (hc : c ≤ 1) (w : World) :
    (sub64E #[.int .u64 x, .int .u64 y, .int .u64 c]).run P w = .ok (.tuple #[.int .u64 ((x - y - c) % 18446744073709551616), .int .u64 (if x < y + c then 1 else 0)]) w := by
  have key : ∀ k : Nat, k ≤ 1 → (sub64E #[.int .u64 x, .int .u64 y, .int .u64 (k : Int)]).run P w =
      .ok (Extern.MathBitsCarry.pair ((x.toNat + Extern.MathBitsCarry.m64 - y.toNat - k) % Extern.MathBitsCarry.m64) (if x.toNat < y.toNat + k then 1 else 0)) w := by
    intro k hk
    have : k = 0 ∨ k = 1 := by omega
    rcases this with rfl | rfl <;> rfl
  obtain ⟨k, rfl⟩ := Int.eq_ofNat_of_zero_le hc0
  rw [key k (by omega)]
  simp only [Extern.MathBitsCarry.pair, Extern.MathBitsCarry.m64]
  congr 5
  · simp only [Int.ofNat_eq_natCast]; omega
  · by_cases h : x < y + (k : Int)
    · rw [if_pos h, if_pos (by omega)]; rfl
    · rw [if_neg h, if_neg (by omega)]; rfl

theorem sub64_ok {gh : Heap} {f : FuncId} {fn : Func} (hf : P.funcs[f]? = some fn) (hn : (fn.name == "runtime.NumGoroutine") = false) (hb : fn.body.isNone = true) (h1 : Extern.findNext fn = none) (h2 : Extern.find fn = some sub64E) : CallOk P gh f (pureCtr sub64S) := by
  intro stamp args H rs rs' d vs w0 M ρ w hG hc hp hD hm
  obtain ⟨p, v, hs, rfl⟩ := pureCtr_run hc
  unfold sub64S at hs
  split at hs
  · rename_i x y c
    simp only [Option.some.injEq, Prod.mk.injEq] at hs
    obtain ⟨rfl, rfl⟩ := hs
    simp only [Ds, D] at hD
    obtain ⟨_, _, ⟨rfl, hx⟩, rfl, _, _, ⟨rfl, hy⟩, rfl, _, _, ⟨rfl, hc'⟩, rfl, rfl⟩ := hD
    simp only [InR] at hx hy hc'
    have hp := hp.1
    refine .inl ⟨_, w, .inl (by rw [run_callFunc_extern hf hn hb h1 h2]; show Result.andThen ((sub64E #[.int .u64 x.z, .int .u64 y.z, .int .u64 c.z]).run P w) _ = _; rw [run_sub64E x.z y.z c.z (by omega) (by omega) (by omega) (by omega) (by omega) (by omega)]; rfl), ρ, .refl _ _, ?_, hm⟩
    refine ⟨_, ⟨_, _, ⟨rfl, by simp only [InR]; omega⟩, rfl, _, _, ⟨rfl, by simp only [InR, borI]; split <;> omega⟩, rfl, rfl⟩, ?_⟩
    rfl
  · cases hs

end
end Go.Gx
