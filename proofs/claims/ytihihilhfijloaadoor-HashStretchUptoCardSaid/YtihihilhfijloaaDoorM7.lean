/- Part 7 of the proof: the evaluator of the code, its soundness, and what it shows of the functions. -/
import Derived.Test.YtihihilhfijloaaDoorM6
import Derived.Test.YtihihilhfijloaaDoorM5
import Derived.Test.YtihihilhfijloaaDoorM4
import Derived.Test.YtihihilhfijloaaDoorCards
import Derived.Test.YtihihilhfijloaaDoorTie
import Derived.WalkKit
import Derived.ProofKit
import Derived.OpenShut
import Derived.Carry
import Derived.Deep.DeepHandedRow
import Derived.Lib.LaidTab
import Derived.ChangeSlices
import Derived.SizedLaws
import Derived.Stop.LaidErr
import Derived.Test.YtihihilhfijloaaDoorRows

/- Contracts whose answers are lists of rows: the theorems. -/
namespace Go.Gx
open Go.RowKit
set_option linter.unusedVariables false

/-- A function up to its loops' heads; what is asked of the answer and the heap at the end. -/
def fnVcX (Γ : Tab) (fn : Func) (L : Loops) (args : List SV) (h : Heap) (KV : SV → Heap → Prop) (Q : Nat → List Pv → Prop) : Prop :=
  runFn Γ fn (loopKeysM L) args h KV (handM L Q)
def loopVcX (Γ : Tab) (fn : Func) (L : Loops) (key : Nat) (ps : List Pv) (KV : SV → Heap → Prop) (Q : Nat → List Pv → Prop) : Prop :=
  match assoc L key with
  | some t => runLoop Γ fn (loopKeysM L) (key % 1000) (instSt t ps) KV (handM L Q)
  | none => False

structure VcX (KV : SV → Heap → Prop) (Γ : Tab) (fn : Func) (L : Loops) (h : Heap) (args : List SV) (inv : Nat → List Pv → Nat → Prop) : Prop where
  low : ∀ k t, (k, t) ∈ L → ∀ g, g ∈ keysOf h → g < 1000 ∧ (assoc t.heap g).isSome = true
  loop : ∀ vk t ps m, (vk, t) ∈ L → inv vk ps m → runLoop Γ fn (loopKeysM L) (vk % 1000) (instSt t ps) KV (handM L fun key' ps' => ∃ m', m' < m ∧ inv key' ps' m')
  entry : fnVcX Γ fn L args h KV fun key' ps' => ∃ m', inv key' ps' m'

theorem vcX_noloops {KV : SV → Heap → Prop} {Γ : Tab} {fn : Func} {h : Heap} {args : List SV} (hv : fnVcX Γ fn [] args h KV fun _ _ => False) : VcX KV Γ fn [] h args fun _ _ _ => False :=
  ⟨fun k t ht => by simp at ht, fun vk t ps m ht => by simp at ht, by simpa using hv⟩

section
variable {P : Program} {Γ : Tab}

theorem vcX_calls {KV : SV → Heap → Prop} (hΓ : TabOk P Γ) {f : FuncId} {fn : Func} (hf : P.funcs[f]? = some fn) {L : Loops} {h : Heap} {args : List SV} {inv : Nat → List Pv → Nat → Prop} (hv : VcX KV Γ fn L h args inv) (hlen : args.length ≤ fn.ntmps)
    {w : World} {M : Nat → Prop} {ρg : Nat → Pl} {vs : List Value} (hgo : GlOk Γ w M ρg (assoc h)) (g1 : Mem w M ρg (assoc h) w) (ha : Ds (dmOf (assoc h)) ρg args vs) :
    Calls P f vs.toArray w fun e w' => ∃ x v h' ρ', e = .returned v ∧ KV x h' ∧ D (dmOf (assoc h')) ρ' x v ∧ Mem w M ρ' (assoc h') w' ∧ ∀ k, dmOf (assoc h) k → dmOf (assoc h') k ∧ PlLe (ρg k) (ρ' k) := by
  have hweak : ∀ vk t σ' ps, (vk, t) ∈ L → matchSt t σ' = some ps → Weak (assoc h) σ' (instSt t ps) := fun vk t σ' ps ht hm =>
    weak_of_match hm fun k hk => hv.low vk t ht k (keysOf_of_dm hk)
  refine (fn_calls hΓ hf hgo hlen ha g1 (fun m key σ => ∃ vk t ps, (vk, t) ∈ L ∧ vk % 1000 = key ∧ σ = instSt t ps ∧ inv vk ps m) (fun m => handM L fun key' ps' => ∃ m', m' < m ∧ inv key' ps' m') (fun m key σ hj => ?_) (fun m key σ' h => ?_)
    (handM L fun key' ps' => ∃ m', inv key' ps' m') (fun key σ' h => ?_) hv.entry).mono fun e w' he => ?_
  · obtain ⟨vk, t, ps, ht, rfl, rfl, hinv⟩ := hj
    exact hv.loop vk t ps m ht hinv
  · obtain ⟨vk, t, ps, ht, hk, hps, m', hlt, hinv⟩ := handM_of h
    exact ⟨m', hlt, _, hweak _ _ _ _ ht hps, vk, t, ps, ht, hk, rfl, hinv⟩
  · obtain ⟨vk, t, ps, ht, hk, hps, m', hinv⟩ := handM_of h
    exact ⟨m', _, hweak _ _ _ _ ht hps, vk, t, ps, ht, hk, rfl, hinv⟩
  · obtain ⟨x, v, h', ρ', rfl, k1, k2, k3, k4⟩ := he
    exact ⟨x, v, h', ρ', rfl, k1, k2, k3, k4⟩

theorem dm_iff {H : Nat → Option SB} {k : Nat} : dmOf H k ↔ ∃ b, H k = some b := by unfold dmOf; exact Option.isSome_iff_exists

/-- The contract of a function that answers two rows of headers over a pool of its own. -/
theorem call_famK {fp fq : Nat → Nat} (hk1' : ∀ s, fq s ≠ s) (hk2' : ∀ s, fp s ≠ s) (hk3' : ∀ s, fp s ≠ fq s) (hΓ : TabOk P Γ) (hgl : Γ.gl = keysOf Γ.gh) (hlow : ∀ g ∈ keysOf Γ.gh, g < 490) {f : FuncId} {fn : Func} (hf : P.funcs[f]? = some fn) (hn : (fn.name == "runtime.NumGoroutine") = false) (hb : fn.body.isNone = false) (k : IntKind)
    (ms : List Md) (hro : onlyRO ms = true) (spec : List AV → Option (List Prop × Hdrs × Hdrs × List (List Int)))
    (h : ∀ avs p hs gs rows, spec avs = some (p, hs, gs, rows) → AllP p → FactA avs → ∃ args' L inv, okA 600 avs args' [] ∧ args'.length ≤ fn.ntmps ∧ VcX (fun x h' => kvH2 k x h' fun hs' gs' rows' => hs' = hs ∧ gs' = gs ∧ rows' = rows) Γ fn L (Γ.gh ++ [(490, .world)]) args' inv) :
    CallOk P Γ.gh f (famCtrK fp fq k ms spec) := by
  intro stamp args H rs rs' d vs w0 M ρ w hG hc hp hD hm
  unfold famCtrK at hc
  have hks := onlyRO_keys ms args hro
  have hB : BanOk w0 M ρ H [] (fun _ => False) := ⟨fun _ _ _ _ _ _ h => h, fun _ _ _ h => h, fun _ _ _ _ _ _ _ h => h⟩
  obtain ⟨p, avs, rs1, hrun, hAs⟩ := getA_sound P hm hB ms args vs _ d rs rs' hD hc
  rw [hks] at hAs
  split at hrun
  · rename_i p' hs gs rows hsp
    simp only [RP.run] at hrun
    split at hrun
    · rename_i hk1
      simp only [RP.run] at hrun
      split at hrun
      · rename_i hk2
        simp only [RP.run] at hrun
        split at hrun
        · rename_i hk3
          have e := run_ret hrun
          have n1 := hk1' stamp
          have n2 := hk2' stamp
          have n3 := hk3' stamp
          generalize fq stamp = kq at *
          generalize fp stamp = kp at *
          subst e
          obtain ⟨hp1, hp2⟩ := AllP.append (l := p) (r := p') hp
          have hA := hAs hp1
          obtain ⟨args', L, inv, o1, o2, o3⟩ := h avs p' hs gs rows hsp hp2 (AsD.fact hm avs vs [] hA)
          obtain ⟨ρ1, m1, m2, m3, m4, m5⟩ := gen_mem (h6 := []) hG hgl hlow hm (ks := []) (fun k hk => by cases hk) List.nodup_nil (M' := fun _ => False) (fun b => ⟨fun h => h.elim, fun ⟨k, hk, _⟩ => by cases hk⟩) (fun k b hb => by cases hb) (fun i hi => absurd hi (by simp))
          have hargs := okA_args m3 m4 avs vs [] 600 args' [] hA o1 (fun i hi => absurd hi (by simp))
          refine .inr ⟨f, _, GoFn.run ⟨fn, hf, hn, hb⟩ _ _, (vcX_calls hΓ hf o3 o2 m2 m1 hargs).mono fun e w' he => ?_⟩
          obtain ⟨x, v, h', ρ', rfl, r1, r2, r3, r4⟩ := he
          obtain ⟨a, b, hs', gs', rows', u1, u2, ⟨rfl, rfl, rfl⟩, rfl, t1, t2, t3, t4⟩ := kvH2_sound r2 r1
          refine ⟨_, rfl, ?_⟩
          let ρn : Nat → Pl := fun j => if j = stamp then (match keyOf a with | some c => ρ' c | none => noPl) else if j = kq then (match keyOf b with | some c => ρ' c | none => noPl) else if j = kp then (match poolOf a b with | some c => ρ' c | none => noPl) else ρ j
          let im : Nat → Option (Option Nat) := fun j => if j = stamp then some (keyOf a) else if j = kq then some (keyOf b) else if j = kp then some (poolOf a b) else none
          let Hn := updsH H [(kp, .pool k rows'), (stamp, .segs false [.rowH kp hs']), (kq, .segs false [.rowH kp gs'])]
          have g1 : Hn stamp = some (.segs false [.rowH (kp) hs']) := by
            show updH (updH (updH H _ _) _ _) _ _ stamp = _
            rw [updH_ne (Ne.symm n1), updH_same]
          have g2 : Hn (kq) = some (.segs false [.rowH (kp) gs']) := by
            show updH (updH (updH H _ _) _ _) _ _ (kq) = _
            rw [updH_same]
          have g3 : Hn (kp) = some (.pool k rows') := by
            show updH (updH (updH H _ _) _ _) _ _ (kp) = _
            rw [updH_ne n3, updH_ne n2, updH_same]
          have g4 : ∀ j, j ≠ stamp → j ≠ kq → j ≠ kp → Hn j = H j := fun j h1 h2 h3 => by
            show updH (updH (updH H _ _) _ _) _ _ j = _
            rw [updH_ne h2, updH_ne h1, updH_ne h3]
          have q1 : ρn stamp = (match keyOf a with | some c => ρ' c | none => noPl) := by simp [ρn]
          have q2 : ρn (kq) = (match keyOf b with | some c => ρ' c | none => noPl) := by simp [ρn, n1]
          have q3 : ρn (kp) = (match poolOf a b with | some c => ρ' c | none => noPl) := by simp [ρn, n2, n3]
          have q4 : ∀ j, j ≠ stamp → j ≠ kq → j ≠ kp → ρn j = ρ j := fun j h1 h2 h3 => by simp [ρn, h1, h2, h3]
          have i1 : im stamp = some (keyOf a) := by simp [im]
          have i2 : im (kq) = some (keyOf b) := by simp [im, n1]
          have i3 : im (kp) = some (poolOf a b) := by simp [im, n2, n3]
          have i4 : ∀ j, j ≠ stamp → j ≠ kq → j ≠ kp → im j = none := fun j h1 h2 h3 => by simp [im, h1, h2, h3]
          have dp : dmOf Hn (kp) := dm_of g3
          have cases4 : ∀ j, j = stamp ∨ j = kq ∨ j = kp ∨ (j ≠ stamp ∧ j ≠ kq ∧ j ≠ kp) := fun j => by
            by_cases e1 : j = stamp
            · exact .inl e1
            · by_cases e2 : j = kq
              · exact .inr (.inl e2)
              · by_cases e3 : j = kp
                · exact .inr (.inr (.inl e3))
                · exact .inr (.inr (.inr ⟨e1, e2, e3⟩))
          have hpk : ∀ key pk, a = some (key, pk) ∨ b = some (key, pk) → ρn (kp) = ρ' pk := fun key pk hab => by
            rw [q3]
            rcases hab with rfl | rfl
            · rfl
            · cases a with
              | none => rfl
              | some p => simp only [poolOf]; rw [(t4 p _ rfl rfl).1]
          have hMem : Mem w0 M ρn Hn w' := by
            refine Mem.import hm r3 (im := im) (fun j hj => ?_) (fun j c hj => ?_) (fun j hj => ?_) (fun j j' c h1 h2 => ?_) (fun j hj => ?_) (fun b hb => hb.elim) (fun _ _ _ _ _ _ h => h) (fun _ _ _ _ _ _ _ _ h => h)
            · rcases cases4 j with rfl | rfl | rfl | ⟨e1, e2, e3⟩
              · rw [i1] at hj; cases hj
              · rw [i2] at hj; cases hj
              · rw [i3] at hj; cases hj
              · exact ⟨g4 j e1 e2 e3, fun _ => q4 j e1 e2 e3⟩
            · rcases cases4 j with rfl | rfl | rfl | ⟨e1, e2, e3⟩
              · rw [i1] at hj
                simp only [Option.some.injEq] at hj
                rw [q1, hj]
                refine ⟨rfl, .inr (.inr ?_)⟩
                cases a with
                | none => simp [keyOf] at hj
                | some p =>
                  obtain ⟨key, pk⟩ := p
                  simp only [keyOf, Option.some.injEq] at hj
                  subst hj
                  obtain ⟨_, z2, _⟩ := t1
                  exact ⟨_, _, g1, z2, HdrAt.segs (key := 0) dp (hpk key pk (.inl rfl))⟩
              · rw [i2] at hj
                simp only [Option.some.injEq] at hj
                rw [q2, hj]
                refine ⟨rfl, .inr (.inr ?_)⟩
                cases b with
                | none => simp [keyOf] at hj
                | some p =>
                  obtain ⟨key, pk⟩ := p
                  simp only [keyOf, Option.some.injEq] at hj
                  subst hj
                  obtain ⟨_, z2, _⟩ := t2
                  exact ⟨_, _, g2, z2, HdrAt.segs (key := 0) dp (hpk key pk (.inr rfl))⟩
              · rw [i3] at hj
                simp only [Option.some.injEq] at hj
                rw [q3, hj]
                refine ⟨rfl, .inr (.inl ?_)⟩
                rw [hj] at t3
                exact ⟨k, rows', g3, t3.2⟩
              · rw [i4 j e1 e2 e3] at hj; cases hj
            · rcases cases4 j with rfl | rfl | rfl | ⟨e1, e2, e3⟩
              · rw [i1] at hj
                simp only [Option.some.injEq] at hj
                rw [q1, hj]
                refine ⟨rfl, .inr (.inr ?_)⟩
                cases a with
                | none =>
                  obtain ⟨rfl, _⟩ := t1
                  exact ⟨_, g1, [], [], ⟨dp, rfl⟩, rfl, rfl⟩
                | some p => simp [keyOf] at hj
              · rw [i2] at hj
                simp only [Option.some.injEq] at hj
                rw [q2, hj]
                refine ⟨rfl, .inr (.inr ?_)⟩
                cases b with
                | none =>
                  obtain ⟨rfl, _⟩ := t2
                  exact ⟨_, g2, [], [], ⟨dp, rfl⟩, rfl, rfl⟩
                | some p => simp [keyOf] at hj
              · rw [i3] at hj
                simp only [Option.some.injEq] at hj
                rw [q3, hj]
                refine ⟨rfl, .inr (.inl ?_)⟩
                rw [hj] at t3
                have t3 : rows' = [] := t3
                subst t3
                exact ⟨k, g3⟩
              · rw [i4 j e1 e2 e3] at hj; cases hj
            · -- keys differ
              have inj : ∀ j c, im j = some (some c) → (j = stamp ∧ keyOf a = some c) ∨ (j = kq ∧ keyOf b = some c) ∨ (j = kp ∧ poolOf a b = some c) := fun j c hj => by
                rcases cases4 j with rfl | rfl | rfl | ⟨e1, e2, e3⟩
                · rw [i1] at hj; exact .inl ⟨rfl, Option.some.inj hj⟩
                · rw [i2] at hj; exact .inr (.inl ⟨rfl, Option.some.inj hj⟩)
                · rw [i3] at hj; exact .inr (.inr ⟨rfl, Option.some.inj hj⟩)
                · rw [i4 j e1 e2 e3] at hj; cases hj
              have ka : keyOf a = some c → ∃ l, assoc h' c = some (.segs false l) := fun e => by
                cases a with
                | none => cases e
                | some p => obtain ⟨key, pk⟩ := p; simp only [keyOf, Option.some.injEq] at e; subst e; exact ⟨_, t1.2.1⟩
              have kb : keyOf b = some c → ∃ l, assoc h' c = some (.segs false l) := fun e => by
                cases b with
                | none => cases e
                | some p => obtain ⟨key, pk⟩ := p; simp only [keyOf, Option.some.injEq] at e; subst e; exact ⟨_, t2.2.1⟩
              have kp : poolOf a b = some c → assoc h' c = some (.pool k rows') := fun e => by rw [e] at t3; exact t3.2
              have kab : keyOf a = some c → keyOf b = some c → False := fun e e' => by
                cases a with
                | none => cases e
                | some p =>
                  cases b with
                  | none => cases e'
                  | some q =>
                    obtain ⟨key, pk⟩ := p
                    obtain ⟨key', pk'⟩ := q
                    simp only [keyOf, Option.some.injEq] at e e'
                    exact (t4 _ _ rfl rfl).2 (e.trans e'.symm)
              rcases inj j c h1 with ⟨rfl, e⟩ | ⟨rfl, e⟩ | ⟨rfl, e⟩ <;> rcases inj j' c h2 with ⟨rfl, e'⟩ | ⟨rfl, e'⟩ | ⟨rfl, e'⟩
              · rfl
              · exact (kab e e').elim
              · obtain ⟨l, z⟩ := ka e; rw [kp e'] at z; cases z
              · exact (kab e' e).elim
              · rfl
              · obtain ⟨l, z⟩ := kb e; rw [kp e'] at z; cases z
              · obtain ⟨l, z⟩ := ka e'; rw [kp e] at z; cases z
              · obtain ⟨l, z⟩ := kb e'; rw [kp e] at z; cases z
              · rfl
            · have e1 : j ≠ stamp := fun e => by subst e; unfold dmOf at hj; rw [hk1] at hj; cases hj
              have e2 : j ≠ kq := fun e => by subst e; unfold dmOf at hj; rw [hk3] at hj; cases hj
              have e3 : j ≠ kp := fun e => by subst e; unfold dmOf at hj; rw [hk2] at hj; cases hj
              exact ⟨by unfold dmOf; rw [g4 j e1 e2 e3]; exact hj, .of_eq (q4 j e1 e2 e3)⟩
          refine ⟨ρn, fun j hj => ?_, ?_, hMem⟩
          · have e1 : j ≠ stamp := fun e => by subst e; unfold dmOf at hj; rw [hk1] at hj; cases hj
            have e2 : j ≠ kq := fun e => by subst e; unfold dmOf at hj; rw [hk3] at hj; cases hj
            have e3 : j ≠ kp := fun e => by subst e; unfold dmOf at hj; rw [hk2] at hj; cases hj
            exact .of_eq (q4 j e1 e2 e3)
          · have d1 : D (dmOf Hn) ρn (hdrSV stamp hs') u1 := t1.D (dm_of g1) fun c e => by rw [q1, e]
            have d2 : D (dmOf Hn) ρn (hdrSV (kq) gs') u2 := t2.D (dm_of g2) fun c e => by rw [q2, e]
            have c1 : u1.cells = #[u1] := (single_cell rfl d1).2
            have c2 : u2.cells = #[u2] := (single_cell rfl d2).2
            show D (dmOf Hn) ρn (.agg [hdrSV stamp hs', hdrSV (kq) gs']) _
            simp only [D, Cs]
            exact ⟨[u1, u2], ⟨u1, [u2], d1, by rw [c1]; rfl, u2, [], d2, by rw [c2]; rfl, rfl⟩, rfl⟩
        · simp [RP.run] at hrun
      · simp [RP.run] at hrun
    · simp [RP.run] at hrun
  · simp [RP.run] at hrun

theorem call_fam (hΓ : TabOk P Γ) (hgl : Γ.gl = keysOf Γ.gh) (hlow : ∀ g ∈ keysOf Γ.gh, g < 490) {f : FuncId} {fn : Func} (hf : P.funcs[f]? = some fn) (hn : (fn.name == "runtime.NumGoroutine") = false) (hb : fn.body.isNone = false) (k : IntKind)
    (ms : List Md) (hro : onlyRO ms = true) (spec : List AV → Option (List Prop × Hdrs × Hdrs × List (List Int)))
    (h : ∀ avs p hs gs rows, spec avs = some (p, hs, gs, rows) → AllP p → FactA avs → ∃ args' L inv, okA 600 avs args' [] ∧ args'.length ≤ fn.ntmps ∧ VcX (fun x h' => kvH2 k x h' fun hs' gs' rows' => hs' = hs ∧ gs' = gs ∧ rows' = rows) Γ fn L (Γ.gh ++ [(490, .world)]) args' inv) :
    CallOk P Γ.gh f (famCtr k ms spec) :=
  call_famK (fun s => by omega) (fun s => by omega) (fun s => by omega) hΓ hgl hlow hf hn hb k ms hro spec h

end
end Go.Gx

/- Lists that are handed in. -/
namespace Go.Gx
open Go.Proofs Go.Sp
set_option linter.unusedVariables false
set_option maxRecDepth 100000

def _root_.Go.Sp.marksL : List Int := [11, 12, 13, 14, 15, 16, 17, 18]
theorem marks_eq : bytesI (ByteArray.mk #[(11 : UInt8), (12 : UInt8), (13 : UInt8), (14 : UInt8), (15 : UInt8), (16 : UInt8), (17 : UInt8), (18 : UInt8)]) = marksL := by decide
theorem marks_len : (bytesI (ByteArray.mk #[(11 : UInt8), (12 : UInt8), (13 : UInt8), (14 : UInt8), (15 : UInt8), (16 : UInt8), (17 : UInt8), (18 : UInt8)])).length = 8 := by rw [marks_eq]; rfl
theorem toN0 : (0 : Int).toNat = 0 := rfl

def _root_.Go.Sp.rowsT (d : RO) (j : Nat) : List (List Int) := (List.range j).map fun i => roL (roN d i) ++ marksL
def _root_.Go.Sp.fullT (d : RO) (j : Nat) : Hdrs := (List.range j).map fun i => (i, (roL (roN d i)).length + 8)
def _root_.Go.Sp.headT (d : RO) (j : Nat) : Hdrs := (List.range j).map fun i => (i, (roL (roN d i)).length)
theorem rowsT_succ (d : RO) (j : Nat) : rowsT d (j + 1) = rowsT d j ++ [roL (roN d j) ++ marksL] := by simp [rowsT, List.range_succ]
theorem fullT_succ (d : RO) (j : Nat) : fullT d (j + 1) = fullT d j ++ [(j, (roL (roN d j)).length + 8)] := by simp [fullT, List.range_succ]
theorem headT_succ (d : RO) (j : Nat) : headT d (j + 1) = headT d j ++ [(j, (roL (roN d j)).length)] := by simp [headT, List.range_succ]
theorem rowsT_len (d : RO) (j : Nat) : (rowsT d j).length = j := by simp [rowsT]
theorem fullT_len (d : RO) (j : Nat) : (fullT d j).length = j := by simp [fullT]
theorem headT_len (d : RO) (j : Nat) : (headT d j).length = j := by simp [headT]

def Γe : Tab := ⟨tys, [], [], []⟩
def L16 : Loops := [(3, ⟨[.ro 490 (.l (.ints .u8)) (.r []), .any, .p 1000 0, .p 1002 0, .i .i64 ⟨false, 0⟩] ++ reps .any 40, [(490, .world), (1000, .segs false [.one .nsl, .one .nsl]), (1002, .segs false [.one .nsl, .one .nsl])], 2000⟩),
  (1003, ⟨[.ro 490 (.l (.ints .u8)) (.r []), .any, .p 1000 0, .p 1002 0, .i .i64 ⟨false, 0⟩] ++ reps .any 40, [(490, .world), (1000, .segs false [.one .nsl, .one .nsl]), (1002, .segs false [.one (.sl 1005 0 1 ⟨true, 0⟩ ⟨false, 0⟩), .one (.sl 1006 0 1 ⟨true, 0⟩ ⟨false, 0⟩)]), (1005, .segs false [.rowH 1007 []]), (1006, .segs false [.rowH 1007 []]), (1007, .pool .u8 [])], 2000⟩)]
def vc16 (d : RO) (KV : Hdrs → Hdrs → List (List Int) → Prop) (Q : Nat → List Pv → Prop) : Prop := fnVcX Γe Tryd.f16 L16 [.ro 490 (.l (.ints .u8)) d] ([] ++ [(490, .world)]) (fun x h => kvH2 .u8 x h KV) Q
def lc16a (d : RO) (i : Int) (KV : Hdrs → Hdrs → List (List Int) → Prop) (Q : Nat → List Pv → Prop) : Prop := loopVcX Γe Tryd.f16 L16 3 [.ro d, .z i] (fun x h => kvH2 .u8 x h KV) Q
def lc16b (d : RO) (i y z : Int) (hs gs : Hdrs) (ms : List (List Int)) (KV : Hdrs → Hdrs → List (List Int) → Prop) (Q : Nat → List Pv → Prop) : Prop := loopVcX Γe Tryd.f16 L16 1003 [.ro d, .z i, .z y, .z z, .hh hs, .hh gs, .ll ms] (fun x h => kvH2 .u8 x h KV) Q
theorem Γe_ok : TabOk Tryd.prog Γe := .nil mixed tys_ok
theorem vc16_eq : ∀ (d : RO) (KV : Hdrs → Hdrs → List (List Int) → Prop) (Q : Nat → List Pv → Prop), vc16 d KV Q = (Same Tryd.f16 (3 : Nat) (itemsOf Tryd.f16 (3 : Nat)) ∧ Q (3 : Nat) [Pv.ro d, Pv.z (0 : Int)]) := by
  intros
  kernel_rfl
theorem lc16a_eq : ∀ (d : RO) (i : Int) (KV : Hdrs → Hdrs → List (List Int) → Prop) (Q : Nat → List Pv → Prop), lc16a d i KV Q = ((decide (i < ((roX d).length : Int)) = true → Need ((0 : Int) ≤ i ∧ i < ((roX d).length : Int)) ∧ Need ((([] ++ roL (roN d i.toNat)).length : Int) * (1 : Int) ≤ (70368744177664 : Int)) ∧ ∀ (x1 : List Int), x1 = [] ++ roL (roN d i.toNat) → AllR IntKind.u8 x1 → ∀ (x2 : Int), x2 = (([] ++ roL (roN d i.toNat)).length : Int) → (0 : Int) ≤ x2 → InR IntKind.i64 x2 → Need (((x1 ++ bytesI (ByteArray.mk #[(11 : UInt8), (12 : UInt8), (13 : UInt8), (14 : UInt8), (15 : UInt8), (16 : UInt8), (17 : UInt8), (18 : UInt8)])).length : Int) * (1 : Int) ≤ (70368744177664 : Int)) ∧ Need (x2 = ↑x1.length) ∧ ∀ (x3 : List Int), x3 = x1 ++ bytesI (ByteArray.mk #[(11 : UInt8), (12 : UInt8), (13 : UInt8), (14 : UInt8), (15 : UInt8), (16 : UInt8), (17 : UInt8), (18 : UInt8)]) → AllR IntKind.u8 x3 → ∀ (x4 : Int), x4 = ((x1 ++ bytesI (ByteArray.mk #[(11 : UInt8), (12 : UInt8), (13 : UInt8), (14 : UInt8), (15 : UInt8), (16 : UInt8), (17 : UInt8), (18 : UInt8)])).length : Int) → (0 : Int) ≤ x4 → InR IntKind.i64 x4 → Need ((24 : Int) ≤ (70368744177664 : Int)) ∧ ∀ (x5 : List (List Int)), x5 = [x3] → ∀ (x6 : Int), x6 = (1 : Int) → (0 : Int) ≤ x6 → InR IntKind.i64 x6 → Need ((0 : Int) ≤ i ∧ i < ((roX d).length : Int)) ∧ Need ((0 : Int) ≤ (0 : Int) ∧ (0 : Int) ≤ ((roL (roN d i.toNat)).length : Int) ∧ ((roL (roN d i.toNat)).length : Int) ≤ x4) ∧ Need ((24 : Int) ≤ (70368744177664 : Int)) ∧ ∀ (x7 : Int), x7 = (1 : Int) → (0 : Int) ≤ x7 → InR IntKind.i64 x7 → ∀ (x8 : Int), x8 = IntKind.i64.wrap (i + (1 : Int)) → InR IntKind.i64 x8 → Same Tryd.f16 (3 : Nat) (itemsOf Tryd.f16 (3 : Nat)) ∧ Q (1003 : Nat) [Pv.ro d, Pv.z x8, Pv.z x6, Pv.z x7, Pv.hh ([] ++ [((0 : Nat), x4.toNat)]), Pv.hh ([] ++ [((0 : Nat), (((roL (roN d i.toNat)).length : Int)).toNat)]), Pv.ll x5]) ∧ (decide (i < ((roX d).length : Int)) = false → Need ((24 : Int) ≤ (70368744177664 : Int)) ∧ ∀ (x9 : List (List Int)), x9 = [[(11 : Int), (12 : Int), (13 : Int), (14 : Int), (15 : Int), (16 : Int), (17 : Int), (18 : Int)]] → ∀ (x10 : Int), x10 = (1 : Int) → (0 : Int) ≤ x10 → InR IntKind.i64 x10 → Need (x10 = (1 : Int)) ∧ KV [] ([] ++ [((0 : Nat), (8 : Nat))]) x9)) := by
  intros
  kernel_rfl
theorem lc16b_eq : ∀ (d : RO) (i y z : Int) (hs gs : Hdrs) (ms : List (List Int)) (KV : Hdrs → Hdrs → List (List Int) → Prop) (Q : Nat → List Pv → Prop), lc16b d i y z hs gs ms KV Q = ((decide (i < ((roX d).length : Int)) = true → Need ((0 : Int) ≤ i ∧ i < ((roX d).length : Int)) ∧ Need ((([] ++ roL (roN d i.toNat)).length : Int) * (1 : Int) ≤ (70368744177664 : Int)) ∧ ∀ (x1 : List Int), x1 = [] ++ roL (roN d i.toNat) → AllR IntKind.u8 x1 → ∀ (x2 : Int), x2 = (([] ++ roL (roN d i.toNat)).length : Int) → (0 : Int) ≤ x2 → InR IntKind.i64 x2 → Need (((x1 ++ bytesI (ByteArray.mk #[(11 : UInt8), (12 : UInt8), (13 : UInt8), (14 : UInt8), (15 : UInt8), (16 : UInt8), (17 : UInt8), (18 : UInt8)])).length : Int) * (1 : Int) ≤ (70368744177664 : Int)) ∧ Need (x2 = ↑x1.length) ∧ ∀ (x3 : List Int), x3 = x1 ++ bytesI (ByteArray.mk #[(11 : UInt8), (12 : UInt8), (13 : UInt8), (14 : UInt8), (15 : UInt8), (16 : UInt8), (17 : UInt8), (18 : UInt8)]) → AllR IntKind.u8 x3 → ∀ (x4 : Int), x4 = ((x1 ++ bytesI (ByteArray.mk #[(11 : UInt8), (12 : UInt8), (13 : UInt8), (14 : UInt8), (15 : UInt8), (16 : UInt8), (17 : UInt8), (18 : UInt8)])).length : Int) → (0 : Int) ≤ x4 → InR IntKind.i64 x4 → Need (↑(List.length hs + (1 : Nat)) * (24 : Int) ≤ (70368744177664 : Int)) ∧ Need (y = ↑(List.length hs)) ∧ ∀ (x5 : List (List Int)), x5 = ms ++ [x3] → ∀ (x6 : Int), x6 = ↑(List.length hs + (1 : Nat)) → (0 : Int) ≤ x6 → InR IntKind.i64 x6 → Need ((0 : Int) ≤ i ∧ i < ((roX d).length : Int)) ∧ Need ((0 : Int) ≤ (0 : Int) ∧ (0 : Int) ≤ ((roL (roN d i.toNat)).length : Int) ∧ ((roL (roN d i.toNat)).length : Int) ≤ x4) ∧ Need (↑(List.length gs + (1 : Nat)) * (24 : Int) ≤ (70368744177664 : Int)) ∧ Need (z = ↑(List.length gs)) ∧ ∀ (x7 : Int), x7 = ↑(List.length gs + (1 : Nat)) → (0 : Int) ≤ x7 → InR IntKind.i64 x7 → ∀ (x8 : Int), x8 = IntKind.i64.wrap (i + (1 : Int)) → InR IntKind.i64 x8 → Same Tryd.f16 (3 : Nat) (itemsOf Tryd.f16 (3 : Nat)) ∧ Q (1003 : Nat) [Pv.ro d, Pv.z x8, Pv.z x6, Pv.z x7, Pv.hh (hs ++ [(ms.length, x4.toNat)]), Pv.hh (gs ++ [(ms.length, (((roL (roN d i.toNat)).length : Int)).toNat)]), Pv.ll x5]) ∧ (decide (i < ((roX d).length : Int)) = false → Need (↑(List.length gs + (1 : Nat)) * (24 : Int) ≤ (70368744177664 : Int)) ∧ Need (z = ↑(List.length gs)) ∧ ∀ (x9 : List (List Int)), x9 = ms ++ [[(11 : Int), (12 : Int), (13 : Int), (14 : Int), (15 : Int), (16 : Int), (17 : Int), (18 : Int)]] → ∀ (x10 : Int), x10 = ↑(List.length gs + (1 : Nat)) → (0 : Int) ≤ x10 → InR IntKind.i64 x10 → Need (y = ↑(List.length hs)) ∧ Need (x10 = ↑(gs ++ [(ms.length, (8 : Nat))]).length) ∧ KV hs (gs ++ [(ms.length, (8 : Nat))]) x9)) := by
  intros
  kernel_rfl

/-- What is handed in, and that it fits. -/
def _root_.Go.Sp.handP (d : RO) : List Prop := [∀ i, i < (roX d).length → ((roL (roN d i)).length : Int) + 8 ≤ 70368744177664, (((roX d).length + 1 : Nat) : Int) * 24 ≤ 70368744177664]
def handG : List AV → Option (List Prop × Hdrs × Hdrs × List (List Int))
  | [.d (.l (.ints .u8)) d] => some (handP d, fullT d (roX d).length, headT d (roX d).length ++ [((roX d).length, 8)], rowsT d (roX d).length ++ [marksL])
  | _ => none
def inv16 (d : RO) (key : Nat) (ps : List Pv) (mm : Nat) : Prop :=
  (key = 3 ∧ ps = [.ro d, .z 0] ∧ mm = (roX d).length + 1) ∨
  (key = 1003 ∧ ∃ j : Nat, 0 < j ∧ j ≤ (roX d).length ∧ ps = [.ro d, .z (j : Int), .z (j : Int), .z (j : Int), .hh (fullT d j), .hh (headT d j), .ll (rowsT d j)] ∧ mm = (roX d).length - j)
theorem handG_ok : CallOk Tryd.prog [] 16 (famCtr .u8 [.d (.l (.ints .u8))] handG) := by
  refine call_fam (Γ := Γe) (fn := Tryd.f16) Γe_ok rfl (fun g hg => by cases hg) rfl (by kernel_rfl) (by kernel_rfl) .u8 _ rfl handG fun av p hs gs rows hsp hp hf => ?_
  unfold handG at hsp
  split at hsp
  · rename_i d
    simp only [Option.some.injEq, Prod.mk.injEq] at hsp
    obtain ⟨rfl, rfl, rfl, rfl⟩ := hsp
    obtain ⟨h1, h2, _⟩ := hp
    obtain ⟨⟨_, hlen⟩, _⟩ := hf
    refine ⟨[.ro 490 (.l (.ints .u8)) d], L16, inv16 d, ⟨rfl, trivial⟩, Nat.le_of_ble_eq_true (by kernel_rfl), ?_, ?_, ?_⟩
    · intro kk t ht g hg
      have hg : g ∈ [490] := hg
      simp only [List.mem_cons, List.not_mem_nil, or_false] at hg
      subst hg
      simp only [L16, List.mem_cons, List.not_mem_nil, or_false, Prod.mk.injEq] at ht
      obtain ⟨rfl, rfl⟩ | ⟨rfl, rfl⟩ := ht <;> exact ⟨by omega, rfl⟩
    · rintro vk t ps mm ht (⟨rfl, rfl, rfl⟩ | ⟨rfl, j, hj0, hj, rfl, rfl⟩)
      all_goals simp only [L16, List.mem_cons, List.not_mem_nil, or_false, Prod.mk.injEq, Nat.reduceEqDiff, false_and, true_and, false_or, or_false] at ht
      · subst ht
        show lc16a d 0 _ _
        rw [lc16a_eq]
        refine ⟨fun hlt => ?_, fun hge => ?_⟩
        · have hlt := of_decide_eq_true hlt
          have hjl : 0 < (roX d).length := by omega
          have hb := h1 0 hjl
          refine ⟨need_of (by omega), need_of (by rw [toN0]; simp; omega), ?_⟩
          intro x1 e1 _ x2 e2 _ _
          rw [toN0] at e1 e2
          rw [List.nil_append] at e1 e2
          subst e1; subst e2
          refine ⟨need_of (by rw [List.length_append, marks_len]; omega), need_of rfl, ?_⟩
          intro x3 e3 _ x4 e4 _ _
          rw [marks_eq] at e3 e4
          have el : (roL (roN d 0) ++ marksL).length = (roL (roN d 0)).length + 8 := by simp [marksL]
          rw [el] at e4
          subst e3; subst e4
          refine ⟨need_of (by omega), ?_⟩
          intro x5 e5 x6 e6 _ _
          refine ⟨need_of (by omega), need_of (by rw [toN0]; omega), need_of (by omega), ?_⟩
          intro x7 e7 _ _ x8 e8 _
          rw [wrap_i64 (by omega)] at e8
          rw [toN0]
          
          subst e5; subst e6; subst e7; subst e8
          refine ⟨rfl, (roX d).length - (0 + 1), by omega, Or.inr ⟨rfl, 0 + 1, by omega, by omega, ?_, rfl⟩⟩
          rw [fullT_succ, headT_succ, rowsT_succ]
          rfl
        · have hge := of_decide_eq_false hge
          have h0 : (roX d).length = 0 := by omega
          refine ⟨need_of (by omega), ?_⟩
          intro x9 e9 x10 e10 _ _
          refine ⟨need_of e10, ?_⟩
          rw [h0, e9]
          exact ⟨rfl, rfl, rfl⟩
      · subst ht
        show lc16b d (j : Int) (j : Int) (j : Int) (fullT d j) (headT d j) (rowsT d j) _ _
        rw [lc16b_eq]
        refine ⟨fun hlt => ?_, fun hge => ?_⟩
        · have hlt := of_decide_eq_true hlt
          have hjl : j < (roX d).length := by omega
          have hb := h1 j hjl
          refine ⟨need_of (by omega), need_of (by rw [Int.toNat_natCast]; simp; omega), ?_⟩
          intro x1 e1 _ x2 e2 _ _
          rw [Int.toNat_natCast] at e1 e2
          rw [List.nil_append] at e1 e2
          subst e1; subst e2
          refine ⟨need_of (by rw [List.length_append, marks_len]; omega), need_of rfl, ?_⟩
          intro x3 e3 _ x4 e4 _ _
          rw [marks_eq] at e3 e4
          have el : (roL (roN d j) ++ marksL).length = (roL (roN d j)).length + 8 := by simp [marksL]
          rw [el] at e4
          subst e3; subst e4
          refine ⟨need_of (by rw [fullT_len]; omega), need_of (by rw [fullT_len]), ?_⟩
          intro x5 e5 x6 e6 _ _
          refine ⟨need_of (by omega), need_of (by rw [Int.toNat_natCast]; omega), need_of (by rw [headT_len]; omega), need_of (by rw [headT_len]), ?_⟩
          intro x7 e7 _ _ x8 e8 _
          rw [wrap_i64 (by omega)] at e8
          rw [Int.toNat_natCast]
          rw [fullT_len] at e6; rw [headT_len] at e7; rw [rowsT_len]
          subst e5; subst e6; subst e7; subst e8
          refine ⟨rfl, (roX d).length - (j + 1), by omega, Or.inr ⟨rfl, j + 1, by omega, by omega, ?_, rfl⟩⟩
          rw [fullT_succ, headT_succ, rowsT_succ]
          rfl
        · have hge := of_decide_eq_false hge
          obtain rfl : j = (roX d).length := by omega
          refine ⟨need_of (by rw [headT_len]; omega), need_of (by rw [headT_len]), ?_⟩
          intro x9 e9 x10 e10 _ _
          refine ⟨need_of (by rw [fullT_len]), need_of (by rw [e10, headT_len, List.length_append, headT_len]; rfl), rfl, ?_, ?_⟩
          · rw [rowsT_len]
          · rw [e9]; rfl
    · show vc16 d _ _
      rw [vc16_eq]
      exact ⟨rfl, _, Or.inl ⟨rfl, rfl, rfl⟩⟩
  · cases hsp
end Go.Gx

/- Contracts of what is done to lists of rows: all turned in their places; a part of them handed on. -/
namespace Go.Gx
open Go.RowKit
set_option linter.unusedVariables false

/-- All rows of a pool turned; the answer is a row of headers over a pool of its own. -/
def turnCtrK (kp : Nat → Nat) (k : IntKind) (spec : Hdrs → Hdrs → List (List Int) → Option (List Prop × List (List Int) × Hdrs × List (List Int))) : Ctr := fun stamp args =>
  match args with
  | [.agg [.sl f 0 1 ⟨true, .ofNat 0⟩ n, .sl g 0 1 ⟨true, .ofNat 0⟩ m]] => .get f fun b => (match b with
    | some (.segs false [.rowH p hs]) => .get g fun b => (match b with
      | some (.segs false [.rowH p' gs]) => (match Nat.beq p p' with
        | true => .get p fun b => (match b with
          | some (.pool k' ms) => (match keq k' k, spec hs gs ms with
            | true, some (pre, ms', hs2, rows2) => .get stamp fun b => (match b with
              | none => .get (kp stamp) fun b => (match b with
                | none => .ret ⟨(n.z = (hs.length : Int)) :: (m.z = (gs.length : Int)) :: pre, hdrSV stamp hs2, [(p, .pool k ms'), (kp stamp, .pool k rows2), (stamp, .segs false [.rowH (kp stamp) hs2])], true⟩
                | some _ => .fail)
              | some _ => .fail)
            | _, _ => .fail)
          | _ => .fail)
        | false => .fail)
      | _ => .fail)
    | _ => .fail)
  | _ => .fail
def turnCtr (k : IntKind) (spec : Hdrs → Hdrs → List (List Int) → Option (List Prop × List (List Int) × Hdrs × List (List Int))) : Ctr := turnCtrK (fun s => s + 500000) k spec

/-- The pool at the end, and the answer. -/
def kvT (k : IntKind) (x : SV) (h : Heap) (K : List (List Int) → Hdrs → List (List Int) → Prop) : Prop :=
  match assoc h 600 with
  | some (.pool k' ms) => (match keq k' k with | true => kvH1 k x h fun hs rows => K ms hs rows | false => False)
  | _ => False

def turnH (k : IntKind) (hs gs : Hdrs) (ms : List (List Int)) : Heap := [(600, .pool k ms), (601, .segs true [.rowH 600 hs]), (602, .segs true [.rowH 600 gs])]
def turnA (hs gs : Hdrs) : List SV := [.agg [.sl 601 0 1 ⟨true, .ofNat 0⟩ ⟨false, (hs.length : Int)⟩, .sl 602 0 1 ⟨true, .ofNat 0⟩ ⟨false, (gs.length : Int)⟩]]

theorem Hdrs.move {H' Hn : Nat → Option SB} {ρ' ρn : Nat → Pl} {pk pn : Nat} (hd : dmOf Hn pn) (hρ : ρn pn = ρ' pk) : ∀ (hs : Hdrs) (cs : List Value), HdrsD (dmOf H') ρ' pk hs cs → HdrsD (dmOf Hn) ρn pn hs cs
  | [], cs, h => h
  | x :: t, cs, h => by
    obtain ⟨v, c, a1, a2, a3⟩ := h
    refine ⟨v, c, ?_, a2, Hdrs.move hd hρ t c a3⟩
    simp only [D] at a1 ⊢
    rw [hρ]
    exact ⟨hd, a1.2⟩

section
variable {P : Program} {Γ : Tab}

theorem call_turnK {fp : Nat → Nat} (hk2' : ∀ s, fp s ≠ s) (hΓ : TabOk P Γ) (hgl : Γ.gl = []) (hgh : Γ.gh = []) {f : FuncId} {fn : Func} (hf : P.funcs[f]? = some fn) (hn : (fn.name == "runtime.NumGoroutine") = false) (hb : fn.body.isNone = false) (k : IntKind)
    (spec : Hdrs → Hdrs → List (List Int) → Option (List Prop × List (List Int) × Hdrs × List (List Int)))
    (h : ∀ hs gs ms p ms' hs2 rows2, spec hs gs ms = some (p, ms', hs2, rows2) → AllP p → (∀ i, i < ms.length → AllR k (ms.getD i [])) → ∃ L inv, 1 ≤ fn.ntmps ∧ VcX (fun x h' => kvT k x h' fun a b c => a = ms' ∧ b = hs2 ∧ c = rows2) Γ fn L (turnH k hs gs ms) (turnA hs gs) inv) :
    CallOk P [] f (turnCtrK fp k spec) := by
  intro stamp args H rs rs' d vs w0 M ρ w hG hc hp hD hm
  unfold turnCtrK at hc
  split at hc
  · rename_i kf n kg m
    simp only [RP.run] at hc
    split at hc
    · rename_i p hs hkf
      simp only [RP.run] at hc
      split at hc
      · rename_i p' gs hkg
        split at hc
        · rename_i hpp
          have hpp := Nat.eq_of_beq_eq_true hpp
          subst hpp
          simp only [RP.run] at hc
          split at hc
          · rename_i k' ms hkp
            split at hc
            · rename_i pre ms' hs2 rows2 hkk hsp
              have hkk := keq_eq hkk
              subst hkk
              simp only [RP.run] at hc
              split at hc
              · rename_i hk1
                simp only [RP.run] at hc
                split at hc
                · rename_i hk2
                  have e := run_ret hc
                  have n2 := hk2' stamp
                  generalize fp stamp = kp at *
                  subst e
                  obtain ⟨hl1, hl2, hp⟩ := hp
                  have hP := hm.pools.pool p k' ms hkp
                  obtain ⟨L, inv, o2, o3⟩ := h hs gs ms pre ms' hs2 rows2 hsp hp (fun i hi => by
                    have : ms[i]? = some (ms.getD i []) := by rw [List.getD_eq_getElem?_getD, List.getElem?_eq_getElem hi]; rfl
                    exact (hP.row i _ this).1)
                  let M' : Nat → Prop := fun b => ∃ i, i < ms.length ∧ 0 < (ρ p).pc i ∧ b = (ρ p).pb i
                  let ρ1 : Nat → Pl := fun j => if j = 600 then ρ p else if j = 601 then ρ kf else ρ kg
                  have e600 : assoc (turnH k' hs gs ms) 600 = some (.pool k' ms) := rfl
                  have e601 : assoc (turnH k' hs gs ms) 601 = some (.segs true [.rowH 600 hs]) := rfl
                  have e602 : assoc (turnH k' hs gs ms) 602 = some (.segs true [.rowH 600 gs]) := rfl
                  have hat : ∀ j b, assoc (turnH k' hs gs ms) j = some b → (j = 600 ∧ b = .pool k' ms) ∨ (j = 601 ∧ b = .segs true [.rowH 600 hs]) ∨ (j = 602 ∧ b = .segs true [.rowH 600 gs]) := fun j b hb => by
                    simp only [turnH, assoc] at hb
                    split at hb
                    · rename_i e; exact .inl ⟨(Nat.eq_of_beq_eq_true e).symm, by simpa using hb.symm⟩
                    · split at hb
                      · rename_i e; exact .inr (.inl ⟨(Nat.eq_of_beq_eq_true e).symm, by simpa using hb.symm⟩)
                      · split at hb
                        · rename_i e; exact .inr (.inr ⟨(Nat.eq_of_beq_eq_true e).symm, by simpa using hb.symm⟩)
                        · cases hb
                  have d600 : dmOf (assoc (turnH k' hs gs ms)) 600 := dm_of e600
                  have hdr : ∀ (key : Nat) (xs : Hdrs), H key = some (.segs false [.rowH p xs]) → ∃ vs, SegsD (dmOf (assoc (turnH k' hs gs ms))) ρ1 [.rowH 600 xs] vs ∧ vs.length ≤ (ρ key).cap ∧ w.rangeAt (ρ key).blk (ρ key).off vs := fun key xs hkey => by
                    obtain ⟨vs, s1, s2, s3, _⟩ := hm.heap.blk key _ hkey
                    obtain ⟨c1, c2, ⟨_, q⟩, rfl, q2⟩ := s1
                    have q' : HdrsD (dmOf (assoc (turnH k' hs gs ms))) ρ1 600 xs c1 := Hdrs.move (H' := H) (ρ' := ρ) (pk := p) d600 (show ρ1 600 = ρ p from if_pos rfl) xs c1 q
                    exact ⟨c1 ++ c2, ⟨c1, c2, ⟨d600, q'⟩, rfl, q2⟩, s2, s3⟩
                  have g1 : Mem w M' ρ1 (assoc (turnH k' hs gs ms)) w := by
                    refine ⟨⟨fun j b hb => ?_, fun j j' ro ro' l l' h1 h2 _ hro _ _ => ?_, fun j ro l h1 c1 => ?_⟩, FrameW.refl _ _, fun j l h1 _ => ?_, fun j h1 => ?_, fun j l h1 _ => ?_, ⟨fun j kd ms0 hj => ?_, fun j kd ms0 j' ro l i h1 h2 c1 hi c2 => ?_, fun j kd ms0 j' kd' ms1 i i' h1 h2 hjj _ _ _ _ => ?_⟩⟩
                    · rcases hat j b hb with ⟨rfl, rfl⟩ | ⟨rfl, rfl⟩ | ⟨rfl, rfl⟩
                      · trivial
                      · obtain ⟨vs, s1, s2, s3⟩ := hdr kf hs hkf
                        exact ⟨vs, s1, s2, s3, fun h => by cases h⟩
                      · obtain ⟨vs, s1, s2, s3⟩ := hdr kg gs hkg
                        exact ⟨vs, s1, s2, s3, fun h => by cases h⟩
                    · have t : ∀ j ro l, assoc (turnH k' hs gs ms) j = some (.segs ro l) → ro = true := fun j ro l h => by
                        rcases hat j _ h with ⟨_, e⟩ | ⟨_, e⟩ | ⟨_, e⟩
                        · cases e
                        · simp only [SB.segs.injEq] at e; exact e.1
                        · simp only [SB.segs.injEq] at e; exact e.1
                      rw [t j ro l h1, t j' ro' l' h2] at hro
                      rcases hro with h | h <;> cases h
                    · rcases hat j _ h1 with ⟨_, e⟩ | ⟨rfl, e⟩ | ⟨rfl, e⟩
                      · cases e
                      · exact hm.heap.lt kf false _ hkf c1
                      · exact hm.heap.lt kg false _ hkg c1
                    · rcases hat j _ h1 with ⟨_, e⟩ | ⟨_, e⟩ | ⟨_, e⟩ <;> simp at e
                    · rcases hat j _ h1 with ⟨_, e⟩ | ⟨_, e⟩ | ⟨_, e⟩ <;> cases e
                    · rcases hat j _ h1 with ⟨_, e⟩ | ⟨_, e⟩ | ⟨_, e⟩ <;> simp at e
                    · rcases hat j _ hj with ⟨rfl, e⟩ | ⟨_, e⟩ | ⟨_, e⟩
                      · simp only [SB.pool.injEq] at e
                        obtain ⟨rfl, rfl⟩ := e
                        exact ⟨hP.cnt, hP.row, hP.lt, fun i hi hc => .inr ⟨i, hi, hc, rfl⟩, hP.clean, hP.sep⟩
                      · cases e
                      · cases e
                    · rcases hat j _ h1 with ⟨rfl, e⟩ | ⟨_, e⟩ | ⟨_, e⟩
                      · simp only [SB.pool.injEq] at e
                        obtain ⟨rfl, rfl⟩ := e
                        rcases hat j' _ h2 with ⟨_, e⟩ | ⟨rfl, e⟩ | ⟨rfl, e⟩
                        · cases e
                        · exact hm.pools.apart p kd ms0 kf false _ i hkp hkf c1 hi c2
                        · exact hm.pools.apart p kd ms0 kg false _ i hkp hkg c1 hi c2
                      · cases e
                      · cases e
                    · rcases hat j _ h1 with ⟨rfl, e⟩ | ⟨_, e⟩ | ⟨_, e⟩
                      · rcases hat j' _ h2 with ⟨rfl, e⟩ | ⟨_, e⟩ | ⟨_, e⟩
                        · exact absurd rfl hjj
                        · cases e
                        · cases e
                      · cases e
                      · cases e
                  have hgo : GlOk Γ w M' ρ1 (assoc (turnH k' hs gs ms)) := ⟨fun g hg => (by rw [hgl] at hg; cases hg), (by rw [hgh]; intro g b hgb; cases hgb)⟩
                  have hargs : Ds (dmOf (assoc (turnH k' hs gs ms))) ρ1 (turnA hs gs) vs := by
                    have sl : ∀ (key j : Nat) (xs : Hdrs) (len : SI) (u : Value), ρ1 j = ρ key → dmOf (assoc (turnH k' hs gs ms)) j → len.z = (xs.length : Int) → D (dmOf H) ρ (.sl key 0 1 ⟨true, .ofNat 0⟩ len) u → D (dmOf (assoc (turnH k' hs gs ms))) ρ1 (.sl j 0 1 ⟨true, .ofNat 0⟩ ⟨false, (xs.length : Int)⟩) u := fun key j xs len u h1 h2 h3 h4 => by
                      simp only [D] at h4 ⊢
                      rw [h3] at h4
                      rw [h1]
                      exact ⟨h2, h4.2⟩
                    simp only [Ds, turnA] at hD ⊢
                    obtain ⟨u, c, hu, rfl, rfl⟩ := hD
                    refine ⟨u, [], ?_, rfl, rfl⟩
                    simp only [D, Cs] at hu
                    obtain ⟨cs, ⟨u1, c1, d1, rfl, u2, c2, d2, rfl, rfl⟩, rfl⟩ := hu
                    show D _ _ (.agg _) _
                    rw [D]
                    refine ⟨_, ?_, rfl⟩
                    simp only [Cs]
                    exact ⟨u1, _, sl kf 601 hs n u1 rfl (dm_of e601) hl1 d1, rfl, u2, [], sl kg 602 gs m u2 rfl (dm_of e602) hl2 d2, rfl, rfl⟩
                  refine .inr ⟨f, _, GoFn.run ⟨fn, hf, hn, hb⟩ _ _, (vcX_calls hΓ hf o3 o2 hgo g1 hargs).mono fun e w' he => ?_⟩
                  obtain ⟨x, v, h', ρ', rfl, r1, r2, r3, r4⟩ := he
                  unfold kvT at r1
                  split at r1
                  · rename_i k2 msz hz
                    split at r1
                    · rename_i hkk2
                      have hkk2 := keq_eq hkk2
                      subst hkk2
                      obtain ⟨a, hs', rows', ⟨rfl, rfl, rfl⟩, t1, t3⟩ := kvH1_sound r2 r1
                      refine ⟨v, rfl, ?_⟩
                      have hne1 : p ≠ stamp := fun e => by rw [e, hk1] at hkp; cases hkp
                      have hne2 : p ≠ kp := fun e => by rw [e, hk2] at hkp; cases hkp
                      let ρn : Nat → Pl := fun j => if j = stamp then (match keyOf a with | some c => ρ' c | none => noPl) else if j = kp then (match poolOf a none with | some c => ρ' c | none => noPl) else if j = p then ρ' 600 else ρ j
                      let im : Nat → Option (Option Nat) := fun j => if j = stamp then some (keyOf a) else if j = kp then some (poolOf a none) else if j = p then some (some 600) else none
                      let Hn := updsH H [(p, .pool k2 msz), (kp, .pool k2 rows'), (stamp, .segs false [.rowH kp hs'])]
                      have z1 : Hn stamp = some (.segs false [.rowH kp hs']) := by
                        show updH (updH (updH H _ _) _ _) _ _ stamp = _
                        rw [updH_same]
                      have z2 : Hn kp = some (.pool k2 rows') := by
                        show updH (updH (updH H _ _) _ _) _ _ kp = _
                        rw [updH_ne n2, updH_same]
                      have z3 : Hn p = some (.pool k2 msz) := by
                        show updH (updH (updH H _ _) _ _) _ _ p = _
                        rw [updH_ne hne1, updH_ne hne2, updH_same]
                      have z4 : ∀ j, j ≠ stamp → j ≠ kp → j ≠ p → Hn j = H j := fun j h1 h2 h3 => by
                        show updH (updH (updH H _ _) _ _) _ _ j = _
                        rw [updH_ne h1, updH_ne h2, updH_ne h3]
                      have q1 : ρn stamp = (match keyOf a with | some c => ρ' c | none => noPl) := by simp [ρn]
                      have q2 : ρn kp = (match poolOf a none with | some c => ρ' c | none => noPl) := by simp [ρn, n2]
                      have q3 : ρn p = ρ' 600 := by simp [ρn, hne1, hne2]
                      have q4 : ∀ j, j ≠ stamp → j ≠ kp → j ≠ p → ρn j = ρ j := fun j h1 h2 h3 => by simp [ρn, h1, h2, h3]
                      have i1 : im stamp = some (keyOf a) := by simp [im]
                      have i2 : im kp = some (poolOf a none) := by simp [im, n2]
                      have i3 : im p = some (some 600) := by simp [im, hne1, hne2]
                      have i4 : ∀ j, j ≠ stamp → j ≠ kp → j ≠ p → im j = none := fun j h1 h2 h3 => by simp [im, h1, h2, h3]
                      have dp : dmOf Hn kp := dm_of z2
                      have le6 : PlLe (ρ p) (ρ' 600) := (r4 600 d600).2
                      have cases4 : ∀ j, j = stamp ∨ j = kp ∨ j = p ∨ (j ≠ stamp ∧ j ≠ kp ∧ j ≠ p) := fun j => by
                        by_cases e1 : j = stamp
                        · exact .inl e1
                        · by_cases e2 : j = kp
                          · exact .inr (.inl e2)
                          · by_cases e3 : j = p
                            · exact .inr (.inr (.inl e3))
                            · exact .inr (.inr (.inr ⟨e1, e2, e3⟩))
                      have hpk : ∀ key pk, a = some (key, pk) → ρn kp = ρ' pk := fun key pk hab => by rw [q2, hab]; rfl
                      have inone : ∀ j, im j = none → j ≠ p := fun j hj e => by subst e; rw [i3] at hj; cases hj
                      have hle : ∀ j, dmOf H j → dmOf Hn j ∧ PlLe (ρ j) (ρn j) := fun j hj => by
                        have e1 : j ≠ stamp := fun e => by subst e; unfold dmOf at hj; rw [hk1] at hj; cases hj
                        have e2 : j ≠ kp := fun e => by subst e; unfold dmOf at hj; rw [hk2] at hj; cases hj
                        by_cases e3 : j = p
                        · subst e3; exact ⟨dm_of z3, by rw [q3]; exact le6⟩
                        · exact ⟨by unfold dmOf; rw [z4 j e1 e2 e3]; exact hj, .of_eq (q4 j e1 e2 e3)⟩
                      have hMem : Mem w0 M ρn Hn w' := by
                        refine Mem.import hm r3 (im := im) (fun j hj => ?_) (fun j c hj => ?_) (fun j hj => ?_) (fun j j' c h1 h2 => ?_) hle (fun b hb => ?_) (fun j ro l hj hjk c1 hb => ?_) (fun j kd ms0 i hj hjk hi c1 hb => ?_)
                        · rcases cases4 j with rfl | rfl | rfl | ⟨e1, e2, e3⟩
                          · rw [i1] at hj; cases hj
                          · rw [i2] at hj; cases hj
                          · rw [i3] at hj; cases hj
                          · exact ⟨z4 j e1 e2 e3, fun _ => q4 j e1 e2 e3⟩
                        · rcases cases4 j with rfl | rfl | rfl | ⟨e1, e2, e3⟩
                          · rw [i1] at hj
                            simp only [Option.some.injEq] at hj
                            rw [q1, hj]
                            refine ⟨rfl, .inr (.inr ?_)⟩
                            cases a with
                            | none => simp [keyOf] at hj
                            | some pq =>
                              obtain ⟨key, pk⟩ := pq
                              simp only [keyOf, Option.some.injEq] at hj
                              subst hj
                              obtain ⟨_, z2, _⟩ := t1
                              exact ⟨_, _, z1, z2, HdrAt.segs (key := 0) dp (hpk key pk rfl)⟩
                          · rw [i2] at hj
                            simp only [Option.some.injEq] at hj
                            rw [q2, hj]
                            refine ⟨rfl, .inr (.inl ?_)⟩
                            rw [hj] at t3
                            exact ⟨k2, rows', z2, t3.2⟩
                          · rw [i3] at hj
                            simp only [Option.some.injEq] at hj
                            subst hj
                            exact ⟨q3, .inr (.inl ⟨k2, msz, z3, hz⟩)⟩
                          · rw [i4 j e1 e2 e3] at hj; cases hj
                        · rcases cases4 j with rfl | rfl | rfl | ⟨e1, e2, e3⟩
                          · rw [i1] at hj
                            simp only [Option.some.injEq] at hj
                            rw [q1, hj]
                            refine ⟨rfl, .inr (.inr ?_)⟩
                            cases a with
                            | none =>
                              obtain ⟨rfl, _⟩ := t1
                              exact ⟨_, z1, [], [], ⟨dp, rfl⟩, rfl, rfl⟩
                            | some pq => simp [keyOf] at hj
                          · rw [i2] at hj
                            simp only [Option.some.injEq] at hj
                            rw [q2, hj]
                            refine ⟨rfl, .inr (.inl ?_)⟩
                            rw [hj] at t3
                            have t3 : rows' = [] := t3
                            subst t3
                            exact ⟨k2, z2⟩
                          · rw [i3] at hj; cases hj
                          · rw [i4 j e1 e2 e3] at hj; cases hj
                        · have inj : ∀ j c, im j = some (some c) → (j = stamp ∧ keyOf a = some c) ∨ (j = kp ∧ poolOf a none = some c) ∨ (j = p ∧ c = 600) := fun j c hj => by
                            rcases cases4 j with rfl | rfl | rfl | ⟨e1, e2, e3⟩
                            · rw [i1] at hj; exact .inl ⟨rfl, Option.some.inj hj⟩
                            · rw [i2] at hj; exact .inr (.inl ⟨rfl, Option.some.inj hj⟩)
                            · rw [i3] at hj; exact .inr (.inr ⟨rfl, by simpa using hj.symm⟩)
                            · rw [i4 j e1 e2 e3] at hj; cases hj
                          have ka : keyOf a = some c → 1000 ≤ c ∧ ∃ l, assoc h' c = some (.segs false l) := fun e => by
                            cases a with
                            | none => cases e
                            | some p => obtain ⟨key, pk⟩ := p; simp only [keyOf, Option.some.injEq] at e; subst e; exact ⟨t1.1, _, t1.2.1⟩
                          have kpp : poolOf a none = some c → 1000 ≤ c ∧ assoc h' c = some (.pool k2 rows') := fun e => by rw [e] at t3; exact t3
                          rcases inj j c h1 with ⟨rfl, e⟩ | ⟨rfl, e⟩ | ⟨rfl, e⟩ <;> rcases inj j' c h2 with ⟨rfl, e'⟩ | ⟨rfl, e'⟩ | ⟨rfl, e'⟩
                          · rfl
                          · obtain ⟨_, l, z⟩ := ka e; rw [(kpp e').2] at z; cases z
                          · have := (ka e).1; omega
                          · obtain ⟨_, l, z⟩ := ka e'; rw [(kpp e).2] at z; cases z
                          · rfl
                          · have := (kpp e).1; omega
                          · have := (ka e').1; omega
                          · have := (kpp e').1; omega
                          · rfl
                        · obtain ⟨i, hi, hc, rfl⟩ := hb
                          exact hP.own i hi hc
                        · obtain ⟨i, hi, hc, e⟩ := hb
                          exact hm.pools.apart p k2 ms j ro l i hkp hjk c1 hi hc e
                        · obtain ⟨i', hi', hc', e⟩ := hb
                          exact hm.pools.two j kd ms0 p k2 ms i i' hjk hkp (inone j hj) hi hi' c1 hc' e
                      exact ⟨ρn, fun j hj => (hle j hj).2, t1.D (dm_of z1) fun c e => by rw [q1, e], hMem⟩
                    · exact r1.elim
                  · exact r1.elim
                · simp [RP.run] at hc
              · simp [RP.run] at hc
            · simp [RP.run] at hc
          · simp [RP.run] at hc
        · simp [RP.run] at hc
      · simp [RP.run] at hc
    · simp [RP.run] at hc
  · simp [RP.run] at hc

theorem call_turn (hΓ : TabOk P Γ) (hgl : Γ.gl = []) (hgh : Γ.gh = []) {f : FuncId} {fn : Func} (hf : P.funcs[f]? = some fn) (hn : (fn.name == "runtime.NumGoroutine") = false) (hb : fn.body.isNone = false) (k : IntKind)
    (spec : Hdrs → Hdrs → List (List Int) → Option (List Prop × List (List Int) × Hdrs × List (List Int)))
    (h : ∀ hs gs ms p ms' hs2 rows2, spec hs gs ms = some (p, ms', hs2, rows2) → AllP p → (∀ i, i < ms.length → AllR k (ms.getD i [])) → ∃ L inv, 1 ≤ fn.ntmps ∧ VcX (fun x h' => kvT k x h' fun a b c => a = ms' ∧ b = hs2 ∧ c = rows2) Γ fn L (turnH k hs gs ms) (turnA hs gs) inv) :
    CallOk P [] f (turnCtr k spec) := call_turnK (fun s => by omega) hΓ hgl hgh hf hn hb k spec h

/-! ### A part of the second row handed on -/

def givenCtr : Ctr := fun stamp args =>
  match args with
  | [.agg [.sl f 0 1 ⟨true, .ofNat 0⟩ n, .sl g 0 1 ⟨true, .ofNat 0⟩ m]] => .ret ⟨[n.z ≤ m.z], .sl g 0 1 ⟨true, .ofNat 0⟩ n, [], false⟩
  | _ => .fail

def givenH : Heap := [(601, .gone), (602, .gone)]
def givenA (n m : Int) : List SV := [.agg [.sl 601 0 1 ⟨true, .ofNat 0⟩ ⟨false, n⟩, .sl 602 0 1 ⟨true, .ofNat 0⟩ ⟨false, m⟩]]

theorem call_given (hΓ : TabOk P Γ) (hgl : Γ.gl = []) (hgh : Γ.gh = []) {f : FuncId} {fn : Func} (hf : P.funcs[f]? = some fn) (hn : (fn.name == "runtime.NumGoroutine") = false) (hb : fn.body.isNone = false)
    (h : ∀ n m : Int, 0 ≤ n → n ≤ m → 1 ≤ fn.ntmps ∧ VcX (fun x h' => ∃ z : Int, x = .sl 602 0 1 ⟨true, .ofNat 0⟩ ⟨false, z⟩ ∧ z = n) Γ fn [] givenH (givenA n m) fun _ _ _ => False) :
    CallOk P [] f givenCtr := by
  intro stamp args H rs rs' d vs w0 M ρ w hG hc hp hD hm
  unfold givenCtr at hc
  split at hc
  · rename_i kf n kg m
    have e := run_ret hc
    subst e
    have hle : n.z ≤ m.z := hp.1
    simp only [Ds] at hD
    obtain ⟨u, c, hu, rfl, rfl⟩ := hD
    simp only [D, Cs] at hu
    obtain ⟨cs, ⟨u1, c1, d1, rfl, u2, c2, d2, rfl, rfl⟩, rfl⟩ := hu
    obtain ⟨o2, o3⟩ := h n.z m.z d1.2.2.1 hle
    let ρ1 : Nat → Pl := fun j => if j = 601 then ρ kf else ρ kg
    have hat : ∀ j b, assoc givenH j = some b → b = .gone := fun j b hb => by
      simp only [givenH, assoc] at hb
      split at hb
      · simpa using hb.symm
      · split at hb
        · simpa using hb.symm
        · cases hb
    have g1 : Mem w (fun _ => False) ρ1 (assoc givenH) w := by
      refine ⟨⟨fun j b hb => ?_, fun j j' ro ro' l l' h1 => ?_, fun j ro l h1 => ?_⟩, FrameW.refl _ _, fun j l h1 => ?_, fun j h1 => ?_, fun j l h1 => ?_, .none fun j kd ms h1 => ?_⟩
      · rw [hat j b hb]; trivial
      all_goals (have := hat _ _ h1; cases this)
    have hgo : GlOk Γ w (fun _ => False) ρ1 (assoc givenH) := ⟨fun g hg => (by rw [hgl] at hg; cases hg), (by rw [hgh]; intro g b hgb; cases hgb)⟩
    have e1 : dmOf (assoc givenH) 601 := dm_of (b := .gone) rfl
    have e2 : dmOf (assoc givenH) 602 := dm_of (b := .gone) rfl
    have hargs : Ds (dmOf (assoc givenH)) ρ1 (givenA n.z m.z) [.agg (u1.cells.toList ++ (u2.cells.toList ++ [])).toArray] := by
      simp only [Ds, givenA]
      refine ⟨_, [], ?_, rfl, rfl⟩
      rw [D]
      refine ⟨_, ?_, rfl⟩
      simp only [Cs]
      refine ⟨u1, _, ?_, rfl, u2, [], ?_, rfl, rfl⟩
      · simp only [D]; exact ⟨e1, d1.2⟩
      · simp only [D]; exact ⟨e2, d2.2⟩
    refine .inr ⟨f, _, GoFn.run ⟨fn, hf, hn, hb⟩ _ _, (vcX_calls hΓ hf o3 o2 hgo g1 hargs).mono fun e w' he => ?_⟩
    obtain ⟨x, v, h', ρ', rfl, ⟨z, rfl, rfl⟩, r2, r3, r4⟩ := he
    refine ⟨v, rfl, ρ, .refl _ _, ?_, ?_⟩
    · have le := (r4 602 e2).2
      simp only [D] at r2 ⊢
      have e3 : at_ (ρ' 602) = at_ (ρ kg) := by
        funext c
        simp only [at_, le.blk, le.off]
        rfl
      rw [e3, le.cap] at r2
      exact ⟨d2.1, r2.2⟩
    · exact hm.keep (r3.frame.below fun _ h => h)
  · simp [RP.run] at hc

end
end Go.Gx

/- What is handed in, handed on; turned in its place. -/
namespace Go.Gx
open Go.Proofs Go.Sp
set_option linter.unusedVariables false
set_option maxRecDepth 100000

def vc17 (n m : Int) (KV : SV → Prop) (Q : Nat → List Pv → Prop) : Prop := fnVcX Γe Tryd.f17 [] (givenA n m) givenH (fun x _ => KV x) Q
theorem vc17_eq : ∀ (n m : Int) (KV : SV → Prop) (Q : Nat → List Pv → Prop), vc17 n m KV Q = (Need ((0 : Int) ≤ (0 : Int) ∧ (0 : Int) ≤ n ∧ n ≤ m) ∧ KV (SV.sl (602 : Nat) (0 : Nat) (1 : Nat) { st := true, z := (0 : Int) } { st := false, z := n })) := by
  intros
  kernel_rfl

theorem given_ok : CallOk Tryd.prog [] 17 givenCtr := by
  refine call_given (Γ := Γe) (fn := Tryd.f17) Γe_ok rfl rfl rfl (by kernel_rfl) (by kernel_rfl) fun n m h1 h2 => ⟨Nat.le_of_ble_eq_true (by kernel_rfl), vcX_noloops ?_⟩
  show vc17 n m (fun x => ∃ z : Int, x = .sl 602 0 1 ⟨true, .ofNat 0⟩ ⟨false, z⟩ ∧ z = n) _
  rw [vc17_eq]
  exact ⟨need_of ⟨by omega, by omega, h2⟩, n, rfl, rfl⟩

/-! ### turned -/

def _root_.Go.Sp.turnRow (m : List Int) (l : Nat) : List Int := (m.take l).map (fun z => xorI .u8 z 59) ++ m.drop l
theorem turnRow_len (m : List Int) (l : Nat) : (turnRow m l).length = m.length := by simp [turnRow]; omega
theorem turnRow_zero (m : List Int) : turnRow m 0 = m := by simp [turnRow]
theorem turnRow_getD (m : List Int) (j : Nat) (h : j < m.length) : (turnRow m j).getD j 0 = m.getD j 0 := by
  have : ((m.take j).map (fun z => xorI .u8 z 59)).length = j := by simp; omega
  rw [turnRow, List.getD_eq_getElem?_getD, List.getElem?_append_right (by omega), this, Nat.sub_self, List.getElem?_drop, List.getD_eq_getElem?_getD, Nat.add_zero]
theorem turnRow_set (m : List Int) (j : Nat) (h : j < m.length) : (turnRow m j).set j (xorI .u8 (m.getD j 0) 59) = turnRow m (j + 1) := by
  apply List.ext_getElem?
  intro i
  have hl := turnRow_len m j
  have e1 : ∀ l i, (turnRow m l)[i]? = if i < l then (m[i]?).map (fun z => xorI .u8 z 59) else m[i]? := by
    intro l i
    simp only [turnRow, List.getElem?_append, List.length_map, List.length_take, List.getElem?_map, List.getElem?_take, List.getElem?_drop]
    by_cases c : i < l
    · by_cases c2 : i < m.length
      · rw [if_pos (by omega), if_pos c, if_pos c]
      · rw [if_neg (by omega), if_pos c]
        rw [List.getElem?_eq_none (by omega), List.getElem?_eq_none (by omega)]; rfl
    · by_cases c2 : l ≤ m.length
      · rw [if_neg (by omega), if_neg c, show l + (i - min l m.length) = i by omega]
      · rw [if_neg (by omega), if_neg c]
        rw [List.getElem?_eq_none (by omega), List.getElem?_eq_none (by omega)]
  rw [e1]
  by_cases c : i = j
  · subst c
    rw [List.getElem?_set_self (by omega), if_pos (by omega), List.getD_eq_getElem?_getD, List.getElem?_eq_getElem h]
    rfl
  · rw [List.getElem?_set_ne (Ne.symm c), e1]
    by_cases c2 : i < j
    · rw [if_pos c2, if_pos (by omega)]
    · rw [if_neg c2, if_neg (by omega)]

/-- The rows where 'i' are turned, and 'j' numbers of the next. -/
def _root_.Go.Sp.msT (gs : Hdrs) (ms : List (List Int)) (i j : Nat) : List (List Int) := (List.range ms.length).map fun r => turnRow (ms.getD r []) (if r < i then (gs.getD r (0, 0)).2 else if r = i then j else 0)
theorem msT_len (gs : Hdrs) (ms : List (List Int)) (i j : Nat) : (msT gs ms i j).length = ms.length := by simp [msT]
theorem msT_at (gs : Hdrs) (ms : List (List Int)) (i j r : Nat) (h : r < ms.length) : (msT gs ms i j).getD r [] = turnRow (ms.getD r []) (if r < i then (gs.getD r (0, 0)).2 else if r = i then j else 0) := by
  simp [msT, List.getD_eq_getElem?_getD, h]
theorem msT_zero (gs : Hdrs) (ms : List (List Int)) : msT gs ms 0 0 = ms := by
  apply List.ext_getElem
  · simp [msT]
  · intro i h1 h2
    simp [msT, turnRow_zero, List.getD_eq_getElem?_getD, h2]
theorem msT_next (gs : Hdrs) (ms : List (List Int)) (i : Nat) : msT gs ms i (gs.getD i (0, 0)).2 = msT gs ms (i + 1) 0 := by
  apply List.map_congr_left
  intro r _
  congr 1
  by_cases c : r < i
  · rw [if_pos c, if_pos (by omega)]
  · by_cases c2 : r = i
    · subst c2; rw [if_neg c, if_pos rfl, if_pos (by omega)]
    · rw [if_neg c, if_neg c2, if_neg (by omega)]
      by_cases c3 : r = i + 1
      · rw [if_pos c3]
      · rw [if_neg c3]
theorem msT_set (gs : Hdrs) (ms : List (List Int)) (i j : Nat) (hi : i < ms.length) : (msT gs ms i j).set i (turnRow (ms.getD i []) (j + 1)) = msT gs ms i (j + 1) := by
  apply List.ext_getElem
  · simp [msT]
  · intro r h1 h2
    rw [List.getElem_set]
    by_cases c : i = r
    · subst c
      rw [if_pos rfl]
      simp [msT]
    · rw [if_neg c]
      simp only [msT, List.getElem_map, List.getElem_range, if_neg (Ne.symm c)]

def _root_.Go.Sp.hs2 (gs : Hdrs) (i : Nat) : Hdrs := (List.range i).map fun r => (r, (gs.getD r (0, 0)).2)
def _root_.Go.Sp.rows2 (gs : Hdrs) (ms : List (List Int)) (i : Nat) : List (List Int) := (List.range i).map fun r => List.take (gs.getD r (0, 0)).2 (turnRow (ms.getD r []) (gs.getD r (0, 0)).2)
theorem hs2_len (gs : Hdrs) (i : Nat) : (hs2 gs i).length = i := by simp [hs2]
theorem rows2_len (gs : Hdrs) (ms : List (List Int)) (i : Nat) : (rows2 gs ms i).length = i := by simp [rows2]
theorem hs2_succ (gs : Hdrs) (i : Nat) : hs2 gs (i + 1) = hs2 gs i ++ [(i, (gs.getD i (0, 0)).2)] := by simp [hs2, List.range_succ]
theorem rows2_succ (gs : Hdrs) (ms : List (List Int)) (i : Nat) : rows2 gs ms (i + 1) = rows2 gs ms i ++ [List.take (gs.getD i (0, 0)).2 (turnRow (ms.getD i []) (gs.getD i (0, 0)).2)] := by simp [rows2, List.range_succ]

def H20 : Heap := [(600, .pool .u8 []), (601, .segs true [.rowH 600 []]), (602, .segs true [.rowH 600 []]), (1000, .segs false [.one (.sl 601 0 1 ⟨true, .ofNat 0⟩ ⟨false, 0⟩), .one (.sl 602 0 1 ⟨true, .ofNat 0⟩ ⟨false, 0⟩)])]
def O20 : Heap := [(1005, .segs false [.rowH 1006 []]), (1006, .pool .u8 [])]
def T20 (out j : SV) : List SV := [.any, .p 1000 0, .nsl, out, .i .i64 ⟨false, 0⟩, j] ++ reps .any 43
def o20 : SV := .sl 1005 0 1 ⟨true, .ofNat 0⟩ ⟨false, 0⟩
def L20 : Loops := [(3, ⟨T20 .nsl .any, H20, 2000⟩), (1003, ⟨T20 o20 .any, H20 ++ O20, 2000⟩), (6, ⟨T20 .nsl (.i .i64 ⟨false, 0⟩), H20, 2000⟩), (1006, ⟨T20 o20 (.i .i64 ⟨false, 0⟩), H20 ++ O20, 2000⟩)]
def vc20 (hs gs : Hdrs) (ms : List (List Int)) (KV : List (List Int) → Hdrs → List (List Int) → Prop) (Q : Nat → List Pv → Prop) : Prop := fnVcX Γe Tryd.f20 L20 (turnA hs gs) (turnH .u8 hs gs ms) (fun x h => kvT .u8 x h KV) Q
def lc20a (i : Int) (ms : List (List Int)) (hs gs : Hdrs) (n m : Int) (KV : List (List Int) → Hdrs → List (List Int) → Prop) (Q : Nat → List Pv → Prop) : Prop := loopVcX Γe Tryd.f20 L20 3 [.z i, .ll ms, .hh hs, .hh gs, .z n, .z m] (fun x h => kvT .u8 x h KV) Q
def lc20b (z i : Int) (ms : List (List Int)) (hs gs : Hdrs) (n m : Int) (os : Hdrs) (rows : List (List Int)) (KV : List (List Int) → Hdrs → List (List Int) → Prop) (Q : Nat → List Pv → Prop) : Prop := loopVcX Γe Tryd.f20 L20 1003 [.z z, .z i, .ll ms, .hh hs, .hh gs, .z n, .z m, .hh os, .ll rows] (fun x h => kvT .u8 x h KV) Q
def lc20c (i j : Int) (ms : List (List Int)) (hs gs : Hdrs) (n m : Int) (KV : List (List Int) → Hdrs → List (List Int) → Prop) (Q : Nat → List Pv → Prop) : Prop := loopVcX Γe Tryd.f20 L20 6 [.z i, .z j, .ll ms, .hh hs, .hh gs, .z n, .z m] (fun x h => kvT .u8 x h KV) Q
def lc20d (z i j : Int) (ms : List (List Int)) (hs gs : Hdrs) (n m : Int) (os : Hdrs) (rows : List (List Int)) (KV : List (List Int) → Hdrs → List (List Int) → Prop) (Q : Nat → List Pv → Prop) : Prop := loopVcX Γe Tryd.f20 L20 1006 [.z z, .z i, .z j, .ll ms, .hh hs, .hh gs, .z n, .z m, .hh os, .ll rows] (fun x h => kvT .u8 x h KV) Q
theorem vc20_eq : ∀ (hs gs : Hdrs) (ms : List (List Int)) (KV : List (List Int) → Hdrs → List (List Int) → Prop) (Q : Nat → List Pv → Prop), vc20 hs gs ms KV Q = (Same Tryd.f20 (3 : Nat) (itemsOf Tryd.f20 (3 : Nat)) ∧ Q (3 : Nat) [Pv.z (0 : Int), Pv.ll ms, Pv.hh hs, Pv.hh gs, Pv.z ↑(List.length hs), Pv.z ↑(List.length gs)]) := by
  intros
  kernel_rfl
theorem lc20a_eq : ∀ (i : Int) (ms : List (List Int)) (hs gs : Hdrs) (n m : Int) (KV : List (List Int) → Hdrs → List (List Int) → Prop) (Q : Nat → List Pv → Prop), lc20a i ms hs gs n m KV Q = ((decide (i < n) = true → Same Tryd.f20 (6 : Nat) (itemsOf Tryd.f20 (6 : Nat)) ∧ Q (6 : Nat) [Pv.z i, Pv.z (0 : Int), Pv.ll ms, Pv.hh hs, Pv.hh gs, Pv.z n, Pv.z m]) ∧ (decide (i < n) = false → KV ms [] [])) := by
  intros
  kernel_rfl
theorem lc20b_eq : ∀ (z i : Int) (ms : List (List Int)) (hs gs : Hdrs) (n m : Int) (os : Hdrs) (rows : List (List Int)) (KV : List (List Int) → Hdrs → List (List Int) → Prop) (Q : Nat → List Pv → Prop), lc20b z i ms hs gs n m os rows KV Q = ((decide (i < n) = true → Same Tryd.f20 (6 : Nat) (itemsOf Tryd.f20 (6 : Nat)) ∧ Q (1006 : Nat) [Pv.z z, Pv.z i, Pv.z (0 : Int), Pv.ll ms, Pv.hh hs, Pv.hh gs, Pv.z n, Pv.z m, Pv.hh os, Pv.ll rows]) ∧ (decide (i < n) = false → Need (z = ↑(List.length os)) ∧ KV ms os rows)) := by
  intros
  kernel_rfl
theorem lc20c_eq : ∀ (i j : Int) (ms : List (List Int)) (hs gs : Hdrs) (n m : Int) (KV : List (List Int) → Hdrs → List (List Int) → Prop) (Q : Nat → List Pv → Prop), lc20c i j ms hs gs n m KV Q = (Need ((0 : Int) ≤ i ∧ i < m) ∧ Need ((0 : Int) ≤ i ∧ i < ↑(List.length gs)) ∧ ∀ (x1 : Int), x1 = ↑(List.getD gs i.toNat ((0 : Nat), (0 : Nat))).snd → (0 : Int) ≤ x1 → InR IntKind.i64 x1 → (decide (j < x1) = true → Need ((0 : Int) ≤ i ∧ i < n) ∧ Need ((0 : Int) ≤ i ∧ i < ↑(List.length hs)) ∧ ∀ (x2 : Int), x2 = ↑(List.getD hs i.toNat ((0 : Nat), (0 : Nat))).snd → (0 : Int) ≤ x2 → InR IntKind.i64 x2 → Need ((0 : Int) ≤ i ∧ i < n) ∧ Need ((0 : Int) ≤ i ∧ i < ↑(List.length hs)) ∧ ∀ (x3 : Int), x3 = ↑(List.getD hs i.toNat ((0 : Nat), (0 : Nat))).snd → (0 : Int) ≤ x3 → InR IntKind.i64 x3 → Need ((0 : Int) ≤ j ∧ j < x3) ∧ Need (j < ↑(ms.getD (List.getD hs i.toNat ((0 : Nat), (0 : Nat))).fst []).length) ∧ ∀ (x4 : Int), x4 = (ms.getD (List.getD hs i.toNat ((0 : Nat), (0 : Nat))).fst []).getD j.toNat (0 : Int) → InR IntKind.u8 x4 → ∀ (x5 : Int), x5 = xorI IntKind.u8 x4 (59 : Int) → InR IntKind.u8 x5 → Need ((0 : Int) ≤ j ∧ j < x2) ∧ Need (j < ↑(ms.getD (List.getD hs i.toNat ((0 : Nat), (0 : Nat))).fst []).length) ∧ ∀ (x6 : List (List Int)), x6 = ms.set (List.getD hs i.toNat ((0 : Nat), (0 : Nat))).fst ((ms.getD (List.getD hs i.toNat ((0 : Nat), (0 : Nat))).fst []).set j.toNat x5) → ∀ (x7 : Int), x7 = IntKind.i64.wrap (j + (1 : Int)) → InR IntKind.i64 x7 → Same Tryd.f20 (6 : Nat) (itemsOf Tryd.f20 (6 : Nat)) ∧ Q (6 : Nat) [Pv.z i, Pv.z x7, Pv.ll x6, Pv.hh hs, Pv.hh gs, Pv.z n, Pv.z m]) ∧ (decide (j < x1) = false → Need ((0 : Int) ≤ i ∧ i < m) ∧ Need ((0 : Int) ≤ i ∧ i < ↑(List.length gs)) ∧ ∀ (x8 : Int), x8 = ↑(List.getD gs i.toNat ((0 : Nat), (0 : Nat))).snd → (0 : Int) ≤ x8 → InR IntKind.i64 x8 → Need (↑([] ++ List.take x8.toNat (ms.getD (List.getD gs i.toNat ((0 : Nat), (0 : Nat))).fst [])).length * (1 : Int) ≤ (70368744177664 : Int)) ∧ Need (x8 ≤ ↑(ms.getD (List.getD gs i.toNat ((0 : Nat), (0 : Nat))).fst []).length) ∧ ∀ (x9 : List Int), x9 = [] ++ List.take x8.toNat (ms.getD (List.getD gs i.toNat ((0 : Nat), (0 : Nat))).fst []) → AllR IntKind.u8 x9 → ∀ (x10 : Int), x10 = ↑([] ++ List.take x8.toNat (ms.getD (List.getD gs i.toNat ((0 : Nat), (0 : Nat))).fst [])).length → (0 : Int) ≤ x10 → InR IntKind.i64 x10 → Need ((24 : Int) ≤ (70368744177664 : Int)) ∧ ∀ (x11 : List (List Int)), x11 = [x9] → ∀ (x12 : Int), x12 = (1 : Int) → (0 : Int) ≤ x12 → InR IntKind.i64 x12 → ∀ (x13 : Int), x13 = IntKind.i64.wrap (i + (1 : Int)) → InR IntKind.i64 x13 → Same Tryd.f20 (3 : Nat) (itemsOf Tryd.f20 (3 : Nat)) ∧ Q (1003 : Nat) [Pv.z x12, Pv.z x13, Pv.ll ms, Pv.hh hs, Pv.hh gs, Pv.z n, Pv.z m, Pv.hh ([] ++ [((0 : Nat), x10.toNat)]), Pv.ll x11])) := by
  intros
  kernel_rfl
theorem lc20d_eq : ∀ (z i j : Int) (ms : List (List Int)) (hs gs : Hdrs) (n m : Int) (os : Hdrs) (rows : List (List Int)) (KV : List (List Int) → Hdrs → List (List Int) → Prop) (Q : Nat → List Pv → Prop), lc20d z i j ms hs gs n m os rows KV Q = (Need ((0 : Int) ≤ i ∧ i < m) ∧ Need ((0 : Int) ≤ i ∧ i < ↑(List.length gs)) ∧ ∀ (x1 : Int), x1 = ↑(List.getD gs i.toNat ((0 : Nat), (0 : Nat))).snd → (0 : Int) ≤ x1 → InR IntKind.i64 x1 → (decide (j < x1) = true → Need ((0 : Int) ≤ i ∧ i < n) ∧ Need ((0 : Int) ≤ i ∧ i < ↑(List.length hs)) ∧ ∀ (x2 : Int), x2 = ↑(List.getD hs i.toNat ((0 : Nat), (0 : Nat))).snd → (0 : Int) ≤ x2 → InR IntKind.i64 x2 → Need ((0 : Int) ≤ i ∧ i < n) ∧ Need ((0 : Int) ≤ i ∧ i < ↑(List.length hs)) ∧ ∀ (x3 : Int), x3 = ↑(List.getD hs i.toNat ((0 : Nat), (0 : Nat))).snd → (0 : Int) ≤ x3 → InR IntKind.i64 x3 → Need ((0 : Int) ≤ j ∧ j < x3) ∧ Need (j < ↑(ms.getD (List.getD hs i.toNat ((0 : Nat), (0 : Nat))).fst []).length) ∧ ∀ (x4 : Int), x4 = (ms.getD (List.getD hs i.toNat ((0 : Nat), (0 : Nat))).fst []).getD j.toNat (0 : Int) → InR IntKind.u8 x4 → ∀ (x5 : Int), x5 = xorI IntKind.u8 x4 (59 : Int) → InR IntKind.u8 x5 → Need ((0 : Int) ≤ j ∧ j < x2) ∧ Need (j < ↑(ms.getD (List.getD hs i.toNat ((0 : Nat), (0 : Nat))).fst []).length) ∧ ∀ (x6 : List (List Int)), x6 = ms.set (List.getD hs i.toNat ((0 : Nat), (0 : Nat))).fst ((ms.getD (List.getD hs i.toNat ((0 : Nat), (0 : Nat))).fst []).set j.toNat x5) → ∀ (x7 : Int), x7 = IntKind.i64.wrap (j + (1 : Int)) → InR IntKind.i64 x7 → Same Tryd.f20 (6 : Nat) (itemsOf Tryd.f20 (6 : Nat)) ∧ Q (1006 : Nat) [Pv.z z, Pv.z i, Pv.z x7, Pv.ll x6, Pv.hh hs, Pv.hh gs, Pv.z n, Pv.z m, Pv.hh os, Pv.ll rows]) ∧ (decide (j < x1) = false → Need ((0 : Int) ≤ i ∧ i < m) ∧ Need ((0 : Int) ≤ i ∧ i < ↑(List.length gs)) ∧ ∀ (x8 : Int), x8 = ↑(List.getD gs i.toNat ((0 : Nat), (0 : Nat))).snd → (0 : Int) ≤ x8 → InR IntKind.i64 x8 → Need (↑([] ++ List.take x8.toNat (ms.getD (List.getD gs i.toNat ((0 : Nat), (0 : Nat))).fst [])).length * (1 : Int) ≤ (70368744177664 : Int)) ∧ Need (x8 ≤ ↑(ms.getD (List.getD gs i.toNat ((0 : Nat), (0 : Nat))).fst []).length) ∧ ∀ (x9 : List Int), x9 = [] ++ List.take x8.toNat (ms.getD (List.getD gs i.toNat ((0 : Nat), (0 : Nat))).fst []) → AllR IntKind.u8 x9 → ∀ (x10 : Int), x10 = ↑([] ++ List.take x8.toNat (ms.getD (List.getD gs i.toNat ((0 : Nat), (0 : Nat))).fst [])).length → (0 : Int) ≤ x10 → InR IntKind.i64 x10 → Need (↑(List.length os + (1 : Nat)) * (24 : Int) ≤ (70368744177664 : Int)) ∧ Need (z = ↑(List.length os)) ∧ ∀ (x11 : List (List Int)), x11 = rows ++ [x9] → ∀ (x12 : Int), x12 = ↑(List.length os + (1 : Nat)) → (0 : Int) ≤ x12 → InR IntKind.i64 x12 → ∀ (x13 : Int), x13 = IntKind.i64.wrap (i + (1 : Int)) → InR IntKind.i64 x13 → Same Tryd.f20 (3 : Nat) (itemsOf Tryd.f20 (3 : Nat)) ∧ Q (1003 : Nat) [Pv.z x12, Pv.z x13, Pv.ll ms, Pv.hh hs, Pv.hh gs, Pv.z n, Pv.z m, Pv.hh (os ++ [(rows.length, x10.toNat)]), Pv.ll x11])) := by
  intros
  kernel_rfl

def turnG (hs gs : Hdrs) (ms : List (List Int)) : Option (List Prop × List (List Int) × Hdrs × List (List Int)) :=
  some ([hs.length ≤ gs.length ∧ hs.length ≤ ms.length ∧ (gs.length : Int) < 9223372036854775807 ∧ (hs.length : Int) * 24 ≤ 70368744177664,
    ∀ i, i < hs.length → (hs.getD i (0, 0)).1 = i ∧ (gs.getD i (0, 0)).1 = i ∧ (gs.getD i (0, 0)).2 ≤ (hs.getD i (0, 0)).2 ∧ (gs.getD i (0, 0)).2 ≤ (ms.getD i []).length ∧ (gs.getD i (0, 0)).2 ≤ 70368744177664],
    msT gs ms hs.length 0, hs2 gs hs.length, rows2 gs ms hs.length)
def inv20 (hs gs : Hdrs) (ms : List (List Int)) (key : Nat) (ps : List Pv) (mm : Nat) : Prop :=
  (key = 3 ∧ ps = [.z 0, .ll (msT gs ms 0 0), .hh hs, .hh gs, .z (hs.length : Int), .z (gs.length : Int)] ∧ mm = hs.length * 70368744177666) ∨
  (key = 1003 ∧ ∃ i : Nat, 0 < i ∧ i ≤ hs.length ∧ ps = [.z (i : Int), .z (i : Int), .ll (msT gs ms i 0), .hh hs, .hh gs, .z (hs.length : Int), .z (gs.length : Int), .hh (hs2 gs i), .ll (rows2 gs ms i)] ∧ mm = (hs.length - i) * 70368744177666) ∨
  (key = 6 ∧ ∃ j : Nat, 0 < hs.length ∧ j ≤ (gs.getD 0 (0, 0)).2 ∧ ps = [.z 0, .z (j : Int), .ll (msT gs ms 0 j), .hh hs, .hh gs, .z (hs.length : Int), .z (gs.length : Int)] ∧ mm = (hs.length - 1) * 70368744177666 + (70368744177664 - j) + 1) ∨
  (key = 1006 ∧ ∃ i j : Nat, 0 < i ∧ i < hs.length ∧ j ≤ (gs.getD i (0, 0)).2 ∧ ps = [.z (i : Int), .z (i : Int), .z (j : Int), .ll (msT gs ms i j), .hh hs, .hh gs, .z (hs.length : Int), .z (gs.length : Int), .hh (hs2 gs i), .ll (rows2 gs ms i)] ∧ mm = (hs.length - i - 1) * 70368744177666 + (70368744177664 - j) + 1)
theorem turn_ok : CallOk Tryd.prog [] 20 (turnCtr .u8 turnG) := by
  refine call_turn (Γ := Γe) (fn := Tryd.f20) Γe_ok rfl rfl rfl (by kernel_rfl) (by kernel_rfl) .u8 turnG fun hs gs ms p ms' h2 r2 hsp hp _ => ?_
  unfold turnG at hsp
  simp only [Option.some.injEq, Prod.mk.injEq] at hsp
  obtain ⟨rfl, rfl, rfl, rfl⟩ := hsp
  obtain ⟨⟨b1, b2, b3, b4⟩, hrow, _⟩ := hp
  refine ⟨L20, inv20 hs gs ms, Nat.le_of_ble_eq_true (by kernel_rfl), ?_, ?_, ?_⟩
  · intro kk t ht g hg
    have hg : g ∈ [600, 601, 602] := hg
    simp only [List.mem_cons, List.not_mem_nil, or_false] at hg
    simp only [L20, List.mem_cons, List.not_mem_nil, or_false, Prod.mk.injEq] at ht
    obtain ⟨rfl, rfl⟩ | ⟨rfl, rfl⟩ | ⟨rfl, rfl⟩ | ⟨rfl, rfl⟩ := ht <;> rcases hg with rfl | rfl | rfl <;> exact ⟨by omega, rfl⟩
  · rintro vk t ps mm ht (⟨rfl, rfl, rfl⟩ | ⟨rfl, i, hi0, hi, rfl, rfl⟩ | ⟨rfl, j, h0, hj, rfl, rfl⟩ | ⟨rfl, i, j, hi0, hin, hj, rfl, rfl⟩)
    all_goals simp only [L20, List.mem_cons, List.not_mem_nil, or_false, Prod.mk.injEq, Nat.reduceEqDiff, false_and, true_and, false_or, or_false] at ht
    · subst ht
      show lc20a 0 (msT gs ms 0 0) hs gs (hs.length : Int) (gs.length : Int) _ _
      rw [lc20a_eq]
      refine ⟨fun hlt => ?_, fun hge => ?_⟩
      · have hlt := of_decide_eq_true hlt
        obtain ⟨a1, a2, a3, a4, a5⟩ := hrow 0 (by omega)
        exact ⟨rfl, _, by omega, Or.inr (Or.inr (Or.inl ⟨rfl, 0, by omega, Nat.zero_le _, rfl, rfl⟩))⟩
      · have hge := of_decide_eq_false hge
        have h0 : hs.length = 0 := by omega
        rw [h0]
        exact ⟨rfl, rfl, rfl⟩
    · subst ht
      show lc20b (i : Int) (i : Int) (msT gs ms i 0) hs gs (hs.length : Int) (gs.length : Int) (hs2 gs i) (rows2 gs ms i) _ _
      rw [lc20b_eq]
      refine ⟨fun hlt => ?_, fun hge => ?_⟩
      · have hlt := of_decide_eq_true hlt
        obtain ⟨a1, a2, a3, a4, a5⟩ := hrow i (by omega)
        exact ⟨rfl, _, by omega, Or.inr (Or.inr (Or.inr ⟨rfl, i, 0, hi0, by omega, Nat.zero_le _, rfl, rfl⟩))⟩
      · have hge := of_decide_eq_false hge
        obtain rfl : i = hs.length := by omega
        exact ⟨need_of (by rw [hs2_len]), rfl, rfl, rfl⟩
    · subst ht
      show lc20c 0 (j : Int) (msT gs ms 0 j) hs gs (hs.length : Int) (gs.length : Int) _ _
      rw [lc20c_eq]
      obtain ⟨a1, a2, a3, a4, a5⟩ := hrow 0 h0
      have hmi : 0 < ms.length := by omega
      have hrl := turnRow_len (ms.getD 0 []) j
      have hat := msT_at gs ms 0 j 0 hmi
      rw [if_neg (Nat.lt_irrefl _), if_pos rfl] at hat
      refine ⟨need_of (by omega), need_of (by omega), ?_⟩
      intro x1 e1 _ _
      rw [toN0] at e1
      refine ⟨fun hlt => ?_, fun hge => ?_⟩
      · have hlt := of_decide_eq_true hlt
        refine ⟨need_of (by omega), need_of (by omega), ?_⟩
        intro x2 e2 _ _
        rw [toN0] at e2
        refine ⟨need_of (by omega), need_of (by omega), ?_⟩
        intro x3 e3 _ _
        rw [toN0] at e3
        rw [toN0, a1, hat, hrl]
        refine ⟨need_of (by omega), need_of (by omega), ?_⟩
        intro x4 e4 _ x5 e5 _
        refine ⟨need_of (by omega), need_of (by omega), ?_⟩
        intro x6 e6 x7 e7 _
        rw [wrap_i64 (by omega)] at e7
        rw [Int.toNat_natCast] at e4 e6
        rw [turnRow_getD _ _ (by omega)] at e4
        rw [e5, e4, turnRow_set _ _ (by omega), msT_set _ _ _ _ hmi] at e6
        subst e6; subst e7
        exact ⟨rfl, _, by omega, Or.inr (Or.inr (Or.inl ⟨rfl, j + 1, h0, by omega, rfl, rfl⟩))⟩
      · have hge := of_decide_eq_false hge
        obtain rfl : j = (gs.getD 0 (0, 0)).2 := by omega
        refine ⟨need_of (by omega), need_of (by omega), ?_⟩
        intro x8 e8 _ _
        rw [toN0] at e8
        subst e8
        rw [toN0, Int.toNat_natCast, a2, hat, hrl, List.nil_append]
        have hl : (List.take (gs.getD 0 (0, 0)).2 (turnRow (ms.getD 0 []) (gs.getD 0 (0, 0)).2)).length = (gs.getD 0 (0, 0)).2 := by rw [List.length_take, hrl]; omega
        rw [hl]
        refine ⟨need_of (by omega), need_of (by omega), ?_⟩
        intro x9 e9 _ x10 e10 _ _
        refine ⟨need_of (by omega), ?_⟩
        intro x11 e11 x12 e12 _ _ x13 e13 _
        rw [wrap_i64 (by omega)] at e13
        subst e9; subst e10; subst e11; subst e12; subst e13
        rw [msT_next]
        refine ⟨rfl, (hs.length - (0 + 1)) * 70368744177666, by omega, Or.inr (Or.inl ⟨rfl, 0 + 1, by omega, by omega, ?_, rfl⟩)⟩
        rw [hs2_succ, rows2_succ, Int.toNat_natCast]
        rfl
    · subst ht
      show lc20d (i : Int) (i : Int) (j : Int) (msT gs ms i j) hs gs (hs.length : Int) (gs.length : Int) (hs2 gs i) (rows2 gs ms i) _ _
      rw [lc20d_eq]
      obtain ⟨a1, a2, a3, a4, a5⟩ := hrow i hin
      have hmi : i < ms.length := by omega
      have hrl := turnRow_len (ms.getD i []) j
      have hat := msT_at gs ms i j i hmi
      rw [if_neg (Nat.lt_irrefl _), if_pos rfl] at hat
      refine ⟨need_of (by omega), need_of (by omega), ?_⟩
      intro x1 e1 _ _
      rw [Int.toNat_natCast] at e1
      refine ⟨fun hlt => ?_, fun hge => ?_⟩
      · have hlt := of_decide_eq_true hlt
        refine ⟨need_of (by omega), need_of (by omega), ?_⟩
        intro x2 e2 _ _
        rw [Int.toNat_natCast] at e2
        refine ⟨need_of (by omega), need_of (by omega), ?_⟩
        intro x3 e3 _ _
        rw [Int.toNat_natCast] at e3
        rw [Int.toNat_natCast, a1, hat, hrl]
        refine ⟨need_of (by omega), need_of (by omega), ?_⟩
        intro x4 e4 _ x5 e5 _
        refine ⟨need_of (by omega), need_of (by omega), ?_⟩
        intro x6 e6 x7 e7 _
        rw [wrap_i64 (by omega)] at e7
        rw [Int.toNat_natCast] at e4 e6
        rw [turnRow_getD _ _ (by omega)] at e4
        rw [e5, e4, turnRow_set _ _ (by omega), msT_set _ _ _ _ hmi] at e6
        subst e6; subst e7
        exact ⟨rfl, _, by omega, Or.inr (Or.inr (Or.inr ⟨rfl, i, j + 1, hi0, hin, by omega, rfl, rfl⟩))⟩
      · have hge := of_decide_eq_false hge
        obtain rfl : j = (gs.getD i (0, 0)).2 := by omega
        refine ⟨need_of (by omega), need_of (by omega), ?_⟩
        intro x8 e8 _ _
        rw [Int.toNat_natCast] at e8
        subst e8
        rw [Int.toNat_natCast, Int.toNat_natCast, a2, hat, hrl, List.nil_append]
        have hl : (List.take (gs.getD i (0, 0)).2 (turnRow (ms.getD i []) (gs.getD i (0, 0)).2)).length = (gs.getD i (0, 0)).2 := by rw [List.length_take, hrl]; omega
        rw [hl]
        refine ⟨need_of (by omega), need_of (by omega), ?_⟩
        intro x9 e9 _ x10 e10 _ _
        refine ⟨need_of (by rw [hs2_len]; omega), need_of (by rw [hs2_len]), ?_⟩
        intro x11 e11 x12 e12 _ _ x13 e13 _
        rw [wrap_i64 (by omega)] at e13
        rw [hs2_len] at e12
        rw [rows2_len]
        subst e9; subst e10; subst e11; subst e12; subst e13
        rw [msT_next]
        refine ⟨rfl, (hs.length - (i + 1)) * 70368744177666, by omega, Or.inr (Or.inl ⟨rfl, i + 1, by omega, by omega, ?_, rfl⟩)⟩
        rw [hs2_succ, rows2_succ, Int.toNat_natCast]
        rfl
  · show vc20 hs gs ms _ _
    rw [vc20_eq]
    exact ⟨rfl, _, Or.inl ⟨rfl, by rw [msT_zero], rfl⟩⟩
end Go.Gx

/- What was handed in stays; one list handed in. -/
namespace Go.Gx
open Go.Proofs Go.Sp
set_option linter.unusedVariables false
set_option maxRecDepth 100000

theorem ofB_append (a b : List Int) : ofBytesI (a ++ b) = ofBytesI a ++ ofBytesI b := by
  apply ByteArray.ext
  rw [ByteArray.data_append]
  simp [ofBytesI]
theorem marksB : ofBytesI marksL = (ByteArray.mk #[(11 : UInt8), (12 : UInt8), (13 : UInt8), (14 : UInt8), (15 : UInt8), (16 : UInt8), (17 : UInt8), (18 : UInt8)]) := by rfl
theorem ofB_size (l : List Int) : (ofBytesI l).size = l.length := by simp [ofBytesI, ByteArray.size]

def Γf : Tab := ⟨tys, [(16, famCtr .u8 [.d (.l (.ints .u8))] handG)], [], []⟩
def shH : Sh := .r [.l (.ints .u8), .l (.ints .u8)]
def L19 : Loops := [(4, ⟨[.any, .ro 490 (.l (.ints .u8)) (.r []), .p 1000 0, .any, .any, .i .i64 ⟨false, 0⟩] ++ reps .any 50, [(490, .world), (1000, .segs false [.one (.ro 490 (.l (.ints .u8)) (.r [])), .one (.ro 490 (.l (.ints .u8)) (.r []))])], 2000⟩)]
def vc19 (h d : RO) (K : List RV → List (Option (List Seg)) → Prop) (Q : Nat → List Pv → Prop) : Prop := fnVcG 0 Γe Tryd.f19 L19 [svOf 490 shH h, .ro 490 (.l (.ints .u8)) d] ([] ++ [(490, .world)]) K Q
def lc19 (d : RO) (i : Int) (f g : RO) (K : List RV → List (Option (List Seg)) → Prop) (Q : Nat → List Pv → Prop) : Prop := loopVcG 0 Γe Tryd.f19 L19 4 [.ro d, .z i, .ro f, .ro g] K Q
def vc29 (d : RO) (KV : Hdrs → Hdrs → List (List Int) → Prop) (Q : Nat → List Pv → Prop) : Prop := fnVcX Γf Tryd.f29 [] [.ro 490 (.ints .u8) d] ([] ++ [(490, .world)]) (fun x h => kvH2 .u8 x h KV) Q
theorem Γf_ok : TabOk Tryd.prog Γf := Γe_ok.cons handG_ok
theorem vc19_eq : ∀ (h d : RO) (K : List RV → List (Option (List Seg)) → Prop) (Q : Nat → List Pv → Prop), vc19 h d K Q = ∀ (x1 : Int), x1 = IntKind.i64.wrap (((roX d).length : Int) + (1 : Int)) → InR IntKind.i64 x1 → ((↑(roX (roN h (1 : Nat))).length != x1) = true → K [RV.v (SV.b true false)] []) ∧ ((↑(roX (roN h (1 : Nat))).length != x1) = false → Need ((0 : Int) ≤ ((roX d).length : Int) ∧ ((roX d).length : Int) < ↑(roX (roN h (1 : Nat))).length) ∧ ((!(ofBytesI (roL (roN (roN h (1 : Nat)) (((roX d).length : Int)).toNat))).toList == (ByteArray.mk #[(11 : UInt8), (12 : UInt8), (13 : UInt8), (14 : UInt8), (15 : UInt8), (16 : UInt8), (17 : UInt8), (18 : UInt8)]).toList) = true → K [RV.v (SV.b true false)] []) ∧ ((!(ofBytesI (roL (roN (roN h (1 : Nat)) (((roX d).length : Int)).toNat))).toList == (ByteArray.mk #[(11 : UInt8), (12 : UInt8), (13 : UInt8), (14 : UInt8), (15 : UInt8), (16 : UInt8), (17 : UInt8), (18 : UInt8)]).toList) = false → Same Tryd.f19 (4 : Nat) (itemsOf Tryd.f19 (4 : Nat)) ∧ Q (4 : Nat) [Pv.ro d, Pv.z (0 : Int), Pv.ro (roN h (0 : Nat)), Pv.ro (roN h (1 : Nat))])) := by
  intros
  kernel_rfl
theorem lc19_eq : ∀ (d : RO) (i : Int) (f g : RO) (K : List RV → List (Option (List Seg)) → Prop) (Q : Nat → List Pv → Prop), lc19 d i f g K Q = ((decide (i < ((roX d).length : Int)) = true → Need ((0 : Int) ≤ i ∧ i < ((roX f).length : Int)) ∧ Need ((0 : Int) ≤ i ∧ i < ((roX d).length : Int)) ∧ Need (↑((ofBytesI (roL (roN d i.toNat))).size + (8 : Nat)) < (9223372036854775808 : Int)) ∧ ((!(ofBytesI (roL (roN f i.toNat))).toList == (ofBytesI (roL (roN d i.toNat)) ++ (ByteArray.mk #[(11 : UInt8), (12 : UInt8), (13 : UInt8), (14 : UInt8), (15 : UInt8), (16 : UInt8), (17 : UInt8), (18 : UInt8)])).toList) = true → K [RV.v (SV.b true false)] []) ∧ ((!(ofBytesI (roL (roN f i.toNat))).toList == (ofBytesI (roL (roN d i.toNat)) ++ (ByteArray.mk #[(11 : UInt8), (12 : UInt8), (13 : UInt8), (14 : UInt8), (15 : UInt8), (16 : UInt8), (17 : UInt8), (18 : UInt8)])).toList) = false → Need ((0 : Int) ≤ i ∧ i < ((roX g).length : Int)) ∧ Need ((0 : Int) ≤ i ∧ i < ((roX d).length : Int)) ∧ ((!(ofBytesI (roL (roN g i.toNat))).toList == (ofBytesI (roL (roN d i.toNat))).toList) = true → K [RV.v (SV.b true false)] []) ∧ ((!(ofBytesI (roL (roN g i.toNat))).toList == (ofBytesI (roL (roN d i.toNat))).toList) = false → ∀ (x1 : Int), x1 = IntKind.i64.wrap (i + (1 : Int)) → InR IntKind.i64 x1 → Same Tryd.f19 (4 : Nat) (itemsOf Tryd.f19 (4 : Nat)) ∧ Q (4 : Nat) [Pv.ro d, Pv.z x1, Pv.ro f, Pv.ro g]))) ∧ (decide (i < ((roX d).length : Int)) = false → K [RV.v (SV.b true true)] [])) := by
  intros
  kernel_rfl
theorem vc29_eq : ∀ (d : RO) (KV : Hdrs → Hdrs → List (List Int) → Prop) (Q : Nat → List Pv → Prop), vc29 d KV Q = (Need (∀ (i : Nat), i < (roX (RO.r [d])).length → ↑(roL (roN (RO.r [d]) i)).length + (8 : Int) ≤ (70368744177664 : Int)) ∧ Need (↑((roX (RO.r [d])).length + (1 : Nat)) * (24 : Int) ≤ (70368744177664 : Int)) ∧ ∀ (x1 : List (List Int)), x1 = rowsT (RO.r [d]) (roX (RO.r [d])).length ++ [marksL] → ∀ (x2 : Int), x2 = ↑(List.length (fullT (RO.r [d]) (roX (RO.r [d])).length)) → (0 : Int) ≤ x2 → InR IntKind.i64 x2 → ∀ (x3 : Int), x3 = ↑(List.length (headT (RO.r [d]) (roX (RO.r [d])).length ++ [((roX (RO.r [d])).length, (8 : Nat))])) → (0 : Int) ≤ x3 → InR IntKind.i64 x3 → Need (x2 = ↑(List.length (fullT (RO.r [d]) (roX (RO.r [d])).length))) ∧ Need (x3 = ↑(List.length (headT (RO.r [d]) (roX (RO.r [d])).length ++ [((roX (RO.r [d])).length, (8 : Nat))]))) ∧ KV (fullT (RO.r [d]) (roX (RO.r [d])).length) (headT (RO.r [d]) (roX (RO.r [d])).length ++ [((roX (RO.r [d])).length, (8 : Nat))]) x1) := by
  intros
  kernel_rfl

def _root_.Go.Sp.leftP (h d : RO) : List Prop := [(roX (roN h 1)).length = (roX d).length + 1 ∧ (roX (roN h 0)).length = (roX d).length ∧ roL (roN (roN h 1) (roX d).length) = marksL,
  ∀ i, i < (roX d).length → roL (roN (roN h 0) i) = roL (roN d i) ++ marksL ∧ roL (roN (roN h 1) i) = roL (roN d i) ∧ ((roL (roN d i)).length : Int) + 8 < 9223372036854775808]
def leftG : List AV → Option (List Prop × List RV × List (Option (List Seg)))
  | [.d (.r [.l (.ints .u8), .l (.ints .u8)]) h, .d (.l (.ints .u8)) d] => some (leftP h d, [.v (.b false true)], [])
  | _ => none
theorem left_ok : CallOk Tryd.prog [] 19 (genCtr [.d shH, .d (.l (.ints .u8))] leftG) := by
  refine call_gen (Γ := Γe) (fn := Tryd.f19) Γe_ok rfl (fun g hg => by cases hg) rfl (by kernel_rfl) (by kernel_rfl) _ leftG fun av p rvs fin hs hp hf => ?_
  unfold leftG at hs
  split at hs
  · rename_i h d
    simp only [Option.some.injEq, Prod.mk.injEq] at hs
    obtain ⟨rfl, rfl, rfl⟩ := hs
    obtain ⟨⟨p1, p2, p3⟩, hrow, _⟩ := hp
    obtain ⟨⟨_, ⟨_, hl⟩, _⟩, _⟩ := hf
    have hl : ((roX (roN h 1)).length : Int) < 9223372036854775808 := hl
    refine ⟨[svOf 490 shH h, .ro 490 (.l (.ints .u8)) d], [], L19, fun key ps mm => key = 4 ∧ ∃ j : Nat, j ≤ (roX d).length ∧ ps = [.ro d, .z (j : Int), .ro (roN h 0), .ro (roN h 1)] ∧ mm = (roX d).length - j, ⟨rfl, rfl, trivial⟩, Nat.le_of_ble_eq_true (by kernel_rfl), ?_, ?_, ?_⟩
    · intro kk t ht g hg
      have hg : g ∈ [490] := hg
      simp only [List.mem_cons, List.not_mem_nil, or_false] at hg
      subst hg
      simp only [L19, List.mem_cons, List.not_mem_nil, or_false, Prod.mk.injEq] at ht
      obtain ⟨rfl, rfl⟩ := ht
      exact ⟨by omega, rfl⟩
    · rintro vk t ps mm ht ⟨rfl, j, hj, rfl, rfl⟩
      simp only [L19, List.mem_cons, List.not_mem_nil, or_false, Prod.mk.injEq] at ht
      obtain ⟨_, rfl⟩ := ht
      show lc19 d (j : Int) (roN h 0) (roN h 1) _ _
      rw [lc19_eq]
      refine ⟨fun hlt => ?_, fun hge => ?_⟩
      · have hlt := of_decide_eq_true hlt
        obtain ⟨a1, a2, a3⟩ := hrow j (by omega)
        rw [Int.toNat_natCast, a1, a2, ofB_append, marksB, ofB_size]
        refine ⟨need_of (by omega), need_of (by omega), need_of (by omega), fun hc => by simp at hc, fun _ => ⟨need_of (by omega), need_of (by omega), fun hc => by simp at hc, fun _ => ?_⟩⟩
        intro x1 e1 _
        rw [wrap_i64 (by omega)] at e1
        subst e1
        exact ⟨rfl, (roX d).length - (j + 1), by omega, rfl, j + 1, by omega, rfl, rfl⟩
      · exact ⟨⟨rfl, trivial⟩, trivial⟩
    · show vc19 h d _ _
      rw [vc19_eq]
      intro x1 e1 _
      rw [wrap_i64 (by omega)] at e1
      rw [Int.toNat_natCast, p3, marksB]
      refine ⟨fun hc => ?_, fun _ => ⟨need_of (by omega), fun hc => by simp at hc, fun _ => ⟨rfl, _, rfl, 0, Nat.zero_le _, rfl, rfl⟩⟩⟩
      rw [bne_iff_ne] at hc
      exact absurd (by rw [e1, p1]; rfl) hc
  · cases hs
def oneG : List AV → Option (List Prop × Hdrs × Hdrs × List (List Int))
  | [.d (.ints .u8) d] => handG [.d (.l (.ints .u8)) (.r [d])]
  | _ => none
theorem one_ok : CallOk Tryd.prog [] 29 (famCtr .u8 [.d (.ints .u8)] oneG) := by
  refine call_fam (Γ := Γf) (fn := Tryd.f29) Γf_ok rfl (fun g hg => by cases hg) rfl (by kernel_rfl) (by kernel_rfl) .u8 _ rfl oneG fun av p hs gs rows hsp hp hf => ?_
  unfold oneG at hsp
  split at hsp
  · rename_i d
    unfold handG at hsp
    simp only [Option.some.injEq, Prod.mk.injEq] at hsp
    obtain ⟨rfl, rfl, rfl, rfl⟩ := hsp
    obtain ⟨h1, h2, _⟩ := hp
    refine ⟨[.ro 490 (.ints .u8) d], [], _, ⟨rfl, trivial⟩, Nat.le_of_ble_eq_true (by kernel_rfl), vcX_noloops ?_⟩
    show vc29 d _ _
    rw [vc29_eq]
    refine ⟨need_of h1, need_of h2, ?_⟩
    intro x1 e1 x2 e2 _ _ x3 e3 _ _
    refine ⟨need_of e2, need_of e3, rfl, rfl, ?_⟩
    exact e1
  · cases hsp
end Go.Gx

/- What is handed in, as it is seen. -/
namespace Go.Gx
open Go.Proofs Go.Sp
set_option linter.unusedVariables false
set_option maxRecDepth 100000

/-- The lists, and the lists with every byte turned. -/
def _root_.Go.Sp.hx (d : RO) : List RO := (List.range (roX d).length).map fun i => RO.l (roL (roN d i))
def _root_.Go.Sp.tx (d : RO) : List RO := (List.range (roX d).length).map fun i => RO.l ((roL (roN d i)).map fun z => xorI .u8 z 59)
theorem hx_len (d : RO) : (hx d).length = (roX d).length := by simp [hx]
theorem tx_len (d : RO) : (tx d).length = (roX d).length := by simp [tx]
theorem getN (d : RO) : (roX d).map roL = (List.range (roX d).length).map fun i => roL (roN d i) := by
  apply List.ext_getElem
  · simp
  · intro i h1 h2
    have h : i < (roX d).length := by simpa using h1
    simp [roN, List.getD_eq_getElem?_getD, h]
theorem hx_map (d : RO) : (hx d).map roL = (roX d).map roL := by
  rw [getN, hx, List.map_map]; rfl
theorem tx_lens (d : RO) : (tx d).map (fun x => (roL x).length) = (hx d).map (fun x => (roL x).length) := by
  rw [tx, hx, List.map_map, List.map_map]
  apply List.map_congr_left
  intro i _
  show ((roL (roN d i)).map fun z => xorI .u8 z 59).length = _
  rw [List.length_map]; rfl
theorem rN_map (f : Nat → RO) (n i : Nat) (h : i < n) (l : List RO) : roN (RO.r ((List.range n).map f ++ l)) i = f i := by
  show ((List.range n).map f ++ l).getD i (RO.r []) = f i
  rw [List.getD_eq_getElem?_getD, List.getElem?_append_left (by simpa using h)]
  simp [h]

section
variable (d : RO)

theorem rows_at (i : Nat) (h : i < (roX d).length) (l : List (List Int)) : (rowsT d (roX d).length ++ l).getD i [] = roL (roN d i) ++ marksL := by
  rw [List.getD_eq_getElem?_getD, List.getElem?_append_left (by rw [rowsT_len]; exact h)]
  simp [rowsT, h]
theorem rows_last (l : List Int) : (rowsT d (roX d).length ++ [l]).getD (roX d).length [] = l := by
  rw [List.getD_eq_getElem?_getD, List.getElem?_append_right (by rw [rowsT_len]; exact Nat.le_refl _), rowsT_len, Nat.sub_self]; rfl
theorem rows_length (l : List Int) : (rowsT d (roX d).length ++ [l]).length = (roX d).length + 1 := by rw [List.length_append, rowsT_len]; rfl
theorem heads_length : (headT d (roX d).length ++ [((roX d).length, 8)]).length = (roX d).length + 1 := by rw [List.length_append, headT_len]; rfl
theorem heads_take : List.take (roX d).length (List.drop 0 (headT d (roX d).length ++ [((roX d).length, 8)])) = headT d (roX d).length := by
  rw [List.drop_zero, List.take_append_of_le_length (by rw [headT_len]; exact Nat.le_refl _), List.take_of_length_le (by rw [headT_len]; exact Nat.le_refl _)]
theorem heads_all : List.take ((roX d).length + 1) (List.drop 0 (headT d (roX d).length ++ [((roX d).length, 8)])) = headT d (roX d).length ++ [((roX d).length, 8)] := by
  rw [List.drop_zero, List.take_of_length_le (by rw [heads_length]; exact Nat.le_refl _)]
theorem head_all : List.take (roX d).length (List.drop 0 (headT d (roX d).length)) = headT d (roX d).length := by
  rw [List.drop_zero, List.take_of_length_le (by rw [headT_len]; exact Nat.le_refl _)]
theorem full_all : List.take (roX d).length (List.drop 0 (fullT d (roX d).length)) = fullT d (roX d).length := by
  rw [List.drop_zero, List.take_of_length_le (by rw [fullT_len]; exact Nat.le_refl _)]
theorem heads_at (i : Nat) (h : i < (roX d).length) : (headT d (roX d).length ++ [((roX d).length, 8)]).getD i (0, 0) = (i, (roL (roN d i)).length) := by
  rw [List.getD_eq_getElem?_getD, List.getElem?_append_left (by rw [headT_len]; exact h)]
  simp [headT, h]
theorem full_at (i : Nat) (h : i < (roX d).length) : (fullT d (roX d).length).getD i (0, 0) = (i, (roL (roN d i)).length + 8) := by
  rw [List.getD_eq_getElem?_getD]
  simp [fullT, h]
theorem head_map (f : Nat × Nat → RO) : (headT d (roX d).length).map f = (List.range (roX d).length).map fun i => f (i, (roL (roN d i)).length) := by simp [headT]
theorem full_map (f : Nat × Nat → RO) : (fullT d (roX d).length).map f = (List.range (roX d).length).map fun i => f (i, (roL (roN d i)).length + 8) := by simp [fullT]
theorem range_congr {n : Nat} {f g : Nat → RO} (h : ∀ i, i < n → f i = g i) : (List.range n).map f = (List.range n).map g :=
  List.map_congr_left fun i hi => h i (List.mem_range.1 hi)

/-- The lists, seen by their headers. -/
theorem v_head : List.map (fun h : Nat × Nat => RO.l (List.take h.snd ((rowsT d (roX d).length ++ [marksL]).getD h.fst []))) (headT d (roX d).length) = hx d := by
  rw [head_map, hx]
  refine range_congr fun i hi => ?_
  show RO.l (List.take (roL (roN d i)).length ((rowsT d (roX d).length ++ [marksL]).getD i [])) = _
  rw [rows_at d i hi, List.take_left]
theorem v_full : List.map (fun h : Nat × Nat => RO.l (List.take h.snd ((rowsT d (roX d).length ++ [marksL]).getD h.fst []))) (fullT d (roX d).length) = (List.range (roX d).length).map fun i => RO.l (roL (roN d i) ++ marksL) := by
  rw [full_map]
  refine range_congr fun i hi => ?_
  show RO.l (List.take ((roL (roN d i)).length + 8) ((rowsT d (roX d).length ++ [marksL]).getD i [])) = _
  rw [rows_at d i hi, List.take_of_length_le]
  rw [List.length_append]; exact Nat.le_refl _
theorem v_all : List.map (fun h : Nat × Nat => RO.l (List.take h.snd ((rowsT d (roX d).length ++ [marksL]).getD h.fst []))) (headT d (roX d).length ++ [((roX d).length, 8)]) = hx d ++ [RO.l marksL] := by
  rw [List.map_append, v_head, List.map_cons, List.map_nil, rows_last]; rfl
theorem b_head : ∀ h : Nat × Nat, h ∈ headT d (roX d).length → h.snd ≤ ((rowsT d (roX d).length ++ [marksL]).getD h.fst []).length := by
  intro h hh
  simp only [headT, List.mem_map, List.mem_range] at hh
  obtain ⟨i, hi, rfl⟩ := hh
  rw [rows_at d i hi, List.length_append]; exact Nat.le_add_right _ _
theorem b_full : ∀ h : Nat × Nat, h ∈ fullT d (roX d).length → h.snd ≤ ((rowsT d (roX d).length ++ [marksL]).getD h.fst []).length := by
  intro h hh
  simp only [fullT, List.mem_map, List.mem_range] at hh
  obtain ⟨i, hi, rfl⟩ := hh
  rw [rows_at d i hi, List.length_append]; exact Nat.le_refl _
theorem b_all : ∀ h : Nat × Nat, h ∈ headT d (roX d).length ++ [((roX d).length, 8)] → h.snd ≤ ((rowsT d (roX d).length ++ [marksL]).getD h.fst []).length := by
  intro h hh
  rcases List.mem_append.1 hh with hh | hh
  · exact b_head d h hh
  · simp only [List.mem_singleton] at hh
    subst hh
    rw [rows_last]; exact Nat.le_refl _

/-- It is as it was. -/
theorem l_1 : (roX (roN (RO.r [RO.r ((List.range (roX d).length).map fun i => RO.l (roL (roN d i) ++ marksL)), RO.r (hx d ++ [RO.l marksL])]) 1)).length = (roX d).length + 1 ∧
    (roX (roN (RO.r [RO.r ((List.range (roX d).length).map fun i => RO.l (roL (roN d i) ++ marksL)), RO.r (hx d ++ [RO.l marksL])]) 0)).length = (roX d).length ∧
    roL (roN (roN (RO.r [RO.r ((List.range (roX d).length).map fun i => RO.l (roL (roN d i) ++ marksL)), RO.r (hx d ++ [RO.l marksL])]) 1) (roX d).length) = marksL := by
  refine ⟨?_, ?_, ?_⟩
  · show (hx d ++ [RO.l marksL]).length = _
    rw [List.length_append, hx_len]; rfl
  · show (List.map _ _).length = _
    simp
  · show roL ((hx d ++ [RO.l marksL]).getD (roX d).length (RO.r [])) = _
    rw [List.getD_eq_getElem?_getD, List.getElem?_append_right (by rw [hx_len]; exact Nat.le_refl _), hx_len, Nat.sub_self]; rfl
theorem l_2 (hb : ∀ i, i < (roX d).length → ((roL (roN d i)).length : Int) + 8 ≤ 70368744177664) : ∀ i, i < (roX d).length →
    roL (roN (roN (RO.r [RO.r ((List.range (roX d).length).map fun i => RO.l (roL (roN d i) ++ marksL)), RO.r (hx d ++ [RO.l marksL])]) 0) i) = roL (roN d i) ++ marksL ∧
    roL (roN (roN (RO.r [RO.r ((List.range (roX d).length).map fun i => RO.l (roL (roN d i) ++ marksL)), RO.r (hx d ++ [RO.l marksL])]) 1) i) = roL (roN d i) ∧ ((roL (roN d i)).length : Int) + 8 < 9223372036854775808 := by
  intro i hi
  refine ⟨?_, ?_, by have := hb i hi; omega⟩
  · have := rN_map (fun i => RO.l (roL (roN d i) ++ marksL)) (roX d).length i hi []
    rw [List.append_nil] at this
    show roL (roN (RO.r ((List.range (roX d).length).map fun i => RO.l (roL (roN d i) ++ marksL))) i) = _
    rw [this]; rfl
  · show roL (roN (RO.r (hx d ++ [RO.l marksL])) i) = _
    rw [hx, rN_map _ _ i hi]; rfl

/-- Turned. -/
theorem g_len : (fullT d (roX d).length).length = (roX d).length := fullT_len _ _
theorem t_pre (hn : ((roX d).length : Int) + 1 < 9223372036854775807) (hb : ∀ i, i < (roX d).length → ((roL (roN d i)).length : Int) + 8 ≤ 70368744177664) : ∀ i, i < (roX d).length →
    ((fullT d (roX d).length).getD i (0, 0)).1 = i ∧ ((headT d (roX d).length ++ [((roX d).length, 8)]).getD i (0, 0)).1 = i ∧ ((headT d (roX d).length ++ [((roX d).length, 8)]).getD i (0, 0)).2 ≤ ((fullT d (roX d).length).getD i (0, 0)).2 ∧
    ((headT d (roX d).length ++ [((roX d).length, 8)]).getD i (0, 0)).2 ≤ ((rowsT d (roX d).length ++ [marksL]).getD i []).length ∧ ((headT d (roX d).length ++ [((roX d).length, 8)]).getD i (0, 0)).2 ≤ 70368744177664 := by
  intro i hi
  have := hb i hi
  rw [heads_at d i hi, full_at d i hi, rows_at d i hi, List.length_append]
  exact ⟨rfl, rfl, Nat.le_add_right _ _, Nat.le_add_right _ _, by show (roL (roN d i)).length ≤ _; omega⟩
theorem turn_take (l m : List Int) : List.take l.length (turnRow (l ++ m) l.length) = l.map fun z => xorI .u8 z 59 := by
  unfold turnRow
  rw [List.take_left, List.take_append_of_le_length (by simp), List.take_of_length_le (by simp)]
theorem t_at (i : Nat) (hi : i < (roX d).length) : (msT (headT d (roX d).length ++ [((roX d).length, 8)]) (rowsT d (roX d).length ++ [marksL]) (roX d).length 0).getD i [] = turnRow (roL (roN d i) ++ marksL) (roL (roN d i)).length := by
  rw [msT_at _ _ _ _ _ (by rw [rows_length]; omega), if_pos hi, heads_at d i hi, rows_at d i hi]
theorem t_view : List.map (fun h : Nat × Nat => RO.l (List.take h.snd ((msT (headT d (roX d).length ++ [((roX d).length, 8)]) (rowsT d (roX d).length ++ [marksL]) (roX d).length 0).getD h.fst []))) (headT d (roX d).length) = tx d := by
  rw [head_map, tx]
  refine range_congr fun i hi => ?_
  show RO.l (List.take (roL (roN d i)).length ((msT _ _ _ 0).getD i [])) = _
  rw [t_at d i hi, turn_take]
theorem t_b : ∀ h : Nat × Nat, h ∈ headT d (roX d).length → h.snd ≤ ((msT (headT d (roX d).length ++ [((roX d).length, 8)]) (rowsT d (roX d).length ++ [marksL]) (roX d).length 0).getD h.fst []).length := by
  intro h hh
  simp only [headT, List.mem_map, List.mem_range] at hh
  obtain ⟨i, hi, rfl⟩ := hh
  rw [t_at d i hi, turnRow_len, List.length_append]; exact Nat.le_add_right _ _
theorem t_hs : hs2 (headT d (roX d).length ++ [((roX d).length, 8)]) (roX d).length = headT d (roX d).length := by
  apply List.map_congr_left
  intro i hi
  rw [heads_at d i (List.mem_range.1 hi)]
theorem n_at (i : Nat) (hi : i < (roX d).length) : (rows2 (headT d (roX d).length ++ [((roX d).length, 8)]) (rowsT d (roX d).length ++ [marksL]) (roX d).length).getD i [] = (roL (roN d i)).map fun z => xorI .u8 z 59 := by
  have : (rows2 (headT d (roX d).length ++ [((roX d).length, 8)]) (rowsT d (roX d).length ++ [marksL]) (roX d).length).getD i [] = List.take ((headT d (roX d).length ++ [((roX d).length, 8)]).getD i (0, 0)).2 (turnRow ((rowsT d (roX d).length ++ [marksL]).getD i []) ((headT d (roX d).length ++ [((roX d).length, 8)]).getD i (0, 0)).2) := by
    rw [List.getD_eq_getElem?_getD]
    simp only [rows2, List.getElem?_map, List.getElem?_range hi, Option.map_some, Option.getD_some]
  rw [this, heads_at d i hi, rows_at d i hi, turn_take]
theorem n_view : List.map (fun h : Nat × Nat => RO.l (List.take h.snd ((rows2 (headT d (roX d).length ++ [((roX d).length, 8)]) (rowsT d (roX d).length ++ [marksL]) (roX d).length).getD h.fst []))) (headT d (roX d).length) = tx d := by
  rw [head_map, tx]
  refine range_congr fun i hi => ?_
  show RO.l (List.take (roL (roN d i)).length ((rows2 _ _ _).getD i [])) = _
  rw [n_at d i hi, List.take_of_length_le (by rw [List.length_map]; exact Nat.le_refl _)]
theorem n_b : ∀ h : Nat × Nat, h ∈ headT d (roX d).length → h.snd ≤ ((rows2 (headT d (roX d).length ++ [((roX d).length, 8)]) (rowsT d (roX d).length ++ [marksL]) (roX d).length).getD h.fst []).length := by
  intro h hh
  simp only [headT, List.mem_map, List.mem_range] at hh
  obtain ⟨i, hi, rfl⟩ := hh
  rw [n_at d i hi, List.length_map]; exact Nat.le_refl _
end
end Go.Gx

/- The table with what is handed in. -/
namespace Go.Gx
open Go.Proofs Go.Sp
set_option linter.unusedVariables false
set_option maxRecDepth 100000

def Δ7 : Tab := ⟨tys, (29, famCtr .u8 [.d (.ints .u8)] oneG) :: (20, turnCtr .u8 turnG) :: (19, genCtr [.d shH, .d (.l (.ints .u8))] leftG) :: (17, givenCtr) :: (16, famCtr .u8 [.d (.l (.ints .u8))] handG) :: Δ6.ctr, [0, 1, 2, 3], gh4⟩
theorem Δ7_ok : TabOk Tryd.prog Δ7 :=
  have n : ∀ x ∈ ([] : Heap), x ∈ gh4 := fun _ h => by cases h
  ((((Δ6_ok.cons (CallOk.mono n handG_ok)).cons (CallOk.mono n given_ok)).cons (CallOk.mono n left_ok)).cons (CallOk.mono n turn_ok)).cons (CallOk.mono n one_ok)

end Go.Gx

/- From a law's call to what its row asks, for laws that only read. -/
namespace Go.Gx
open Go.ChangeShapes Go.WideShapes Go.ChangeAt Go.RowKit
set_option linter.unusedVariables false

section
variable {P : Program}

theorem cell_int {w : World} {r : Reach} {b : Nat} {e : TypeId} {k : IntKind} {v : Value} (he : P.underlying e = some (.int k)) (h : Cell.okWide P w r b e v) : ∃ z, v = .int k z ∧ InR k z := by
  have h' : Value.okWide P w r b e v := by
    unfold Value.okWide
    rw [he]; exact h
  obtain ⟨z, rfl⟩ := okWide_int he h'
  refine ⟨z, rfl, ?_⟩
  simp only [Cell.okWide, Cell.ok, he, IntKind.has] at h
  cases k <;> simp [InR, IntKind.min, IntKind.max, IntKind.bits, IntKind.signed] at h ⊢ <;> omega

theorem ints_of {k : IntKind} : ∀ (cs : List Value), (∀ v ∈ cs, ∃ z, v = .int k z ∧ InR k z) → ∃ l : List Int, AllR k l ∧ cs = l.map (Value.int k)
  | [], _ => ⟨[], fun _ h => by simp at h, rfl⟩
  | v :: cs, h => by
    obtain ⟨l, h1, rfl⟩ := ints_of cs fun v hv => h v (by simp [hv])
    obtain ⟨z, rfl, hz⟩ := h v (by simp)
    refine ⟨z :: l, fun x hx => ?_, rfl⟩
    rcases List.mem_cons.1 hx with rfl | hx
    · exact hz
    · exact h1 x hx

/-- An argument that is an array of numbers. -/
theorem arr_arg {w : World} {r : Reach} {b : Nat} {t e : TypeId} {n : Nat} {k : IntKind} {v : Value} (ht : P.underlying t = some (.array n e)) (he : P.underlying e = some (.int k)) (hc : P.cellsOf t = n) (hts : P.cellTypes P.depth t = some (List.replicate n e)) (h : Value.okWide P w r b t v) :
    ∃ l : List Int, l.length = n ∧ AllR k l ∧ v = .agg (l.map (Value.int k)).toArray := by
  unfold Value.okWide at h
  rw [ht] at h
  obtain ⟨cs, rfl, hs, ts, hts', _, hall⟩ := h
  rw [hts] at hts'
  obtain rfl := Option.some.inj hts'
  obtain ⟨l, h1, h2⟩ := ints_of (k := k) cs.toList fun v hv => by
    obtain ⟨i, hi, rfl⟩ := List.getElem_of_mem hv
    obtain ⟨u, hu, hcell⟩ := hall i (cs.toList[i]) (by simp at hi ⊢)
    have : u = e := by
      have := List.mem_of_getElem? hu
      exact (List.mem_replicate.1 this).2
    subst this
    exact cell_int he hcell
  refine ⟨l, ?_, h1, ?_⟩
  · have := congrArg List.length h2
    simp at this
    omega
  · rw [← h2]

theorem int_arg {w : World} {r : Reach} {b : Nat} {e : TypeId} {k : IntKind} {v : Value} (he : P.underlying e = some (.int k)) (h : Value.okWide P w r b e v) : ∃ z, v = .int k z ∧ InR k z := by
  unfold Value.okWide at h
  rw [he] at h
  exact cell_int he h

/-- All arguments read behind the call as they did. -/
theorem below_trodAll {H : Type} {enc : TypeId × Value → H} {W W' : World} (hl : laidOutB P = true) (hB : Below W.heap.size W W') {sp : Nat → Bool} : ∀ {ts : List TypeId} {vs : List Value} {ds : List (DataW H)} {ps : List MemPlace},
    (∀ t ∈ ts, P.readableRec t = true ∧ t < P.types.size) → DataW.TrodAll enc P W 0 (fun _ => true) true ts vs ds ps → (∀ p ∈ ps, p.block < W.heap.size) → (∀ p ∈ ps, sp p.block = true) → DataW.TrodAll enc P W' 0 sp true ts vs ds ps
  | [], _, _, _, _, h, _, _ => by
    obtain ⟨rfl, rfl, rfl⟩ := trodAll_nil h
    exact trodAll_mk0
  | t :: ts, _, _, _, ht, h, hlt, hs => by
    obtain ⟨v, vs1, d, ds1, p, q, rfl, rfl, rfl, h1, h2⟩ := trodAll_cons h
    have := ht t (by simp)
    exact trodAll_cons_mk (WideElems.Trod_stays hl this.1 this.2 h1 (fun x hx => hB.same (hlt x (by simp [hx]))) fun x hx => hs x (by simp [hx]))
      (below_trodAll hl hB (fun t h => ht t (by simp [h])) h2 (fun x hx => hlt x (by simp [hx])) fun x hx => hs x (by simp [hx]))

/-- What a row asks behind a call that has answered true and turned nothing old. -/
theorem post_true {H : Type} {enc : TypeId × Value → H} {f : Func} {s : ChangeSpec} {tb : TypeId} {W W' : World} {args : Array Value} {ds gs : List (DataW H)} {before : List MemPlace}
    (hl : laidOutB P = true) (hv : s.vars = []) (hr : f.resultTypes = #[tb]) (hb : P.underlying tb = some .bool) (hread : ∀ t ∈ f.params.toList, P.readableRec t = true ∧ t < P.types.size)
    (hfn : ∀ ds : List (DataW H), ds.length = f.params.size → (s.fn H ds).results = [.lit (.bool true)] ∧ (s.fn H ds).args = ds ∧ (s.fn H ds).vars = [])
    (hW : DataW.Whole enc P f.params.toList s.vars false W args.toList ds gs before) (hB : Below W.heap.size W W') : s.post enc P f false true false false W args (.bool true) W' := by
  have hW' := hW
  obtain ⟨p, q, hA0, hV, rfl, hz, hn⟩ := hW
  have hA : DataW.TrodAll enc P W 0 (fun _ => true) true f.params.toList args.toList ds p := hA0
  rw [hv] at hV
  obtain ⟨rfl, rfl⟩ := trodVars_none hV
  have hlen : ds.length = f.params.size := by
    have : ∀ {ts : List TypeId} {vs : List Value} {ds : List (DataW H)} {ps : List MemPlace}, DataW.TrodAll enc P W 0 (fun _ => true) true ts vs ds ps → ds.length = ts.length := by
      intro ts
      induction ts with
      | nil => intro vs ds ps h; obtain ⟨_, rfl, _⟩ := trodAll_nil h; rfl
      | cons t ts ih => intro vs ds ps h; obtain ⟨_, _, _, _, _, _, rfl, rfl, rfl, _, h2⟩ := trodAll_cons h; simp [ih h2]
    simpa using this hA
  obtain ⟨k1, k2, k3⟩ := hfn ds hlen
  have hlt : ∀ x ∈ p, x.block < W.heap.size := fun x hx => hW'.lt x (by simp [hx])
  have hres : ∀ (b : Nat) (sp : Nat → Bool) (hd : Bool), DataW.TrodAll enc P W' b sp hd f.resultTypes.toList ((Value.bool true).resultList f.resultTypes.size) (s.fn H (ds ++ [])).results [] := fun b sp hd => by
    rw [List.append_nil, k1, hr]
    exact trodAll_cons_mk (shut_bool hb _) trodAll_mk0
  have hargs : ∀ sp : Nat → Bool, (∀ x ∈ p, sp x.block = true) → DataW.TrodAll enc P W' 0 sp true f.params.toList args.toList (s.fn H (ds ++ [])).args p := fun sp hs => by
    rw [List.append_nil, k2]
    exact below_trodAll hl hB hread hA hlt hs
  have hvars : ∀ sp : Nat → Bool, DataW.TrodVars enc P W' sp s.vars (s.fn H (ds ++ [])).vars [] := fun sp => by
    rw [List.append_nil, k3, hv]; rfl
  refine ⟨ds, [], p ++ [], [], p, [], hW', hres _ _ _, hargs _ (fun x hx => by simpa using hlt x hx), hvars _, hB.frame _, fun _ => ?_⟩
  refine ⟨ok_one hr rfl (okWide_bool_mk hb _), _, _, ([] ++ p) ++ [], ⟨[] ++ p, [], trodAll_append (hargs _ (fun _ _ => rfl)) (hres _ _ _), hvars _, rfl, ?_, ?_⟩, ?_⟩
  · intro b off hp
    have hp' : MemPlace.cell b off ∈ p := by simpa using hp
    rw [hB.frozen (hlt _ hp')]
    exact hz b off (by simpa using hp')
  · intro ha
    have := hn ha
    simpa using this
  · intro x hx _
    simpa using hx

theorem chunks {α : Type} {n : Nat} : ∀ (m : Nat) (cs : List α) (f : Nat → List α), cs.length = m * n → (∀ i, i < m → (cs.drop (i * n)).take n = f i) → cs = ((List.range m).map f).flatten
  | 0, cs, f, hl, _ => by
    have : cs = [] := List.length_eq_zero_iff.1 (by simpa using hl)
    simp [this]
  | m + 1, cs, f, hl, h => by
    have ih := chunks (n := n) m (cs.drop n) (fun i => f (i + 1)) (by rw [List.length_drop, hl, Nat.succ_mul]; omega) fun i hi => by
      rw [List.drop_drop, ← h (i + 1) (by omega), Nat.succ_mul, Nat.add_comm n]
    have h0 := h 0 (by omega)
    rw [Nat.zero_mul, List.drop_zero] at h0
    rw [List.range_succ_eq_map, List.map_cons, List.flatten_cons, List.map_map]
    conv => lhs; rw [← List.take_append_drop n cs]
    rw [h0, ih]
    rfl

/-- A listed table of rows of numbers: its cells. -/
theorem tab2_of_head {W : World} {name : String} {k : IntKind} {rows : List (List Int)} {rest : List (String × DataW Unit)} {g : Nat} {t e1 e : TypeId} {m n : Nat}
    (hg : P.globalNamed name = some g) (hty : (P.globals[g]?).map (·.type) = some t) (ht : P.underlying t = some (.array m e1)) (ht1 : P.underlying e1 = some (.array n e)) (he : P.underlying e = some (.int k)) (hce : P.cellsOf e = 1) (hc1 : P.cellsOf e1 = n) (hct : P.cellsOf t = m * n)
    (h : laidMet P ((name, .agg (rows.map (Lib.tabData k))) :: rest) W) : W.rangeAt g 0 ((List.range m).map fun i => (rows.getD i []).map (Value.int k)).flatten ∧ g < W.heap.size := by
  obtain ⟨ps, ⟨g', t', cs, fuel, p, q, hg', ht', hvar, hd, _, _⟩, _⟩ := h
  obtain rfl := Option.some.inj (hg.symm.trans hg')
  obtain rfl := Option.some.inj (hty.symm.trans ht')
  have hcs : cs.toList = ((List.range m).map fun i => (rows.getD i []).map (Value.int k)).flatten := by
    cases fuel with
    | zero => simp [DataW.trod] at hd
    | succ fuel =>
      simp only [DataW.trod, ht, hc1, hct] at hd
      split at hd
      · rename_i hl
        obtain ⟨xs, hm, hx⟩ := Option.map_eq_some_iff.1 hd
        have hxs : xs.map (·.1) = rows.map (Lib.tabData k) := by
          have := congrArg Prod.fst hx
          simpa using this
        have hxl : xs.length = m := by simpa using Lib.mapM_length hm
        have hrl : rows.length = m := by
          have := congrArg List.length hxs
          simp at this
          omega
        refine chunks m _ _ hl fun i hi => ?_
        obtain ⟨b, hb, hf⟩ := Lib.mapM_at hm i i (by simp [hi])
        have h2 : (xs.map (·.1))[i]? = some b.1 := by simp [hb]
        rw [hxs] at h2
        simp only [List.getElem?_map, Option.map_eq_some_iff] at h2
        obtain ⟨r, hr, hrb⟩ := h2
        have hf' : DataW.trod (fun _ => ()) P W 0 (fun _ => true) false fuel e1 ((cs.toList.drop (i * n)).take n) = some (Lib.tabData k r, b.2) := by
          rw [hrb]; exact hf
        rw [Lib.cells_of_tab ht1 he hce hc1 hf']
        simp [List.getD, hr]
      · cases hd
  constructor
  · rw [← hcs]
    intro j v hj
    have := World.var?_cell hg hvar j
    rw [Nat.zero_add, this]
    simpa using hj
  · unfold World.var? at hvar
    rw [hg] at hvar
    simp only [Option.bind_some] at hvar
    split at hvar
    · rename_i hh
      exact (Array.getElem?_eq_some_iff.1 hh).1
    · cases hvar

theorem mem_start (W : World) (ρ : Nat → Pl) : Mem W (fun _ => False) ρ (fun _ => none) W :=
  ⟨by constructor <;> (intros; contradiction), FrameW.refl _ _, by intros; contradiction, by intros; contradiction, by intros; contradiction, .none (fun _ _ _ h => by cases h)⟩

/-- A law as a call off a world that holds the globals: its arguments hold no pointers. -/
theorem law_calls {Γ : Tab} (hΓ : TabOk P Γ) (hgl : Γ.gl = keysOf Γ.gh) {f : FuncId} {fn : Func} (hf : P.funcs[f]? = some fn) {L : Loops} {args : List SV} {K : SV → Prop} {inv : Nat → List Pv → Nat → Prop} (hv : Vc Γ fn L Γ.gh args K inv) (hlen : args.length ≤ fn.ntmps)
    {W : World} {vs : List Value} (hG : Glob Γ.gh W fun _ => False) (ha : Ds (fun _ => False) (fun _ => ({ blk := 0, off := 0, cap := 0 } : Pl)) args vs) (hK : ∀ x, K x → ∃ e, x = .b e true) :
    Calls P f vs.toArray W fun e w' => e = .returned (.bool true) ∧ Below W.heap.size W w' := by
  obtain ⟨ρg, g1, g2, g3⟩ := mem_of_glob hG (mem_start W fun _ => ({ blk := 0, off := 0, cap := 0 } : Pl))
  have hgo : GlOk Γ W (fun _ => False) ρg (assoc Γ.gh) := ⟨fun g hg => ⟨assoc_dm (by rw [← hgl]; exact hg), (g3 g).1, (g3 g).2⟩, g2⟩
  refine (vc_calls hΓ hf hv hlen hgo g1 (Ds.mono (fun _ h => h.elim) (fun _ h => h.elim) args vs ha)).mono fun e w' he => ?_
  obtain ⟨x, v, rfl, k1, ⟨dm, ρ', k2⟩, k3⟩ := he
  obtain ⟨e, rfl⟩ := hK x k1
  simp only [D] at k2
  exact ⟨by rw [k2], k3⟩
end
end Go.Gx

/- A law that reads slices, as a call off a world that holds the globals. -/
namespace Go.Gx
open Go.RowKit Go.ChangeShapes Go.WideShapes Go.ChangeAt
set_option linter.unusedVariables false

section
variable {P : Program}

theorem law_views {Γ : Tab} (hΓ : TabOk P Γ) (hgl : Γ.gl = keysOf Γ.gh) (hlow : ∀ g ∈ keysOf Γ.gh, g < 500) {f : FuncId} {fn : Func} (hf : P.funcs[f]? = some fn) {L : Loops} {ras : List RA} {args' : List SV} {K : SV → Prop} {inv : Nat → List Pv → Nat → Prop}
    (k1 : okArgs 500 ras args') (k3 : Vc Γ fn L (Γ.gh ++ viewH 500 ras) args' K inv) (k2 : args'.length ≤ fn.ntmps)
    {W : World} {vs : List Value} (hG : Glob Γ.gh W fun _ => False) (hR : RAsD P W (fun _ => False) (fun _ => ({ blk := 0, off := 0, cap := 0 } : Pl)) ras vs) (hK : ∀ x, K x → ∃ e, x = .b e true) :
    Calls P f vs.toArray W fun e w' => e = .returned (.bool true) ∧ Below W.heap.size W w' := by
  obtain ⟨ρg, g1, g2, g3⟩ := mem_of_glob hG (mem_start W fun _ => ({ blk := 0, off := 0, cap := 0 } : Pl))
  obtain ⟨pl, v1, v2⟩ := views_at ras args' vs 500 hR k1
  have hbelow : ∀ k b, assoc Γ.gh k = some b → k < 500 := fun k b hb => hlow k (keysOf_of_dm (by unfold dmOf; rw [hb]; rfl))
  have hat : ∀ k b, assoc (Γ.gh ++ viewH 500 ras) k = some b → (k < 500 ∧ assoc Γ.gh k = some b) ∨ (500 ≤ k ∧ assoc (viewH 500 ras) k = some b) := fun k b hb => by
    rw [assoc_app] at hb
    split at hb
    · rename_i x hx
      rw [hb] at hx
      exact .inl ⟨hbelow k b hx, hx⟩
    · exact .inr ⟨viewH_low ras 500 k b hb, hb⟩
  have hmem : Mem W (fun _ => False) (fun k => if k < 500 then ρg k else pl k) (assoc (Γ.gh ++ viewH 500 ras)) W := by
    refine mem_ro fun k b hb => ?_
    rcases hat k b hb with ⟨hk, hb⟩ | ⟨hk, hb⟩
    · simp only [hk, if_true]
      obtain ⟨l, cs, rfl, _, _, _, hlt⟩ := g2 k b (assoc_mem hb)
      obtain ⟨cs2, s1, s2, s3, _⟩ := g1.heap.blk k _ hb
      obtain ⟨_, _, e, q1, q2, _, _⟩ := g2 k _ (assoc_mem hb)
      simp only [SB.segs.injEq, true_and] at e
      subst e
      refine ⟨_, _, rfl, q1, ?_, by rw [(g3 k).1, (g3 k).2]; exact q2, fun hc => g1.heap.lt k true _ hb hc⟩
      have hu : ∀ (l : List Seg) (dm dm' : Nat → Prop) (ρ ρ' : Nat → Pl) (u v : List Value), SegsD dm ρ l u → SegsD dm' ρ' l v → u.length = v.length := by
        intro l
        induction l with
        | nil => intro _ _ _ _ u v hu hv; rw [show u = [] from hu, show v = [] from hv]
        | cons g r ih =>
          intro dm dm' ρ ρ' u v hu hv
          obtain ⟨a1, a2, a3, rfl, a5⟩ := hu
          obtain ⟨b1, b2, b3, rfl, b5⟩ := hv
          have := ih dm dm' ρ ρ' _ _ a5 b5
          have hg : a1.length = b1.length := by
            cases g with
            | one x => obtain ⟨_, _, _, e1⟩ := a3; obtain ⟨_, _, _, e2⟩ := b3; rw [e1, e2]; rfl
            | arr k n ex l => rw [a3.2.2, b3.2.2]
            | rowI k l => rw [a3.2, b3.2]
            | rowA k n l => rw [a3.2, b3.2]
            | rowH key hs => rw [a3.2.len, b3.2.len]
          simp [this, hg]
      rw [hu _ _ _ _ _ _ _ q1 s1]
      exact s2
    · have hn : ¬ (k < 500) := by omega
      simp only [hn, if_false]
      exact v1 k b hb
  have hgo : GlOk Γ W (fun _ => False) (fun k => if k < 500 then ρg k else pl k) (assoc (Γ.gh ++ viewH 500 ras)) := by
    refine ⟨fun g hg => ?_, g2⟩
    rw [hgl] at hg
    have hk := hlow g hg
    simp only [hk, if_true]
    refine ⟨?_, (g3 g).1, (g3 g).2⟩
    have := assoc_dm hg
    unfold dmOf at this ⊢
    rw [assoc_app]
    obtain ⟨b, hb⟩ := Option.isSome_iff_exists.1 this
    rw [hb]; rfl
  have hargs : Ds (dmOf (assoc (Γ.gh ++ viewH 500 ras))) (fun k => if k < 500 then ρg k else pl k) args' vs := by
    refine v2 _ _ fun k hk => ?_
    obtain ⟨b, hb⟩ := Option.isSome_iff_exists.1 hk
    have h5 := viewH_low ras 500 k b hb
    have hn : ¬ (k < 500) := by omega
    refine ⟨?_, by simp only [hn, if_false]⟩
    unfold dmOf
    rw [assoc_app]
    split
    · rfl
    · exact hk
  refine (vc_calls hΓ hf k3 k2 hgo hmem hargs).mono fun e w' he => ?_
  obtain ⟨x, v, rfl, q1, ⟨dm, ρ', q2⟩, q3⟩ := he
  obtain ⟨e, rfl⟩ := hK x q1
  simp only [D] at q2
  exact ⟨by rw [q2], q3⟩

/-- An argument that is a slice of numbers: nil, or its numbers, which are few. -/
theorem slice_arg {H : Type} {enc : TypeId × Value → H} {W : World} {t e : TypeId} {k : IntKind} {v : Value} {d : DataW H} {ps : List MemPlace} {b : Nat} (hone : v.cells = #[v])
    (ht : P.underlying t = some (.slice e)) (he : P.underlying e = some (.int k)) (hc : P.cellsOf e = 1) (h : DataW.Trod enc P W b (fun _ => true) true t v d ps) {ts : List TypeId} {ds : List (DataW H)} {j : Nat} (hj : ts[j]? = some t) (hd : ds[j]? = some d) (hw : (DataW.weightsEach P ts ds).all (· ≤ reachBytes) = true) (hbs : 0 < P.bytesOf e) :
    (v = .slice none 0 0) ∨ ∃ zs : List Int, AllR k zs ∧ zs.length < 140737488355328 ∧ ConAt P W v (.ints k zs) ∧ ∃ ad n cap, v = .slice ad n cap := by
  obtain ⟨fuel, h⟩ := h
  rw [hone] at h
  rcases open_ints ht he hc h with ⟨h1, _⟩ | ⟨a, len, cap, zs, h1, h2, h3, h4, h5, h6, h7, h8⟩
  · left; simpa using h1
  · right
    have hv : v = .slice (some a) len cap := by simpa using h1
    have hzl : zs.length = cap := by simpa using h5
    have hdz : d = .slice (lits k (zs.take len)) (lits k (zs.drop len)) := by
      have := congrArg Prod.fst h6; simpa using this
    have hsz := sized_slice hw hj (by rw [hd, hdz]) ht
    have hll : ∀ l : List Int, (lits (H := H) k l).length = l.length := fun l => by simp [lits]
    rw [hll, hll, List.length_take, List.length_drop, hzl, Nat.min_eq_left h3] at hsz
    have hcap : cap < 2 ^ 47 := by
      have h9 := reachBytes_lt
      have : cap * 1 ≤ cap * P.bytesOf e := Nat.mul_le_mul_left _ hbs
      rw [show len + (cap - len) = cap by omega] at hsz
      omega
    have hR : AllR k zs := fun z hz => by
      have := h8 z hz
      simp only [Lit.wf, Bool.and_eq_true, decide_eq_true_eq] at this
      cases k <;> simp [InR, IntKind.min, IntKind.max, IntKind.bits, IntKind.signed] at this ⊢ <;> omega
    have hRt : AllR k (zs.take len) := fun z hz => hR z (List.mem_of_mem_take hz)
    have hlen : (zs.take len).length = len := by rw [List.length_take]; omega
    have hget : ∀ i v, (((zs.take len).map (Value.int k))[i]? = some v) → W.cell? (a.add i) = some v := fun i v hv => by
      rw [List.getElem?_map, Option.map_eq_some_iff] at hv
      obtain ⟨z, hz, rfl⟩ := hv
      have hi : i < len := by have := (List.getElem?_eq_some_iff.1 hz).1; omega
      rw [List.getElem?_take, if_pos hi] at hz
      rw [h7 i (by omega)]
      simp [List.getD, hz]
    refine ⟨zs.take len, hRt, by omega, ⟨hRt, fun w' => ?_, fun ad n c' hv' => ?_, fun w' hw' m hm => ?_⟩, some a, len, cap, hv⟩
    · rw [hv]; simp [Builtin.lenOf, conLen, hlen]
    · rw [hv] at hv'
      simp only [Value.slice.injEq] at hv'
      obtain ⟨rfl, rfl, rfl⟩ := hv'
      refine ⟨by simp [conLen, hlen], h3, ?_⟩
      rcases Nat.eq_zero_or_pos cap with h0 | h0
      · exact .inl ⟨by simp only [conLen]; omega, h0⟩
      · right
        have h00 := h7 0 (by omega)
        obtain ⟨bk, of, sp⟩ := a
        have hsp : sp = none ∧ bk < W.heap.size := by
          unfold World.cell? at h00
          split at h00
          · rename_i hb
            have hb : W.heap[bk]? = _ := hb
            refine ⟨?_, (Array.getElem?_eq_some_iff.1 hb).1⟩
            split at h00
            · cases h00
            · rename_i hs
              have hs : ¬ sp.isSome = true := hs
              simpa using hs
          · cases h00
        obtain ⟨rfl, hbk⟩ := hsp
        refine ⟨bk, of, rfl, fun _ => hbk, fun i u hu => ?_⟩
        have := hget i u hu
        have ea : (⟨bk, of, none⟩ : Addr).add i = ⟨bk, of + i, none⟩ := by
          by_cases h : i = 0 <;> simp [Addr.add, h]
        rw [ea] at this
        exact this
    · rw [hv]
      have hm' : m ≤ len := by simpa [conLen, hlen] using hm
      refine firstCells_some 1 m a len cap _ (by simp only [conSize, conCells, Nat.mul_one, List.length_take, List.length_map, hlen]; omega) (fun i u hu => hw' _ _ (hget i u ?_))
      rw [List.getElem?_take] at hu
      split at hu
      · exact hu
      · cases hu
end
end Go.Gx

/- The tables of the program, and their cells in a row's world; what all rows of this seat ask. -/
namespace Go.Gx
open Go.Proofs Go.Sp Go.Proofs.YtihihilhfijloaaDoor
open Go.ChangeShapes Go.WideShapes Go.ChangeAt Go.RowKit
set_option linter.unusedVariables false

theorem glob_of {W : World} {name : String} {k : IntKind} {zs : List Int} {g : Nat} (hg : Tryd.prog.globalNamed name = some g) (h : Lib.TabIs Tryd.prog W name k zs) : W.rangeAt g 0 (zs.map (Value.int k)) ∧ g < W.heap.size := by
  have hv : W.var? Tryd.prog name = some (zs.map fun z => Value.int k z).toArray := h
  constructor
  · intro j v hj
    have := World.var?_cell hg hv j
    rw [Nat.zero_add, this]
    simpa using hj
  · unfold World.var? at hv
    rw [hg] at hv
    simp only [Option.bind_some] at hv
    split at hv
    · rename_i hh
      exact (Array.getElem?_eq_some_iff.1 hh).1
    · cases hv

theorem all_u64 {l : List Int} (h : (l.all fun z => decide (0 ≤ z) && decide (z < 18446744073709551616)) = true) : AllR .u64 l := fun z hz => by
  have := List.all_eq_true.1 h z hz
  simpa [InR] using this
theorem start_ok : start8.length = 8 ∧ AllR .u64 start8 := ⟨rfl, all_u64 (by decide +kernel)⟩
theorem rounds_ok : K80.length = 80 ∧ AllR .u64 K80 := ⟨by decide +kernel, all_u64 (by decide +kernel)⟩

theorem tab_glob {W : World} (h : laidMetH Tryd.prog [("veil/hash.rounds", Rows.laid_veil_hash_rounds), ("veil/hash.start", Rows.laid_veil_hash_start)] W) : Glob gh W fun _ => False := by
  have h' : laidMet Tryd.prog (("veil/hash.rounds", Lib.tabData .u64 K80) :: ("veil/hash.start", Lib.tabData .u64 start8) :: []) W := h
  obtain ⟨a1, a2⟩ := glob_of (g := 2) (by kernel_rfl) (Lib.tabIs_of_head (n := 80) (g := 2) (t := 78) (e := 43) (by kernel_rfl) (by kernel_rfl) (by kernel_rfl) (by kernel_rfl) (by kernel_rfl) (by kernel_rfl) h')
  obtain ⟨b1, b2⟩ := glob_of (g := 0) (by kernel_rfl) (Lib.tabIs_of_head (n := 8) (g := 0) (t := 44) (e := 43) (by kernel_rfl) (by kernel_rfl) (by kernel_rfl) (by kernel_rfl) (by kernel_rfl) (by kernel_rfl) (laidMet.tail h'))
  intro g b hb
  have hb : (g, b) ∈ [(0, SB.segs true [.arr .u64 8 true start8]), (2, .segs true [.arr .u64 80 false K80])] := hb
  simp only [List.mem_cons, List.not_mem_nil, or_false, Prod.mk.injEq] at hb
  rcases hb with ⟨rfl, rfl⟩ | ⟨rfl, rfl⟩
  · exact ⟨_, _, rfl, ⟨_, _, ⟨start_ok.1, start_ok.2, rfl⟩, (List.append_nil _).symm, rfl⟩, b1, fun x => x, b2⟩
  · exact ⟨_, _, rfl, ⟨_, _, ⟨rounds_ok.1, rounds_ok.2, rfl⟩, (List.append_nil _).symm, rfl⟩, a1, fun x => x, a2⟩

def layC (cs : Array Value) : Obj → Obj
  | .cells _ t frozen => .cells cs t frozen
  | o => o
/-- A world for the witness: the settled one, the tables laid. -/
noncomputable def laidWorld (os : Os) : World :=
  { World.holding Tryd.prog os ⟨#[], #[], []⟩ with heap := ((World.holding Tryd.prog os ⟨#[], #[], []⟩).heap.modify 0 (layC #[.int .u64 7640891576956012808, .int .u64 13503953896175478587, .int .u64 4354685564936845355, .int .u64 11912009170470909681, .int .u64 5840696475078001361, .int .u64 11170449401992604703, .int .u64 2270897969802886507, .int .u64 6620516959819538809])).modify 2 (layC #[.int .u64 4794697086780616226, .int .u64 8158064640168781261, .int .u64 13096744586834688815, .int .u64 16840607885511220156, .int .u64 4131703408338449720, .int .u64 6480981068601479193, .int .u64 10538285296894168987, .int .u64 12329834152419229976, .int .u64 15566598209576043074, .int .u64 1334009975649890238, .int .u64 2608012711638119052, .int .u64 6128411473006802146, .int .u64 8268148722764581231, .int .u64 9286055187155687089, .int .u64 11230858885718282805, .int .u64 13951009754708518548, .int .u64 16472876342353939154, .int .u64 17275323862435702243, .int .u64 1135362057144423861, .int .u64 2597628984639134821, .int .u64 3308224258029322869, .int .u64 5365058923640841347, .int .u64 6679025012923562964, .int .u64 8573033837759648693, .int .u64 10970295158949994411, .int .u64 12119686244451234320, .int .u64 12683024718118986047, .int .u64 13788192230050041572, .int .u64 14330467153632333762, .int .u64 15395433587784984357, .int .u64 489312712824947311, .int .u64 1452737877330783856, .int .u64 2861767655752347644, .int .u64 3322285676063803686, .int .u64 5560940570517711597, .int .u64 5996557281743188959, .int .u64 7280758554555802590, .int .u64 8532644243296465576, .int .u64 9350256976987008742, .int .u64 10552545826968843579, .int .u64 11727347734174303076, .int .u64 12113106623233404929, .int .u64 14000437183269869457, .int .u64 14369950271660146224, .int .u64 15101387698204529176, .int .u64 15463397548674623760, .int .u64 17586052441742319658, .int .u64 1182934255886127544, .int .u64 1847814050463011016, .int .u64 2177327727835720531, .int .u64 2830643537854262169, .int .u64 3796741975233480872, .int .u64 4115178125766777443, .int .u64 5681478168544905931, .int .u64 6601373596472566643, .int .u64 7507060721942968483, .int .u64 8399075790359081724, .int .u64 8693463985226723168, .int .u64 9568029438360202098, .int .u64 10144078919501101548, .int .u64 10430055236837252648, .int .u64 11840083180663258601, .int .u64 13761210420658862357, .int .u64 14299343276471374635, .int .u64 14566680578165727644, .int .u64 15097957966210449927, .int .u64 16922976911328602910, .int .u64 17689382322260857208, .int .u64 500013540394364858, .int .u64 748580250866718886, .int .u64 1242879168328830382, .int .u64 1977374033974150939, .int .u64 2944078676154940804, .int .u64 3659926193048069267, .int .u64 4368137639120453308, .int .u64 4836135668995329356, .int .u64 5532061633213252278, .int .u64 6448918945643986474, .int .u64 6902733635092675308, .int .u64 7801388544844847127]) }

theorem own : ownKnob Tryd.prog.godebug = none := by kernel_rfl
theorem laidOut : laidOutB Tryd.prog = true := by kernel_rfl

end Go.Gx

/- The tables of both packages, and their cells in a row's world. -/
namespace Go.Gx
open Go.Proofs Go.Sp Go.Proofs.YtihihilhfijloaaDoor
open Go.ChangeShapes Go.WideShapes Go.ChangeAt Go.RowKit
set_option linter.unusedVariables false

theorem tab_glob4 {W : World} (h : laidMetH Tryd.prog [("veil/veilref03.round", Rows.laid_veil_veilref03_round), ("veil/veilref03.first", Rows.laid_veil_veilref03_first), ("veil/hash.rounds", Rows.laid_veil_hash_rounds), ("veil/hash.start", Rows.laid_veil_hash_start)] W) : Glob gh4 W fun _ => False := by
  have h' : laidMet Tryd.prog (("veil/veilref03.round", Lib.tabData .u64 K80) :: ("veil/veilref03.first", Lib.tabData .u64 start8) :: ("veil/hash.rounds", Lib.tabData .u64 K80) :: ("veil/hash.start", Lib.tabData .u64 start8) :: []) W := h
  obtain ⟨c1, c2⟩ := glob_of (g := 3) (by kernel_rfl) (Lib.tabIs_of_head (n := 80) (g := 3) (t := 78) (e := 43) (by kernel_rfl) (by kernel_rfl) (by kernel_rfl) (by kernel_rfl) (by kernel_rfl) (by kernel_rfl) h')
  have h' := laidMet.tail h'
  obtain ⟨d1, d2⟩ := glob_of (g := 1) (by kernel_rfl) (Lib.tabIs_of_head (n := 8) (g := 1) (t := 44) (e := 43) (by kernel_rfl) (by kernel_rfl) (by kernel_rfl) (by kernel_rfl) (by kernel_rfl) (by kernel_rfl) h')
  have h' := laidMet.tail h'
  obtain ⟨a1, a2⟩ := glob_of (g := 2) (by kernel_rfl) (Lib.tabIs_of_head (n := 80) (g := 2) (t := 78) (e := 43) (by kernel_rfl) (by kernel_rfl) (by kernel_rfl) (by kernel_rfl) (by kernel_rfl) (by kernel_rfl) h')
  obtain ⟨b1, b2⟩ := glob_of (g := 0) (by kernel_rfl) (Lib.tabIs_of_head (n := 8) (g := 0) (t := 44) (e := 43) (by kernel_rfl) (by kernel_rfl) (by kernel_rfl) (by kernel_rfl) (by kernel_rfl) (by kernel_rfl) (laidMet.tail h'))
  intro g b hb
  have hb : (g, b) ∈ [(0, SB.segs true [.arr .u64 8 true start8]), (1, .segs true [.arr .u64 8 true start8]), (2, .segs true [.arr .u64 80 false K80]), (3, .segs true [.arr .u64 80 false K80])] := hb
  simp only [List.mem_cons, List.not_mem_nil, or_false, Prod.mk.injEq] at hb
  rcases hb with ⟨rfl, rfl⟩ | ⟨rfl, rfl⟩ | ⟨rfl, rfl⟩ | ⟨rfl, rfl⟩
  · exact ⟨_, _, rfl, ⟨_, _, ⟨start_ok.1, start_ok.2, rfl⟩, (List.append_nil _).symm, rfl⟩, b1, fun x => x, b2⟩
  · exact ⟨_, _, rfl, ⟨_, _, ⟨start_ok.1, start_ok.2, rfl⟩, (List.append_nil _).symm, rfl⟩, d1, fun x => x, d2⟩
  · exact ⟨_, _, rfl, ⟨_, _, ⟨rounds_ok.1, rounds_ok.2, rfl⟩, (List.append_nil _).symm, rfl⟩, a1, fun x => x, a2⟩
  · exact ⟨_, _, rfl, ⟨_, _, ⟨rounds_ok.1, rounds_ok.2, rfl⟩, (List.append_nil _).symm, rfl⟩, c1, fun x => x, c2⟩

/-- A world for the witness: the settled one, the tables laid. -/
noncomputable def laidWorld4 (os : Os) : World :=
  { World.holding Tryd.prog os ⟨#[], #[], []⟩ with heap := ((((World.holding Tryd.prog os ⟨#[], #[], []⟩).heap.modify 0 (layC #[.int .u64 7640891576956012808, .int .u64 13503953896175478587, .int .u64 4354685564936845355, .int .u64 11912009170470909681, .int .u64 5840696475078001361, .int .u64 11170449401992604703, .int .u64 2270897969802886507, .int .u64 6620516959819538809])).modify 1 (layC #[.int .u64 7640891576956012808, .int .u64 13503953896175478587, .int .u64 4354685564936845355, .int .u64 11912009170470909681, .int .u64 5840696475078001361, .int .u64 11170449401992604703, .int .u64 2270897969802886507, .int .u64 6620516959819538809])).modify 2 (layC #[.int .u64 4794697086780616226, .int .u64 8158064640168781261, .int .u64 13096744586834688815, .int .u64 16840607885511220156, .int .u64 4131703408338449720, .int .u64 6480981068601479193, .int .u64 10538285296894168987, .int .u64 12329834152419229976, .int .u64 15566598209576043074, .int .u64 1334009975649890238, .int .u64 2608012711638119052, .int .u64 6128411473006802146, .int .u64 8268148722764581231, .int .u64 9286055187155687089, .int .u64 11230858885718282805, .int .u64 13951009754708518548, .int .u64 16472876342353939154, .int .u64 17275323862435702243, .int .u64 1135362057144423861, .int .u64 2597628984639134821, .int .u64 3308224258029322869, .int .u64 5365058923640841347, .int .u64 6679025012923562964, .int .u64 8573033837759648693, .int .u64 10970295158949994411, .int .u64 12119686244451234320, .int .u64 12683024718118986047, .int .u64 13788192230050041572, .int .u64 14330467153632333762, .int .u64 15395433587784984357, .int .u64 489312712824947311, .int .u64 1452737877330783856, .int .u64 2861767655752347644, .int .u64 3322285676063803686, .int .u64 5560940570517711597, .int .u64 5996557281743188959, .int .u64 7280758554555802590, .int .u64 8532644243296465576, .int .u64 9350256976987008742, .int .u64 10552545826968843579, .int .u64 11727347734174303076, .int .u64 12113106623233404929, .int .u64 14000437183269869457, .int .u64 14369950271660146224, .int .u64 15101387698204529176, .int .u64 15463397548674623760, .int .u64 17586052441742319658, .int .u64 1182934255886127544, .int .u64 1847814050463011016, .int .u64 2177327727835720531, .int .u64 2830643537854262169, .int .u64 3796741975233480872, .int .u64 4115178125766777443, .int .u64 5681478168544905931, .int .u64 6601373596472566643, .int .u64 7507060721942968483, .int .u64 8399075790359081724, .int .u64 8693463985226723168, .int .u64 9568029438360202098, .int .u64 10144078919501101548, .int .u64 10430055236837252648, .int .u64 11840083180663258601, .int .u64 13761210420658862357, .int .u64 14299343276471374635, .int .u64 14566680578165727644, .int .u64 15097957966210449927, .int .u64 16922976911328602910, .int .u64 17689382322260857208, .int .u64 500013540394364858, .int .u64 748580250866718886, .int .u64 1242879168328830382, .int .u64 1977374033974150939, .int .u64 2944078676154940804, .int .u64 3659926193048069267, .int .u64 4368137639120453308, .int .u64 4836135668995329356, .int .u64 5532061633213252278, .int .u64 6448918945643986474, .int .u64 6902733635092675308, .int .u64 7801388544844847127])).modify 3 (layC #[.int .u64 4794697086780616226, .int .u64 8158064640168781261, .int .u64 13096744586834688815, .int .u64 16840607885511220156, .int .u64 4131703408338449720, .int .u64 6480981068601479193, .int .u64 10538285296894168987, .int .u64 12329834152419229976, .int .u64 15566598209576043074, .int .u64 1334009975649890238, .int .u64 2608012711638119052, .int .u64 6128411473006802146, .int .u64 8268148722764581231, .int .u64 9286055187155687089, .int .u64 11230858885718282805, .int .u64 13951009754708518548, .int .u64 16472876342353939154, .int .u64 17275323862435702243, .int .u64 1135362057144423861, .int .u64 2597628984639134821, .int .u64 3308224258029322869, .int .u64 5365058923640841347, .int .u64 6679025012923562964, .int .u64 8573033837759648693, .int .u64 10970295158949994411, .int .u64 12119686244451234320, .int .u64 12683024718118986047, .int .u64 13788192230050041572, .int .u64 14330467153632333762, .int .u64 15395433587784984357, .int .u64 489312712824947311, .int .u64 1452737877330783856, .int .u64 2861767655752347644, .int .u64 3322285676063803686, .int .u64 5560940570517711597, .int .u64 5996557281743188959, .int .u64 7280758554555802590, .int .u64 8532644243296465576, .int .u64 9350256976987008742, .int .u64 10552545826968843579, .int .u64 11727347734174303076, .int .u64 12113106623233404929, .int .u64 14000437183269869457, .int .u64 14369950271660146224, .int .u64 15101387698204529176, .int .u64 15463397548674623760, .int .u64 17586052441742319658, .int .u64 1182934255886127544, .int .u64 1847814050463011016, .int .u64 2177327727835720531, .int .u64 2830643537854262169, .int .u64 3796741975233480872, .int .u64 4115178125766777443, .int .u64 5681478168544905931, .int .u64 6601373596472566643, .int .u64 7507060721942968483, .int .u64 8399075790359081724, .int .u64 8693463985226723168, .int .u64 9568029438360202098, .int .u64 10144078919501101548, .int .u64 10430055236837252648, .int .u64 11840083180663258601, .int .u64 13761210420658862357, .int .u64 14299343276471374635, .int .u64 14566680578165727644, .int .u64 15097957966210449927, .int .u64 16922976911328602910, .int .u64 17689382322260857208, .int .u64 500013540394364858, .int .u64 748580250866718886, .int .u64 1242879168328830382, .int .u64 1977374033974150939, .int .u64 2944078676154940804, .int .u64 3659926193048069267, .int .u64 4368137639120453308, .int .u64 4836135668995329356, .int .u64 5532061633213252278, .int .u64 6448918945643986474, .int .u64 6902733635092675308, .int .u64 7801388544844847127]) }
end Go.Gx

/- A law off a world that holds the globals: its arguments as data that is only read. -/
namespace Go.Gx
open Go.RowKit Go.ChangeShapes Go.WideShapes Go.ChangeAt
open Go.Proofs.YtihihilhfijloaaDoor.Rows (uptoBulk uptoBulkAll uptoSmall)
set_option linter.unusedVariables false

def shTyB (P : Program) : Sh → TypeId → Bool
  | .i k, t => (match P.underlying t with | some (.int k') => keq k k' | _ => false)
  | .tb, t => (match P.underlying t with | some .bool => true | _ => false)
  | .ts, t => (match P.underlying t with | some .string => true | _ => false)
  | .ints k, t => (match P.underlying t with
    | some (.slice e) => (match P.underlying e with | some (.int k') => keq k k' && (Nat.beq (P.cellsOf e) 1 && Nat.blt 0 (P.bytesOf e)) | _ => false)
    | _ => false)
  | .l sh, t => (match P.underlying t with
    | some (.slice e) => shTyB P sh e && (Nat.beq (P.cellsOf e) (shSize sh) && (Nat.blt 0 (shSize sh) && Nat.blt 0 (P.bytesOf e)))
    | _ => false)
  | _, _ => false

/-- How much data holds. -/
def roM : Sh → RO → Nat
  | .ts, d => (roS d).size
  | .ints _, d => (roL d).length
  | .l e, d => (roX d).length + ((roX d).map (roM e)).sum
  | _, _ => 0

/-- Is each slice and text of data of at most so many parts? -/
def roMx (N : Nat) : Sh → RO → Prop
  | .ts, d => (roS d).size ≤ N
  | .ints _, d => (roL d).length ≤ N
  | .l e, d => (roX d).length ≤ N ∧ ∀ x ∈ roX d, roMx N e x
  | _, _ => True

section
variable {P : Program}

theorem weightsAll_mem {H : Type} {e : TypeId} {d : DataW H} : ∀ {l : List (DataW H)}, d ∈ l → ∀ n ∈ d.weights P e, n ∈ DataW.weightsAll P e l
  | y :: r, h, n, hn => by
    simp only [DataW.weightsAll, List.mem_append]
    rcases List.mem_cons.1 h with rfl | h
    · exact .inl hn
    · exact .inr (weightsAll_mem h n hn)

theorem bulk_pos {H : Type} (d : DataW H) : 1 ≤ uptoBulk d := by unfold uptoBulk; split <;> omega
theorem bulkAll_len {H : Type} : ∀ (l : List (DataW H)), l.length ≤ uptoBulkAll l
  | [] => by simp [uptoBulkAll]
  | d :: r => by have := bulk_pos d; have := bulkAll_len r; simp only [uptoBulkAll, List.length_cons]; omega
theorem bulkAll_app {H : Type} : ∀ (a b : List (DataW H)), uptoBulkAll (a ++ b) = uptoBulkAll a + uptoBulkAll b
  | [], b => by simp [uptoBulkAll]
  | d :: r, b => by simp only [List.cons_append, uptoBulkAll, bulkAll_app r b]; omega

theorem ChainR.snoc {R : RO → Value → Prop} {x : RO} {v : Value} (hx : R x v) : ∀ (xs : List RO) (cs : List Value), ChainR R xs cs → ChainR R (xs ++ [x]) (cs ++ v.cells.toList)
  | [], cs, h => by rw [show cs = [] from h]; exact ⟨v, [], hx, by simp, rfl⟩
  | y :: r, cs, h => by
    obtain ⟨u, c, h1, rfl, h3⟩ := h
    exact ⟨u, c ++ v.cells.toList, h1, by simp [List.append_assoc], ChainR.snoc hx r c h3⟩

theorem rangeAt_app {w : World} {b o : Nat} {x y : List Value} (h1 : w.rangeAt b o x) (h2 : w.rangeAt b (o + x.length) y) : w.rangeAt b o (x ++ y) := fun j v hv => by
  rcases Nat.lt_or_ge j x.length with h | h
  · rw [List.getElem?_append_left h] at hv; exact h1 j v hv
  · rw [List.getElem?_append_right h] at hv
    have := h2 _ v hv
    rwa [show o + x.length + (j - x.length) = o + j by omega] at this

theorem addr_of_cell {W : World} {a : Addr} {v : Value} (h : W.cell? a = some v) : a = ⟨a.block, a.off, none⟩ ∧ a.block < W.heap.size := by
  obtain ⟨bk, of, sp⟩ := a
  unfold World.cell? at h
  split at h
  · rename_i hb
    have hb : W.heap[bk]? = _ := hb
    refine ⟨?_, (Array.getElem?_eq_some_iff.1 hb).1⟩
    split at h
    · cases h
    · rename_i hs
      have hs : ¬ sp.isSome = true := hs
      have : sp = none := by simpa using hs
      rw [this]
  · cases h

theorem add_add_addr (a : Addr) (i j : Nat) : (a.add i).add j = a.add (i + j) := by
  unfold Addr.add
  by_cases h1 : i = 0 <;> by_cases h2 : j = 0 <;> simp [h1, h2, Nat.add_assoc]
theorem add_zero_addr (a : Addr) : a.add 0 = a := by simp [Addr.add]

/-- An argument's reading, as data. -/
theorem trod_ro {H : Type} {enc : TypeId × Value → H} {W : World} (N : Nat) : ∀ (sh : Sh) (t : TypeId) (fuel : Nat) (cs : List Value) (x : DataW H × List MemPlace), shTyB P sh t = true → DataW.trod enc P W 0 (fun _ => true) true fuel t cs = some x →
    ∃ ro v, cs = v.cells.toList ∧ RoD W (OutB W fun _ => False) sh ro v ∧ roM sh ro + 1 ≤ uptoBulk x.1 ∧ ((∀ n ∈ x.1.weights P t, n ≤ N) → roMx N sh ro)
  | .i k, t, fuel, cs, x, hs, h => by
    simp only [shTyB] at hs
    split at hs
    · rename_i k' hu
      have hk := keq_eq hs
      subst hk
      cases fuel with
      | zero => simp [DataW.trod] at h
      | succ n =>
        unfold DataW.trod at h
        rw [hu] at h
        rcases cs with _ | ⟨c, _ | ⟨c2, r⟩⟩
        · simp at h
        · cases c <;> simp at h
          rename_i k2 z
          obtain ⟨⟨rfl, hz⟩, rfl⟩ := h
          refine ⟨.i z, .int k2 z, rfl, ?_, by simp [roM, uptoBulk], fun _ => trivial⟩
          simp only [RoD, roZ]
          refine ⟨trivial, ?_⟩
          simp only [Lit.wf, Bool.and_eq_true, decide_eq_true_eq] at hz
          cases k2 <;> simp [InR, IntKind.min, IntKind.max, IntKind.bits, IntKind.signed] at hz ⊢ <;> omega
        · simp at h
    · cases hs
  | .tb, t, fuel, cs, x, hs, h => by
    simp only [shTyB] at hs
    split at hs
    · rename_i hu
      cases fuel with
      | zero => simp [DataW.trod] at h
      | succ n =>
        unfold DataW.trod at h
        rw [hu] at h
        rcases cs with _ | ⟨c, _ | ⟨c2, r⟩⟩
        · simp at h
        · cases c <;> simp at h
          rename_i b
          subst h
          exact ⟨.b b, .bool b, rfl, by simp only [RoD, roB], by simp [roM, uptoBulk], fun _ => trivial⟩
        · simp at h
    · cases hs
  | .ts, t, fuel, cs, x, hs, h => by
    simp only [shTyB] at hs
    split at hs
    · rename_i hu
      cases fuel with
      | zero => simp [DataW.trod] at h
      | succ n =>
        unfold DataW.trod at h
        rw [hu] at h
        rcases cs with _ | ⟨c, _ | ⟨c2, r⟩⟩
        · simp at h
        · cases c <;> simp at h
          rename_i s
          obtain ⟨hz, rfl⟩ := h
          refine ⟨.s s, .string s, rfl, ?_, ?_, fun hw => ?_⟩
          · simp only [RoD, roS]
            refine ⟨trivial, ?_⟩
            have : s.size ≤ maxLen := hz
            simp only [maxLen] at this
            omega
          · simp only [roM, roS, uptoBulk]
            have : s.data.toList.length = s.size := by simp
            omega
          · have := hw s.data.toList.length (by simp [DataW.weights])
            have e : s.data.toList.length = s.size := by simp
            simp only [roMx, roS]
            omega
        · simp at h
    · cases hs
  | .ints k, t, fuel, cs, x, hs, h => by
    simp only [shTyB] at hs
    split at hs
    · rename_i e hu
      split at hs
      · rename_i k' hue
        simp only [Bool.and_eq_true] at hs
        have hk := keq_eq hs.1
        subst hk
        have hbs : 0 < P.bytesOf e := by have := hs.2.2; simp [Nat.blt] at this; omega
        rcases open_ints hu hue (Nat.eq_of_beq_eq_true hs.2.1) h with ⟨rfl, rfl⟩ | ⟨a, len, cap, zs, rfl, h2, h3, h4, h5, h6, h7, h8⟩
        · refine ⟨.l [], .slice none 0 0, rfl, ?_, by simp [roM, roL, uptoBulk], fun _ => Nat.zero_le _⟩
          simp only [RoD]
          exact ⟨none, 0, rfl, Nat.le_refl _, by simp [roL], (fun z hz => by cases hz), .inr ⟨rfl, rfl⟩⟩
        · have hzl : zs.length = cap := by simpa using h5
          have hR : AllR k zs := fun z hz => by
            have := h8 z hz
            simp only [Lit.wf, Bool.and_eq_true, decide_eq_true_eq] at this
            cases k <;> simp [InR, IntKind.min, IntKind.max, IntKind.bits, IntKind.signed] at this ⊢ <;> omega
          have hlen : (zs.take len).length = len := by rw [List.length_take]; omega
          have hmax : cap ≤ 140737488355328 ∨ True := .inr trivial
          refine ⟨.l (zs.take len), .slice (some a) len cap, rfl, ?_, ?_, fun hw => ?_⟩
          · simp only [RoD]
            have er : roL (.l (zs.take len)) = zs.take len := rfl
            rw [er]
            refine ⟨some a, cap, by rw [hlen], by omega, ?_, fun z hz => hR z (List.mem_of_mem_take hz), ?_⟩
            · rw [hlen]; simp only [maxLen] at h4; omega
            · rcases Nat.eq_zero_or_pos cap with h0 | h0
              · exact .inr ⟨by omega, h0⟩
              · have h00 := h7 0 (by omega)
                rw [add_zero_addr] at h00
                obtain ⟨ha, hb⟩ := addr_of_cell h00
                refine .inl ⟨a.block, a.off, by rw [← ha], ⟨hb, fun h => h⟩, fun i u hu => ?_⟩
                rw [List.getElem?_map, Option.map_eq_some_iff] at hu
                obtain ⟨z, hz, rfl⟩ := hu
                rw [List.getElem?_take] at hz
                split at hz
                · rename_i hi
                  have := h7 i (by omega)
                  have ea : a.add i = ⟨a.block, a.off + i, none⟩ := by rw [ha]; exact Addr.add_mid _ _ _
                  rw [ea] at this
                  rw [this]
                  simp [List.getD, hz]
                · cases hz
          · rw [h6]
            simp only [roM, roL, uptoBulk]
            have := bulkAll_len (lits (H := H) k (zs.take len))
            have e : (lits (H := H) k (zs.take len)).length = (zs.take len).length := by simp [lits]
            omega
          · rw [h6] at hw
            have elen : ∀ l : List Int, (lits (H := H) k l).length = l.length := fun l => by simp [lits]
            have := hw (((lits (H := H) k (zs.take len)).length + (lits (H := H) k (zs.drop len)).length) * P.bytesOf e) (by simp [DataW.weights, hu])
            rw [elen, elen] at this
            have h9 : ((zs.take len).length + (zs.drop len).length) * 1 ≤ ((zs.take len).length + (zs.drop len).length) * P.bytesOf e := Nat.mul_le_mul_left _ hbs
            show (zs.take len).length ≤ N
            omega
      · cases hs
    · cases hs
  | .l sh, t, fuel, cs, x, hs, h => by
    simp only [shTyB] at hs
    split at hs
    · rename_i e hu
      simp only [Bool.and_eq_true] at hs
      obtain ⟨hs1, hs2, hs3, hs4⟩ := hs
      have hbs : 0 < P.bytesOf e := by simp [Nat.blt] at hs4; omega
      have hc := Nat.eq_of_beq_eq_true hs2
      have hpos : 0 < shSize sh := by simp [Nat.blt] at hs3; omega
      rcases DataW.trod_slice hu h with ⟨rfl, rfl⟩ | ⟨a, len, cap, elems, rest, n, rfl, rfl, rfl, hb, hl, hm, hlen, hel, hsp, hns⟩
      · refine ⟨.r [], .slice none 0 0, rfl, ?_, by simp [roM, roX, uptoBulk], fun _ => ⟨Nat.zero_le _, fun x hx => by cases hx⟩⟩
        simp only [RoD]
        exact ⟨none, 0, [], rfl, Nat.le_refl _, by simp [roX], rfl, .inr ⟨rfl, rfl⟩⟩
      · obtain ⟨hrl, hrest⟩ := hsp rfl
        have hall : ∀ i, i < cap → ∃ ccs y, W.cells? 0 (a.add (i * P.cellsOf e)) (P.cellsOf e) = some ccs ∧ DataW.trod enc P W 0 (fun _ => true) true n e ccs = some y ∧ (i < len → elems[i]? = some y) := fun i hi => by
          by_cases hil : i < len
          · have h1 := hel i hil
            have h2 : elems[i]? = some elems[i] := List.getElem?_eq_getElem (by omega)
            rw [h2, Option.bind_eq_some_iff] at h1
            obtain ⟨ccs, q1, q2⟩ := h1
            exact ⟨ccs, _, q1, q2, fun _ => h2⟩
          · have h1 := hrest (i - len) (by omega)
            have h2 : rest[i - len]? = some rest[i - len] := List.getElem?_eq_getElem (by omega)
            rw [h2, Option.bind_eq_some_iff, show len + (i - len) = i by omega] at h1
            obtain ⟨ccs, q1, q2⟩ := h1
            exact ⟨ccs, _, q1, q2, fun h => absurd h hil⟩
        have hblk : 0 < cap → a = ⟨a.block, a.off, none⟩ ∧ a.block < W.heap.size := fun h0 => by
          obtain ⟨ccs, y, q1, q2, _⟩ := hall 0 h0
          obtain ⟨_, q3, q4⟩ := World.cells?_some q1
          have := q4 0 (by omega)
          rw [Nat.zero_mul, add_zero_addr, add_zero_addr] at this
          obtain ⟨v, hv⟩ : ∃ v, ccs[0]? = some v := ⟨ccs[0]'(by omega), List.getElem?_eq_getElem _⟩
          rw [hv] at this
          exact addr_of_cell this
        have hchain : ∀ m, m ≤ len → ∃ ros cs', ros.length = m ∧ ChainR (RoD W (OutB W fun _ => False) sh) ros cs' ∧ cs'.length = shSize sh * m ∧ (∀ i u, cs'[i]? = some u → W.cell? (a.add i) = some u) ∧ ros.length + (ros.map (roM sh)).sum ≤ uptoBulkAll ((elems.take m).map (·.1)) ∧ ((∀ y ∈ elems, ∀ n ∈ y.1.weights P e, n ≤ N) → ∀ ro ∈ ros, roMx N sh ro) := by
          intro m
          induction m with
          | zero => intro _; exact ⟨[], [], rfl, rfl, by simp, (fun i u h => by simp at h), by simp, fun _ x hx => by cases hx⟩
          | succ m ih =>
            intro hm'
            obtain ⟨ros, cs', r1, r2, r3, r4, r5, r6⟩ := ih (by omega)
            obtain ⟨ccs, y, q1, q2, q3⟩ := hall m (by omega)
            have q3 := q3 (by omega)
            obtain ⟨ro, v, rfl, s2, s3, s4⟩ := trod_ro N sh e n ccs y hs1 q2
            obtain ⟨_, q5, q6⟩ := World.cells?_some q1
            have hvl := RoD_cells sh ro v s2
            refine ⟨ros ++ [ro], cs' ++ v.cells.toList, by simp [r1], ChainR.snoc s2 ros cs' r2, by rw [List.length_append, r3, hvl, Nat.mul_add]; omega, fun i u hu => ?_, ?_, fun hy ro' hr => ?_⟩
            · rcases Nat.lt_or_ge i cs'.length with hi | hi
              · rw [List.getElem?_append_left hi] at hu; exact r4 i u hu
              · rw [List.getElem?_append_right hi] at hu
                have hi2 : i - cs'.length < v.cells.toList.length := (List.getElem?_eq_some_iff.1 hu).1
                have := q6 (i - cs'.length) (by omega)
                rw [hu] at this
                have e1 : m * P.cellsOf e = cs'.length := by rw [hc, r3, Nat.mul_comm]
                rw [← this, add_add_addr, e1, Nat.add_sub_cancel' hi]
            · rw [List.map_append, List.sum_append, List.length_append, List.take_add_one, q3, List.map_append, bulkAll_app]
              simp only [List.map_cons, List.map_nil, List.sum_cons, List.sum_nil, List.length_cons, List.length_nil, Option.toList_some, uptoBulkAll]
              omega
            · rcases List.mem_append.1 hr with hr | hr
              · exact r6 hy ro' hr
              · simp only [List.mem_cons, List.not_mem_nil, or_false] at hr
                subst hr
                exact s4 fun k hk => hy y (List.mem_of_getElem? q3) k hk
        obtain ⟨ros, cs', r1, r2, r3, r4, r5, r6⟩ := hchain len (Nat.le_refl _)
        refine ⟨.r ros, .slice (some a) len cap, rfl, ?_, ?_, fun hw => ⟨?_, ?_⟩⟩
        · simp only [RoD]
          have er : roX (.r ros) = ros := rfl
          rw [er]
          refine ⟨some a, cap, cs', by rw [r1], by omega, ?_, r2, ?_⟩
          · rw [r1]; simp only [maxLen] at hm; omega
          · rcases Nat.eq_zero_or_pos cap with h0 | h0
            · exact .inr ⟨by omega, h0⟩
            · obtain ⟨ha, hb⟩ := hblk h0
              refine .inl ⟨a.block, a.off, by rw [← ha], ⟨hb, fun h => h⟩, fun i u hu => ?_⟩
              have := r4 i u hu
              have ea : a.add i = ⟨a.block, a.off + i, none⟩ := by rw [ha]; exact Addr.add_mid _ _ _
              rwa [ea] at this
        · simp only [roM, roX, uptoBulk]
          rw [List.take_of_length_le (by omega)] at r5
          have := bulkAll_len (elems.map (·.1))
          rw [List.length_map] at this
          omega
        · have := hw (((elems.map (·.1)).length + (rest.map (·.1)).length) * P.bytesOf e) (by simp [DataW.weights, hu])
          rw [List.length_map, List.length_map] at this
          have h9 : (elems.length + rest.length) * 1 ≤ (elems.length + rest.length) * P.bytesOf e := Nat.mul_le_mul_left _ hbs
          show ros.length ≤ N
          omega
        · refine r6 fun y hy k hk => hw k ?_
          simp only [DataW.weights, hu, List.mem_cons, List.mem_append]
          exact .inr (.inl (weightsAll_mem (List.mem_map.2 ⟨y, hy, rfl⟩) k hk))
    · cases hs
  | .arr _ _, t, fuel, cs, x, hs, h => by simp [shTyB] at hs
  | .r _, t, fuel, cs, x, hs, h => by simp [shTyB] at hs

def slSh : Sh → Bool
  | .ints _ => true
  | .l _ => true
  | _ => false

/-- An argument that is a slice, as data. -/
theorem arg_ro {H : Type} {enc : TypeId × Value → H} {W : World} (N : Nat) (sh : Sh) {t : TypeId} {v : Value} {d : DataW H} {ps : List MemPlace} (hs : shTyB P sh t = true) (hsl : slSh sh = true) (hv : v.cells.toList = [v]) (h : DataW.Trod enc P W 0 (fun _ => true) true t v d ps) :
    ∃ ro, RoD W (OutB W fun _ => False) sh ro v ∧ (∃ ad n cap, v = .slice ad n cap) ∧ roM sh ro + 1 ≤ uptoBulk d ∧ ((∀ n ∈ d.weights P t, n ≤ N) → roMx N sh ro) := by
  obtain ⟨fuel, h⟩ := h
  obtain ⟨ro, u, e, q1, q2, q3⟩ := trod_ro N sh t fuel _ _ hs h
  have hu : ∃ ad n cap, u = .slice ad n cap := by
    cases sh <;> simp only [slSh, Bool.false_eq_true] at hsl <;> simp only [RoD] at q1
    · obtain ⟨a, cap, rfl, _⟩ := q1; exact ⟨_, _, _, rfl⟩
    · obtain ⟨a, cap, cs, rfl, _⟩ := q1; exact ⟨_, _, _, rfl⟩
  have huv : v = u := by
    obtain ⟨ad, n, cap, rfl⟩ := hu
    rw [hv] at e
    simpa [Value.cells] using e
  subst huv
  exact ⟨ro, q1, hu, q2, q3⟩

/-- A law as a call off a world that holds the globals. -/
theorem law_gen {Γ : Tab} (hΓ : TabOk P Γ) (hgl : Γ.gl = keysOf Γ.gh) (hlow : ∀ g ∈ keysOf Γ.gh, g < 490) {f : FuncId} {fn : Func} (hf : P.funcs[f]? = some fn) {av : List AV} {args' : List SV} {L : Loops} {K : List RV → List (Option (List Seg)) → Prop} {inv : Nat → List Pv → Nat → Prop}
    (k1 : okA 600 av args' []) (k2 : args'.length ≤ fn.ntmps) (k3 : VcG 0 Γ fn L (Γ.gh ++ (490, .world) :: []) args' K inv) (hK : ∀ rvs fin, K rvs fin → ∃ e, rvs = [.v (.b e true)])
    {W : World} {vs : List Value} (hG : Glob Γ.gh W fun _ => False) (hA : AsD W (OutB W fun _ => False) (fun _ => none) (fun _ => { blk := 0, off := 0, cap := 0 }) av vs []) :
    Calls P f vs.toArray W fun e w' => e = .returned (.bool true) ∧ Below W.heap.size W w' := by
  have hm := mem_start W fun _ => { blk := 0, off := 0, cap := 0 }
  obtain ⟨hh1, hh2⟩ := okA_heap av vs [] 600 args' [] hA k1
  obtain ⟨ρ1, m1, m2, m3, m4, m5⟩ := gen_mem hG hgl hlow hm (ks := []) (fun k hk => by cases hk) List.nodup_nil (M' := fun _ => False) (fun b => ⟨fun h => h.elim, fun ⟨k, hk, _⟩ => by cases hk⟩) hh1 hh2
  have hargs := okA_args m3 m4 av vs [] 600 args' [] hA k1 (fun i hi => by simp at hi)
  refine (vcG_calls hΓ hf k3 k2 m2 m1 hargs).mono fun e w' he => ?_
  obtain ⟨x, v, h', ρ', rfl, r1, r2, r3, r4⟩ := he
  obtain ⟨rvs', fin', t1, t3, t4, t5⟩ := kvG_sound r3 r2 r1
  obtain ⟨e, rfl⟩ := hK _ _ t1
  rcases t3 with ⟨r, hr, hd⟩ | ⟨hn, _⟩
  · simp only [List.cons.injEq, and_true] at hr
    subst hr
    simp only [RvD, D] at hd
    exact ⟨by rw [hd], r3.frame.below fun _ h => h⟩
  · exact absurd rfl hn

end
end Go.Gx
