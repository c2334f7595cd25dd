/- Contracts of functions that answer a pointer to a record of its own. -/
import Derived.Test.YtihihilhfijloaaDoorMeth
namespace Go.Gx
open Go.RowKit
set_option linter.unusedVariables false

/-- A pointer answered, and what the record holds. -/
def kvP (x : SV) (h : Heap) (K : List Seg → Prop) : Prop :=
  match x with
  | .p key c => (match Nat.beq c 0, assoc h key with
    | true, some (.segs false l) => K l
    | _, _ => False)
  | _ => False

def fnVcP (Γ : Tab) (fn : Func) (L : Loops) (args : List SV) (h : Heap) (K : List Seg → Prop) (Q : Nat → List Pv → Prop) : Prop :=
  runFn Γ fn (loopKeysM L) args h (fun x h' => kvP x h' K) (handM L Q)

def ptrCtr (spec : List SV → Option (List Prop × List Seg)) : Ctr := fun stamp args =>
  match spec args with
  | some (p, l) => .get stamp fun b => (match b with
    | none => .ret ⟨p, .p stamp 0, [(stamp, .segs false l)], true⟩
    | some _ => .fail)
  | none => .fail

theorem ptrCtr_run {H : Nat → Option SB} {spec : List SV → Option (List Prop × List Seg)} {stamp : Nat} {args : List SV} {rs rs' : List Nat} {d : Delta} (h : (ptrCtr spec stamp args).run H rs = some (d, rs')) :
    ∃ p l, spec args = some (p, l) ∧ H stamp = none ∧ d = ⟨p, .p stamp 0, [(stamp, .segs false l)], true⟩ := by
  unfold ptrCtr at h
  split at h
  · rename_i p l e
    simp only [RP.run] at h
    split at h
    · rename_i hn
      exact ⟨p, l, e, hn, run_ret h⟩
    · simp [RP.run] at h
  · simp [RP.run] at h

section
variable {P : Program} {Γ : Tab}

/-- The contract of such a function (without loops). -/
theorem call_ptr (hΓ : TabOk P Γ) (hgl : Γ.gl = keysOf Γ.gh) {f : FuncId} {fn : Func} (hf : P.funcs[f]? = some fn) (hn : (fn.name == "runtime.NumGoroutine") = false) (hb : fn.body.isNone = false) (spec : List SV → Option (List Prop × List Seg))
    (h : ∀ args p l, spec args = some (p, l) → AllP p → FactVs args → (∀ dm ρ cs, SegsD dm ρ l cs → 0 < cs.length) ∧ ∃ args', eqVs args args' ∧ args'.length ≤ fn.ntmps ∧ fnVcP Γ fn [] args' Γ.gh (fun l' => eqSegs l' l) (fun _ _ => False)) : CallOk P Γ.gh f (ptrCtr spec) := by
  intro stamp args H rs rs' d vs w0 M ρ w hG hc hp hD hm
  obtain ⟨p, l, hs, hnone, rfl⟩ := ptrCtr_run hc
  obtain ⟨hpos, args', h1, h2, h3⟩ := h args p l hs hp (Ds.fact args vs hD)
  obtain ⟨ρg, g1, g2, g3⟩ := mem_of_glob hG hm
  have hgo : GlOk Γ w (fun _ => False) ρg (assoc Γ.gh) := ⟨fun g hg => ⟨assoc_dm (by rw [← hgl]; exact hg), (g3 g).1, (g3 g).2⟩, g2⟩
  refine .inr ⟨f, vs.toArray, GoFn.run ⟨fn, hf, hn, hb⟩ _ _, (fn_calls hΓ hf hgo h2 (eqVs_Ds args args' vs h1 hD) g1 (fun _ _ _ => False) (fun _ => handM [] fun _ _ => False) (fun _ _ _ hj => hj.elim) (fun _ _ _ hh => hh.elim) (handM [] fun _ _ => False) (fun _ _ hh => hh.elim) h3).mono fun e w' he => ?_⟩
  obtain ⟨x, v, h', ρ', rfl, k1, k2, k3, k4⟩ := he
  unfold kvP at k1
  split at k1
  · rename_i key c
    split at k1
    · rename_i l1 hc0 hkey
      obtain rfl : c = 0 := Nat.eq_of_beq_eq_true hc0
      simp only [D] at k2
      obtain ⟨_, rfl⟩ := k2
      obtain ⟨cs, s1, s2, s3, s4⟩ := k3.heap.blk key _ hkey
      have hcs := eqSegs_D (dm' := fun _ => False) (ρ' := fun _ => ({ blk := 0, off := 0, cap := 0 } : Pl)) l1 l cs k1 s1
      have hcap : 0 < (ρ' key).cap := Nat.lt_of_lt_of_le (hpos _ _ cs hcs) s2
      have hlt := k3.heap.lt key _ _ hkey hcap
      have hown : w.heap.size ≤ (ρ' key).blk := by
        rcases k3.own key _ hkey hcap with hh | hh
        · exact hh
        · exact hh.elim
      have hdm : dmOf (updsH H [(stamp, .segs false l)]) stamp := by unfold dmOf; simp [updsH, updH]
      refine ⟨_, rfl, updP ρ stamp (ρ' key), updP_keeps hnone, ?_, Mem.add hm (k3.frame.below fun _ h => h) hnone hcs s2 s3 (s4 rfl) fun _ => ⟨hown, hlt⟩⟩
      simp only [D]
      exact ⟨hdm, by rw [updP_same]⟩
    · exact k1.elim
  · exact k1.elim
end
end Go.Gx
