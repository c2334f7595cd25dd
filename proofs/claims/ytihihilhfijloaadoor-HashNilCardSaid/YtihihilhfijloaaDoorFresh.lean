/- Contracts of functions that answer a slice of numbers in memory of its own. -/
import Derived.Test.YtihihilhfijloaaDoorViews
namespace Go.Gx
open Go.RowKit
set_option linter.unusedVariables false

/-- An answer whose first part is a slice of numbers: its numbers, and the other parts. -/
def kvI (k : IntKind) (x : SV) (h : Heap) (K : List Int → List SV → Prop) : Prop :=
  match x with
  | .tup (.sl key c est off len :: r) => (match Nat.beq c 0 && Nat.beq est 1, assoc h key with
    | true, some (.segs false [.rowI k' l]) => (match keq k k' with
      | true => Need (off.z + len.z ≤ (l.length : Int)) ∧ K ((l.drop off.z.toNat).take len.z.toNat) r
      | false => False)
    | _, _ => False)
  | .tup (.nsl :: r) => K [] r
  | _ => False

/-- The loops' heads, each with one pattern or more: a pattern's number is that of the head, plus thousands. -/
def handM : Loops → (Nat → List Pv → Prop) → Nat → St → Prop
  | [], _, _, _ => False
  | (vk, t) :: L, Q, key, σ => (match Nat.beq (vk % 1000) key with
    | true => (match matchSt t σ with | some ps => Q vk ps | none => handM L Q key σ)
    | false => handM L Q key σ)
def loopKeysM : Loops → List Nat
  | [] => []
  | (vk, _) :: L => vk % 1000 :: loopKeysM L

theorem handM_of : ∀ {L : Loops} {Q : Nat → List Pv → Prop} {key : Nat} {σ : St}, handM L Q key σ → ∃ vk t ps, (vk, t) ∈ L ∧ vk % 1000 = key ∧ matchSt t σ = some ps ∧ Q vk ps
  | [], _, _, _, h => h.elim
  | (vk, t) :: L, Q, key, σ, h => by
    simp only [handM] at h
    split at h
    · rename_i e
      split at h
      · rename_i ps hps
        exact ⟨vk, t, ps, by simp, Nat.eq_of_beq_eq_true e, hps, h⟩
      · obtain ⟨vk', t', ps', h1, h2⟩ := handM_of h
        exact ⟨vk', t', ps', by simp [h1], h2⟩
    · obtain ⟨vk', t', ps', h1, h2⟩ := handM_of h
      exact ⟨vk', t', ps', by simp [h1], h2⟩

def fnVcI (Γ : Tab) (fn : Func) (L : Loops) (args : List SV) (h : Heap) (k : IntKind) (K : List Int → List SV → Prop) (Q : Nat → List Pv → Prop) : Prop :=
  runFn Γ fn (loopKeysM L) args h (fun x h' => kvI k x h' K) (handM L Q)
def loopVcI (Γ : Tab) (fn : Func) (L : Loops) (key : Nat) (ps : List Pv) (k : IntKind) (K : List Int → List SV → Prop) (Q : Nat → List Pv → Prop) : Prop :=
  match assoc L key with
  | some t => runLoop Γ fn (loopKeysM L) (key % 1000) (instSt t ps) (fun x h' => kvI k x h' K) (handM L Q)
  | none => False

structure VcI (Γ : Tab) (fn : Func) (L : Loops) (h : Heap) (args : List SV) (k : IntKind) (K : List Int → List SV → Prop) (inv : Nat → List Pv → Nat → Prop) : Prop where
  low : ∀ k t, (k, t) ∈ L → ∀ g, g ∈ keysOf h → g < 1000 ∧ (assoc t.heap g).isSome = true
  loop : ∀ vk t ps m, (vk, t) ∈ L → inv vk ps m → runLoop Γ fn (loopKeysM L) (vk % 1000) (instSt t ps) (fun x h' => kvI k x h' K) (handM L fun key' ps' => ∃ m', m' < m ∧ inv key' ps' m')
  entry : fnVcI Γ fn L args h k K fun key' ps' => ∃ m', inv key' ps' m'

def freshCtr (k : IntKind) (spec : List SV → Option (List Prop × List Int × List SV)) : Ctr := fun stamp args =>
  match spec args with
  | some (p, l, r) => .get stamp fun b => (match b with
    | none => .ret ⟨p, .tup (.sl stamp 0 1 ⟨true, 0⟩ ⟨false, (l.length : Int)⟩ :: r), [(stamp, .segs false [.rowI k l])], true⟩
    | some _ => .fail)
  | none => .fail

theorem freshCtr_run {H : Nat → Option SB} {k : IntKind} {spec : List SV → Option (List Prop × List Int × List SV)} {stamp : Nat} {args : List SV} {rs rs' : List Nat} {d : Delta} (h : (freshCtr k spec stamp args).run H rs = some (d, rs')) :
    ∃ p l r, spec args = some (p, l, r) ∧ H stamp = none ∧ d = ⟨p, .tup (.sl stamp 0 1 ⟨true, 0⟩ ⟨false, (l.length : Int)⟩ :: r), [(stamp, .segs false [.rowI k l])], true⟩ := by
  unfold freshCtr at h
  split at h
  · rename_i p l r e
    simp only [RP.run] at h
    split at h
    · rename_i hn
      exact ⟨p, l, r, e, hn, run_ret h⟩
    · simp [RP.run] at h
  · simp [RP.run] at h

section
variable {P : Program} {Γ : Tab}

/-- A block that a call has made. -/
theorem Mem.add {w0 : World} {M : Nat → Prop} {ρ : Nat → Pl} {H : Nat → Option SB} {w w' : World} (h0 : Mem w0 M ρ H w) (hb : Below w.heap.size w w') {key : Nat} (hn : H key = none) {p : Pl} {l : List Seg} {vs : List Value}
    (hl : SegsD (fun _ => False) (fun _ => ({ blk := 0, off := 0, cap := 0 } : Pl)) l vs) (h1 : vs.length ≤ p.cap) (h2 : w'.rangeAt p.blk p.off vs) (h3 : w'.there p.blk p.off p.cap) (h4 : 0 < p.cap → w.heap.size ≤ p.blk ∧ p.blk < w'.heap.size) :
    Mem w0 M (updP ρ key p) (updH H key (.segs false l)) w' := by
  have h := h0.keep hb
  have hk := updP_keeps (ρ := ρ) (p := p) hn
  have hlt : ∀ k ro l, H k = some (.segs ro l) → 0 < (ρ k).cap → (ρ k).blk < w.heap.size := h0.heap.lt
  refine ⟨⟨fun k b hb => ?_, fun k k' ro ro' l1 l2 e1 e2 hkk hr c1 c2 => ?_, fun k ro l1 e1 c1 => ?_⟩, h.frame, fun k l1 e1 c1 => ?_, view_up h.view (by simp)⟩
  · by_cases e : k = key
    · subst e
      rw [updH_same] at hb
      simp only [Option.some.injEq] at hb; subst hb
      exact ⟨vs, SegsD.mono (fun _ h => h.elim) (fun _ h => h.elim) l vs hl, by rw [updP_same]; exact h1, by rw [updP_same]; exact h2, fun _ => by rw [updP_same]; exact h3⟩
    · rw [updH_ne e] at hb
      exact (h.heap.blk k b hb).of_block (dm_updH _ _ _) hk (updP_ne e) (fun _ _ _ _ => rfl)
  · by_cases e : k = key
    · subst e
      rw [updH_ne (Ne.symm hkk)] at e2
      rw [updP_ne (Ne.symm hkk)] at c2
      rw [updP_same] at c1
      have a := hlt k' ro' l2 e2 c2
      have b := (h4 c1).1
      rw [updP_same, updP_ne (Ne.symm hkk)]; omega
    · rw [updH_ne e] at e1
      rw [updP_ne e] at c1 ⊢
      by_cases e' : k' = key
      · subst e'
        rw [updP_same] at c2
        have a := hlt k ro l1 e1 c1
        have b := (h4 c2).1
        rw [updP_same]; omega
      · rw [updH_ne e'] at e2
        rw [updP_ne e'] at c2 ⊢
        exact h.heap.sep k k' ro ro' l1 l2 e1 e2 hkk hr c1 c2
  · by_cases e : k = key
    · subst e; rw [updP_same] at c1 ⊢; exact (h4 c1).2
    · rw [updH_ne e] at e1; rw [updP_ne e] at c1 ⊢; exact h.heap.lt k ro l1 e1 c1
  · by_cases e : k = key
    · subst e; rw [updP_same] at c1 ⊢; exact .inl (Nat.le_trans h0.frame.size (h4 c1).1)
    · rw [updH_ne e] at e1; rw [updP_ne e] at c1 ⊢; exact h.own k l1 e1 c1

/-- Where the numbers of such an answer lie. -/
theorem kvI_place {w0 w' : World} {k : IntKind} {x : SV} {h : Heap} {ρ : Nat → Pl} {v : Value} {K : List Int → List SV → Prop} (hm : Mem w0 (fun _ => False) ρ (assoc h) w') (hd : D (dmOf (assoc h)) ρ x v) (hk : kvI k x h K) :
    ∃ l r u vs p, K l r ∧ v = .tuple (u :: vs).toArray ∧ Ds (dmOf (assoc h)) ρ r vs ∧ AllR k l ∧ (l.length : Int) < 9223372036854775808 ∧
      (∃ a cap, u = .slice a l.length cap ∧ l.length ≤ cap ∧ ((a = some (at_ p 0) ∧ cap ≤ p.cap) ∨ (l.length = 0 ∧ cap = 0))) ∧
      l.length ≤ p.cap ∧ w'.rangeAt p.blk p.off (l.map (Value.int k)) ∧ w'.there p.blk p.off p.cap ∧ (0 < p.cap → w0.heap.size ≤ p.blk ∧ p.blk < w'.heap.size) := by
  unfold kvI at hk
  split at hk
  · rename_i key c est off len r
    simp only [D, Ds] at hd
    obtain ⟨vs0, ⟨u, vs, hu, rfl, hr⟩, rfl⟩ := hd
    split at hk
    · rename_i k' l hce hkey
      simp only [Bool.and_eq_true] at hce
      have hc0 : c = 0 := Nat.eq_of_beq_eq_true hce.1
      have he1 : est = 1 := Nat.eq_of_beq_eq_true hce.2
      subst hc0 he1
      split at hk
      · rename_i hkk
        obtain rfl : k = k' := keq_eq hkk
        obtain ⟨hn, hK⟩ := hk
        obtain ⟨hdm, ho, hl, hlr, a, cap, rfl, hcap, hpl⟩ := hu
        have hn : off.z + len.z ≤ (l.length : Int) := hn
        simp only [InR] at hlr
        have hbk : BlkD (dmOf (assoc h)) ρ w' key (.segs false [.rowI k l]) := hm.heap.blk key _ hkey
        obtain ⟨cs, hs, h1, h2, h3⟩ := hbk
        have hth := h3 rfl
        obtain ⟨c1, c2, ⟨hall, rfl⟩, rfl, rfl⟩ := hs
        simp only [List.append_nil, List.length_map] at h1 h2
        have hlen : ((l.drop off.z.toNat).take len.z.toNat).length = len.z.toNat := by
          rw [List.length_take, List.length_drop]; omega
        have hallt : AllR k ((l.drop off.z.toNat).take len.z.toNat) := fun z hz => hall z (List.mem_of_mem_drop (List.mem_of_mem_take hz))
        rcases hpl with ⟨ha, hle⟩ | ⟨h0, hc0⟩
        · refine ⟨_, r, _, vs, ({ blk := (ρ key).blk, off := (ρ key).off + off.z.toNat, cap := cap } : Pl), hK, rfl, hr, hallt, by rw [hlen]; omega, ⟨a, cap, by rw [hlen], by rw [hlen]; exact hcap, .inl ⟨by rw [ha]; simp [at_], Nat.le_refl _⟩⟩, by rw [hlen]; exact hcap, ?_, ?_, fun hc => ?_⟩
          · intro j y hj
            simp only [List.map_take, List.map_drop] at hj
            have := h2 (off.z.toNat + j) y (by
              rw [List.getElem?_take] at hj
              split at hj
              · rw [List.getElem?_drop] at hj; exact hj
              · cases hj)
            rw [show (ρ key).off + off.z.toNat + j = (ρ key).off + (off.z.toNat + j) by omega]
            exact this
          · intro j hj
            have hj' : j < cap := hj
            have := hth (off.z.toNat + j) (by simp only [Nat.one_mul] at hle; omega)
            rw [show (ρ key).off + off.z.toNat + j = (ρ key).off + (off.z.toNat + j) by omega]
            exact this
          · have hc : 0 < cap := hc
            have hcp : 0 < (ρ key).cap := by simp only [Nat.one_mul] at hle; omega
            refine ⟨?_, hm.heap.lt key _ _ hkey hcp⟩
            rcases hm.own key _ hkey hcp with h | h
            · exact h
            · exact h.elim
        · have hz : len.z.toNat = 0 := by omega
          refine ⟨_, r, _, vs, ({ blk := 0, off := 0, cap := 0 } : Pl), hK, rfl, hr, hallt, by rw [hlen]; omega, ⟨a, cap, by rw [hlen], by rw [hlen]; exact hcap, .inr ⟨by rw [hlen]; exact hz, hc0⟩⟩, by rw [hlen]; omega, ?_, fun j hj => by simp at hj, fun hc => by simp at hc⟩
          rw [hz, List.take_zero]
          intro j y hj; simp at hj
      · exact hk.elim
    · exact hk.elim
  · rename_i r
    simp only [D, Ds] at hd
    obtain ⟨vs0, ⟨u, vs, hu, rfl, hr⟩, rfl⟩ := hd
    exact ⟨[], r, u, vs, ({ blk := 0, off := 0, cap := 0 } : Pl), hk, rfl, hr, fun z hz => by simp at hz, by simp, ⟨none, 0, by simpa using hu, Nat.le_refl _, .inr ⟨rfl, rfl⟩⟩, Nat.le_refl _, fun j y hj => by simp at hj, fun j hj => by simp at hj, fun hc => by simp at hc⟩
  · exact hk.elim

theorem vcI_calls (hΓ : TabOk P Γ) {f : FuncId} {fn : Func} (hf : P.funcs[f]? = some fn) {L : Loops} {h : Heap} {args : List SV} {k : IntKind} {K : List Int → List SV → Prop} {inv : Nat → List Pv → Nat → Prop} (hv : VcI Γ fn L h args k K inv) (hlen : args.length ≤ fn.ntmps)
    {w : World} {ρg : Nat → Pl} {vs : List Value} (hgo : GlOk Γ w (fun _ => False) ρg (assoc h)) (g1 : Mem w (fun _ => False) ρg (assoc h) w) (ha : Ds (dmOf (assoc h)) ρg args vs) :
    Calls P f vs.toArray w fun e w' => ∃ x v h' ρ', e = .returned v ∧ kvI k x h' K ∧ D (dmOf (assoc h')) ρ' x v ∧ Mem w (fun _ => False) ρ' (assoc h') w' ∧ Below w.heap.size w w' := by
  have hweak : ∀ vk t σ' ps, (vk, t) ∈ L → matchSt t σ' = some ps → Weak (assoc h) σ' (instSt t ps) := fun vk t σ' ps ht hm =>
    weak_of_match hm fun k hk => hv.low vk t ht k (keysOf_of_dm hk)
  refine (fn_calls hΓ hf hgo hlen ha g1 (fun m key σ => ∃ vk t ps, (vk, t) ∈ L ∧ vk % 1000 = key ∧ σ = instSt t ps ∧ inv vk ps m) (fun m => handM L fun key' ps' => ∃ m', m' < m ∧ inv key' ps' m') (fun m key σ hj => ?_) (fun m key σ' h => ?_)
    (handM L fun key' ps' => ∃ m', inv key' ps' m') (fun key σ' h => ?_) hv.entry).mono fun e w' he => ?_
  · obtain ⟨vk, t, ps, ht, rfl, rfl, hinv⟩ := hj
    exact hv.loop vk t ps m ht hinv
  · obtain ⟨vk, t, ps, ht, hk, hps, m', hlt, hinv⟩ := handM_of h
    exact ⟨m', hlt, _, hweak _ _ _ _ ht hps, vk, t, ps, ht, hk, rfl, hinv⟩
  · obtain ⟨vk, t, ps, ht, hk, hps, m', hinv⟩ := handM_of h
    exact ⟨m', _, hweak _ _ _ _ ht hps, vk, t, ps, ht, hk, rfl, hinv⟩
  · obtain ⟨x, v, h', ρ', rfl, k1, k2, k3, k4⟩ := he
    exact ⟨x, v, h', ρ', rfl, k1, k2, k3, k3.frame.below fun _ h => h⟩

/-- The contract of such a function. -/
theorem call_fresh {k : IntKind} (hΓ : TabOk P Γ) (hgl : Γ.gl = keysOf Γ.gh) {f : FuncId} {fn : Func} (hf : P.funcs[f]? = some fn) (hn : (fn.name == "runtime.NumGoroutine") = false) (hb : fn.body.isNone = false) (spec : List SV → Option (List Prop × List Int × List SV))
    (h : ∀ args p l r, spec args = some (p, l, r) → AllP p → FactVs args → ∃ args' L inv, eqVs args args' ∧ args'.length ≤ fn.ntmps ∧ VcI Γ fn L Γ.gh args' k (fun l' r' => l = l' ∧ eqVs r' r) inv) : CallOk P Γ.gh f (freshCtr k spec) := by
  intro stamp args H rs rs' d vs w0 M ρ w hG hc hp hD hm
  obtain ⟨p, l, r, hs, hnone, rfl⟩ := freshCtr_run hc
  obtain ⟨args', L, inv, h1, h2, h3⟩ := h args p l r hs hp (Ds.fact args vs hD)
  obtain ⟨ρg, g1, g2, g3⟩ := mem_of_glob hG hm
  have hgo : GlOk Γ w (fun _ => False) ρg (assoc Γ.gh) := ⟨fun g hg => ⟨assoc_dm (by rw [← hgl]; exact hg), (g3 g).1, (g3 g).2⟩, g2⟩
  refine .inr ⟨f, vs.toArray, GoFn.run ⟨fn, hf, hn, hb⟩ _ _, (vcI_calls hΓ hf h3 h2 hgo g1 (eqVs_Ds args args' vs h1 hD)).mono fun e w' he => ?_⟩
  obtain ⟨x, v, h', ρ', rfl, k1, k2, k3, k4⟩ := he
  obtain ⟨l', r', u, vs', p', ⟨rfl, hr⟩, rfl, hrd, hall, hlt, ⟨a, cap, rfl, hcap, hpl⟩, q1, q2, q3, q4⟩ := kvI_place k3 k2 k1
  refine ⟨_, rfl, updP ρ stamp p', updP_keeps hnone, ?_, ?_⟩
  · have hdm : dmOf (updsH H [(stamp, .segs false [.rowI k l])]) stamp := by
      unfold dmOf; simp [updsH, updH]
    simp only [D, Ds]
    refine ⟨_, ⟨_, vs', ⟨hdm, by decide, by omega, ⟨by omega, by omega⟩, a, cap, by simp, by simpa using hcap, ?_⟩, rfl, eqVs_Ds r' r vs' hr hrd⟩, rfl⟩
    rcases hpl with ⟨ha, hle⟩ | ⟨h0, hc0⟩
    · left
      rw [updP_same]
      exact ⟨by rw [ha]; simp, by simpa using hle⟩
    · right
      exact ⟨by omega, hc0⟩
  · exact Mem.add hm k4 hnone ⟨_, _, ⟨hall, rfl⟩, by simp, rfl⟩ (by simpa using q1) q2 q3 q4
end
end Go.Gx
