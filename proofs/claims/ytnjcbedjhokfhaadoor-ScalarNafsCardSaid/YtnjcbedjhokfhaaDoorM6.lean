/- Part 6 of the proof: the evaluator of the code, its soundness, and what it shows of the functions. -/
import Derived.Test.YtnjcbedjhokfhaaDoorM4
import Derived.Test.YtnjcbedjhokfhaaDoorM5

/- Contracts of functions that answer a slice of numbers in memory of its own. -/
namespace Go.Gx
open Go.RowKit
set_option linter.unusedVariables false

/-- An answer whose first part is a slice of numbers: its numbers, and the other parts. -/
def kvI (k : IntKind) (x : SV) (h : Heap) (K : List Int → List SV → Prop) : Prop :=
  match x with
  | .tup (.sl key c est off len :: r) => (match Nat.beq c 0 && Nat.beq est 1, assoc h key with
    | true, some (.segs false [.rowI k' l]) => (match keq k k' with
      | true => Need (off.z + len.z ≤ (l.length : Int)) ∧ K ((l.drop off.z.toNat).take len.z.toNat) r
      | false => False)
    | _, _ => False)
  | .tup (.nsl :: r) => K [] r
  | _ => False

/-- The loops' heads, each with one pattern or more: a pattern's number is that of the head, plus thousands. -/
def handM : Loops → (Nat → List Pv → Prop) → Nat → St → Prop
  | [], _, _, _ => False
  | (vk, t) :: L, Q, key, σ => (match Nat.beq (vk % 1000) key with
    | true => (match matchSt t σ with | some ps => Q vk ps | none => handM L Q key σ)
    | false => handM L Q key σ)
def loopKeysM : Loops → List Nat
  | [] => []
  | (vk, _) :: L => vk % 1000 :: loopKeysM L

theorem handM_of : ∀ {L : Loops} {Q : Nat → List Pv → Prop} {key : Nat} {σ : St}, handM L Q key σ → ∃ vk t ps, (vk, t) ∈ L ∧ vk % 1000 = key ∧ matchSt t σ = some ps ∧ Q vk ps
  | [], _, _, _, h => h.elim
  | (vk, t) :: L, Q, key, σ, h => by
    simp only [handM] at h
    split at h
    · rename_i e
      split at h
      · rename_i ps hps
        exact ⟨vk, t, ps, by simp, Nat.eq_of_beq_eq_true e, hps, h⟩
      · obtain ⟨vk', t', ps', h1, h2⟩ := handM_of h
        exact ⟨vk', t', ps', by simp [h1], h2⟩
    · obtain ⟨vk', t', ps', h1, h2⟩ := handM_of h
      exact ⟨vk', t', ps', by simp [h1], h2⟩

def fnVcI (Γ : Tab) (fn : Func) (L : Loops) (args : List SV) (h : Heap) (k : IntKind) (K : List Int → List SV → Prop) (Q : Nat → List Pv → Prop) : Prop :=
  runFn Γ fn (loopKeysM L) args h (fun x h' => kvI k x h' K) (handM L Q)
def loopVcI (Γ : Tab) (fn : Func) (L : Loops) (key : Nat) (ps : List Pv) (k : IntKind) (K : List Int → List SV → Prop) (Q : Nat → List Pv → Prop) : Prop :=
  match assoc L key with
  | some t => runLoop Γ fn (loopKeysM L) (key % 1000) (instSt t ps) (fun x h' => kvI k x h' K) (handM L Q)
  | none => False

structure VcI (Γ : Tab) (fn : Func) (L : Loops) (h : Heap) (args : List SV) (k : IntKind) (K : List Int → List SV → Prop) (inv : Nat → List Pv → Nat → Prop) : Prop where
  low : ∀ k t, (k, t) ∈ L → ∀ g, g ∈ keysOf h → g < 1000 ∧ (assoc t.heap g).isSome = true
  loop : ∀ vk t ps m, (vk, t) ∈ L → inv vk ps m → runLoop Γ fn (loopKeysM L) (vk % 1000) (instSt t ps) (fun x h' => kvI k x h' K) (handM L fun key' ps' => ∃ m', m' < m ∧ inv key' ps' m')
  entry : fnVcI Γ fn L args h k K fun key' ps' => ∃ m', inv key' ps' m'

def freshCtr (k : IntKind) (spec : List SV → Option (List Prop × List Int × List SV)) : Ctr := fun stamp args =>
  match spec args with
  | some (p, l, r) => .get stamp fun b => (match b with
    | none => .ret ⟨p, .tup (.sl stamp 0 1 ⟨true, 0⟩ ⟨false, (l.length : Int)⟩ :: r), [(stamp, .segs false [.rowI k l])], true⟩
    | some _ => .fail)
  | none => .fail

theorem freshCtr_run {H : Nat → Option SB} {k : IntKind} {spec : List SV → Option (List Prop × List Int × List SV)} {stamp : Nat} {args : List SV} {rs rs' : List Nat} {d : Delta} (h : (freshCtr k spec stamp args).run H rs = some (d, rs')) :
    ∃ p l r, spec args = some (p, l, r) ∧ H stamp = none ∧ d = ⟨p, .tup (.sl stamp 0 1 ⟨true, 0⟩ ⟨false, (l.length : Int)⟩ :: r), [(stamp, .segs false [.rowI k l])], true⟩ := by
  unfold freshCtr at h
  split at h
  · rename_i p l r e
    simp only [RP.run] at h
    split at h
    · rename_i hn
      exact ⟨p, l, r, e, hn, run_ret h⟩
    · simp [RP.run] at h
  · simp [RP.run] at h

section
variable {P : Program} {Γ : Tab}

/-- A block that a call has made. -/
theorem Mem.add {w0 : World} {M : Nat → Prop} {ρ : Nat → Pl} {H : Nat → Option SB} {w w' : World} (h0 : Mem w0 M ρ H w) (hb : Below w.heap.size w w') {key : Nat} (hn : H key = none) {p : Pl} {l : List Seg} {vs : List Value}
    (hl : SegsD (fun _ => False) (fun _ => ({ blk := 0, off := 0, cap := 0 } : Pl)) l vs) (h1 : vs.length ≤ p.cap) (h2 : w'.rangeAt p.blk p.off vs) (h3 : w'.there p.blk p.off p.cap) (h4 : 0 < p.cap → w.heap.size ≤ p.blk ∧ p.blk < w'.heap.size) (h5 : 0 < p.cap → Clean w' p.blk) :
    Mem w0 M (updP ρ key p) (updH H key (.segs false l)) w' := by
  have h := h0.keep hb
  have hk := updP_keeps (ρ := ρ) (p := p) hn
  have hlt : ∀ k ro l, H k = some (.segs ro l) → 0 < (ρ k).cap → (ρ k).blk < w.heap.size := h0.heap.lt
  refine ⟨⟨fun k b hb => ?_, fun k k' ro ro' l1 l2 e1 e2 hkk hr c1 c2 => ?_, fun k ro l1 e1 c1 => ?_⟩, h.frame, fun k l1 e1 c1 => ?_, view_up h.view (by simp), fun k l1 e1 c1 => ?_,
    h0.pools.step (fun k kd ms hk' => by
      have e : k ≠ key := fun e => by subst e; rw [updH_same] at hk'; cases hk'
      rw [updH_ne e] at hk'
      rw [updP_ne e]; exact ⟨hk', rfl⟩)
    (fun k ro l1 h1 c1 => by
      by_cases e : k = key
      · subst e; rw [updP_same] at c1 ⊢; exact .inr (h4 c1).1
      · rw [updH_ne e] at h1; rw [updP_ne e] at c1 ⊢; exact .inl ⟨k, ro, l1, h1, c1, rfl⟩)
    hb.size (fun _ hb => hb) (fun k kd ms i hk' hi h9 => hb.block _ ((h0.pools.pool k kd ms hk').lt i hi h9))⟩
  · by_cases e : k = key
    · subst e
      rw [updH_same] at hb
      simp only [Option.some.injEq] at hb; subst hb
      exact ⟨vs, SegsD.mono (fun _ h => h.elim) (fun _ h => h.elim) l vs hl, by rw [updP_same]; exact h1, by rw [updP_same]; exact h2, fun _ => by rw [updP_same]; exact h3⟩
    · rw [updH_ne e] at hb
      exact (h.heap.blk k b hb).of_block (dm_updH _ _ _) hk (updP_ne e) (fun _ _ _ _ => rfl)
  · by_cases e : k = key
    · subst e
      rw [updH_ne (Ne.symm hkk)] at e2
      rw [updP_ne (Ne.symm hkk)] at c2
      rw [updP_same] at c1
      have a := hlt k' ro' l2 e2 c2
      have b := (h4 c1).1
      rw [updP_same, updP_ne (Ne.symm hkk)]; omega
    · rw [updH_ne e] at e1
      rw [updP_ne e] at c1 ⊢
      by_cases e' : k' = key
      · subst e'
        rw [updP_same] at c2
        have a := hlt k ro l1 e1 c1
        have b := (h4 c2).1
        rw [updP_same]; omega
      · rw [updH_ne e'] at e2
        rw [updP_ne e'] at c2 ⊢
        exact h.heap.sep k k' ro ro' l1 l2 e1 e2 hkk hr c1 c2
  · by_cases e : k = key
    · subst e; rw [updP_same] at c1 ⊢; exact (h4 c1).2
    · rw [updH_ne e] at e1; rw [updP_ne e] at c1 ⊢; exact h.heap.lt k ro l1 e1 c1
  · by_cases e : k = key
    · subst e; rw [updP_same] at c1 ⊢; exact .inl (Nat.le_trans h0.frame.size (h4 c1).1)
    · rw [updH_ne e] at e1; rw [updP_ne e] at c1 ⊢; exact h.own k l1 e1 c1
  · by_cases e : k = key
    · subst e; rw [updP_same] at c1 ⊢; exact h5 c1
    · rw [updH_ne e] at e1; rw [updP_ne e] at c1 ⊢; exact h.clean k l1 e1 c1

/-- Where the numbers of such an answer lie. -/
theorem kvI_place {w0 w' : World} {k : IntKind} {x : SV} {h : Heap} {ρ : Nat → Pl} {v : Value} {K : List Int → List SV → Prop} (hm : Mem w0 (fun _ => False) ρ (assoc h) w') (hd : D (dmOf (assoc h)) ρ x v) (hk : kvI k x h K) :
    ∃ l r u vs p, K l r ∧ v = .tuple (u :: vs).toArray ∧ Ds (dmOf (assoc h)) ρ r vs ∧ AllR k l ∧ (l.length : Int) < 9223372036854775808 ∧
      (∃ a cap, u = .slice a l.length cap ∧ l.length ≤ cap ∧ ((a = some (at_ p 0) ∧ cap ≤ p.cap) ∨ (l.length = 0 ∧ cap = 0))) ∧
      l.length ≤ p.cap ∧ w'.rangeAt p.blk p.off (l.map (Value.int k)) ∧ w'.there p.blk p.off p.cap ∧ (0 < p.cap → w0.heap.size ≤ p.blk ∧ p.blk < w'.heap.size ∧ Clean w' p.blk) := by
  unfold kvI at hk
  split at hk
  · rename_i key c est off len r
    simp only [D, Ds] at hd
    obtain ⟨vs0, ⟨u, vs, hu, rfl, hr⟩, rfl⟩ := hd
    split at hk
    · rename_i k' l hce hkey
      simp only [Bool.and_eq_true] at hce
      have hc0 : c = 0 := Nat.eq_of_beq_eq_true hce.1
      have he1 : est = 1 := Nat.eq_of_beq_eq_true hce.2
      subst hc0 he1
      split at hk
      · rename_i hkk
        obtain rfl : k = k' := keq_eq hkk
        obtain ⟨hn, hK⟩ := hk
        obtain ⟨hdm, ho, hl, hlr, a, cap, rfl, hcap, hpl⟩ := hu
        have hn : off.z + len.z ≤ (l.length : Int) := hn
        simp only [InR] at hlr
        have hbk : BlkD (dmOf (assoc h)) ρ w' key (.segs false [.rowI k l]) := hm.heap.blk key _ hkey
        obtain ⟨cs, hs, h1, h2, h3⟩ := hbk
        have hth := h3 rfl
        obtain ⟨c1, c2, ⟨hall, rfl⟩, rfl, rfl⟩ := hs
        simp only [List.append_nil, List.length_map] at h1 h2
        have hlen : ((l.drop off.z.toNat).take len.z.toNat).length = len.z.toNat := by
          rw [List.length_take, List.length_drop]; omega
        have hallt : AllR k ((l.drop off.z.toNat).take len.z.toNat) := fun z hz => hall z (List.mem_of_mem_drop (List.mem_of_mem_take hz))
        rcases hpl with ⟨ha, hle⟩ | ⟨h0, hc0⟩
        · refine ⟨_, r, _, vs, ({ blk := (ρ key).blk, off := (ρ key).off + off.z.toNat, cap := cap } : Pl), hK, rfl, hr, hallt, by rw [hlen]; omega, ⟨a, cap, by rw [hlen], by rw [hlen]; exact hcap, .inl ⟨by rw [ha]; simp [at_], Nat.le_refl _⟩⟩, by rw [hlen]; exact hcap, ?_, ?_, fun hc => ?_⟩
          · intro j y hj
            simp only [List.map_take, List.map_drop] at hj
            have := h2 (off.z.toNat + j) y (by
              rw [List.getElem?_take] at hj
              split at hj
              · rw [List.getElem?_drop] at hj; exact hj
              · cases hj)
            rw [show (ρ key).off + off.z.toNat + j = (ρ key).off + (off.z.toNat + j) by omega]
            exact this
          · intro j hj
            have hj' : j < cap := hj
            have := hth (off.z.toNat + j) (by simp only [Nat.one_mul] at hle; omega)
            rw [show (ρ key).off + off.z.toNat + j = (ρ key).off + (off.z.toNat + j) by omega]
            exact this
          · have hc : 0 < cap := hc
            have hcp : 0 < (ρ key).cap := by simp only [Nat.one_mul] at hle; omega
            refine ⟨?_, hm.heap.lt key _ _ hkey hcp, hm.clean key _ hkey hcp⟩
            rcases hm.own key _ hkey hcp with h | h
            · exact h
            · exact h.elim
        · have hz : len.z.toNat = 0 := by omega
          refine ⟨_, r, _, vs, ({ blk := 0, off := 0, cap := 0 } : Pl), hK, rfl, hr, hallt, by rw [hlen]; omega, ⟨a, cap, by rw [hlen], by rw [hlen]; exact hcap, .inr ⟨by rw [hlen]; exact hz, hc0⟩⟩, by rw [hlen]; omega, ?_, fun j hj => by simp at hj, fun hc => by simp at hc⟩
          rw [hz, List.take_zero]
          intro j y hj; simp at hj
      · exact hk.elim
    · exact hk.elim
  · rename_i r
    simp only [D, Ds] at hd
    obtain ⟨vs0, ⟨u, vs, hu, rfl, hr⟩, rfl⟩ := hd
    exact ⟨[], r, u, vs, ({ blk := 0, off := 0, cap := 0 } : Pl), hk, rfl, hr, fun z hz => by simp at hz, by simp, ⟨none, 0, by simpa using hu, Nat.le_refl _, .inr ⟨rfl, rfl⟩⟩, Nat.le_refl _, fun j y hj => by simp at hj, fun j hj => by simp at hj, fun hc => by simp at hc⟩
  · exact hk.elim

theorem vcI_calls (hΓ : TabOk P Γ) {f : FuncId} {fn : Func} (hf : P.funcs[f]? = some fn) {L : Loops} {h : Heap} {args : List SV} {k : IntKind} {K : List Int → List SV → Prop} {inv : Nat → List Pv → Nat → Prop} (hv : VcI Γ fn L h args k K inv) (hlen : args.length ≤ fn.ntmps)
    {w : World} {ρg : Nat → Pl} {vs : List Value} (hgo : GlOk Γ w (fun _ => False) ρg (assoc h)) (g1 : Mem w (fun _ => False) ρg (assoc h) w) (ha : Ds (dmOf (assoc h)) ρg args vs) :
    Calls P f vs.toArray w fun e w' => ∃ x v h' ρ', e = .returned v ∧ kvI k x h' K ∧ D (dmOf (assoc h')) ρ' x v ∧ Mem w (fun _ => False) ρ' (assoc h') w' ∧ Below w.heap.size w w' := by
  have hweak : ∀ vk t σ' ps, (vk, t) ∈ L → matchSt t σ' = some ps → Weak (assoc h) σ' (instSt t ps) := fun vk t σ' ps ht hm =>
    weak_of_match hm fun k hk => hv.low vk t ht k (keysOf_of_dm hk)
  refine (fn_calls hΓ hf hgo hlen ha g1 (fun m key σ => ∃ vk t ps, (vk, t) ∈ L ∧ vk % 1000 = key ∧ σ = instSt t ps ∧ inv vk ps m) (fun m => handM L fun key' ps' => ∃ m', m' < m ∧ inv key' ps' m') (fun m key σ hj => ?_) (fun m key σ' h => ?_)
    (handM L fun key' ps' => ∃ m', inv key' ps' m') (fun key σ' h => ?_) hv.entry).mono fun e w' he => ?_
  · obtain ⟨vk, t, ps, ht, rfl, rfl, hinv⟩ := hj
    exact hv.loop vk t ps m ht hinv
  · obtain ⟨vk, t, ps, ht, hk, hps, m', hlt, hinv⟩ := handM_of h
    exact ⟨m', hlt, _, hweak _ _ _ _ ht hps, vk, t, ps, ht, hk, rfl, hinv⟩
  · obtain ⟨vk, t, ps, ht, hk, hps, m', hinv⟩ := handM_of h
    exact ⟨m', _, hweak _ _ _ _ ht hps, vk, t, ps, ht, hk, rfl, hinv⟩
  · obtain ⟨x, v, h', ρ', rfl, k1, k2, k3, k4⟩ := he
    exact ⟨x, v, h', ρ', rfl, k1, k2, k3, k3.frame.below fun _ h => h⟩

/-- The contract of such a function. -/
theorem call_fresh {k : IntKind} (hΓ : TabOk P Γ) (hgl : Γ.gl = keysOf Γ.gh) {f : FuncId} {fn : Func} (hf : P.funcs[f]? = some fn) (hn : (fn.name == "runtime.NumGoroutine") = false) (hb : fn.body.isNone = false) (spec : List SV → Option (List Prop × List Int × List SV))
    (h : ∀ args p l r, spec args = some (p, l, r) → AllP p → FactVs args → ∃ args' L inv, eqVs args args' ∧ args'.length ≤ fn.ntmps ∧ VcI Γ fn L Γ.gh args' k (fun l' r' => l = l' ∧ eqVs r' r) inv) : CallOk P Γ.gh f (freshCtr k spec) := by
  intro stamp args H rs rs' d vs w0 M ρ w hG hc hp hD hm
  obtain ⟨p, l, r, hs, hnone, rfl⟩ := freshCtr_run hc
  obtain ⟨args', L, inv, h1, h2, h3⟩ := h args p l r hs hp (Ds.fact args vs hD)
  obtain ⟨ρg, g1, g2, g3⟩ := mem_of_glob hG hm
  have hgo : GlOk Γ w (fun _ => False) ρg (assoc Γ.gh) := ⟨fun g hg => ⟨assoc_dm (by rw [← hgl]; exact hg), (g3 g).1, (g3 g).2⟩, g2⟩
  refine .inr ⟨f, vs.toArray, GoFn.run ⟨fn, hf, hn, hb⟩ _ _, (vcI_calls hΓ hf h3 h2 hgo g1 (eqVs_Ds args args' vs h1 hD)).mono fun e w' he => ?_⟩
  obtain ⟨x, v, h', ρ', rfl, k1, k2, k3, k4⟩ := he
  obtain ⟨l', r', u, vs', p', ⟨rfl, hr⟩, rfl, hrd, hall, hlt, ⟨a, cap, rfl, hcap, hpl⟩, q1, q2, q3, q4⟩ := kvI_place k3 k2 k1
  refine ⟨_, rfl, updP ρ stamp p', updP_keeps hnone, ?_, ?_⟩
  · have hdm : dmOf (updsH H [(stamp, .segs false [.rowI k l])]) stamp := by
      unfold dmOf; simp [updsH, updH]
    simp only [D, Ds]
    refine ⟨_, ⟨_, vs', ⟨hdm, by decide, by omega, ⟨by omega, by omega⟩, a, cap, by simp, by simpa using hcap, ?_⟩, rfl, eqVs_Ds r' r vs' hr hrd⟩, rfl⟩
    rcases hpl with ⟨ha, hle⟩ | ⟨h0, hc0⟩
    · left
      rw [updP_same]
      exact ⟨by rw [ha]; simp, by simpa using hle⟩
    · right
      exact ⟨by omega, hc0⟩
  · exact Mem.add hm k4 hnone ⟨_, _, ⟨hall, rfl⟩, by simp, rfl⟩ (by simpa using q1) q2 q3 (fun h => ⟨(q4 h).1, (q4 h).2.1⟩) (fun h => (q4 h).2.2)
end
end Go.Gx

/- A window of bits; the digits. -/
namespace Go.Sp
/-- w bits from bit i on. -/
def winL (n i w : Int) : Int := n / ((2 ^ i.toNat : Nat) : Int) % ((2 ^ w.toNat : Nat) : Int)
end Go.Sp
namespace Go.Gx
open Go.Proofs Go.Sp
open Go.Sp (prI mlL adL sbL pwL halfI)
set_option linter.unusedVariables false

theorem win1 (m r w : Nat) (h : r + w ≤ 64) : m % 2 ^ 64 / 2 ^ r % 2 ^ w = m / 2 ^ r % 2 ^ w := by
  rw [show (2 : Nat) ^ 64 = 2 ^ r * 2 ^ (64 - r) by rw [← Nat.pow_add]; congr 1; omega, Nat.mod_mul_right_div_self, Nat.mod_mod_of_dvd _ ⟨2 ^ (64 - r - w), by rw [← Nat.pow_add]; congr 1; omega⟩]
theorem win2 (m r w : Nat) (hr : r ≤ 64) (hw : w ≤ 64) : (m % 2 ^ 64 / 2 ^ r + m / 2 ^ 64 % 2 ^ 64 * 2 ^ (64 - r) % 2 ^ 64) % 2 ^ w = m / 2 ^ r % 2 ^ w := by
  have h64 : (2 : Nat) ^ 64 = 2 ^ r * 2 ^ (64 - r) := by rw [← Nat.pow_add]; congr 1; omega
  have hd : (2 : Nat) ^ w ∣ 2 ^ 64 := ⟨2 ^ (64 - w), by rw [← Nat.pow_add]; congr 1; omega⟩
  have h1 : m / 2 ^ r = m % 2 ^ 64 / 2 ^ r + 2 ^ (64 - r) * (m / 2 ^ 64) := by
    conv => lhs; rw [← Nat.mod_add_div m (2 ^ 64)]
    conv => lhs; rw [show 2 ^ 64 * (m / 2 ^ 64) = 2 ^ r * (2 ^ (64 - r) * (m / 2 ^ 64)) by rw [← Nat.mul_assoc, ← h64]]
    rw [Nat.add_mul_div_left _ _ (Nat.two_pow_pos r)]
  rw [h1, Nat.add_mod, Nat.mod_mod_of_dvd _ hd, Nat.mul_mod (m / 2 ^ 64 % 2 ^ 64), Nat.mod_mod_of_dvd _ hd, ← Nat.mul_mod, ← Nat.add_mod, Nat.mul_comm (m / 2 ^ 64)]

theorem shl_mod (x r : Nat) (h : r ≤ 64) : x * 2 ^ (64 - r) % 2 ^ 64 = x % 2 ^ r * 2 ^ (64 - r) := by
  have e : (2 : Nat) ^ r * 2 ^ (64 - r) = 2 ^ 64 := by rw [← Nat.pow_add]; congr 1; omega
  rw [← e, Nat.mul_mod_mul_right]

theorem wordN (N : Nat) (j : Nat) : ((N : Nat) : Int) / ((2 ^ (64 * j) : Nat) : Int) % 18446744073709551616 = ((N / 2 ^ (64 * j) % 2 ^ 64 : Nat) : Int) := by
  have : (18446744073709551616 : Int) = ((2 ^ 64 : Nat) : Int) := by decide
  rw [this]; exact_mod_cast rfl

/-- The last steps: the mask. -/
theorem mask_tail {x y s m q v : Int} (hy : 0 ≤ y ∧ y ≤ 12) (es : s = shlI .u64 1 y) (em : m = IntKind.u64.wrap (s - 1)) (hx : InR .u64 x) (eq : q = andI .u64 x m) (ev : v = IntKind.i64.wrap q) : v = x % ((2 ^ y.toNat : Nat) : Int) := by
  obtain ⟨k, rfl⟩ := Int.eq_ofNat_of_zero_le hy.1
  have hk : k ≤ 12 := by omega
  rw [shlI_u64 1 k (by omega), Int.one_mul] at es
  have hp : 2 ^ k ≤ 2 ^ 12 := Nat.pow_le_pow_right (by omega) hk
  have hp0 := Nat.two_pow_pos k
  have es' : s = ((2 ^ k : Nat) : Int) := by rw [es, Int.emod_eq_of_lt (by omega) (by omega)]
  rw [wrap_u64] at em
  have em' : m = ((2 ^ k - 1 : Nat) : Int) := by rw [em, es']; omega
  rw [em', and_mask k (by omega) hx] at eq
  rw [Int.toNat_natCast]
  have h2 := Int.emod_nonneg x (show ((2 ^ k : Nat) : Int) ≠ 0 by omega)
  have h3 := Int.emod_lt_of_pos x (show (0 : Int) < ((2 ^ k : Nat) : Int) by omega)
  rw [ev, wrap_i64 (by omega), eq]

/-- The word's place. -/
theorem word_at {b0 b1 b2 b3 i x5 x6 : Int} (hi : 0 ≤ i ∧ i < 4) (hb0 : InR .u64 b0) (hb1 : InR .u64 b1) (hb2 : InR .u64 b2) (hb3 : InR .u64 b3) {N : Nat} (hN : val4 [b0, b1, b2, b3] = N) (e5 : x5 = i) (e6 : x6 = [b0, b1, b2, b3].getD x5.toNat 0) : x6 = ((N / 2 ^ (64 * i.toNat) % 2 ^ 64 : Nat) : Int) := by
  have hw : ([b0, b1, b2, b3] : List Int) = [w0 (val4 [b0, b1, b2, b3]), w1 (val4 [b0, b1, b2, b3]), w2 (val4 [b0, b1, b2, b3]), w3 (val4 [b0, b1, b2, b3])] := (words_val hb0 hb1 hb2 hb3).symm
  rw [e5, hw, getD_words _ i.toNat (by omega), hN, wordN] at e6
  exact e6

def vc70 (a0 a1 a2 a3 x y : Int) (K : SV → Prop) (Q : Nat → List Pv → Prop) : Prop := fnVc Γ18 Tryd.f70 [] [.arr .u64 4 true [a0, a1, a2, a3], .i .i64 ⟨false, x⟩, .i .i64 ⟨false, y⟩] gh K Q
theorem vc70_eq : ∀ (a0 a1 a2 a3 x y : Int) (K : SV → Prop) (Q : Nat → List Pv → Prop), vc70 a0 a1 a2 a3 x y K Q = ((decide (x < (256 : Int)) = true → ∀ (x1 : Int), x1 = IntKind.i64.wrap (x.tdiv (64 : Int)) → InR IntKind.i64 x1 → Need ((0 : Int) ≤ x1 ∧ x1 < (4 : Int)) ∧ Need ((0 : Int) ≤ x1 ∧ x1 < (4 : Int)) ∧ ∀ (x2 : Int), x2 = [a0, a1, a2, a3].getD x1.toNat (0 : Int) → InR IntKind.u64 x2 → ∀ (x3 : Int), x3 = x.tmod (64 : Int) → InR IntKind.i64 x3 → Need ((0 : Int) ≤ x3) ∧ ∀ (x4 : Int), x4 = shrI IntKind.u64 x2 x3 → InR IntKind.u64 x4 → ∀ (x5 : Int), x5 = x.tmod (64 : Int) → InR IntKind.i64 x5 → ∀ (x6 : Int), x6 = IntKind.i64.wrap (x5 + y) → InR IntKind.i64 x6 → (decide (x6 > (64 : Int)) = true → ∀ (x7 : Int), x7 = IntKind.i64.wrap (x.tdiv (64 : Int)) → InR IntKind.i64 x7 → (decide (x7 < (3 : Int)) = true → ∀ (x8 : Int), x8 = IntKind.i64.wrap (x.tdiv (64 : Int)) → InR IntKind.i64 x8 → ∀ (x9 : Int), x9 = IntKind.i64.wrap (x8 + (1 : Int)) → InR IntKind.i64 x9 → Need ((0 : Int) ≤ x9 ∧ x9 < (4 : Int)) ∧ Need ((0 : Int) ≤ x9 ∧ x9 < (4 : Int)) ∧ ∀ (x10 : Int), x10 = [a0, a1, a2, a3].getD x9.toNat (0 : Int) → InR IntKind.u64 x10 → ∀ (x11 : Int), x11 = x.tmod (64 : Int) → InR IntKind.i64 x11 → ∀ (x12 : Int), x12 = IntKind.i64.wrap ((64 : Int) - x11) → InR IntKind.i64 x12 → Need ((0 : Int) ≤ x12) ∧ ∀ (x13 : Int), x13 = shlI IntKind.u64 x10 x12 → InR IntKind.u64 x13 → ∀ (x14 : Int), x14 = orI IntKind.u64 x4 x13 → InR IntKind.u64 x14 → Need ((0 : Int) ≤ y) ∧ ∀ (x15 : Int), x15 = shlI IntKind.u64 (1 : Int) y → InR IntKind.u64 x15 → ∀ (x16 : Int), x16 = IntKind.u64.wrap (x15 - (1 : Int)) → InR IntKind.u64 x16 → ∀ (x17 : Int), x17 = andI IntKind.u64 x14 x16 → InR IntKind.u64 x17 → ∀ (x18 : Int), x18 = IntKind.i64.wrap x17 → InR IntKind.i64 x18 → K (SV.i IntKind.i64 { st := false, z := x18 })) ∧ (decide (x7 < (3 : Int)) = false → Need ((0 : Int) ≤ y) ∧ ∀ (x19 : Int), x19 = shlI IntKind.u64 (1 : Int) y → InR IntKind.u64 x19 → ∀ (x20 : Int), x20 = IntKind.u64.wrap (x19 - (1 : Int)) → InR IntKind.u64 x20 → ∀ (x21 : Int), x21 = andI IntKind.u64 x4 x20 → InR IntKind.u64 x21 → ∀ (x22 : Int), x22 = IntKind.i64.wrap x21 → InR IntKind.i64 x22 → K (SV.i IntKind.i64 { st := false, z := x22 }))) ∧ (decide (x6 > (64 : Int)) = false → Need ((0 : Int) ≤ y) ∧ ∀ (x23 : Int), x23 = shlI IntKind.u64 (1 : Int) y → InR IntKind.u64 x23 → ∀ (x24 : Int), x24 = IntKind.u64.wrap (x23 - (1 : Int)) → InR IntKind.u64 x24 → ∀ (x25 : Int), x25 = andI IntKind.u64 x4 x24 → InR IntKind.u64 x25 → ∀ (x26 : Int), x26 = IntKind.i64.wrap x25 → InR IntKind.i64 x26 → K (SV.i IntKind.i64 { st := false, z := x26 }))) ∧ (decide (x < (256 : Int)) = false → Need ((0 : Int) ≤ y) ∧ ∀ (x27 : Int), x27 = shlI IntKind.u64 (1 : Int) y → InR IntKind.u64 x27 → ∀ (x28 : Int), x28 = IntKind.u64.wrap (x27 - (1 : Int)) → InR IntKind.u64 x28 → ∀ (x29 : Int), x29 = andI IntKind.u64 (0 : Int) x28 → InR IntKind.u64 x29 → ∀ (x30 : Int), x30 = IntKind.i64.wrap x29 → InR IntKind.i64 x30 → K (SV.i IntKind.i64 { st := false, z := x30 }))) := by
  intros
  kernel_rfl

def windowS : List SV → Option (List Prop × SV)
  | [.arr .u64 4 _ aL, .i .i64 xV, .i .i64 yV] => some ([0 ≤ xV.z, xV.z ≤ 4096, 0 ≤ yV.z, yV.z ≤ 12], .i .i64 ⟨false, winL (val4 aL) xV.z yV.z⟩)
  | _ => none

set_option maxHeartbeats 1000000 in
theorem window_ok : CallOk Tryd.prog gh 70 (pureCtr windowS) := by
  refine call_pure (fn := Tryd.f70) Γ18_ok rfl (by kernel_rfl) (by kernel_rfl) (by kernel_rfl) windowS fun args P0 Y0 hs hp hf => ?_
  unfold windowS at hs
  split at hs
  · rename_i ea aL xV yV
    simp only [Option.some.injEq, Prod.mk.injEq] at hs
    obtain ⟨rfl, rfl⟩ := hs
    simp only [FactVs, FactV] at hf
    obtain ⟨⟨hal, ha⟩, hx, hy, _⟩ := hf
    obtain ⟨hi0, hi1, hw0, hw1, _⟩ := hp
    obtain ⟨a0, a1, a2, a3, rfl⟩ := len4 hal
    have ia0 := ha a0 (by simp); have ia1 := ha a1 (by simp); have ia2 := ha a2 (by simp); have ia3 := ha a3 (by simp)
    refine ⟨[.arr .u64 4 true [a0, a1, a2, a3], .i .i64 ⟨false, xV.z⟩, .i .i64 ⟨false, yV.z⟩], [], _, ⟨rfl, rfl, rfl, trivial⟩, Nat.le_of_ble_eq_true (by kernel_rfl), vc_noloops ?_⟩
    show vc70 a0 a1 a2 a3 xV.z yV.z _ _
    rw [vc70_eq]
    generalize xV.z = x at *
    generalize yV.z = y at *
    have hp := val_pos ia0 ia1 ia2 ia3
    obtain ⟨N, hN⟩ := Int.eq_ofNat_of_zero_le hp.1
    have hN2 : N < 2 ^ 256 := by rw [hN] at hp; omega
    obtain ⟨i, rfl⟩ := Int.eq_ofNat_of_zero_le hi0
    obtain ⟨w, rfl⟩ := Int.eq_ofNat_of_zero_le hw0
    have hwin : winL (val4 [a0, a1, a2, a3]) (i : Int) (w : Int) = ((N / 2 ^ i % 2 ^ w : Nat) : Int) := by
      unfold winL
      rw [hN, Int.toNat_natCast, Int.toNat_natCast]
      exact_mod_cast rfl
    have hij : 2 ^ i = 2 ^ (64 * (i / 64)) * 2 ^ (i % 64) := by rw [← Nat.pow_add]; congr 1; omega
    have hdiv : N / 2 ^ i = N / 2 ^ (64 * (i / 64)) / 2 ^ (i % 64) := by rw [hij, Nat.div_div_eq_div_mul]
    have ht : IntKind.i64.wrap ((i : Int).tdiv 64) = ((i / 64 : Nat) : Int) := by rw [tdiv64 (by omega), wrap_i64 (by omega)]; omega
    have hm : (i : Int).tmod 64 = ((i % 64 : Nat) : Int) := by rw [tmod64 (by omega)]; omega
    rw [ht, hm]
    have hjn : ((i / 64 : Nat) : Int).toNat = i / 64 := Int.toNat_natCast _
    have goal : ∀ x v : Int, v = x % ((2 ^ (w : Int).toNat : Nat) : Int) → (∃ X : Nat, x = (X : Int) ∧ X % 2 ^ w = N / 2 ^ i % 2 ^ w) → v = winL (val4 [a0, a1, a2, a3]) (i : Int) (w : Int) := by
      rintro x v hv ⟨X, rfl, hX⟩
      rw [hwin, hv, Int.toNat_natCast, ← hX]
      exact_mod_cast rfl
    refine ⟨fun h => ?_, fun h => ?_⟩
    · have h := of_decide_eq_true h
      have hj : 0 ≤ ((i / 64 : Nat) : Int) ∧ ((i / 64 : Nat) : Int) < 4 := by omega
      intro x1 e1 r1
      refine ⟨need_of (by omega), need_of (by omega), fun x2 e2 r2 x3 e3 r3 => ⟨need_of (by omega), fun x4 e4 r4 x5 e5 r5 x6 e6 r6 => ?_⟩⟩
      have f2 := word_at hj ia0 ia1 ia2 ia3 hN e1 e2
      rw [hjn] at f2
      have f4 : x4 = ((N / 2 ^ (64 * (i / 64)) % 2 ^ 64 / 2 ^ (i % 64) : Nat) : Int) := by
        rw [e3, f2, shrI_u64 _ (i % 64) (by omega)] at e4
        rw [e4]; exact_mod_cast rfl
      rw [e5, wrap_i64 (by omega)] at e6
      refine ⟨fun h6 => ?_, fun h6 => ?_⟩
      · have h6 := of_decide_eq_true h6
        intro x7 e7 r7
        refine ⟨fun h7 => ?_, fun h7 => ?_⟩
        · have h7 := of_decide_eq_true h7
          intro x8 e8 r8 x9 e9 r9
          rw [e8, wrap_i64 (by omega)] at e9
          refine ⟨need_of (by omega), need_of (by omega), fun x10 e10 r10 x11 e11 r11 x12 e12 r12 => ?_⟩
          have hj1 : 0 ≤ (((i / 64 + 1 : Nat)) : Int) ∧ (((i / 64 + 1 : Nat)) : Int) < 4 := by omega
          have f10 := word_at hj1 ia0 ia1 ia2 ia3 hN (show x9 = ((i / 64 + 1 : Nat) : Int) by omega) e10
          rw [Int.toNat_natCast] at f10
          rw [e11, wrap_i64 (by omega)] at e12
          have f12 : x12 = ((64 - i % 64 : Nat) : Int) := by omega
          refine ⟨need_of (by omega), fun x13 e13 r13 x14 e14 r14 => ⟨need_of (by omega), fun x15 e15 r15 x16 e16 r16 x17 e17 r17 x18 e18 r18 => ?_⟩⟩
          have hq : N / 2 ^ (64 * (i / 64 + 1)) = N / 2 ^ (64 * (i / 64)) / 2 ^ 64 := by
            rw [Nat.div_div_eq_div_mul, ← Nat.pow_add]; congr 2
          rw [hq] at f10
          rw [f12, shlI_u64 _ (64 - i % 64) (by omega), f10] at e13
          generalize hM : N / 2 ^ (64 * (i / 64)) = M at *
          generalize hrr : i % 64 = rr at *
          have f13 : x13 = ((M / 2 ^ 64 % 2 ^ 64 * 2 ^ (64 - rr) % 2 ^ 64 : Nat) : Int) := by
            rw [e13]
            have : (18446744073709551616 : Int) = ((2 ^ 64 : Nat) : Int) := by decide
            rw [this]; exact_mod_cast rfl
          have hz : M / 2 ^ 64 % 2 ^ 64 * 2 ^ (64 - rr) % 2 ^ 64 = (M / 2 ^ 64 % 2 ^ 64 % 2 ^ rr) * 2 ^ (64 - rr) := by
            exact shl_mod _ _ (by omega)
          have hlt4 : M % 2 ^ 64 / 2 ^ rr < 2 ^ (64 - rr) := by
            rw [Nat.div_lt_iff_lt_mul (Nat.two_pow_pos rr), ← Nat.pow_add, show 64 - rr + rr = 64 by omega]
            exact Nat.mod_lt _ (Nat.two_pow_pos 64)
          have hor := or_add (64 - rr) (x := x13) (y := x4) (z := ((M / 2 ^ 64 % 2 ^ 64 % 2 ^ rr : Nat) : Int)) r13 r4 (by rw [f13, hz]; exact_mod_cast rfl) (by rw [f4]; exact_mod_cast hlt4)
          rw [orI_comm, hor] at e14
          have k := mask_tail ⟨hw0, hw1⟩ e15 e16 r14 e17 e18
          refine goal _ _ k ⟨M % 2 ^ 64 / 2 ^ rr + M / 2 ^ 64 % 2 ^ 64 * 2 ^ (64 - rr) % 2 ^ 64, ?_, ?_⟩
          · rw [e14, f13, f4]; omega
          · rw [hdiv]; exact win2 M rr w (by omega) (by omega)
        · have h7 := of_decide_eq_false h7
          refine ⟨need_of (by omega), fun x19 e19 r19 x20 e20 r20 x21 e21 r21 x22 e22 r22 => ?_⟩
          have k := mask_tail ⟨hw0, hw1⟩ e19 e20 r4 e21 e22
          refine goal _ _ k ⟨_, f4, ?_⟩
          rw [hdiv]
          have h3 : i / 64 = 3 := by omega
          rw [h3]
          have : N / 2 ^ (64 * 3) < 2 ^ 64 := by rw [Nat.div_lt_iff_lt_mul (Nat.two_pow_pos _), ← Nat.pow_add]; exact hN2
          rw [Nat.mod_eq_of_lt this]
      · have h6 := of_decide_eq_false h6
        refine ⟨need_of (by omega), fun x23 e23 r23 x24 e24 r24 x25 e25 r25 x26 e26 r26 => ?_⟩
        have k := mask_tail ⟨hw0, hw1⟩ e23 e24 r4 e25 e26
        refine goal _ _ k ⟨_, f4, ?_⟩
        rw [hdiv]
        exact win1 _ _ _ (by omega)
    · have h := of_decide_eq_false h
      refine ⟨need_of (by omega), fun x27 e27 r27 x28 e28 r28 x29 e29 r29 x30 e30 r30 => ?_⟩
      have k := mask_tail ⟨hw0, hw1⟩ e27 e28 (inR_zero _) e29 e30
      refine goal _ _ k ⟨0, rfl, ?_⟩
      have : N / 2 ^ i = 0 := by
        rw [Nat.div_eq_zero_iff]
        right
        exact Nat.lt_of_lt_of_le hN2 (Nat.pow_le_pow_right (by omega) (by omega))
      rw [this]
  · cases hs

def Γ19 : Tab := ⟨tys, [(70, pureCtr windowS)] ++ Γ18.ctr, [0], gh⟩
theorem Γ19_ok : TabOk Tryd.prog Γ19 := Γ18_ok.cons window_ok
end Go.Gx

/- Signed digits. -/
namespace Go.Sp
def p2 (w : Int) : Int := ((2 ^ w.toNat : Nat) : Int)
/-- m digits from the k-th on, with what was carried. -/
def dgs (n w : Int) : Nat → Int → Int → List Int
  | 0, _, _ => []
  | m + 1, k, c => if winL n (k * w) w + c > p2 (w - 1) then (winL n (k * w) w + c - p2 w) :: dgs n w m (k + 1) 1 else (winL n (k * w) w + c) :: dgs n w m (k + 1) 0
def digL (n w : Int) : List Int := if w < 1 ∨ w > 12 then [] else dgs n w (253 / w + 1).toNat 0 0
def digE (w : Int) : Int := if w < 1 ∨ w > 12 then 1 else 0
/-- The non-adjacent form from bit i on. -/
def nfs (n w : Int) : Nat → Int → Int → List Int → List Int
  | 0, _, _, l => l
  | m + 1, i, c, l => if i ≤ 253 then (if (winL n i 1 + c) % 2 = 0 then nfs n w m (i + 1) c l else if winL n i w + c ≥ p2 (w - 1) then nfs n w m (i + w) 1 (l.set i.toNat (winL n i w + c - p2 w)) else nfs n w m (i + w) 0 (l.set i.toNat (winL n i w + c))) else l
def nafL (n w : Int) : List Int := if w < 2 ∨ w > 8 then [] else nfs n w 255 0 0 (List.replicate 254 0)
def nafE (w : Int) : Int := if w < 2 ∨ w > 8 then 1 else 0
end Go.Sp
namespace Go.Gx
open Go.Proofs Go.Sp
open Go.Sp (prI mlL adL sbL pwL halfI)
set_option linter.unusedVariables false

theorem p2_bd {w : Int} (h : 0 ≤ w ∧ w ≤ 12) : 1 ≤ p2 w ∧ p2 w ≤ 4096 := by
  obtain ⟨k, rfl⟩ := Int.eq_ofNat_of_zero_le h.1
  unfold p2
  rw [Int.toNat_natCast]
  have h1 : 2 ^ k ≤ 2 ^ 12 := Nat.pow_le_pow_right (by omega) (by omega)
  have h2 := Nat.two_pow_pos k
  omega
theorem shl_p2 {w : Int} (h : 0 ≤ w ∧ w ≤ 12) : shlI .i64 1 w = p2 w := by
  have hb := p2_bd h
  have : shlI .i64 1 w = IntKind.i64.wrap (1 * 2 ^ min w.toNat 64) := rfl
  rw [this, show min w.toNat 64 = w.toNat by omega, Int.one_mul, show (2 : Int) ^ w.toNat = p2 w by unfold p2; simp, wrap_i64 (by omega)]
theorem win_bd (n i : Int) {w : Int} (h : 0 ≤ w ∧ w ≤ 12) : 0 ≤ winL n i w ∧ winL n i w < p2 w := by
  have hb := p2_bd h
  unfold winL
  show 0 ≤ _ % p2 w ∧ _ % p2 w < p2 w
  exact ⟨Int.emod_nonneg _ (by omega), Int.emod_lt_of_pos _ (by omega)⟩
theorem win1_bd (n i : Int) : 0 ≤ winL n i 1 ∧ winL n i 1 < 2 := win_bd n i (w := 1) (by omega)
theorem one_len (x : Int) : Need ((1 : Int) ≤ (([x].length : Nat) : Int)) := need_of (by simp)

def L27 : Loops := [(7, ⟨[.any, .i .i64 ⟨false, 0⟩, .p 1000 0, .any, .any, .any, .nsl, .i .i64 ⟨false, 0⟩, .any, .any] ++ reps .any 10 ++ [.i .i64 ⟨false, 0⟩, .i .i64 ⟨false, 0⟩] ++ reps .any 25, gh ++ [(1000, .segs false [.arr .u64 4 false []])], 1018⟩), (1007, ⟨[.any, .i .i64 ⟨false, 0⟩, .p 1000 0, .any, .any, .any, .sl 1001 0 1 ⟨true, 0⟩ ⟨false, 0⟩, .i .i64 ⟨false, 0⟩, .any, .any] ++ reps .any 10 ++ [.i .i64 ⟨false, 0⟩, .i .i64 ⟨false, 0⟩] ++ reps .any 25, gh ++ [(1000, .segs false [.arr .u64 4 false []]), (1001, .segs false [.rowI .i64 []])], 1018⟩)]
def vc27 (a0 a1 a2 a3 x : Int) (K : List Int → List SV → Prop) (Q : Nat → List Pv → Prop) : Prop := fnVcI Γ19 Tryd.f27 L27 [.arr .u64 4 true [a0, a1, a2, a3], .i .i64 ⟨false, x⟩] gh .i64 K Q
def lc27a (w c cnt k : Int) (a : List Int) (K : List Int → List SV → Prop) (Q : Nat → List Pv → Prop) : Prop := loopVcI Γ19 Tryd.f27 L27 7 [.z w, .z c, .z cnt, .z k, .l a] .i64 K Q
def lc27b (w len c cnt k : Int) (a l : List Int) (K : List Int → List SV → Prop) (Q : Nat → List Pv → Prop) : Prop := loopVcI Γ19 Tryd.f27 L27 1007 [.z w, .z len, .z c, .z cnt, .z k, .l a, .l l] .i64 K Q
theorem vc27_eq : ∀ (a0 a1 a2 a3 x : Int) (K : List Int → List SV → Prop) (Q : Nat → List Pv → Prop), vc27 a0 a1 a2 a3 x K Q = ((decide (x < (1 : Int)) = true → K [] [SV.i IntKind.i64 { st := true, z := (1 : Int) }]) ∧ (decide (x < (1 : Int)) = false → (decide (x > (12 : Int)) = true → K [] [SV.i IntKind.i64 { st := true, z := (1 : Int) }]) ∧ (decide (x > (12 : Int)) = false → ∀ (x1 : Int), x1 = w0 (val4 [a0, a1, a2, a3] % (7237005577332262213973186563042994240857116359379907606001950938285454250989 : Int)) → InR IntKind.u64 x1 → ∀ (x2 : Int), x2 = w1 (val4 [a0, a1, a2, a3] % (7237005577332262213973186563042994240857116359379907606001950938285454250989 : Int)) → InR IntKind.u64 x2 → ∀ (x3 : Int), x3 = w2 (val4 [a0, a1, a2, a3] % (7237005577332262213973186563042994240857116359379907606001950938285454250989 : Int)) → InR IntKind.u64 x3 → ∀ (x4 : Int), x4 = w3 (val4 [a0, a1, a2, a3] % (7237005577332262213973186563042994240857116359379907606001950938285454250989 : Int)) → InR IntKind.u64 x4 → Need (x ≠ (0 : Int)) ∧ ∀ (x5 : Int), x5 = IntKind.i64.wrap (Int.tdiv (253 : Int) x) → InR IntKind.i64 x5 → ∀ (x6 : Int), x6 = IntKind.i64.wrap (x5 + (1 : Int)) → InR IntKind.i64 x6 → Same Tryd.f27 (7 : Nat) (itemsOf Tryd.f27 (7 : Nat)) ∧ Q (7 : Nat) [Pv.z x, Pv.z (0 : Int), Pv.z x6, Pv.z (0 : Int), Pv.l [x1, x2, x3, x4]]))) := by
  intros
  kernel_rfl
theorem lc27a_eq : ∀ (w c cnt k : Int) (a : List Int) (K : List Int → List SV → Prop) (Q : Nat → List Pv → Prop), lc27a w c cnt k a K Q = ((decide (k < cnt) = true → ∀ (x1 : Int), x1 = IntKind.i64.wrap (k * w) → InR IntKind.i64 x1 → Need ((0 : Int) ≤ x1) ∧ Need (x1 ≤ (4096 : Int)) ∧ Need ((0 : Int) ≤ w) ∧ Need (w ≤ (12 : Int)) ∧ ∀ (x2 : Int), x2 = winL (val4 a) x1 w → InR IntKind.i64 x2 → ∀ (x3 : Int), x3 = IntKind.i64.wrap (x2 + c) → InR IntKind.i64 x3 → ∀ (x4 : Int), x4 = IntKind.i64.wrap (w - (1 : Int)) → InR IntKind.i64 x4 → Need ((0 : Int) ≤ x4) ∧ ∀ (x5 : Int), x5 = shlI IntKind.i64 (1 : Int) x4 → InR IntKind.i64 x5 → (decide (x3 > x5) = true → Need ((0 : Int) ≤ w) ∧ ∀ (x6 : Int), x6 = shlI IntKind.i64 (1 : Int) w → InR IntKind.i64 x6 → ∀ (x7 : Int), x7 = IntKind.i64.wrap (x3 - x6) → InR IntKind.i64 x7 → Need (↑([] ++ List.take (1 : Nat) (List.drop (0 : Nat) [x7])).length * (8 : Int) ≤ (70368744177664 : Int)) ∧ Need ((1 : Int) ≤ ↑[x7].length) ∧ ∀ (x8 : List Int), x8 = [] ++ List.take (1 : Nat) (List.drop (0 : Nat) [x7]) → AllR IntKind.i64 x8 → ∀ (x9 : Int), x9 = ↑([] ++ List.take (1 : Nat) (List.drop (0 : Nat) [x7])).length → (0 : Int) ≤ x9 → InR IntKind.i64 x9 → ∀ (x10 : Int), x10 = IntKind.i64.wrap (k + (1 : Int)) → InR IntKind.i64 x10 → Same Tryd.f27 (7 : Nat) (itemsOf Tryd.f27 (7 : Nat)) ∧ Q (1007 : Nat) [Pv.z w, Pv.z x9, Pv.z (1 : Int), Pv.z cnt, Pv.z x10, Pv.l a, Pv.l x8]) ∧ (decide (x3 > x5) = false → Need (↑([] ++ List.take (1 : Nat) (List.drop (0 : Nat) [x3])).length * (8 : Int) ≤ (70368744177664 : Int)) ∧ Need ((1 : Int) ≤ ↑[x3].length) ∧ ∀ (x11 : List Int), x11 = [] ++ List.take (1 : Nat) (List.drop (0 : Nat) [x3]) → AllR IntKind.i64 x11 → ∀ (x12 : Int), x12 = ↑([] ++ List.take (1 : Nat) (List.drop (0 : Nat) [x3])).length → (0 : Int) ≤ x12 → InR IntKind.i64 x12 → ∀ (x13 : Int), x13 = IntKind.i64.wrap (k + (1 : Int)) → InR IntKind.i64 x13 → Same Tryd.f27 (7 : Nat) (itemsOf Tryd.f27 (7 : Nat)) ∧ Q (1007 : Nat) [Pv.z w, Pv.z x12, Pv.z (0 : Int), Pv.z cnt, Pv.z x13, Pv.l a, Pv.l x11])) ∧ (decide (k < cnt) = false → K [] [SV.i IntKind.i64 { st := true, z := (0 : Int) }])) := by
  intros
  kernel_rfl
theorem lc27b_eq : ∀ (w len c cnt k : Int) (a l : List Int) (K : List Int → List SV → Prop) (Q : Nat → List Pv → Prop), lc27b w len c cnt k a l K Q = ((decide (k < cnt) = true → ∀ (x1 : Int), x1 = IntKind.i64.wrap (k * w) → InR IntKind.i64 x1 → Need ((0 : Int) ≤ x1) ∧ Need (x1 ≤ (4096 : Int)) ∧ Need ((0 : Int) ≤ w) ∧ Need (w ≤ (12 : Int)) ∧ ∀ (x2 : Int), x2 = winL (val4 a) x1 w → InR IntKind.i64 x2 → ∀ (x3 : Int), x3 = IntKind.i64.wrap (x2 + c) → InR IntKind.i64 x3 → ∀ (x4 : Int), x4 = IntKind.i64.wrap (w - (1 : Int)) → InR IntKind.i64 x4 → Need ((0 : Int) ≤ x4) ∧ ∀ (x5 : Int), x5 = shlI IntKind.i64 (1 : Int) x4 → InR IntKind.i64 x5 → (decide (x3 > x5) = true → Need ((0 : Int) ≤ w) ∧ ∀ (x6 : Int), x6 = shlI IntKind.i64 (1 : Int) w → InR IntKind.i64 x6 → ∀ (x7 : Int), x7 = IntKind.i64.wrap (x3 - x6) → InR IntKind.i64 x7 → Need (↑(l ++ List.take (1 : Nat) (List.drop (0 : Nat) [x7])).length * (8 : Int) ≤ (70368744177664 : Int)) ∧ Need (len = ↑l.length) ∧ Need ((1 : Int) ≤ ↑[x7].length) ∧ ∀ (x8 : List Int), x8 = l ++ List.take (1 : Nat) (List.drop (0 : Nat) [x7]) → AllR IntKind.i64 x8 → ∀ (x9 : Int), x9 = ↑(l ++ List.take (1 : Nat) (List.drop (0 : Nat) [x7])).length → (0 : Int) ≤ x9 → InR IntKind.i64 x9 → ∀ (x10 : Int), x10 = IntKind.i64.wrap (k + (1 : Int)) → InR IntKind.i64 x10 → Same Tryd.f27 (7 : Nat) (itemsOf Tryd.f27 (7 : Nat)) ∧ Q (1007 : Nat) [Pv.z w, Pv.z x9, Pv.z (1 : Int), Pv.z cnt, Pv.z x10, Pv.l a, Pv.l x8]) ∧ (decide (x3 > x5) = false → Need (↑(l ++ List.take (1 : Nat) (List.drop (0 : Nat) [x3])).length * (8 : Int) ≤ (70368744177664 : Int)) ∧ Need (len = ↑l.length) ∧ Need ((1 : Int) ≤ ↑[x3].length) ∧ ∀ (x11 : List Int), x11 = l ++ List.take (1 : Nat) (List.drop (0 : Nat) [x3]) → AllR IntKind.i64 x11 → ∀ (x12 : Int), x12 = ↑(l ++ List.take (1 : Nat) (List.drop (0 : Nat) [x3])).length → (0 : Int) ≤ x12 → InR IntKind.i64 x12 → ∀ (x13 : Int), x13 = IntKind.i64.wrap (k + (1 : Int)) → InR IntKind.i64 x13 → Same Tryd.f27 (7 : Nat) (itemsOf Tryd.f27 (7 : Nat)) ∧ Q (1007 : Nat) [Pv.z w, Pv.z x12, Pv.z (0 : Int), Pv.z cnt, Pv.z x13, Pv.l a, Pv.l x11])) ∧ (decide (k < cnt) = false → Need ((0 : Int) + len ≤ ↑l.length) ∧ K (List.take len.toNat (List.drop (0 : Nat) l)) [SV.i IntKind.i64 { st := true, z := (0 : Int) }])) := by
  intros
  kernel_rfl

theorem round27a {w len c cnt k n : Int} {a l : List Int} {K : List Int → List SV → Prop} {Q : Nat → List Pv → Prop} (hw : 1 ≤ w ∧ w ≤ 12) (hk : 0 ≤ k ∧ k < cnt) (hcnt : cnt = 253 / w + 1) (hc : c = 0 ∨ c = 1) (ha : val4 a = n) (hl : l = [] ∧ len = (l.length : Int) ∧ (l.length : Int) = k)
    (h : ∀ c' d, (c' = 0 ∨ c' = 1) → dgs n w (cnt - k).toNat k c = d :: dgs n w (cnt - (k + 1)).toNat (k + 1) c' → Q 1007 [.z w, .z (k + 1), .z c', .z cnt, .z (k + 1), .l a, .l (l ++ [d])]) : lc27a w c cnt k a K Q := by
  have hkw : 0 ≤ k * w ∧ k * w ≤ 253 := by
    have h1 : k * w ≤ 253 / w * w := Int.mul_le_mul_of_nonneg_right (by omega) (by omega)
    have h2 : 253 / w * w ≤ 253 := Int.ediv_mul_le 253 (by omega)
    exact ⟨Int.mul_nonneg hk.1 (by omega), by omega⟩
  have hcb : cnt ≤ 254 := by
    have : 253 / w ≤ 253 := by rw [Int.ediv_le_iff_le_mul (by omega)]; omega
    omega
  have hs : (cnt - k).toNat = (cnt - (k + 1)).toNat + 1 := by omega
  have hwb := win_bd n (k * w) (w := w) (by omega)
  have hp := p2_bd (w := w) (by omega)
  have hp1 := p2_bd (w := w - 1) (by omega)
  obtain ⟨hl1, hl2, hl3⟩ := hl
  rw [lc27a_eq]
  refine ⟨fun _ x1 e1 r1 => ?_, fun hn => by have := of_decide_eq_false hn; omega⟩
  rw [wrap_i64 (by omega)] at e1
  refine ⟨need_of (by omega), need_of (by omega), need_of (by omega), need_of (by omega), fun x2 e2 r2 x3 e3 r3 x4 e4 r4 => ?_⟩
  rw [e1, ha] at e2
  rw [wrap_i64 (by omega)] at e3 e4
  refine ⟨need_of (by omega), fun x5 e5 r5 => ?_⟩
  rw [e4, shl_p2 (by omega)] at e5
  have hwr : IntKind.i64.wrap (k + 1) = k + 1 := wrap_i64 (by omega)
  refine ⟨fun hg => ?_, fun hg => ?_⟩
  · have hg := of_decide_eq_true hg
    refine ⟨need_of (by omega), fun x6 e6 r6 x7 e7 r7 => ?_⟩
    rw [shl_p2 (by omega)] at e6
    rw [wrap_i64 (by omega)] at e7
    refine ⟨need_of (by simp), one_len _, fun x8 e8 _ x9 e9 _ _ x10 e10 _ => ⟨rfl, ?_⟩⟩
    have f8 : x8 = l ++ [x7] := by rw [e8, hl1]; rfl
    have f9 : x9 = k + 1 := by rw [e9]; simp; rw [hl1] at hl3; simp at hl3; omega
    rw [f8, f9, e10, hwr]
    refine h 1 x7 (.inr rfl) ?_
    rw [hs]
    simp only [dgs]
    rw [if_pos (by omega)]
    congr 1; omega
  · have hg := of_decide_eq_false hg
    refine ⟨need_of (by simp), one_len _, fun x11 e11 _ x12 e12 _ _ x13 e13 _ => ⟨rfl, ?_⟩⟩
    have f8 : x11 = l ++ [x3] := by rw [e11, hl1]; rfl
    have f9 : x12 = k + 1 := by rw [e12]; simp; rw [hl1] at hl3; simp at hl3; omega
    rw [f8, f9, e13, hwr]
    refine h 0 x3 (.inl rfl) ?_
    rw [hs]
    simp only [dgs]
    rw [if_neg (by omega)]
    congr 1; omega

theorem round27b {w len c cnt k n : Int} {a l : List Int} {K : List Int → List SV → Prop} {Q : Nat → List Pv → Prop} (hw : 1 ≤ w ∧ w ≤ 12) (hk : 0 ≤ k ∧ k < cnt) (hcnt : cnt = 253 / w + 1) (hc : c = 0 ∨ c = 1) (ha : val4 a = n) (hl : l = l ∧ len = (l.length : Int) ∧ (l.length : Int) = k)
    (h : ∀ c' d, (c' = 0 ∨ c' = 1) → dgs n w (cnt - k).toNat k c = d :: dgs n w (cnt - (k + 1)).toNat (k + 1) c' → Q 1007 [.z w, .z (k + 1), .z c', .z cnt, .z (k + 1), .l a, .l (l ++ [d])]) : lc27b w len c cnt k a l K Q := by
  have hkw : 0 ≤ k * w ∧ k * w ≤ 253 := by
    have h1 : k * w ≤ 253 / w * w := Int.mul_le_mul_of_nonneg_right (by omega) (by omega)
    have h2 : 253 / w * w ≤ 253 := Int.ediv_mul_le 253 (by omega)
    exact ⟨Int.mul_nonneg hk.1 (by omega), by omega⟩
  have hcb : cnt ≤ 254 := by
    have : 253 / w ≤ 253 := by rw [Int.ediv_le_iff_le_mul (by omega)]; omega
    omega
  have hs : (cnt - k).toNat = (cnt - (k + 1)).toNat + 1 := by omega
  have hwb := win_bd n (k * w) (w := w) (by omega)
  have hp := p2_bd (w := w) (by omega)
  have hp1 := p2_bd (w := w - 1) (by omega)
  obtain ⟨hl1, hl2, hl3⟩ := hl
  rw [lc27b_eq]
  refine ⟨fun _ x1 e1 r1 => ?_, fun hn => by have := of_decide_eq_false hn; omega⟩
  rw [wrap_i64 (by omega)] at e1
  refine ⟨need_of (by omega), need_of (by omega), need_of (by omega), need_of (by omega), fun x2 e2 r2 x3 e3 r3 x4 e4 r4 => ?_⟩
  rw [e1, ha] at e2
  rw [wrap_i64 (by omega)] at e3 e4
  refine ⟨need_of (by omega), fun x5 e5 r5 => ?_⟩
  rw [e4, shl_p2 (by omega)] at e5
  have hwr : IntKind.i64.wrap (k + 1) = k + 1 := wrap_i64 (by omega)
  refine ⟨fun hg => ?_, fun hg => ?_⟩
  · have hg := of_decide_eq_true hg
    refine ⟨need_of (by omega), fun x6 e6 r6 x7 e7 r7 => ?_⟩
    rw [shl_p2 (by omega)] at e6
    rw [wrap_i64 (by omega)] at e7
    refine ⟨need_of (by simp; omega), need_of (by omega), one_len _, fun x8 e8 _ x9 e9 _ _ x10 e10 _ => ⟨rfl, ?_⟩⟩
    have f8 : x8 = l ++ [x7] := by rw [e8]; rfl
    have f9 : x9 = k + 1 := by rw [e9]; simp; omega
    rw [f8, f9, e10, hwr]
    refine h 1 x7 (.inr rfl) ?_
    rw [hs]
    simp only [dgs]
    rw [if_pos (by omega)]
    congr 1; omega
  · have hg := of_decide_eq_false hg
    refine ⟨need_of (by simp; omega), need_of (by omega), one_len _, fun x11 e11 _ x12 e12 _ _ x13 e13 _ => ⟨rfl, ?_⟩⟩
    have f8 : x11 = l ++ [x3] := by rw [e11]; rfl
    have f9 : x12 = k + 1 := by rw [e12]; simp; omega
    rw [f8, f9, e13, hwr]
    refine h 0 x3 (.inl rfl) ?_
    rw [hs]
    simp only [dgs]
    rw [if_neg (by omega)]
    congr 1; omega

def inv27 (n w : Int) (a : List Int) (key : Nat) (ps : List Pv) (m : Nat) : Prop :=
  (1 ≤ w ∧ w ≤ 12) ∧ ∃ c cnt k l, cnt = 253 / w + 1 ∧ (m : Int) = cnt - k ∧ (0 ≤ k ∧ k ≤ cnt) ∧ (c = 0 ∨ c = 1) ∧ (l.length : Int) = k ∧ l ++ dgs n w (cnt - k).toNat k c = digL n w ∧
    ((key = 7 ∧ k = 0 ∧ ps = [.z w, .z c, .z cnt, .z k, .l a]) ∨ (key = 1007 ∧ ps = [.z w, .z k, .z c, .z cnt, .z k, .l a, .l l]))

def digS : List SV → Option (List Prop × List Int × List SV)
  | [.arr .u64 4 _ l, .i .i64 w] => some ([], digL (val4 l % ell) w.z, [.i .i64 ⟨false, digE w.z⟩])
  | _ => none

set_option maxHeartbeats 1000000 in
theorem dig_ok : CallOk Tryd.prog gh 27 (freshCtr .i64 digS) := by
  refine call_fresh (fn := Tryd.f27) Γ19_ok rfl (by kernel_rfl) (by kernel_rfl) (by kernel_rfl) digS fun args P0 l0 r0 hs hp hf => ?_
  unfold digS at hs
  split at hs
  · rename_i e1 l w
    simp only [Option.some.injEq, Prod.mk.injEq] at hs
    obtain ⟨rfl, rfl, rfl⟩ := hs
    simp only [FactVs, FactV] at hf
    obtain ⟨⟨hl, h1⟩, hw, _⟩ := hf
    obtain ⟨a0, a1, a2, a3, rfl⟩ := len4 hl
    obtain ⟨wT, w⟩ := w
    dsimp only at *
    have hn := val_mod (val4 [a0, a1, a2, a3])
    refine ⟨[.arr .u64 4 true [a0, a1, a2, a3], .i .i64 ⟨false, w⟩], L27, inv27 (val4 [a0, a1, a2, a3] % ell) w (words4 (val4 [a0, a1, a2, a3] % ell)), ⟨rfl, rfl, trivial⟩, Nat.le_of_ble_eq_true (by kernel_rfl), ?_, ?_, ?_⟩
    · intro k t ht g hg
      have hg : g ∈ keysOf gh := hg
      simp only [gh, keysOf, List.mem_singleton] at hg
      subst hg
      simp only [L27, List.mem_cons, List.not_mem_nil, or_false, Prod.mk.injEq] at ht
      rcases ht with ⟨rfl, rfl⟩ | ⟨rfl, rfl⟩ <;> exact ⟨by omega, rfl⟩
    · rintro vk t ps m ht ⟨hwr, c, cnt, k, l, hcnt, hm, hk, hc, hlk, hfull, hcase⟩
      have hpos : 0 ≤ 253 / w := Int.ediv_nonneg (by omega) (by omega)
      have next : ∀ c' d, k < cnt → (c' = 0 ∨ c' = 1) → dgs (val4 [a0, a1, a2, a3] % ell) w (cnt - k).toNat k c = d :: dgs (val4 [a0, a1, a2, a3] % ell) w (cnt - (k + 1)).toNat (k + 1) c' →
          ∃ m', m' < m ∧ inv27 (val4 [a0, a1, a2, a3] % ell) w (words4 (val4 [a0, a1, a2, a3] % ell)) 1007 [.z w, .z (k + 1), .z c', .z cnt, .z (k + 1), .l (words4 (val4 [a0, a1, a2, a3] % ell)), .l (l ++ [d])] m' := fun c' d hlt hc' hd =>
        ⟨m - 1, by omega, hwr, c', cnt, k + 1, l ++ [d], hcnt, by omega, by omega, hc', by simp; omega, by rw [← hfull, hd]; simp, .inr ⟨rfl, rfl⟩⟩
      simp only [L27, List.mem_cons, List.not_mem_nil, or_false, Prod.mk.injEq] at ht
      rcases ht with ⟨rfl, rfl⟩ | ⟨rfl, rfl⟩
      · rcases hcase with ⟨_, rfl, rfl⟩ | ⟨h7, _⟩
        · have hnil : l = [] := List.length_eq_zero_iff.1 (by omega)
          show lc27a w c cnt 0 (words4 (val4 [a0, a1, a2, a3] % ell)) _ _
          exact round27a (l := l) (len := 0) hwr ⟨by omega, by omega⟩ hcnt hc hn.1 ⟨hnil, by omega, hlk⟩ fun c' d hc' hd => next c' d (by omega) hc' hd
        · omega
      · rcases hcase with ⟨h7, _⟩ | ⟨_, rfl⟩
        · omega
        · show lc27b w k c cnt k (words4 (val4 [a0, a1, a2, a3] % ell)) l _ _
          rcases Int.lt_or_le k cnt with hlt | hge
          · exact round27b hwr ⟨hk.1, hlt⟩ hcnt hc hn.1 ⟨rfl, by omega, hlk⟩ fun c' d hc' hd => next c' d hlt hc' hd
          · rw [lc27b_eq]
            refine ⟨fun h => by have := of_decide_eq_true h; omega, fun _ => ⟨need_of (by omega), ?_, ?_, trivial⟩⟩
            · rw [show (cnt - k).toNat = 0 by omega] at hfull
              simp only [dgs, List.append_nil] at hfull
              rw [← hfull, List.drop_zero, List.take_of_length_le (by omega)]
            · show 0 = digE w
              unfold digE; rw [if_neg (by omega)]
    · show vc27 a0 a1 a2 a3 w _ _
      rw [vc27_eq, ← ell_lit]
      refine ⟨fun h => ?_, fun h => ⟨fun h' => ?_, fun h' => ?_⟩⟩
      · have h := of_decide_eq_true h
        exact ⟨by unfold digL; rw [if_pos (by omega)], by show 1 = digE w; unfold digE; rw [if_pos (by omega)], trivial⟩
      · have h' := of_decide_eq_true h'
        exact ⟨by unfold digL; rw [if_pos (by omega)], by show 1 = digE w; unfold digE; rw [if_pos (by omega)], trivial⟩
      · have h := of_decide_eq_false h
        have h' := of_decide_eq_false h'
        intro x1 e1 _ x2 e2 _ x3 e3 _ x4 e4 _
        have hpos : 0 ≤ 253 / w := Int.ediv_nonneg (by omega) (by omega)
        have hle : 253 / w ≤ 253 := by rw [Int.ediv_le_iff_le_mul (by omega)]; omega
        have htd : Int.tdiv 253 w = 253 / w := Int.tdiv_eq_ediv_of_nonneg (by omega)
        refine ⟨need_of (by omega), fun x5 e5 _ x6 e6 _ => ⟨rfl, (253 / w + 1).toNat, ⟨by omega, by omega⟩, 0, x6, 0, [], ?_, ?_, ?_, .inl rfl, rfl, ?_, .inl ⟨rfl, rfl, ?_⟩⟩⟩ <;> rw [htd, wrap_i64 (by omega)] at e5 <;> rw [e5, wrap_i64 (by omega)] at e6
        · exact e6
        · omega
        · omega
        · rw [e6]
          unfold digL; rw [if_neg (by omega), Int.sub_zero]; rfl
        · rw [e1, e2, e3, e4]; rfl
  · cases hs

def L39 : Loops := [(7, ⟨[.any, .i .i64 ⟨false, 0⟩, .p 1000 0, .any, .any, .any, .sl 1012 0 1 ⟨true, 0⟩ ⟨true, 254⟩, .i .i64 ⟨false, 0⟩, .i .i64 ⟨false, 0⟩] ++ reps .any 44, gh ++ [(1000, .segs false [.arr .u64 4 false []]), (1012, .segs false [.rowI .i64 []])], 1016⟩)]
def vc39 (a0 a1 a2 a3 x : Int) (K : List Int → List SV → Prop) (Q : Nat → List Pv → Prop) : Prop := fnVcI Γ19 Tryd.f39 L39 [.arr .u64 4 true [a0, a1, a2, a3], .i .i64 ⟨false, x⟩] gh .i64 K Q
def lc39 (w c i : Int) (a l : List Int) (K : List Int → List SV → Prop) (Q : Nat → List Pv → Prop) : Prop := loopVcI Γ19 Tryd.f39 L39 7 [.z w, .z c, .z i, .l a, .l l] .i64 K Q
theorem vc39_eq : ∀ (a0 a1 a2 a3 x : Int) (K : List Int → List SV → Prop) (Q : Nat → List Pv → Prop), vc39 a0 a1 a2 a3 x K Q = ((decide (x < (2 : Int)) = true → K [] [SV.i IntKind.i64 { st := true, z := (1 : Int) }]) ∧ (decide (x < (2 : Int)) = false → (decide (x > (8 : Int)) = true → K [] [SV.i IntKind.i64 { st := true, z := (1 : Int) }]) ∧ (decide (x > (8 : Int)) = false → ∀ (x1 : Int), x1 = w0 (val4 [a0, a1, a2, a3] % (7237005577332262213973186563042994240857116359379907606001950938285454250989 : Int)) → InR IntKind.u64 x1 → ∀ (x2 : Int), x2 = w1 (val4 [a0, a1, a2, a3] % (7237005577332262213973186563042994240857116359379907606001950938285454250989 : Int)) → InR IntKind.u64 x2 → ∀ (x3 : Int), x3 = w2 (val4 [a0, a1, a2, a3] % (7237005577332262213973186563042994240857116359379907606001950938285454250989 : Int)) → InR IntKind.u64 x3 → ∀ (x4 : Int), x4 = w3 (val4 [a0, a1, a2, a3] % (7237005577332262213973186563042994240857116359379907606001950938285454250989 : Int)) → InR IntKind.u64 x4 → Need ((0 : Int) ≤ (254 : Int) ∧ (254 : Int) ≤ (254 : Int) ∧ (2032 : Int) ≤ (70368744177664 : Int)) ∧ ∀ (x5 : List Int), x5 = List.replicate (254 : Nat) (0 : Int) → AllR IntKind.i64 x5 → Same Tryd.f39 (7 : Nat) (itemsOf Tryd.f39 (7 : Nat)) ∧ Q (7 : Nat) [Pv.z x, Pv.z (0 : Int), Pv.z (0 : Int), Pv.l [x1, x2, x3, x4], Pv.l x5]))) := by
  intros
  kernel_rfl
theorem lc39_eq : ∀ (w c i : Int) (a l : List Int) (K : List Int → List SV → Prop) (Q : Nat → List Pv → Prop), lc39 w c i a l K Q = ((decide (i ≤ (253 : Int)) = true → Need ((0 : Int) ≤ i) ∧ Need (i ≤ (4096 : Int)) ∧ Need ((0 : Int) ≤ (1 : Int)) ∧ Need ((1 : Int) ≤ (12 : Int)) ∧ ∀ (x1 : Int), x1 = winL (val4 a) i (1 : Int) → InR IntKind.i64 x1 → ∀ (x2 : Int), x2 = IntKind.i64.wrap (x1 + c) → InR IntKind.i64 x2 → ∀ (x3 : Int), x3 = x2.tmod (2 : Int) → InR IntKind.i64 x3 → ((x3 == (0 : Int)) = true → ∀ (x4 : Int), x4 = IntKind.i64.wrap (i + (1 : Int)) → InR IntKind.i64 x4 → Same Tryd.f39 (7 : Nat) (itemsOf Tryd.f39 (7 : Nat)) ∧ Q (7 : Nat) [Pv.z w, Pv.z c, Pv.z x4, Pv.l a, Pv.l l]) ∧ ((x3 == (0 : Int)) = false → Need ((0 : Int) ≤ i) ∧ Need (i ≤ (4096 : Int)) ∧ Need ((0 : Int) ≤ w) ∧ Need (w ≤ (12 : Int)) ∧ ∀ (x5 : Int), x5 = winL (val4 a) i w → InR IntKind.i64 x5 → ∀ (x6 : Int), x6 = IntKind.i64.wrap (x5 + c) → InR IntKind.i64 x6 → ∀ (x7 : Int), x7 = IntKind.i64.wrap (w - (1 : Int)) → InR IntKind.i64 x7 → Need ((0 : Int) ≤ x7) ∧ ∀ (x8 : Int), x8 = shlI IntKind.i64 (1 : Int) x7 → InR IntKind.i64 x8 → (decide (x6 ≥ x8) = true → Need ((0 : Int) ≤ w) ∧ ∀ (x9 : Int), x9 = shlI IntKind.i64 (1 : Int) w → InR IntKind.i64 x9 → ∀ (x10 : Int), x10 = IntKind.i64.wrap (x6 - x9) → InR IntKind.i64 x10 → Need ((0 : Int) ≤ i ∧ i < (254 : Int)) ∧ Need ((0 : Int) ≤ i ∧ i < ↑l.length) ∧ ∀ (x11 : List Int), x11 = l.set i.toNat x10 → AllR IntKind.i64 x11 → ∀ (x12 : Int), x12 = IntKind.i64.wrap (i + w) → InR IntKind.i64 x12 → Same Tryd.f39 (7 : Nat) (itemsOf Tryd.f39 (7 : Nat)) ∧ Q (7 : Nat) [Pv.z w, Pv.z (1 : Int), Pv.z x12, Pv.l a, Pv.l x11]) ∧ (decide (x6 ≥ x8) = false → Need ((0 : Int) ≤ i ∧ i < (254 : Int)) ∧ Need ((0 : Int) ≤ i ∧ i < ↑l.length) ∧ ∀ (x13 : List Int), x13 = l.set i.toNat x6 → AllR IntKind.i64 x13 → ∀ (x14 : Int), x14 = IntKind.i64.wrap (i + w) → InR IntKind.i64 x14 → Same Tryd.f39 (7 : Nat) (itemsOf Tryd.f39 (7 : Nat)) ∧ Q (7 : Nat) [Pv.z w, Pv.z (0 : Int), Pv.z x14, Pv.l a, Pv.l x13]))) ∧ (decide (i ≤ (253 : Int)) = false → Need ((254 : Int) ≤ ↑l.length) ∧ K (List.take (254 : Nat) (List.drop (0 : Nat) l)) [SV.i IntKind.i64 { st := true, z := (0 : Int) }])) := by
  intros
  kernel_rfl

theorem round39 {w c i n : Int} {a l : List Int} {m : Nat} {K : List Int → List SV → Prop} {Q : Nat → List Pv → Prop} (hw : 2 ≤ w ∧ w ≤ 8) (hi : 0 ≤ i ∧ i ≤ 253) (hc : c = 0 ∨ c = 1) (ha : val4 a = n) (hl : l.length = 254)
    (h : ∀ c' i' l', (c' = 0 ∨ c' = 1) → i + 1 ≤ i' ∧ i' ≤ i + 8 → l'.length = 254 → nfs n w (m + 1) i c l = nfs n w m i' c' l' → Q 7 [.z w, .z c', .z i', .l a, .l l']) : lc39 w c i a l K Q := by
  have h1b := win1_bd n i
  have hwb := win_bd n i (w := w) (by omega)
  have hp := p2_bd (w := w) (by omega)
  have hp1 := p2_bd (w := w - 1) (by omega)
  rw [lc39_eq]
  refine ⟨fun _ => ⟨need_of hi.1, need_of (by omega), need_of (by omega), need_of (by omega), fun x1 e1 r1 x2 e2 r2 x3 e3 r3 => ?_⟩, fun hn => by have := of_decide_eq_false hn; omega⟩
  rw [ha] at e1
  rw [wrap_i64 (by omega)] at e2
  have f3 : x3 = (winL n i 1 + c) % 2 := by rw [e3, Int.tmod_eq_emod_of_nonneg (by omega), e2, e1]
  have hwi : IntKind.i64.wrap (i + w) = i + w := wrap_i64 (by omega)
  refine ⟨fun h0 => ?_, fun h0 => ?_⟩
  · have h0 : x3 = 0 := by simpa using h0
    intro x4 e4 r4
    refine ⟨rfl, ?_⟩
    rw [e4, wrap_i64 (by omega)]
    refine h c (i + 1) l hc (by omega) hl ?_
    rw [nfs, if_pos hi.2, if_pos (by omega)]
  · have h0 : ¬ x3 = 0 := by simpa using h0
    refine ⟨need_of hi.1, need_of (by omega), need_of (by omega), need_of (by omega), fun x5 e5 r5 x6 e6 r6 x7 e7 r7 => ?_⟩
    rw [ha] at e5
    rw [wrap_i64 (by omega)] at e6 e7
    refine ⟨need_of (by omega), fun x8 e8 r8 => ?_⟩
    rw [e7, shl_p2 (by omega)] at e8
    refine ⟨fun hg => ?_, fun hg => ?_⟩
    · have hg := of_decide_eq_true hg
      refine ⟨need_of (by omega), fun x9 e9 r9 x10 e10 r10 => ⟨need_of (by omega), need_of (by omega), fun x11 e11 _ x12 e12 _ => ⟨rfl, ?_⟩⟩⟩
      rw [shl_p2 (by omega)] at e9
      rw [wrap_i64 (by omega)] at e10
      rw [e12, hwi, e11]
      refine h 1 (i + w) _ (.inr rfl) (by omega) (by simpa using hl) ?_
      rw [nfs, if_pos hi.2, if_neg (by omega), if_pos (by omega), e10, e6, e5, e9]
    · have hg := of_decide_eq_false hg
      refine ⟨need_of (by omega), need_of (by omega), fun x13 e13 _ x14 e14 _ => ⟨rfl, ?_⟩⟩
      rw [e14, hwi, e13]
      refine h 0 (i + w) _ (.inl rfl) (by omega) (by simpa using hl) ?_
      rw [nfs, if_pos hi.2, if_neg (by omega), if_neg (by omega), e6, e5]

def inv39 (n w : Int) (a : List Int) (key : Nat) (ps : List Pv) (m : Nat) : Prop :=
  key = 7 ∧ (2 ≤ w ∧ w ≤ 8) ∧ ∃ c i l, ps = [.z w, .z c, .z i, .l a, .l l] ∧ (0 ≤ i ∧ i ≤ 261) ∧ (c = 0 ∨ c = 1) ∧ l.length = 254 ∧ 255 ≤ (m : Int) + i ∧ nfs n w m i c l = nafL n w

def nafS : List SV → Option (List Prop × List Int × List SV)
  | [.arr .u64 4 _ l, .i .i64 w] => some ([], nafL (val4 l % ell) w.z, [.i .i64 ⟨false, nafE w.z⟩])
  | _ => none

set_option maxHeartbeats 1000000 in
theorem naf_ok : CallOk Tryd.prog gh 39 (freshCtr .i64 nafS) := by
  refine call_fresh (fn := Tryd.f39) Γ19_ok rfl (by kernel_rfl) (by kernel_rfl) (by kernel_rfl) nafS fun args P0 l0 r0 hs hp hf => ?_
  unfold nafS at hs
  split at hs
  · rename_i e1 l w
    simp only [Option.some.injEq, Prod.mk.injEq] at hs
    obtain ⟨rfl, rfl, rfl⟩ := hs
    simp only [FactVs, FactV] at hf
    obtain ⟨⟨hl, h1⟩, hw, _⟩ := hf
    obtain ⟨a0, a1, a2, a3, rfl⟩ := len4 hl
    obtain ⟨wT, w⟩ := w
    dsimp only at *
    have hn := val_mod (val4 [a0, a1, a2, a3])
    refine ⟨[.arr .u64 4 true [a0, a1, a2, a3], .i .i64 ⟨false, w⟩], L39, inv39 (val4 [a0, a1, a2, a3] % ell) w (words4 (val4 [a0, a1, a2, a3] % ell)), ⟨rfl, rfl, trivial⟩, Nat.le_of_ble_eq_true (by kernel_rfl), ?_, ?_, ?_⟩
    · intro k t ht g hg
      have hg : g ∈ keysOf gh := hg
      simp only [gh, keysOf, List.mem_singleton] at hg
      subst hg
      simp only [L39, List.mem_cons, List.not_mem_nil, or_false, Prod.mk.injEq] at ht
      obtain ⟨rfl, rfl⟩ := ht
      exact ⟨by omega, rfl⟩
    · rintro vk t ps m ht ⟨rfl, hwr, c, i, l, rfl, hi, hc, hlen, hmi, hfull⟩
      simp only [L39, List.mem_cons, List.not_mem_nil, or_false, Prod.mk.injEq, true_and] at ht
      subst ht
      show lc39 w c i (words4 (val4 [a0, a1, a2, a3] % ell)) l _ _
      rcases Int.lt_or_le 253 i with hgt | hle
      · rw [lc39_eq]
        refine ⟨fun h => by have := of_decide_eq_true h; omega, fun _ => ⟨need_of (by omega), ?_, ?_, trivial⟩⟩
        · have : nfs (val4 [a0, a1, a2, a3] % ell) w m i c l = l := by
            cases m with
            | zero => rfl
            | succ m => rw [nfs, if_neg (by omega)]
          rw [← hfull, this, List.drop_zero, List.take_of_length_le (by omega)]
        · show 0 = nafE w
          unfold nafE; rw [if_neg (by omega)]
      · obtain ⟨m', rfl⟩ : ∃ m', m = m' + 1 := ⟨m - 1, by omega⟩
        exact round39 (m := m') hwr ⟨hi.1, hle⟩ hc hn.1 hlen fun c' i' l' hc' hi' hl' hs' => ⟨m', by omega, rfl, hwr, c', i', l', rfl, by omega, hc', hl', by omega, by rw [← hs', hfull]⟩
    · show vc39 a0 a1 a2 a3 w _ _
      rw [vc39_eq, ← ell_lit]
      refine ⟨fun h => ?_, fun h => ⟨fun h' => ?_, fun h' => ?_⟩⟩
      · have h := of_decide_eq_true h
        exact ⟨by unfold nafL; rw [if_pos (by omega)], by show 1 = nafE w; unfold nafE; rw [if_pos (by omega)], trivial⟩
      · have h' := of_decide_eq_true h'
        exact ⟨by unfold nafL; rw [if_pos (by omega)], by show 1 = nafE w; unfold nafE; rw [if_pos (by omega)], trivial⟩
      · have h := of_decide_eq_false h
        have h' := of_decide_eq_false h'
        intro x1 e1 _ x2 e2 _ x3 e3 _ x4 e4 _
        refine ⟨need_of (by omega), fun x5 e5 _ => ⟨rfl, 255, rfl, ⟨by omega, by omega⟩, 0, 0, x5, ?_, ⟨by omega, by omega⟩, .inl rfl, ?_, by omega, ?_⟩⟩
        · rw [e1, e2, e3, e4]; rfl
        · rw [e5, List.length_replicate]
        · rw [e5]
          unfold nafL; rw [if_neg (by omega)]
  · cases hs

def Γ20 : Tab := ⟨tys, [(27, freshCtr .i64 digS), (39, freshCtr .i64 nafS)] ++ Γ19.ctr, [0], gh⟩
theorem Γ20_ok : TabOk Tryd.prog Γ20 := (Γ19_ok.cons naf_ok).cons dig_ok
end Go.Gx

/- Lists held against each other; a number and the order. -/
namespace Go.Gx
open Go.Proofs Go.Sp
open Go.Sp (prI mlL adL sbL pwL halfI)
set_option linter.unusedVariables false

def L30 : Loops := [(4, ⟨[.sl 500 0 1 ⟨true, 0⟩ ⟨false, 0⟩, .sl 501 0 1 ⟨true, 0⟩ ⟨false, 0⟩, .any, .any, .any, .i .i64 ⟨false, 0⟩] ++ reps .any 20, gh ++ [(500, .segs true [.rowI .i64 []]), (501, .segs true [.rowI .i64 []])], 1006⟩)]
def vc30 (l m : List Int) (K : SV → Prop) (Q : Nat → List Pv → Prop) : Prop := fnVc Γ20 Tryd.f30 L30 [.sl 500 0 1 ⟨true, 0⟩ ⟨false, (l.length : Int)⟩, .sl 501 0 1 ⟨true, 0⟩ ⟨false, (m.length : Int)⟩] (gh ++ [(500, .segs true [.rowI .i64 l]), (501, .segs true [.rowI .i64 m])]) K Q
def lc30 (n k i : Int) (l m : List Int) (K : SV → Prop) (Q : Nat → List Pv → Prop) : Prop := loopVc Γ20 Tryd.f30 L30 4 [.z n, .z k, .z i, .l l, .l m] K Q
theorem vc30_eq : ∀ (l m : List Int) (K : SV → Prop) (Q : Nat → List Pv → Prop), vc30 l m K Q = ((((l.length : Int) != (m.length : Int)) = true → K (SV.b true false)) ∧ (((l.length : Int) != (m.length : Int)) = false → Same Tryd.f30 (4 : Nat) (itemsOf Tryd.f30 (4 : Nat)) ∧ Q (4 : Nat) [Pv.z ↑l.length, Pv.z ↑m.length, Pv.z (0 : Int), Pv.l l, Pv.l m])) := by
  intros
  kernel_rfl
theorem lc30_eq : ∀ (n k i : Int) (l m : List Int) (K : SV → Prop) (Q : Nat → List Pv → Prop), lc30 n k i l m K Q = ((decide (i < n) = true → Need ((0 : Int) ≤ i ∧ i < n) ∧ Need ((0 : Int) ≤ i ∧ i < ↑l.length) ∧ ∀ (x1 : Int), x1 = l.getD i.toNat (0 : Int) → InR IntKind.i64 x1 → Need ((0 : Int) ≤ i ∧ i < k) ∧ Need ((0 : Int) ≤ i ∧ i < ↑m.length) ∧ ∀ (x2 : Int), x2 = m.getD i.toNat (0 : Int) → InR IntKind.i64 x2 → ((x1 != x2) = true → K (SV.b true false)) ∧ ((x1 != x2) = false → ∀ (x3 : Int), x3 = IntKind.i64.wrap (i + (1 : Int)) → InR IntKind.i64 x3 → Same Tryd.f30 (4 : Nat) (itemsOf Tryd.f30 (4 : Nat)) ∧ Q (4 : Nat) [Pv.z n, Pv.z k, Pv.z x3, Pv.l l, Pv.l m])) ∧ (decide (i < n) = false → K (SV.b true true))) := by
  intros
  kernel_rfl

def intsS : List RA → Option (List Prop × SV)
  | [.c (.ints .i64 l), .c (.ints .i64 m)] => some ([], .b false (l == m))
  | _ => none
def inv30 (l m : List Int) (key : Nat) (ps : List Pv) (n : Nat) : Prop :=
  key = 4 ∧ ∃ i : Nat, ps = [.z (l.length : Int), .z (m.length : Int), .z (i : Int), .l l, .l m] ∧ l.length = m.length ∧ n + i = l.length ∧ (l == m) = (l.drop i == m.drop i)

theorem ints_ok : CallOk Tryd.prog gh 30 (readCtr [true, true] intsS) := by
  refine call_read (fn := Tryd.f30) Γ20_ok rfl (fun g hg => by simp [Γ20, gh, keysOf] at hg; omega) (by kernel_rfl) (by kernel_rfl) (by kernel_rfl) [true, true] intsS fun ras p y hs hp hv hq => ?_
  unfold intsS at hs
  split at hs
  · rename_i l m
    simp only [Option.some.injEq, Prod.mk.injEq] at hs
    obtain ⟨rfl, rfl⟩ := hs
    have hlen : (l.length : Int) < 9223372036854775808 := (hq (.ints .i64 l) (by simp)).2
    have hlen' : (m.length : Int) < 9223372036854775808 := (hq (.ints .i64 m) (by simp)).2
    refine ⟨[.sl 500 0 1 ⟨true, 0⟩ ⟨false, (l.length : Int)⟩, .sl 501 0 1 ⟨true, 0⟩ ⟨false, (m.length : Int)⟩], L30, inv30 l m, ⟨rfl, rfl, trivial⟩, Nat.le_of_ble_eq_true (by kernel_rfl), ?_, ?_, ?_⟩
    · intro k t ht g hg
      simp only [L30, List.mem_singleton, Prod.mk.injEq] at ht
      obtain ⟨rfl, rfl⟩ := ht
      have hg : g ∈ [0, 500, 501] := hg
      simp only [List.mem_cons, List.not_mem_nil, or_false] at hg
      rcases hg with rfl | rfl | rfl <;> exact ⟨by omega, rfl⟩
    · rintro key ps n ⟨rfl, i, rfl, hlm, hn, hd⟩
      show lc30 (l.length : Int) (m.length : Int) (i : Int) l m _ _
      rw [lc30_eq]
      refine ⟨fun h => ?_, fun h => ?_⟩
      · have h := of_decide_eq_true h
        have hi : i < l.length := by omega
        have hi' : i < m.length := by omega
        refine ⟨need_of (by omega), need_of (by omega), fun x1 e1 _ => ⟨need_of (by omega), need_of (by omega), fun x2 e2 _ => ?_⟩⟩
        have f1 : x1 = l[i] := by rw [e1]; simp [hi]
        have f2 : x2 = m[i] := by rw [e2]; simp [hi']
        rw [List.drop_eq_getElem_cons hi, List.drop_eq_getElem_cons hi', ← f1, ← f2] at hd
        refine ⟨fun hne => ?_, fun heq => ?_⟩
        · have hne : ¬ x1 = x2 := by simpa using hne
          show false = (l == m)
          rw [hd]; simp [hne]
        · have heq : x1 = x2 := by simpa using heq
          intro x3 e3 _
          refine ⟨rfl, n - 1, by omega, rfl, i + 1, ?_, hlm, by omega, ?_⟩
          · rw [e3, wrap_i64 (by omega)]; rfl
          · rw [hd]; simp [heq]
      · have h := of_decide_eq_false h
        show true = (l == m)
        rw [hd, List.drop_eq_nil_of_le (by omega), List.drop_eq_nil_of_le (by omega)]; rfl
    · show vc30 l m _ _
      rw [vc30_eq]
      refine ⟨fun h => ?_, fun h => ?_⟩
      · have hne : ¬ (l.length : Int) = m.length := by simpa using h
        show false = (l == m)
        symm
        rw [beq_eq_false_iff_ne]
        intro e; rw [e] at hne; exact hne rfl
      · have he : (l.length : Int) = m.length := by simpa using h
        exact ⟨rfl, l.length, rfl, 0, rfl, by omega, by omega, rfl⟩
  · cases hs

/-- One limb of a sum by halves. -/
theorem limb {a p c x5 x6 x7 x8 x9 x10 x11 x12 x13 x14 x15 x16 x17 : Int} (ha : InR .u64 a) (hp : InR .u64 p) (hc : 0 ≤ c ∧ c ≤ 1) (e5 : x5 = andI .u64 a 4294967295) (e6 : x6 = andI .u64 p 4294967295) (e7 : x7 = IntKind.u64.wrap (x5 + x6)) (e8 : x8 = IntKind.u64.wrap (x7 + c)) (r8 : InR .u64 x8)
    (e9 : x9 = shrI .u64 a 32) (e10 : x10 = shrI .u64 p 32) (e11 : x11 = IntKind.u64.wrap (x9 + x10)) (e12 : x12 = shrI .u64 x8 32) (e13 : x13 = IntKind.u64.wrap (x11 + x12)) (e14 : x14 = andI .u64 x8 4294967295) (r14 : InR .u64 x14) (e15 : x15 = shlI .u64 x13 32) (r15 : InR .u64 x15) (e16 : x16 = orI .u64 x14 x15) (e17 : x17 = shrI .u64 x13 32) :
    a + p + c = x16 + 18446744073709551616 * x17 ∧ 0 ≤ x17 ∧ x17 ≤ 1 := by
  rw [and32 ha] at e5
  rw [and32 hp] at e6
  rw [and32 r8] at e14
  rw [shr32] at e9 e10 e12 e17
  rw [wrap_u64] at e7 e8 e11 e13
  rw [shl32] at e15
  have hz : x15 = x13 % 4294967296 * 4294967296 := by rw [e15]; omega
  have h14 : x14 < 4294967296 := by omega
  rw [orI_comm] at e16
  rw [or32 r15 r14 hz h14] at e16
  simp only [InR] at ha hp
  omega

def Γ21 : Tab := ⟨tys, [(30, readCtr [true, true] intsS)] ++ Γ20.ctr, [0], gh⟩
theorem Γ21_ok : TabOk Tryd.prog Γ21 := Γ20_ok.cons ints_ok
end Go.Gx

/- Signed digits of the document. -/
namespace Go.Gx
open Go.Proofs Go.Sp
open Go.Sp (prI mlL adL sbL pwL halfI)
set_option linter.unusedVariables false

theorem assoc_of_mem {vk : Nat} : ∀ {L : Loops} {a : St}, (L.map (·.1)).Nodup → (vk, a) ∈ L → assoc L vk = some a
  | [], a, _, h => by cases h
  | (x1, x2) :: r, a, hn, h => by
    rw [List.map_cons] at hn
    obtain ⟨h5, h6⟩ := List.nodup_cons.1 hn
    simp only [assoc]
    rcases List.mem_cons.1 h with e | h
    · simp only [Prod.mk.injEq] at e
      obtain ⟨rfl, rfl⟩ := e
      simp
    · have hne : x1 ≠ vk := fun e => h5 (by rw [e]; exact List.mem_map.2 ⟨_, h, rfl⟩)
      have : Nat.beq x1 vk = false := by
        rw [← Bool.not_eq_true]; intro hb; exact hne (Nat.eq_of_beq_eq_true hb)
      rw [this]
      exact assoc_of_mem h6 h
theorem loopI_of {Γ : Tab} {fn : Func} {L : Loops} {vk : Nat} {t : St} {ps : List Pv} {k : IntKind} {K : List Int → List SV → Prop} {Q : Nat → List Pv → Prop} (nd : (L.map (·.1)).Nodup) (ht : (vk, t) ∈ L) (h : loopVcI Γ fn L vk ps k K Q) :
    runLoop Γ fn (loopKeysM L) (vk % 1000) (instSt t ps) (fun x h' => kvI k x h' K) (handM L Q) := by
  unfold loopVcI at h
  rw [assoc_of_mem nd ht] at h
  exact h
theorem win_zero (n i : Int) : winL n i 0 = 0 := by
  unfold winL
  show n / _ % ((1 : Nat) : Int) = 0
  omega
theorem win_bit {n i j : Int} (hn : 0 ≤ n ∧ n < 115792089237316195423570985008687907853269984665640564039457584007913129639936) (hi : 0 ≤ i) (hj : 0 ≤ j) : winL n i (j + 1) = winL n i j + bitI n (i + j) * p2 j := by
  obtain ⟨N, rfl⟩ := Int.eq_ofNat_of_zero_le hn.1
  obtain ⟨I, rfl⟩ := Int.eq_ofNat_of_zero_le hi
  obtain ⟨J, rfl⟩ := Int.eq_ofNat_of_zero_le hj
  unfold winL p2
  rw [show (J : Int) + 1 = ((J + 1 : Nat) : Int) by omega, show (I : Int) + J = ((I + J : Nat) : Int) by omega]
  simp only [Int.toNat_natCast]
  have hb : bitI (N : Int) ((I + J : Nat) : Int) = ((N / 2 ^ I / 2 ^ J % 2 : Nat) : Int) := by
    unfold bitI
    rw [Nat.div_div_eq_div_mul, ← Nat.pow_add]
    by_cases h : I + J < 256
    · rw [if_pos (by omega), Int.toNat_natCast]; norm_cast
    · rw [if_neg (by omega)]
      have h3 : (2 : Nat) ^ 256 ≤ 2 ^ (I + J) := Nat.pow_le_pow_right (by omega) (by omega)
      have h4 : N < 2 ^ 256 := by have := hn.2; omega
      rw [Nat.div_eq_of_lt (by omega)]; rfl
  rw [hb]
  have := Nat.mod_pow_succ (b := 2) (x := N / 2 ^ I) (k := J)
  rw [Nat.mul_comm (2 ^ J)] at this
  exact_mod_cast this
theorem bit_win {n i : Int} (hn : 0 ≤ n ∧ n < 115792089237316195423570985008687907853269984665640564039457584007913129639936) (hi : 0 ≤ i) : bitI n i = winL n i 1 := by
  have := win_bit hn hi (j := 0) (by omega)
  rw [win_zero, Int.add_zero, show (0 : Int) + 1 = 1 from rfl, show p2 0 = 1 from rfl] at this
  omega
theorem bit_01 (n i : Int) : bitI n i = 0 ∨ bitI n i = 1 := by
  unfold bitI
  split <;> omega
theorem shl_bit {b j : Int} (hb : b = 0 ∨ b = 1) (h : 0 ≤ j ∧ j ≤ 12) : shlI .i64 b j = b * p2 j := by
  rcases hb with rfl | rfl
  · have : shlI .i64 0 j = IntKind.i64.wrap (0 * 2 ^ min j.toNat 64) := rfl
    rw [this, Int.zero_mul, Int.zero_mul]; rfl
  · rw [shl_p2 h, Int.one_mul]
theorem win_odd {n i w : Int} (hw : 1 ≤ w) : winL n i w % 2 = winL n i 1 := by
  obtain ⟨W, rfl⟩ := Int.eq_ofNat_of_zero_le (show 0 ≤ w by omega)
  unfold winL
  rw [Int.toNat_natCast]
  have hd : (2 : Int) ∣ ((2 ^ W : Nat) : Int) := by
    refine ⟨((2 ^ (W - 1) : Nat) : Int), ?_⟩
    have : 2 ^ W = 2 * 2 ^ (W - 1) := by rw [← Nat.pow_succ']; congr 1; omega
    rw [this]; norm_cast
  rw [Int.emod_emod_of_dvd _ hd]
  rfl
theorem win_mono {n i w : Int} (hn : 0 ≤ n ∧ n < 115792089237316195423570985008687907853269984665640564039457584007913129639936) (hi : 0 ≤ i) (hw : 0 ≤ w ∧ w ≤ 12) : 0 ≤ winL n i w ∧ winL n i w ≤ 4096 := by
  have := win_bd n i hw
  have := p2_bd hw
  omega

def L29 : Loops := [(6, ⟨[.any, .i .i64 ⟨false, 0⟩, .p 1000 0, .any, .any, .any, .nsl, .i .i64 ⟨false, 0⟩, .i .i64 ⟨false, 0⟩] ++ reps .any 47, gh ++ [(1000, .segs false [.arr .u64 4 false []])], 1018⟩),
  (1006, ⟨[.any, .i .i64 ⟨false, 0⟩, .p 1000 0, .any, .any, .any, .sl 1001 0 1 ⟨true, 0⟩ ⟨false, 0⟩, .i .i64 ⟨false, 0⟩, .i .i64 ⟨false, 0⟩] ++ reps .any 47, gh ++ [(1000, .segs false [.arr .u64 4 false []]), (1001, .segs false [.rowI .i64 []])], 1018⟩),
  (10, ⟨[.any, .i .i64 ⟨false, 0⟩, .p 1000 0, .any, .any, .any, .nsl, .any, .i .i64 ⟨false, 0⟩, .i .i64 ⟨false, 0⟩, .i .i64 ⟨false, 0⟩] ++ reps .any 45, gh ++ [(1000, .segs false [.arr .u64 4 false []])], 1018⟩),
  (1010, ⟨[.any, .i .i64 ⟨false, 0⟩, .p 1000 0, .any, .any, .any, .sl 1001 0 1 ⟨true, 0⟩ ⟨false, 0⟩, .any, .i .i64 ⟨false, 0⟩, .i .i64 ⟨false, 0⟩, .i .i64 ⟨false, 0⟩] ++ reps .any 45, gh ++ [(1000, .segs false [.arr .u64 4 false []]), (1001, .segs false [.rowI .i64 []])], 1018⟩)]
def vc29 (a0 a1 a2 a3 x : Int) (K : List Int → List SV → Prop) (Q : Nat → List Pv → Prop) : Prop := fnVcI Γ21 Tryd.f29 L29 [.arr .u64 4 true [a0, a1, a2, a3], .i .i64 ⟨false, x⟩] gh .i64 K Q
def lc29a (w c k : Int) (a : List Int) (K : List Int → List SV → Prop) (Q : Nat → List Pv → Prop) : Prop := loopVcI Γ21 Tryd.f29 L29 6 [.z w, .z c, .z k, .l a] .i64 K Q
def lc29b (w len c k : Int) (a l : List Int) (K : List Int → List SV → Prop) (Q : Nat → List Pv → Prop) : Prop := loopVcI Γ21 Tryd.f29 L29 1006 [.z w, .z len, .z c, .z k, .l a, .l l] .i64 K Q
def lc29c (w k v j : Int) (a : List Int) (K : List Int → List SV → Prop) (Q : Nat → List Pv → Prop) : Prop := loopVcI Γ21 Tryd.f29 L29 10 [.z w, .z k, .z v, .z j, .l a] .i64 K Q
def lc29d (w len k v j : Int) (a l : List Int) (K : List Int → List SV → Prop) (Q : Nat → List Pv → Prop) : Prop := loopVcI Γ21 Tryd.f29 L29 1010 [.z w, .z len, .z k, .z v, .z j, .l a, .l l] .i64 K Q
def L40 : Loops := [(6, ⟨[.any, .i .i64 ⟨false, 0⟩, .p 1000 0, .any, .any, .any, .sl 1012 0 1 ⟨true, 0⟩ ⟨true, 254⟩, .i .i64 ⟨false, 0⟩, .i .i64 ⟨false, 0⟩] ++ reps .any 58, gh ++ [(1000, .segs false [.arr .u64 4 false []]), (1012, .segs false [.rowI .i64 []])], 1018⟩),
  (12, ⟨[.any, .i .i64 ⟨false, 0⟩, .p 1000 0, .any, .any, .any, .sl 1012 0 1 ⟨true, 0⟩ ⟨true, 254⟩, .any, .i .i64 ⟨false, 0⟩, .i .i64 ⟨false, 0⟩, .i .i64 ⟨false, 0⟩] ++ reps .any 56, gh ++ [(1000, .segs false [.arr .u64 4 false []]), (1012, .segs false [.rowI .i64 []])], 1018⟩)]
def vc40 (a0 a1 a2 a3 x : Int) (K : List Int → List SV → Prop) (Q : Nat → List Pv → Prop) : Prop := fnVcI Γ21 Tryd.f40 L40 [.arr .u64 4 true [a0, a1, a2, a3], .i .i64 ⟨false, x⟩] gh .i64 K Q
def lc40a (w c i : Int) (a l : List Int) (K : List Int → List SV → Prop) (Q : Nat → List Pv → Prop) : Prop := loopVcI Γ21 Tryd.f40 L40 6 [.z w, .z c, .z i, .l a, .l l] .i64 K Q
def lc40b (w i v j : Int) (a l : List Int) (K : List Int → List SV → Prop) (Q : Nat → List Pv → Prop) : Prop := loopVcI Γ21 Tryd.f40 L40 12 [.z w, .z i, .z v, .z j, .l a, .l l] .i64 K Q
theorem vc29_eq : ∀ (a0 a1 a2 a3 x : Int) (K : List Int → List SV → Prop) (Q : Nat → List Pv → Prop), vc29 a0 a1 a2 a3 x K Q = ((decide (x < (1 : Int)) = true → K [] [SV.i IntKind.i64 { st := true, z := (1 : Int) }]) ∧ (decide (x < (1 : Int)) = false → (decide (x > (12 : Int)) = true → K [] [SV.i IntKind.i64 { st := true, z := (1 : Int) }]) ∧ (decide (x > (12 : Int)) = false → Same Tryd.f29 (6 : Nat) (itemsOf Tryd.f29 (6 : Nat)) ∧ Q (6 : Nat) [Pv.z x, Pv.z (0 : Int), Pv.z (0 : Int), Pv.l [a0, a1, a2, a3]]))) := by
  intros
  kernel_rfl

theorem lc29a_eq : ∀ (w c k : Int) (a : List Int) (K : List Int → List SV → Prop) (Q : Nat → List Pv → Prop), lc29a w c k a K Q = (Need (w ≠ (0 : Int)) ∧ ∀ (x1 : Int), x1 = IntKind.i64.wrap (Int.tdiv (253 : Int) w) → InR IntKind.i64 x1 → ∀ (x2 : Int), x2 = IntKind.i64.wrap (x1 + (1 : Int)) → InR IntKind.i64 x2 → (decide (k < x2) = true → ∀ (x3 : Int), x3 = IntKind.i64.wrap (w - (1 : Int)) → InR IntKind.i64 x3 → Same Tryd.f29 (10 : Nat) (itemsOf Tryd.f29 (10 : Nat)) ∧ Q (10 : Nat) [Pv.z w, Pv.z k, Pv.z c, Pv.z x3, Pv.l a]) ∧ (decide (k < x2) = false → K [] [SV.i IntKind.i64 { st := true, z := (0 : Int) }])) := by
  intros
  kernel_rfl

theorem lc29b_eq : ∀ (w len c k : Int) (a l : List Int) (K : List Int → List SV → Prop) (Q : Nat → List Pv → Prop), lc29b w len c k a l K Q = (Need (w ≠ (0 : Int)) ∧ ∀ (x1 : Int), x1 = IntKind.i64.wrap (Int.tdiv (253 : Int) w) → InR IntKind.i64 x1 → ∀ (x2 : Int), x2 = IntKind.i64.wrap (x1 + (1 : Int)) → InR IntKind.i64 x2 → (decide (k < x2) = true → ∀ (x3 : Int), x3 = IntKind.i64.wrap (w - (1 : Int)) → InR IntKind.i64 x3 → Same Tryd.f29 (10 : Nat) (itemsOf Tryd.f29 (10 : Nat)) ∧ Q (1010 : Nat) [Pv.z w, Pv.z len, Pv.z k, Pv.z c, Pv.z x3, Pv.l a, Pv.l l]) ∧ (decide (k < x2) = false → Need ((0 : Int) + len ≤ ↑l.length) ∧ K (List.take len.toNat (List.drop (0 : Nat) l)) [SV.i IntKind.i64 { st := true, z := (0 : Int) }])) := by
  intros
  kernel_rfl

theorem lc29c_eq : ∀ (w k v j : Int) (a : List Int) (K : List Int → List SV → Prop) (Q : Nat → List Pv → Prop), lc29c w k v j a K Q = ((decide (j ≥ (0 : Int)) = true → ∀ (x1 : Int), x1 = IntKind.i64.wrap (w * k) → InR IntKind.i64 x1 → ∀ (x2 : Int), x2 = IntKind.i64.wrap (x1 + j) → InR IntKind.i64 x2 → ∀ (x3 : Int), x3 = bitI (val4 a) x2 → InR IntKind.i64 x3 → Need ((0 : Int) ≤ j) ∧ ∀ (x4 : Int), x4 = shlI IntKind.i64 x3 j → InR IntKind.i64 x4 → ∀ (x5 : Int), x5 = IntKind.i64.wrap (v + x4) → InR IntKind.i64 x5 → ∀ (x6 : Int), x6 = IntKind.i64.wrap (j - (1 : Int)) → InR IntKind.i64 x6 → Same Tryd.f29 (10 : Nat) (itemsOf Tryd.f29 (10 : Nat)) ∧ Q (10 : Nat) [Pv.z w, Pv.z k, Pv.z x5, Pv.z x6, Pv.l a]) ∧ (decide (j ≥ (0 : Int)) = false → ∀ (x7 : Int), x7 = IntKind.i64.wrap (w - (1 : Int)) → InR IntKind.i64 x7 → Need ((0 : Int) ≤ x7) ∧ ∀ (x8 : Int), x8 = shlI IntKind.i64 (1 : Int) x7 → InR IntKind.i64 x8 → (decide (v > x8) = true → Need ((0 : Int) ≤ w) ∧ ∀ (x9 : Int), x9 = shlI IntKind.i64 (1 : Int) w → InR IntKind.i64 x9 → ∀ (x10 : Int), x10 = IntKind.i64.wrap (v - x9) → InR IntKind.i64 x10 → Need (↑([] ++ List.take (1 : Nat) (List.drop (0 : Nat) [x10])).length * (8 : Int) ≤ (70368744177664 : Int)) ∧ Need ((1 : Int) ≤ ↑[x10].length) ∧ ∀ (x11 : List Int), x11 = [] ++ List.take (1 : Nat) (List.drop (0 : Nat) [x10]) → AllR IntKind.i64 x11 → ∀ (x12 : Int), x12 = ↑([] ++ List.take (1 : Nat) (List.drop (0 : Nat) [x10])).length → (0 : Int) ≤ x12 → InR IntKind.i64 x12 → ∀ (x13 : Int), x13 = IntKind.i64.wrap (k + (1 : Int)) → InR IntKind.i64 x13 → Same Tryd.f29 (6 : Nat) (itemsOf Tryd.f29 (6 : Nat)) ∧ Q (1006 : Nat) [Pv.z w, Pv.z x12, Pv.z (1 : Int), Pv.z x13, Pv.l a, Pv.l x11]) ∧ (decide (v > x8) = false → Need (↑([] ++ List.take (1 : Nat) (List.drop (0 : Nat) [v])).length * (8 : Int) ≤ (70368744177664 : Int)) ∧ Need ((1 : Int) ≤ ↑[v].length) ∧ ∀ (x14 : List Int), x14 = [] ++ List.take (1 : Nat) (List.drop (0 : Nat) [v]) → AllR IntKind.i64 x14 → ∀ (x15 : Int), x15 = ↑([] ++ List.take (1 : Nat) (List.drop (0 : Nat) [v])).length → (0 : Int) ≤ x15 → InR IntKind.i64 x15 → ∀ (x16 : Int), x16 = IntKind.i64.wrap (k + (1 : Int)) → InR IntKind.i64 x16 → Same Tryd.f29 (6 : Nat) (itemsOf Tryd.f29 (6 : Nat)) ∧ Q (1006 : Nat) [Pv.z w, Pv.z x15, Pv.z (0 : Int), Pv.z x16, Pv.l a, Pv.l x14]))) := by
  intros
  kernel_rfl

theorem lc29d_eq : ∀ (w len k v j : Int) (a l : List Int) (K : List Int → List SV → Prop) (Q : Nat → List Pv → Prop), lc29d w len k v j a l K Q = ((decide (j ≥ (0 : Int)) = true → ∀ (x1 : Int), x1 = IntKind.i64.wrap (w * k) → InR IntKind.i64 x1 → ∀ (x2 : Int), x2 = IntKind.i64.wrap (x1 + j) → InR IntKind.i64 x2 → ∀ (x3 : Int), x3 = bitI (val4 a) x2 → InR IntKind.i64 x3 → Need ((0 : Int) ≤ j) ∧ ∀ (x4 : Int), x4 = shlI IntKind.i64 x3 j → InR IntKind.i64 x4 → ∀ (x5 : Int), x5 = IntKind.i64.wrap (v + x4) → InR IntKind.i64 x5 → ∀ (x6 : Int), x6 = IntKind.i64.wrap (j - (1 : Int)) → InR IntKind.i64 x6 → Same Tryd.f29 (10 : Nat) (itemsOf Tryd.f29 (10 : Nat)) ∧ Q (1010 : Nat) [Pv.z w, Pv.z len, Pv.z k, Pv.z x5, Pv.z x6, Pv.l a, Pv.l l]) ∧ (decide (j ≥ (0 : Int)) = false → ∀ (x7 : Int), x7 = IntKind.i64.wrap (w - (1 : Int)) → InR IntKind.i64 x7 → Need ((0 : Int) ≤ x7) ∧ ∀ (x8 : Int), x8 = shlI IntKind.i64 (1 : Int) x7 → InR IntKind.i64 x8 → (decide (v > x8) = true → Need ((0 : Int) ≤ w) ∧ ∀ (x9 : Int), x9 = shlI IntKind.i64 (1 : Int) w → InR IntKind.i64 x9 → ∀ (x10 : Int), x10 = IntKind.i64.wrap (v - x9) → InR IntKind.i64 x10 → Need (↑(l ++ List.take (1 : Nat) (List.drop (0 : Nat) [x10])).length * (8 : Int) ≤ (70368744177664 : Int)) ∧ Need (len = ↑l.length) ∧ Need ((1 : Int) ≤ ↑[x10].length) ∧ ∀ (x11 : List Int), x11 = l ++ List.take (1 : Nat) (List.drop (0 : Nat) [x10]) → AllR IntKind.i64 x11 → ∀ (x12 : Int), x12 = ↑(l ++ List.take (1 : Nat) (List.drop (0 : Nat) [x10])).length → (0 : Int) ≤ x12 → InR IntKind.i64 x12 → ∀ (x13 : Int), x13 = IntKind.i64.wrap (k + (1 : Int)) → InR IntKind.i64 x13 → Same Tryd.f29 (6 : Nat) (itemsOf Tryd.f29 (6 : Nat)) ∧ Q (1006 : Nat) [Pv.z w, Pv.z x12, Pv.z (1 : Int), Pv.z x13, Pv.l a, Pv.l x11]) ∧ (decide (v > x8) = false → Need (↑(l ++ List.take (1 : Nat) (List.drop (0 : Nat) [v])).length * (8 : Int) ≤ (70368744177664 : Int)) ∧ Need (len = ↑l.length) ∧ Need ((1 : Int) ≤ ↑[v].length) ∧ ∀ (x14 : List Int), x14 = l ++ List.take (1 : Nat) (List.drop (0 : Nat) [v]) → AllR IntKind.i64 x14 → ∀ (x15 : Int), x15 = ↑(l ++ List.take (1 : Nat) (List.drop (0 : Nat) [v])).length → (0 : Int) ≤ x15 → InR IntKind.i64 x15 → ∀ (x16 : Int), x16 = IntKind.i64.wrap (k + (1 : Int)) → InR IntKind.i64 x16 → Same Tryd.f29 (6 : Nat) (itemsOf Tryd.f29 (6 : Nat)) ∧ Q (1006 : Nat) [Pv.z w, Pv.z x15, Pv.z (0 : Int), Pv.z x16, Pv.l a, Pv.l x14]))) := by
  intros
  kernel_rfl

theorem vc40_eq : ∀ (a0 a1 a2 a3 x : Int) (K : List Int → List SV → Prop) (Q : Nat → List Pv → Prop), vc40 a0 a1 a2 a3 x K Q = ((decide (x < (2 : Int)) = true → K [] [SV.i IntKind.i64 { st := true, z := (1 : Int) }]) ∧ (decide (x < (2 : Int)) = false → (decide (x > (8 : Int)) = true → K [] [SV.i IntKind.i64 { st := true, z := (1 : Int) }]) ∧ (decide (x > (8 : Int)) = false → Need ((0 : Int) ≤ (254 : Int) ∧ (254 : Int) ≤ (254 : Int) ∧ (2032 : Int) ≤ (70368744177664 : Int)) ∧ ∀ (x1 : List Int), x1 = List.replicate (254 : Nat) (0 : Int) → AllR IntKind.i64 x1 → Same Tryd.f40 (6 : Nat) (itemsOf Tryd.f40 (6 : Nat)) ∧ Q (6 : Nat) [Pv.z x, Pv.z (0 : Int), Pv.z (0 : Int), Pv.l [a0, a1, a2, a3], Pv.l x1]))) := by
  intros
  kernel_rfl

theorem lc40a_eq : ∀ (w c i : Int) (a l : List Int) (K : List Int → List SV → Prop) (Q : Nat → List Pv → Prop), lc40a w c i a l K Q = ((decide (i ≤ (253 : Int)) = true → ∀ (x1 : Int), x1 = bitI (val4 a) i → InR IntKind.i64 x1 → ∀ (x2 : Int), x2 = IntKind.i64.wrap (x1 + c) → InR IntKind.i64 x2 → ∀ (x3 : Int), x3 = x2.tmod (2 : Int) → InR IntKind.i64 x3 → ((x3 == (0 : Int)) = true → ∀ (x4 : Int), x4 = bitI (val4 a) i → InR IntKind.i64 x4 → ∀ (x5 : Int), x5 = IntKind.i64.wrap (x4 + c) → InR IntKind.i64 x5 → ∀ (x6 : Int), x6 = IntKind.i64.wrap (x5.tdiv (2 : Int)) → InR IntKind.i64 x6 → ∀ (x7 : Int), x7 = IntKind.i64.wrap (i + (1 : Int)) → InR IntKind.i64 x7 → Same Tryd.f40 (6 : Nat) (itemsOf Tryd.f40 (6 : Nat)) ∧ Q (6 : Nat) [Pv.z w, Pv.z x6, Pv.z x7, Pv.l a, Pv.l l]) ∧ ((x3 == (0 : Int)) = false → Same Tryd.f40 (12 : Nat) (itemsOf Tryd.f40 (12 : Nat)) ∧ Q (12 : Nat) [Pv.z w, Pv.z i, Pv.z c, Pv.z (0 : Int), Pv.l a, Pv.l l])) ∧ (decide (i ≤ (253 : Int)) = false → Need ((254 : Int) ≤ ↑l.length) ∧ K (List.take (254 : Nat) (List.drop (0 : Nat) l)) [SV.i IntKind.i64 { st := true, z := (0 : Int) }])) := by
  intros
  kernel_rfl

theorem lc40b_eq : ∀ (w i v j : Int) (a l : List Int) (K : List Int → List SV → Prop) (Q : Nat → List Pv → Prop), lc40b w i v j a l K Q = ((decide (j < w) = true → ∀ (x1 : Int), x1 = IntKind.i64.wrap (i + j) → InR IntKind.i64 x1 → ∀ (x2 : Int), x2 = bitI (val4 a) x1 → InR IntKind.i64 x2 → Need ((0 : Int) ≤ j) ∧ ∀ (x3 : Int), x3 = shlI IntKind.i64 x2 j → InR IntKind.i64 x3 → ∀ (x4 : Int), x4 = IntKind.i64.wrap (v + x3) → InR IntKind.i64 x4 → ∀ (x5 : Int), x5 = IntKind.i64.wrap (j + (1 : Int)) → InR IntKind.i64 x5 → Same Tryd.f40 (12 : Nat) (itemsOf Tryd.f40 (12 : Nat)) ∧ Q (12 : Nat) [Pv.z w, Pv.z i, Pv.z x4, Pv.z x5, Pv.l a, Pv.l l]) ∧ (decide (j < w) = false → ∀ (x6 : Int), x6 = IntKind.i64.wrap (w - (1 : Int)) → InR IntKind.i64 x6 → Need ((0 : Int) ≤ x6) ∧ ∀ (x7 : Int), x7 = shlI IntKind.i64 (1 : Int) x6 → InR IntKind.i64 x7 → (decide (v > x7) = true → Need ((0 : Int) ≤ w) ∧ ∀ (x8 : Int), x8 = shlI IntKind.i64 (1 : Int) w → InR IntKind.i64 x8 → ∀ (x9 : Int), x9 = IntKind.i64.wrap (v - x8) → InR IntKind.i64 x9 → Need ((0 : Int) ≤ i ∧ i < (254 : Int)) ∧ Need ((0 : Int) ≤ i ∧ i < ↑l.length) ∧ ∀ (x10 : List Int), x10 = l.set i.toNat x9 → AllR IntKind.i64 x10 → ∀ (x11 : Int), x11 = IntKind.i64.wrap (i + w) → InR IntKind.i64 x11 → Same Tryd.f40 (6 : Nat) (itemsOf Tryd.f40 (6 : Nat)) ∧ Q (6 : Nat) [Pv.z w, Pv.z (1 : Int), Pv.z x11, Pv.l a, Pv.l x10]) ∧ (decide (v > x7) = false → Need ((0 : Int) ≤ i ∧ i < (254 : Int)) ∧ Need ((0 : Int) ≤ i ∧ i < ↑l.length) ∧ ∀ (x12 : List Int), x12 = l.set i.toNat v → AllR IntKind.i64 x12 → ∀ (x13 : Int), x13 = IntKind.i64.wrap (i + w) → InR IntKind.i64 x13 → Same Tryd.f40 (6 : Nat) (itemsOf Tryd.f40 (6 : Nat)) ∧ Q (6 : Nat) [Pv.z w, Pv.z (0 : Int), Pv.z x13, Pv.l a, Pv.l x12]))) := by
  intros
  kernel_rfl

theorem round29c {w len c k v j cnt n : Int} {a l : List Int} {K : List Int → List SV → Prop} {Q : Nat → List Pv → Prop} (hw : 1 ≤ w ∧ w ≤ 12) (hk : 0 ≤ k ∧ k < cnt) (hcnt : cnt = 253 / w + 1) (hc : c = 0 ∨ c = 1) (ha : val4 a = n) (hn : 0 ≤ n ∧ n < 115792089237316195423570985008687907853269984665640564039457584007913129639936) (hl : l = [] ∧ len = (l.length : Int) ∧ (l.length : Int) = k)
    (hj : -1 ≤ j ∧ j ≤ w - 1) (hv : v = c + (winL n (k * w) w - winL n (k * w) (j + 1)))
    (h1 : ∀ v' j', 0 ≤ j → j' = j - 1 → v' = c + (winL n (k * w) w - winL n (k * w) (j' + 1)) → Q 10 [.z w, .z k, .z v', .z j', .l a])
    (h : ∀ c' d, (c' = 0 ∨ c' = 1) → dgs n w (cnt - k).toNat k c = d :: dgs n w (cnt - (k + 1)).toNat (k + 1) c' → Q 1006 [.z w, .z (k + 1), .z c', .z (k + 1), .l a, .l (l ++ [d])]) : lc29c w k v j a K Q := by
  have hkw : 0 ≤ k * w ∧ k * w ≤ 253 := by
    have h1 : k * w ≤ 253 / w * w := Int.mul_le_mul_of_nonneg_right (by omega) (by omega)
    have h2 : 253 / w * w ≤ 253 := Int.ediv_mul_le 253 (by omega)
    exact ⟨Int.mul_nonneg hk.1 (by omega), by omega⟩
  have hcb : cnt ≤ 254 := by
    have : 253 / w ≤ 253 := by rw [Int.ediv_le_iff_le_mul (by omega)]; omega
    omega
  have hs : (cnt - k).toNat = (cnt - (k + 1)).toNat + 1 := by omega
  have hwb := win_bd n (k * w) (w := w) (by omega)
  have hjb := win_mono (w := j + 1) hn hkw.1 (by omega)
  have hp := p2_bd (w := w) (by omega)
  have hp1 := p2_bd (w := w - 1) (by omega)
  obtain ⟨hl1, hl2, hl3⟩ := hl
  have hwr : IntKind.i64.wrap (k + 1) = k + 1 := wrap_i64 (by omega)
  rw [lc29c_eq]
  refine ⟨fun hg => ?_, fun hg => ?_⟩
  · have hg := of_decide_eq_true hg
    have hjj := win_bit hn hkw.1 (j := j) hg
    have hj0 := win_mono (w := j) hn hkw.1 (by omega)
    have hpj := p2_bd (w := j) (by omega)
    intro x1 e1 _ x2 e2 _ x3 e3 _
    rw [Int.mul_comm w k, wrap_i64 (by omega)] at e1
    rw [e1, wrap_i64 (by omega)] at e2
    rw [e2, ha] at e3
    have hbb := bit_01 n (k * w + j)
    rw [← e3] at hjj hbb
    refine ⟨need_of hg, fun x4 e4 _ x5 e5 _ x6 e6 _ => ⟨rfl, ?_⟩⟩
    rw [shl_bit hbb (by omega)] at e4
    rw [← e4] at hjj
    rw [wrap_i64 (by omega)] at e5 e6
    exact h1 x5 x6 hg e6 (by rw [e6, show j - 1 + 1 = j by omega]; omega)
  · have hg := of_decide_eq_false hg
    have hj1 : j + 1 = 0 := by omega
    rw [hj1, win_zero] at hv
    have hv : v = winL n (k * w) w + c := by omega
    intro x7 e7 _
    rw [wrap_i64 (by omega)] at e7
    refine ⟨need_of (by omega), fun x8 e8 _ => ?_⟩
    rw [e7, shl_p2 (by omega)] at e8
    refine ⟨fun hg => ?_, fun hg => ?_⟩
    · have hg := of_decide_eq_true hg
      refine ⟨need_of (by omega), fun x9 e9 r9 x10 e10 r10 => ?_⟩
      rw [shl_p2 (by omega)] at e9
      rw [wrap_i64 (by omega)] at e10
      refine ⟨need_of (by simp), one_len _, fun x11 e11 _ x12 e12 _ _ x13 e13 _ => ⟨rfl, ?_⟩⟩
      have f8 : x11 = l ++ [x10] := by rw [e11, hl1]; rfl
      have f9 : x12 = k + 1 := by rw [e12]; simp; rw [hl1] at hl3; simp at hl3; omega
      rw [f8, f9, e13, hwr]
      refine h 1 x10 (.inr rfl) ?_
      rw [hs]
      simp only [dgs]
      rw [if_pos (by omega)]
      congr 1; omega
    · have hg := of_decide_eq_false hg
      refine ⟨need_of (by simp), one_len _, fun x14 e14 _ x15 e15 _ _ x16 e16 _ => ⟨rfl, ?_⟩⟩
      have f8 : x14 = l ++ [v] := by rw [e14, hl1]; rfl
      have f9 : x15 = k + 1 := by rw [e15]; simp; rw [hl1] at hl3; simp at hl3; omega
      rw [f8, f9, e16, hwr]
      refine h 0 v (.inl rfl) ?_
      rw [hs]
      simp only [dgs]
      rw [if_neg (by omega)]
      congr 1; omega

theorem round29d {w len c k v j cnt n : Int} {a l : List Int} {K : List Int → List SV → Prop} {Q : Nat → List Pv → Prop} (hw : 1 ≤ w ∧ w ≤ 12) (hk : 0 ≤ k ∧ k < cnt) (hcnt : cnt = 253 / w + 1) (hc : c = 0 ∨ c = 1) (ha : val4 a = n) (hn : 0 ≤ n ∧ n < 115792089237316195423570985008687907853269984665640564039457584007913129639936) (hl : l = l ∧ len = (l.length : Int) ∧ (l.length : Int) = k)
    (hj : -1 ≤ j ∧ j ≤ w - 1) (hv : v = c + (winL n (k * w) w - winL n (k * w) (j + 1)))
    (h1 : ∀ v' j', 0 ≤ j → j' = j - 1 → v' = c + (winL n (k * w) w - winL n (k * w) (j' + 1)) → Q 1010 [.z w, .z len, .z k, .z v', .z j', .l a, .l l])
    (h : ∀ c' d, (c' = 0 ∨ c' = 1) → dgs n w (cnt - k).toNat k c = d :: dgs n w (cnt - (k + 1)).toNat (k + 1) c' → Q 1006 [.z w, .z (k + 1), .z c', .z (k + 1), .l a, .l (l ++ [d])]) : lc29d w len k v j a l K Q := by
  have hkw : 0 ≤ k * w ∧ k * w ≤ 253 := by
    have h1 : k * w ≤ 253 / w * w := Int.mul_le_mul_of_nonneg_right (by omega) (by omega)
    have h2 : 253 / w * w ≤ 253 := Int.ediv_mul_le 253 (by omega)
    exact ⟨Int.mul_nonneg hk.1 (by omega), by omega⟩
  have hcb : cnt ≤ 254 := by
    have : 253 / w ≤ 253 := by rw [Int.ediv_le_iff_le_mul (by omega)]; omega
    omega
  have hs : (cnt - k).toNat = (cnt - (k + 1)).toNat + 1 := by omega
  have hwb := win_bd n (k * w) (w := w) (by omega)
  have hjb := win_mono (w := j + 1) hn hkw.1 (by omega)
  have hp := p2_bd (w := w) (by omega)
  have hp1 := p2_bd (w := w - 1) (by omega)
  obtain ⟨hl1, hl2, hl3⟩ := hl
  have hwr : IntKind.i64.wrap (k + 1) = k + 1 := wrap_i64 (by omega)
  rw [lc29d_eq]
  refine ⟨fun hg => ?_, fun hg => ?_⟩
  · have hg := of_decide_eq_true hg
    have hjj := win_bit hn hkw.1 (j := j) hg
    have hj0 := win_mono (w := j) hn hkw.1 (by omega)
    have hpj := p2_bd (w := j) (by omega)
    intro x1 e1 _ x2 e2 _ x3 e3 _
    rw [Int.mul_comm w k, wrap_i64 (by omega)] at e1
    rw [e1, wrap_i64 (by omega)] at e2
    rw [e2, ha] at e3
    have hbb := bit_01 n (k * w + j)
    rw [← e3] at hjj hbb
    refine ⟨need_of hg, fun x4 e4 _ x5 e5 _ x6 e6 _ => ⟨rfl, ?_⟩⟩
    rw [shl_bit hbb (by omega)] at e4
    rw [← e4] at hjj
    rw [wrap_i64 (by omega)] at e5 e6
    exact h1 x5 x6 hg e6 (by rw [e6, show j - 1 + 1 = j by omega]; omega)
  · have hg := of_decide_eq_false hg
    have hj1 : j + 1 = 0 := by omega
    rw [hj1, win_zero] at hv
    have hv : v = winL n (k * w) w + c := by omega
    intro x7 e7 _
    rw [wrap_i64 (by omega)] at e7
    refine ⟨need_of (by omega), fun x8 e8 _ => ?_⟩
    rw [e7, shl_p2 (by omega)] at e8
    refine ⟨fun hg => ?_, fun hg => ?_⟩
    · have hg := of_decide_eq_true hg
      refine ⟨need_of (by omega), fun x9 e9 r9 x10 e10 r10 => ?_⟩
      rw [shl_p2 (by omega)] at e9
      rw [wrap_i64 (by omega)] at e10
      refine ⟨need_of (by simp; omega), need_of (by omega), one_len _, fun x11 e11 _ x12 e12 _ _ x13 e13 _ => ⟨rfl, ?_⟩⟩
      have f8 : x11 = l ++ [x10] := by rw [e11]; rfl
      have f9 : x12 = k + 1 := by rw [e12]; simp; omega
      rw [f8, f9, e13, hwr]
      refine h 1 x10 (.inr rfl) ?_
      rw [hs]
      simp only [dgs]
      rw [if_pos (by omega)]
      congr 1; omega
    · have hg := of_decide_eq_false hg
      refine ⟨need_of (by simp; omega), need_of (by omega), one_len _, fun x14 e14 _ x15 e15 _ _ x16 e16 _ => ⟨rfl, ?_⟩⟩
      have f8 : x14 = l ++ [v] := by rw [e14]; rfl
      have f9 : x15 = k + 1 := by rw [e15]; simp; omega
      rw [f8, f9, e16, hwr]
      refine h 0 v (.inl rfl) ?_
      rw [hs]
      simp only [dgs]
      rw [if_neg (by omega)]
      congr 1; omega

def inv29 (n w : Int) (a : List Int) (key : Nat) (ps : List Pv) (m : Nat) : Prop :=
  (1 ≤ w ∧ w ≤ 12) ∧ ∃ c cnt k l, cnt = 253 / w + 1 ∧ (0 ≤ k ∧ k ≤ cnt) ∧ (c = 0 ∨ c = 1) ∧ (l.length : Int) = k ∧ l ++ dgs n w (cnt - k).toNat k c = digL n w ∧
    ((key = 6 ∧ k = 0 ∧ ps = [.z w, .z c, .z k, .l a] ∧ (m : Int) = (cnt - k) * 20) ∨ (key = 1006 ∧ ps = [.z w, .z k, .z c, .z k, .l a, .l l] ∧ (m : Int) = (cnt - k) * 20) ∨
     (∃ v j, k < cnt ∧ (-1 ≤ j ∧ j ≤ w - 1) ∧ v = c + (winL n (k * w) w - winL n (k * w) (j + 1)) ∧ (m : Int) = (cnt - k - 1) * 20 + (j + 1) + 1 ∧
       ((key = 10 ∧ k = 0 ∧ ps = [.z w, .z k, .z v, .z j, .l a]) ∨ (key = 1010 ∧ ps = [.z w, .z k, .z k, .z v, .z j, .l a, .l l]))))

def rdigS : List SV → Option (List Prop × List Int × List SV)
  | [.arr .u64 4 _ l, .i .i64 w] => some ([], digL (val4 l) w.z, [.i .i64 ⟨false, digE w.z⟩])
  | _ => none

theorem cnt_eq {w x1 x2 : Int} (hw : 1 ≤ w ∧ w ≤ 12) (e1 : x1 = IntKind.i64.wrap (Int.tdiv 253 w)) (e2 : x2 = IntKind.i64.wrap (x1 + 1)) : x2 = 253 / w + 1 := by
  have h1 : 253 / w ≤ 253 := by rw [Int.ediv_le_iff_le_mul (by omega)]; omega
  have h0 : 0 ≤ 253 / w := Int.ediv_nonneg (by omega) (by omega)
  rw [Int.tdiv_eq_ediv_of_nonneg (by omega), wrap_i64 (by omega)] at e1
  rw [e1, wrap_i64 (by omega)] at e2
  exact e2

theorem loop29 {a : List Int} {n w : Int} {vk : Nat} {t : St} {ps : List Pv} {m : Nat} (ha : val4 a = n) (hn : 0 ≤ n ∧ n < 115792089237316195423570985008687907853269984665640564039457584007913129639936) (ht : (vk, t) ∈ L29) (hi : inv29 n w a vk ps m) {K : List Int → List SV → Prop} (hK : K (digL n w) [.i .i64 ⟨true, 0⟩]) :
    loopVcI Γ21 Tryd.f29 L29 vk ps .i64 K fun key' ps' => ∃ m', m' < m ∧ inv29 n w a key' ps' m' := by
  obtain ⟨hw, c, cnt, k, l, hcnt, hk, hc, hlen, hfull, hcase⟩ := hi
  have h1 : 253 / w ≤ 253 := by rw [Int.ediv_le_iff_le_mul (by omega)]; omega
  have h0 : 0 ≤ 253 / w := Int.ediv_nonneg (by omega) (by omega)
  have step : ∀ (c' d : Int), k < cnt → (c' = 0 ∨ c' = 1) → dgs n w (cnt - k).toNat k c = d :: dgs n w (cnt - (k + 1)).toNat (k + 1) c' → (l ++ [d]) ++ dgs n w (cnt - (k + 1)).toNat (k + 1) c' = digL n w ∧ (((l ++ [d]).length : Nat) : Int) = k + 1 := fun c' d _ _ e => by
    refine ⟨by rw [← hfull, e]; simp, by simp; omega⟩
  rcases hcase with ⟨rfl, hk0, rfl, hm⟩ | ⟨rfl, rfl, hm⟩ | ⟨v, j, hkc, hj, hv, hm, hcase⟩
  · show lc29a w c k a _ _
    rw [lc29a_eq]
    refine ⟨need_of (by omega), fun x1 e1 _ x2 e2 _ => ?_⟩
    have hx := cnt_eq hw e1 e2
    refine ⟨fun hg => ?_, fun hg => by have := of_decide_eq_false hg; omega⟩
    intro x3 e3 _
    rw [wrap_i64 (by omega)] at e3
    refine ⟨rfl, ((cnt - k - 1) * 20 + w + 1).toNat, by omega, hw, c, cnt, k, l, hcnt, hk, hc, hlen, hfull, .inr (.inr ⟨c, x3, by omega, by omega, ?_, by omega, .inl ⟨rfl, hk0, rfl⟩⟩)⟩
    rw [e3, show w - 1 + 1 = w by omega]; omega
  · show lc29b w k c k a l _ _
    rw [lc29b_eq]
    refine ⟨need_of (by omega), fun x1 e1 _ x2 e2 _ => ?_⟩
    have hx := cnt_eq hw e1 e2
    refine ⟨fun hg => ?_, fun hg => ?_⟩
    · have hg := of_decide_eq_true hg
      intro x3 e3 _
      rw [wrap_i64 (by omega)] at e3
      refine ⟨rfl, ((cnt - k - 1) * 20 + w + 1).toNat, by omega, hw, c, cnt, k, l, hcnt, hk, hc, hlen, hfull, .inr (.inr ⟨c, x3, by omega, by omega, ?_, by omega, .inr ⟨rfl, rfl⟩⟩)⟩
      rw [e3, show w - 1 + 1 = w by omega]; omega
    · have hg := of_decide_eq_false hg
      refine ⟨need_of (by omega), ?_⟩
      have e0 : (cnt - k).toNat = 0 := by omega
      rw [e0] at hfull
      have : l = digL n w := by rw [← hfull]; simp [dgs]
      rw [List.drop_zero, List.take_of_length_le (by omega), this]
      exact hK
  · rcases hcase with ⟨rfl, hk0, rfl⟩ | ⟨rfl, rfl⟩
    · show lc29c w k v j a _ _
      have hl0 : l = [] := List.length_eq_zero_iff.1 (by omega)
      refine round29c (len := k) (cnt := cnt) (l := l) hw ⟨hk.1, hkc⟩ hcnt hc ha hn ⟨hl0, hlen.symm, hlen⟩ hj hv (fun v' j' hj0 hj' hv' => ?_) fun c' d hc' hd => ?_
      · exact ⟨((cnt - k - 1) * 20 + (j' + 1) + 1).toNat, by omega, hw, c, cnt, k, l, hcnt, hk, hc, hlen, hfull, .inr (.inr ⟨v', j', hkc, by omega, hv', by omega, .inl ⟨rfl, hk0, rfl⟩⟩)⟩
      · obtain ⟨q1, q2⟩ := step c' d hkc hc' hd
        exact ⟨((cnt - (k + 1)) * 20).toNat, by omega, hw, c', cnt, k + 1, l ++ [d], hcnt, by omega, hc', q2, q1, .inr (.inl ⟨rfl, rfl, by omega⟩)⟩
    · show lc29d w k k v j a l _ _
      refine round29d (len := k) (cnt := cnt) (l := l) hw ⟨hk.1, hkc⟩ hcnt hc ha hn ⟨rfl, hlen.symm, hlen⟩ hj hv (fun v' j' hj0 hj' hv' => ?_) fun c' d hc' hd => ?_
      · exact ⟨((cnt - k - 1) * 20 + (j' + 1) + 1).toNat, by omega, hw, c, cnt, k, l, hcnt, hk, hc, hlen, hfull, .inr (.inr ⟨v', j', hkc, by omega, hv', by omega, .inr ⟨rfl, rfl⟩⟩)⟩
      · obtain ⟨q1, q2⟩ := step c' d hkc hc' hd
        exact ⟨((cnt - (k + 1)) * 20).toNat, by omega, hw, c', cnt, k + 1, l ++ [d], hcnt, by omega, hc', q2, q1, .inr (.inl ⟨rfl, rfl, by omega⟩)⟩

set_option maxHeartbeats 1000000 in
theorem rdig_ok : CallOk Tryd.prog gh 29 (freshCtr .i64 rdigS) := by
  refine call_fresh (fn := Tryd.f29) Γ21_ok rfl (by kernel_rfl) (by kernel_rfl) (by kernel_rfl) rdigS fun args P0 l0 r0 hs hp hf => ?_
  unfold rdigS at hs
  split at hs
  · rename_i e1 l w
    simp only [Option.some.injEq, Prod.mk.injEq] at hs
    obtain ⟨rfl, rfl, rfl⟩ := hs
    simp only [FactVs, FactV] at hf
    obtain ⟨⟨hl, h1⟩, hw, _⟩ := hf
    obtain ⟨a0, a1, a2, a3, rfl⟩ := len4 hl
    obtain ⟨wT, w⟩ := w
    dsimp only at *
    have hn : 0 ≤ val4 [a0, a1, a2, a3] ∧ val4 [a0, a1, a2, a3] < 115792089237316195423570985008687907853269984665640564039457584007913129639936 :=
      val_pos (h1 a0 (by simp)) (h1 a1 (by simp)) (h1 a2 (by simp)) (h1 a3 (by simp))
    refine ⟨[.arr .u64 4 true [a0, a1, a2, a3], .i .i64 ⟨false, w⟩], L29, inv29 (val4 [a0, a1, a2, a3]) w [a0, a1, a2, a3], ⟨rfl, rfl, trivial⟩, Nat.le_of_ble_eq_true (by kernel_rfl), ?_, ?_, ?_⟩
    · intro k t ht g hg
      have hg : g ∈ keysOf gh := hg
      simp only [gh, keysOf, List.mem_singleton] at hg
      subst hg
      simp only [L29, List.mem_cons, List.not_mem_nil, or_false, Prod.mk.injEq] at ht
      rcases ht with ⟨rfl, rfl⟩ | ⟨rfl, rfl⟩ | ⟨rfl, rfl⟩ | ⟨rfl, rfl⟩ <;> exact ⟨by omega, rfl⟩
    · intro vk t ps m ht hi
      have hwr := hi.1
      refine loopI_of (L := L29) (show List.Nodup [6, 1006, 10, 1010] by decide) ht (loop29 rfl hn ht hi ⟨rfl, ?_, trivial⟩)
      show 0 = digE w
      unfold digE; rw [if_neg (by omega)]
    · show vc29 a0 a1 a2 a3 w _ _
      rw [vc29_eq]
      refine ⟨fun h => ?_, fun h => ⟨fun h' => ?_, fun h' => ?_⟩⟩
      · have h := of_decide_eq_true h
        exact ⟨by unfold digL; rw [if_pos (by omega)], by show 1 = digE w; unfold digE; rw [if_pos (by omega)], trivial⟩
      · have h' := of_decide_eq_true h'
        exact ⟨by unfold digL; rw [if_pos (by omega)], by show 1 = digE w; unfold digE; rw [if_pos (by omega)], trivial⟩
      · have h := of_decide_eq_false h
        have h' := of_decide_eq_false h'
        refine ⟨rfl, ((253 / w + 1) * 20).toNat, ⟨by omega, by omega⟩, 0, 253 / w + 1, 0, [], rfl, ⟨by omega, ?_⟩, .inl rfl, rfl, ?_, .inl ⟨rfl, rfl, rfl, ?_⟩⟩
        · have : 0 ≤ 253 / w := Int.ediv_nonneg (by omega) (by omega)
          omega
        · unfold digL; rw [if_neg (by omega)]; simp
        · have : 0 ≤ 253 / w := Int.ediv_nonneg (by omega) (by omega)
          omega
  · cases hs

/-! The non-adjacent form. -/

def inv40 (n w : Int) (a : List Int) (key : Nat) (ps : List Pv) (m : Nat) : Prop :=
  (2 ≤ w ∧ w ≤ 8) ∧ ∃ (c i : Int) (l : List Int) (q : Nat), (0 ≤ i ∧ i ≤ 261) ∧ (c = 0 ∨ c = 1) ∧ l.length = 254 ∧ 255 ≤ (q : Int) + i ∧ nfs n w q i c l = nafL n w ∧
    ((key = 6 ∧ ps = [.z w, .z c, .z i, .l a, .l l] ∧ (m : Int) = q * 20) ∨
     (∃ v j, key = 12 ∧ ps = [.z w, .z i, .z v, .z j, .l a, .l l] ∧ i ≤ 253 ∧ (0 ≤ j ∧ j ≤ w) ∧ v = c + winL n i j ∧ (winL n i 1 + c) % 2 ≠ 0 ∧ (m : Int) = (q - 1) * 20 + (w - j) + 1))

def rnafS : List SV → Option (List Prop × List Int × List SV)
  | [.arr .u64 4 _ l, .i .i64 w] => some ([], nafL (val4 l) w.z, [.i .i64 ⟨false, nafE w.z⟩])
  | _ => none

theorem p2_even {w : Int} (hw : 2 ≤ w ∧ w ≤ 8) : p2 (w - 1) % 2 = 0 := by
  have : w = 2 ∨ w = 3 ∨ w = 4 ∨ w = 5 ∨ w = 6 ∨ w = 7 ∨ w = 8 := by omega
  rcases this with rfl | rfl | rfl | rfl | rfl | rfl | rfl <;> decide

theorem loop40 {a : List Int} {n w : Int} {vk : Nat} {t : St} {ps : List Pv} {m : Nat} (ha : val4 a = n) (hn : 0 ≤ n ∧ n < 115792089237316195423570985008687907853269984665640564039457584007913129639936) (ht : (vk, t) ∈ L40) (hi : inv40 n w a vk ps m) {K : List Int → List SV → Prop} (hK : K (nafL n w) [.i .i64 ⟨true, 0⟩]) :
    loopVcI Γ21 Tryd.f40 L40 vk ps .i64 K fun key' ps' => ∃ m', m' < m ∧ inv40 n w a key' ps' m' := by
  obtain ⟨hw, c, i, l, q, hi, hc, hlen, hq, hfull, hcase⟩ := hi
  have hp := p2_bd (w := w) (by omega)
  have hp1 := p2_bd (w := w - 1) (by omega)
  have hev := p2_even hw
  have hwb := win_bd n i (w := w) (by omega)
  have h1b := win1_bd n i
  rcases hcase with ⟨rfl, rfl, hm⟩ | ⟨v, j, rfl, rfl, hi3, hj, hv, hodd, hm⟩
  · show lc40a w c i a l _ _
    rw [lc40a_eq]
    refine ⟨fun hg => ?_, fun hg => ?_⟩
    · have hg := of_decide_eq_true hg
      obtain ⟨q', rfl⟩ : ∃ q', q = q' + 1 := ⟨q - 1, by omega⟩
      intro x1 e1 _ x2 e2 _ x3 e3 _
      rw [ha, bit_win hn hi.1] at e1
      rw [e1, wrap_i64 (by omega)] at e2
      rw [Int.tmod_eq_emod_of_nonneg (by omega), e2] at e3
      refine ⟨fun h0 => ?_, fun h0 => ?_⟩
      · have h0 : x3 = 0 := by simpa using h0
        intro x4 e4 _ x5 e5 _ x6 e6 _ x7 e7 _
        rw [ha, bit_win hn hi.1] at e4
        rw [e4, wrap_i64 (by omega)] at e5
        rw [Int.tdiv_eq_ediv_of_nonneg (by omega), e5, wrap_i64 (by omega)] at e6
        rw [wrap_i64 (by omega)] at e7
        have hc6 : x6 = c := by omega
        refine ⟨rfl, q' * 20, by omega, hw, c, i + 1, l, q', by omega, hc, hlen, by omega, ?_, .inl ⟨rfl, by rw [hc6, e7], by omega⟩⟩
        rw [← hfull]
        conv => rhs; rw [nfs, if_pos hg, if_pos (by omega)]
      · have h0 : ¬ x3 = 0 := by simpa using h0
        exact ⟨rfl, q' * 20 + w.toNat + 1, by omega, hw, c, i, l, q' + 1, hi, hc, hlen, by omega, hfull, .inr ⟨c, 0, rfl, rfl, hg, by omega, by rw [win_zero]; omega, by omega, by omega⟩⟩
    · have hg := of_decide_eq_false hg
      refine ⟨need_of (by omega), ?_⟩
      have : nfs n w q i c l = l := by
        cases q with
        | zero => rfl
        | succ q => rw [nfs, if_neg (by omega)]
      rw [List.drop_zero, List.take_of_length_le (by omega), ← this, hfull]
      exact hK
  · show lc40b w i v j a l _ _
    rw [lc40b_eq]
    have hjb := win_mono (w := j) hn hi.1 (by omega)
    obtain ⟨q', rfl⟩ : ∃ q', q = q' + 1 := ⟨q - 1, by omega⟩
    refine ⟨fun hg => ?_, fun hg => ?_⟩
    · have hg := of_decide_eq_true hg
      have hjj := win_bit hn hi.1 (j := j) hj.1
      have hj1 := win_mono (w := j + 1) hn hi.1 (by omega)
      have hpj := p2_bd (w := j) (by omega)
      intro x1 e1 _ x2 e2 _
      rw [wrap_i64 (by omega)] at e1
      rw [e1, ha] at e2
      have hbb := bit_01 n (i + j)
      rw [← e2] at hjj hbb
      refine ⟨need_of hj.1, fun x3 e3 _ x4 e4 _ x5 e5 _ => ⟨rfl, ?_⟩⟩
      rw [shl_bit hbb (by omega)] at e3
      rw [← e3] at hjj
      rw [wrap_i64 (by omega)] at e4 e5
      exact ⟨q' * 20 + (w - (j + 1)).toNat + 1, by omega, hw, c, i, l, q' + 1, hi, hc, hlen, by omega, hfull, .inr ⟨x4, x5, rfl, rfl, hi3, by omega, by rw [e5, hjj]; omega, hodd, by omega⟩⟩
    · have hg := of_decide_eq_false hg
      have hjw : j = w := by omega
      subst hjw
      have hpar := win_odd (n := n) (i := i) (w := j) (by omega)
      intro x6 e6 _
      rw [wrap_i64 (by omega)] at e6
      refine ⟨need_of (by omega), fun x7 e7 _ => ?_⟩
      rw [e6, shl_p2 (by omega)] at e7
      rw [nfs, if_pos hi3, if_neg (by omega)] at hfull
      refine ⟨fun hg => ?_, fun hg => ?_⟩
      · have hg := of_decide_eq_true hg
        refine ⟨need_of (by omega), fun x8 e8 _ x9 e9 _ => ⟨need_of (by omega), need_of (by omega), fun x10 e10 _ x11 e11 _ => ⟨rfl, ?_⟩⟩⟩
        rw [shl_p2 (by omega)] at e8
        rw [wrap_i64 (by omega)] at e9 e11
        rw [if_pos (by omega)] at hfull
        refine ⟨q' * 20, by omega, hw, 1, i + j, x10, q', by omega, .inr rfl, by rw [e10]; simpa using hlen, by omega, ?_, .inl ⟨rfl, by rw [e11], by omega⟩⟩
        rw [← hfull, e10]
        congr 2; omega
      · have hg := of_decide_eq_false hg
        refine ⟨need_of (by omega), need_of (by omega), fun x12 e12 _ x13 e13 _ => ⟨rfl, ?_⟩⟩
        rw [wrap_i64 (by omega)] at e13
        rw [if_neg (by omega)] at hfull
        refine ⟨q' * 20, by omega, hw, 0, i + j, x12, q', by omega, .inl rfl, by rw [e12]; simpa using hlen, by omega, ?_, .inl ⟨rfl, by rw [e13], by omega⟩⟩
        rw [← hfull, e12]
        congr 2; omega

set_option maxHeartbeats 1000000 in
theorem rnaf_ok : CallOk Tryd.prog gh 40 (freshCtr .i64 rnafS) := by
  refine call_fresh (fn := Tryd.f40) Γ21_ok rfl (by kernel_rfl) (by kernel_rfl) (by kernel_rfl) rnafS fun args P0 l0 r0 hs hp hf => ?_
  unfold rnafS at hs
  split at hs
  · rename_i e1 l w
    simp only [Option.some.injEq, Prod.mk.injEq] at hs
    obtain ⟨rfl, rfl, rfl⟩ := hs
    simp only [FactVs, FactV] at hf
    obtain ⟨⟨hl, h1⟩, hw, _⟩ := hf
    obtain ⟨a0, a1, a2, a3, rfl⟩ := len4 hl
    obtain ⟨wT, w⟩ := w
    dsimp only at *
    have hn : 0 ≤ val4 [a0, a1, a2, a3] ∧ val4 [a0, a1, a2, a3] < 115792089237316195423570985008687907853269984665640564039457584007913129639936 :=
      val_pos (h1 a0 (by simp)) (h1 a1 (by simp)) (h1 a2 (by simp)) (h1 a3 (by simp))
    refine ⟨[.arr .u64 4 true [a0, a1, a2, a3], .i .i64 ⟨false, w⟩], L40, inv40 (val4 [a0, a1, a2, a3]) w [a0, a1, a2, a3], ⟨rfl, rfl, trivial⟩, Nat.le_of_ble_eq_true (by kernel_rfl), ?_, ?_, ?_⟩
    · intro k t ht g hg
      have hg : g ∈ keysOf gh := hg
      simp only [gh, keysOf, List.mem_singleton] at hg
      subst hg
      simp only [L40, List.mem_cons, List.not_mem_nil, or_false, Prod.mk.injEq] at ht
      rcases ht with ⟨rfl, rfl⟩ | ⟨rfl, rfl⟩ <;> exact ⟨by omega, rfl⟩
    · intro vk t ps m ht hi
      have hwr := hi.1
      refine loopI_of (L := L40) (show List.Nodup [6, 12] by decide) ht (loop40 rfl hn ht hi ⟨rfl, ?_, trivial⟩)
      show 0 = nafE w
      unfold nafE; rw [if_neg (by omega)]
    · show vc40 a0 a1 a2 a3 w _ _
      rw [vc40_eq]
      refine ⟨fun h => ?_, fun h => ⟨fun h' => ?_, fun h' => ?_⟩⟩
      · have h := of_decide_eq_true h
        exact ⟨by unfold nafL; rw [if_pos (by omega)], by show 1 = nafE w; unfold nafE; rw [if_pos (by omega)], trivial⟩
      · have h' := of_decide_eq_true h'
        exact ⟨by unfold nafL; rw [if_pos (by omega)], by show 1 = nafE w; unfold nafE; rw [if_pos (by omega)], trivial⟩
      · have h := of_decide_eq_false h
        have h' := of_decide_eq_false h'
        refine ⟨need_of (by omega), fun x1 e1 _ => ⟨rfl, 255 * 20, ⟨by omega, by omega⟩, 0, 0, x1, 255, ⟨by omega, by omega⟩, .inl rfl, ?_, by omega, ?_, .inl ⟨rfl, rfl, by omega⟩⟩⟩
        · rw [e1, List.length_replicate]
        · rw [e1]
          unfold nafL; rw [if_neg (by omega)]
  · cases hs

def Γ21r : Tab := ⟨tys, [(29, freshCtr .i64 rdigS), (40, freshCtr .i64 rnafS)] ++ Γ21.ctr, [0], gh⟩
theorem Γ21r_ok : TabOk Tryd.prog Γ21r := (Γ21_ok.cons rnaf_ok).cons rdig_ok
end Go.Gx

/- Contracts of methods that turn a record of the caller's, through a pointer. -/
namespace Go.Gx
open Go.RowKit
set_option linter.unusedVariables false

/-- The same parts of a block. -/
def eqSeg : Seg → Seg → Prop
  | .one x, .one y => single y = true ∧ eqV x y
  | .arr k n _ l, .arr k' n' _ l' => keq k k' = true ∧ n = n' ∧ l = l'
  | .rowI k l, .rowI k' l' => keq k k' = true ∧ l = l'
  | _, _ => False
def eqSegs : List Seg → List Seg → Prop
  | [], [] => True
  | x :: r, y :: t => eqSeg x y ∧ eqSegs r t
  | _, _ => False
def FactSeg : Seg → Prop
  | .one x => FactV x
  | .arr k n _ l => l.length = n ∧ AllR k l
  | .rowI k l => AllR k l
  | _ => True
def FactSegs : List Seg → Prop
  | [] => True
  | x :: r => FactSeg x ∧ FactSegs r

theorem eqSeg_D {dm dm' : Nat → Prop} {ρ ρ' : Nat → Pl} : ∀ (x y : Seg) (cs : List Value), eqSeg x y → SegD dm ρ x cs → SegD dm' ρ' y cs
  | .one x, y, cs, h, hd => by
    cases y <;> simp only [eqSeg] at h
    obtain ⟨h1, h2⟩ := h
    obtain ⟨_, v, hv, rfl⟩ := hd
    exact ⟨h1, v, eqV_D _ _ v h2 hv, rfl⟩
  | .arr k n e l, y, cs, h, hd => by
    cases y <;> simp only [eqSeg] at h
    obtain ⟨h1, rfl, rfl⟩ := h
    obtain rfl := keq_eq h1
    exact hd
  | .rowI k l, y, cs, h, hd => by
    cases y <;> simp only [eqSeg] at h
    obtain ⟨h1, rfl⟩ := h
    obtain rfl := keq_eq h1
    exact hd
  | .rowA k n l, y, cs, h, hd => by cases y <;> simp only [eqSeg] at h
theorem eqSegs_D {dm dm' : Nat → Prop} {ρ ρ' : Nat → Pl} : ∀ (xs ys : List Seg) (cs : List Value), eqSegs xs ys → SegsD dm ρ xs cs → SegsD dm' ρ' ys cs
  | [], [], cs, h, hd => hd
  | x :: r, y :: t, cs, h, hd => by
    obtain ⟨c1, c2, h1, rfl, h2⟩ := hd
    exact ⟨c1, c2, eqSeg_D x y c1 h.1 h1, rfl, eqSegs_D r t c2 h.2 h2⟩
  | [], _ :: _, cs, h, hd => h.elim
  | _ :: _, [], cs, h, hd => h.elim

/-- An answer, and what the record holds then. -/
def kvM (x : SV) (h : Heap) (K : SV → List Seg → Prop) : Prop :=
  match assoc h 600 with
  | some (.segs false l) => K x l
  | _ => False

def fnVcM (Γ : Tab) (fn : Func) (L : Loops) (args : List SV) (h : Heap) (K : SV → List Seg → Prop) (Q : Nat → List Pv → Prop) : Prop :=
  runFn Γ fn (loopKeysM L) args h (fun x h' => kvM x h' K) (handM L Q)
def loopVcM (Γ : Tab) (fn : Func) (L : Loops) (key : Nat) (ps : List Pv) (K : SV → List Seg → Prop) (Q : Nat → List Pv → Prop) : Prop :=
  match assoc L key with
  | some t => runLoop Γ fn (loopKeysM L) (key % 1000) (instSt t ps) (fun x h' => kvM x h' K) (handM L Q)
  | none => False

structure VcM (Γ : Tab) (fn : Func) (L : Loops) (h : Heap) (args : List SV) (K : SV → List Seg → Prop) (inv : Nat → List Pv → Nat → Prop) : Prop where
  low : ∀ k t, (k, t) ∈ L → ∀ g, g ∈ keysOf h → g < 1000 ∧ (assoc t.heap g).isSome = true
  loop : ∀ vk t ps m, (vk, t) ∈ L → inv vk ps m → runLoop Γ fn (loopKeysM L) (vk % 1000) (instSt t ps) (fun x h' => kvM x h' K) (handM L fun key' ps' => ∃ m', m' < m ∧ inv key' ps' m')
  entry : fnVcM Γ fn L args h K fun key' ps' => ∃ m', inv key' ps' m'

def methCtr (spec : List Seg → List SV → Option (List Prop × SV × List Seg)) : Ctr := fun _ args =>
  match args with
  | .p key c :: rest => (match Nat.beq c 0 with
    | true => .get key fun b => (match b with
      | some (.segs false l) => (match spec l rest with
        | some (p, v, l') => .ret ⟨p, v, [(key, .segs false l')], true⟩
        | none => .fail)
      | _ => .fail)
    | false => .fail)
  | _ => .fail

theorem methCtr_run {H : Nat → Option SB} {spec : List Seg → List SV → Option (List Prop × SV × List Seg)} {stamp : Nat} {args : List SV} {rs rs' : List Nat} {d : Delta} (h : (methCtr spec stamp args).run H rs = some (d, rs')) :
    ∃ key rest l p v l', args = .p key 0 :: rest ∧ H key = some (.segs false l) ∧ spec l rest = some (p, v, l') ∧ d = ⟨p, v, [(key, .segs false l')], true⟩ := by
  unfold methCtr at h
  split at h
  · rename_i key c rest
    split at h
    · rename_i hc
      obtain rfl : c = 0 := Nat.eq_of_beq_eq_true hc
      simp only [RP.run] at h
      split at h
      · rename_i l hl
        split at h
        · rename_i p v l' hs
          exact ⟨key, rest, l, p, v, l', rfl, hl, hs, run_ret h⟩
        · simp [RP.run] at h
      · simp [RP.run] at h
    · simp [RP.run] at h
  · simp [RP.run] at h

section
variable {P : Program} {Γ : Tab}

/-- A block of the caller's that a call has turned. -/
theorem Mem.turn {w0 : World} {M : Nat → Prop} {ρ : Nat → Pl} {H : Nat → Option SB} {w w' : World} (h : Mem w0 M ρ H w) {key : Nat} {l l' : List Seg} (hk : H key = some (.segs false l)) (hpos : 0 < (ρ key).cap) (hf : FrameW (fun b => b = (ρ key).blk) w w') {vs : List Value}
    (hl : SegsD (fun _ => False) (fun _ => ({ blk := 0, off := 0, cap := 0 } : Pl)) l' vs) (h1 : vs.length ≤ (ρ key).cap) (h2 : w'.rangeAt (ρ key).blk (ρ key).off vs) (h3 : w'.there (ρ key).blk (ρ key).off (ρ key).cap) (h4 : Clean w' (ρ key).blk) :
    Mem w0 M ρ (updH H key (.segs false l')) w' := by
  have hsome : (H key).isSome = true := by rw [hk]; rfl
  have hold : ∀ k b, k ≠ key → H k = some b → ∀ ro l1, b = .segs ro l1 → 0 < (ρ k).cap → w'.heap[(ρ k).blk]? = w.heap[(ρ k).blk]? := fun k b hne hb ro l1 e c => by
    subst e
    exact hf.block _ (h.heap.lt k ro l1 hb c) (h.heap.sep k key ro false l1 l hb hk hne (.inr rfl) c hpos)
  refine ⟨⟨fun k b hb => ?_, fun k k' ro ro' l1 l2 e1 e2 hkk hr c1 c2 => ?_, fun k ro l1 e1 c1 => ?_⟩, ⟨hf.os.trans h.frame.os, hf.tape.trans h.frame.tape, hf.output.trans h.frame.output, Nat.le_trans h.frame.size hf.size, fun k hk1 hk2 => ?_⟩, fun k l1 e1 c1 => ?_, view_upH h.view (by simp), fun k l1 e1 c1 => ?_,
    h.pools.step (fun k kd ms hk' => by
      have e : k ≠ key := fun e => by subst e; rw [updH_same] at hk'; cases hk'
      rw [updH_ne e] at hk'
      exact ⟨hk', rfl⟩)
    (fun k ro l1 h1 c1 => by
      by_cases e : k = key
      · subst e; exact .inl ⟨k, false, l, hk, c1, rfl⟩
      · rw [updH_ne e] at h1; exact .inl ⟨k, ro, l1, h1, c1, rfl⟩)
    hf.size (fun _ hb => hb) (fun k kd ms i hk' hi h9 => hf.block _ ((h.pools.pool k kd ms hk').lt i hi h9) (h.pools.apart k kd ms key false l i hk' hk hpos hi h9).symm)⟩
  · by_cases e : k = key
    · subst e
      rw [updH_same] at hb
      simp only [Option.some.injEq] at hb; subst hb
      exact ⟨vs, SegsD.mono (fun _ h => h.elim) (fun _ h => h.elim) l' vs hl, h1, h2, fun _ => h3⟩
    · rw [updH_ne e] at hb
      exact (h.heap.blk k b hb).of_block (dm_updH _ _ _) (fun _ _ => .refl _) rfl (hold k b e hb)
  · have s1 : ∃ l1', H k = some (.segs ro l1') := by
      by_cases e : k = key
      · subst e; rw [updH_same] at e1; simp only [Option.some.injEq, SB.segs.injEq] at e1; exact ⟨l, by rw [hk, e1.1]⟩
      · rw [updH_ne e] at e1; exact ⟨l1, e1⟩
    have s2 : ∃ l2', H k' = some (.segs ro' l2') := by
      by_cases e : k' = key
      · subst e; rw [updH_same] at e2; simp only [Option.some.injEq, SB.segs.injEq] at e2; exact ⟨l, by rw [hk, e2.1]⟩
      · rw [updH_ne e] at e2; exact ⟨l2, e2⟩
    obtain ⟨l1', s1⟩ := s1
    obtain ⟨l2', s2⟩ := s2
    exact h.heap.sep k k' ro ro' l1' l2' s1 s2 hkk hr c1 c2
  · by_cases e : k = key
    · subst e; exact Nat.lt_of_lt_of_le (h.heap.lt k false l hk c1) hf.size
    · rw [updH_ne e] at e1; exact Nat.lt_of_lt_of_le (h.heap.lt k ro l1 e1 c1) hf.size
  · have hne : ¬ k = (ρ key).blk := fun e => by
      rcases h.own key l hk hpos with hh | hh
      · omega
      · exact hk2 (e ▸ hh)
    rw [hf.block k (Nat.lt_of_lt_of_le hk1 h.frame.size) hne]
    exact h.frame.block k hk1 hk2
  · by_cases e : k = key
    · subst e; exact h.own k l hk c1
    · rw [updH_ne e] at e1; exact h.own k l1 e1 c1
  · by_cases e : k = key
    · subst e; exact h4
    · rw [updH_ne e] at e1; exact (h.clean k l1 e1 c1).of_block (hold k _ e e1 false l1 rfl c1)

theorem SegsD.fact {dm : Nat → Prop} {ρ : Nat → Pl} : ∀ (l : List Seg) (cs : List Value), SegsD dm ρ l cs → FactSegs l
  | [], cs, h => trivial
  | g :: r, cs, h => by
    obtain ⟨c1, c2, h1, rfl, h2⟩ := h
    refine ⟨?_, SegsD.fact r c2 h2⟩
    cases g with
    | one x => obtain ⟨_, v, hv, _⟩ := h1; exact D.fact x v hv
    | arr k n e l => exact ⟨h1.1, h1.2.1⟩
    | rowI k l => exact h1.1
    | rowA k n l => trivial
    | rowH key hs => trivial

theorem vcM_calls (hΓ : TabOk P Γ) {f : FuncId} {fn : Func} (hf : P.funcs[f]? = some fn) {L : Loops} {h : Heap} {args : List SV} {K : SV → List Seg → Prop} {inv : Nat → List Pv → Nat → Prop} (hv : VcM Γ fn L h args K inv) (hlen : args.length ≤ fn.ntmps)
    {w : World} {M : Nat → Prop} {ρg : Nat → Pl} {vs : List Value} (hgo : GlOk Γ w M ρg (assoc h)) (g1 : Mem w M ρg (assoc h) w) (ha : Ds (dmOf (assoc h)) ρg args vs) :
    Calls P f vs.toArray w fun e w' => ∃ x v h' ρ', e = .returned v ∧ kvM x h' K ∧ D (dmOf (assoc h')) ρ' x v ∧ Mem w M ρ' (assoc h') w' ∧ ∀ k, dmOf (assoc h) k → dmOf (assoc h') k ∧ PlLe (ρg k) (ρ' k) := by
  have hweak : ∀ vk t σ' ps, (vk, t) ∈ L → matchSt t σ' = some ps → Weak (assoc h) σ' (instSt t ps) := fun vk t σ' ps ht hm =>
    weak_of_match hm fun k hk => hv.low vk t ht k (keysOf_of_dm hk)
  refine (fn_calls hΓ hf hgo hlen ha g1 (fun m key σ => ∃ vk t ps, (vk, t) ∈ L ∧ vk % 1000 = key ∧ σ = instSt t ps ∧ inv vk ps m) (fun m => handM L fun key' ps' => ∃ m', m' < m ∧ inv key' ps' m') (fun m key σ hj => ?_) (fun m key σ' h => ?_)
    (handM L fun key' ps' => ∃ m', inv key' ps' m') (fun key σ' h => ?_) hv.entry).mono fun e w' he => ?_
  · obtain ⟨vk, t, ps, ht, rfl, rfl, hinv⟩ := hj
    exact hv.loop vk t ps m ht hinv
  · obtain ⟨vk, t, ps, ht, hk, hps, m', hlt, hinv⟩ := handM_of h
    exact ⟨m', hlt, _, hweak _ _ _ _ ht hps, vk, t, ps, ht, hk, rfl, hinv⟩
  · obtain ⟨vk, t, ps, ht, hk, hps, m', hinv⟩ := handM_of h
    exact ⟨m', _, hweak _ _ _ _ ht hps, vk, t, ps, ht, hk, rfl, hinv⟩
  · obtain ⟨x, v, h', ρ', rfl, k1, k2, k3, k4⟩ := he
    exact ⟨x, v, h', ρ', rfl, k1, k2, k3, k4⟩

/-- The contract of such a method. -/
theorem call_meth (hΓ : TabOk P Γ) (hgl : Γ.gl = keysOf Γ.gh) (hg6 : ∀ g ∈ keysOf Γ.gh, g < 600) {f : FuncId} {fn : Func} (hf : P.funcs[f]? = some fn) (hn : (fn.name == "runtime.NumGoroutine") = false) (hb : fn.body.isNone = false) (spec : List Seg → List SV → Option (List Prop × SV × List Seg))
    (h : ∀ l rest p v l', spec l rest = some (p, v, l') → AllP p → FactSegs l → FactVs rest → (∀ dm ρ cs, SegsD dm ρ l cs → 0 < cs.length) ∧ ∃ l0 args' L inv, eqSegs l l0 ∧ eqVs rest args' ∧ args'.length + 1 ≤ fn.ntmps ∧ VcM Γ fn L (Γ.gh ++ [(600, .segs false l0)]) (.p 600 0 :: args') (fun x l1 => eqV x v ∧ eqSegs l1 l') inv) : CallOk P Γ.gh f (methCtr spec) := by
  intro stamp args H rs rs' d vs w0 M ρ w hG hc hp hD hm
  obtain ⟨key, rest, l, p, v, l', rfl, hkey, hs, rfl⟩ := methCtr_run hc
  simp only [Ds] at hD
  obtain ⟨v0, vr, hv0, rfl, hvr⟩ := hD
  simp only [D] at hv0
  obtain ⟨hdk, rfl⟩ := hv0
  obtain ⟨cs, hcs, hcl, hra, hth⟩ := hm.heap.blk key _ hkey
  obtain ⟨hpos, l0, args', L, inv, k1, k2, k3, k4⟩ := h l rest p v l' hs hp (SegsD.fact l cs hcs) (Ds.fact rest vr hvr)
  have hcap : 0 < (ρ key).cap := Nat.lt_of_lt_of_le (hpos _ _ cs hcs) hcl
  obtain ⟨ρg, g1, g2, g3⟩ := mem_of_glob hG hm
  have hne : ∀ g b, (g, b) ∈ Γ.gh → g ≠ (ρ key).blk := fun g b hgb e => by
    obtain ⟨_, _, _, _, _, q1, q2⟩ := hG g b hgb
    rcases hm.own key l hkey hcap with hh | hh
    · omega
    · exact q1 (e ▸ hh)
  have hlow : ∀ k b, assoc Γ.gh k = some b → k < 600 := fun k b hb => hg6 k (keysOf_of_dm (by unfold dmOf; rw [hb]; rfl))
  have hself : assoc (Γ.gh ++ [(600, SB.segs false l0)]) 600 = some (.segs false l0) := by
    rw [assoc_app]
    split
    · rename_i x hx
      have := hlow _ _ hx; omega
    · rfl
  have hat : ∀ k b, assoc (Γ.gh ++ [(600, SB.segs false l0)]) k = some b → (k < 600 ∧ assoc Γ.gh k = some b) ∨ (k = 600 ∧ b = .segs false l0) := fun k b hb => by
    rw [assoc_app] at hb
    split at hb
    · rename_i x hx
      rw [hb] at hx
      exact .inl ⟨hlow k b hx, hx⟩
    · simp only [assoc] at hb
      split at hb
      · rename_i e
        exact .inr ⟨(Nat.eq_of_beq_eq_true e).symm, (Option.some.inj hb).symm⟩
      · cases hb
  have hup : ∀ k b, assoc Γ.gh k = some b → assoc (Γ.gh ++ [(600, SB.segs false l0)]) k = some b := fun k b hb => by rw [assoc_app, hb]
  let M' : Nat → Prop := fun b => b = (ρ key).blk
  let ρ1 : Nat → Pl := fun k => if k < 600 then ρg k else ρ key
  have hρ6 : ρ1 600 = ρ key := by simp [ρ1]
  have hρg : ∀ k, k < 600 → ρ1 k = ρg k := fun k hk => by simp [ρ1, hk]
  have hro : ∀ k b, assoc Γ.gh k = some b → ∃ l, b = .segs true l := fun k b hb => by
    obtain ⟨l, _, e, _⟩ := g2 k b (assoc_mem hb); exact ⟨l, e⟩
  have hmem : Mem w M' ρ1 (assoc (Γ.gh ++ [(600, SB.segs false l0)])) w := by
    refine ⟨⟨fun k b hb => ?_, fun k k' ro ro' l1 l2 e1 e2 hkk hr c1 c2 => ?_, fun k ro l1 e1 c1 => ?_⟩, FrameW.refl _ _, fun k l1 e1 c1 => ?_, fun k e1 => ?_, fun k l1 e1 c1 => ?_, .none (fun k kd ms e1 => by
      rcases hat k _ e1 with ⟨_, h⟩ | ⟨_, h⟩
      · obtain ⟨_, e⟩ := hro k _ h; cases e
      · cases h)⟩
    · rcases hat k b hb with ⟨hk, hb'⟩ | ⟨rfl, rfl⟩
      · refine (g1.heap.blk k b hb').of_block (fun j hj => ?_) (fun j hj => ?_) (hρg k hk) (fun _ _ _ _ => rfl)
        · unfold dmOf at hj ⊢
          obtain ⟨b', hb''⟩ := Option.isSome_iff_exists.1 hj
          rw [hup j b' hb'']; rfl
        · unfold dmOf at hj
          obtain ⟨b', hb''⟩ := Option.isSome_iff_exists.1 hj
          exact .of_eq (hρg j (hlow j b' hb''))
      · exact ⟨cs, eqSegs_D l l0 cs k1 hcs, by rw [hρ6]; exact hcl, by rw [hρ6]; exact hra, fun _ => by rw [hρ6]; exact hth rfl⟩
    · have hk0 : ∀ a b lx, assoc (Γ.gh ++ [(600, SB.segs false l0)]) a = some (.segs b lx) → a < 600 → (ρ1 a).blk ≠ (ρ key).blk ∧ b = true := fun a b lx ha hlt => by
        rcases hat a _ ha with ⟨_, ha'⟩ | ⟨e, _⟩
        · obtain ⟨lz, ez⟩ := hro a _ ha'
          simp only [SB.segs.injEq] at ez
          exact ⟨by rw [hρg a hlt, (g3 a).1]; exact hne a _ (assoc_mem ha'), ez.1⟩
        · omega
      rcases hat k _ e1 with ⟨h1, _⟩ | ⟨h1, _⟩
      · rcases hat k' _ e2 with ⟨h2, _⟩ | ⟨h2, _⟩
        · have := (hk0 k ro l1 e1 h1).2; have := (hk0 k' ro' l2 e2 h2).2
          rcases hr with hr | hr <;> simp_all
        · subst h2; rw [hρ6]; exact (hk0 k ro l1 e1 h1).1
      · subst h1
        rcases hat k' _ e2 with ⟨h2, _⟩ | ⟨h2, _⟩
        · rw [hρ6]; exact fun e => (hk0 k' ro' l2 e2 h2).1 e.symm
        · exact absurd h2.symm hkk
    · rcases hat k _ e1 with ⟨h1, h1'⟩ | ⟨rfl, _⟩
      · rw [hρg k h1] at c1 ⊢; exact g1.heap.lt k ro l1 h1' c1
      · rw [hρ6] at c1 ⊢; exact hm.heap.lt key false l hkey c1
    · rcases hat k _ e1 with ⟨h1, h1'⟩ | ⟨rfl, _⟩
      · obtain ⟨lz, ez⟩ := hro k _ h1'
        simp only [SB.segs.injEq] at ez
        cases ez.1
      · right; show (ρ1 600).blk = (ρ key).blk; rw [hρ6]
    · rcases hat k _ e1 with ⟨h1, h1'⟩ | ⟨_, h1⟩
      · obtain ⟨lz, ez⟩ := hro k _ h1'; cases ez
      · cases h1
    · rcases hat k _ e1 with ⟨h1, h1'⟩ | ⟨rfl, _⟩
      · obtain ⟨lz, ez⟩ := hro k _ h1'
        simp only [SB.segs.injEq] at ez
        cases ez.1
      · rw [hρ6] at c1 ⊢; exact hm.clean key l hkey c1
  have hgo : GlOk Γ w M' ρ1 (assoc (Γ.gh ++ [(600, SB.segs false l0)])) := by
    refine ⟨fun g hg => ?_, fun g b hgb => ?_⟩
    · have hdm : dmOf (assoc Γ.gh) g := assoc_dm (by rw [← hgl]; exact hg)
      unfold dmOf at hdm
      obtain ⟨b', hb''⟩ := Option.isSome_iff_exists.1 hdm
      refine ⟨by unfold dmOf; rw [hup g b' hb'']; rfl, ?_, ?_⟩
      · rw [hρg g (hlow g b' hb'')]; exact (g3 g).1
      · rw [hρg g (hlow g b' hb'')]; exact (g3 g).2
    · obtain ⟨lz, vz, q0, q1, q2, _, q4⟩ := g2 g b hgb
      exact ⟨lz, vz, q0, q1, q2, hne g b hgb, q4⟩
  have hdm6 : dmOf (assoc (Γ.gh ++ [(600, SB.segs false l0)])) 600 := by unfold dmOf; rw [hself]; rfl
  have hargs : Ds (dmOf (assoc (Γ.gh ++ [(600, SB.segs false l0)]))) ρ1 (.p 600 0 :: args') (.pointer (some (at_ (ρ key) 0)) :: vr) := by
    simp only [Ds]
    exact ⟨_, vr, ⟨hdm6, by rw [hρ6]⟩, rfl, eqVs_Ds rest args' vr k2 hvr⟩
  refine .inr ⟨f, _, GoFn.run ⟨fn, hf, hn, hb⟩ _ _, (vcM_calls hΓ hf k4 (by simpa using k3) hgo hmem hargs).mono fun e w' he => ?_⟩
  obtain ⟨x, v', h', ρ', rfl, r1, r2, r3, r4⟩ := he
  unfold kvM at r1
  split at r1
  · rename_i l1 hl1
    obtain ⟨t1, t2⟩ := r1
    have hρ' : PlLe (ρ key) (ρ' 600) := by have := (r4 600 hdm6).2; rwa [hρ6] at this
    obtain ⟨cs', s1, s2, s3, s4⟩ := r3.heap.blk 600 _ hl1
    rw [hρ'.cap] at s2
    rw [hρ'.blk, hρ'.off] at s3 s4
    rw [hρ'.cap] at s4
    exact ⟨v', rfl, ρ, .refl _ _, eqV_D x v v' t1 r2, Mem.turn hm hkey hcap r3.frame (eqSegs_D l1 l' cs' t2 s1) s2 s3 (s4 rfl) (by have := r3.clean 600 _ hl1 (by rw [hρ'.cap]; exact hcap); rwa [hρ'.blk] at this)⟩
  · exact r1.elim
end
end Go.Gx

/- Contracts of functions that answer a pointer to a record of its own. -/
namespace Go.Gx
open Go.RowKit
set_option linter.unusedVariables false

/-- A pointer answered, and what the record holds. -/
def kvP (x : SV) (h : Heap) (K : List Seg → Prop) : Prop :=
  match x with
  | .p key c => (match Nat.beq c 0, assoc h key with
    | true, some (.segs false l) => K l
    | _, _ => False)
  | _ => False

def fnVcP (Γ : Tab) (fn : Func) (L : Loops) (args : List SV) (h : Heap) (K : List Seg → Prop) (Q : Nat → List Pv → Prop) : Prop :=
  runFn Γ fn (loopKeysM L) args h (fun x h' => kvP x h' K) (handM L Q)

def ptrCtr (spec : List SV → Option (List Prop × List Seg)) : Ctr := fun stamp args =>
  match spec args with
  | some (p, l) => .get stamp fun b => (match b with
    | none => .ret ⟨p, .p stamp 0, [(stamp, .segs false l)], true⟩
    | some _ => .fail)
  | none => .fail

theorem ptrCtr_run {H : Nat → Option SB} {spec : List SV → Option (List Prop × List Seg)} {stamp : Nat} {args : List SV} {rs rs' : List Nat} {d : Delta} (h : (ptrCtr spec stamp args).run H rs = some (d, rs')) :
    ∃ p l, spec args = some (p, l) ∧ H stamp = none ∧ d = ⟨p, .p stamp 0, [(stamp, .segs false l)], true⟩ := by
  unfold ptrCtr at h
  split at h
  · rename_i p l e
    simp only [RP.run] at h
    split at h
    · rename_i hn
      exact ⟨p, l, e, hn, run_ret h⟩
    · simp [RP.run] at h
  · simp [RP.run] at h

section
variable {P : Program} {Γ : Tab}

/-- The contract of such a function (without loops). -/
theorem call_ptr (hΓ : TabOk P Γ) (hgl : Γ.gl = keysOf Γ.gh) {f : FuncId} {fn : Func} (hf : P.funcs[f]? = some fn) (hn : (fn.name == "runtime.NumGoroutine") = false) (hb : fn.body.isNone = false) (spec : List SV → Option (List Prop × List Seg))
    (h : ∀ args p l, spec args = some (p, l) → AllP p → FactVs args → (∀ dm ρ cs, SegsD dm ρ l cs → 0 < cs.length) ∧ ∃ args', eqVs args args' ∧ args'.length ≤ fn.ntmps ∧ fnVcP Γ fn [] args' Γ.gh (fun l' => eqSegs l' l) (fun _ _ => False)) : CallOk P Γ.gh f (ptrCtr spec) := by
  intro stamp args H rs rs' d vs w0 M ρ w hG hc hp hD hm
  obtain ⟨p, l, hs, hnone, rfl⟩ := ptrCtr_run hc
  obtain ⟨hpos, args', h1, h2, h3⟩ := h args p l hs hp (Ds.fact args vs hD)
  obtain ⟨ρg, g1, g2, g3⟩ := mem_of_glob hG hm
  have hgo : GlOk Γ w (fun _ => False) ρg (assoc Γ.gh) := ⟨fun g hg => ⟨assoc_dm (by rw [← hgl]; exact hg), (g3 g).1, (g3 g).2⟩, g2⟩
  refine .inr ⟨f, vs.toArray, GoFn.run ⟨fn, hf, hn, hb⟩ _ _, (fn_calls hΓ hf hgo h2 (eqVs_Ds args args' vs h1 hD) g1 (fun _ _ _ => False) (fun _ => handM [] fun _ _ => False) (fun _ _ _ hj => hj.elim) (fun _ _ _ hh => hh.elim) (handM [] fun _ _ => False) (fun _ _ hh => hh.elim) h3).mono fun e w' he => ?_⟩
  obtain ⟨x, v, h', ρ', rfl, k1, k2, k3, k4⟩ := he
  unfold kvP at k1
  split at k1
  · rename_i key c
    split at k1
    · rename_i l1 hc0 hkey
      obtain rfl : c = 0 := Nat.eq_of_beq_eq_true hc0
      simp only [D] at k2
      obtain ⟨_, rfl⟩ := k2
      obtain ⟨cs, s1, s2, s3, s4⟩ := k3.heap.blk key _ hkey
      have hcs := eqSegs_D (dm' := fun _ => False) (ρ' := fun _ => ({ blk := 0, off := 0, cap := 0 } : Pl)) l1 l cs k1 s1
      have hcap : 0 < (ρ' key).cap := Nat.lt_of_lt_of_le (hpos _ _ cs hcs) s2
      have hlt := k3.heap.lt key _ _ hkey hcap
      have hown : w.heap.size ≤ (ρ' key).blk := by
        rcases k3.own key _ hkey hcap with hh | hh
        · exact hh
        · exact hh.elim
      have hdm : dmOf (updsH H [(stamp, .segs false l)]) stamp := by unfold dmOf; simp [updsH, updH]
      refine ⟨_, rfl, updP ρ stamp (ρ' key), updP_keeps hnone, ?_, Mem.add hm (k3.frame.below fun _ h => h) hnone hcs s2 s3 (s4 rfl) (fun _ => ⟨hown, hlt⟩) fun _ => k3.clean key _ hkey hcap⟩
      simp only [D]
      exact ⟨hdm, by rw [updP_same]⟩
    · exact k1.elim
  · exact k1.elim
end
end Go.Gx

/- Contracts of methods that turn a record and read slices. -/
namespace Go.Gx
open Go.RowKit
set_option linter.unusedVariables false

section
variable {P : Program} {Γ : Tab}

/-- A callee that gets a record of the caller's (under 600) and sees rows of his (from 500 on). -/
theorem meth_core (hΓ : TabOk P Γ) (hgl : Γ.gl = keysOf Γ.gh) (hg5 : ∀ g ∈ keysOf Γ.gh, g < 500) {f : FuncId} {fn : Func} (hf : P.funcs[f]? = some fn)
    {w0 : World} {M : Nat → Prop} {ρ : Nat → Pl} {H : Nat → Option SB} {w : World} (hG : Glob Γ.gh w0 M) (hm : Mem w0 M ρ H w)
    {key : Nat} {l l0 l' : List Seg} (hkey : H key = some (.segs false l)) (hpos : ∀ dm ρ cs, SegsD dm ρ l cs → 0 < cs.length) (k1 : eqSegs l l0)
    {V : Heap} {pl : Nat → Pl} (hV : ∀ k b, assoc V k = some b → 500 ≤ k ∧ k < 600 ∧ ∃ l cs, b = .segs true l ∧ SegsD (fun _ => False) (fun _ => ({ blk := 0, off := 0, cap := 0 } : Pl)) l cs ∧ cs.length ≤ (pl k).cap ∧ w.rangeAt (pl k).blk (pl k).off cs ∧ (0 < (pl k).cap → (pl k).blk < w.heap.size ∧ (pl k).blk ≠ (ρ key).blk))
    {args' : List SV} {vr : List Value} (hargs' : ∀ (dm' : Nat → Prop) (ρ' : Nat → Pl), (∀ k, (assoc V k).isSome = true → dm' k ∧ ρ' k = pl k) → Ds dm' ρ' args' vr) (k3 : args'.length + 1 ≤ fn.ntmps)
    {v : SV} {L : Loops} {inv : Nat → List Pv → Nat → Prop} (k4 : VcM Γ fn L (Γ.gh ++ (V ++ [(600, .segs false l0)])) (.p 600 0 :: args') (fun x l1 => eqV x v ∧ eqSegs l1 l') inv) :
    Calls P f (.pointer (some (at_ (ρ key) 0)) :: vr).toArray w fun e w' => ∃ v', e = .returned v' ∧ (∀ dm ρ, D dm ρ v v') ∧ Mem w0 M ρ (updH H key (.segs false l')) w' := by
  obtain ⟨cs, hcs, hcl, hra, hth⟩ := hm.heap.blk key _ hkey
  have hcap : 0 < (ρ key).cap := Nat.lt_of_lt_of_le (hpos _ _ cs hcs) hcl
  obtain ⟨ρg, g1, g2, g3⟩ := mem_of_glob hG hm
  have hne : ∀ g b, (g, b) ∈ Γ.gh → g ≠ (ρ key).blk := fun g b hgb e => by
    obtain ⟨_, _, _, _, _, q1, q2⟩ := hG g b hgb
    rcases hm.own key l hkey hcap with hh | hh
    · omega
    · exact q1 (e ▸ hh)
  have hlow : ∀ k b, assoc Γ.gh k = some b → k < 500 := fun k b hb => hg5 k (keysOf_of_dm (by unfold dmOf; rw [hb]; rfl))
  let HH : Heap := Γ.gh ++ (V ++ [(600, SB.segs false l0)])
  have hself : assoc HH 600 = some (.segs false l0) := by
    show assoc (Γ.gh ++ (V ++ [(600, SB.segs false l0)])) 600 = _
    rw [assoc_app]
    split
    · rename_i x hx
      have := hlow _ _ hx; omega
    · rw [assoc_app]
      split
      · rename_i x hx
        have := (hV _ _ hx).2.1; omega
      · rfl
  have hat : ∀ k b, assoc HH k = some b → (k < 500 ∧ assoc Γ.gh k = some b) ∨ (500 ≤ k ∧ k < 600 ∧ assoc V k = some b) ∨ (k = 600 ∧ b = .segs false l0) := fun k b hb => by
    have hb : assoc (Γ.gh ++ (V ++ [(600, SB.segs false l0)])) k = some b := hb
    rw [assoc_app] at hb
    split at hb
    · rename_i x hx
      rw [hb] at hx
      exact .inl ⟨hlow k b hx, hx⟩
    · rw [assoc_app] at hb
      split at hb
      · rename_i x hx
        rw [hb] at hx
        exact .inr (.inl ⟨(hV k b hx).1, (hV k b hx).2.1, hx⟩)
      · simp only [assoc] at hb
        split at hb
        · rename_i e
          exact .inr (.inr ⟨(Nat.eq_of_beq_eq_true e).symm, (Option.some.inj hb).symm⟩)
        · cases hb
  have hup : ∀ k b, assoc Γ.gh k = some b → assoc HH k = some b := fun k b hb => by
    show assoc (Γ.gh ++ (V ++ [(600, SB.segs false l0)])) k = _
    rw [assoc_app, hb]
  have hupV : ∀ k b, assoc V k = some b → assoc HH k = some b := fun k b hb => by
    show assoc (Γ.gh ++ (V ++ [(600, SB.segs false l0)])) k = _
    rw [assoc_app]
    split
    · rename_i x hx
      have := hlow _ _ hx; have := (hV k b hb).1; omega
    · rw [assoc_app, hb]
  let M' : Nat → Prop := fun b => b = (ρ key).blk
  let ρ1 : Nat → Pl := fun k => if k < 500 then ρg k else if k < 600 then pl k else ρ key
  have hρ6 : ρ1 600 = ρ key := by simp [ρ1]
  have hρg : ∀ k, k < 500 → ρ1 k = ρg k := fun k hk => by simp [ρ1, hk]
  have hρv : ∀ k, 500 ≤ k → k < 600 → ρ1 k = pl k := fun k hk hk2 => by simp [ρ1, hk2]; omega
  have hro : ∀ k b, assoc Γ.gh k = some b → ∃ l, b = .segs true l := fun k b hb => by
    obtain ⟨l, _, e, _⟩ := g2 k b (assoc_mem hb); exact ⟨l, e⟩
  have hmem : Mem w M' ρ1 (assoc HH) w := by
    refine ⟨⟨fun k b hb => ?_, fun k k' ro ro' l1 l2 e1 e2 hkk hr c1 c2 => ?_, fun k ro l1 e1 c1 => ?_⟩, FrameW.refl _ _, fun k l1 e1 c1 => ?_, fun k e1 => ?_, fun k l1 e1 c1 => ?_, .none (fun k kd ms e1 => by
      rcases hat k _ e1 with ⟨_, h⟩ | ⟨_, _, h⟩ | ⟨_, h⟩
      · obtain ⟨_, e⟩ := hro k _ h; cases e
      · obtain ⟨_, _, _, _, e, _⟩ := hV k _ h; cases e
      · cases h)⟩
    · rcases hat k b hb with ⟨hk, hb'⟩ | ⟨hk, hk2, hb'⟩ | ⟨rfl, rfl⟩
      · refine (g1.heap.blk k b hb').of_block (fun j hj => ?_) (fun j hj => ?_) (hρg k hk) (fun _ _ _ _ => rfl)
        · unfold dmOf at hj ⊢
          obtain ⟨b', hb''⟩ := Option.isSome_iff_exists.1 hj
          rw [hup j b' hb'']; rfl
        · unfold dmOf at hj
          obtain ⟨b', hb''⟩ := Option.isSome_iff_exists.1 hj
          exact .of_eq (hρg j (hlow j b' hb''))
      · obtain ⟨_, _, lz, cz, rfl, z1, z2, z3, _⟩ := hV k b hb'
        exact ⟨cz, SegsD.mono (fun _ h => h.elim) (fun _ h => h.elim) lz cz z1, by rw [hρv k hk hk2]; exact z2, by rw [hρv k hk hk2]; exact z3, fun h => by cases h⟩
      · exact ⟨cs, eqSegs_D l l0 cs k1 hcs, by rw [hρ6]; exact hcl, by rw [hρ6]; exact hra, fun _ => by rw [hρ6]; exact hth rfl⟩
    · have hk0 : ∀ a b lx, assoc HH a = some (.segs b lx) → a < 600 → 0 < (ρ1 a).cap → (ρ1 a).blk ≠ (ρ key).blk ∧ b = true := fun a b lx ha hlt hca => by
        rcases hat a _ ha with ⟨ha1, ha'⟩ | ⟨ha1, ha2, ha'⟩ | ⟨e, _⟩
        · obtain ⟨lz, ez⟩ := hro a _ ha'
          simp only [SB.segs.injEq] at ez
          exact ⟨by rw [hρg a ha1, (g3 a).1]; exact hne a _ (assoc_mem ha'), ez.1⟩
        · obtain ⟨_, _, lz, cz, ez, z1, z2, z3, z4⟩ := hV a _ ha'
          simp only [SB.segs.injEq] at ez
          rw [hρv a ha1 ha2] at hca ⊢
          exact ⟨(z4 hca).2, ez.1⟩
        · omega
      have hc6 : ∀ a b lx, assoc HH a = some (.segs b lx) → a < 600 ∨ a = 600 := fun a b lx ha => by
        rcases hat a _ ha with ⟨ha1, _⟩ | ⟨_, ha2, _⟩ | ⟨e, _⟩
        · exact .inl (by omega)
        · exact .inl ha2
        · exact .inr e
      rcases hc6 k _ _ e1 with h1 | h1
      · rcases hc6 k' _ _ e2 with h2 | h2
        · have := (hk0 k ro l1 e1 h1 c1).2; have := (hk0 k' ro' l2 e2 h2 c2).2
          rcases hr with hr | hr <;> simp_all
        · subst h2; rw [hρ6]; exact (hk0 k ro l1 e1 h1 c1).1
      · subst h1
        rcases hc6 k' _ _ e2 with h2 | h2
        · rw [hρ6]; exact fun e => (hk0 k' ro' l2 e2 h2 c2).1 e.symm
        · exact absurd h2.symm hkk
    · rcases hat k _ e1 with ⟨h1, h1'⟩ | ⟨h1, h2, h1'⟩ | ⟨rfl, _⟩
      · rw [hρg k h1] at c1 ⊢; exact g1.heap.lt k ro l1 h1' c1
      · obtain ⟨_, _, lz, cz, ez, z1, z2, z3, z4⟩ := hV k _ h1'
        rw [hρv k h1 h2] at c1 ⊢; exact (z4 c1).1
      · rw [hρ6] at c1 ⊢; exact hm.heap.lt key false l hkey c1
    · rcases hat k _ e1 with ⟨h1, h1'⟩ | ⟨h1, h2, h1'⟩ | ⟨rfl, _⟩
      · obtain ⟨lz, ez⟩ := hro k _ h1'
        simp only [SB.segs.injEq] at ez
        cases ez.1
      · obtain ⟨_, _, lz, cz, ez, _⟩ := hV k _ h1'
        simp only [SB.segs.injEq] at ez
        cases ez.1
      · right; show (ρ1 600).blk = (ρ key).blk; rw [hρ6]
    · rcases hat k _ e1 with ⟨h1, h1'⟩ | ⟨h1, h2, h1'⟩ | ⟨_, h1⟩
      · obtain ⟨lz, ez⟩ := hro k _ h1'; cases ez
      · obtain ⟨_, _, lz, cz, ez, _⟩ := hV k _ h1'; cases ez
      · cases h1
    · rcases hat k _ e1 with ⟨h1, h1'⟩ | ⟨h1, h2, h1'⟩ | ⟨rfl, _⟩
      · obtain ⟨lz, ez⟩ := hro k _ h1'
        simp only [SB.segs.injEq] at ez
        cases ez.1
      · obtain ⟨_, _, lz, cz, ez, _⟩ := hV k _ h1'
        simp only [SB.segs.injEq] at ez
        cases ez.1
      · rw [hρ6] at c1 ⊢; exact hm.clean key l hkey c1
  have hgo : GlOk Γ w M' ρ1 (assoc HH) := by
    refine ⟨fun g hg => ?_, fun g b hgb => ?_⟩
    · have hdm : dmOf (assoc Γ.gh) g := assoc_dm (by rw [← hgl]; exact hg)
      unfold dmOf at hdm
      obtain ⟨b', hb''⟩ := Option.isSome_iff_exists.1 hdm
      refine ⟨by unfold dmOf; rw [hup g b' hb'']; rfl, ?_, ?_⟩
      · rw [hρg g (hlow g b' hb'')]; exact (g3 g).1
      · rw [hρg g (hlow g b' hb'')]; exact (g3 g).2
    · obtain ⟨lz, vz, q0, q1, q2, _, q4⟩ := g2 g b hgb
      exact ⟨lz, vz, q0, q1, q2, hne g b hgb, q4⟩
  have hdm6 : dmOf (assoc HH) 600 := by unfold dmOf; rw [hself]; rfl
  have hargs : Ds (dmOf (assoc HH)) ρ1 (.p 600 0 :: args') (.pointer (some (at_ (ρ key) 0)) :: vr) := by
    simp only [Ds]
    refine ⟨_, vr, ⟨hdm6, by rw [hρ6]⟩, rfl, hargs' _ _ fun k hk => ?_⟩
    obtain ⟨b, hb⟩ := Option.isSome_iff_exists.1 hk
    exact ⟨by unfold dmOf; rw [hupV k b hb]; rfl, hρv k (hV k b hb).1 (hV k b hb).2.1⟩
  refine (vcM_calls hΓ hf k4 (by simpa using k3) hgo hmem hargs).mono fun e w' he => ?_
  obtain ⟨x, v', h', ρ', rfl, r1, r2, r3, r4⟩ := he
  unfold kvM at r1
  split at r1
  · rename_i l1 hl1
    obtain ⟨t1, t2⟩ := r1
    have hρ' : PlLe (ρ key) (ρ' 600) := by have := (r4 600 hdm6).2; rwa [hρ6] at this
    obtain ⟨cs', s1, s2, s3, s4⟩ := r3.heap.blk 600 _ hl1
    rw [hρ'.cap] at s2
    rw [hρ'.blk, hρ'.off] at s3 s4
    rw [hρ'.cap] at s4
    exact ⟨v', rfl, fun dm ρ => eqV_D x v v' t1 r2, Mem.turn hm hkey hcap r3.frame (eqSegs_D l1 l' cs' t2 s1) s2 s3 (s4 rfl) (by have := r3.clean 600 _ hl1 (by rw [hρ'.cap]; exact hcap); rwa [hρ'.blk] at this)⟩
  · exact r1.elim

theorem con_est {est : Nat} {q : Con} (h : ∃ g off len p, conSeg g est off len = some (p, q)) : conSize q = est := by
  obtain ⟨g, off, len, p, h⟩ := h
  cases g <;> simp only [conSeg] at h
  · cases h
  · split at h
    · rename_i e _; simp only [Option.some.injEq, Prod.mk.injEq] at h; rw [← h.2]; exact (Nat.eq_of_beq_eq_true e).symm
    · cases h
  · split at h
    · rename_i e; simp only [Option.some.injEq, Prod.mk.injEq] at h; rw [← h.2]; exact (Nat.eq_of_beq_eq_true e).symm
    · cases h
  · split at h
    · rename_i e; simp only [Option.some.injEq, Prod.mk.injEq] at h; rw [← h.2]; exact (Nat.eq_of_beq_eq_true e).symm
    · cases h
  · cases h

/-- 'withCon' of a slice: its row too. -/
theorem withCon_more {w0 : World} {M : Nat → Prop} {ρ : Nat → Pl} {H : Nat → Option SB} {w : World} (hm : Mem w0 M ρ H w) {key c est : Nat} {off len : SI} {v : Value} (hx : D (dmOf H) ρ (.sl key c est off len) v) {f : List Prop → Con → RP Delta} {d : Delta} {rs rs' : List Nat} (h : (withCon (.sl key c est off len) f).run H rs = some (d, rs')) :
    ∃ p q rs1, (f p q).run H rs1 = some (d, rs') ∧ (AllP p → ConAt P w v q) ∧ ∃ ro l, H key = some (.segs ro l) ∧ ∃ g off len p, conSeg g est off len = some (p, q) := by
  have h0 := h
  unfold withCon at h
  simp only [RP.run] at h
  split at h
  · rename_i ro l hkey
    split at h
    · rename_i g hs
      split at h
      · rename_i p q hq
        obtain ⟨p', q', rs1, a1, a2⟩ := withCon_sound (P := P) hm hx (f := fun p' q' => .ret ⟨[q' = q ∧ p' = p], .any, [], false⟩) (d := ⟨[q = q ∧ p = p], .any, [], false⟩) (rs := rs) (rs' := key :: rs) (by
          unfold withCon
          simp only [RP.run, hkey, hs, hq])
        simp only [RP.run, Option.some.injEq, Prod.mk.injEq, Delta.mk.injEq, List.cons.injEq, and_true] at a1
        have e : (q' = q ∧ p' = p) := by have e0 := a1.1; simp only [eq_iff_iff, iff_true] at e0; exact e0
        obtain ⟨rfl, rfl⟩ := e
        exact ⟨p', q', _, h, a2, ro, l, hkey, g, off, len, p', hq⟩
      · simp [RP.run] at h
    · simp [RP.run] at h
  · simp [RP.run] at h

/-- A method with one slice that it reads. -/
def methvCtr (spec : List Seg → Con → Option (List Prop × SV × List Seg)) : Ctr := fun _ args =>
  match args with
  | [.p key c, .sl k1 c1 est off len] => (match Nat.beq c 0, Nat.beq k1 key with
    | true, false => withCon (.sl k1 c1 est off len) fun p q => .get key fun b => (match b with
      | some (.segs false l) => (match spec l q with
        | some (p', v, l') => .ret ⟨p ++ p', v, [(key, .segs false l')], true⟩
        | none => .fail)
      | _ => .fail)
    | _, _ => .fail)
  | _ => .fail

theorem call_methv (hΓ : TabOk P Γ) (hgl : Γ.gl = keysOf Γ.gh) (hg5 : ∀ g ∈ keysOf Γ.gh, g < 500) {f : FuncId} {fn : Func} (hf : P.funcs[f]? = some fn) (hn : (fn.name == "runtime.NumGoroutine") = false) (hb : fn.body.isNone = false) (spec : List Seg → Con → Option (List Prop × SV × List Seg)) (hnt : 2 ≤ fn.ntmps)
    (h : ∀ l q p v l', spec l q = some (p, v, l') → AllP p → FactSegs l → conOk q → ((conLen q : Nat) : Int) < 9223372036854775808 → (∀ dm ρ cs, SegsD dm ρ l cs → 0 < cs.length) ∧ ∃ l0 L inv, eqSegs l l0 ∧ VcM Γ fn L (Γ.gh ++ ([(500, .segs true [conRow q])] ++ [(600, .segs false l0)])) [.p 600 0, .sl 500 0 (conSize q) ⟨true, 0⟩ ⟨false, ((conLen q : Nat) : Int)⟩] (fun x l1 => eqV x v ∧ eqSegs l1 l') inv) : CallOk P Γ.gh f (methvCtr spec) := by
  intro stamp args H rs rs' d vs w0 M ρ w hG hc hp hD hm
  unfold methvCtr at hc
  split at hc
  · rename_i key c k1 c1 est off len
    split at hc
    · rename_i hc0 hkk
      obtain rfl : c = 0 := Nat.eq_of_beq_eq_true hc0
      have hne : k1 ≠ key := fun e => by subst e; rw [Nat.beq_refl] at hkk; cases hkk
      simp only [Ds] at hD
      obtain ⟨v0, vr, hv0, rfl, vs1, vr1, hs1, rfl, rfl⟩ := hD
      obtain ⟨p, q, rs1, hw, hq, ro, lx, hk1, hcE⟩ := withCon_more (P := P) hm hs1 hc
      simp only [RP.run] at hw
      split at hw
      · rename_i l hkey
        split at hw
        · rename_i p' v l' hs
          have e := run_ret hw; subst e
          obtain ⟨hp1, hp2⟩ := AllP.append (l := p) (r := p') hp
          have hcon := hq hp1
          have hs1' := hs1
          simp only [D] at hs1'
          obtain ⟨_, ho, hl, hr, ad, cap, rfl, hlc, hdis⟩ := hs1'
          have hv0' := hv0
          simp only [D] at hv0'
          obtain ⟨hdk, rfl⟩ := hv0'
          obtain ⟨cs, hcs, hcl, hra, hth⟩ := hm.heap.blk key _ hkey
          have hlt : ((conLen q : Nat) : Int) < 9223372036854775808 := by
            have := (hcon.at_ ad _ cap rfl).1
            simp only [InR] at hr
            omega
          obtain ⟨hpos, l0, L, inv, x1, x2⟩ := h l q p' v l' hs hp2 (SegsD.fact l cs hcs) hcon.ok hlt
          have hcap : 0 < (ρ key).cap := Nat.lt_of_lt_of_le (hpos _ _ cs hcs) hcl
          obtain ⟨e1, e2, e3⟩ := hcon.at_ ad _ cap rfl
          obtain ⟨b, o, hpl⟩ : ∃ b o, (conLen q = 0 ∧ cap = 0 ∧ b = 0 ∧ o = 0) ∨ (ad = some ⟨b, o, none⟩ ∧ (0 < conSize q * cap → b < w.heap.size) ∧ w.rangeAt b o (conCells q)) := by
            rcases e3 with ⟨a, b⟩ | ⟨b, o, a⟩
            · exact ⟨0, 0, .inl ⟨a, b, rfl, rfl⟩⟩
            · exact ⟨b, o, .inr a⟩
          have hcl' := conCells_length hcon.ok
          have hle : (conCells q).length ≤ conSize q * cap := by
            rw [hcl', Nat.mul_comm]; exact Nat.mul_le_mul_left _ (by omega)
          have hsep : 0 < conSize q * cap → b ≠ (ρ key).blk := fun h0 => by
            rcases hpl with ⟨z1, z2, _, _⟩ | ⟨ha, _, _⟩
            · rw [z2] at h0; simp at h0
            · rcases hdis with ⟨ha', hc2⟩ | ⟨_, hc0⟩
              · rw [ha'] at ha
                simp only [Option.some.injEq, at_, Addr.mk.injEq] at ha
                rw [← ha.1]
                have hest : conSize q = est := con_est hcE
                have : 0 < est * cap := by rw [← hest]; exact h0
                exact hm.heap.sep k1 key ro false lx l hk1 hkey hne (.inr rfl) (by omega) hcap
              · rw [hc0] at h0; simp at h0
          have hV : ∀ k b', assoc [(500, SB.segs true [conRow q])] k = some b' → 500 ≤ k ∧ k < 600 ∧ ∃ l cs, b' = .segs true l ∧ SegsD (fun _ => False) (fun _ => ({ blk := 0, off := 0, cap := 0 } : Pl)) l cs ∧ cs.length ≤ ({ blk := b, off := o, cap := conSize q * cap } : Pl).cap ∧ w.rangeAt b o cs ∧ (0 < conSize q * cap → b < w.heap.size ∧ b ≠ (ρ key).blk) := fun k b' hb' => by
            simp only [assoc] at hb'
            split at hb'
            · rename_i e
              have e := Nat.eq_of_beq_eq_true e
              subst e
              simp only [Option.some.injEq] at hb'
              subst hb'
              refine ⟨by omega, by omega, _, conCells q, rfl, segs_one (conRow_D hcon.ok), hle, ?_, fun h0 => ⟨?_, hsep h0⟩⟩
              · rcases hpl with ⟨z1, z2, _⟩ | ⟨_, _, hr⟩
                · have : conCells q = [] := List.eq_nil_of_length_eq_zero (by rw [hcl', z1]; simp)
                  rw [this]; exact rangeAt_nil _ _ _
                · exact hr
              · rcases hpl with ⟨z1, z2, _⟩ | ⟨_, hb, _⟩
                · rw [z2] at h0; simp at h0
                · exact hb h0
            · cases hb'
          refine .inr ⟨f, _, GoFn.run ⟨fn, hf, hn, hb⟩ _ _, (meth_core hΓ hgl hg5 hf hG hm hkey hpos x1 (pl := fun _ => { blk := b, off := o, cap := conSize q * cap }) hV (args' := [.sl 500 0 (conSize q) ⟨true, 0⟩ ⟨false, ((conLen q : Nat) : Int)⟩]) (fun dm' ρ' hk => ?_) (by simpa using hnt) x2).mono fun e w' he => ?_⟩
          · obtain ⟨k1', k2'⟩ := hk 500 (by simp only [assoc]; rfl)
            simp only [Ds]
            refine ⟨_, [], ?_, rfl, rfl⟩
            rw [e1]
            refine sl_D k1' _ hlt (by omega) ?_
            rcases hpl with ⟨z1, z2, _⟩ | ⟨hb, _, _⟩
            · exact .inr ⟨z1, z2⟩
            · left
              rw [k2']
              exact ⟨by rw [hb]; simp [at_], Nat.le_refl _⟩
          · obtain ⟨v', rfl, y1, y2⟩ := he
            exact ⟨v', rfl, ρ, .refl _ _, y1 _ _, y2⟩
        · simp [RP.run] at hw
      · simp [RP.run] at hw
    · simp [RP.run] at hc
  · simp [RP.run] at hc
end
end Go.Gx

/- Contracts in general: arguments that are values, data that is only read, records and rows of the caller's; answers that are values, fresh rows, fresh records. -/
namespace Go.Gx
open Go.RowKit
set_option linter.unusedVariables false

/-- How an argument is handed on. -/
inductive Md where
  | v
  | d (sh : Sh)
  | m
  | o

/-- An argument, as a contract sees it. -/
inductive AV where
  | v (x : SV)
  | d (sh : Sh) (d : RO)
  | m (l : List Seg)
  | o (q : Con)

/-- An answer, as a contract tells it. -/
inductive RV where
  | v (x : SV)
  | row (q : Con)
  | ptr (l : List Seg)

def onesOf : List Seg → Option (List SV)
  | [] => some []
  | .one x :: r => (match onesOf r with | some xs => some (x :: xs) | none => none)
  | _ => none

/-- Each of a list, handed on together. -/
def eachRO (g : SV → (List Prop → RO → RP Delta) → RP Delta) : List SV → (List Prop → List RO → RP Delta) → RP Delta
  | [], f => f [] []
  | x :: r, f => g x fun p d => eachRO g r fun p' ds => f (p ++ p') (d :: ds)

/-- Headers of a pool's rows, as data. -/
def hdrRO (k : IntKind) (off len : SI) (pk : Nat) (hs : List (Nat × Nat)) (f : List Prop → RO → RP Delta) : RP Delta :=
  .get pk fun b => (match b with
    | some (.pool k' ms) => (match keq k' k with
      | true => f [off.z + len.z ≤ (hs.length : Int), ∀ h ∈ (hs.drop off.z.toNat).take len.z.toNat, h.2 ≤ (ms.getD h.1 []).length] (.r (((hs.drop off.z.toNat).take len.z.toNat).map fun h => .l ((ms.getD h.1 []).take h.2)))
      | false => .fail)
    | _ => .fail)

mutual
/-- What a value holds, as data of a shape. -/
def viewRO (ban : List Nat) : Sh → SV → (List Prop → RO → RP Delta) → RP Delta
  | .ints k, x, f => (match x with
    | .ro key sh d => .get key fun b => (match b with
      | some .world => (match shEq sh (.ints k) with | true => f [] d | false => .fail)
      | _ => .fail)
    | .nsl => f [] (.l [])
    | .sl key c est off len => (match memN key ban with
      | true => .fail
      | false => withCon (.sl key c est off len) fun p q => (match q with
        | .ints k' l => (match keq k' k with | true => f p (.l l) | false => .fail)
        | _ => .fail))
    | .ps key r len => withCon (.ps key r len) fun p q => (match q with
        | .ints k' l => (match keq k' k with | true => f p (.l l) | false => .fail)
        | _ => .fail)
    | _ => .fail)
  | .l e, x, f => (match x with
    | .ro key sh d => .get key fun b => (match b with
      | some .world => (match shEq sh (.l e) with | true => f [] d | false => .fail)
      | _ => .fail)
    | .nsl => f [] (.r [])
    | .sl key 0 1 ⟨true, .ofNat 0⟩ ⟨true, .ofNat n⟩ => (match memN key ban with
      | true => .fail
      | false => .get key fun b => (match b with
        | some (.segs _ l) => (match onesOf l with
          | some xs => (match Nat.beq xs.length n && Nat.blt 0 n with
            | true => eachRO (viewRO ban e) xs fun p ds => f p (.r ds)
            | false => .fail)
          | none => .fail)
        | _ => .fail))
    | .sl key 0 1 off len => (match memN key ban with
      | true => .fail
      | false => .get key fun b => (match b with
        | some (.segs _ [.rowH pk hs]) => (match e with
          | .ints k => hdrRO k off len pk hs f
          | _ => .fail)
        | _ => .fail))
    | _ => .fail)
  | .r fs, x, f => (match x with
    | .agg xs => viewROs ban fs xs fun p ds => f p (.r ds)
    | _ => .fail)
  | _, _, _ => .fail
def viewROs (ban : List Nat) : List Sh → List SV → (List Prop → List RO → RP Delta) → RP Delta
  | [], xs, f => (match xs with | [] => f [] [] | _ => .fail)
  | s :: fs, xs, f => (match xs with
    | x :: xs => viewRO ban s x fun p d => viewROs ban fs xs fun p' ds => f (p ++ p') (d :: ds)
    | [] => .fail)
end

def ownKeys : List Md → List SV → List Nat
  | .m :: ms, .p key _ :: xs => key :: ownKeys ms xs
  | .o :: ms, .sl key _ _ _ _ :: xs => key :: ownKeys ms xs
  | _ :: ms, _ :: xs => ownKeys ms xs
  | _, _ => []

def getA (ban : List Nat) : List Md → List SV → (List Prop → List AV → RP Delta) → RP Delta
  | [], [], f => f [] []
  | .v :: ms, x :: xs, f => getA ban ms xs fun p avs => f p (.v x :: avs)
  | .d sh :: ms, x :: xs, f => viewRO ban sh x fun p d => getA ban ms xs fun p' avs => f (p ++ p') (.d sh d :: avs)
  | .m :: ms, x :: xs, f => (match x with
    | .p key 0 => .get key fun b => (match b with
      | some (.segs false l) => getA ban ms xs fun p avs => f p (.m l :: avs)
      | _ => .fail)
    | .np => getA ban ms xs fun p avs => f p (.v .np :: avs)
    | _ => .fail)
  | .o :: ms, x :: xs, f => (match x with
    | .sl key 0 est ⟨true, .ofNat 0⟩ len => .get key fun b => (match b with
      | some (.segs false [g]) => (match rowCon g with
        | some q => (match Nat.beq est (conSize q) with
          | true => getA ban ms xs fun p avs => f ((len.z = ((conLen q : Nat) : Int)) :: p) (.o q :: avs)
          | false => .fail)
        | none => .fail)
      | _ => .fail)
    | .nsl => getA ban ms xs fun p avs => f p (.v .nsl :: avs)
    | _ => .fail)
  | _, _, _ => .fail

/-- The fresh block among the answers. -/
def frOf : List RV → Option (List Seg)
  | [] => none
  | .v _ :: r => frOf r
  | .row q :: _ => some [conRow q]
  | .ptr l :: _ => some l
def oneFr : List RV → Bool
  | [] => true
  | .v _ :: r => oneFr r
  | _ :: r => (match frOf r with | some _ => false | none => true)

def resG (stamp : Nat) : RV → SV
  | .v x => x
  | .row q => .sl stamp 0 (conSize q) ⟨true, 0⟩ ⟨false, ((conLen q : Nat) : Int)⟩
  | .ptr _ => .p stamp 0
def resGs (stamp : Nat) : List RV → List SV
  | [] => []
  | r :: t => resG stamp r :: resGs stamp t
def resOf (stamp : Nat) : List RV → SV
  | [r] => resG stamp r
  | rs => .tup (resGs stamp rs)

def finW : List Nat → List (Option (List Seg)) → Option (List (Nat × SB))
  | [], [] => some []
  | k :: ks, some l :: r => (match finW ks r with | some ws => some ((k, .segs false l) :: ws) | none => none)
  | k :: ks, none :: r => (match finW ks r with | some ws => some ((k, .gone) :: ws) | none => none)
  | _, _ => none

def genCtr (ms : List Md) (spec : List AV → Option (List Prop × List RV × List (Option (List Seg)))) : Ctr := fun stamp args =>
  match ownKeys ms args with
  | ks => (match nodupN ks with
    | true => getA ks ms args fun p avs => (match spec avs with
      | some (p', rvs, fin) => (match finW ks fin, oneFr rvs && Nat.ble fin.length 100 with
        | some ws, true => (match frOf rvs with
          | none => .ret ⟨p ++ p', resOf stamp rvs, ws, true⟩
          | some l => .get stamp fun b => (match b with
            | none => .ret ⟨p ++ p', resOf stamp rvs, (stamp, .segs false l) :: ws, true⟩
            | some _ => .fail))
        | _, _ => .fail)
      | none => .fail)
    | false => .fail)

/-! ### The callee's side -/

/-- An answer with what it points to. -/
def canV (h : Heap) (x : SV) (K : RV → Prop) : Prop :=
  match x with
  | .sl key c est off len => (match Nat.ble 1000 key, assoc h key with
    | true, some (.segs false l) => (match segAt l c with
      | some (g, 0) => (match conSeg g est off len with | some (p, q) => preK p (K (.row q)) | none => False)
      | _ => False)
    | _, _ => False)
  | .p key 0 => (match Nat.ble 1000 key, assoc h key with
    | true, some (.segs false l) => K (.ptr l)
    | _, _ => False)
  | x => K (.v x)
def canVs (h : Heap) : List SV → (List RV → Prop) → Prop
  | [], K => K []
  | x :: r, K => canV h x fun y => canVs h r fun ys => K (y :: ys)
def canF (h : Heap) : (j n : Nat) → (List (Option (List Seg)) → Prop) → Prop
  | _, 0, K => K []
  | j, n + 1, K => (match assoc h j with
    | some (.segs false l) => canF h (j + 1) n fun r => K (some l :: r)
    | some .gone => canF h (j + 1) n fun r => K (none :: r)
    | _ => False)
/-- All answers, and what the caller's records hold then. -/
def kvG (n : Nat) (x : SV) (h : Heap) (K : List RV → List (Option (List Seg)) → Prop) : Prop :=
  match x with
  | .tup xs => (match Nat.beq xs.length 1 with | true => False | false => canVs h xs fun rs => canF h 600 n fun fs => K rs fs)
  | x => canV h x fun r => canF h 600 n fun fs => K [r] fs

def eqCon : Con → Con → Prop
  | .ints k l, .ints k' l' => keq k k' = true ∧ l = l'
  | .arrs k n l, .arrs k' n' l' => keq k k' = true ∧ n = n' ∧ l = l'
  | _, _ => False
def eqRV : RV → RV → Prop
  | .v x, .v y => eqV x y
  | .row q, .row q' => eqCon q q'
  | .ptr l, .ptr l' => eqSegs l l'
  | _, _ => False
def eqRV1 (x y : RV) : Prop :=
  match x, y with
  | .v .nsl, .row q => conLen q = 0 ∧ conOk q
  | x, y => eqRV x y
def eqRVs : List RV → List RV → Prop
  | [], [] => True
  | x :: r, y :: t => eqRV1 x y ∧ eqRVs r t
  | _, _ => False
def eqFin : List (Option (List Seg)) → List (Option (List Seg)) → Prop
  | [], [] => True
  | x :: r, y :: t => (match x, y with
    | some l, some l' => eqSegs l l'
    | _, none => True
    | none, some _ => False) ∧ eqFin r t
  | _, _ => False

def fnVcG (n : Nat) (Γ : Tab) (fn : Func) (L : Loops) (args : List SV) (h : Heap) (K : List RV → List (Option (List Seg)) → Prop) (Q : Nat → List Pv → Prop) : Prop :=
  runFn Γ fn (loopKeysM L) args h (fun x h' => kvG n x h' K) (handM L Q)
def loopVcG (n : Nat) (Γ : Tab) (fn : Func) (L : Loops) (key : Nat) (ps : List Pv) (K : List RV → List (Option (List Seg)) → Prop) (Q : Nat → List Pv → Prop) : Prop :=
  match assoc L key with
  | some t => runLoop Γ fn (loopKeysM L) (key % 1000) (instSt t ps) (fun x h' => kvG n x h' K) (handM L Q)
  | none => False

structure VcG (n : Nat) (Γ : Tab) (fn : Func) (L : Loops) (h : Heap) (args : List SV) (K : List RV → List (Option (List Seg)) → Prop) (inv : Nat → List Pv → Nat → Prop) : Prop where
  low : ∀ k t, (k, t) ∈ L → ∀ g, g ∈ keysOf h → g < 1000 ∧ (assoc t.heap g).isSome = true
  loop : ∀ vk t ps m, (vk, t) ∈ L → inv vk ps m → runLoop Γ fn (loopKeysM L) (vk % 1000) (instSt t ps) (fun x h' => kvG n x h' K) (handM L fun key' ps' => ∃ m', m' < m ∧ inv key' ps' m')
  entry : fnVcG n Γ fn L args h K fun key' ps' => ∃ m', inv key' ps' m'

theorem vcG_noloops {n : Nat} {Γ : Tab} {fn : Func} {h : Heap} {args : List SV} {K : List RV → List (Option (List Seg)) → Prop} (hv : fnVcG n Γ fn [] args h K fun _ _ => False) : VcG n Γ fn [] h args K fun _ _ _ => False :=
  ⟨fun k t ht => by simp at ht, fun vk t ps m ht => by simp at ht, by simpa using hv⟩

/-- The callee's arguments and what he finds of the caller's records. -/
def okA : Nat → List AV → List SV → Heap → Prop
  | _, [], [], [] => True
  | j, .v x :: r, y :: t, h => eqV x y ∧ okA j r t h
  | j, .d sh d :: r, y :: t, h => y = svOf 490 sh d ∧ okA j r t h
  | j, .m l :: r, y :: t, (k, b) :: h => y = .p j 0 ∧ k = j ∧ (∃ l', b = .segs false l' ∧ eqSegs l l') ∧ okA (j + 1) r t h
  | j, .o q :: r, y :: t, (k, b) :: h => y = .sl j 0 (conSize q) ⟨true, 0⟩ ⟨false, ((conLen q : Nat) : Int)⟩ ∧ k = j ∧ b = .segs false [conRow q] ∧ okA (j + 1) r t h
  | _, _, _, _ => False

def FactA : List AV → Prop
  | [] => True
  | .v x :: r => FactV x ∧ FactA r
  | .d sh d :: r => RoF sh d ∧ FactA r
  | .m l :: r => FactSegs l ∧ FactA r
  | .o q :: r => (conOk q ∧ ((conLen q : Nat) : Int) < 9223372036854775808) ∧ FactA r

section
variable {P : Program} {Γ : Tab}

/-- What a call has turned and made, in the caller's memory. -/
theorem Mem.merge {w0 : World} {M : Nat → Prop} {ρ ρ' : Nat → Pl} {H H' : Nat → Option SB} {w w' : World} (hm : Mem w0 M ρ H w) {M' : Nat → Prop} (hf : FrameW M' w w') {T : Nat → Prop}
    (hkeep : ∀ k, ¬ T k → H' k = H k) (hρ : ∀ k, dmOf H k → ρ' k = ρ k) (hdm : ∀ k, dmOf H k → dmOf H' k) (hM : ∀ b, M' b → w0.heap.size ≤ b ∨ M b)
    (hsep : ∀ k ro l, ¬ T k → H k = some (.segs ro l) → 0 < (ρ k).cap → ¬ M' (ρ k).blk)
    (hT : ∀ k b, T k → H' k = some b → (b ≠ .world ∧ ∀ a i, b ≠ .alias a i) ∧ ∀ ro l, b = .segs ro l → ro = false ∧ (∃ vs, SegsD (fun _ => False) (fun _ => ({ blk := 0, off := 0, cap := 0 } : Pl)) l vs ∧ vs.length ≤ (ρ' k).cap ∧ w'.rangeAt (ρ' k).blk (ρ' k).off vs ∧ w'.there (ρ' k).blk (ρ' k).off (ρ' k).cap) ∧
      (0 < (ρ' k).cap → (ρ' k).blk < w'.heap.size ∧ (w.heap.size ≤ (ρ' k).blk ∨ M' (ρ' k).blk) ∧ Clean w' (ρ' k).blk))
    (hPT : ∀ k kd ms, T k → H' k ≠ some (.pool kd ms)) (hPM : ∀ k kd ms i, H k = some (.pool kd ms) → i < ms.length → 0 < (ρ k).pc i → ¬ M' ((ρ k).pb i))
    (hTT : ∀ k k' l l', T k → T k' → k ≠ k' → H' k = some (.segs false l) → H' k' = some (.segs false l') → 0 < (ρ' k).cap → 0 < (ρ' k').cap → (ρ' k).blk ≠ (ρ' k').blk) : Mem w0 M ρ' H' w' := by
  have hdk : ∀ k b, H k = some b → dmOf H k := fun k b h => dm_of h
  have hun : ∀ k ro l, ¬ T k → H' k = some (.segs ro l) → 0 < (ρ' k).cap → H k = some (.segs ro l) ∧ ρ' k = ρ k ∧ (ρ' k).blk < w.heap.size ∧ ¬ M' (ρ' k).blk := fun k ro l ht hk hc => by
    rw [hkeep k ht] at hk
    have e := hρ k (hdk k _ hk)
    rw [e] at hc ⊢
    exact ⟨hk, rfl, hm.heap.lt k ro l hk hc, hsep k ro l ht hk hc⟩
  refine ⟨⟨fun k b hb => ?_, fun k k' ro ro' l l' h1 h2 hkk hr c1 c2 => ?_, fun k ro l h1 c1 => ?_⟩, ⟨hf.os.trans hm.frame.os, hf.tape.trans hm.frame.tape, hf.output.trans hm.frame.output, Nat.le_trans hm.frame.size hf.size, fun k hk1 hk2 => ?_⟩, fun k l h1 c1 => ?_, fun k h1 => ?_, fun k l h1 c1 => ?_, ?_⟩
  · by_cases ht : T k
    · obtain ⟨q1, q2⟩ := hT k b ht hb
      cases b with
      | gone => trivial
      | world => trivial
      | pool _ _ => trivial
      | alias a i => exact absurd rfl (q1.2 a i)
      | segs ro l =>
        obtain ⟨rfl, ⟨vs, s1, s2, s3, s4⟩, _⟩ := q2 ro l rfl
        exact ⟨vs, SegsD.mono (fun _ h => h.elim) (fun _ h => h.elim) l vs s1, s2, s3, fun _ => s4⟩
    · rw [hkeep k ht] at hb
      exact (hm.heap.blk k b hb).of_block hdm (fun k hk => .of_eq (hρ k hk)) (hρ k (hdk k _ hb)) fun ro l e c => by
        subst e
        exact hf.block _ (hm.heap.lt k ro l hb c) (hsep k ro l ht hb c)
  · by_cases t1 : T k
    · obtain ⟨rfl, _, q1⟩ := (hT k _ t1 h1).2 ro l rfl
      by_cases t2 : T k'
      · obtain ⟨rfl, _, _⟩ := (hT k' _ t2 h2).2 ro' l' rfl
        exact hTT k k' l l' t1 t2 hkk h1 h2 c1 c2
      · obtain ⟨_, _, a1, a2⟩ := hun k' ro' l' t2 h2 c2
        intro e
        rcases (q1 c1).2.1 with q | q
        · omega
        · rw [e] at q; exact a2 q
    · obtain ⟨b1, b2, a1, a2⟩ := hun k ro l t1 h1 c1
      by_cases t2 : T k'
      · obtain ⟨rfl, _, q1⟩ := (hT k' _ t2 h2).2 ro' l' rfl
        intro e
        rcases (q1 c2).2.1 with q | q
        · omega
        · rw [← e] at q; exact a2 q
      · obtain ⟨d1, d2, _, _⟩ := hun k' ro' l' t2 h2 c2
        rw [b2] at c1 ⊢
        rw [d2] at c2 ⊢
        exact hm.heap.sep k k' ro ro' l l' b1 d1 hkk hr c1 c2
  · by_cases t1 : T k
    · obtain ⟨rfl, _, q1⟩ := (hT k _ t1 h1).2 ro l rfl
      exact (q1 c1).1
    · obtain ⟨_, _, a1, _⟩ := hun k ro l t1 h1 c1
      exact Nat.lt_of_lt_of_le a1 hf.size
  · have hn : ¬ M' k := fun h => by
      rcases hM k h with h | h
      · omega
      · exact hk2 h
    rw [hf.block k (Nat.lt_of_lt_of_le hk1 hm.frame.size) hn]
    exact hm.frame.block k hk1 hk2
  · by_cases t1 : T k
    · obtain ⟨_, _, q1⟩ := (hT k _ t1 h1).2 false l rfl
      rcases (q1 c1).2.1 with q | q
      · exact .inl (Nat.le_trans hm.frame.size q)
      · exact hM _ q
    · obtain ⟨b1, b2, _, _⟩ := hun k false l t1 h1 c1
      rw [b2] at c1 ⊢
      exact hm.own k l b1 c1
  · by_cases t1 : T k
    · exact absurd rfl (hT k _ t1 h1).1.1
    · rw [hkeep k t1] at h1
      rw [hρ k (hdk k _ h1)]
      exact hm.view k h1
  · by_cases t1 : T k
    · obtain ⟨_, _, q1⟩ := (hT k _ t1 h1).2 false l rfl
      exact (q1 c1).2.2
    · obtain ⟨b1, b2, a1, a2⟩ := hun k false l t1 h1 c1
      rw [b2] at c1 ⊢
      rw [b2] at a2
      exact (hm.clean k l b1 c1).of_block (hf.block _ (hm.heap.lt k false l b1 c1) a2)
  · have hpk : ∀ k kd ms, H' k = some (.pool kd ms) → ¬ T k ∧ H k = some (.pool kd ms) ∧ ρ' k = ρ k := fun k kd ms h => by
      have ht : ¬ T k := fun t => hPT k kd ms t h
      rw [hkeep k ht] at h
      exact ⟨ht, h, hρ k (hdk k _ h)⟩
    refine ⟨fun key kd ms hk => ?_, fun key kd ms key' ro l i h1 h2 h3 h4 h5 => ?_, fun key kd ms key' kd' ms' i j h1 h2 h3 h4 h5 h6 h7 => ?_⟩
    · obtain ⟨_, a, b⟩ := hpk key kd ms hk
      rw [b]
      exact (hm.pools.pool key kd ms a).step rfl hf.size (fun _ _ _ h => h) (fun i hi h0 => hf.block _ ((hm.pools.pool key kd ms a).lt i hi h0) (hPM key kd ms i a hi h0))
    · obtain ⟨_, a, b⟩ := hpk key kd ms h1
      rw [b] at h5 ⊢
      have hlt := (hm.pools.pool key kd ms a).lt i h4 h5
      by_cases t : T key'
      · obtain ⟨rfl, _, q⟩ := (hT key' _ t h2).2 ro l rfl
        rcases (q h3).2.1 with q | q
        · omega
        · intro e
          rw [e] at q
          exact hPM key kd ms i a h4 h5 q
      · obtain ⟨b1, b2, _, _⟩ := hun key' ro l t h2 h3
        rw [b2] at h3 ⊢
        exact hm.pools.apart key kd ms key' ro l i a b1 h3 h4 h5
    · obtain ⟨_, a, b⟩ := hpk key kd ms h1
      obtain ⟨_, a', b'⟩ := hpk key' kd' ms' h2
      rw [b] at h6 ⊢
      rw [b'] at h7 ⊢
      exact hm.pools.two key kd ms key' kd' ms' i j a a' h3 h4 h5 h6 h7

theorem vcG_calls {n : Nat} (hΓ : TabOk P Γ) {f : FuncId} {fn : Func} (hf : P.funcs[f]? = some fn) {L : Loops} {h : Heap} {args : List SV} {K : List RV → List (Option (List Seg)) → Prop} {inv : Nat → List Pv → Nat → Prop} (hv : VcG n Γ fn L h args K inv) (hlen : args.length ≤ fn.ntmps)
    {w : World} {M : Nat → Prop} {ρg : Nat → Pl} {vs : List Value} (hgo : GlOk Γ w M ρg (assoc h)) (g1 : Mem w M ρg (assoc h) w) (ha : Ds (dmOf (assoc h)) ρg args vs) :
    Calls P f vs.toArray w fun e w' => ∃ x v h' ρ', e = .returned v ∧ kvG n x h' K ∧ D (dmOf (assoc h')) ρ' x v ∧ Mem w M ρ' (assoc h') w' ∧ ∀ k, dmOf (assoc h) k → dmOf (assoc h') k ∧ PlLe (ρg k) (ρ' k) := by
  have hweak : ∀ vk t σ' ps, (vk, t) ∈ L → matchSt t σ' = some ps → Weak (assoc h) σ' (instSt t ps) := fun vk t σ' ps ht hm =>
    weak_of_match hm fun k hk => hv.low vk t ht k (keysOf_of_dm hk)
  refine (fn_calls hΓ hf hgo hlen ha g1 (fun m key σ => ∃ vk t ps, (vk, t) ∈ L ∧ vk % 1000 = key ∧ σ = instSt t ps ∧ inv vk ps m) (fun m => handM L fun key' ps' => ∃ m', m' < m ∧ inv key' ps' m') (fun m key σ hj => ?_) (fun m key σ' h => ?_)
    (handM L fun key' ps' => ∃ m', inv key' ps' m') (fun key σ' h => ?_) hv.entry).mono fun e w' he => ?_
  · obtain ⟨vk, t, ps, ht, rfl, rfl, hinv⟩ := hj
    exact hv.loop vk t ps m ht hinv
  · obtain ⟨vk, t, ps, ht, hk, hps, m', hlt, hinv⟩ := handM_of h
    exact ⟨m', hlt, _, hweak _ _ _ _ ht hps, vk, t, ps, ht, hk, rfl, hinv⟩
  · obtain ⟨vk, t, ps, ht, hk, hps, m', hinv⟩ := handM_of h
    exact ⟨m', _, hweak _ _ _ _ ht hps, vk, t, ps, ht, hk, rfl, hinv⟩
  · obtain ⟨x, v, h', ρ', rfl, k1, k2, k3, k4⟩ := he
    exact ⟨x, v, h', ρ', rfl, k1, k2, k3, k4⟩

end
end Go.Gx

/- Contracts in general: that they hold. -/
namespace Go.Gx
open Go.RowKit
set_option linter.unusedVariables false

section
variable {P : Program} {Γ : Tab} {w0 : World} {M : Nat → Prop} {ρ : Nat → Pl} {H : Nat → Option SB} {w : World}

theorem ones_D {dm : Nat → Prop} : ∀ (l : List Seg) (xs : List SV) (cs : List Value), onesOf l = some xs → SegsD dm ρ l cs → Ds dm ρ xs cs ∧ (∀ v ∈ cs, v.cells = #[v]) ∧ cs.length = xs.length
  | [], xs, cs, h, hd => by
    simp only [onesOf, Option.some.injEq] at h; subst h
    rw [show cs = [] from hd]
    exact ⟨rfl, (fun v hv => by cases hv), rfl⟩
  | .one x :: r, xs, cs, h, hd => by
    simp only [onesOf] at h
    split at h
    · rename_i ys hy
      simp only [Option.some.injEq] at h; subst h
      obtain ⟨c1, c2, ⟨h1, v, hv, rfl⟩, rfl, h3⟩ := hd
      obtain ⟨q1, q2, q3⟩ := ones_D r ys c2 hy h3
      refine ⟨⟨v, c2, hv, rfl, q1⟩, fun u hu => ?_, by simp [q3]⟩
      simp only [List.cons_append, List.nil_append, List.mem_cons] at hu
      rcases hu with rfl | hu
      · exact (single_cell h1 hv).2
      · exact q2 u hu
    · cases h
  | .arr .. :: r, xs, cs, h, hd => by simp [onesOf] at h
  | .rowI .. :: r, xs, cs, h, hd => by simp [onesOf] at h
  | .rowA .. :: r, xs, cs, h, hd => by simp [onesOf] at h
  | .rowH .. :: r, xs, cs, h, hd => by simp [onesOf] at h

theorem eachRO_sound {R : RO → Value → Prop} {g : SV → (List Prop → RO → RP Delta) → RP Delta} (hg : ∀ (x : SV) (v : Value) (f : List Prop → RO → RP Delta) (d : Delta) (rs rs' : List Nat), D (dmOf H) ρ x v → (g x f).run H rs = some (d, rs') → ∃ p q rs1, (f p q).run H rs1 = some (d, rs') ∧ (AllP p → R q v)) :
    ∀ (xs : List SV) (vs : List Value) (f : List Prop → List RO → RP Delta) (d : Delta) (rs rs' : List Nat), Ds (dmOf H) ρ xs vs → (∀ v ∈ vs, v.cells = #[v]) → (eachRO g xs f).run H rs = some (d, rs') →
      ∃ p ds rs1, (f p ds).run H rs1 = some (d, rs') ∧ (AllP p → ChainR R ds vs) ∧ ds.length = xs.length
  | [], vs, f, d, rs, rs', hd, h1, h => ⟨[], [], rs, h, fun _ => hd, rfl⟩
  | x :: r, vs, f, d, rs, rs', hd, h1, h => by
    simp only [Ds] at hd
    obtain ⟨v, c, hx, rfl, hr⟩ := hd
    simp only [eachRO] at h
    obtain ⟨p, q, rs1, a1, a2⟩ := hg x v _ d rs rs' hx h
    obtain ⟨p', ds, rs2, b1, b2, b3⟩ := eachRO_sound hg r c _ d rs1 rs' hr (fun u hu => h1 u (by simp [hu])) a1
    refine ⟨p ++ p', q :: ds, rs2, b1, fun hp => ?_, by simp [b3]⟩
    obtain ⟨hp1, hp2⟩ := AllP.append (l := p) (r := p') hp
    exact ⟨v, c, a2 hp1, by rw [h1 v (by simp)]; rfl, b2 hp2⟩

/-- What the caller's own data may be seen as. -/
structure BanOk (w0 : World) (M : Nat → Prop) (ρ : Nat → Pl) (H : Nat → Option SB) (ban : List Nat) (M' : Nat → Prop) : Prop where
  own : ∀ key ro l, memN key ban = false → H key = some (.segs ro l) → 0 < (ρ key).cap → ¬ M' (ρ key).blk
  old : ∀ b, b < w0.heap.size → ¬ M b → ¬ M' b
  pool : ∀ key k ms i, H key = some (.pool k ms) → i < ms.length → 0 < (ρ key).pc i → ¬ M' ((ρ key).pb i)

theorem BanOk.keeps {ban : List Nat} {M' : Nat → Prop} (hB : BanOk w0 M ρ H ban M') (hm : Mem w0 M ρ H w) : Keeps w0 w (OutB w0 M) (OutB w M') := fun b hb =>
  ⟨⟨Nat.lt_of_lt_of_le hb.1 hm.frame.size, hB.old b hb.1 hb.2⟩, hm.frame.block b hb.1 hb.2⟩

/-- A pool's row, as data. -/
theorem ps_ro (hm : Mem w0 M ρ H w) {ban : List Nat} {M' : Nat → Prop} (hB : BanOk w0 M ρ H ban M') {key r : Nat} {k : IntKind} {ms : List (List Int)} (hkey : H key = some (.pool k ms)) {len : SI} {v : Value} (hx : D (dmOf H) ρ (.ps key r len) v) (hle : len.z ≤ ((ms.getD r []).length : Int)) :
    RoD w (OutB w M') (.ints k) (.l ((ms.getD r []).take len.z.toNat)) v := by
  simp only [D] at hx
  obtain ⟨hk, hrp, hl, hr, ad, cap, rfl, hlc, hdis⟩ := hx
  have hP := hm.pools.pool key k ms hkey
  have hrl : r < ms.length := by rw [← hP.cnt]; exact hrp
  have hrm : ms[r]? = some (ms.getD r []) := by rw [List.getD_eq_getElem?_getD, List.getElem?_eq_getElem hrl]; rfl
  obtain ⟨a1, a2, a3, a4⟩ := hP.row r _ hrm
  have hll : ((ms.getD r []).take len.z.toNat).length = len.z.toNat := by rw [List.length_take]; omega
  simp only [RoD, InR] at hr ⊢
  have er : roL (.l ((ms.getD r []).take len.z.toNat)) = (ms.getD r []).take len.z.toNat := rfl
  rw [er, hll]
  refine ⟨ad, cap, rfl, hlc, by omega, fun z hz => a1 z (List.mem_of_mem_take hz), ?_⟩
  rcases hdis with ⟨rfl, hcap⟩ | ⟨q1, q2⟩
  · rcases Nat.eq_zero_or_pos cap with h0 | h0
    · exact .inr ⟨by omega, h0⟩
    · have hcp : 0 < (ρ key).pc r := by omega
      refine .inl ⟨_, _, rfl, ⟨hP.lt r hrl hcp, hB.pool key k ms r hkey hrl hcp⟩, fun j u hu => ?_⟩
      rw [List.map_take, List.getElem?_take] at hu
      split at hu
      · exact a3 j u hu
      · cases hu
  · exact .inr ⟨by omega, q2⟩

theorem hdrs_chain (hm : Mem w0 M ρ H w) {ban : List Nat} {M' : Nat → Prop} (hB : BanOk w0 M ρ H ban M') {pk : Nat} {k : IntKind} {ms : List (List Int)} (hkey : H pk = some (.pool k ms)) : ∀ (hs : List (Nat × Nat)) (cs : List Value), HdrsD (dmOf H) ρ pk hs cs →
    (∀ h ∈ hs, h.2 ≤ (ms.getD h.1 []).length) → ChainR (RoD w (OutB w M') (.ints k)) (hs.map fun h => .l ((ms.getD h.1 []).take h.2)) cs
  | [], cs, h, _ => h
  | x :: t, cs, h, hl => by
    obtain ⟨v, c, h1, rfl, h3⟩ := h
    refine ⟨v, c, ?_, ?_, hdrs_chain hm hB hkey t c h3 fun y hy => hl y (by simp [hy])⟩
    · have := ps_ro hm hB hkey h1 (by have := hl x (by simp); simp only; omega)
      simpa using this
    · rw [(single_cell rfl h1).2]; rfl

theorem hdr_ro (hm : Mem w0 M ρ H w) {ban : List Nat} {M' : Nat → Prop} (hB : BanOk w0 M ρ H ban M') {key pk : Nat} {ro : Bool} {hs : List (Nat × Nat)} {k : IntKind} (hban : memN key ban = false) (hkey : H key = some (.segs ro [.rowH pk hs])) {off len : SI} {v : Value} (hx : D (dmOf H) ρ (.sl key 0 1 off len) v)
    {f : List Prop → RO → RP Delta} {d : Delta} {rs rs' : List Nat} (h : (hdrRO k off len pk hs f).run H rs = some (d, rs')) :
    ∃ p q rs1, (f p q).run H rs1 = some (d, rs') ∧ (AllP p → RoD w (OutB w M') (.l (.ints k)) q v) := by
  unfold hdrRO at h
  simp only [RP.run] at h
  split at h
  · rename_i k' ms hpk
    split at h
    · rename_i hkk
      have hkk := keq_eq hkk
      subst hkk
      refine ⟨_, _, _, h, fun hp => ?_⟩
      have hle : off.z + len.z ≤ (hs.length : Int) := hp.1
      have hall := hp.2.1
      simp only [D] at hx
      obtain ⟨_, ho, hl, hr, ad, cap, rfl, hlc, hdis⟩ := hx
      obtain ⟨vs, h1, h2, h3, _⟩ := hm.segs hkey
      obtain ⟨c1, c2, ⟨_, e1⟩, rfl, e3⟩ := h1
      have e4 : c2 = [] := e3
      subst e4
      simp only [List.append_nil] at h2 h3
      have hcl := e1.len
      have hln : (((hs.drop off.z.toNat).take len.z.toNat).map fun h => RO.l ((ms.getD h.1 []).take h.2)).length = len.z.toNat := by simp; omega
      simp only [RoD, InR] at hr ⊢
      have er : ∀ l, roX (.r l) = l := fun _ => rfl
      rw [er, hln]
      refine ⟨ad, cap, (c1.drop off.z.toNat).take len.z.toNat, rfl, hlc, by omega, hdrs_chain hm hB hpk _ _ ((e1.drop _).take _) hall, ?_⟩
      rcases hdis with ⟨rfl, hcap⟩ | ⟨hz, hc0⟩
      · rcases Nat.eq_zero_or_pos cap with h0 | h0
        · exact .inr ⟨by omega, h0⟩
        · have hcp : 0 < (ρ key).cap := by omega
          refine .inl ⟨(ρ key).blk, (ρ key).off + off.z.toNat, by simp [at_], ⟨hm.heap.lt key ro _ hkey hcp, hB.own key ro _ hban hkey hcp⟩, rangeAt_part h3 _ _⟩
      · exact .inr ⟨by omega, hc0⟩
    · simp [RP.run] at h
  · simp [RP.run] at h

mutual
theorem viewRO_sound (P : Program) (hm : Mem w0 M ρ H w) {ban : List Nat} {M' : Nat → Prop} (hB : BanOk w0 M ρ H ban M') : ∀ (sh : Sh) (x : SV) (v : Value) (f : List Prop → RO → RP Delta) (d : Delta) (rs rs' : List Nat), D (dmOf H) ρ x v → (viewRO ban sh x f).run H rs = some (d, rs') →
    ∃ p q rs1, (f p q).run H rs1 = some (d, rs') ∧ (AllP p → RoD w (OutB w M') sh q v)
  | .ints k, x, v, f, d, rs, rs', hx, h => by
    simp only [viewRO] at h
    split at h
    · rename_i key sh dd
      simp only [RP.run] at h
      split at h
      · rename_i hkey
        split at h
        · rename_i he
          have e := shEq_eq _ _ he
          subst e
          simp only [D] at hx
          have hrel := hx.2.1
          rw [hm.view key hkey] at hrel
          exact ⟨[], dd, _, h, fun _ => RoD.mono (hB.keeps hm) _ _ _ hrel⟩
        · simp [RP.run] at h
      · simp [RP.run] at h
    · simp only [D] at hx
      subst hx
      refine ⟨[], _, _, h, fun _ => ?_⟩
      simp only [RoD]
      exact ⟨none, 0, rfl, Nat.le_refl _, by simp [roL], (fun z hz => by cases hz), .inr ⟨rfl, rfl⟩⟩
    · rename_i key c est off len
      split at h
      · simp [RP.run] at h
      · rename_i hban
        obtain ⟨p, q, rs1, hw, hq, ro, lx, hkey, hcE⟩ := withCon_more (P := P) hm hx h
        split at hw
        · rename_i k' l
          split at hw
          · rename_i hkk
            have hkk := keq_eq hkk
            subst hkk
            refine ⟨p, _, rs1, hw, fun hp => ?_⟩
            have hcon := hq hp
            simp only [D] at hx
            obtain ⟨_, ho, hl, hr, ad, cap, rfl, hlc, hdis⟩ := hx
            obtain ⟨e1, e2, e3⟩ := hcon.at_ ad _ cap rfl
            have e1 : len.z.toNat = l.length := e1
            simp only [RoD, InR] at hr ⊢
            have er : roL (.l l) = l := rfl
            rw [er]
            refine ⟨ad, cap, by rw [e1], by omega, by omega, hcon.ok, ?_⟩
            rcases e3 with ⟨a, b⟩ | ⟨b, o, rfl, hlt, hra⟩
            · exact .inr ⟨a, b⟩
            · rcases hdis with ⟨ha', hc2⟩ | ⟨hz, hc0⟩
              · simp only [Option.some.injEq, at_, Addr.mk.injEq, and_true] at ha'
                obtain ⟨hb', ho'⟩ := ha'
                have hest : conSize (Con.ints k' l) = est := con_est hcE
                have hest1 : est = 1 := hest.symm
                subst hest1
                rcases Nat.eq_zero_or_pos cap with h0 | h0
                · exact .inr ⟨by omega, h0⟩
                · have hcp : 0 < (ρ key).cap := by omega
                  refine .inl ⟨b, o, rfl, ⟨hlt (by simpa [conSize] using h0), ?_⟩, hra⟩
                  rw [hb']
                  exact hB.own key ro lx hban hkey hcp
              · exact .inr ⟨by omega, hc0⟩
          · simp [RP.run] at hw
        · simp [RP.run] at hw
    · rename_i key r len
      simp only [withCon, RP.run] at h
      split at h
      · rename_i kk ms hkey
        split at h
        · rename_i hkk
          have hkk := keq_eq hkk
          subst hkk
          refine ⟨_, _, _, h, fun hp => ?_⟩
          have hle : len.z ≤ ((ms.getD r []).length : Int) := hp.1
          exact ps_ro hm hB hkey hx hle
        · simp [RP.run] at h
      · simp [RP.run] at h
    · simp [RP.run] at h
  | .l e, x, v, f, d, rs, rs', hx, h => by
    simp only [viewRO] at h
    split at h
    · rename_i key sh dd
      simp only [RP.run] at h
      split at h
      · rename_i hkey
        split at h
        · rename_i he
          have e := shEq_eq _ _ he
          subst e
          simp only [D] at hx
          have hrel := hx.2.1
          rw [hm.view key hkey] at hrel
          exact ⟨[], dd, _, h, fun _ => RoD.mono (hB.keeps hm) _ _ _ hrel⟩
        · simp [RP.run] at h
      · simp [RP.run] at h
    · simp only [D] at hx
      subst hx
      refine ⟨[], _, _, h, fun _ => ?_⟩
      simp only [RoD]
      exact ⟨none, 0, [], rfl, Nat.le_refl _, by simp [roX], rfl, .inr ⟨rfl, rfl⟩⟩
    · rename_i key n
      split at h
      · simp [RP.run] at h
      · rename_i hban
        simp only [RP.run] at h
        split at h
        · rename_i ro l hkey
          split at h
          · rename_i xs hxs
            split at h
            · rename_i hn
              simp only [Bool.and_eq_true] at hn
              have hn1 := Nat.eq_of_beq_eq_true hn.1
              have hn2 : 0 < n := by have := hn.2; simp [Nat.blt] at this; omega
              obtain ⟨vs, h1, h2, h3, _⟩ := hm.segs hkey
              obtain ⟨q1, q2, q3⟩ := ones_D l xs vs hxs h1
              obtain ⟨p, ds, rs1, a1, a2, a3⟩ := eachRO_sound (R := RoD w (OutB w M') e) (fun x v f d rs rs' hx h => viewRO_sound P hm hB e x v f d rs rs' hx h) xs vs _ d _ rs' q1 q2 h
              refine ⟨p, _, rs1, a1, fun hp => ?_⟩
              simp only [D] at hx
              obtain ⟨_, ho, hl, hr, ad, cap, rfl, hlc, hdis⟩ := hx
              have er : roX (.r ds) = ds := rfl
              have hnn : (Int.ofNat n).toNat = n := rfl
              simp only [RoD, InR] at hr ⊢
              rw [er]
              simp only [hnn] at hlc ⊢
              rcases hdis with ⟨rfl, hcap⟩ | ⟨hz, hc0⟩
              · refine ⟨_, cap, vs, by rw [a3, hn1]; simp [at_], by omega, by omega, a2 hp, .inl ⟨(ρ key).blk, (ρ key).off, rfl, ?_, h3⟩⟩
                have hcp : 0 < (ρ key).cap := by simp at hcap; omega
                exact ⟨hm.heap.lt key ro l hkey hcp, hB.own key ro l hban hkey hcp⟩
              · simp at hz; omega
            · simp [RP.run] at h
          · simp [RP.run] at h
        · simp [RP.run] at h
    · rename_i key off len _
      split at h
      · simp [RP.run] at h
      · rename_i hban
        simp only [RP.run] at h
        split at h
        · rename_i ro pk hs hkey
          split at h
          · rename_i k
            exact hdr_ro hm hB hban hkey hx h
          · simp [RP.run] at h
        · simp [RP.run] at h
    · simp [RP.run] at h
  | .i _, x, v, f, d, rs, rs', hx, h => by simp [viewRO, RP.run] at h
  | .tb, x, v, f, d, rs, rs', hx, h => by simp [viewRO, RP.run] at h
  | .ts, x, v, f, d, rs, rs', hx, h => by simp [viewRO, RP.run] at h
  | .arr _ _, x, v, f, d, rs, rs', hx, h => by simp [viewRO, RP.run] at h
  | .r fs, x, v, f, d, rs, rs', hx, h => by
    simp only [viewRO] at h
    split at h
    · rename_i xs
      simp only [D] at hx
      obtain ⟨cs, hc, rfl⟩ := hx
      obtain ⟨p, ds, rs1, a1, a2⟩ := viewROs_sound P hm hB fs xs cs _ d rs rs' hc h
      refine ⟨p, _, rs1, a1, fun hp => ?_⟩
      simp only [RoD]
      exact ⟨cs, by simpa using a2 hp [], rfl⟩
    · simp [RP.run] at h
theorem viewROs_sound (P : Program) (hm : Mem w0 M ρ H w) {ban : List Nat} {M' : Nat → Prop} (hB : BanOk w0 M ρ H ban M') : ∀ (fs : List Sh) (xs : List SV) (cs : List Value) (f : List Prop → List RO → RP Delta) (d : Delta) (rs rs' : List Nat), Cs (dmOf H) ρ xs cs → (viewROs ban fs xs f).run H rs = some (d, rs') →
    ∃ p q rs1, (f p q).run H rs1 = some (d, rs') ∧ (AllP p → ∀ pre : List RO, RoCs w (OutB w M') fs (.r (pre ++ q)) pre.length cs)
  | [], xs, cs, f, d, rs, rs', hx, h => by
    simp only [viewROs] at h
    split at h
    · rw [show cs = [] from hx]
      exact ⟨[], [], rs, h, fun _ _ => rfl⟩
    · simp [RP.run] at h
  | s :: fs, xs, cs, f, d, rs, rs', hx, h => by
    simp only [viewROs] at h
    split at h
    · rename_i x xs
      simp only [Cs] at hx
      obtain ⟨v, c, h1, rfl, h2⟩ := hx
      obtain ⟨p, q, rs1, a1, a2⟩ := viewRO_sound P hm hB s x v _ d rs rs' h1 h
      obtain ⟨p', ds, rs2, b1, b2⟩ := viewROs_sound P hm hB fs xs c _ d rs1 rs' h2 a1
      refine ⟨p ++ p', q :: ds, rs2, b1, fun hp pre => ?_⟩
      obtain ⟨hp1, hp2⟩ := AllP.append (l := p) (r := p') hp
      simp only [RoCs]
      refine ⟨v, c, ?_, rfl, ?_⟩
      · have : roN (.r (pre ++ q :: ds)) pre.length = q := by simp [roN, roX, List.getD_eq_getElem?_getD]
        rw [this]; exact a2 hp1
      · have := b2 hp2 (pre ++ [q])
        simpa using this
    · simp [RP.run] at h
end

/-- The arguments, as a contract sees them, and the keys of the caller's records among them. -/
def AsD (w : World) (Out : Nat → Prop) (H : Nat → Option SB) (ρ : Nat → Pl) : List AV → List Value → List Nat → Prop
  | [], vs, ks => vs = [] ∧ ks = []
  | .v x :: r, vs, ks => ∃ u c, vs = u :: c ∧ D (dmOf H) ρ x u ∧ AsD w Out H ρ r c ks
  | .d sh d :: r, vs, ks => ∃ u c, vs = u :: c ∧ RoD w Out sh d u ∧ AsD w Out H ρ r c ks
  | .m l :: r, vs, ks => ∃ c k ks', ks = k :: ks' ∧ vs = .pointer (some (at_ (ρ k) 0)) :: c ∧ H k = some (.segs false l) ∧ AsD w Out H ρ r c ks'
  | .o q :: r, vs, ks => ∃ u c k ks', ks = k :: ks' ∧ vs = u :: c ∧ H k = some (.segs false [conRow q]) ∧
      (∃ ad cap, u = .slice ad (conLen q) cap ∧ conLen q ≤ cap ∧ ((conLen q : Nat) : Int) < 9223372036854775808 ∧ ((ad = some (at_ (ρ k) 0) ∧ conSize q * cap ≤ (ρ k).cap) ∨ (conLen q = 0 ∧ cap = 0))) ∧ AsD w Out H ρ r c ks'

theorem getA_sound (P : Program) (hm : Mem w0 M ρ H w) {ban : List Nat} {M' : Nat → Prop} (hB : BanOk w0 M ρ H ban M') : ∀ (ms : List Md) (xs : List SV) (vs : List Value) (f : List Prop → List AV → RP Delta) (d : Delta) (rs rs' : List Nat), Ds (dmOf H) ρ xs vs → (getA ban ms xs f).run H rs = some (d, rs') →
    ∃ p avs rs1, (f p avs).run H rs1 = some (d, rs') ∧ (AllP p → AsD w (OutB w M') H ρ avs vs (ownKeys ms xs))
  | [], [], vs, f, d, rs, rs', hd, h => ⟨[], [], rs, h, fun _ => ⟨hd, rfl⟩⟩
  | [], _ :: _, vs, f, d, rs, rs', hd, h => by simp [getA, RP.run] at h
  | .v :: _, [], vs, f, d, rs, rs', hd, h => by simp [getA, RP.run] at h
  | .d _ :: _, [], vs, f, d, rs, rs', hd, h => by simp [getA, RP.run] at h
  | .m :: _, [], vs, f, d, rs, rs', hd, h => by simp [getA, RP.run] at h
  | .o :: _, [], vs, f, d, rs, rs', hd, h => by simp [getA, RP.run] at h
  | .v :: ms, x :: xs, vs, f, d, rs, rs', hd, h => by
    simp only [Ds] at hd
    obtain ⟨v, c, h1, rfl, h2⟩ := hd
    simp only [getA] at h
    obtain ⟨p, avs, rs1, q1, q2⟩ := getA_sound P hm hB ms xs c _ d rs rs' h2 h
    refine ⟨p, _, rs1, q1, fun hp => ⟨v, c, rfl, h1, ?_⟩⟩
    have : ownKeys (.v :: ms) (x :: xs) = ownKeys ms xs := by cases x <;> rfl
    rw [this]; exact q2 hp
  | .d sh :: ms, x :: xs, vs, f, d, rs, rs', hd, h => by
    simp only [Ds] at hd
    obtain ⟨v, c, h1, rfl, h2⟩ := hd
    simp only [getA] at h
    obtain ⟨p, q, rs1, q1, q2⟩ := viewRO_sound P hm hB sh x v _ d rs rs' h1 h
    obtain ⟨p', avs, rs2, q3, q4⟩ := getA_sound P hm hB ms xs c _ d rs1 rs' h2 q1
    refine ⟨p ++ p', _, rs2, q3, fun hp => ?_⟩
    obtain ⟨hp1, hp2⟩ := AllP.append (l := p) (r := p') hp
    have : ownKeys (.d sh :: ms) (x :: xs) = ownKeys ms xs := by cases x <;> rfl
    rw [this]
    exact ⟨v, c, rfl, q2 hp1, q4 hp2⟩
  | .m :: ms, x :: xs, vs, f, d, rs, rs', hd, h => by
    simp only [Ds] at hd
    obtain ⟨v, c, h1, rfl, h2⟩ := hd
    simp only [getA] at h
    split at h
    · rename_i key
      simp only [RP.run] at h
      split at h
      · rename_i l hkey
        obtain ⟨p, avs, rs1, q1, q2⟩ := getA_sound P hm hB ms xs c _ d _ rs' h2 h
        simp only [D] at h1
        exact ⟨p, _, rs1, q1, fun hp => ⟨c, key, _, rfl, by rw [h1.2], hkey, q2 hp⟩⟩
      · simp [RP.run] at h
    · obtain ⟨p, avs, rs1, q1, q2⟩ := getA_sound P hm hB ms xs c _ d rs rs' h2 h
      exact ⟨p, _, rs1, q1, fun hp => ⟨v, c, rfl, h1, q2 hp⟩⟩
    · simp [RP.run] at h
  | .o :: ms, x :: xs, vs, f, d, rs, rs', hd, h => by
    simp only [Ds] at hd
    obtain ⟨v, c, h1, rfl, h2⟩ := hd
    simp only [getA] at h
    split at h
    · rename_i key est len
      simp only [RP.run] at h
      split at h
      · rename_i g hkey
        split at h
        · rename_i q hq
          split at h
          · rename_i hest
            have hest := Nat.eq_of_beq_eq_true hest
            obtain ⟨p, avs, rs1, q1, q2⟩ := getA_sound P hm hB ms xs c _ d _ rs' h2 h
            have hg : g = conRow q := by
              cases g <;> simp only [rowCon, Option.some.injEq, reduceCtorEq] at hq <;> subst hq <;> rfl
            subst hg
            refine ⟨_, _, rs1, q1, fun hp => ?_⟩
            have hlen : len.z = ((conLen q : Nat) : Int) := hp.1
            simp only [D] at h1
            obtain ⟨_, ho, hl, hr, ad, cap, rfl, hlc, hdis⟩ := h1
            simp only [InR] at hr
            have hln : len.z.toNat = conLen q := by omega
            refine ⟨_, c, key, _, rfl, rfl, hkey, ⟨ad, cap, by rw [hln], by omega, by omega, ?_⟩, q2 hp.2⟩
            rcases hdis with ⟨ha, hc⟩ | ⟨hz, hc0⟩
            · exact .inl ⟨by simpa using ha, by rw [← hest]; simpa using hc⟩
            · exact .inr ⟨by omega, hc0⟩
          · simp [RP.run] at h
        · simp [RP.run] at h
      · simp [RP.run] at h
    · obtain ⟨p, avs, rs1, q1, q2⟩ := getA_sound P hm hB ms xs c _ d rs rs' h2 h
      exact ⟨p, _, rs1, q1, fun hp => ⟨v, c, rfl, h1, q2 hp⟩⟩
    · simp [RP.run] at h

theorem AsD.fact (hm : Mem w0 M ρ H w) {Out : Nat → Prop} : ∀ (avs : List AV) (vs : List Value) (ks : List Nat), AsD w Out H ρ avs vs ks → FactA avs
  | [], vs, ks, h => trivial
  | .v x :: r, vs, ks, h => by
    obtain ⟨u, c, rfl, h1, h2⟩ := h
    exact ⟨D.fact x u h1, AsD.fact hm r c ks h2⟩
  | .d sh d :: r, vs, ks, h => by
    obtain ⟨u, c, rfl, h1, h2⟩ := h
    exact ⟨RoD.fact sh d u h1, AsD.fact hm r c ks h2⟩
  | .m l :: r, vs, ks, h => by
    obtain ⟨c, k, ks', rfl, rfl, h1, h2⟩ := h
    obtain ⟨cs, hcs, _⟩ := hm.heap.blk k _ h1
    exact ⟨SegsD.fact l cs hcs, AsD.fact hm r c ks' h2⟩
  | .o q :: r, vs, ks, h => by
    obtain ⟨u, c, k, ks', rfl, rfl, h1, ⟨ad, cap, h3, h4, h5, _⟩, h2⟩ := h
    obtain ⟨cs, ⟨c1, c2, hq, _⟩, _⟩ := hm.heap.blk k _ h1
    refine ⟨⟨?_, h5⟩, AsD.fact hm r c ks' h2⟩
    cases q <;> exact hq.1

theorem AsD.keys {Out : Nat → Prop} : ∀ (avs : List AV) (vs : List Value) (ks : List Nat), AsD w Out H ρ avs vs ks → ∀ k ∈ ks, ∃ l, H k = some (.segs false l)
  | [], vs, ks, h => by obtain ⟨_, rfl⟩ := h; intro k hk; cases hk
  | .v x :: r, vs, ks, h => by
    obtain ⟨u, c, rfl, h1, h2⟩ := h
    exact AsD.keys r c ks h2
  | .d sh d :: r, vs, ks, h => by
    obtain ⟨u, c, rfl, h1, h2⟩ := h
    exact AsD.keys r c ks h2
  | .m l :: r, vs, ks, h => by
    obtain ⟨c, k, ks', rfl, rfl, h1, h2⟩ := h
    intro k' hk
    rcases List.mem_cons.1 hk with rfl | hk
    · exact ⟨_, h1⟩
    · exact AsD.keys r c ks' h2 k' hk
  | .o q :: r, vs, ks, h => by
    obtain ⟨u, c, k, ks', rfl, rfl, h1, _, h2⟩ := h
    intro k' hk
    rcases List.mem_cons.1 hk with rfl | hk
    · exact ⟨_, h1⟩
    · exact AsD.keys r c ks' h2 k' hk

/-- The callee's records are the caller's. -/
theorem okA_heap {Out : Nat → Prop} : ∀ (avs : List AV) (vs : List Value) (ks : List Nat) (j : Nat) (args' : List SV) (h : Heap), AsD w Out H ρ avs vs ks → okA j avs args' h →
    (∀ k b, assoc h k = some b → ∃ i, k = j + i ∧ i < ks.length ∧ ∃ l l', b = .segs false l' ∧ H (ks.getD i 0) = some (.segs false l) ∧ ∀ (dm : Nat → Prop) (ρ' : Nat → Pl) (cs : List Value), SegsD (dmOf H) ρ l cs → SegsD dm ρ' l' cs) ∧
    (∀ i, i < ks.length → (assoc h (j + i)).isSome = true)
  | [], vs, ks, j, [], [], h, ho => by
    obtain ⟨_, rfl⟩ := h
    exact ⟨fun k b hb => by simp [assoc] at hb, fun i hi => by simp at hi⟩
  | [], vs, ks, j, [], _ :: _, h, ho => ho.elim
  | [], vs, ks, j, _ :: _, _, h, ho => by simp [okA] at ho
  | .v x :: r, vs, ks, j, [], h', h, ho => by simp [okA] at ho
  | .v x :: r, vs, ks, j, y :: t, h', h, ho => by
    obtain ⟨u, c, rfl, h1, h2⟩ := h
    exact okA_heap r c ks j t h' h2 ho.2
  | .d sh d :: r, vs, ks, j, [], h', h, ho => by simp [okA] at ho
  | .d sh d :: r, vs, ks, j, y :: t, h', h, ho => by
    obtain ⟨u, c, rfl, h1, h2⟩ := h
    exact okA_heap r c ks j t h' h2 ho.2
  | .m l :: r, vs, ks, j, [], h', h, ho => by simp [okA] at ho
  | .m l :: r, vs, ks, j, y :: t, [], h, ho => by simp [okA] at ho
  | .m l :: r, vs, ks, j, y :: t, (k0, b0) :: h', h, ho => by
    obtain ⟨c, k, ks', rfl, rfl, h1, h2⟩ := h
    obtain ⟨_, rfl, ⟨l', rfl, he⟩, ho⟩ := ho
    obtain ⟨q1, q2⟩ := okA_heap r c ks' (k0 + 1) t h' h2 ho
    refine ⟨fun k b hb => ?_, fun i hi => ?_⟩
    · simp only [assoc] at hb
      split at hb
      · rename_i e
        have e := Nat.eq_of_beq_eq_true e
        simp only [Option.some.injEq] at hb
        subst hb
        exact ⟨0, by omega, by simp, l, l', rfl, by simpa using h1, fun dm ρ' cs hcs => eqSegs_D l l' cs he hcs⟩
      · obtain ⟨i, e, hi, rest⟩ := q1 k b hb
        exact ⟨i + 1, by omega, by simpa using hi, by simpa using rest⟩
    · cases i with
      | zero => simp [assoc, Nat.beq_refl]
      | succ i =>
        have : Nat.beq k0 (k0 + (i + 1)) = false := by
          cases hb : Nat.beq k0 (k0 + (i + 1)) with
          | false => rfl
          | true => have := Nat.eq_of_beq_eq_true hb; omega
        simp only [assoc, this]
        have := q2 i (by simpa using hi)
        rwa [show k0 + 1 + i = k0 + (i + 1) by omega] at this
  | .o q :: r, vs, ks, j, [], h', h, ho => by simp [okA] at ho
  | .o q :: r, vs, ks, j, y :: t, [], h, ho => by simp [okA] at ho
  | .o q :: r, vs, ks, j, y :: t, (k0, b0) :: h', h, ho => by
    obtain ⟨u, c, k, ks', rfl, rfl, h1, _, h2⟩ := h
    obtain ⟨_, rfl, rfl, ho⟩ := ho
    obtain ⟨q1, q2⟩ := okA_heap r c ks' (k0 + 1) t h' h2 ho
    refine ⟨fun k b hb => ?_, fun i hi => ?_⟩
    · simp only [assoc] at hb
      split at hb
      · rename_i e
        have e := Nat.eq_of_beq_eq_true e
        simp only [Option.some.injEq] at hb
        subst hb
        refine ⟨0, by omega, by simp, _, _, rfl, by simpa using h1, fun dm ρ' cs hcs => ?_⟩
        obtain ⟨c1, c2, hq, rfl, hc2⟩ := hcs
        refine ⟨c1, c2, ?_, rfl, hc2⟩
        cases q <;> exact hq
      · obtain ⟨i, e, hi, rest⟩ := q1 k b hb
        exact ⟨i + 1, by omega, by simpa using hi, by simpa using rest⟩
    · cases i with
      | zero => simp [assoc, Nat.beq_refl]
      | succ i =>
        have : Nat.beq k0 (k0 + (i + 1)) = false := by
          cases hb : Nat.beq k0 (k0 + (i + 1)) with
          | false => rfl
          | true => have := Nat.eq_of_beq_eq_true hb; omega
        simp only [assoc, this]
        have := q2 i (by simpa using hi)
        rwa [show k0 + 1 + i = k0 + (i + 1) by omega] at this

theorem okA_args {Out : Nat → Prop} {dm' : Nat → Prop} {ρ' : Nat → Pl} (h490 : dm' 490) (hrel : (ρ' 490).rel = RoD w Out) : ∀ (avs : List AV) (vs : List Value) (ks : List Nat) (j : Nat) (args' : List SV) (h : Heap), AsD w Out H ρ avs vs ks → okA j avs args' h →
    (∀ i, i < ks.length → dm' (j + i) ∧ ρ' (j + i) = ρ (ks.getD i 0)) → Ds dm' ρ' args' vs
  | [], vs, ks, j, [], [], h, ho, hk => h.1
  | [], vs, ks, j, [], _ :: _, h, ho, hk => ho.elim
  | [], vs, ks, j, _ :: _, _, h, ho, hk => by simp [okA] at ho
  | .v x :: r, vs, ks, j, [], h', h, ho, hk => by simp [okA] at ho
  | .v x :: r, vs, ks, j, y :: t, h', h, ho, hk => by
    obtain ⟨u, c, rfl, h1, h2⟩ := h
    exact ⟨u, c, eqV_D x y u ho.1 h1, rfl, okA_args h490 hrel r c ks j t h' h2 ho.2 hk⟩
  | .d sh d :: r, vs, ks, j, [], h', h, ho, hk => by simp [okA] at ho
  | .d sh d :: r, vs, ks, j, y :: t, h', h, ho, hk => by
    obtain ⟨u, c, rfl, h1, h2⟩ := h
    obtain ⟨rfl, ho⟩ := ho
    exact ⟨_, c, svOf_D h490 hrel sh d u h1, rfl, okA_args h490 hrel r c ks j t h' h2 ho hk⟩
  | .m l :: r, vs, ks, j, [], h', h, ho, hk => by simp [okA] at ho
  | .m l :: r, vs, ks, j, y :: t, [], h, ho, hk => by simp [okA] at ho
  | .m l :: r, vs, ks, j, y :: t, (k0, b0) :: h', h, ho, hk => by
    obtain ⟨c, k, ks', rfl, rfl, h1, h2⟩ := h
    obtain ⟨rfl, rfl, ⟨l', rfl, he⟩, ho⟩ := ho
    have h0 := hk 0 (by simp)
    refine ⟨_, c, ⟨by simpa using h0.1, ?_⟩, rfl, okA_args h490 hrel r c ks' (k0 + 1) t h' h2 ho fun i hi => ?_⟩
    · have := h0.2
      simp only [Nat.add_zero, List.getD_cons_zero] at this
      rw [this]
    · have := hk (i + 1) (by simpa using hi)
      rw [show k0 + 1 + i = k0 + (i + 1) by omega]
      simpa using this
  | .o q :: r, vs, ks, j, [], h', h, ho, hk => by simp [okA] at ho
  | .o q :: r, vs, ks, j, y :: t, [], h, ho, hk => by simp [okA] at ho
  | .o q :: r, vs, ks, j, y :: t, (k0, b0) :: h', h, ho, hk => by
    obtain ⟨u, c, k, ks', rfl, rfl, h1, ⟨ad, cap, rfl, h3, h4, h5⟩, h2⟩ := h
    obtain ⟨rfl, rfl, rfl, ho⟩ := ho
    have h0 := hk 0 (by simp)
    refine ⟨_, c, sl_D (by simpa using h0.1) _ h4 h3 ?_, rfl, okA_args h490 hrel r c ks' (k0 + 1) t h' h2 ho fun i hi => ?_⟩
    · have := h0.2
      simp only [Nat.add_zero, List.getD_cons_zero] at this
      rw [this]; exact h5
    · have := hk (i + 1) (by simpa using hi)
      rw [show k0 + 1 + i = k0 + (i + 1) by omega]
      simpa using this

end
end Go.Gx
