/- Of ScalarSpelled, for every input and in every world that holds the program's table as its text lays it: the call returns true, its arguments read as before and nothing else old has turned. No condition besides. -/
import Derived.Test.YtnjcbedjhokfhaaDoorViews
import Derived.Test.YtnjcbedjhokfhaaDoorScY
/- Contracts of functions that answer a slice of numbers in memory of its own. -/
namespace Go.Gx
open Go.RowKit
set_option linter.unusedVariables false

/-- An answer whose first part is a slice of numbers: its numbers, and the other parts. -/
def kvI (k : IntKind) (x : SV) (h : Heap) (K : List Int → List SV → Prop) : Prop :=
  match x with
  | .tup (.sl key c est off len :: r) => (match Nat.beq c 0 && Nat.beq est 1, assoc h key with
    | true, some (.segs false [.rowI k' l]) => (match keq k k' with
      | true => Need (off.z + len.z ≤ (l.length : Int)) ∧ K ((l.drop off.z.toNat).take len.z.toNat) r
      | false => False)
    | _, _ => False)
  | .tup (.nsl :: r) => K [] r
  | _ => False

/-- The loops' heads, each with one pattern or more: a pattern's number is that of the head, plus thousands. -/
def handM : Loops → (Nat → List Pv → Prop) → Nat → St → Prop
  | [], _, _, _ => False
  | (vk, t) :: L, Q, key, σ => (match Nat.beq (vk % 1000) key with
    | true => (match matchSt t σ with | some ps => Q vk ps | none => handM L Q key σ)
    | false => handM L Q key σ)
def loopKeysM : Loops → List Nat
  | [] => []
  | (vk, _) :: L => vk % 1000 :: loopKeysM L

theorem handM_of : ∀ {L : Loops} {Q : Nat → List Pv → Prop} {key : Nat} {σ : St}, handM L Q key σ → ∃ vk t ps, (vk, t) ∈ L ∧ vk % 1000 = key ∧ matchSt t σ = some ps ∧ Q vk ps
  | [], _, _, _, h => h.elim
  | (vk, t) :: L, Q, key, σ, h => by
    simp only [handM] at h
    split at h
    · rename_i e
      split at h
      · rename_i ps hps
        exact ⟨vk, t, ps, by simp, Nat.eq_of_beq_eq_true e, hps, h⟩
      · obtain ⟨vk', t', ps', h1, h2⟩ := handM_of h
        exact ⟨vk', t', ps', by simp [h1], h2⟩
    · obtain ⟨vk', t', ps', h1, h2⟩ := handM_of h
      exact ⟨vk', t', ps', by simp [h1], h2⟩

def fnVcI (Γ : Tab) (fn : Func) (L : Loops) (args : List SV) (h : Heap) (k : IntKind) (K : List Int → List SV → Prop) (Q : Nat → List Pv → Prop) : Prop :=
  runFn Γ fn (loopKeysM L) args h (fun x h' => kvI k x h' K) (handM L Q)
def loopVcI (Γ : Tab) (fn : Func) (L : Loops) (key : Nat) (ps : List Pv) (k : IntKind) (K : List Int → List SV → Prop) (Q : Nat → List Pv → Prop) : Prop :=
  match assoc L key with
  | some t => runLoop Γ fn (loopKeysM L) (key % 1000) (instSt t ps) (fun x h' => kvI k x h' K) (handM L Q)
  | none => False

structure VcI (Γ : Tab) (fn : Func) (L : Loops) (h : Heap) (args : List SV) (k : IntKind) (K : List Int → List SV → Prop) (inv : Nat → List Pv → Nat → Prop) : Prop where
  low : ∀ k t, (k, t) ∈ L → ∀ g, g ∈ keysOf h → g < 1000 ∧ (assoc t.heap g).isSome = true
  loop : ∀ vk t ps m, (vk, t) ∈ L → inv vk ps m → runLoop Γ fn (loopKeysM L) (vk % 1000) (instSt t ps) (fun x h' => kvI k x h' K) (handM L fun key' ps' => ∃ m', m' < m ∧ inv key' ps' m')
  entry : fnVcI Γ fn L args h k K fun key' ps' => ∃ m', inv key' ps' m'

def freshCtr (k : IntKind) (spec : List SV → Option (List Prop × List Int × List SV)) : Ctr := fun stamp args =>
  match spec args with
  | some (p, l, r) => .get stamp fun b => (match b with
    | none => .ret ⟨p, .tup (.sl stamp 0 1 ⟨true, 0⟩ ⟨false, (l.length : Int)⟩ :: r), [(stamp, .segs false [.rowI k l])], true⟩
    | some _ => .fail)
  | none => .fail

theorem freshCtr_run {H : Nat → Option SB} {k : IntKind} {spec : List SV → Option (List Prop × List Int × List SV)} {stamp : Nat} {args : List SV} {rs rs' : List Nat} {d : Delta} (h : (freshCtr k spec stamp args).run H rs = some (d, rs')) :
    ∃ p l r, spec args = some (p, l, r) ∧ H stamp = none ∧ d = ⟨p, .tup (.sl stamp 0 1 ⟨true, 0⟩ ⟨false, (l.length : Int)⟩ :: r), [(stamp, .segs false [.rowI k l])], true⟩ := by
  unfold freshCtr at h
  split at h
  · rename_i p l r e
    simp only [RP.run] at h
    split at h
    · rename_i hn
      exact ⟨p, l, r, e, hn, run_ret h⟩
    · simp [RP.run] at h
  · simp [RP.run] at h

section
variable {P : Program} {Γ : Tab}

/-- A block that a call has made. -/
theorem Mem.add {w0 : World} {M : Nat → Prop} {ρ : Nat → Pl} {H : Nat → Option SB} {w w' : World} (h0 : Mem w0 M ρ H w) (hb : Below w.heap.size w w') {key : Nat} (hn : H key = none) {p : Pl} {l : List Seg} {vs : List Value}
    (hl : SegsD (fun _ => False) (fun _ => ⟨0, 0, 0⟩) l vs) (h1 : vs.length ≤ p.cap) (h2 : w'.rangeAt p.blk p.off vs) (h3 : w'.there p.blk p.off p.cap) (h4 : 0 < p.cap → w.heap.size ≤ p.blk ∧ p.blk < w'.heap.size) :
    Mem w0 M (updP ρ key p) (updH H key (.segs false l)) w' := by
  have h := h0.keep hb
  have hk := updP_keeps (ρ := ρ) (p := p) hn
  have hlt : ∀ k ro l, H k = some (.segs ro l) → 0 < (ρ k).cap → (ρ k).blk < w.heap.size := h0.heap.lt
  refine ⟨⟨fun k b hb => ?_, fun k k' ro ro' l1 l2 e1 e2 hkk hr c1 c2 => ?_, fun k ro l1 e1 c1 => ?_⟩, h.frame, fun k l1 e1 c1 => ?_⟩
  · by_cases e : k = key
    · subst e
      rw [updH_same] at hb
      simp only [Option.some.injEq] at hb; subst hb
      exact ⟨vs, SegsD.mono (fun _ h => h.elim) (fun _ h => h.elim) l vs hl, by rw [updP_same]; exact h1, by rw [updP_same]; exact h2, fun _ => by rw [updP_same]; exact h3⟩
    · rw [updH_ne e] at hb
      exact (h.heap.blk k b hb).of_block (dm_updH _ _ _) hk (updP_ne e) (fun _ _ _ _ => rfl)
  · by_cases e : k = key
    · subst e
      rw [updH_ne (Ne.symm hkk)] at e2
      rw [updP_ne (Ne.symm hkk)] at c2
      rw [updP_same] at c1
      have a := hlt k' ro' l2 e2 c2
      have b := (h4 c1).1
      rw [updP_same, updP_ne (Ne.symm hkk)]; omega
    · rw [updH_ne e] at e1
      rw [updP_ne e] at c1 ⊢
      by_cases e' : k' = key
      · subst e'
        rw [updP_same] at c2
        have a := hlt k ro l1 e1 c1
        have b := (h4 c2).1
        rw [updP_same]; omega
      · rw [updH_ne e'] at e2
        rw [updP_ne e'] at c2 ⊢
        exact h.heap.sep k k' ro ro' l1 l2 e1 e2 hkk hr c1 c2
  · by_cases e : k = key
    · subst e; rw [updP_same] at c1 ⊢; exact (h4 c1).2
    · rw [updH_ne e] at e1; rw [updP_ne e] at c1 ⊢; exact h.heap.lt k ro l1 e1 c1
  · by_cases e : k = key
    · subst e; rw [updP_same] at c1 ⊢; exact .inl (Nat.le_trans h0.frame.size (h4 c1).1)
    · rw [updH_ne e] at e1; rw [updP_ne e] at c1 ⊢; exact h.own k l1 e1 c1

/-- Where the numbers of such an answer lie. -/
theorem kvI_place {w0 w' : World} {k : IntKind} {x : SV} {h : Heap} {ρ : Nat → Pl} {v : Value} {K : List Int → List SV → Prop} (hm : Mem w0 (fun _ => False) ρ (assoc h) w') (hd : D (dmOf (assoc h)) ρ x v) (hk : kvI k x h K) :
    ∃ l r u vs p, K l r ∧ v = .tuple (u :: vs).toArray ∧ Ds (dmOf (assoc h)) ρ r vs ∧ AllR k l ∧ (l.length : Int) < 9223372036854775808 ∧
      (∃ a cap, u = .slice a l.length cap ∧ l.length ≤ cap ∧ ((a = some (at_ p 0) ∧ cap ≤ p.cap) ∨ (l.length = 0 ∧ cap = 0))) ∧
      l.length ≤ p.cap ∧ w'.rangeAt p.blk p.off (l.map (Value.int k)) ∧ w'.there p.blk p.off p.cap ∧ (0 < p.cap → w0.heap.size ≤ p.blk ∧ p.blk < w'.heap.size) := by
  unfold kvI at hk
  split at hk
  · rename_i key c est off len r
    simp only [D, Ds] at hd
    obtain ⟨vs0, ⟨u, vs, hu, rfl, hr⟩, rfl⟩ := hd
    split at hk
    · rename_i k' l hce hkey
      simp only [Bool.and_eq_true] at hce
      have hc0 : c = 0 := Nat.eq_of_beq_eq_true hce.1
      have he1 : est = 1 := Nat.eq_of_beq_eq_true hce.2
      subst hc0 he1
      split at hk
      · rename_i hkk
        obtain rfl : k = k' := keq_eq hkk
        obtain ⟨hn, hK⟩ := hk
        obtain ⟨hdm, ho, hl, hlr, a, cap, rfl, hcap, hpl⟩ := hu
        have hn : off.z + len.z ≤ (l.length : Int) := hn
        simp only [InR] at hlr
        have hbk : BlkD (dmOf (assoc h)) ρ w' key (.segs false [.rowI k l]) := hm.heap.blk key _ hkey
        obtain ⟨cs, hs, h1, h2, h3⟩ := hbk
        have hth := h3 rfl
        obtain ⟨c1, c2, ⟨hall, rfl⟩, rfl, rfl⟩ := hs
        simp only [List.append_nil, List.length_map] at h1 h2
        have hlen : ((l.drop off.z.toNat).take len.z.toNat).length = len.z.toNat := by
          rw [List.length_take, List.length_drop]; omega
        have hallt : AllR k ((l.drop off.z.toNat).take len.z.toNat) := fun z hz => hall z (List.mem_of_mem_drop (List.mem_of_mem_take hz))
        rcases hpl with ⟨ha, hle⟩ | ⟨h0, hc0⟩
        · refine ⟨_, r, _, vs, ⟨(ρ key).blk, (ρ key).off + off.z.toNat, cap⟩, hK, rfl, hr, hallt, by rw [hlen]; omega, ⟨a, cap, by rw [hlen], by rw [hlen]; exact hcap, .inl ⟨by rw [ha]; simp [at_], Nat.le_refl _⟩⟩, by rw [hlen]; exact hcap, ?_, ?_, fun hc => ?_⟩
          · intro j y hj
            simp only [List.map_take, List.map_drop] at hj
            have := h2 (off.z.toNat + j) y (by
              rw [List.getElem?_take] at hj
              split at hj
              · rw [List.getElem?_drop] at hj; exact hj
              · cases hj)
            rw [show (ρ key).off + off.z.toNat + j = (ρ key).off + (off.z.toNat + j) by omega]
            exact this
          · intro j hj
            have hj' : j < cap := hj
            have := hth (off.z.toNat + j) (by simp only [Nat.one_mul] at hle; omega)
            rw [show (ρ key).off + off.z.toNat + j = (ρ key).off + (off.z.toNat + j) by omega]
            exact this
          · have hc : 0 < cap := hc
            have hcp : 0 < (ρ key).cap := by simp only [Nat.one_mul] at hle; omega
            refine ⟨?_, hm.heap.lt key _ _ hkey hcp⟩
            rcases hm.own key _ hkey hcp with h | h
            · exact h
            · exact h.elim
        · have hz : len.z.toNat = 0 := by omega
          refine ⟨_, r, _, vs, ⟨0, 0, 0⟩, hK, rfl, hr, hallt, by rw [hlen]; omega, ⟨a, cap, by rw [hlen], by rw [hlen]; exact hcap, .inr ⟨by rw [hlen]; exact hz, hc0⟩⟩, by rw [hlen]; omega, ?_, fun j hj => by simp at hj, fun hc => by simp at hc⟩
          rw [hz, List.take_zero]
          intro j y hj; simp at hj
      · exact hk.elim
    · exact hk.elim
  · rename_i r
    simp only [D, Ds] at hd
    obtain ⟨vs0, ⟨u, vs, hu, rfl, hr⟩, rfl⟩ := hd
    exact ⟨[], r, u, vs, ⟨0, 0, 0⟩, hk, rfl, hr, fun z hz => by simp at hz, by simp, ⟨none, 0, by simpa using hu, Nat.le_refl _, .inr ⟨rfl, rfl⟩⟩, Nat.le_refl _, fun j y hj => by simp at hj, fun j hj => by simp at hj, fun hc => by simp at hc⟩
  · exact hk.elim

theorem vcI_calls (hΓ : TabOk P Γ) {f : FuncId} {fn : Func} (hf : P.funcs[f]? = some fn) {L : Loops} {h : Heap} {args : List SV} {k : IntKind} {K : List Int → List SV → Prop} {inv : Nat → List Pv → Nat → Prop} (hv : VcI Γ fn L h args k K inv) (hlen : args.length ≤ fn.ntmps)
    {w : World} {ρg : Nat → Pl} {vs : List Value} (hgo : GlOk Γ w (fun _ => False) ρg (assoc h)) (g1 : Mem w (fun _ => False) ρg (assoc h) w) (ha : Ds (dmOf (assoc h)) ρg args vs) :
    Calls P f vs.toArray w fun e w' => ∃ x v h' ρ', e = .returned v ∧ kvI k x h' K ∧ D (dmOf (assoc h')) ρ' x v ∧ Mem w (fun _ => False) ρ' (assoc h') w' ∧ Below w.heap.size w w' := by
  have hweak : ∀ vk t σ' ps, (vk, t) ∈ L → matchSt t σ' = some ps → Weak (assoc h) σ' (instSt t ps) := fun vk t σ' ps ht hm =>
    weak_of_match hm fun k hk => hv.low vk t ht k (keysOf_of_dm hk)
  refine (fn_calls hΓ hf hgo hlen ha g1 (fun m key σ => ∃ vk t ps, (vk, t) ∈ L ∧ vk % 1000 = key ∧ σ = instSt t ps ∧ inv vk ps m) (fun m => handM L fun key' ps' => ∃ m', m' < m ∧ inv key' ps' m') (fun m key σ hj => ?_) (fun m key σ' h => ?_)
    (handM L fun key' ps' => ∃ m', inv key' ps' m') (fun key σ' h => ?_) hv.entry).mono fun e w' he => ?_
  · obtain ⟨vk, t, ps, ht, rfl, rfl, hinv⟩ := hj
    exact hv.loop vk t ps m ht hinv
  · obtain ⟨vk, t, ps, ht, hk, hps, m', hlt, hinv⟩ := handM_of h
    exact ⟨m', hlt, _, hweak _ _ _ _ ht hps, vk, t, ps, ht, hk, rfl, hinv⟩
  · obtain ⟨vk, t, ps, ht, hk, hps, m', hinv⟩ := handM_of h
    exact ⟨m', _, hweak _ _ _ _ ht hps, vk, t, ps, ht, hk, rfl, hinv⟩
  · obtain ⟨x, v, h', ρ', rfl, k1, k2, k3, k4⟩ := he
    exact ⟨x, v, h', ρ', rfl, k1, k2, k3, k3.frame.below fun _ h => h⟩

/-- The contract of such a function. -/
theorem call_fresh {k : IntKind} (hΓ : TabOk P Γ) (hgl : Γ.gl = keysOf Γ.gh) {f : FuncId} {fn : Func} (hf : P.funcs[f]? = some fn) (hn : (fn.name == "runtime.NumGoroutine") = false) (hb : fn.body.isNone = false) (spec : List SV → Option (List Prop × List Int × List SV))
    (h : ∀ args p l r, spec args = some (p, l, r) → AllP p → FactVs args → ∃ args' L inv, eqVs args args' ∧ args'.length ≤ fn.ntmps ∧ VcI Γ fn L Γ.gh args' k (fun l' r' => l = l' ∧ eqVs r' r) inv) : CallOk P Γ.gh f (freshCtr k spec) := by
  intro stamp args H rs rs' d vs w0 M ρ w hG hc hp hD hm
  obtain ⟨p, l, r, hs, hnone, rfl⟩ := freshCtr_run hc
  obtain ⟨args', L, inv, h1, h2, h3⟩ := h args p l r hs hp (Ds.fact args vs hD)
  obtain ⟨ρg, g1, g2, g3⟩ := mem_of_glob hG hm
  have hgo : GlOk Γ w (fun _ => False) ρg (assoc Γ.gh) := ⟨fun g hg => ⟨assoc_dm (by rw [← hgl]; exact hg), (g3 g).1, (g3 g).2⟩, g2⟩
  refine .inr ⟨f, vs.toArray, GoFn.run ⟨fn, hf, hn, hb⟩ _ _, (vcI_calls hΓ hf h3 h2 hgo g1 (eqVs_Ds args args' vs h1 hD)).mono fun e w' he => ?_⟩
  obtain ⟨x, v, h', ρ', rfl, k1, k2, k3, k4⟩ := he
  obtain ⟨l', r', u, vs', p', ⟨rfl, hr⟩, rfl, hrd, hall, hlt, ⟨a, cap, rfl, hcap, hpl⟩, q1, q2, q3, q4⟩ := kvI_place k3 k2 k1
  refine ⟨_, rfl, updP ρ stamp p', updP_keeps hnone, ?_, ?_⟩
  · have hdm : dmOf (updsH H [(stamp, .segs false [.rowI k l])]) stamp := by
      unfold dmOf; simp [updsH, updH]
    simp only [D, Ds]
    refine ⟨_, ⟨_, vs', ⟨hdm, by decide, by omega, ⟨by omega, by omega⟩, a, cap, by simp, by simpa using hcap, ?_⟩, rfl, eqVs_Ds r' r vs' hr hrd⟩, rfl⟩
    rcases hpl with ⟨ha, hle⟩ | ⟨h0, hc0⟩
    · left
      rw [updP_same]
      exact ⟨by rw [ha]; simp, by simpa using hle⟩
    · right
      exact ⟨by omega, hc0⟩
  · exact Mem.add hm k4 hnone ⟨_, _, ⟨hall, rfl⟩, by simp, rfl⟩ (by simpa using q1) q2 q3 q4
end
end Go.Gx

/- A window of bits; the digits. -/
namespace Go.Sp
/-- w bits from bit i on. -/
def winL (n i w : Int) : Int := n / ((2 ^ i.toNat : Nat) : Int) % ((2 ^ w.toNat : Nat) : Int)
end Go.Sp
namespace Go.Gx
open Go.Proofs Go.Sp
open Go.Sp (prI mlL adL sbL pwL halfI invL)
set_option linter.unusedVariables false

theorem win1 (m r w : Nat) (h : r + w ≤ 64) : m % 2 ^ 64 / 2 ^ r % 2 ^ w = m / 2 ^ r % 2 ^ w := by
  rw [show (2 : Nat) ^ 64 = 2 ^ r * 2 ^ (64 - r) by rw [← Nat.pow_add]; congr 1; omega, Nat.mod_mul_right_div_self, Nat.mod_mod_of_dvd _ ⟨2 ^ (64 - r - w), by rw [← Nat.pow_add]; congr 1; omega⟩]
theorem win2 (m r w : Nat) (hr : r ≤ 64) (hw : w ≤ 64) : (m % 2 ^ 64 / 2 ^ r + m / 2 ^ 64 % 2 ^ 64 * 2 ^ (64 - r) % 2 ^ 64) % 2 ^ w = m / 2 ^ r % 2 ^ w := by
  have h64 : (2 : Nat) ^ 64 = 2 ^ r * 2 ^ (64 - r) := by rw [← Nat.pow_add]; congr 1; omega
  have hd : (2 : Nat) ^ w ∣ 2 ^ 64 := ⟨2 ^ (64 - w), by rw [← Nat.pow_add]; congr 1; omega⟩
  have h1 : m / 2 ^ r = m % 2 ^ 64 / 2 ^ r + 2 ^ (64 - r) * (m / 2 ^ 64) := by
    conv => lhs; rw [← Nat.mod_add_div m (2 ^ 64)]
    conv => lhs; rw [show 2 ^ 64 * (m / 2 ^ 64) = 2 ^ r * (2 ^ (64 - r) * (m / 2 ^ 64)) by rw [← Nat.mul_assoc, ← h64]]
    rw [Nat.add_mul_div_left _ _ (Nat.two_pow_pos r)]
  rw [h1, Nat.add_mod, Nat.mod_mod_of_dvd _ hd, Nat.mul_mod (m / 2 ^ 64 % 2 ^ 64), Nat.mod_mod_of_dvd _ hd, ← Nat.mul_mod, ← Nat.add_mod, Nat.mul_comm (m / 2 ^ 64)]

theorem shl_mod (x r : Nat) (h : r ≤ 64) : x * 2 ^ (64 - r) % 2 ^ 64 = x % 2 ^ r * 2 ^ (64 - r) := by
  have e : (2 : Nat) ^ r * 2 ^ (64 - r) = 2 ^ 64 := by rw [← Nat.pow_add]; congr 1; omega
  rw [← e, Nat.mul_mod_mul_right]

theorem wordN (N : Nat) (j : Nat) : ((N : Nat) : Int) / ((2 ^ (64 * j) : Nat) : Int) % 18446744073709551616 = ((N / 2 ^ (64 * j) % 2 ^ 64 : Nat) : Int) := by
  have : (18446744073709551616 : Int) = ((2 ^ 64 : Nat) : Int) := by decide
  rw [this]; exact_mod_cast rfl

/-- The last steps: the mask. -/
theorem mask_tail {x y s m q v : Int} (hy : 0 ≤ y ∧ y ≤ 12) (es : s = shlI .u64 1 y) (em : m = IntKind.u64.wrap (s - 1)) (hx : InR .u64 x) (eq : q = andI .u64 x m) (ev : v = IntKind.i64.wrap q) : v = x % ((2 ^ y.toNat : Nat) : Int) := by
  obtain ⟨k, rfl⟩ := Int.eq_ofNat_of_zero_le hy.1
  have hk : k ≤ 12 := by omega
  rw [shlI_u64 1 k (by omega), Int.one_mul] at es
  have hp : 2 ^ k ≤ 2 ^ 12 := Nat.pow_le_pow_right (by omega) hk
  have hp0 := Nat.two_pow_pos k
  have es' : s = ((2 ^ k : Nat) : Int) := by rw [es, Int.emod_eq_of_lt (by omega) (by omega)]
  rw [wrap_u64] at em
  have em' : m = ((2 ^ k - 1 : Nat) : Int) := by rw [em, es']; omega
  rw [em', and_mask k (by omega) hx] at eq
  rw [Int.toNat_natCast]
  have h2 := Int.emod_nonneg x (show ((2 ^ k : Nat) : Int) ≠ 0 by omega)
  have h3 := Int.emod_lt_of_pos x (show (0 : Int) < ((2 ^ k : Nat) : Int) by omega)
  rw [ev, wrap_i64 (by omega), eq]

/-- The word's place. -/
theorem word_at {b0 b1 b2 b3 i x5 x6 : Int} (hi : 0 ≤ i ∧ i < 4) (hb0 : InR .u64 b0) (hb1 : InR .u64 b1) (hb2 : InR .u64 b2) (hb3 : InR .u64 b3) {N : Nat} (hN : val4 [b0, b1, b2, b3] = N) (e5 : x5 = i) (e6 : x6 = [b0, b1, b2, b3].getD x5.toNat 0) : x6 = ((N / 2 ^ (64 * i.toNat) % 2 ^ 64 : Nat) : Int) := by
  have hw : ([b0, b1, b2, b3] : List Int) = [w0 (val4 [b0, b1, b2, b3]), w1 (val4 [b0, b1, b2, b3]), w2 (val4 [b0, b1, b2, b3]), w3 (val4 [b0, b1, b2, b3])] := (words_val hb0 hb1 hb2 hb3).symm
  rw [e5, hw, getD_words _ i.toNat (by omega), hN, wordN] at e6
  exact e6

def vc70 (a0 a1 a2 a3 x y : Int) (K : SV → Prop) (Q : Nat → List Pv → Prop) : Prop := fnVc Γ18 Tryd.f70 [] [.arr .u64 4 true [a0, a1, a2, a3], .i .i64 ⟨false, x⟩, .i .i64 ⟨false, y⟩] gh K Q
theorem vc70_eq : ∀ (a0 a1 a2 a3 x y : Int) (K : SV → Prop) (Q : Nat → List Pv → Prop), vc70 a0 a1 a2 a3 x y K Q = ((decide (x < (256 : Int)) = true → ∀ (x1 : Int), x1 = IntKind.i64.wrap (x.tdiv (64 : Int)) → InR IntKind.i64 x1 → Need ((0 : Int) ≤ x1 ∧ x1 < (4 : Int)) ∧ Need ((0 : Int) ≤ x1 ∧ x1 < (4 : Int)) ∧ ∀ (x2 : Int), x2 = [a0, a1, a2, a3].getD x1.toNat (0 : Int) → InR IntKind.u64 x2 → ∀ (x3 : Int), x3 = x.tmod (64 : Int) → InR IntKind.i64 x3 → Need ((0 : Int) ≤ x3) ∧ ∀ (x4 : Int), x4 = shrI IntKind.u64 x2 x3 → InR IntKind.u64 x4 → ∀ (x5 : Int), x5 = x.tmod (64 : Int) → InR IntKind.i64 x5 → ∀ (x6 : Int), x6 = IntKind.i64.wrap (x5 + y) → InR IntKind.i64 x6 → (decide (x6 > (64 : Int)) = true → ∀ (x7 : Int), x7 = IntKind.i64.wrap (x.tdiv (64 : Int)) → InR IntKind.i64 x7 → (decide (x7 < (3 : Int)) = true → ∀ (x8 : Int), x8 = IntKind.i64.wrap (x.tdiv (64 : Int)) → InR IntKind.i64 x8 → ∀ (x9 : Int), x9 = IntKind.i64.wrap (x8 + (1 : Int)) → InR IntKind.i64 x9 → Need ((0 : Int) ≤ x9 ∧ x9 < (4 : Int)) ∧ Need ((0 : Int) ≤ x9 ∧ x9 < (4 : Int)) ∧ ∀ (x10 : Int), x10 = [a0, a1, a2, a3].getD x9.toNat (0 : Int) → InR IntKind.u64 x10 → ∀ (x11 : Int), x11 = x.tmod (64 : Int) → InR IntKind.i64 x11 → ∀ (x12 : Int), x12 = IntKind.i64.wrap ((64 : Int) - x11) → InR IntKind.i64 x12 → Need ((0 : Int) ≤ x12) ∧ ∀ (x13 : Int), x13 = shlI IntKind.u64 x10 x12 → InR IntKind.u64 x13 → ∀ (x14 : Int), x14 = orI IntKind.u64 x4 x13 → InR IntKind.u64 x14 → Need ((0 : Int) ≤ y) ∧ ∀ (x15 : Int), x15 = shlI IntKind.u64 (1 : Int) y → InR IntKind.u64 x15 → ∀ (x16 : Int), x16 = IntKind.u64.wrap (x15 - (1 : Int)) → InR IntKind.u64 x16 → ∀ (x17 : Int), x17 = andI IntKind.u64 x14 x16 → InR IntKind.u64 x17 → ∀ (x18 : Int), x18 = IntKind.i64.wrap x17 → InR IntKind.i64 x18 → K (SV.i IntKind.i64 { st := false, z := x18 })) ∧ (decide (x7 < (3 : Int)) = false → Need ((0 : Int) ≤ y) ∧ ∀ (x19 : Int), x19 = shlI IntKind.u64 (1 : Int) y → InR IntKind.u64 x19 → ∀ (x20 : Int), x20 = IntKind.u64.wrap (x19 - (1 : Int)) → InR IntKind.u64 x20 → ∀ (x21 : Int), x21 = andI IntKind.u64 x4 x20 → InR IntKind.u64 x21 → ∀ (x22 : Int), x22 = IntKind.i64.wrap x21 → InR IntKind.i64 x22 → K (SV.i IntKind.i64 { st := false, z := x22 }))) ∧ (decide (x6 > (64 : Int)) = false → Need ((0 : Int) ≤ y) ∧ ∀ (x23 : Int), x23 = shlI IntKind.u64 (1 : Int) y → InR IntKind.u64 x23 → ∀ (x24 : Int), x24 = IntKind.u64.wrap (x23 - (1 : Int)) → InR IntKind.u64 x24 → ∀ (x25 : Int), x25 = andI IntKind.u64 x4 x24 → InR IntKind.u64 x25 → ∀ (x26 : Int), x26 = IntKind.i64.wrap x25 → InR IntKind.i64 x26 → K (SV.i IntKind.i64 { st := false, z := x26 }))) ∧ (decide (x < (256 : Int)) = false → Need ((0 : Int) ≤ y) ∧ ∀ (x27 : Int), x27 = shlI IntKind.u64 (1 : Int) y → InR IntKind.u64 x27 → ∀ (x28 : Int), x28 = IntKind.u64.wrap (x27 - (1 : Int)) → InR IntKind.u64 x28 → ∀ (x29 : Int), x29 = andI IntKind.u64 (0 : Int) x28 → InR IntKind.u64 x29 → ∀ (x30 : Int), x30 = IntKind.i64.wrap x29 → InR IntKind.i64 x30 → K (SV.i IntKind.i64 { st := false, z := x30 }))) := by
  intros
  kernel_rfl

def windowS : List SV → Option (List Prop × SV)
  | [.arr .u64 4 _ aL, .i .i64 xV, .i .i64 yV] => some ([0 ≤ xV.z, xV.z ≤ 4096, 0 ≤ yV.z, yV.z ≤ 12], .i .i64 ⟨false, winL (val4 aL) xV.z yV.z⟩)
  | _ => none

set_option maxHeartbeats 1000000 in
theorem window_ok : CallOk Tryd.prog gh 70 (pureCtr windowS) := by
  refine call_pure (fn := Tryd.f70) Γ18_ok rfl (by kernel_rfl) (by kernel_rfl) (by kernel_rfl) windowS fun args P0 Y0 hs hp hf => ?_
  unfold windowS at hs
  split at hs
  · rename_i ea aL xV yV
    simp only [Option.some.injEq, Prod.mk.injEq] at hs
    obtain ⟨rfl, rfl⟩ := hs
    simp only [FactVs, FactV] at hf
    obtain ⟨⟨hal, ha⟩, hx, hy, _⟩ := hf
    obtain ⟨hi0, hi1, hw0, hw1, _⟩ := hp
    obtain ⟨a0, a1, a2, a3, rfl⟩ := len4 hal
    have ia0 := ha a0 (by simp); have ia1 := ha a1 (by simp); have ia2 := ha a2 (by simp); have ia3 := ha a3 (by simp)
    refine ⟨[.arr .u64 4 true [a0, a1, a2, a3], .i .i64 ⟨false, xV.z⟩, .i .i64 ⟨false, yV.z⟩], [], _, ⟨rfl, rfl, rfl, trivial⟩, Nat.le_of_ble_eq_true (by kernel_rfl), vc_noloops ?_⟩
    show vc70 a0 a1 a2 a3 xV.z yV.z _ _
    rw [vc70_eq]
    generalize xV.z = x at *
    generalize yV.z = y at *
    have hp := val_pos ia0 ia1 ia2 ia3
    obtain ⟨N, hN⟩ := Int.eq_ofNat_of_zero_le hp.1
    have hN2 : N < 2 ^ 256 := by rw [hN] at hp; omega
    obtain ⟨i, rfl⟩ := Int.eq_ofNat_of_zero_le hi0
    obtain ⟨w, rfl⟩ := Int.eq_ofNat_of_zero_le hw0
    have hwin : winL (val4 [a0, a1, a2, a3]) (i : Int) (w : Int) = ((N / 2 ^ i % 2 ^ w : Nat) : Int) := by
      unfold winL
      rw [hN, Int.toNat_natCast, Int.toNat_natCast]
      exact_mod_cast rfl
    have hij : 2 ^ i = 2 ^ (64 * (i / 64)) * 2 ^ (i % 64) := by rw [← Nat.pow_add]; congr 1; omega
    have hdiv : N / 2 ^ i = N / 2 ^ (64 * (i / 64)) / 2 ^ (i % 64) := by rw [hij, Nat.div_div_eq_div_mul]
    have ht : IntKind.i64.wrap ((i : Int).tdiv 64) = ((i / 64 : Nat) : Int) := by rw [tdiv64 (by omega), wrap_i64 (by omega)]; omega
    have hm : (i : Int).tmod 64 = ((i % 64 : Nat) : Int) := by rw [tmod64 (by omega)]; omega
    rw [ht, hm]
    have hjn : ((i / 64 : Nat) : Int).toNat = i / 64 := Int.toNat_natCast _
    have goal : ∀ x v : Int, v = x % ((2 ^ (w : Int).toNat : Nat) : Int) → (∃ X : Nat, x = (X : Int) ∧ X % 2 ^ w = N / 2 ^ i % 2 ^ w) → v = winL (val4 [a0, a1, a2, a3]) (i : Int) (w : Int) := by
      rintro x v hv ⟨X, rfl, hX⟩
      rw [hwin, hv, Int.toNat_natCast, ← hX]
      exact_mod_cast rfl
    refine ⟨fun h => ?_, fun h => ?_⟩
    · have h := of_decide_eq_true h
      have hj : 0 ≤ ((i / 64 : Nat) : Int) ∧ ((i / 64 : Nat) : Int) < 4 := by omega
      intro x1 e1 r1
      refine ⟨need_of (by omega), need_of (by omega), fun x2 e2 r2 x3 e3 r3 => ⟨need_of (by omega), fun x4 e4 r4 x5 e5 r5 x6 e6 r6 => ?_⟩⟩
      have f2 := word_at hj ia0 ia1 ia2 ia3 hN e1 e2
      rw [hjn] at f2
      have f4 : x4 = ((N / 2 ^ (64 * (i / 64)) % 2 ^ 64 / 2 ^ (i % 64) : Nat) : Int) := by
        rw [e3, f2, shrI_u64 _ (i % 64) (by omega)] at e4
        rw [e4]; exact_mod_cast rfl
      rw [e5, wrap_i64 (by omega)] at e6
      refine ⟨fun h6 => ?_, fun h6 => ?_⟩
      · have h6 := of_decide_eq_true h6
        intro x7 e7 r7
        refine ⟨fun h7 => ?_, fun h7 => ?_⟩
        · have h7 := of_decide_eq_true h7
          intro x8 e8 r8 x9 e9 r9
          rw [e8, wrap_i64 (by omega)] at e9
          refine ⟨need_of (by omega), need_of (by omega), fun x10 e10 r10 x11 e11 r11 x12 e12 r12 => ?_⟩
          have hj1 : 0 ≤ (((i / 64 + 1 : Nat)) : Int) ∧ (((i / 64 + 1 : Nat)) : Int) < 4 := by omega
          have f10 := word_at hj1 ia0 ia1 ia2 ia3 hN (show x9 = ((i / 64 + 1 : Nat) : Int) by omega) e10
          rw [Int.toNat_natCast] at f10
          rw [e11, wrap_i64 (by omega)] at e12
          have f12 : x12 = ((64 - i % 64 : Nat) : Int) := by omega
          refine ⟨need_of (by omega), fun x13 e13 r13 x14 e14 r14 => ⟨need_of (by omega), fun x15 e15 r15 x16 e16 r16 x17 e17 r17 x18 e18 r18 => ?_⟩⟩
          have hq : N / 2 ^ (64 * (i / 64 + 1)) = N / 2 ^ (64 * (i / 64)) / 2 ^ 64 := by
            rw [Nat.div_div_eq_div_mul, ← Nat.pow_add]; congr 2
          rw [hq] at f10
          rw [f12, shlI_u64 _ (64 - i % 64) (by omega), f10] at e13
          generalize hM : N / 2 ^ (64 * (i / 64)) = M at *
          generalize hrr : i % 64 = rr at *
          have f13 : x13 = ((M / 2 ^ 64 % 2 ^ 64 * 2 ^ (64 - rr) % 2 ^ 64 : Nat) : Int) := by
            rw [e13]
            have : (18446744073709551616 : Int) = ((2 ^ 64 : Nat) : Int) := by decide
            rw [this]; exact_mod_cast rfl
          have hz : M / 2 ^ 64 % 2 ^ 64 * 2 ^ (64 - rr) % 2 ^ 64 = (M / 2 ^ 64 % 2 ^ 64 % 2 ^ rr) * 2 ^ (64 - rr) := by
            exact shl_mod _ _ (by omega)
          have hlt4 : M % 2 ^ 64 / 2 ^ rr < 2 ^ (64 - rr) := by
            rw [Nat.div_lt_iff_lt_mul (Nat.two_pow_pos rr), ← Nat.pow_add, show 64 - rr + rr = 64 by omega]
            exact Nat.mod_lt _ (Nat.two_pow_pos 64)
          have hor := or_add (64 - rr) (x := x13) (y := x4) (z := ((M / 2 ^ 64 % 2 ^ 64 % 2 ^ rr : Nat) : Int)) r13 r4 (by rw [f13, hz]; exact_mod_cast rfl) (by rw [f4]; exact_mod_cast hlt4)
          rw [orI_comm, hor] at e14
          have k := mask_tail ⟨hw0, hw1⟩ e15 e16 r14 e17 e18
          refine goal _ _ k ⟨M % 2 ^ 64 / 2 ^ rr + M / 2 ^ 64 % 2 ^ 64 * 2 ^ (64 - rr) % 2 ^ 64, ?_, ?_⟩
          · rw [e14, f13, f4]; omega
          · rw [hdiv]; exact win2 M rr w (by omega) (by omega)
        · have h7 := of_decide_eq_false h7
          refine ⟨need_of (by omega), fun x19 e19 r19 x20 e20 r20 x21 e21 r21 x22 e22 r22 => ?_⟩
          have k := mask_tail ⟨hw0, hw1⟩ e19 e20 r4 e21 e22
          refine goal _ _ k ⟨_, f4, ?_⟩
          rw [hdiv]
          have h3 : i / 64 = 3 := by omega
          rw [h3]
          have : N / 2 ^ (64 * 3) < 2 ^ 64 := by rw [Nat.div_lt_iff_lt_mul (Nat.two_pow_pos _), ← Nat.pow_add]; exact hN2
          rw [Nat.mod_eq_of_lt this]
      · have h6 := of_decide_eq_false h6
        refine ⟨need_of (by omega), fun x23 e23 r23 x24 e24 r24 x25 e25 r25 x26 e26 r26 => ?_⟩
        have k := mask_tail ⟨hw0, hw1⟩ e23 e24 r4 e25 e26
        refine goal _ _ k ⟨_, f4, ?_⟩
        rw [hdiv]
        exact win1 _ _ _ (by omega)
    · have h := of_decide_eq_false h
      refine ⟨need_of (by omega), fun x27 e27 r27 x28 e28 r28 x29 e29 r29 x30 e30 r30 => ?_⟩
      have k := mask_tail ⟨hw0, hw1⟩ e27 e28 (inR_zero _) e29 e30
      refine goal _ _ k ⟨0, rfl, ?_⟩
      have : N / 2 ^ i = 0 := by
        rw [Nat.div_eq_zero_iff]
        right
        exact Nat.lt_of_lt_of_le hN2 (Nat.pow_le_pow_right (by omega) (by omega))
      rw [this]
  · cases hs

def Γ19 : Tab := ⟨tys, [(70, pureCtr windowS)] ++ Γ18.ctr, [0], gh⟩
theorem Γ19_ok : TabOk Tryd.prog Γ19 := Γ18_ok.cons window_ok
end Go.Gx

/- Signed digits. -/
namespace Go.Sp
def p2 (w : Int) : Int := ((2 ^ w.toNat : Nat) : Int)
/-- m digits from the k-th on, with what was carried. -/
def dgs (n w : Int) : Nat → Int → Int → List Int
  | 0, _, _ => []
  | m + 1, k, c => if winL n (k * w) w + c > p2 (w - 1) then (winL n (k * w) w + c - p2 w) :: dgs n w m (k + 1) 1 else (winL n (k * w) w + c) :: dgs n w m (k + 1) 0
def digL (n w : Int) : List Int := if w < 1 ∨ w > 12 then [] else dgs n w (253 / w + 1).toNat 0 0
def digE (w : Int) : Int := if w < 1 ∨ w > 12 then 1 else 0
/-- The non-adjacent form from bit i on. -/
def nfs (n w : Int) : Nat → Int → Int → List Int → List Int
  | 0, _, _, l => l
  | m + 1, i, c, l => if i ≤ 253 then (if (winL n i 1 + c) % 2 = 0 then nfs n w m (i + 1) c l else if winL n i w + c ≥ p2 (w - 1) then nfs n w m (i + w) 1 (l.set i.toNat (winL n i w + c - p2 w)) else nfs n w m (i + w) 0 (l.set i.toNat (winL n i w + c))) else l
def nafL (n w : Int) : List Int := if w < 2 ∨ w > 8 then [] else nfs n w 255 0 0 (List.replicate 254 0)
def nafE (w : Int) : Int := if w < 2 ∨ w > 8 then 1 else 0
end Go.Sp
namespace Go.Gx
open Go.Proofs Go.Sp
open Go.Sp (prI mlL adL sbL pwL halfI invL)
set_option linter.unusedVariables false

theorem p2_bd {w : Int} (h : 0 ≤ w ∧ w ≤ 12) : 1 ≤ p2 w ∧ p2 w ≤ 4096 := by
  obtain ⟨k, rfl⟩ := Int.eq_ofNat_of_zero_le h.1
  unfold p2
  rw [Int.toNat_natCast]
  have h1 : 2 ^ k ≤ 2 ^ 12 := Nat.pow_le_pow_right (by omega) (by omega)
  have h2 := Nat.two_pow_pos k
  omega
theorem shl_p2 {w : Int} (h : 0 ≤ w ∧ w ≤ 12) : shlI .i64 1 w = p2 w := by
  have hb := p2_bd h
  have : shlI .i64 1 w = IntKind.i64.wrap (1 * 2 ^ min w.toNat 64) := rfl
  rw [this, show min w.toNat 64 = w.toNat by omega, Int.one_mul, show (2 : Int) ^ w.toNat = p2 w by unfold p2; simp, wrap_i64 (by omega)]
theorem win_bd (n i : Int) {w : Int} (h : 0 ≤ w ∧ w ≤ 12) : 0 ≤ winL n i w ∧ winL n i w < p2 w := by
  have hb := p2_bd h
  unfold winL
  show 0 ≤ _ % p2 w ∧ _ % p2 w < p2 w
  exact ⟨Int.emod_nonneg _ (by omega), Int.emod_lt_of_pos _ (by omega)⟩
theorem win1_bd (n i : Int) : 0 ≤ winL n i 1 ∧ winL n i 1 < 2 := win_bd n i (w := 1) (by omega)
theorem one_len (x : Int) : Need ((1 : Int) ≤ (([x].length : Nat) : Int)) := need_of (by simp)

def L27 : Loops := [(7, ⟨[.any, .i .i64 ⟨false, 0⟩, .p 1000 0, .any, .any, .any, .nsl, .i .i64 ⟨false, 0⟩, .any, .any] ++ reps .any 10 ++ [.i .i64 ⟨false, 0⟩, .i .i64 ⟨false, 0⟩] ++ reps .any 25, gh ++ [(1000, .segs false [.arr .u64 4 false []])], 1018⟩), (1007, ⟨[.any, .i .i64 ⟨false, 0⟩, .p 1000 0, .any, .any, .any, .sl 1001 0 1 ⟨true, 0⟩ ⟨false, 0⟩, .i .i64 ⟨false, 0⟩, .any, .any] ++ reps .any 10 ++ [.i .i64 ⟨false, 0⟩, .i .i64 ⟨false, 0⟩] ++ reps .any 25, gh ++ [(1000, .segs false [.arr .u64 4 false []]), (1001, .segs false [.rowI .i64 []])], 1018⟩)]
def vc27 (a0 a1 a2 a3 x : Int) (K : List Int → List SV → Prop) (Q : Nat → List Pv → Prop) : Prop := fnVcI Γ19 Tryd.f27 L27 [.arr .u64 4 true [a0, a1, a2, a3], .i .i64 ⟨false, x⟩] gh .i64 K Q
def lc27a (w c cnt k : Int) (a : List Int) (K : List Int → List SV → Prop) (Q : Nat → List Pv → Prop) : Prop := loopVcI Γ19 Tryd.f27 L27 7 [.z w, .z c, .z cnt, .z k, .l a] .i64 K Q
def lc27b (w len c cnt k : Int) (a l : List Int) (K : List Int → List SV → Prop) (Q : Nat → List Pv → Prop) : Prop := loopVcI Γ19 Tryd.f27 L27 1007 [.z w, .z len, .z c, .z cnt, .z k, .l a, .l l] .i64 K Q
theorem vc27_eq : ∀ (a0 a1 a2 a3 x : Int) (K : List Int → List SV → Prop) (Q : Nat → List Pv → Prop), vc27 a0 a1 a2 a3 x K Q = ((decide (x < (1 : Int)) = true → K [] [SV.i IntKind.i64 { st := true, z := (1 : Int) }]) ∧ (decide (x < (1 : Int)) = false → (decide (x > (12 : Int)) = true → K [] [SV.i IntKind.i64 { st := true, z := (1 : Int) }]) ∧ (decide (x > (12 : Int)) = false → ∀ (x1 : Int), x1 = w0 (val4 [a0, a1, a2, a3] % (7237005577332262213973186563042994240857116359379907606001950938285454250989 : Int)) → InR IntKind.u64 x1 → ∀ (x2 : Int), x2 = w1 (val4 [a0, a1, a2, a3] % (7237005577332262213973186563042994240857116359379907606001950938285454250989 : Int)) → InR IntKind.u64 x2 → ∀ (x3 : Int), x3 = w2 (val4 [a0, a1, a2, a3] % (7237005577332262213973186563042994240857116359379907606001950938285454250989 : Int)) → InR IntKind.u64 x3 → ∀ (x4 : Int), x4 = w3 (val4 [a0, a1, a2, a3] % (7237005577332262213973186563042994240857116359379907606001950938285454250989 : Int)) → InR IntKind.u64 x4 → Need (x ≠ (0 : Int)) ∧ ∀ (x5 : Int), x5 = IntKind.i64.wrap (Int.tdiv (253 : Int) x) → InR IntKind.i64 x5 → ∀ (x6 : Int), x6 = IntKind.i64.wrap (x5 + (1 : Int)) → InR IntKind.i64 x6 → Same Tryd.f27 (7 : Nat) (itemsOf Tryd.f27 (7 : Nat)) ∧ Q (7 : Nat) [Pv.z x, Pv.z (0 : Int), Pv.z x6, Pv.z (0 : Int), Pv.l [x1, x2, x3, x4]]))) := by
  intros
  kernel_rfl
theorem lc27a_eq : ∀ (w c cnt k : Int) (a : List Int) (K : List Int → List SV → Prop) (Q : Nat → List Pv → Prop), lc27a w c cnt k a K Q = ((decide (k < cnt) = true → ∀ (x1 : Int), x1 = IntKind.i64.wrap (k * w) → InR IntKind.i64 x1 → Need ((0 : Int) ≤ x1) ∧ Need (x1 ≤ (4096 : Int)) ∧ Need ((0 : Int) ≤ w) ∧ Need (w ≤ (12 : Int)) ∧ ∀ (x2 : Int), x2 = winL (val4 a) x1 w → InR IntKind.i64 x2 → ∀ (x3 : Int), x3 = IntKind.i64.wrap (x2 + c) → InR IntKind.i64 x3 → ∀ (x4 : Int), x4 = IntKind.i64.wrap (w - (1 : Int)) → InR IntKind.i64 x4 → Need ((0 : Int) ≤ x4) ∧ ∀ (x5 : Int), x5 = shlI IntKind.i64 (1 : Int) x4 → InR IntKind.i64 x5 → (decide (x3 > x5) = true → Need ((0 : Int) ≤ w) ∧ ∀ (x6 : Int), x6 = shlI IntKind.i64 (1 : Int) w → InR IntKind.i64 x6 → ∀ (x7 : Int), x7 = IntKind.i64.wrap (x3 - x6) → InR IntKind.i64 x7 → Need (↑([] ++ List.take (1 : Nat) (List.drop (0 : Nat) [x7])).length * (8 : Int) ≤ (70368744177664 : Int)) ∧ Need ((1 : Int) ≤ ↑[x7].length) ∧ ∀ (x8 : List Int), x8 = [] ++ List.take (1 : Nat) (List.drop (0 : Nat) [x7]) → AllR IntKind.i64 x8 → ∀ (x9 : Int), x9 = ↑([] ++ List.take (1 : Nat) (List.drop (0 : Nat) [x7])).length → (0 : Int) ≤ x9 → InR IntKind.i64 x9 → ∀ (x10 : Int), x10 = IntKind.i64.wrap (k + (1 : Int)) → InR IntKind.i64 x10 → Same Tryd.f27 (7 : Nat) (itemsOf Tryd.f27 (7 : Nat)) ∧ Q (1007 : Nat) [Pv.z w, Pv.z x9, Pv.z (1 : Int), Pv.z cnt, Pv.z x10, Pv.l a, Pv.l x8]) ∧ (decide (x3 > x5) = false → Need (↑([] ++ List.take (1 : Nat) (List.drop (0 : Nat) [x3])).length * (8 : Int) ≤ (70368744177664 : Int)) ∧ Need ((1 : Int) ≤ ↑[x3].length) ∧ ∀ (x11 : List Int), x11 = [] ++ List.take (1 : Nat) (List.drop (0 : Nat) [x3]) → AllR IntKind.i64 x11 → ∀ (x12 : Int), x12 = ↑([] ++ List.take (1 : Nat) (List.drop (0 : Nat) [x3])).length → (0 : Int) ≤ x12 → InR IntKind.i64 x12 → ∀ (x13 : Int), x13 = IntKind.i64.wrap (k + (1 : Int)) → InR IntKind.i64 x13 → Same Tryd.f27 (7 : Nat) (itemsOf Tryd.f27 (7 : Nat)) ∧ Q (1007 : Nat) [Pv.z w, Pv.z x12, Pv.z (0 : Int), Pv.z cnt, Pv.z x13, Pv.l a, Pv.l x11])) ∧ (decide (k < cnt) = false → K [] [SV.i IntKind.i64 { st := true, z := (0 : Int) }])) := by
  intros
  kernel_rfl
theorem lc27b_eq : ∀ (w len c cnt k : Int) (a l : List Int) (K : List Int → List SV → Prop) (Q : Nat → List Pv → Prop), lc27b w len c cnt k a l K Q = ((decide (k < cnt) = true → ∀ (x1 : Int), x1 = IntKind.i64.wrap (k * w) → InR IntKind.i64 x1 → Need ((0 : Int) ≤ x1) ∧ Need (x1 ≤ (4096 : Int)) ∧ Need ((0 : Int) ≤ w) ∧ Need (w ≤ (12 : Int)) ∧ ∀ (x2 : Int), x2 = winL (val4 a) x1 w → InR IntKind.i64 x2 → ∀ (x3 : Int), x3 = IntKind.i64.wrap (x2 + c) → InR IntKind.i64 x3 → ∀ (x4 : Int), x4 = IntKind.i64.wrap (w - (1 : Int)) → InR IntKind.i64 x4 → Need ((0 : Int) ≤ x4) ∧ ∀ (x5 : Int), x5 = shlI IntKind.i64 (1 : Int) x4 → InR IntKind.i64 x5 → (decide (x3 > x5) = true → Need ((0 : Int) ≤ w) ∧ ∀ (x6 : Int), x6 = shlI IntKind.i64 (1 : Int) w → InR IntKind.i64 x6 → ∀ (x7 : Int), x7 = IntKind.i64.wrap (x3 - x6) → InR IntKind.i64 x7 → Need (↑(l ++ List.take (1 : Nat) (List.drop (0 : Nat) [x7])).length * (8 : Int) ≤ (70368744177664 : Int)) ∧ Need (len = ↑l.length) ∧ Need ((1 : Int) ≤ ↑[x7].length) ∧ ∀ (x8 : List Int), x8 = l ++ List.take (1 : Nat) (List.drop (0 : Nat) [x7]) → AllR IntKind.i64 x8 → ∀ (x9 : Int), x9 = ↑(l ++ List.take (1 : Nat) (List.drop (0 : Nat) [x7])).length → (0 : Int) ≤ x9 → InR IntKind.i64 x9 → ∀ (x10 : Int), x10 = IntKind.i64.wrap (k + (1 : Int)) → InR IntKind.i64 x10 → Same Tryd.f27 (7 : Nat) (itemsOf Tryd.f27 (7 : Nat)) ∧ Q (1007 : Nat) [Pv.z w, Pv.z x9, Pv.z (1 : Int), Pv.z cnt, Pv.z x10, Pv.l a, Pv.l x8]) ∧ (decide (x3 > x5) = false → Need (↑(l ++ List.take (1 : Nat) (List.drop (0 : Nat) [x3])).length * (8 : Int) ≤ (70368744177664 : Int)) ∧ Need (len = ↑l.length) ∧ Need ((1 : Int) ≤ ↑[x3].length) ∧ ∀ (x11 : List Int), x11 = l ++ List.take (1 : Nat) (List.drop (0 : Nat) [x3]) → AllR IntKind.i64 x11 → ∀ (x12 : Int), x12 = ↑(l ++ List.take (1 : Nat) (List.drop (0 : Nat) [x3])).length → (0 : Int) ≤ x12 → InR IntKind.i64 x12 → ∀ (x13 : Int), x13 = IntKind.i64.wrap (k + (1 : Int)) → InR IntKind.i64 x13 → Same Tryd.f27 (7 : Nat) (itemsOf Tryd.f27 (7 : Nat)) ∧ Q (1007 : Nat) [Pv.z w, Pv.z x12, Pv.z (0 : Int), Pv.z cnt, Pv.z x13, Pv.l a, Pv.l x11])) ∧ (decide (k < cnt) = false → Need ((0 : Int) + len ≤ ↑l.length) ∧ K (List.take len.toNat (List.drop (0 : Nat) l)) [SV.i IntKind.i64 { st := true, z := (0 : Int) }])) := by
  intros
  kernel_rfl

theorem round27a {w len c cnt k n : Int} {a l : List Int} {K : List Int → List SV → Prop} {Q : Nat → List Pv → Prop} (hw : 1 ≤ w ∧ w ≤ 12) (hk : 0 ≤ k ∧ k < cnt) (hcnt : cnt = 253 / w + 1) (hc : c = 0 ∨ c = 1) (ha : val4 a = n) (hl : l = [] ∧ len = (l.length : Int) ∧ (l.length : Int) = k)
    (h : ∀ c' d, (c' = 0 ∨ c' = 1) → dgs n w (cnt - k).toNat k c = d :: dgs n w (cnt - (k + 1)).toNat (k + 1) c' → Q 1007 [.z w, .z (k + 1), .z c', .z cnt, .z (k + 1), .l a, .l (l ++ [d])]) : lc27a w c cnt k a K Q := by
  have hkw : 0 ≤ k * w ∧ k * w ≤ 253 := by
    have h1 : k * w ≤ 253 / w * w := Int.mul_le_mul_of_nonneg_right (by omega) (by omega)
    have h2 : 253 / w * w ≤ 253 := Int.ediv_mul_le 253 (by omega)
    exact ⟨Int.mul_nonneg hk.1 (by omega), by omega⟩
  have hcb : cnt ≤ 254 := by
    have : 253 / w ≤ 253 := by rw [Int.ediv_le_iff_le_mul (by omega)]; omega
    omega
  have hs : (cnt - k).toNat = (cnt - (k + 1)).toNat + 1 := by omega
  have hwb := win_bd n (k * w) (w := w) (by omega)
  have hp := p2_bd (w := w) (by omega)
  have hp1 := p2_bd (w := w - 1) (by omega)
  obtain ⟨hl1, hl2, hl3⟩ := hl
  rw [lc27a_eq]
  refine ⟨fun _ x1 e1 r1 => ?_, fun hn => by have := of_decide_eq_false hn; omega⟩
  rw [wrap_i64 (by omega)] at e1
  refine ⟨need_of (by omega), need_of (by omega), need_of (by omega), need_of (by omega), fun x2 e2 r2 x3 e3 r3 x4 e4 r4 => ?_⟩
  rw [e1, ha] at e2
  rw [wrap_i64 (by omega)] at e3 e4
  refine ⟨need_of (by omega), fun x5 e5 r5 => ?_⟩
  rw [e4, shl_p2 (by omega)] at e5
  have hwr : IntKind.i64.wrap (k + 1) = k + 1 := wrap_i64 (by omega)
  refine ⟨fun hg => ?_, fun hg => ?_⟩
  · have hg := of_decide_eq_true hg
    refine ⟨need_of (by omega), fun x6 e6 r6 x7 e7 r7 => ?_⟩
    rw [shl_p2 (by omega)] at e6
    rw [wrap_i64 (by omega)] at e7
    refine ⟨need_of (by simp), one_len _, fun x8 e8 _ x9 e9 _ _ x10 e10 _ => ⟨rfl, ?_⟩⟩
    have f8 : x8 = l ++ [x7] := by rw [e8, hl1]; rfl
    have f9 : x9 = k + 1 := by rw [e9]; simp; rw [hl1] at hl3; simp at hl3; omega
    rw [f8, f9, e10, hwr]
    refine h 1 x7 (.inr rfl) ?_
    rw [hs]
    simp only [dgs]
    rw [if_pos (by omega)]
    congr 1; omega
  · have hg := of_decide_eq_false hg
    refine ⟨need_of (by simp), one_len _, fun x11 e11 _ x12 e12 _ _ x13 e13 _ => ⟨rfl, ?_⟩⟩
    have f8 : x11 = l ++ [x3] := by rw [e11, hl1]; rfl
    have f9 : x12 = k + 1 := by rw [e12]; simp; rw [hl1] at hl3; simp at hl3; omega
    rw [f8, f9, e13, hwr]
    refine h 0 x3 (.inl rfl) ?_
    rw [hs]
    simp only [dgs]
    rw [if_neg (by omega)]
    congr 1; omega

theorem round27b {w len c cnt k n : Int} {a l : List Int} {K : List Int → List SV → Prop} {Q : Nat → List Pv → Prop} (hw : 1 ≤ w ∧ w ≤ 12) (hk : 0 ≤ k ∧ k < cnt) (hcnt : cnt = 253 / w + 1) (hc : c = 0 ∨ c = 1) (ha : val4 a = n) (hl : l = l ∧ len = (l.length : Int) ∧ (l.length : Int) = k)
    (h : ∀ c' d, (c' = 0 ∨ c' = 1) → dgs n w (cnt - k).toNat k c = d :: dgs n w (cnt - (k + 1)).toNat (k + 1) c' → Q 1007 [.z w, .z (k + 1), .z c', .z cnt, .z (k + 1), .l a, .l (l ++ [d])]) : lc27b w len c cnt k a l K Q := by
  have hkw : 0 ≤ k * w ∧ k * w ≤ 253 := by
    have h1 : k * w ≤ 253 / w * w := Int.mul_le_mul_of_nonneg_right (by omega) (by omega)
    have h2 : 253 / w * w ≤ 253 := Int.ediv_mul_le 253 (by omega)
    exact ⟨Int.mul_nonneg hk.1 (by omega), by omega⟩
  have hcb : cnt ≤ 254 := by
    have : 253 / w ≤ 253 := by rw [Int.ediv_le_iff_le_mul (by omega)]; omega
    omega
  have hs : (cnt - k).toNat = (cnt - (k + 1)).toNat + 1 := by omega
  have hwb := win_bd n (k * w) (w := w) (by omega)
  have hp := p2_bd (w := w) (by omega)
  have hp1 := p2_bd (w := w - 1) (by omega)
  obtain ⟨hl1, hl2, hl3⟩ := hl
  rw [lc27b_eq]
  refine ⟨fun _ x1 e1 r1 => ?_, fun hn => by have := of_decide_eq_false hn; omega⟩
  rw [wrap_i64 (by omega)] at e1
  refine ⟨need_of (by omega), need_of (by omega), need_of (by omega), need_of (by omega), fun x2 e2 r2 x3 e3 r3 x4 e4 r4 => ?_⟩
  rw [e1, ha] at e2
  rw [wrap_i64 (by omega)] at e3 e4
  refine ⟨need_of (by omega), fun x5 e5 r5 => ?_⟩
  rw [e4, shl_p2 (by omega)] at e5
  have hwr : IntKind.i64.wrap (k + 1) = k + 1 := wrap_i64 (by omega)
  refine ⟨fun hg => ?_, fun hg => ?_⟩
  · have hg := of_decide_eq_true hg
    refine ⟨need_of (by omega), fun x6 e6 r6 x7 e7 r7 => ?_⟩
    rw [shl_p2 (by omega)] at e6
    rw [wrap_i64 (by omega)] at e7
    refine ⟨need_of (by simp; omega), need_of (by omega), one_len _, fun x8 e8 _ x9 e9 _ _ x10 e10 _ => ⟨rfl, ?_⟩⟩
    have f8 : x8 = l ++ [x7] := by rw [e8]; rfl
    have f9 : x9 = k + 1 := by rw [e9]; simp; omega
    rw [f8, f9, e10, hwr]
    refine h 1 x7 (.inr rfl) ?_
    rw [hs]
    simp only [dgs]
    rw [if_pos (by omega)]
    congr 1; omega
  · have hg := of_decide_eq_false hg
    refine ⟨need_of (by simp; omega), need_of (by omega), one_len _, fun x11 e11 _ x12 e12 _ _ x13 e13 _ => ⟨rfl, ?_⟩⟩
    have f8 : x11 = l ++ [x3] := by rw [e11]; rfl
    have f9 : x12 = k + 1 := by rw [e12]; simp; omega
    rw [f8, f9, e13, hwr]
    refine h 0 x3 (.inl rfl) ?_
    rw [hs]
    simp only [dgs]
    rw [if_neg (by omega)]
    congr 1; omega

def inv27 (n w : Int) (a : List Int) (key : Nat) (ps : List Pv) (m : Nat) : Prop :=
  (1 ≤ w ∧ w ≤ 12) ∧ ∃ c cnt k l, cnt = 253 / w + 1 ∧ (m : Int) = cnt - k ∧ (0 ≤ k ∧ k ≤ cnt) ∧ (c = 0 ∨ c = 1) ∧ (l.length : Int) = k ∧ l ++ dgs n w (cnt - k).toNat k c = digL n w ∧
    ((key = 7 ∧ k = 0 ∧ ps = [.z w, .z c, .z cnt, .z k, .l a]) ∨ (key = 1007 ∧ ps = [.z w, .z k, .z c, .z cnt, .z k, .l a, .l l]))

def digS : List SV → Option (List Prop × List Int × List SV)
  | [.arr .u64 4 _ l, .i .i64 w] => some ([], digL (val4 l % ell) w.z, [.i .i64 ⟨false, digE w.z⟩])
  | _ => none

set_option maxHeartbeats 1000000 in
theorem dig_ok : CallOk Tryd.prog gh 27 (freshCtr .i64 digS) := by
  refine call_fresh (fn := Tryd.f27) Γ19_ok rfl (by kernel_rfl) (by kernel_rfl) (by kernel_rfl) digS fun args P0 l0 r0 hs hp hf => ?_
  unfold digS at hs
  split at hs
  · rename_i e1 l w
    simp only [Option.some.injEq, Prod.mk.injEq] at hs
    obtain ⟨rfl, rfl, rfl⟩ := hs
    simp only [FactVs, FactV] at hf
    obtain ⟨⟨hl, h1⟩, hw, _⟩ := hf
    obtain ⟨a0, a1, a2, a3, rfl⟩ := len4 hl
    obtain ⟨wT, w⟩ := w
    dsimp only at *
    have hn := val_mod (val4 [a0, a1, a2, a3])
    refine ⟨[.arr .u64 4 true [a0, a1, a2, a3], .i .i64 ⟨false, w⟩], L27, inv27 (val4 [a0, a1, a2, a3] % ell) w (words4 (val4 [a0, a1, a2, a3] % ell)), ⟨rfl, rfl, trivial⟩, Nat.le_of_ble_eq_true (by kernel_rfl), ?_, ?_, ?_⟩
    · intro k t ht g hg
      have hg : g ∈ keysOf gh := hg
      simp only [gh, keysOf, List.mem_singleton] at hg
      subst hg
      simp only [L27, List.mem_cons, List.not_mem_nil, or_false, Prod.mk.injEq] at ht
      rcases ht with ⟨rfl, rfl⟩ | ⟨rfl, rfl⟩ <;> exact ⟨by omega, rfl⟩
    · rintro vk t ps m ht ⟨hwr, c, cnt, k, l, hcnt, hm, hk, hc, hlk, hfull, hcase⟩
      have hpos : 0 ≤ 253 / w := Int.ediv_nonneg (by omega) (by omega)
      have next : ∀ c' d, k < cnt → (c' = 0 ∨ c' = 1) → dgs (val4 [a0, a1, a2, a3] % ell) w (cnt - k).toNat k c = d :: dgs (val4 [a0, a1, a2, a3] % ell) w (cnt - (k + 1)).toNat (k + 1) c' →
          ∃ m', m' < m ∧ inv27 (val4 [a0, a1, a2, a3] % ell) w (words4 (val4 [a0, a1, a2, a3] % ell)) 1007 [.z w, .z (k + 1), .z c', .z cnt, .z (k + 1), .l (words4 (val4 [a0, a1, a2, a3] % ell)), .l (l ++ [d])] m' := fun c' d hlt hc' hd =>
        ⟨m - 1, by omega, hwr, c', cnt, k + 1, l ++ [d], hcnt, by omega, by omega, hc', by simp; omega, by rw [← hfull, hd]; simp, .inr ⟨rfl, rfl⟩⟩
      simp only [L27, List.mem_cons, List.not_mem_nil, or_false, Prod.mk.injEq] at ht
      rcases ht with ⟨rfl, rfl⟩ | ⟨rfl, rfl⟩
      · rcases hcase with ⟨_, rfl, rfl⟩ | ⟨h7, _⟩
        · have hnil : l = [] := List.length_eq_zero_iff.1 (by omega)
          show lc27a w c cnt 0 (words4 (val4 [a0, a1, a2, a3] % ell)) _ _
          exact round27a (l := l) (len := 0) hwr ⟨by omega, by omega⟩ hcnt hc hn.1 ⟨hnil, by omega, hlk⟩ fun c' d hc' hd => next c' d (by omega) hc' hd
        · omega
      · rcases hcase with ⟨h7, _⟩ | ⟨_, rfl⟩
        · omega
        · show lc27b w k c cnt k (words4 (val4 [a0, a1, a2, a3] % ell)) l _ _
          rcases Int.lt_or_le k cnt with hlt | hge
          · exact round27b hwr ⟨hk.1, hlt⟩ hcnt hc hn.1 ⟨rfl, by omega, hlk⟩ fun c' d hc' hd => next c' d hlt hc' hd
          · rw [lc27b_eq]
            refine ⟨fun h => by have := of_decide_eq_true h; omega, fun _ => ⟨need_of (by omega), ?_, ?_, trivial⟩⟩
            · rw [show (cnt - k).toNat = 0 by omega] at hfull
              simp only [dgs, List.append_nil] at hfull
              rw [← hfull, List.drop_zero, List.take_of_length_le (by omega)]
            · show 0 = digE w
              unfold digE; rw [if_neg (by omega)]
    · show vc27 a0 a1 a2 a3 w _ _
      rw [vc27_eq, ← ell_lit]
      refine ⟨fun h => ?_, fun h => ⟨fun h' => ?_, fun h' => ?_⟩⟩
      · have h := of_decide_eq_true h
        exact ⟨by unfold digL; rw [if_pos (by omega)], by show 1 = digE w; unfold digE; rw [if_pos (by omega)], trivial⟩
      · have h' := of_decide_eq_true h'
        exact ⟨by unfold digL; rw [if_pos (by omega)], by show 1 = digE w; unfold digE; rw [if_pos (by omega)], trivial⟩
      · have h := of_decide_eq_false h
        have h' := of_decide_eq_false h'
        intro x1 e1 _ x2 e2 _ x3 e3 _ x4 e4 _
        have hpos : 0 ≤ 253 / w := Int.ediv_nonneg (by omega) (by omega)
        have hle : 253 / w ≤ 253 := by rw [Int.ediv_le_iff_le_mul (by omega)]; omega
        have htd : Int.tdiv 253 w = 253 / w := Int.tdiv_eq_ediv_of_nonneg (by omega)
        refine ⟨need_of (by omega), fun x5 e5 _ x6 e6 _ => ⟨rfl, (253 / w + 1).toNat, ⟨by omega, by omega⟩, 0, x6, 0, [], ?_, ?_, ?_, .inl rfl, rfl, ?_, .inl ⟨rfl, rfl, ?_⟩⟩⟩ <;> rw [htd, wrap_i64 (by omega)] at e5 <;> rw [e5, wrap_i64 (by omega)] at e6
        · exact e6
        · omega
        · omega
        · rw [e6]
          unfold digL; rw [if_neg (by omega), Int.sub_zero]; rfl
        · rw [e1, e2, e3, e4]; rfl
  · cases hs

def L39 : Loops := [(7, ⟨[.any, .i .i64 ⟨false, 0⟩, .p 1000 0, .any, .any, .any, .sl 1012 0 1 ⟨true, 0⟩ ⟨true, 254⟩, .i .i64 ⟨false, 0⟩, .i .i64 ⟨false, 0⟩] ++ reps .any 44, gh ++ [(1000, .segs false [.arr .u64 4 false []]), (1012, .segs false [.rowI .i64 []])], 1016⟩)]
def vc39 (a0 a1 a2 a3 x : Int) (K : List Int → List SV → Prop) (Q : Nat → List Pv → Prop) : Prop := fnVcI Γ19 Tryd.f39 L39 [.arr .u64 4 true [a0, a1, a2, a3], .i .i64 ⟨false, x⟩] gh .i64 K Q
def lc39 (w c i : Int) (a l : List Int) (K : List Int → List SV → Prop) (Q : Nat → List Pv → Prop) : Prop := loopVcI Γ19 Tryd.f39 L39 7 [.z w, .z c, .z i, .l a, .l l] .i64 K Q
theorem vc39_eq : ∀ (a0 a1 a2 a3 x : Int) (K : List Int → List SV → Prop) (Q : Nat → List Pv → Prop), vc39 a0 a1 a2 a3 x K Q = ((decide (x < (2 : Int)) = true → K [] [SV.i IntKind.i64 { st := true, z := (1 : Int) }]) ∧ (decide (x < (2 : Int)) = false → (decide (x > (8 : Int)) = true → K [] [SV.i IntKind.i64 { st := true, z := (1 : Int) }]) ∧ (decide (x > (8 : Int)) = false → ∀ (x1 : Int), x1 = w0 (val4 [a0, a1, a2, a3] % (7237005577332262213973186563042994240857116359379907606001950938285454250989 : Int)) → InR IntKind.u64 x1 → ∀ (x2 : Int), x2 = w1 (val4 [a0, a1, a2, a3] % (7237005577332262213973186563042994240857116359379907606001950938285454250989 : Int)) → InR IntKind.u64 x2 → ∀ (x3 : Int), x3 = w2 (val4 [a0, a1, a2, a3] % (7237005577332262213973186563042994240857116359379907606001950938285454250989 : Int)) → InR IntKind.u64 x3 → ∀ (x4 : Int), x4 = w3 (val4 [a0, a1, a2, a3] % (7237005577332262213973186563042994240857116359379907606001950938285454250989 : Int)) → InR IntKind.u64 x4 → Need ((0 : Int) ≤ (254 : Int) ∧ (254 : Int) ≤ (254 : Int) ∧ (2032 : Int) ≤ (70368744177664 : Int)) ∧ ∀ (x5 : List Int), x5 = List.replicate (254 : Nat) (0 : Int) → AllR IntKind.i64 x5 → Same Tryd.f39 (7 : Nat) (itemsOf Tryd.f39 (7 : Nat)) ∧ Q (7 : Nat) [Pv.z x, Pv.z (0 : Int), Pv.z (0 : Int), Pv.l [x1, x2, x3, x4], Pv.l x5]))) := by
  intros
  kernel_rfl
theorem lc39_eq : ∀ (w c i : Int) (a l : List Int) (K : List Int → List SV → Prop) (Q : Nat → List Pv → Prop), lc39 w c i a l K Q = ((decide (i ≤ (253 : Int)) = true → Need ((0 : Int) ≤ i) ∧ Need (i ≤ (4096 : Int)) ∧ Need ((0 : Int) ≤ (1 : Int)) ∧ Need ((1 : Int) ≤ (12 : Int)) ∧ ∀ (x1 : Int), x1 = winL (val4 a) i (1 : Int) → InR IntKind.i64 x1 → ∀ (x2 : Int), x2 = IntKind.i64.wrap (x1 + c) → InR IntKind.i64 x2 → ∀ (x3 : Int), x3 = x2.tmod (2 : Int) → InR IntKind.i64 x3 → ((x3 == (0 : Int)) = true → ∀ (x4 : Int), x4 = IntKind.i64.wrap (i + (1 : Int)) → InR IntKind.i64 x4 → Same Tryd.f39 (7 : Nat) (itemsOf Tryd.f39 (7 : Nat)) ∧ Q (7 : Nat) [Pv.z w, Pv.z c, Pv.z x4, Pv.l a, Pv.l l]) ∧ ((x3 == (0 : Int)) = false → Need ((0 : Int) ≤ i) ∧ Need (i ≤ (4096 : Int)) ∧ Need ((0 : Int) ≤ w) ∧ Need (w ≤ (12 : Int)) ∧ ∀ (x5 : Int), x5 = winL (val4 a) i w → InR IntKind.i64 x5 → ∀ (x6 : Int), x6 = IntKind.i64.wrap (x5 + c) → InR IntKind.i64 x6 → ∀ (x7 : Int), x7 = IntKind.i64.wrap (w - (1 : Int)) → InR IntKind.i64 x7 → Need ((0 : Int) ≤ x7) ∧ ∀ (x8 : Int), x8 = shlI IntKind.i64 (1 : Int) x7 → InR IntKind.i64 x8 → (decide (x6 ≥ x8) = true → Need ((0 : Int) ≤ w) ∧ ∀ (x9 : Int), x9 = shlI IntKind.i64 (1 : Int) w → InR IntKind.i64 x9 → ∀ (x10 : Int), x10 = IntKind.i64.wrap (x6 - x9) → InR IntKind.i64 x10 → Need ((0 : Int) ≤ i ∧ i < (254 : Int)) ∧ Need ((0 : Int) ≤ i ∧ i < ↑l.length) ∧ ∀ (x11 : List Int), x11 = l.set i.toNat x10 → AllR IntKind.i64 x11 → ∀ (x12 : Int), x12 = IntKind.i64.wrap (i + w) → InR IntKind.i64 x12 → Same Tryd.f39 (7 : Nat) (itemsOf Tryd.f39 (7 : Nat)) ∧ Q (7 : Nat) [Pv.z w, Pv.z (1 : Int), Pv.z x12, Pv.l a, Pv.l x11]) ∧ (decide (x6 ≥ x8) = false → Need ((0 : Int) ≤ i ∧ i < (254 : Int)) ∧ Need ((0 : Int) ≤ i ∧ i < ↑l.length) ∧ ∀ (x13 : List Int), x13 = l.set i.toNat x6 → AllR IntKind.i64 x13 → ∀ (x14 : Int), x14 = IntKind.i64.wrap (i + w) → InR IntKind.i64 x14 → Same Tryd.f39 (7 : Nat) (itemsOf Tryd.f39 (7 : Nat)) ∧ Q (7 : Nat) [Pv.z w, Pv.z (0 : Int), Pv.z x14, Pv.l a, Pv.l x13]))) ∧ (decide (i ≤ (253 : Int)) = false → Need ((254 : Int) ≤ ↑l.length) ∧ K (List.take (254 : Nat) (List.drop (0 : Nat) l)) [SV.i IntKind.i64 { st := true, z := (0 : Int) }])) := by
  intros
  kernel_rfl

theorem round39 {w c i n : Int} {a l : List Int} {m : Nat} {K : List Int → List SV → Prop} {Q : Nat → List Pv → Prop} (hw : 2 ≤ w ∧ w ≤ 8) (hi : 0 ≤ i ∧ i ≤ 253) (hc : c = 0 ∨ c = 1) (ha : val4 a = n) (hl : l.length = 254)
    (h : ∀ c' i' l', (c' = 0 ∨ c' = 1) → i + 1 ≤ i' ∧ i' ≤ i + 8 → l'.length = 254 → nfs n w (m + 1) i c l = nfs n w m i' c' l' → Q 7 [.z w, .z c', .z i', .l a, .l l']) : lc39 w c i a l K Q := by
  have h1b := win1_bd n i
  have hwb := win_bd n i (w := w) (by omega)
  have hp := p2_bd (w := w) (by omega)
  have hp1 := p2_bd (w := w - 1) (by omega)
  rw [lc39_eq]
  refine ⟨fun _ => ⟨need_of hi.1, need_of (by omega), need_of (by omega), need_of (by omega), fun x1 e1 r1 x2 e2 r2 x3 e3 r3 => ?_⟩, fun hn => by have := of_decide_eq_false hn; omega⟩
  rw [ha] at e1
  rw [wrap_i64 (by omega)] at e2
  have f3 : x3 = (winL n i 1 + c) % 2 := by rw [e3, Int.tmod_eq_emod_of_nonneg (by omega), e2, e1]
  have hwi : IntKind.i64.wrap (i + w) = i + w := wrap_i64 (by omega)
  refine ⟨fun h0 => ?_, fun h0 => ?_⟩
  · have h0 : x3 = 0 := by simpa using h0
    intro x4 e4 r4
    refine ⟨rfl, ?_⟩
    rw [e4, wrap_i64 (by omega)]
    refine h c (i + 1) l hc (by omega) hl ?_
    rw [nfs, if_pos hi.2, if_pos (by omega)]
  · have h0 : ¬ x3 = 0 := by simpa using h0
    refine ⟨need_of hi.1, need_of (by omega), need_of (by omega), need_of (by omega), fun x5 e5 r5 x6 e6 r6 x7 e7 r7 => ?_⟩
    rw [ha] at e5
    rw [wrap_i64 (by omega)] at e6 e7
    refine ⟨need_of (by omega), fun x8 e8 r8 => ?_⟩
    rw [e7, shl_p2 (by omega)] at e8
    refine ⟨fun hg => ?_, fun hg => ?_⟩
    · have hg := of_decide_eq_true hg
      refine ⟨need_of (by omega), fun x9 e9 r9 x10 e10 r10 => ⟨need_of (by omega), need_of (by omega), fun x11 e11 _ x12 e12 _ => ⟨rfl, ?_⟩⟩⟩
      rw [shl_p2 (by omega)] at e9
      rw [wrap_i64 (by omega)] at e10
      rw [e12, hwi, e11]
      refine h 1 (i + w) _ (.inr rfl) (by omega) (by simpa using hl) ?_
      rw [nfs, if_pos hi.2, if_neg (by omega), if_pos (by omega), e10, e6, e5, e9]
    · have hg := of_decide_eq_false hg
      refine ⟨need_of (by omega), need_of (by omega), fun x13 e13 _ x14 e14 _ => ⟨rfl, ?_⟩⟩
      rw [e14, hwi, e13]
      refine h 0 (i + w) _ (.inl rfl) (by omega) (by simpa using hl) ?_
      rw [nfs, if_pos hi.2, if_neg (by omega), if_neg (by omega), e6, e5]

def inv39 (n w : Int) (a : List Int) (key : Nat) (ps : List Pv) (m : Nat) : Prop :=
  key = 7 ∧ (2 ≤ w ∧ w ≤ 8) ∧ ∃ c i l, ps = [.z w, .z c, .z i, .l a, .l l] ∧ (0 ≤ i ∧ i ≤ 261) ∧ (c = 0 ∨ c = 1) ∧ l.length = 254 ∧ 255 ≤ (m : Int) + i ∧ nfs n w m i c l = nafL n w

def nafS : List SV → Option (List Prop × List Int × List SV)
  | [.arr .u64 4 _ l, .i .i64 w] => some ([], nafL (val4 l % ell) w.z, [.i .i64 ⟨false, nafE w.z⟩])
  | _ => none

set_option maxHeartbeats 1000000 in
theorem naf_ok : CallOk Tryd.prog gh 39 (freshCtr .i64 nafS) := by
  refine call_fresh (fn := Tryd.f39) Γ19_ok rfl (by kernel_rfl) (by kernel_rfl) (by kernel_rfl) nafS fun args P0 l0 r0 hs hp hf => ?_
  unfold nafS at hs
  split at hs
  · rename_i e1 l w
    simp only [Option.some.injEq, Prod.mk.injEq] at hs
    obtain ⟨rfl, rfl, rfl⟩ := hs
    simp only [FactVs, FactV] at hf
    obtain ⟨⟨hl, h1⟩, hw, _⟩ := hf
    obtain ⟨a0, a1, a2, a3, rfl⟩ := len4 hl
    obtain ⟨wT, w⟩ := w
    dsimp only at *
    have hn := val_mod (val4 [a0, a1, a2, a3])
    refine ⟨[.arr .u64 4 true [a0, a1, a2, a3], .i .i64 ⟨false, w⟩], L39, inv39 (val4 [a0, a1, a2, a3] % ell) w (words4 (val4 [a0, a1, a2, a3] % ell)), ⟨rfl, rfl, trivial⟩, Nat.le_of_ble_eq_true (by kernel_rfl), ?_, ?_, ?_⟩
    · intro k t ht g hg
      have hg : g ∈ keysOf gh := hg
      simp only [gh, keysOf, List.mem_singleton] at hg
      subst hg
      simp only [L39, List.mem_cons, List.not_mem_nil, or_false, Prod.mk.injEq] at ht
      obtain ⟨rfl, rfl⟩ := ht
      exact ⟨by omega, rfl⟩
    · rintro vk t ps m ht ⟨rfl, hwr, c, i, l, rfl, hi, hc, hlen, hmi, hfull⟩
      simp only [L39, List.mem_cons, List.not_mem_nil, or_false, Prod.mk.injEq, true_and] at ht
      subst ht
      show lc39 w c i (words4 (val4 [a0, a1, a2, a3] % ell)) l _ _
      rcases Int.lt_or_le 253 i with hgt | hle
      · rw [lc39_eq]
        refine ⟨fun h => by have := of_decide_eq_true h; omega, fun _ => ⟨need_of (by omega), ?_, ?_, trivial⟩⟩
        · have : nfs (val4 [a0, a1, a2, a3] % ell) w m i c l = l := by
            cases m with
            | zero => rfl
            | succ m => rw [nfs, if_neg (by omega)]
          rw [← hfull, this, List.drop_zero, List.take_of_length_le (by omega)]
        · show 0 = nafE w
          unfold nafE; rw [if_neg (by omega)]
      · obtain ⟨m', rfl⟩ : ∃ m', m = m' + 1 := ⟨m - 1, by omega⟩
        exact round39 (m := m') hwr ⟨hi.1, hle⟩ hc hn.1 hlen fun c' i' l' hc' hi' hl' hs' => ⟨m', by omega, rfl, hwr, c', i', l', rfl, by omega, hc', hl', by omega, by rw [← hs', hfull]⟩
    · show vc39 a0 a1 a2 a3 w _ _
      rw [vc39_eq, ← ell_lit]
      refine ⟨fun h => ?_, fun h => ⟨fun h' => ?_, fun h' => ?_⟩⟩
      · have h := of_decide_eq_true h
        exact ⟨by unfold nafL; rw [if_pos (by omega)], by show 1 = nafE w; unfold nafE; rw [if_pos (by omega)], trivial⟩
      · have h' := of_decide_eq_true h'
        exact ⟨by unfold nafL; rw [if_pos (by omega)], by show 1 = nafE w; unfold nafE; rw [if_pos (by omega)], trivial⟩
      · have h := of_decide_eq_false h
        have h' := of_decide_eq_false h'
        intro x1 e1 _ x2 e2 _ x3 e3 _ x4 e4 _
        refine ⟨need_of (by omega), fun x5 e5 _ => ⟨rfl, 255, rfl, ⟨by omega, by omega⟩, 0, 0, x5, ?_, ⟨by omega, by omega⟩, .inl rfl, ?_, by omega, ?_⟩⟩
        · rw [e1, e2, e3, e4]; rfl
        · rw [e5, List.length_replicate]
        · rw [e5]
          unfold nafL; rw [if_neg (by omega)]
  · cases hs

def Γ20 : Tab := ⟨tys, [(27, freshCtr .i64 digS), (39, freshCtr .i64 nafS)] ++ Γ19.ctr, [0], gh⟩
theorem Γ20_ok : TabOk Tryd.prog Γ20 := (Γ19_ok.cons naf_ok).cons dig_ok
end Go.Gx

/- Lists held against each other; a number and the order. -/
namespace Go.Gx
open Go.Proofs Go.Sp
open Go.Sp (prI mlL adL sbL pwL halfI invL)
set_option linter.unusedVariables false

def L30 : Loops := [(4, ⟨[.sl 500 0 1 ⟨true, 0⟩ ⟨false, 0⟩, .sl 501 0 1 ⟨true, 0⟩ ⟨false, 0⟩, .any, .any, .any, .i .i64 ⟨false, 0⟩] ++ reps .any 20, gh ++ [(500, .segs true [.rowI .i64 []]), (501, .segs true [.rowI .i64 []])], 1006⟩)]
def vc30 (l m : List Int) (K : SV → Prop) (Q : Nat → List Pv → Prop) : Prop := fnVc Γ20 Tryd.f30 L30 [.sl 500 0 1 ⟨true, 0⟩ ⟨false, (l.length : Int)⟩, .sl 501 0 1 ⟨true, 0⟩ ⟨false, (m.length : Int)⟩] (gh ++ [(500, .segs true [.rowI .i64 l]), (501, .segs true [.rowI .i64 m])]) K Q
def lc30 (n k i : Int) (l m : List Int) (K : SV → Prop) (Q : Nat → List Pv → Prop) : Prop := loopVc Γ20 Tryd.f30 L30 4 [.z n, .z k, .z i, .l l, .l m] K Q
theorem vc30_eq : ∀ (l m : List Int) (K : SV → Prop) (Q : Nat → List Pv → Prop), vc30 l m K Q = ((((l.length : Int) != (m.length : Int)) = true → K (SV.b true false)) ∧ (((l.length : Int) != (m.length : Int)) = false → Same Tryd.f30 (4 : Nat) (itemsOf Tryd.f30 (4 : Nat)) ∧ Q (4 : Nat) [Pv.z ↑l.length, Pv.z ↑m.length, Pv.z (0 : Int), Pv.l l, Pv.l m])) := by
  intros
  kernel_rfl
theorem lc30_eq : ∀ (n k i : Int) (l m : List Int) (K : SV → Prop) (Q : Nat → List Pv → Prop), lc30 n k i l m K Q = ((decide (i < n) = true → Need ((0 : Int) ≤ i ∧ i < n) ∧ Need ((0 : Int) ≤ i ∧ i < ↑l.length) ∧ ∀ (x1 : Int), x1 = l.getD i.toNat (0 : Int) → InR IntKind.i64 x1 → Need ((0 : Int) ≤ i ∧ i < k) ∧ Need ((0 : Int) ≤ i ∧ i < ↑m.length) ∧ ∀ (x2 : Int), x2 = m.getD i.toNat (0 : Int) → InR IntKind.i64 x2 → ((x1 != x2) = true → K (SV.b true false)) ∧ ((x1 != x2) = false → ∀ (x3 : Int), x3 = IntKind.i64.wrap (i + (1 : Int)) → InR IntKind.i64 x3 → Same Tryd.f30 (4 : Nat) (itemsOf Tryd.f30 (4 : Nat)) ∧ Q (4 : Nat) [Pv.z n, Pv.z k, Pv.z x3, Pv.l l, Pv.l m])) ∧ (decide (i < n) = false → K (SV.b true true))) := by
  intros
  kernel_rfl

def intsS : List RA → Option (List Prop × SV)
  | [.c (.ints .i64 l), .c (.ints .i64 m)] => some ([], .b false (l == m))
  | _ => none
def inv30 (l m : List Int) (key : Nat) (ps : List Pv) (n : Nat) : Prop :=
  key = 4 ∧ ∃ i : Nat, ps = [.z (l.length : Int), .z (m.length : Int), .z (i : Int), .l l, .l m] ∧ l.length = m.length ∧ n + i = l.length ∧ (l == m) = (l.drop i == m.drop i)

theorem ints_ok : CallOk Tryd.prog gh 30 (readCtr [true, true] intsS) := by
  refine call_read (fn := Tryd.f30) Γ20_ok rfl (fun g hg => by simp [Γ20, gh, keysOf] at hg; omega) (by kernel_rfl) (by kernel_rfl) (by kernel_rfl) [true, true] intsS fun ras p y hs hp hv hq => ?_
  unfold intsS at hs
  split at hs
  · rename_i l m
    simp only [Option.some.injEq, Prod.mk.injEq] at hs
    obtain ⟨rfl, rfl⟩ := hs
    have hlen : (l.length : Int) < 9223372036854775808 := (hq (.ints .i64 l) (by simp)).2
    have hlen' : (m.length : Int) < 9223372036854775808 := (hq (.ints .i64 m) (by simp)).2
    refine ⟨[.sl 500 0 1 ⟨true, 0⟩ ⟨false, (l.length : Int)⟩, .sl 501 0 1 ⟨true, 0⟩ ⟨false, (m.length : Int)⟩], L30, inv30 l m, ⟨rfl, rfl, trivial⟩, Nat.le_of_ble_eq_true (by kernel_rfl), ?_, ?_, ?_⟩
    · intro k t ht g hg
      simp only [L30, List.mem_singleton, Prod.mk.injEq] at ht
      obtain ⟨rfl, rfl⟩ := ht
      have hg : g ∈ [0, 500, 501] := hg
      simp only [List.mem_cons, List.not_mem_nil, or_false] at hg
      rcases hg with rfl | rfl | rfl <;> exact ⟨by omega, rfl⟩
    · rintro key ps n ⟨rfl, i, rfl, hlm, hn, hd⟩
      show lc30 (l.length : Int) (m.length : Int) (i : Int) l m _ _
      rw [lc30_eq]
      refine ⟨fun h => ?_, fun h => ?_⟩
      · have h := of_decide_eq_true h
        have hi : i < l.length := by omega
        have hi' : i < m.length := by omega
        refine ⟨need_of (by omega), need_of (by omega), fun x1 e1 _ => ⟨need_of (by omega), need_of (by omega), fun x2 e2 _ => ?_⟩⟩
        have f1 : x1 = l[i] := by rw [e1]; simp [hi]
        have f2 : x2 = m[i] := by rw [e2]; simp [hi']
        rw [List.drop_eq_getElem_cons hi, List.drop_eq_getElem_cons hi', ← f1, ← f2] at hd
        refine ⟨fun hne => ?_, fun heq => ?_⟩
        · have hne : ¬ x1 = x2 := by simpa using hne
          show false = (l == m)
          rw [hd]; simp [hne]
        · have heq : x1 = x2 := by simpa using heq
          intro x3 e3 _
          refine ⟨rfl, n - 1, by omega, rfl, i + 1, ?_, hlm, by omega, ?_⟩
          · rw [e3, wrap_i64 (by omega)]; rfl
          · rw [hd]; simp [heq]
      · have h := of_decide_eq_false h
        show true = (l == m)
        rw [hd, List.drop_eq_nil_of_le (by omega), List.drop_eq_nil_of_le (by omega)]; rfl
    · show vc30 l m _ _
      rw [vc30_eq]
      refine ⟨fun h => ?_, fun h => ?_⟩
      · have hne : ¬ (l.length : Int) = m.length := by simpa using h
        show false = (l == m)
        symm
        rw [beq_eq_false_iff_ne]
        intro e; rw [e] at hne; exact hne rfl
      · have he : (l.length : Int) = m.length := by simpa using h
        exact ⟨rfl, l.length, rfl, 0, rfl, by omega, by omega, rfl⟩
  · cases hs

/-- One limb of a sum by halves. -/
theorem limb {a p c x5 x6 x7 x8 x9 x10 x11 x12 x13 x14 x15 x16 x17 : Int} (ha : InR .u64 a) (hp : InR .u64 p) (hc : 0 ≤ c ∧ c ≤ 1) (e5 : x5 = andI .u64 a 4294967295) (e6 : x6 = andI .u64 p 4294967295) (e7 : x7 = IntKind.u64.wrap (x5 + x6)) (e8 : x8 = IntKind.u64.wrap (x7 + c)) (r8 : InR .u64 x8)
    (e9 : x9 = shrI .u64 a 32) (e10 : x10 = shrI .u64 p 32) (e11 : x11 = IntKind.u64.wrap (x9 + x10)) (e12 : x12 = shrI .u64 x8 32) (e13 : x13 = IntKind.u64.wrap (x11 + x12)) (e14 : x14 = andI .u64 x8 4294967295) (r14 : InR .u64 x14) (e15 : x15 = shlI .u64 x13 32) (r15 : InR .u64 x15) (e16 : x16 = orI .u64 x14 x15) (e17 : x17 = shrI .u64 x13 32) :
    a + p + c = x16 + 18446744073709551616 * x17 ∧ 0 ≤ x17 ∧ x17 ≤ 1 := by
  rw [and32 ha] at e5
  rw [and32 hp] at e6
  rw [and32 r8] at e14
  rw [shr32] at e9 e10 e12 e17
  rw [wrap_u64] at e7 e8 e11 e13
  rw [shl32] at e15
  have hz : x15 = x13 % 4294967296 * 4294967296 := by rw [e15]; omega
  have h14 : x14 < 4294967296 := by omega
  rw [orI_comm] at e16
  rw [or32 r15 r14 hz h14] at e16
  simp only [InR] at ha hp
  omega

def vc67 (a0 a1 a2 a3 : Int) (K : SV → Prop) (Q : Nat → List Pv → Prop) : Prop := fnVc Γ20 Tryd.f67 [] [.arr .u64 4 true [a0, a1, a2, a3]] gh K Q
theorem vc67_eq : ∀ (a0 a1 a2 a3 : Int) (K : SV → Prop) (Q : Nat → List Pv → Prop), vc67 a0 a1 a2 a3 K Q = ∀ (x1 : Int), x1 = (6346243789798364141 : Int) → InR IntKind.u64 x1 → ∀ (x2 : Int), x2 = (1503914060200516822 : Int) → InR IntKind.u64 x2 → ∀ (x3 : Int), x3 = (0 : Int) → InR IntKind.u64 x3 → ∀ (x4 : Int), x4 = (1152921504606846976 : Int) → InR IntKind.u64 x4 → ∀ (x5 : Int), x5 = andI IntKind.u64 a0 (4294967295 : Int) → InR IntKind.u64 x5 → ∀ (x6 : Int), x6 = andI IntKind.u64 x1 (4294967295 : Int) → InR IntKind.u64 x6 → ∀ (x7 : Int), x7 = IntKind.u64.wrap (x5 + x6) → InR IntKind.u64 x7 → ∀ (x8 : Int), x8 = IntKind.u64.wrap (x7 + (0 : Int)) → InR IntKind.u64 x8 → ∀ (x9 : Int), x9 = shrI IntKind.u64 a0 (32 : Int) → InR IntKind.u64 x9 → ∀ (x10 : Int), x10 = shrI IntKind.u64 x1 (32 : Int) → InR IntKind.u64 x10 → ∀ (x11 : Int), x11 = IntKind.u64.wrap (x9 + x10) → InR IntKind.u64 x11 → ∀ (x12 : Int), x12 = shrI IntKind.u64 x8 (32 : Int) → InR IntKind.u64 x12 → ∀ (x13 : Int), x13 = IntKind.u64.wrap (x11 + x12) → InR IntKind.u64 x13 → ∀ (x14 : Int), x14 = andI IntKind.u64 x8 (4294967295 : Int) → InR IntKind.u64 x14 → ∀ (x15 : Int), x15 = shlI IntKind.u64 x13 (32 : Int) → InR IntKind.u64 x15 → ∀ (x16 : Int), x16 = orI IntKind.u64 x14 x15 → InR IntKind.u64 x16 → ∀ (x17 : Int), x17 = shrI IntKind.u64 x13 (32 : Int) → InR IntKind.u64 x17 → ∀ (x18 : Int), x18 = andI IntKind.u64 a1 (4294967295 : Int) → InR IntKind.u64 x18 → ∀ (x19 : Int), x19 = andI IntKind.u64 x2 (4294967295 : Int) → InR IntKind.u64 x19 → ∀ (x20 : Int), x20 = IntKind.u64.wrap (x18 + x19) → InR IntKind.u64 x20 → ∀ (x21 : Int), x21 = IntKind.u64.wrap (x20 + x17) → InR IntKind.u64 x21 → ∀ (x22 : Int), x22 = shrI IntKind.u64 a1 (32 : Int) → InR IntKind.u64 x22 → ∀ (x23 : Int), x23 = shrI IntKind.u64 x2 (32 : Int) → InR IntKind.u64 x23 → ∀ (x24 : Int), x24 = IntKind.u64.wrap (x22 + x23) → InR IntKind.u64 x24 → ∀ (x25 : Int), x25 = shrI IntKind.u64 x21 (32 : Int) → InR IntKind.u64 x25 → ∀ (x26 : Int), x26 = IntKind.u64.wrap (x24 + x25) → InR IntKind.u64 x26 → ∀ (x27 : Int), x27 = andI IntKind.u64 x21 (4294967295 : Int) → InR IntKind.u64 x27 → ∀ (x28 : Int), x28 = shlI IntKind.u64 x26 (32 : Int) → InR IntKind.u64 x28 → ∀ (x29 : Int), x29 = orI IntKind.u64 x27 x28 → InR IntKind.u64 x29 → ∀ (x30 : Int), x30 = shrI IntKind.u64 x26 (32 : Int) → InR IntKind.u64 x30 → ∀ (x31 : Int), x31 = andI IntKind.u64 a2 (4294967295 : Int) → InR IntKind.u64 x31 → ∀ (x32 : Int), x32 = andI IntKind.u64 x3 (4294967295 : Int) → InR IntKind.u64 x32 → ∀ (x33 : Int), x33 = IntKind.u64.wrap (x31 + x32) → InR IntKind.u64 x33 → ∀ (x34 : Int), x34 = IntKind.u64.wrap (x33 + x30) → InR IntKind.u64 x34 → ∀ (x35 : Int), x35 = shrI IntKind.u64 a2 (32 : Int) → InR IntKind.u64 x35 → ∀ (x36 : Int), x36 = shrI IntKind.u64 x3 (32 : Int) → InR IntKind.u64 x36 → ∀ (x37 : Int), x37 = IntKind.u64.wrap (x35 + x36) → InR IntKind.u64 x37 → ∀ (x38 : Int), x38 = shrI IntKind.u64 x34 (32 : Int) → InR IntKind.u64 x38 → ∀ (x39 : Int), x39 = IntKind.u64.wrap (x37 + x38) → InR IntKind.u64 x39 → ∀ (x40 : Int), x40 = andI IntKind.u64 x34 (4294967295 : Int) → InR IntKind.u64 x40 → ∀ (x41 : Int), x41 = shlI IntKind.u64 x39 (32 : Int) → InR IntKind.u64 x41 → ∀ (x42 : Int), x42 = orI IntKind.u64 x40 x41 → InR IntKind.u64 x42 → ∀ (x43 : Int), x43 = shrI IntKind.u64 x39 (32 : Int) → InR IntKind.u64 x43 → ∀ (x44 : Int), x44 = andI IntKind.u64 a3 (4294967295 : Int) → InR IntKind.u64 x44 → ∀ (x45 : Int), x45 = andI IntKind.u64 x4 (4294967295 : Int) → InR IntKind.u64 x45 → ∀ (x46 : Int), x46 = IntKind.u64.wrap (x44 + x45) → InR IntKind.u64 x46 → ∀ (x47 : Int), x47 = IntKind.u64.wrap (x46 + x43) → InR IntKind.u64 x47 → ∀ (x48 : Int), x48 = shrI IntKind.u64 a3 (32 : Int) → InR IntKind.u64 x48 → ∀ (x49 : Int), x49 = shrI IntKind.u64 x4 (32 : Int) → InR IntKind.u64 x49 → ∀ (x50 : Int), x50 = IntKind.u64.wrap (x48 + x49) → InR IntKind.u64 x50 → ∀ (x51 : Int), x51 = shrI IntKind.u64 x47 (32 : Int) → InR IntKind.u64 x51 → ∀ (x52 : Int), x52 = IntKind.u64.wrap (x50 + x51) → InR IntKind.u64 x52 → ∀ (x53 : Int), x53 = andI IntKind.u64 x47 (4294967295 : Int) → InR IntKind.u64 x53 → ∀ (x54 : Int), x54 = shlI IntKind.u64 x52 (32 : Int) → InR IntKind.u64 x54 → ∀ (x55 : Int), x55 = orI IntKind.u64 x53 x54 → InR IntKind.u64 x55 → ∀ (x56 : Int), x56 = shrI IntKind.u64 x52 (32 : Int) → InR IntKind.u64 x56 → K (SV.tup [SV.arr IntKind.u64 (4 : Nat) true [x16, x29, x42, x55], SV.b false (x56 == (0 : Int))]) := by
  intros
  kernel_rfl

def carriedS : List SV → Option (List Prop × SV)
  | [.arr .u64 4 _ aL] => some ([], .tup [.arr .u64 4 true (words4 (val4 aL + ell)), .b false (decide (val4 aL + ell < 115792089237316195423570985008687907853269984665640564039457584007913129639936))])
  | _ => none

set_option maxHeartbeats 1000000 in
theorem carried_ok : CallOk Tryd.prog gh 67 (pureCtr carriedS) := by
  refine call_pure (fn := Tryd.f67) Γ20_ok rfl (by kernel_rfl) (by kernel_rfl) (by kernel_rfl) carriedS fun args P0 Y0 hs hp hf => ?_
  unfold carriedS at hs
  split at hs
  · rename_i ea aL
    simp only [Option.some.injEq, Prod.mk.injEq] at hs
    obtain ⟨rfl, rfl⟩ := hs
    simp only [FactVs, FactV] at hf
    obtain ⟨⟨hal, ha⟩, _⟩ := hf
    obtain ⟨a0, a1, a2, a3, rfl⟩ := len4 hal
    have ia0 := ha a0 (by simp); have ia1 := ha a1 (by simp); have ia2 := ha a2 (by simp); have ia3 := ha a3 (by simp)
    refine ⟨[.arr .u64 4 true [a0, a1, a2, a3]], [], _, ⟨rfl, trivial⟩, Nat.le_of_ble_eq_true (by kernel_rfl), vc_noloops ?_⟩
    show vc67 a0 a1 a2 a3 _ _
    rw [vc67_eq]
    intro x1 e1 r1 x2 e2 r2 x3 e3 r3 x4 e4 r4
    intro x5 e5 r5 x6 e6 r6 x7 e7 r7 x8 e8 r8 x9 e9 r9 x10 e10 r10 x11 e11 r11 x12 e12 r12 x13 e13 r13 x14 e14 r14 x15 e15 r15 x16 e16 r16 x17 e17 r17
    have s0 := limb (c := 0) ia0 r1 ⟨by omega, by omega⟩ e5 e6 e7 e8 r8 e9 e10 e11 e12 e13 e14 r14 e15 r15 e16 e17
    intro x18 e18 r18 x19 e19 r19 x20 e20 r20 x21 e21 r21 x22 e22 r22 x23 e23 r23 x24 e24 r24 x25 e25 r25 x26 e26 r26 x27 e27 r27 x28 e28 r28 x29 e29 r29 x30 e30 r30
    have s1 := limb ia1 r2 s0.2 e18 e19 e20 e21 r21 e22 e23 e24 e25 e26 e27 r27 e28 r28 e29 e30
    intro x31 e31 r31 x32 e32 r32 x33 e33 r33 x34 e34 r34 x35 e35 r35 x36 e36 r36 x37 e37 r37 x38 e38 r38 x39 e39 r39 x40 e40 r40 x41 e41 r41 x42 e42 r42 x43 e43 r43
    have s2 := limb ia2 r3 s1.2 e31 e32 e33 e34 r34 e35 e36 e37 e38 e39 e40 r40 e41 r41 e42 e43
    intro x44 e44 r44 x45 e45 r45 x46 e46 r46 x47 e47 r47 x48 e48 r48 x49 e49 r49 x50 e50 r50 x51 e51 r51 x52 e52 r52 x53 e53 r53 x54 e54 r54 x55 e55 r55 x56 e56 r56
    have s3 := limb ia3 r4 s2.2 e44 e45 e46 e47 r47 e48 e49 e50 e51 e52 e53 r53 e54 r54 e55 e56
    have hs : val4 [x16, x29, x42, x55] + 115792089237316195423570985008687907853269984665640564039457584007913129639936 * x56 = val4 [a0, a1, a2, a3] + ell := by
      have t0 := s0.1; have t1 := s1.1; have t2 := s2.1; have t3 := s3.1
      rw [ell_lit]
      simp only [val4]
      clear s0 s1 s2 s3
      omega
    have hv := val_pos r16 r29 r42 r55
    refine ⟨?_, ?_, trivial⟩
    · show [x16, x29, x42, x55] = words4 (val4 [a0, a1, a2, a3] + ell)
      rw [← hs]
      refine Eq.trans (words_val r16 r29 r42 r55).symm ?_
      generalize val4 [x16, x29, x42, x55] = V
      simp only [words4, w0, w1, w2, w3, List.cons.injEq, and_true]
      refine ⟨?_, ?_, ?_, ?_⟩ <;> omega
    · show (x56 == 0) = decide (val4 [a0, a1, a2, a3] + ell < 115792089237316195423570985008687907853269984665640564039457584007913129639936)
      rw [← hs, Bool.eq_iff_iff, beq_iff_eq, decide_eq_true_eq]
      have h3 := s3.2
      generalize val4 [x16, x29, x42, x55] = V at *
      clear s0 s1 s2 s3 hs
      omega
  · cases hs

def Γ21 : Tab := ⟨tys, [(30, readCtr [true, true] intsS), (67, pureCtr carriedS)] ++ Γ20.ctr, [0], gh⟩
theorem Γ21_ok : TabOk Tryd.prog Γ21 := (Γ20_ok.cons carried_ok).cons ints_ok
end Go.Gx

/- Columns of a sum. -/
namespace Go.Sp
/-- A number by its digits, the lowest first. -/
def vsum (P : Int) : List Int → Int
  | [] => 0
  | d :: r => d + P * vsum P r
/-- Twenty columns of 16 bits. -/
def cols (n : Int) : List Int := (List.range 20).map fun j => n / ((65536 : Int) ^ j) % 65536
end Go.Sp
namespace Go.Gx
open Go.Proofs Go.Sp
open Go.Sp (prI mlL adL sbL pwL halfI invL)
set_option linter.unusedVariables false

theorem vsum_set (P : Int) : ∀ (l : List Int) (j : Nat) (x : Int), j < l.length → vsum P (l.set j x) = vsum P l + P ^ j * (x - l.getD j 0)
  | [], j, x, h => by simp at h
  | d :: r, 0, x, _ => by simp [vsum]; omega
  | d :: r, j + 1, x, h => by
    simp only [List.set_cons_succ, vsum, List.getD_cons_succ]
    rw [vsum_set P r j x (by simpa using h), Int.mul_add, Int.pow_succ, Int.mul_comm (P ^ j) P, Int.mul_assoc]
    omega
theorem getD_set_same (l : List Int) (j : Nat) (x : Int) (h : j < l.length) : (l.set j x).getD j 0 = x := by
  rw [List.getD_eq_getElem?_getD, List.getElem?_set_self h]; rfl
theorem getD_set_ne (l : List Int) (i j : Nat) (x : Int) (h : i ≠ j) : (l.set i x).getD j 0 = l.getD j 0 := by
  rw [List.getD_eq_getElem?_getD, List.getElem?_set_ne h, ← List.getD_eq_getElem?_getD]
theorem vsum_drop (P : Int) (l : List Int) (j : Nat) (h : j < l.length) : vsum P (l.drop j) = l.getD j 0 + P * vsum P (l.drop (j + 1)) := by
  rw [List.drop_eq_getElem_cons h, vsum, List.getD_eq_getElem?_getD, List.getElem?_eq_getElem h]; rfl
theorem and_i16 {a : Int} : andI .i64 a 65535 = a % 65536 := by
  have h0 : andI .i64 a 65535 = IntKind.i64.wrap (((BitVec.ofInt 64 a &&& BitVec.ofInt 64 65535).toNat : Nat) : Int) := rfl
  have h1 : (BitVec.ofInt 64 (65535 : Int)).toNat = 2 ^ 16 - 1 := by decide
  have h2 : ((BitVec.ofInt 64 a).toNat : Int) = a % 18446744073709551616 := by
    rw [BitVec.toNat_ofInt]
    have := Int.emod_nonneg a (show (18446744073709551616 : Int) ≠ 0 by decide)
    simp; omega
  rw [h0, BitVec.toNat_and, h1, Nat.and_two_pow_sub_one_eq_mod]
  have h3 : (((BitVec.ofInt 64 a).toNat % 2 ^ 16 : Nat) : Int) = a % 65536 := by
    rw [Int.natCast_emod, h2]
    omega
  rw [h3, wrap_i64 (by omega)]
theorem shr_i16 (a : Int) : shrI .i64 a 16 = a / 65536 := by
  have : shrI .i64 a 16 = a.fdiv ((2 : Int) ^ 16) := rfl
  rw [this, Int.fdiv_eq_ediv_of_nonneg _ (by decide)]
  rfl
theorem shl_small {x : Int} (r : Nat) (hr : r < 16) (hx : -1048576 ≤ x ∧ x ≤ 1048576) : shlI .i64 x (r : Int) = x * (2 : Int) ^ r ∧ -34359738368 ≤ x * (2 : Int) ^ r ∧ x * (2 : Int) ^ r ≤ 34359738368 := by
  have h1 : (2 : Int) ^ r ≤ 32768 := by
    have : (2 : Nat) ^ r ≤ 2 ^ 15 := Nat.pow_le_pow_right (by omega) (by omega)
    have h3 : (2 : Nat) ^ 15 = 32768 := rfl
    have h4 : ((2 ^ r : Nat) : Int) = (2 : Int) ^ r := by simp
    rw [← h4]; omega
  have h0 : (0 : Int) < (2 : Int) ^ r := Int.pow_pos (by decide)
  have hb : -34359738368 ≤ x * (2 : Int) ^ r ∧ x * (2 : Int) ^ r ≤ 34359738368 := by
    generalize (2 : Int) ^ r = p at *
    have a1 : (x + 1048576) * p ≥ 0 := Int.mul_nonneg (by omega) (by omega)
    have a2 : (1048576 - x) * p ≥ 0 := Int.mul_nonneg (by omega) (by omega)
    rw [Int.add_mul] at a1
    rw [Int.sub_mul] at a2
    omega
  refine ⟨?_, hb⟩
  have : shlI .i64 x (r : Int) = IntKind.i64.wrap (x * 2 ^ min (r : Int).toNat 64) := rfl
  rw [this, Int.toNat_natCast, show min r 64 = r by omega, wrap_i64 (by omega)]

def L66 : Loops := [(3, ⟨[.sl 500 0 1 ⟨true, 0⟩ ⟨false, 0⟩, .i .i64 ⟨false, 0⟩, .any, .any, .p 1000 0, .any, .p 1002 0, .i .i64 ⟨false, 0⟩] ++ reps .any 63, gh ++ [(500, .segs true [.rowI .i64 []]), (1000, .segs false [.arr .i64 20 false []]), (1002, .segs false [.arr .i64 20 false []])], 1004⟩), (11, ⟨[.any, .any, .any, .any, .p 1000 0, .any, .p 1002 0, .any, .any, .i .i64 ⟨false, 0⟩, .i .i64 ⟨false, 0⟩] ++ reps .any 60, gh ++ [(500, .segs true [.rowI .i64 []]), (1000, .segs false [.arr .i64 20 false []]), (1002, .segs false [.arr .i64 20 false []])], 1004⟩)]
def vc66 (l : List Int) (x : Int) (K : SV → Prop) (Q : Nat → List Pv → Prop) : Prop := fnVc Γ21 Tryd.f66 L66 [.sl 500 0 1 ⟨true, 0⟩ ⟨false, (l.length : Int)⟩, .i .i64 ⟨false, x⟩] (gh ++ [(500, .segs true [.rowI .i64 l])]) K Q
def lc66a (n w i : Int) (l r o : List Int) (K : SV → Prop) (Q : Nat → List Pv → Prop) : Prop := loopVc Γ21 Tryd.f66 L66 3 [.z n, .z w, .z i, .l l, .l r, .l o] K Q
def lc66b (c i : Int) (l r o : List Int) (K : SV → Prop) (Q : Nat → List Pv → Prop) : Prop := loopVc Γ21 Tryd.f66 L66 11 [.z c, .z i, .l l, .l r, .l o] K Q
theorem vc66_eq : ∀ (l : List Int) (x : Int) (K : SV → Prop) (Q : Nat → List Pv → Prop), vc66 l x K Q = (Same Tryd.f66 (3 : Nat) (itemsOf Tryd.f66 (3 : Nat)) ∧ Q (3 : Nat) [Pv.z ↑l.length, Pv.z x, Pv.z (0 : Int), Pv.l l, Pv.l (List.replicate (20 : Nat) (0 : Int)), Pv.l (List.replicate (20 : Nat) (0 : Int))]) := by
  intros
  kernel_rfl
theorem lc66a_eq : ∀ (n w i : Int) (l r o : List Int) (K : SV → Prop) (Q : Nat → List Pv → Prop), lc66a n w i l r o K Q = ((decide (i < n) = true → ∀ (x1 : Int), x1 = IntKind.i64.wrap (w * i) → InR IntKind.i64 x1 → ∀ (x2 : Int), x2 = IntKind.i64.wrap (x1.tdiv (16 : Int)) → InR IntKind.i64 x2 → (decide (x2 > (17 : Int)) = true → K (SV.tup [SV.arr IntKind.i64 (20 : Nat) false o, SV.b true false])) ∧ (decide (x2 > (17 : Int)) = false → Need ((0 : Int) ≤ i ∧ i < n) ∧ Need ((0 : Int) ≤ i ∧ i < ↑l.length) ∧ ∀ (x3 : Int), x3 = l.getD i.toNat (0 : Int) → InR IntKind.i64 x3 → (decide (x3 > (1048576 : Int)) = true → K (SV.tup [SV.arr IntKind.i64 (20 : Nat) false o, SV.b true false])) ∧ (decide (x3 > (1048576 : Int)) = false → Need ((0 : Int) ≤ i ∧ i < n) ∧ Need ((0 : Int) ≤ i ∧ i < ↑l.length) ∧ ∀ (x4 : Int), x4 = l.getD i.toNat (0 : Int) → InR IntKind.i64 x4 → (decide (x4 < (-1048576 : Int)) = true → K (SV.tup [SV.arr IntKind.i64 (20 : Nat) false o, SV.b true false])) ∧ (decide (x4 < (-1048576 : Int)) = false → ∀ (x5 : Int), x5 = IntKind.i64.wrap (x1.tdiv (16 : Int)) → InR IntKind.i64 x5 → ∀ (x6 : Int), x6 = IntKind.i64.wrap (x1.tdiv (16 : Int)) → InR IntKind.i64 x6 → Need ((0 : Int) ≤ x6 ∧ x6 < (20 : Int)) ∧ Need ((0 : Int) ≤ x6 ∧ x6 < (20 : Int)) ∧ ∀ (x7 : Int), x7 = o.getD x6.toNat (0 : Int) → InR IntKind.i64 x7 → Need ((0 : Int) ≤ i ∧ i < n) ∧ Need ((0 : Int) ≤ i ∧ i < ↑l.length) ∧ ∀ (x8 : Int), x8 = l.getD i.toNat (0 : Int) → InR IntKind.i64 x8 → ∀ (x9 : Int), x9 = x1.tmod (16 : Int) → InR IntKind.i64 x9 → Need ((0 : Int) ≤ x9) ∧ ∀ (x10 : Int), x10 = shlI IntKind.i64 x8 x9 → InR IntKind.i64 x10 → ∀ (x11 : Int), x11 = IntKind.i64.wrap (x7 + x10) → InR IntKind.i64 x11 → Need ((0 : Int) ≤ x5 ∧ x5 < (20 : Int)) ∧ Need ((0 : Int) ≤ x5 ∧ x5 < (20 : Int)) ∧ ∀ (x12 : List Int), x12 = o.set x5.toNat x11 → x12.length = (20 : Nat) → AllR IntKind.i64 x12 → ∀ (x13 : Int), x13 = IntKind.i64.wrap (i + (1 : Int)) → InR IntKind.i64 x13 → Same Tryd.f66 (3 : Nat) (itemsOf Tryd.f66 (3 : Nat)) ∧ Q (3 : Nat) [Pv.z n, Pv.z w, Pv.z x13, Pv.l l, Pv.l r, Pv.l x12])))) ∧ (decide (i < n) = false → Same Tryd.f66 (11 : Nat) (itemsOf Tryd.f66 (11 : Nat)) ∧ Q (11 : Nat) [Pv.z (0 : Int), Pv.z (0 : Int), Pv.l l, Pv.l r, Pv.l o])) := by
  intros
  kernel_rfl
theorem lc66b_eq : ∀ (c i : Int) (l r o : List Int) (K : SV → Prop) (Q : Nat → List Pv → Prop), lc66b c i l r o K Q = ((decide (i < (20 : Int)) = true → Need ((0 : Int) ≤ i ∧ i < (20 : Int)) ∧ Need ((0 : Int) ≤ i ∧ i < (20 : Int)) ∧ ∀ (x1 : Int), x1 = o.getD i.toNat (0 : Int) → InR IntKind.i64 x1 → ∀ (x2 : Int), x2 = IntKind.i64.wrap (c + x1) → InR IntKind.i64 x2 → ∀ (x3 : Int), x3 = andI IntKind.i64 x2 (65535 : Int) → InR IntKind.i64 x3 → Need ((0 : Int) ≤ i ∧ i < (20 : Int)) ∧ Need ((0 : Int) ≤ i ∧ i < (20 : Int)) ∧ ∀ (x4 : List Int), x4 = o.set i.toNat x3 → x4.length = (20 : Nat) → AllR IntKind.i64 x4 → ∀ (x5 : Int), x5 = shrI IntKind.i64 x2 (16 : Int) → InR IntKind.i64 x5 → ∀ (x6 : Int), x6 = IntKind.i64.wrap (i + (1 : Int)) → InR IntKind.i64 x6 → Same Tryd.f66 (11 : Nat) (itemsOf Tryd.f66 (11 : Nat)) ∧ Q (11 : Nat) [Pv.z x5, Pv.z x6, Pv.l l, Pv.l r, Pv.l x4]) ∧ (decide (i < (20 : Int)) = false → K (SV.tup [SV.arr IntKind.i64 (20 : Nat) false o, SV.b false (c == (0 : Int))]))) := by
  intros
  kernel_rfl

def colS : List RA → Option (List Prop × SV)
  | [.c (.ints .i64 l), .v (.i .i64 w)] => some ([0 ≤ w.z ∧ w.z ≤ 12, (w.z * (l.length : Int) ≤ 287 ∧ (l.length : Int) ≤ 254), ∀ z ∈ l, -1048576 ≤ z ∧ z ≤ 1048576, 0 ≤ vsum (p2 w.z) l ∧ vsum (p2 w.z) l < (65536 : Int) ^ 20], .tup [.arr .i64 20 false (cols (vsum (p2 w.z) l)), .b false true])
  | _ => none

/-- What the first loop keeps. -/
def in1 (w : Nat) (l o : List Int) (k : Nat) : Prop :=
  k ≤ l.length ∧ o.length = 20 ∧ (∀ j, j < 20 → -((k : Int) * 34359738368) ≤ o.getD j 0 ∧ o.getD j 0 ≤ (k : Int) * 34359738368) ∧ vsum 65536 o + (2 : Int) ^ (w * k) * vsum ((2 : Int) ^ w) (l.drop k) = vsum ((2 : Int) ^ w) l
/-- What the second loop keeps. -/
def in2 (V : Int) (c : Int) (o : List Int) (j : Nat) : Prop :=
  j ≤ 20 ∧ o.length = 20 ∧ (-17592186044416 ≤ c ∧ c ≤ 17592186044416) ∧ (∀ t, j ≤ t → t < 20 → -8796093022208 ≤ o.getD t 0 ∧ o.getD t 0 ≤ 8796093022208) ∧ (∀ t, t < j → o.getD t 0 = V / (65536 : Int) ^ t % 65536) ∧ c + vsum 65536 (o.drop j) = V / (65536 : Int) ^ j
def inv66 (w : Nat) (l : List Int) (key : Nat) (ps : List Pv) (m : Nat) : Prop :=
  (key = 3 ∧ ∃ (k : Nat) (r o : List Int), ps = [.z (l.length : Int), .z (w : Int), .z (k : Int), .l l, .l r, .l o] ∧ k ≤ l.length ∧ m = 100 + l.length - k ∧ in1 w l o k) ∨
    (key = 11 ∧ ∃ (c : Int) (j : Nat) (r o : List Int), ps = [.z c, .z (j : Int), .l l, .l r, .l o] ∧ m + j = 20 ∧ in2 (vsum ((2 : Int) ^ w) l) c o j)

theorem p2_pow (w : Nat) : p2 (w : Int) = (2 : Int) ^ w := by unfold p2; rw [Int.toNat_natCast]; simp

theorem step1 {w k : Nat} {l o : List Int} (hk : k < l.length) (hw : w * l.length ≤ 287) (hl : ∀ z ∈ l, -1048576 ≤ z ∧ z ≤ 1048576) (h : in1 w l o k) (x : Int) (hx : x = o.getD (w * k / 16) 0 + l.getD k 0 * (2 : Int) ^ (w * k % 16)) :
    in1 w l (o.set (w * k / 16) x) (k + 1) := by
  obtain ⟨h1, h2, h3, h4⟩ := h
  have hwk : w * k ≤ 287 := Nat.le_trans (Nat.mul_le_mul_left w (by omega)) hw
  have hj : w * k / 16 < 20 := by omega
  have hd : -1048576 ≤ l.getD k 0 ∧ l.getD k 0 ≤ 1048576 := by
    rw [List.getD_eq_getElem?_getD, List.getElem?_eq_getElem hk]; exact hl _ (List.getElem_mem hk)
  have hsh := (shl_small (w * k % 16) (by omega) hd).2
  refine ⟨by omega, by simpa using h2, fun j hj' => ?_, ?_⟩
  · have hb := h3 j hj'
    by_cases e : w * k / 16 = j
    · subst e
      rw [getD_set_same _ _ _ (by omega), hx]
      push_cast
      omega
    · rw [getD_set_ne _ _ _ _ e]
      push_cast
      omega
  · rw [vsum_set _ _ _ _ (by omega), hx, show o.getD (w * k / 16) 0 + l.getD k 0 * (2 : Int) ^ (w * k % 16) - o.getD (w * k / 16) 0 = l.getD k 0 * (2 : Int) ^ (w * k % 16) by omega, ← h4, vsum_drop _ l k hk]
    have e1 : (65536 : Int) ^ (w * k / 16) * (l.getD k 0 * (2 : Int) ^ (w * k % 16)) = (2 : Int) ^ (w * k) * l.getD k 0 := by
      rw [show (65536 : Int) = (2 : Int) ^ 16 from rfl, ← Int.pow_mul, Int.mul_left_comm, ← Int.pow_add, Nat.div_add_mod, Int.mul_comm]
    have e2 : (2 : Int) ^ (w * (k + 1)) = (2 : Int) ^ (w * k) * (2 : Int) ^ w := by rw [Nat.mul_succ, Int.pow_add]
    rw [e1, e2, Int.mul_add, Int.mul_assoc]
    omega

theorem step2 {V c x2 : Int} {o : List Int} {j : Nat} (hj : j < 20) (h : in2 V c o j) (hx : x2 = c + o.getD j 0) : in2 V (x2 / 65536) (o.set j (x2 % 65536)) (j + 1) := by
  obtain ⟨h1, h2, h3, h4, h5, h6⟩ := h
  have hb := h4 j (Nat.le_refl _) hj
  rw [vsum_drop _ o j (by omega)] at h6
  have hp : (65536 : Int) ^ (j + 1) = (65536 : Int) ^ j * 65536 := Int.pow_succ ..
  have hdd : V / (65536 : Int) ^ (j + 1) = V / (65536 : Int) ^ j / 65536 := by
    rw [hp, Int.ediv_ediv_of_nonneg (Int.le_of_lt (Int.pow_pos (by decide)))]
  have hds : (o.set j (x2 % 65536)).drop (j + 1) = o.drop (j + 1) := by rw [List.drop_set_of_lt (by omega)]
  refine ⟨by omega, by simpa using h2, by omega, fun t h t' => ?_, fun t ht => ?_, ?_⟩
  · rw [getD_set_ne _ _ _ _ (by omega)]; exact h4 t (by omega) t'
  · by_cases e : j = t
    · subst e
      rw [getD_set_same _ _ _ (by omega), ← h6]
      omega
    · rw [getD_set_ne _ _ _ _ e]; exact h5 t (by omega)
  · rw [hds, hdd, ← h6]
    omega

theorem cols_of {V c : Int} {o : List Int} (h : in2 V c o 20) (hV : 0 ≤ V ∧ V < (65536 : Int) ^ 20) : o = cols V ∧ c = 0 := by
  obtain ⟨h1, h2, h3, h4, h5, h6⟩ := h
  constructor
  · apply List.ext_getElem?
    intro j
    by_cases hj : j < 20
    · have := h5 j hj
      rw [List.getD_eq_getElem?_getD, List.getElem?_eq_getElem (by omega)] at this
      rw [List.getElem?_eq_getElem (by omega)]
      unfold cols
      rw [List.getElem?_map, List.getElem?_range hj]
      simp only [Option.map_some, Option.some.injEq]
      simpa using this
    · rw [List.getElem?_eq_none (by omega), List.getElem?_eq_none (by unfold cols; simp; omega)]
  · rw [List.drop_of_length_le (by omega), Int.ediv_eq_zero_of_lt hV.1 hV.2] at h6
    simpa [vsum] using h6

set_option maxHeartbeats 1000000 in
theorem col_ok : CallOk Tryd.prog gh 66 (readCtr [true, false] colS) := by
  refine call_read (fn := Tryd.f66) Γ21_ok rfl (fun g hg => by have hg : g ∈ keysOf gh := hg; simp [gh, keysOf] at hg; omega) (by kernel_rfl) (by kernel_rfl) (by kernel_rfl) [true, false] colS fun ras p y hs hp hv hq => ?_
  unfold colS at hs
  split at hs
  · rename_i l w
    simp only [Option.some.injEq, Prod.mk.injEq] at hs
    obtain ⟨rfl, rfl⟩ := hs
    obtain ⟨hw0, hlen, hl, hV, _⟩ := hp
    obtain ⟨wT, w⟩ := w
    dsimp only at *
    obtain ⟨w, rfl⟩ := Int.eq_ofNat_of_zero_le hw0.1
    rw [p2_pow] at *
    have hwl : w * l.length ≤ 287 := by
      have h := hlen.1
      rw [← Int.natCast_mul] at h
      omega
    refine ⟨[.sl 500 0 1 ⟨true, 0⟩ ⟨false, (l.length : Int)⟩, .i .i64 ⟨false, (w : Int)⟩], L66, inv66 w l, ⟨rfl, rfl, trivial⟩, Nat.le_of_ble_eq_true (by kernel_rfl), ?_, ?_, ?_⟩
    · intro k t ht g hg
      have hg : g ∈ [0, 500] := hg
      simp only [L66, List.mem_cons, List.not_mem_nil, or_false, Prod.mk.injEq] at ht
      simp only [List.mem_cons, List.not_mem_nil, or_false] at hg
      rcases ht with ⟨rfl, rfl⟩ | ⟨rfl, rfl⟩ <;> rcases hg with rfl | rfl <;> exact ⟨by omega, rfl⟩
    · rintro key ps m (⟨rfl, k, r, o, rfl, hk, rfl, hin⟩ | ⟨rfl, c, j, r, o, rfl, hm, hin⟩)
      · show lc66a (l.length : Int) (w : Int) (k : Int) l r o _ _
        rw [lc66a_eq]
        refine ⟨fun h => ?_, fun h => ?_⟩
        · have h := of_decide_eq_true h
          have hk : k < l.length := by omega
          have hwk : w * k ≤ 287 := Nat.le_trans (Nat.mul_le_mul_left w (by omega)) hwl
          intro x1 e1 r1
          rw [← Int.natCast_mul, wrap_i64 (by omega)] at e1
          have ht : IntKind.i64.wrap (x1.tdiv 16) = ((w * k / 16 : Nat) : Int) := by
            rw [e1, Int.tdiv_eq_ediv_of_nonneg (by omega), wrap_i64 (by omega)]; omega
          have hm : x1.tmod 16 = ((w * k % 16 : Nat) : Int) := by
            rw [e1, Int.tmod_eq_emod_of_nonneg (by omega)]; omega
          rw [ht, hm]
          have hd : -1048576 ≤ l.getD k 0 ∧ l.getD k 0 ≤ 1048576 := by
            rw [List.getD_eq_getElem?_getD, List.getElem?_eq_getElem hk]; exact hl _ (List.getElem_mem hk)
          have hg : l.getD (k : Int).toNat 0 = l.getD k 0 := by rw [Int.toNat_natCast]
          rw [hg]
          intro x2 e2 r2
          refine ⟨fun h2 => by have := of_decide_eq_true h2; omega, fun _ => ⟨need_of (by omega), need_of (by omega), fun x3 e3 r3 => ⟨fun h3 => by have := of_decide_eq_true h3; omega, fun _ => ⟨need_of (by omega), need_of (by omega), fun x4 e4 r4 => ⟨fun h4 => by have := of_decide_eq_true h4; omega, fun _ x5 e5 r5 x6 e6 r6 => ⟨need_of (by omega), need_of (by omega), fun x7 e7 r7 => ⟨need_of (by omega), need_of (by omega), fun x8 e8 r8 x9 e9 r9 => ⟨need_of (by omega), fun x10 e10 r10 x11 e11 r11 => ⟨need_of (by omega), need_of (by omega), fun x12 e12 _ _ x13 e13 _ => ⟨rfl, ?_⟩⟩⟩⟩⟩⟩⟩⟩⟩⟩
          have hs := shl_small (w * k % 16) (by omega) hd
          have hb := hin.2.2.1 (w * k / 16) (by omega)
          rw [e6, Int.toNat_natCast] at e7
          rw [e9, e8, hs.1] at e10
          rw [wrap_i64 (by omega)] at e11
          have hx := step1 hk hwl hl hin x11 (by rw [e11, e7, e10])
          rw [e5, Int.toNat_natCast] at e12
          refine ⟨100 + l.length - (k + 1), by omega, .inl ⟨rfl, k + 1, r, x12, ?_, by omega, rfl, by rw [e12]; exact hx⟩⟩
          rw [e13, wrap_i64 (by omega)]; rfl
        · have h := of_decide_eq_false h
          have hkk : k = l.length := by omega
          subst hkk
          obtain ⟨h1, h2, h3, h4⟩ := hin
          refine ⟨rfl, 20, by omega, .inr ⟨rfl, 0, 0, r, o, rfl, by omega, by omega, h2, by omega, fun t _ ht => ?_, fun t ht => by omega, ?_⟩⟩
          · have := h3 t ht; omega
          · rw [List.drop_of_length_le (Nat.le_refl _)] at h4
            simp only [vsum, Int.mul_zero, Int.add_zero] at h4
            rw [List.drop_zero, h4, Int.pow_zero, Int.ediv_one]; omega
      · show lc66b c (j : Int) l r o _ _
        rw [lc66b_eq]
        refine ⟨fun h => ?_, fun h => ?_⟩
        · have h := of_decide_eq_true h
          have hj : j < 20 := by omega
          have hb := hin.2.2.2.1 j (Nat.le_refl _) hj
          have hc := hin.2.2.1
          refine ⟨need_of (by omega), need_of (by omega), fun x1 e1 r1 x2 e2 r2 x3 e3 r3 => ⟨need_of (by omega), need_of (by omega), fun x4 e4 _ _ x5 e5 r5 x6 e6 r6 => ⟨rfl, ?_⟩⟩⟩
          rw [Int.toNat_natCast] at e1 e4
          rw [wrap_i64 (by omega)] at e2
          rw [and_i16] at e3
          rw [shr_i16] at e5
          have hx := step2 (x2 := x2) hj hin (by rw [e2, e1])
          refine ⟨m - 1, by omega, .inr ⟨rfl, x5, j + 1, r, x4, ?_, by omega, by rw [e4, e5, e3]; exact hx⟩⟩
          rw [e6, wrap_i64 (by omega)]; rfl
        · have h := of_decide_eq_false h
          have hj : j = 20 := by have := hin.1; omega
          subst hj
          obtain ⟨rfl, rfl⟩ := cols_of hin hV
          exact ⟨rfl, rfl, trivial⟩
    · show vc66 l (w : Int) _ _
      rw [vc66_eq]
      refine ⟨rfl, 100 + l.length, .inl ⟨rfl, 0, _, _, rfl, by omega, by omega, by omega, by simp, fun j hj => ?_, ?_⟩⟩
      · rw [List.getD_eq_getElem?_getD, List.getElem?_replicate]
        split <;> simp
      · rw [Nat.mul_zero, Int.pow_zero, Int.one_mul, List.drop_zero]
        have : ∀ n : Nat, vsum 65536 (List.replicate n 0) = 0 := fun n => by
          induction n with
          | zero => rfl
          | succ n ih => rw [List.replicate_succ, vsum, ih]; rfl
        rw [this]; omega
  · cases hs

def Γ22 : Tab := ⟨tys, [(66, readCtr [true, false] colS)] ++ Γ21.ctr, [0], gh⟩
theorem Γ22_ok : TabOk Tryd.prog Γ22 := Γ21_ok.cons col_ok
end Go.Gx

/- What the digits say: their sums, their ranges, their gaps. No program in sight. -/
namespace Go.Gx
open Go.Proofs Go.Sp
open Go.Sp (prI mlL adL sbL pwL halfI invL)
set_option linter.unusedVariables false

theorem win_eq (n : Int) (I W : Nat) : winL n (I : Int) (W : Int) = n / (2 : Int) ^ I % (2 : Int) ^ W := by
  unfold winL
  rw [Int.toNat_natCast, Int.toNat_natCast]
  simp
theorem pow_pos2 (k : Nat) : (0 : Int) < (2 : Int) ^ k := Int.pow_pos (by decide)
theorem pow_le2 {a b : Nat} (h : a ≤ b) : (2 : Int) ^ a ≤ (2 : Int) ^ b := by
  have : (2 : Nat) ^ a ≤ 2 ^ b := Nat.pow_le_pow_right (by omega) h
  exact_mod_cast this
theorem div_pow (n : Int) (I W : Nat) : n / (2 : Int) ^ (I + W) = n / (2 : Int) ^ I / (2 : Int) ^ W := by
  rw [Int.pow_add, Int.ediv_ediv_of_nonneg (Int.le_of_lt (pow_pos2 I))]

theorem dgs_ok (n : Int) (hn : 0 ≤ n) (W : Nat) (h : Int) (hh : p2 ((W : Int) - 1) = h) (hP : (2 : Int) ^ W = 2 * h) (h1 : 1 ≤ h) : ∀ (m K : Nat) (c : Int), (c = 0 ∨ c = 1) →
    (dgs n W m (K : Int) c).length = m ∧ (∀ z ∈ dgs n W m (K : Int) c, -h < z ∧ z ≤ h) ∧ (0 < m → n / (2 : Int) ^ (K * W) + c ≤ h * (2 * h) ^ (m - 1) → vsum (2 * h) (dgs n W m (K : Int) c) = n / (2 : Int) ^ (K * W) + c)
  | 0, K, c, hc => ⟨rfl, fun z hz => by simp [dgs] at hz, fun h => by omega⟩
  | m + 1, K, c, hc => by
    have e0 : ((K : Int) * (W : Int)) = ((K * W : Nat) : Int) := by rw [Int.natCast_mul]
    have ew : winL n ((K : Int) * (W : Int)) (W : Int) = n / (2 : Int) ^ (K * W) % (2 * h) := by rw [e0, win_eq, hP]
    have en : n / (2 : Int) ^ ((K + 1) * W) = n / (2 : Int) ^ (K * W) / (2 * h) := by rw [Nat.succ_mul, div_pow, hP]
    have ep : p2 (W : Int) = 2 * h := by rw [p2_pow, hP]
    have ek : (K : Int) + 1 = ((K + 1 : Nat) : Int) := by omega
    simp only [dgs, ew, ep, hh, ek]
    have hM0 : 0 ≤ n / (2 : Int) ^ (K * W) := Int.ediv_nonneg hn (Int.le_of_lt (pow_pos2 _))
    generalize hM : n / (2 : Int) ^ (K * W) = M at *
    have hsm : M + c ≤ h → M % (2 * h) = M := fun hl => Int.emod_eq_of_lt hM0 (by omega)
    have hdm := Int.emod_add_mul_ediv M (2 * h)
    have hb0 := Int.emod_nonneg M (show (2 * h) ≠ 0 by omega)
    have hb1 := Int.emod_lt_of_pos M (show 0 < 2 * h by omega)
    have main : ∀ (d c' : Int), (c' = 0 ∨ c' = 1) → -h < d ∧ d ≤ h → M + c = d + 2 * h * (M / (2 * h) + c') → (M + c ≤ h → d = M + c) →
        (d :: dgs n W m ((K + 1 : Nat) : Int) c').length = m + 1 ∧ (∀ z ∈ d :: dgs n W m ((K + 1 : Nat) : Int) c', -h < z ∧ z ≤ h) ∧ (0 < m + 1 → M + c ≤ h * (2 * h) ^ (m + 1 - 1) → vsum (2 * h) (d :: dgs n W m ((K + 1 : Nat) : Int) c') = M + c) := by
      intro d c' hc' hd hval hlast
      obtain ⟨i1, i2, i3⟩ := dgs_ok n hn W h hh hP h1 m (K + 1) c' hc'
      refine ⟨by rw [List.length_cons, i1], fun z hz => ?_, fun _ hbound => ?_⟩
      · rcases List.mem_cons.1 hz with rfl | hz
        · exact hd
        · exact i2 z hz
      · simp only [vsum]
        cases m with
        | zero =>
          simp only [Nat.zero_add, Nat.sub_self, Int.pow_zero, Int.mul_one] at hbound
          have : dgs n W 0 ((K + 1 : Nat) : Int) c' = [] := rfl
          rw [this, vsum, Int.mul_zero, Int.add_zero]
          exact hlast hbound
        | succ m' =>
          rw [en] at i3
          rw [i3 (by omega) ?_]
          · exact hval.symm
          · simp only [Nat.add_sub_cancel] at hbound ⊢
            rw [Int.pow_succ, ← Int.mul_assoc, Int.mul_comm _ (2 * h)] at hbound
            generalize h * (2 * h) ^ m' = X at *
            generalize M / (2 * h) + c' = Y at *
            rcases Int.lt_or_le X Y with hlt | hle
            · exfalso
              have := Int.mul_le_mul_of_nonneg_left (show X + 1 ≤ Y by omega) (show 0 ≤ 2 * h by omega)
              rw [Int.mul_add] at this
              omega
            · exact hle
    by_cases hg : M % (2 * h) + c > h
    · rw [if_pos hg]
      refine main _ 1 (.inr rfl) (by omega) ?_ (fun hl => ?_)
      · rw [Int.mul_add]; omega
      · exfalso
        rw [hsm hl] at hg; omega
    · rw [if_neg hg]
      refine main _ 0 (.inl rfl) (by omega) ?_ (fun hl => ?_)
      · rw [Int.add_zero]; omega
      · rw [hsm hl]

theorem p2_cases {w : Int} (hw : 2 ≤ w ∧ w ≤ 8) : ∃ (W : Nat) (h : Int), w = (W : Int) ∧ p2 ((W : Int) - 1) = h ∧ (2 : Int) ^ W = 2 * h ∧ 2 ≤ h ∧ h ≤ 128 ∧ h % 2 = 0 ∧ 2 ≤ W ∧ W ≤ 8 ∧
    7237005577332262213973186563042994240857116359379907606001950938285454250989 ≤ h * (2 * h) ^ ((253 / w + 1).toNat - 1) ∧ w * (253 / w + 1) ≤ 287 ∧ 1 ≤ 253 / w + 1 ∧ 253 / w + 1 ≤ 254 := by
  have : w = 2 ∨ w = 3 ∨ w = 4 ∨ w = 5 ∨ w = 6 ∨ w = 7 ∨ w = 8 := by omega
  rcases this with rfl | rfl | rfl | rfl | rfl | rfl | rfl
  · exact ⟨2, 2, by decide +kernel⟩
  · exact ⟨3, 4, by decide +kernel⟩
  · exact ⟨4, 8, by decide +kernel⟩
  · exact ⟨5, 16, by decide +kernel⟩
  · exact ⟨6, 32, by decide +kernel⟩
  · exact ⟨7, 64, by decide +kernel⟩
  · exact ⟨8, 128, by decide +kernel⟩

/-- What the digits say. -/
theorem dig_says {n w : Int} (hn : 0 ≤ n ∧ n < ell) (hw : 2 ≤ w ∧ w ≤ 8) : ((digL n w).length : Int) = 253 / w + 1 ∧ (∀ z ∈ digL n w, -p2 (w - 1) < z ∧ z ≤ p2 (w - 1)) ∧ vsum (p2 w) (digL n w) = n := by
  obtain ⟨W, h, rfl, hh, hP, h2, h128, hev, hW2, hW8, hbig, hm1, hm2, hm3⟩ := p2_cases hw
  have hd : digL n (W : Int) = dgs n (W : Int) (253 / (W : Int) + 1).toNat ((0 : Nat) : Int) 0 := by
    unfold digL; rw [if_neg (by omega)]; rfl
  obtain ⟨i1, i2, i3⟩ := dgs_ok n hn.1 W h hh hP (by omega) (253 / (W : Int) + 1).toNat 0 0 (.inl rfl)
  rw [hd, hh, p2_pow, hP]
  refine ⟨by rw [i1]; omega, i2, ?_⟩
  rw [Nat.zero_mul, Int.pow_zero, Int.ediv_one, Int.add_zero] at i3
  refine i3 (by omega) ?_
  have := hn.2
  rw [ell_lit] at this
  omega

/-- What the form from bit I on keeps. -/
def nin (n w h : Int) (I : Nat) (c : Int) (l : List Int) : Prop :=
  l.length = 254 ∧ (c = 0 ∨ c = 1) ∧ (∀ j : Nat, I ≤ j → l.getD j 0 = 0) ∧ vsum 2 l + (2 : Int) ^ I * (n / (2 : Int) ^ I + c) = n ∧
    (∀ j : Nat, l.getD j 0 ≠ 0 → l.getD j 0 % 2 = 1 ∧ -h < l.getD j 0 ∧ l.getD j 0 < h ∧ (j : Int) + w ≤ I) ∧
    (∀ j k : Nat, j < k → l.getD j 0 ≠ 0 → l.getD k 0 ≠ 0 → (j : Int) + w ≤ k) ∧ (I ≤ 253 ∨ c = 0)

theorem nfs_ok (n : Int) (hn : 0 ≤ n ∧ n < (2 : Int) ^ 253) (W : Nat) (hW : 2 ≤ W ∧ W ≤ 8) (h : Int) (hh : p2 ((W : Int) - 1) = h) (hP : (2 : Int) ^ W = 2 * h) (h2 : 2 ≤ h) (hev : h % 2 = 0) (hhp : h = (2 : Int) ^ (W - 1)) : ∀ (m I : Nat) (c : Int) (l : List Int), 255 ≤ m + I → nin n W h I c l → ∃ (I' : Nat) (c' : Int), 254 ≤ I' ∧ nin n W h I' c' (nfs n W m I c l)
  | 0, I, c, l, hm, hin => ⟨I, c, by omega, hin⟩
  | m + 1, I, c, l, hm, hin => by
    rw [nfs]
    by_cases hI : (I : Int) ≤ 253
    · rw [if_pos hI]
      have e1 : winL n (I : Int) 1 = n / (2 : Int) ^ I % 2 := by
        have := win_eq n I 1
        simpa using this
      have ew : winL n (I : Int) (W : Int) = n / (2 : Int) ^ I % (2 * h) := by rw [win_eq, hP]
      have ep : p2 (W : Int) = 2 * h := by rw [p2_pow, hP]
      rw [e1, ew, ep, hh]
      have hM0 : 0 ≤ n / (2 : Int) ^ I := Int.ediv_nonneg hn.1 (Int.le_of_lt (pow_pos2 _))
      have hs1 : n / (2 : Int) ^ (I + 1) = n / (2 : Int) ^ I / 2 := by rw [div_pow]; rfl
      have hsW : n / (2 : Int) ^ (I + W) = n / (2 : Int) ^ I / (2 * h) := by rw [div_pow, hP]
      have hp1 : (2 : Int) ^ (I + 1) = (2 : Int) ^ I * 2 := Int.pow_succ ..
      have hpW : (2 : Int) ^ (I + W) = (2 : Int) ^ I * (2 * h) := by rw [Int.pow_add, hP]
      have hlast : 254 ≤ I + 1 → n / (2 : Int) ^ I = 0 := fun hx => by
        have : I = 253 := by omega
        rw [this]; exact Int.ediv_eq_zero_of_lt hn.1 hn.2
      have hlastW : 254 ≤ I + W → n / (2 : Int) ^ I < h := fun hx => by
        refine Int.ediv_lt_of_lt_mul (pow_pos2 I) ?_
        rw [hhp, ← Int.pow_add]
        refine Int.lt_of_lt_of_le hn.2 ?_
        exact pow_le2 (by omega)
      obtain ⟨g1, g2, g3, g4, g5, g6, g7⟩ := hin
      generalize hM : n / (2 : Int) ^ I = M at *
      by_cases hz : (M % 2 + c) % 2 = 0
      · rw [if_pos hz]
        refine nfs_ok n hn W hW h hh hP h2 hev hhp m (I + 1) c l (by omega) ⟨g1, g2, fun j hj => g3 j (by omega), ?_, fun j hj => ?_, g6, ?_⟩
        · rw [hs1, hp1, ← g4, Int.mul_assoc]
          congr 2; omega
        · have := g5 j hj; exact ⟨this.1, this.2.1, this.2.2.1, by omega⟩
        · by_cases h253 : 254 ≤ I + 1
          · right
            have := hlast h253; omega
          · left; omega
      · rw [if_neg hz]
        have hdm := Int.emod_add_mul_ediv M (2 * h)
        have hb0 := Int.emod_nonneg M (show (2 * h) ≠ 0 by omega)
        have hb1 := Int.emod_lt_of_pos M (show 0 < 2 * h by omega)
        have hpar : M % (2 * h) % 2 = M % 2 := Int.emod_emod_of_dvd M ⟨h, rfl⟩
        have hIl : I < l.length := by omega
        have step : ∀ (d c' : Int), (c' = 0 ∨ c' = 1) → (-h < d ∧ d < h) → d % 2 = 1 → M + c = d + 2 * h * (M / (2 * h) + c') → (I + W ≤ 253 ∨ c' = 0) → nin n W h (I + W) c' (l.set I d) := by
          intro d c' hc' hd hodd hval hend
          have hget : ∀ j : Nat, j ≠ I → (l.set I d).getD j 0 = l.getD j 0 := fun j hj => getD_set_ne _ _ _ _ (Ne.symm hj)
          have hsame : (l.set I d).getD I 0 = d := getD_set_same _ _ _ hIl
          refine ⟨by simpa using g1, hc', fun j hj => by rw [hget j (by omega)]; exact g3 j (by omega), ?_, fun j hj => ?_, fun j k hjk h1 h2' => ?_, hend⟩
          · rw [vsum_set _ _ _ _ hIl, g3 I (Nat.le_refl _), Int.sub_zero, hsW, hpW, ← g4, hval, Int.mul_assoc, Int.mul_add _ d]
            omega
          · by_cases e : j = I
            · subst e; rw [hsame]; exact ⟨hodd, hd.1, hd.2, by omega⟩
            · rw [hget j e] at hj ⊢
              have := g5 j hj; exact ⟨this.1, this.2.1, this.2.2.1, by omega⟩
          · by_cases ek : k = I
            · subst ek
              rw [hget j (by omega)] at h1
              have := (g5 j h1).2.2.2; omega
            · by_cases ej : j = I
              · subst ej
                rw [hget k ek] at h2'
                exact absurd (g3 k (by omega)) h2'
              · rw [hget j ej] at h1
                rw [hget k ek] at h2'
                exact g6 j k hjk h1 h2'
        have hIW : (I : Int) + (W : Int) = ((I + W : Nat) : Int) := by omega
        have hIt : (I : Int).toNat = I := Int.toNat_natCast I
        rw [hIW, hIt]
        by_cases hg : M % (2 * h) + c ≥ h
        · rw [if_pos hg]
          refine nfs_ok n hn W hW h hh hP h2 hev hhp m (I + W) 1 _ (by omega) (step _ 1 (.inr rfl) (by omega) (by omega) (by rw [Int.mul_add]; omega) ?_)
          by_cases h254 : 254 ≤ I + W
          · exfalso
            have hlt := hlastW h254
            rw [Int.emod_eq_of_lt hM0 (by omega)] at hg
            omega
          · left; omega
        · rw [if_neg hg]
          exact nfs_ok n hn W hW h hh hP h2 hev hhp m (I + W) 0 _ (by omega) (step _ 0 (.inl rfl) (by omega) (by omega) (by rw [Int.add_zero]; omega) (.inr rfl))
    · rw [if_neg hI]
      exact ⟨I, c, by omega, hin⟩

/-- What the non-adjacent form says. -/
theorem naf_says {n w : Int} (hn : 0 ≤ n ∧ n < ell) (hw : 2 ≤ w ∧ w ≤ 8) : (nafL n w).length = 254 ∧ vsum 2 (nafL n w) = n ∧ (∀ j : Nat, (nafL n w).getD j 0 ≠ 0 → (nafL n w).getD j 0 % 2 = 1 ∧ -p2 (w - 1) < (nafL n w).getD j 0 ∧ (nafL n w).getD j 0 < p2 (w - 1)) ∧
    (∀ j k : Nat, j < k → (nafL n w).getD j 0 ≠ 0 → (nafL n w).getD k 0 ≠ 0 → (j : Int) + w ≤ k) := by
  obtain ⟨W, h, rfl, hh, hP, h2, h128, hev, hW2, hW8, hbig, hm1, hm2, hm3⟩ := p2_cases hw
  have hl : nafL n (W : Int) = nfs n (W : Int) 255 ((0 : Nat) : Int) 0 (List.replicate 254 0) := by
    unfold nafL; rw [if_neg (by omega)]; rfl
  have hhp : h = (2 : Int) ^ (W - 1) := by
    rw [← hh, show (W : Int) - 1 = ((W - 1 : Nat) : Int) by omega, p2_pow]
  have hn2 : n < (2 : Int) ^ 253 := Int.lt_of_lt_of_le hn.2 (by decide)
  have hrep : ∀ j : Nat, (List.replicate 254 (0 : Int)).getD j 0 = 0 := fun j => by
    rw [List.getD_eq_getElem?_getD, List.getElem?_replicate]; split <;> simp
  have hv0 : ∀ k : Nat, vsum 2 (List.replicate k 0) = 0 := fun k => by
    induction k with
    | zero => rfl
    | succ k ih => rw [List.replicate_succ, vsum, ih]; rfl
  obtain ⟨I, c, hI, g1, g2, g3, g4, g5, g6, g7⟩ := nfs_ok n ⟨hn.1, hn2⟩ W ⟨hW2, hW8⟩ h hh hP h2 hev hhp 255 0 0 (List.replicate 254 0) (by omega)
    ⟨List.length_replicate, .inl rfl, fun j _ => hrep j, by rw [hv0, Int.pow_zero, Int.ediv_one]; omega, fun j hj => absurd (hrep j) hj, fun j k _ hj => absurd (hrep j) hj, .inl (by omega)⟩
  rw [← hl] at g1 g3 g4 g5 g6
  rw [hh]
  refine ⟨g1, ?_, fun j hj => ⟨(g5 j hj).1, (g5 j hj).2.1, (g5 j hj).2.2.1⟩, g6⟩
  have hc : c = 0 := by omega
  have hz : n / (2 : Int) ^ I = 0 := by
    refine Int.ediv_eq_zero_of_lt hn.1 (Int.lt_of_lt_of_le hn2 ?_)
    exact pow_le2 (by omega)
  rw [hc, hz, Int.add_zero, Int.mul_zero, Int.add_zero] at g4
  exact g4
end Go.Gx

/- Of ScalarSpelled, for every input and in every world that holds the program's table as its text lays it: the call returns true, its arguments read as before and nothing else old has turned. No condition besides. -/
namespace Go.Gx
open Go.Proofs Go.Sp Go.RowKit
open Go.Sp (prI mlL adL sbL pwL halfI invL)
set_option linter.unusedVariables false

def L15 : Loops := [(22, ⟨reps .any 5 ++ [.i .i64 ⟨false, 0⟩] ++ reps .any 4 ++ [.sl 1310 0 1 ⟨true, 0⟩ ⟨false, 0⟩, .any, .sl 1318 0 1 ⟨true, 0⟩ ⟨false, 0⟩] ++ reps .any 5 ++ [.i .i64 ⟨false, 0⟩, .i .i64 ⟨false, 0⟩, .i .i64 ⟨false, 0⟩] ++ reps .any 152, gh ++ [(1310, .segs false [.rowI .i64 []]), (1318, .segs false [.rowI .i64 []])], 1384⟩), (27, ⟨reps .any 5 ++ [.i .i64 ⟨false, 0⟩] ++ reps .any 6 ++ [.sl 1318 0 1 ⟨true, 0⟩ ⟨false, 0⟩] ++ reps .any 5 ++ [.i .i64 ⟨false, 0⟩, .i .i64 ⟨false, 0⟩, .any, .i .i64 ⟨false, 0⟩] ++ reps .any 151, gh ++ [(1318, .segs false [.rowI .i64 []])], 1384⟩)]
def vc15 (a0 a1 a2 a3 x : Int) (K : SV → Prop) (Q : Nat → List Pv → Prop) : Prop := fnVc Γ22 Tryd.f15 L15 [.arr .u64 4 true [a0, a1, a2, a3], .i .i64 ⟨false, x⟩] gh K Q
def lc15a (w nd nn half last i : Int) (d n : List Int) (K : SV → Prop) (Q : Nat → List Pv → Prop) : Prop := loopVc Γ22 Tryd.f15 L15 22 [.z w, .z nd, .z nn, .z half, .z last, .z i, .l d, .l n] K Q
def lc15b (w nn half last i : Int) (n : List Int) (K : SV → Prop) (Q : Nat → List Pv → Prop) : Prop := loopVc Γ22 Tryd.f15 L15 27 [.z w, .z nn, .z half, .z last, .z i, .l n] K Q
set_option maxHeartbeats 4000000 in
set_option maxRecDepth 100000 in
theorem vc15_eq : ∀ (a0 a1 a2 a3 x : Int) (K : SV → Prop) (Q : Nat → List Pv → Prop), vc15 a0 a1 a2 a3 x K Q = ∀ (x1 : Bool), x1 = true → ((!x1) = true → K (SV.b true false)) ∧ ((!x1) = false → ∀ (x2 : Int), x2 = andI IntKind.i64 x (127 : Int) → InR IntKind.i64 x2 → ∀ (x3 : Int), x3 = x2.tmod (7 : Int) → InR IntKind.i64 x3 → ∀ (x4 : Int), x4 = IntKind.i64.wrap ((2 : Int) + x3) → InR IntKind.i64 x4 → ∀ (x5 : Int), x5 = w0 (val4 [a0, a1, a2, a3] % (7237005577332262213973186563042994240857116359379907606001950938285454250989 : Int)) → InR IntKind.u64 x5 → ∀ (x6 : Int), x6 = w1 (val4 [a0, a1, a2, a3] % (7237005577332262213973186563042994240857116359379907606001950938285454250989 : Int)) → InR IntKind.u64 x6 → ∀ (x7 : Int), x7 = w2 (val4 [a0, a1, a2, a3] % (7237005577332262213973186563042994240857116359379907606001950938285454250989 : Int)) → InR IntKind.u64 x7 → ∀ (x8 : Int), x8 = w3 (val4 [a0, a1, a2, a3] % (7237005577332262213973186563042994240857116359379907606001950938285454250989 : Int)) → InR IntKind.u64 x8 → ∀ (x9 : Int), x9 = shrI IntKind.u64 x5 (0 : Int) → InR IntKind.u64 x9 → ∀ (x10 : Int), x10 = andI IntKind.u64 x9 (65535 : Int) → InR IntKind.u64 x10 → ∀ (x11 : Int), x11 = IntKind.i64.wrap x10 → InR IntKind.i64 x11 → ∀ (x12 : Int), x12 = shrI IntKind.u64 x5 (16 : Int) → InR IntKind.u64 x12 → ∀ (x13 : Int), x13 = andI IntKind.u64 x12 (65535 : Int) → InR IntKind.u64 x13 → ∀ (x14 : Int), x14 = IntKind.i64.wrap x13 → InR IntKind.i64 x14 → ∀ (x15 : Int), x15 = shrI IntKind.u64 x5 (32 : Int) → InR IntKind.u64 x15 → ∀ (x16 : Int), x16 = andI IntKind.u64 x15 (65535 : Int) → InR IntKind.u64 x16 → ∀ (x17 : Int), x17 = IntKind.i64.wrap x16 → InR IntKind.i64 x17 → ∀ (x18 : Int), x18 = shrI IntKind.u64 x5 (48 : Int) → InR IntKind.u64 x18 → ∀ (x19 : Int), x19 = andI IntKind.u64 x18 (65535 : Int) → InR IntKind.u64 x19 → ∀ (x20 : Int), x20 = IntKind.i64.wrap x19 → InR IntKind.i64 x20 → ∀ (x21 : Int), x21 = shrI IntKind.u64 x6 (0 : Int) → InR IntKind.u64 x21 → ∀ (x22 : Int), x22 = andI IntKind.u64 x21 (65535 : Int) → InR IntKind.u64 x22 → ∀ (x23 : Int), x23 = IntKind.i64.wrap x22 → InR IntKind.i64 x23 → ∀ (x24 : Int), x24 = shrI IntKind.u64 x6 (16 : Int) → InR IntKind.u64 x24 → ∀ (x25 : Int), x25 = andI IntKind.u64 x24 (65535 : Int) → InR IntKind.u64 x25 → ∀ (x26 : Int), x26 = IntKind.i64.wrap x25 → InR IntKind.i64 x26 → ∀ (x27 : Int), x27 = shrI IntKind.u64 x6 (32 : Int) → InR IntKind.u64 x27 → ∀ (x28 : Int), x28 = andI IntKind.u64 x27 (65535 : Int) → InR IntKind.u64 x28 → ∀ (x29 : Int), x29 = IntKind.i64.wrap x28 → InR IntKind.i64 x29 → ∀ (x30 : Int), x30 = shrI IntKind.u64 x6 (48 : Int) → InR IntKind.u64 x30 → ∀ (x31 : Int), x31 = andI IntKind.u64 x30 (65535 : Int) → InR IntKind.u64 x31 → ∀ (x32 : Int), x32 = IntKind.i64.wrap x31 → InR IntKind.i64 x32 → ∀ (x33 : Int), x33 = shrI IntKind.u64 x7 (0 : Int) → InR IntKind.u64 x33 → ∀ (x34 : Int), x34 = andI IntKind.u64 x33 (65535 : Int) → InR IntKind.u64 x34 → ∀ (x35 : Int), x35 = IntKind.i64.wrap x34 → InR IntKind.i64 x35 → ∀ (x36 : Int), x36 = shrI IntKind.u64 x7 (16 : Int) → InR IntKind.u64 x36 → ∀ (x37 : Int), x37 = andI IntKind.u64 x36 (65535 : Int) → InR IntKind.u64 x37 → ∀ (x38 : Int), x38 = IntKind.i64.wrap x37 → InR IntKind.i64 x38 → ∀ (x39 : Int), x39 = shrI IntKind.u64 x7 (32 : Int) → InR IntKind.u64 x39 → ∀ (x40 : Int), x40 = andI IntKind.u64 x39 (65535 : Int) → InR IntKind.u64 x40 → ∀ (x41 : Int), x41 = IntKind.i64.wrap x40 → InR IntKind.i64 x41 → ∀ (x42 : Int), x42 = shrI IntKind.u64 x7 (48 : Int) → InR IntKind.u64 x42 → ∀ (x43 : Int), x43 = andI IntKind.u64 x42 (65535 : Int) → InR IntKind.u64 x43 → ∀ (x44 : Int), x44 = IntKind.i64.wrap x43 → InR IntKind.i64 x44 → ∀ (x45 : Int), x45 = shrI IntKind.u64 x8 (0 : Int) → InR IntKind.u64 x45 → ∀ (x46 : Int), x46 = andI IntKind.u64 x45 (65535 : Int) → InR IntKind.u64 x46 → ∀ (x47 : Int), x47 = IntKind.i64.wrap x46 → InR IntKind.i64 x47 → ∀ (x48 : Int), x48 = shrI IntKind.u64 x8 (16 : Int) → InR IntKind.u64 x48 → ∀ (x49 : Int), x49 = andI IntKind.u64 x48 (65535 : Int) → InR IntKind.u64 x49 → ∀ (x50 : Int), x50 = IntKind.i64.wrap x49 → InR IntKind.i64 x50 → ∀ (x51 : Int), x51 = shrI IntKind.u64 x8 (32 : Int) → InR IntKind.u64 x51 → ∀ (x52 : Int), x52 = andI IntKind.u64 x51 (65535 : Int) → InR IntKind.u64 x52 → ∀ (x53 : Int), x53 = IntKind.i64.wrap x52 → InR IntKind.i64 x53 → ∀ (x54 : Int), x54 = shrI IntKind.u64 x8 (48 : Int) → InR IntKind.u64 x54 → ∀ (x55 : Int), x55 = andI IntKind.u64 x54 (65535 : Int) → InR IntKind.u64 x55 → ∀ (x56 : Int), x56 = IntKind.i64.wrap x55 → InR IntKind.i64 x56 → ∀ (x57 : List Int), x57 = digL (val4 [a0, a1, a2, a3] % (7237005577332262213973186563042994240857116359379907606001950938285454250989 : Int)) x4 → AllR IntKind.i64 x57 → ∀ (x58 : Int), x58 = ↑(digL (val4 [a0, a1, a2, a3] % (7237005577332262213973186563042994240857116359379907606001950938285454250989 : Int)) x4).length → (0 : Int) ≤ x58 → InR IntKind.i64 x58 → ∀ (x59 : Int), x59 = digE x4 → InR IntKind.i64 x59 → ∀ (x60 : List Int), x60 = nafL (val4 [a0, a1, a2, a3] % (7237005577332262213973186563042994240857116359379907606001950938285454250989 : Int)) x4 → AllR IntKind.i64 x60 → ∀ (x61 : Int), x61 = ↑(nafL (val4 [a0, a1, a2, a3] % (7237005577332262213973186563042994240857116359379907606001950938285454250989 : Int)) x4).length → (0 : Int) ≤ x61 → InR IntKind.i64 x61 → ∀ (x62 : Int), x62 = nafE x4 → InR IntKind.i64 x62 → ((x59 != (0 : Int)) = true → K (SV.b true false)) ∧ ((x59 != (0 : Int)) = false → ((x62 != (0 : Int)) = true → K (SV.b true false)) ∧ ((x62 != (0 : Int)) = false → Need (x4 ≠ (0 : Int)) ∧ ∀ (x63 : Int), x63 = IntKind.i64.wrap (Int.tdiv (253 : Int) x4) → InR IntKind.i64 x63 → ∀ (x64 : Int), x64 = IntKind.i64.wrap (x63 + (1 : Int)) → InR IntKind.i64 x64 → ((x58 != x64) = true → K (SV.b true false)) ∧ ((x58 != x64) = false → ((x61 != (254 : Int)) = true → K (SV.b true false)) ∧ ((x61 != (254 : Int)) = false → Need ((0 : Int) + x58 ≤ ↑x57.length) ∧ Need ((0 : Int) ≤ x4 ∧ x4 ≤ (12 : Int)) ∧ Need (x4 * ↑(List.take x58.toNat (List.drop (0 : Nat) x57)).length ≤ (287 : Int) ∧ ↑(List.take x58.toNat (List.drop (0 : Nat) x57)).length ≤ (254 : Int)) ∧ Need (∀ (z : Int), z ∈ List.take x58.toNat (List.drop (0 : Nat) x57) → (-1048576 : Int) ≤ z ∧ z ≤ (1048576 : Int)) ∧ Need ((0 : Int) ≤ vsum (p2 x4) (List.take x58.toNat (List.drop (0 : Nat) x57)) ∧ vsum (p2 x4) (List.take x58.toNat (List.drop (0 : Nat) x57)) < (2135987035920910082395021706169552114602704522356652769947041607822219725780640550022962086936576 : Int)) ∧ ∀ (x65 : List Int), x65 = cols (vsum (p2 x4) (List.take x58.toNat (List.drop (0 : Nat) x57))) → x65.length = (20 : Nat) → AllR IntKind.i64 x65 → ∀ (x66 : Bool), x66 = true → Need ((0 : Int) + x61 ≤ ↑x60.length) ∧ Need ((0 : Int) ≤ (1 : Int) ∧ (1 : Int) ≤ (12 : Int)) ∧ Need ((1 : Int) * ↑(List.take x61.toNat (List.drop (0 : Nat) x60)).length ≤ (287 : Int) ∧ ↑(List.take x61.toNat (List.drop (0 : Nat) x60)).length ≤ (254 : Int)) ∧ Need (∀ (z : Int), z ∈ List.take x61.toNat (List.drop (0 : Nat) x60) → (-1048576 : Int) ≤ z ∧ z ≤ (1048576 : Int)) ∧ Need ((0 : Int) ≤ vsum (2 : Int) (List.take x61.toNat (List.drop (0 : Nat) x60)) ∧ vsum (2 : Int) (List.take x61.toNat (List.drop (0 : Nat) x60)) < (2135987035920910082395021706169552114602704522356652769947041607822219725780640550022962086936576 : Int)) ∧ ∀ (x67 : List Int), x67 = cols (vsum (2 : Int) (List.take x61.toNat (List.drop (0 : Nat) x60))) → x67.length = (20 : Nat) → AllR IntKind.i64 x67 → ∀ (x68 : Bool), x68 = true → ((!x66) = true → K (SV.b true false)) ∧ ((!x66) = false → ((!x68) = true → K (SV.b true false)) ∧ ((!x68) = false → ((!x65 == ((((((((((((((((List.replicate (20 : Nat) (0 : Int)).set (0 : Nat) x11).set (1 : Nat) x14).set (2 : Nat) x17).set (3 : Nat) x20).set (4 : Nat) x23).set (5 : Nat) x26).set (6 : Nat) x29).set (7 : Nat) x32).set (8 : Nat) x35).set (9 : Nat) x38).set (10 : Nat) x41).set (11 : Nat) x44).set (12 : Nat) x47).set (13 : Nat) x50).set (14 : Nat) x53).set (15 : Nat) x56) = true → K (SV.b true false)) ∧ ((!x65 == ((((((((((((((((List.replicate (20 : Nat) (0 : Int)).set (0 : Nat) x11).set (1 : Nat) x14).set (2 : Nat) x17).set (3 : Nat) x20).set (4 : Nat) x23).set (5 : Nat) x26).set (6 : Nat) x29).set (7 : Nat) x32).set (8 : Nat) x35).set (9 : Nat) x38).set (10 : Nat) x41).set (11 : Nat) x44).set (12 : Nat) x47).set (13 : Nat) x50).set (14 : Nat) x53).set (15 : Nat) x56) = false → ((!x67 == ((((((((((((((((List.replicate (20 : Nat) (0 : Int)).set (0 : Nat) x11).set (1 : Nat) x14).set (2 : Nat) x17).set (3 : Nat) x20).set (4 : Nat) x23).set (5 : Nat) x26).set (6 : Nat) x29).set (7 : Nat) x32).set (8 : Nat) x35).set (9 : Nat) x38).set (10 : Nat) x41).set (11 : Nat) x44).set (12 : Nat) x47).set (13 : Nat) x50).set (14 : Nat) x53).set (15 : Nat) x56) = true → K (SV.b true false)) ∧ ((!x67 == ((((((((((((((((List.replicate (20 : Nat) (0 : Int)).set (0 : Nat) x11).set (1 : Nat) x14).set (2 : Nat) x17).set (3 : Nat) x20).set (4 : Nat) x23).set (5 : Nat) x26).set (6 : Nat) x29).set (7 : Nat) x32).set (8 : Nat) x35).set (9 : Nat) x38).set (10 : Nat) x41).set (11 : Nat) x44).set (12 : Nat) x47).set (13 : Nat) x50).set (14 : Nat) x53).set (15 : Nat) x56) = false → ∀ (x69 : Int), x69 = IntKind.i64.wrap (x4 - (1 : Int)) → InR IntKind.i64 x69 → Need ((0 : Int) ≤ x69) ∧ ∀ (x70 : Int), x70 = shlI IntKind.i64 (1 : Int) x69 → InR IntKind.i64 x70 → ∀ (x71 : Int), x71 = IntKind.i64.wrap ((0 : Int) - x4) → InR IntKind.i64 x71 → Same Tryd.f15 (22 : Nat) (itemsOf Tryd.f15 (22 : Nat)) ∧ Q (22 : Nat) [Pv.z x4, Pv.z x58, Pv.z x61, Pv.z x70, Pv.z x71, Pv.z (0 : Int), Pv.l x57, Pv.l x60]))))))))) := by
  intros
  kernel_rfl
set_option maxHeartbeats 4000000 in
set_option maxRecDepth 100000 in
theorem lc15a_eq : ∀ (w nd nn half last i : Int) (d n : List Int) (K : SV → Prop) (Q : Nat → List Pv → Prop), lc15a w nd nn half last i d n K Q = ((decide (i < nd) = true → Need ((0 : Int) ≤ i ∧ i < nd) ∧ Need ((0 : Int) ≤ i ∧ i < ↑d.length) ∧ ∀ (x1 : Int), x1 = d.getD i.toNat (0 : Int) → InR IntKind.i64 x1 → ∀ (x2 : Int), x2 = IntKind.i64.wrap ((0 : Int) - half) → InR IntKind.i64 x2 → (decide (x1 ≤ x2) = true → K (SV.b true false)) ∧ (decide (x1 ≤ x2) = false → Need ((0 : Int) ≤ i ∧ i < nd) ∧ Need ((0 : Int) ≤ i ∧ i < ↑d.length) ∧ ∀ (x3 : Int), x3 = d.getD i.toNat (0 : Int) → InR IntKind.i64 x3 → (decide (x3 > half) = true → K (SV.b true false)) ∧ (decide (x3 > half) = false → ∀ (x4 : Int), x4 = IntKind.i64.wrap (i + (1 : Int)) → InR IntKind.i64 x4 → Same Tryd.f15 (22 : Nat) (itemsOf Tryd.f15 (22 : Nat)) ∧ Q (22 : Nat) [Pv.z w, Pv.z nd, Pv.z nn, Pv.z half, Pv.z last, Pv.z x4, Pv.l d, Pv.l n]))) ∧ (decide (i < nd) = false → Same Tryd.f15 (27 : Nat) (itemsOf Tryd.f15 (27 : Nat)) ∧ Q (27 : Nat) [Pv.z w, Pv.z nn, Pv.z half, Pv.z last, Pv.z (0 : Int), Pv.l n])) := by
  intros
  kernel_rfl
set_option maxHeartbeats 4000000 in
set_option maxRecDepth 100000 in
theorem lc15b_eq : ∀ (w nn half last i : Int) (n : List Int) (K : SV → Prop) (Q : Nat → List Pv → Prop), lc15b w nn half last i n K Q = ((decide (i < nn) = true → Need ((0 : Int) ≤ i ∧ i < nn) ∧ Need ((0 : Int) ≤ i ∧ i < ↑n.length) ∧ ∀ (x1 : Int), x1 = n.getD i.toNat (0 : Int) → InR IntKind.i64 x1 → ((x1 != (0 : Int)) = true → Need ((0 : Int) ≤ i ∧ i < nn) ∧ Need ((0 : Int) ≤ i ∧ i < ↑n.length) ∧ ∀ (x2 : Int), x2 = n.getD i.toNat (0 : Int) → InR IntKind.i64 x2 → ∀ (x3 : Int), x3 = x2.tmod (2 : Int) → InR IntKind.i64 x3 → ((x3 == (0 : Int)) = true → K (SV.b true false)) ∧ ((x3 == (0 : Int)) = false → Need ((0 : Int) ≤ i ∧ i < nn) ∧ Need ((0 : Int) ≤ i ∧ i < ↑n.length) ∧ ∀ (x4 : Int), x4 = n.getD i.toNat (0 : Int) → InR IntKind.i64 x4 → ∀ (x5 : Int), x5 = IntKind.i64.wrap ((0 : Int) - half) → InR IntKind.i64 x5 → (decide (x4 ≤ x5) = true → K (SV.b true false)) ∧ (decide (x4 ≤ x5) = false → Need ((0 : Int) ≤ i ∧ i < nn) ∧ Need ((0 : Int) ≤ i ∧ i < ↑n.length) ∧ ∀ (x6 : Int), x6 = n.getD i.toNat (0 : Int) → InR IntKind.i64 x6 → (decide (x6 ≥ half) = true → K (SV.b true false)) ∧ (decide (x6 ≥ half) = false → ∀ (x7 : Int), x7 = IntKind.i64.wrap (i - last) → InR IntKind.i64 x7 → (decide (x7 < w) = true → K (SV.b true false)) ∧ (decide (x7 < w) = false → ∀ (x8 : Int), x8 = IntKind.i64.wrap (i + (1 : Int)) → InR IntKind.i64 x8 → Same Tryd.f15 (27 : Nat) (itemsOf Tryd.f15 (27 : Nat)) ∧ Q (27 : Nat) [Pv.z w, Pv.z nn, Pv.z half, Pv.z i, Pv.z x8, Pv.l n]))))) ∧ ((x1 != (0 : Int)) = false → ∀ (x9 : Int), x9 = IntKind.i64.wrap (i + (1 : Int)) → InR IntKind.i64 x9 → Same Tryd.f15 (27 : Nat) (itemsOf Tryd.f15 (27 : Nat)) ∧ Q (27 : Nat) [Pv.z w, Pv.z nn, Pv.z half, Pv.z last, Pv.z x9, Pv.l n])) ∧ (decide (i < nn) = false → K (SV.b true true))) := by
  intros
  kernel_rfl

theorem and_i7 {a : Int} : andI .i64 a 127 = a % 128 := by
  have h0 : andI .i64 a 127 = IntKind.i64.wrap (((BitVec.ofInt 64 a &&& BitVec.ofInt 64 127).toNat : Nat) : Int) := rfl
  have h1 : (BitVec.ofInt 64 (127 : Int)).toNat = 2 ^ 7 - 1 := by decide
  have h2 : ((BitVec.ofInt 64 a).toNat : Int) = a % 18446744073709551616 := by
    rw [BitVec.toNat_ofInt]
    have := Int.emod_nonneg a (show (18446744073709551616 : Int) ≠ 0 by decide)
    simp; omega
  rw [h0, BitVec.toNat_and, h1, Nat.and_two_pow_sub_one_eq_mod]
  have h3 : (((BitVec.ofInt 64 a).toNat % 2 ^ 7 : Nat) : Int) = a % 128 := by
    rw [Int.natCast_emod, h2]
    omega
  rw [h3, wrap_i64 (by omega)]
theorem col_at (k : Nat) (hk : k ≤ 64) {w s q v K P : Int} (hw : InR .u64 w) (hK : K = (k : Int)) (hP : P = ((2 ^ k : Nat) : Int)) (hP0 : 0 < P) (es : s = shrI .u64 w K) (eq : q = andI .u64 s 65535) (ev : v = IntKind.i64.wrap q) (rs : InR .u64 s) : v = w / P % 65536 := by
  rw [and16 rs] at eq
  rw [hK, shrI_u64 w k hk, ← hP] at es
  have h : 0 ≤ q ∧ q < 65536 := by omega
  rw [ev, wrap_i64 (by omega), eq, es]
set_option maxHeartbeats 4000000 in
set_option maxRecDepth 100000 in
theorem cols_lit (n : Int) : cols n = [n / 1 % 65536, n / 65536 % 65536, n / 4294967296 % 65536, n / 281474976710656 % 65536, n / 18446744073709551616 % 65536, n / 1208925819614629174706176 % 65536, n / 79228162514264337593543950336 % 65536, n / 5192296858534827628530496329220096 % 65536, n / 340282366920938463463374607431768211456 % 65536, n / 22300745198530623141535718272648361505980416 % 65536, n / 1461501637330902918203684832716283019655932542976 % 65536, n / 95780971304118053647396689196894323976171195136475136 % 65536, n / 6277101735386680763835789423207666416102355444464034512896 % 65536, n / 411376139330301510538742295639337626245683966408394965837152256 % 65536, n / 26959946667150639794667015087019630673637144422540572481103610249216 % 65536, n / 1766847064778384329583297500742918515827483896875618958121606201292619776 % 65536, n / 115792089237316195423570985008687907853269984665640564039457584007913129639936 % 65536, n / 7588550360256754183279148073529370729071901715047420004889892225542594864082845696 % 65536, n / 497323236409786642155382248146820840100456150797347717440463976893159497012533375533056 % 65536, n / 32592575621351777380295131014550050576823494298654980010178247189670100796213387298934358016 % 65536] := by
  have e : cols n = (List.range 20).map fun j => n / ((65536 : Int) ^ j) % 65536 := rfl
  rw [e, show List.range 20 = [0, 1, 2, 3, 4, 5, 6, 7, 8, 9, 10, 11, 12, 13, 14, 15, 16, 17, 18, 19] from rfl]
  simp only [List.map_cons, List.map_nil]
  have p : ∀ (j : Nat) (v : Int), (65536 : Int) ^ j = v → n / (65536 : Int) ^ j % 65536 = n / v % 65536 := fun j v h => by rw [h]
  rw [p 0 1 (by decide +kernel), p 1 65536 (by decide +kernel), p 2 4294967296 (by decide +kernel), p 3 281474976710656 (by decide +kernel), p 4 18446744073709551616 (by decide +kernel), p 5 1208925819614629174706176 (by decide +kernel), p 6 79228162514264337593543950336 (by decide +kernel), p 7 5192296858534827628530496329220096 (by decide +kernel), p 8 340282366920938463463374607431768211456 (by decide +kernel), p 9 22300745198530623141535718272648361505980416 (by decide +kernel), p 10 1461501637330902918203684832716283019655932542976 (by decide +kernel), p 11 95780971304118053647396689196894323976171195136475136 (by decide +kernel), p 12 6277101735386680763835789423207666416102355444464034512896 (by decide +kernel), p 13 411376139330301510538742295639337626245683966408394965837152256 (by decide +kernel), p 14 26959946667150639794667015087019630673637144422540572481103610249216 (by decide +kernel), p 15 1766847064778384329583297500742918515827483896875618958121606201292619776 (by decide +kernel), p 16 115792089237316195423570985008687907853269984665640564039457584007913129639936 (by decide +kernel), p 17 7588550360256754183279148073529370729071901715047420004889892225542594864082845696 (by decide +kernel), p 18 497323236409786642155382248146820840100456150797347717440463976893159497012533375533056 (by decide +kernel), p 19 32592575621351777380295131014550050576823494298654980010178247189670100796213387298934358016 (by decide +kernel)]

def inv15 (n w : Int) (key : Nat) (ps : List Pv) (m : Nat) : Prop :=
  (key = 22 ∧ ∃ k : Nat, ps = [.z w, .z (253 / w + 1), .z 254, .z (p2 (w - 1)), .z (-w), .z (k : Int), .l (digL n w), .l (nafL n w)] ∧ m = 1000 - k ∧ (k : Int) ≤ 253 / w + 1) ∨
    (key = 27 ∧ ∃ (k : Nat) (last : Int), ps = [.z w, .z 254, .z (p2 (w - 1)), .z last, .z (k : Int), .l (nafL n w)] ∧ m = 254 - k ∧ k ≤ 254 ∧ ((last = -w) ∨ ∃ j : Nat, j < k ∧ last = (j : Int) ∧ (nafL n w).getD j 0 ≠ 0))

set_option maxHeartbeats 4000000 in
set_option maxRecDepth 100000 in
theorem round15a {n w : Int} {k : Nat} {Q : Nat → List Pv → Prop} (hn : 0 ≤ n ∧ n < ell) (hw : 2 ≤ w ∧ w ≤ 8) (hk : (k : Int) ≤ 253 / w + 1)
    (h1 : (k : Int) + 1 ≤ 253 / w + 1 → Q 22 [.z w, .z (253 / w + 1), .z 254, .z (p2 (w - 1)), .z (-w), .z ((k + 1 : Nat) : Int), .l (digL n w), .l (nafL n w)])
    (h2 : Q 27 [.z w, .z 254, .z (p2 (w - 1)), .z (-w), .z 0, .l (nafL n w)]) : lc15a w (253 / w + 1) 254 (p2 (w - 1)) (-w) (k : Int) (digL n w) (nafL n w) (fun x => ∃ e, x = .b e true) Q := by
  obtain ⟨d1, d2, d3⟩ := dig_says hn hw
  have hp := p2_bd (w := w - 1) (by omega)
  have hle : 253 / w ≤ 253 := by rw [Int.ediv_le_iff_le_mul (by omega)]; omega
  rw [lc15a_eq]
  refine ⟨fun h => ?_, fun h => ⟨rfl, h2⟩⟩
  have h := of_decide_eq_true h
  have hkl : k < (digL n w).length := by omega
  refine ⟨need_of (by omega), need_of (by omega), fun x1 e1 _ x2 e2 _ => ?_⟩
  have hg : (digL n w).getD (k : Int).toNat 0 = (digL n w)[k] := by rw [Int.toNat_natCast, List.getD_eq_getElem?_getD, List.getElem?_eq_getElem hkl]; rfl
  have hd := d2 _ (List.getElem_mem hkl)
  rw [hg] at e1 ⊢
  rw [wrap_i64 (by omega)] at e2
  refine ⟨fun h' => by have := of_decide_eq_true h'; omega, fun _ => ⟨need_of (by omega), need_of (by omega), fun x3 e3 _ => ⟨fun h' => by have := of_decide_eq_true h'; omega, fun _ x4 e4 _ => ⟨rfl, ?_⟩⟩⟩⟩
  rw [e4, wrap_i64 (by omega)]
  exact h1 (by omega)

set_option maxHeartbeats 4000000 in
set_option maxRecDepth 100000 in
theorem round15b {n w last : Int} {k : Nat} {Q : Nat → List Pv → Prop} (hn : 0 ≤ n ∧ n < ell) (hw : 2 ≤ w ∧ w ≤ 8) (hk : k ≤ 254) (hl : (last = -w) ∨ ∃ j : Nat, j < k ∧ last = (j : Int) ∧ (nafL n w).getD j 0 ≠ 0)
    (h1 : k < 254 → ∀ last', ((last' = -w) ∨ ∃ j : Nat, j < k + 1 ∧ last' = (j : Int) ∧ (nafL n w).getD j 0 ≠ 0) → Q 27 [.z w, .z 254, .z (p2 (w - 1)), .z last', .z ((k + 1 : Nat) : Int), .l (nafL n w)]) : lc15b w 254 (p2 (w - 1)) last (k : Int) (nafL n w) (fun x => ∃ e, x = .b e true) Q := by
  obtain ⟨m1, m2, m3, m4⟩ := naf_says hn hw
  have hp := p2_bd (w := w - 1) (by omega)
  rw [lc15b_eq]
  refine ⟨fun h => ?_, fun h => ⟨true, rfl⟩⟩
  have h := of_decide_eq_true h
  refine ⟨need_of (by omega), need_of (by omega), fun x1 e1 _ => ?_⟩
  rw [Int.toNat_natCast] at e1 ⊢
  have hw8 : IntKind.i64.wrap ((k : Int) + 1) = (k : Int) + 1 := wrap_i64 (by omega)
  refine ⟨fun hne => ?_, fun heq => ?_⟩
  · have hne : ¬ x1 = 0 := by simpa using hne
    have hnz : (nafL n w).getD k 0 ≠ 0 := by rw [← e1]; exact hne
    have hf := m3 k hnz
    refine ⟨need_of (by omega), need_of (by omega), fun x2 e2 _ x3 e3 _ => ?_⟩
    have h3 : x3 ≠ 0 := fun h0 => by
      rw [h0] at e3
      have := Int.dvd_of_tmod_eq_zero e3.symm
      have := Int.emod_eq_zero_of_dvd this
      omega
    refine ⟨fun h' => absurd (by simpa using h') h3, fun _ => ⟨need_of (by omega), need_of (by omega), fun x4 e4 _ x5 e5 _ => ?_⟩⟩
    rw [wrap_i64 (by omega)] at e5
    refine ⟨fun h' => by have := of_decide_eq_true h'; omega, fun _ => ⟨need_of (by omega), need_of (by omega), fun x6 e6 _ => ⟨fun h' => by have := of_decide_eq_true h'; omega, fun _ x7 e7 _ => ?_⟩⟩⟩
    have hlast : w ≤ (k : Int) - last ∧ -8 ≤ last := by
      rcases hl with rfl | ⟨j, hj, rfl, hz⟩
      · omega
      · have := m4 j k hj hz hnz; omega
    have hlk : last ≤ 254 := by omega
    rw [wrap_i64 (by omega)] at e7
    refine ⟨fun h' => by have := of_decide_eq_true h'; omega, fun _ x8 e8 _ => ⟨rfl, ?_⟩⟩
    rw [e8, hw8]
    exact h1 (by omega) _ (.inr ⟨k, by omega, rfl, hnz⟩)
  · intro x9 e9 _
    refine ⟨rfl, ?_⟩
    rw [e9, hw8]
    refine h1 (by omega) _ ?_
    rcases hl with h | ⟨j, hj, h, hz⟩
    · exact .inl h
    · exact .inr ⟨j, by omega, h, hz⟩

namespace ScalarSpelled
set_option maxHeartbeats 4000000 in
set_option maxRecDepth 100000 in
theorem entry (a0 a1 a2 a3 x : Int) (ia0 : InR .u64 a0) (ia1 : InR .u64 a1) (ia2 : InR .u64 a2) (ia3 : InR .u64 a3) (Q : Nat → List Pv → Prop) (h : ∀ w, 2 ≤ w ∧ w ≤ 8 → Q 22 [.z w, .z (253 / w + 1), .z 254, .z (p2 (w - 1)), .z (-w), .z 0, .l (digL (val4 [a0, a1, a2, a3] % ell) w), .l (nafL (val4 [a0, a1, a2, a3] % ell) w)]) :
    vc15 a0 a1 a2 a3 x (fun x => ∃ e, x = .b e true) Q := by
  rw [vc15_eq, ← ell_lit]
  have hn := mod_bd (val4 [a0, a1, a2, a3])
  generalize val4 [a0, a1, a2, a3] % ell = n at *
  rintro x1 rfl
  refine ⟨fun h => by simp at h, fun _ => ?_⟩
  intro x2 e2 _ x3 e3 _ x4 e4 _
  rw [and_i7] at e2
  rw [Int.tmod_eq_emod_of_nonneg (by omega)] at e3
  rw [wrap_i64 (by omega)] at e4
  have hw : 2 ≤ x4 ∧ x4 ≤ 8 := by omega
  clear e2 e3 e4
  intro x5 e5 r5 x6 e6 r6 x7 e7 r7 x8 e8 r8 x9 e9 r9 x10 e10 r10 x11 e11 r11 x12 e12 r12 x13 e13 r13 x14 e14 r14 x15 e15 r15 x16 e16 r16 x17 e17 r17 x18 e18 r18 x19 e19 r19 x20 e20 r20 x21 e21 r21 x22 e22 r22 x23 e23 r23 x24 e24 r24 x25 e25 r25 x26 e26 r26 x27 e27 r27 x28 e28 r28 x29 e29 r29 x30 e30 r30 x31 e31 r31 x32 e32 r32 x33 e33 r33 x34 e34 r34 x35 e35 r35 x36 e36 r36 x37 e37 r37 x38 e38 r38 x39 e39 r39 x40 e40 r40 x41 e41 r41 x42 e42 r42 x43 e43 r43 x44 e44 r44 x45 e45 r45 x46 e46 r46 x47 e47 r47 x48 e48 r48 x49 e49 r49 x50 e50 r50 x51 e51 r51 x52 e52 r52 x53 e53 r53 x54 e54 r54 x55 e55 r55 x56 e56 r56
  have s0 := col_at 0 (by omega) (P := 1) (K := 0) r5 rfl rfl (by omega) e9 e10 e11 r9
  have s1 := col_at 16 (by omega) (P := 65536) (K := 16) r5 rfl rfl (by omega) e12 e13 e14 r12
  have s2 := col_at 32 (by omega) (P := 4294967296) (K := 32) r5 rfl rfl (by omega) e15 e16 e17 r15
  have s3 := col_at 48 (by omega) (P := 281474976710656) (K := 48) r5 rfl rfl (by omega) e18 e19 e20 r18
  have s4 := col_at 0 (by omega) (P := 1) (K := 0) r6 rfl rfl (by omega) e21 e22 e23 r21
  have s5 := col_at 16 (by omega) (P := 65536) (K := 16) r6 rfl rfl (by omega) e24 e25 e26 r24
  have s6 := col_at 32 (by omega) (P := 4294967296) (K := 32) r6 rfl rfl (by omega) e27 e28 e29 r27
  have s7 := col_at 48 (by omega) (P := 281474976710656) (K := 48) r6 rfl rfl (by omega) e30 e31 e32 r30
  have s8 := col_at 0 (by omega) (P := 1) (K := 0) r7 rfl rfl (by omega) e33 e34 e35 r33
  have s9 := col_at 16 (by omega) (P := 65536) (K := 16) r7 rfl rfl (by omega) e36 e37 e38 r36
  have s10 := col_at 32 (by omega) (P := 4294967296) (K := 32) r7 rfl rfl (by omega) e39 e40 e41 r39
  have s11 := col_at 48 (by omega) (P := 281474976710656) (K := 48) r7 rfl rfl (by omega) e42 e43 e44 r42
  have s12 := col_at 0 (by omega) (P := 1) (K := 0) r8 rfl rfl (by omega) e45 e46 e47 r45
  have s13 := col_at 16 (by omega) (P := 65536) (K := 16) r8 rfl rfl (by omega) e48 e49 e50 r48
  have s14 := col_at 32 (by omega) (P := 4294967296) (K := 32) r8 rfl rfl (by omega) e51 e52 e53 r51
  have s15 := col_at 48 (by omega) (P := 281474976710656) (K := 48) r8 rfl rfl (by omega) e54 e55 e56 r54
  have hchain : ((((((((((((((((List.replicate 20 (0 : Int)).set 0 x11).set 1 x14).set 2 x17).set 3 x20).set 4 x23).set 5 x26).set 6 x29).set 7 x32).set 8 x35).set 9 x38).set 10 x41).set 11 x44).set 12 x47).set 13 x50).set 14 x53).set 15 x56 = cols n := by
    refine Eq.trans (b := [x11, x14, x17, x20, x23, x26, x29, x32, x35, x38, x41, x44, x47, x50, x53, x56, 0, 0, 0, 0]) (by kernel_rfl) ?_
    rw [cols_lit]
    have he := ell_lit
    simp only [w0] at e5
    simp only [w1] at e6
    simp only [w2] at e7
    simp only [w3] at e8
    clear e9 r9 e10 r10 e11 r11 e12 r12 e13 r13 e14 r14 e15 r15 e16 r16 e17 r17 e18 r18 e19 r19 e20 r20 e21 r21 e22 r22 e23 r23 e24 r24 e25 r25 e26 r26 e27 r27 e28 r28 e29 r29 e30 r30 e31 r31 e32 r32 e33 r33 e34 r34 e35 r35 e36 r36 e37 r37 e38 r38 e39 r39 e40 r40 e41 r41 e42 r42 e43 r43 e44 r44 e45 r45 e46 r46 e47 r47 e48 r48 e49 r49 e50 r50 e51 r51 e52 r52 e53 r53 e54 r54 e55 r55 e56 r56 r5 r6 r7 r8
    simp only [List.cons.injEq, and_true]
    refine ⟨?_, ?_, ?_, ?_, ?_, ?_, ?_, ?_, ?_, ?_, ?_, ?_, ?_, ?_, ?_, ?_, ?_, ?_, ?_, ?_⟩
    · rw [s0, e5]; clear s0 s1 s2 s3 s4 s5 s6 s7 s8 s9 s10 s11 s12 s13 s14 s15 e5 e6 e7 e8; omega
    · rw [s1, e5]; clear s0 s1 s2 s3 s4 s5 s6 s7 s8 s9 s10 s11 s12 s13 s14 s15 e5 e6 e7 e8; omega
    · rw [s2, e5]; clear s0 s1 s2 s3 s4 s5 s6 s7 s8 s9 s10 s11 s12 s13 s14 s15 e5 e6 e7 e8; omega
    · rw [s3, e5]; clear s0 s1 s2 s3 s4 s5 s6 s7 s8 s9 s10 s11 s12 s13 s14 s15 e5 e6 e7 e8; omega
    · rw [s4, e6]; clear s0 s1 s2 s3 s4 s5 s6 s7 s8 s9 s10 s11 s12 s13 s14 s15 e5 e6 e7 e8; omega
    · rw [s5, e6]; clear s0 s1 s2 s3 s4 s5 s6 s7 s8 s9 s10 s11 s12 s13 s14 s15 e5 e6 e7 e8; omega
    · rw [s6, e6]; clear s0 s1 s2 s3 s4 s5 s6 s7 s8 s9 s10 s11 s12 s13 s14 s15 e5 e6 e7 e8; omega
    · rw [s7, e6]; clear s0 s1 s2 s3 s4 s5 s6 s7 s8 s9 s10 s11 s12 s13 s14 s15 e5 e6 e7 e8; omega
    · rw [s8, e7]; clear s0 s1 s2 s3 s4 s5 s6 s7 s8 s9 s10 s11 s12 s13 s14 s15 e5 e6 e7 e8; omega
    · rw [s9, e7]; clear s0 s1 s2 s3 s4 s5 s6 s7 s8 s9 s10 s11 s12 s13 s14 s15 e5 e6 e7 e8; omega
    · rw [s10, e7]; clear s0 s1 s2 s3 s4 s5 s6 s7 s8 s9 s10 s11 s12 s13 s14 s15 e5 e6 e7 e8; omega
    · rw [s11, e7]; clear s0 s1 s2 s3 s4 s5 s6 s7 s8 s9 s10 s11 s12 s13 s14 s15 e5 e6 e7 e8; omega
    · rw [s12, e8]; clear s0 s1 s2 s3 s4 s5 s6 s7 s8 s9 s10 s11 s12 s13 s14 s15 e5 e6 e7 e8; omega
    · rw [s13, e8]; clear s0 s1 s2 s3 s4 s5 s6 s7 s8 s9 s10 s11 s12 s13 s14 s15 e5 e6 e7 e8; omega
    · rw [s14, e8]; clear s0 s1 s2 s3 s4 s5 s6 s7 s8 s9 s10 s11 s12 s13 s14 s15 e5 e6 e7 e8; omega
    · rw [s15, e8]; clear s0 s1 s2 s3 s4 s5 s6 s7 s8 s9 s10 s11 s12 s13 s14 s15 e5 e6 e7 e8; omega
    · clear s0 s1 s2 s3 s4 s5 s6 s7 s8 s9 s10 s11 s12 s13 s14 s15 e5 e6 e7 e8; omega
    · clear s0 s1 s2 s3 s4 s5 s6 s7 s8 s9 s10 s11 s12 s13 s14 s15 e5 e6 e7 e8; omega
    · clear s0 s1 s2 s3 s4 s5 s6 s7 s8 s9 s10 s11 s12 s13 s14 s15 e5 e6 e7 e8; omega
    · clear s0 s1 s2 s3 s4 s5 s6 s7 s8 s9 s10 s11 s12 s13 s14 s15 e5 e6 e7 e8; omega
  rw [hchain]
  clear s0 s1 s2 s3 s4 s5 s6 s7 s8 s9 s10 s11 s12 s13 s14 s15 hchain e5 r5 e6 r6 e7 r7 e8 r8 e9 r9 e10 r10 e11 r11 e12 r12 e13 r13 e14 r14 e15 r15 e16 r16 e17 r17 e18 r18 e19 r19 e20 r20 e21 r21 e22 r22 e23 r23 e24 r24 e25 r25 e26 r26 e27 r27 e28 r28 e29 r29 e30 r30 e31 r31 e32 r32 e33 r33 e34 r34 e35 r35 e36 r36 e37 r37 e38 r38 e39 r39 e40 r40 e41 r41 e42 r42 e43 r43 e44 r44 e45 r45 e46 r46 e47 r47 e48 r48 e49 r49 e50 r50 e51 r51 e52 r52 e53 r53 e54 r54 e55 r55 e56 r56
  obtain ⟨d1, d2, d3⟩ := dig_says hn hw
  obtain ⟨m1, m2, m3, m4⟩ := naf_says hn hw
  have hp := p2_bd (w := x4 - 1) (by omega)
  have hle : 253 / x4 ≤ 253 := by rw [Int.ediv_le_iff_le_mul (by omega)]; omega
  have hpos : 0 ≤ 253 / x4 := Int.ediv_nonneg (by omega) (by omega)
  obtain ⟨W, h0, c1, c2, c3, c4, c5, c6, c7, c8, c9, hmul, c11, c12⟩ := p2_cases hw
  intro x57 e57 _ x58 e58 _ _ x59 e59 _ x60 e60 _ x61 e61 _ _ x62 e62 _
  have f58 : x58 = 253 / x4 + 1 := by rw [e58]; exact d1
  have f61 : x61 = 254 := by rw [e61, m1]; rfl
  have f59 : x59 = 0 := by rw [e59]; unfold digE; rw [if_neg (by omega)]
  have f62 : x62 = 0 := by rw [e62]; unfold nafE; rw [if_neg (by omega)]
  have v1 : List.take x58.toNat (List.drop 0 x57) = digL n x4 := by
    rw [e57, List.drop_zero, List.take_of_length_le (by omega)]
  have v2 : List.take x61.toNat (List.drop 0 x60) = nafL n x4 := by
    rw [e60, List.drop_zero, List.take_of_length_le (by omega)]
  rw [v1, v2, d3, m2]
  have he := ell_lit
  refine ⟨fun h => by rw [f59] at h; simp at h, fun _ => ⟨fun h => by rw [f62] at h; simp at h, fun _ => ⟨need_of (by omega), fun x63 e63 _ x64 e64 _ => ?_⟩⟩⟩
  rw [Int.tdiv_eq_ediv_of_nonneg (by omega), wrap_i64 (by omega)] at e63
  rw [wrap_i64 (by omega)] at e64
  have hz : ∀ z ∈ nafL n x4, -1048576 ≤ z ∧ z ≤ 1048576 := fun z hz => by
    obtain ⟨j, hj, rfl⟩ := List.getElem_of_mem hz
    have hg : (nafL n x4).getD j 0 = (nafL n x4)[j] := by rw [List.getD_eq_getElem?_getD, List.getElem?_eq_getElem hj]; rfl
    by_cases h0 : (nafL n x4)[j] = 0
    · omega
    · have := m3 j (by rw [hg]; exact h0)
      omega
  refine ⟨fun h => by rw [f58, e64, e63] at h; simp at h, fun _ => ⟨fun h => by rw [f61] at h; simp at h, fun _ => ?_⟩⟩
  refine ⟨need_of (by rw [e57, ← e58]; omega), need_of (by omega), need_of (by rw [d1]; exact ⟨hmul, by omega⟩), need_of (fun z hz => by have := d2 z hz; omega), need_of (by omega), ?_⟩
  rintro x65 rfl _ _ x66 rfl
  refine ⟨need_of (by rw [e60, ← e61]; omega), need_of (by omega), need_of (by rw [m1]; omega), need_of hz, need_of (by omega), ?_⟩
  rintro x67 rfl _ _ x68 rfl
  refine ⟨fun h => by simp at h, fun _ => ⟨fun h => by simp at h, fun _ => ⟨fun h => by rw [beq_self_eq_true] at h; simp at h, fun _ => ⟨fun h => by rw [beq_self_eq_true] at h; simp at h, fun _ x69 e69 _ => ?_⟩⟩⟩⟩
  rw [wrap_i64 (by omega)] at e69
  refine ⟨need_of (by omega), fun x70 e70 _ x71 e71 _ => ⟨rfl, ?_⟩⟩
  rw [e69, shl_p2 (by omega)] at e70
  rw [wrap_i64 (by omega)] at e71
  have := h x4 hw
  rw [f58, f61, e70, show x71 = -x4 by omega, e57, e60]
  exact this

set_option maxHeartbeats 4000000 in
set_option maxRecDepth 100000 in
theorem law (W : World) (hG : Glob gh W fun _ => False) (l0 : List Int) (hl0 : l0.length = 4) (hr0 : AllR .u64 l0) (x : Int) (hr1 : InR .i64 x) :
    Calls Tryd.prog 15 #[.agg (l0.map (Value.int .u64)).toArray, .int .i64 x] W fun e w' => e = .returned (.bool true) ∧ Below W.heap.size W w' := by
  obtain ⟨a0, a1, a2, a3, rfl⟩ := len4 hl0
  have ia0 := hr0 a0 (by simp); have ia1 := hr0 a1 (by simp); have ia2 := hr0 a2 (by simp); have ia3 := hr0 a3 (by simp)
  refine law_calls (f := 15) (fn := Tryd.f15) (L := L15) (inv := fun key ps m => ∃ w, (2 ≤ w ∧ w ≤ 8) ∧ inv15 (val4 [a0, a1, a2, a3] % ell) w key ps m) (args := [.arr .u64 4 true [a0, a1, a2, a3], .i .i64 ⟨false, x⟩]) (vs := [.agg ([a0, a1, a2, a3].map (Value.int .u64)).toArray, .int .i64 x]) (K := fun x => ∃ e, x = .b e true)
    Γ22_ok rfl rfl ⟨?_, ?_, ?_⟩ (Nat.le_of_ble_eq_true (by kernel_rfl)) hG ⟨_, _, ⟨rfl, hr0, rfl⟩, rfl, _, _, ⟨rfl, hr1⟩, rfl, rfl⟩ (fun _ h => h)
  · intro k t ht g hg
    have hg : g ∈ keysOf gh := hg
    simp only [gh, keysOf, List.mem_singleton] at hg
    subst hg
    simp only [L15, List.mem_cons, List.not_mem_nil, or_false, Prod.mk.injEq] at ht
    rcases ht with ⟨rfl, rfl⟩ | ⟨rfl, rfl⟩ <;> exact ⟨by omega, rfl⟩
  · have hn := mod_bd (val4 [a0, a1, a2, a3])
    rintro key ps m ⟨w, hw, ⟨rfl, k, rfl, rfl, hk⟩ | ⟨rfl, k, last, rfl, rfl, hk, hl⟩⟩
    · have hle : 253 / w ≤ 253 := by rw [Int.ediv_le_iff_le_mul (by omega)]; omega
      show lc15a w (253 / w + 1) 254 (p2 (w - 1)) (-w) (k : Int) (digL (val4 [a0, a1, a2, a3] % ell) w) (nafL (val4 [a0, a1, a2, a3] % ell) w) _ _
      exact round15a hn hw hk (fun h => ⟨1000 - (k + 1), by omega, w, hw, .inl ⟨rfl, k + 1, rfl, rfl, by omega⟩⟩) ⟨254, by omega, w, hw, .inr ⟨rfl, 0, -w, rfl, rfl, by omega, .inl rfl⟩⟩
    · show lc15b w 254 (p2 (w - 1)) last (k : Int) (nafL (val4 [a0, a1, a2, a3] % ell) w) _ _
      exact round15b hn hw hk hl fun hlt last' hl' => ⟨254 - (k + 1), by omega, w, hw, .inr ⟨rfl, k + 1, last', rfl, rfl, by omega, hl'⟩⟩
  · show vc15 a0 a1 a2 a3 x _ _
    refine entry a0 a1 a2 a3 x ia0 ia1 ia2 ia3 _ fun w hw => ⟨1000, w, hw, .inl ⟨rfl, 0, rfl, rfl, ?_⟩⟩
    have : 0 ≤ 253 / w := Int.ediv_nonneg (by omega) (by omega)
    omega
end ScalarSpelled

namespace ScalarSpelled
open Go.Proofs.YtnjcbedjhokfhaaDoor
open Go.ChangeShapes Go.WideShapes Go.ChangeAt Go.RowKit
theorem reads (t : Nat) (h : t ∈ Tryd.f15.params.toList) : Tryd.prog.readableRec t = true ∧ t < Tryd.prog.types.size := by
  have hp : Tryd.f15.params.toList = [24, 3] := by kernel_rfl
  rw [hp] at h
  simp only [List.mem_cons, List.not_mem_nil, or_false] at h
  rcases h with rfl | rfl <;> exact ⟨by kernel_rfl, Nat.le_of_ble_eq_true (by kernel_rfl)⟩

set_option maxRecDepth 100000 in
/-- What the call gives, for every argument and every world that holds the table. -/
theorem contract (H : Type) (enc : TypeId × Value → H) (W : World) (base : Nat) (args : Array Value) (ds gs : List (DataW H)) (before : List MemPlace)
    (hval : ∀ (j : Nat) t v, Tryd.f15.params[j]? = some t → args[j]? = some v → Value.okWide Tryd.prog W .any base t v)
    (hW : DataW.Whole enc Tryd.prog Tryd.f15.params.toList Rows.scalarSpelledSpec.vars false W args.toList ds gs before) (hL : laidMetH Tryd.prog Rows.scalarSpelledRow.laid W) :
    Calls Tryd.prog 15 args W fun e W' => ∃ v, e = .returned v ∧ Rows.scalarSpelledSpec.post enc Tryd.prog Tryd.f15 false true false false W args v W' := by
  have hA : DataW.TrodAll enc Tryd.prog W 0 (fun _ => true) true [24, 3] args.toList ds _ := hW.choose_spec.choose_spec.1
  obtain ⟨v0, vs0, d0, ds0, p0, q0, hargs, _, _, h0, r0⟩ := trodAll_cons hA
  obtain ⟨v1, vs1, d1, ds1, p1, q1, rfl, _, _, h1, r1⟩ := trodAll_cons r0
  obtain ⟨rfl, _, _⟩ := trodAll_nil r1
  obtain rfl : args = #[v0, v1] := by cases args; simp_all
  have hp : Tryd.f15.params = #[24, 3] := by kernel_rfl
  rw [hp] at hval
  obtain ⟨l0, hl0, hr0, rfl⟩ := arr_arg (n := 4) (e := 22) (k := .u64) (by kernel_rfl) (by kernel_rfl) (by kernel_rfl) (by kernel_rfl) (hval 0 24 v0 rfl rfl)
  obtain ⟨z1, rfl, hr1⟩ := int_arg (k := .i64) (by kernel_rfl) (hval 1 3 v1 rfl rfl)
  refine (law W (tab_glob hL) l0 hl0 hr0 z1 hr1).mono fun e W' ⟨he, hB⟩ => ?_
  subst he
  refine ⟨_, rfl, post_true (tb := 4) laidOut rfl (by kernel_rfl) (by kernel_rfl) reads ?_ hW hB⟩
  intro ds hds
  have hds : ds.length = 2 := hds
  match ds, hds with
  | [a0, a1], _ => exact ⟨rfl, rfl, rfl⟩

def wargs : Array Value := #[.agg #[.int .u64 0, .int .u64 0, .int .u64 0, .int .u64 0], .int .i64 0]
theorem laid_met (os : Os) : laidMet Tryd.prog Rows.scalarSpelledRow.laid ((laidWorld os).forCall (fun _ _ => 0) ⟨#[], wargs, []⟩).memory :=
  laidMet_of_run' 8 (by kernel_rfl) (by kernel_rfl)
theorem reads0 (os : Os) {H : Type} (enc : TypeId × Value → H) : ∃ places, DataW.whole enc Tryd.prog ((laidWorld os).forCall (fun _ _ => 0) ⟨#[], wargs, []⟩).memory Tryd.f15.params.toList Rows.scalarSpelledSpec.vars false wargs.toList 8 = some ([.agg [.lit (.int .u64 0), .lit (.int .u64 0), .lit (.int .u64 0), .lit (.int .u64 0)], .lit (.int .i64 0)], [], places) :=
  ⟨[], by kernel_rfl⟩

set_option maxRecDepth 100000 in
theorem lifted (os : Os) (started : os.Started) (H : Type) (enc : TypeId × Value → H) (F : Stop.Interp) :
    ReturnsInHanded {} Tryd.checked os 15 .any ((OpenSpec.ofChange Rows.scalarSpelledSpec).preRow enc Tryd.prog Tryd.f15 Rows.scalarSpelledRow.domain false Rows.scalarSpelledRow.laid) (((OpenSpec.ofChange Rows.scalarSpelledSpec).at F).post enc Tryd.prog Tryd.f15 false true false false) := by
  obtain ⟨places, hx⟩ := reads0 os enc
  refine returnsInHanded_of_row (C := Tryd.checked) (s := OpenSpec.ofChange Rows.scalarSpelledSpec) own started (by kernel_rfl) Tryd.func15
    (witness_row_at (enc := enc) (C := Tryd.checked) false (laidWorld os) wargs rfl (by kernel_rfl) (by kernel_rfl) (by kernel_rfl)
      (OpenSpec.preRow_of_cond 8 hx (by kernel_rfl) (fun k hk => by cases hk) (by kernel_rfl) (laid_met os))) ?_
  intro W base args ds gs before hval hW _ _ _ hL _ _
  exact contract H enc W base args ds gs before hval hW hL

theorem said : Rows.ScalarSpelledSaid :=
  OpenClaim.holds_of_cond 15 Tryd.f15 rfl rfl rfl rfl rfl rfl rfl ⟨rfl, rfl, rfl, rfl, rfl⟩ rfl rfl rfl rfl rfl (by kernel_rfl) Tryd.func15 (by kernel_rfl)
    (of_decide_eq_true (by kernel_rfl)) (by unfold Func.isWrapper; first | (rw [if_pos (by decide +kernel)]; kernel_rfl) | (rw [if_neg (by decide +kernel)]; exact ⟨rfl, rfl⟩))
    (fun os started H enc _ F => by rw [OpenClaim.pre_eq_preRow]; exact lifted os started H enc F)

theorem plain (f : FuncId) (fn : Func) (hf : Tryd.pinned.checked.prog.funcNamed "veil/veillaw02.ScalarSpelled" = some f) (hfn : Tryd.pinned.checked.prog.funcs[f]? = some fn) :
    false = Tryd.pinned.checked.prog.looks [] ∧ ∀ (j : Nat) t, fn.params[j]? = some t → Tryd.pinned.checked.prog.wantsStandIn t = false := by
  obtain rfl : f = 15 := Option.some.inj ((show Tryd.prog.funcNamed "veil/veillaw02.ScalarSpelled" = some 15 by kernel_rfl).symm.trans hf) |>.symm
  obtain rfl : fn = Tryd.f15 := (Option.some.inj (Tryd.func15.symm.trans hfn)).symm
  refine ⟨by kernel_rfl, fun j t ht => ?_⟩
  have hp : Tryd.f15.params = #[24, 3] := by kernel_rfl
  rw [hp] at ht
  have := Array.mem_of_getElem? ht
  simp only [List.mem_toArray, List.mem_cons, List.not_mem_nil, or_false] at this
  rcases this with rfl | rfl <;> exact (show Tryd.prog.wantsStandIn _ = false by kernel_rfl)

theorem card : Rows.ScalarSpelledCardSaid :=
  Claim7.holds_tied_plain_at .later [] _ _ _ _ said (fun _ h => by cases h) (by kernel_rfl) (fun _ h => by cases h) scalarSpelled_row_tie rfl ⟨rfl, rfl⟩ (by kernel_rfl) rfl plain (by kernel_rfl)
end ScalarSpelled

end Go.Gx

namespace Go.Proofs.YtnjcbedjhokfhaaDoor
theorem scalarSpelledProved : Rows.ScalarSpelledCardSaid := Go.Gx.ScalarSpelled.card
end Go.Proofs.YtnjcbedjhokfhaaDoor
#print axioms Go.Proofs.YtnjcbedjhokfhaaDoor.scalarSpelledProved

