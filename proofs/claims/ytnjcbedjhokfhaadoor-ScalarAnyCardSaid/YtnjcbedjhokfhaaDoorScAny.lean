/- Of ScalarAny, for every input and in every world that holds the program's table as its text lays it: the call returns true, its arguments read as before and nothing else old has turned. No condition besides. -/
import Derived.Test.YtnjcbedjhokfhaaDoorViews
import Derived.Test.YtnjcbedjhokfhaaDoorScY
/- Contracts of functions that answer a slice of numbers in memory of its own. -/
namespace Go.Gx
open Go.RowKit
set_option linter.unusedVariables false

/-- An answer whose first part is a slice of numbers: its numbers, and the other parts. -/
def kvI (k : IntKind) (x : SV) (h : Heap) (K : List Int → List SV → Prop) : Prop :=
  match x with
  | .tup (.sl key c est off len :: r) => (match Nat.beq c 0 && Nat.beq est 1, assoc h key with
    | true, some (.segs false [.rowI k' l]) => (match keq k k' with
      | true => Need (off.z + len.z ≤ (l.length : Int)) ∧ K ((l.drop off.z.toNat).take len.z.toNat) r
      | false => False)
    | _, _ => False)
  | .tup (.nsl :: r) => K [] r
  | _ => False

/-- The loops' heads, each with one pattern or more: a pattern's number is that of the head, plus thousands. -/
def handM : Loops → (Nat → List Pv → Prop) → Nat → St → Prop
  | [], _, _, _ => False
  | (vk, t) :: L, Q, key, σ => (match Nat.beq (vk % 1000) key with
    | true => (match matchSt t σ with | some ps => Q vk ps | none => handM L Q key σ)
    | false => handM L Q key σ)
def loopKeysM : Loops → List Nat
  | [] => []
  | (vk, _) :: L => vk % 1000 :: loopKeysM L

theorem handM_of : ∀ {L : Loops} {Q : Nat → List Pv → Prop} {key : Nat} {σ : St}, handM L Q key σ → ∃ vk t ps, (vk, t) ∈ L ∧ vk % 1000 = key ∧ matchSt t σ = some ps ∧ Q vk ps
  | [], _, _, _, h => h.elim
  | (vk, t) :: L, Q, key, σ, h => by
    simp only [handM] at h
    split at h
    · rename_i e
      split at h
      · rename_i ps hps
        exact ⟨vk, t, ps, by simp, Nat.eq_of_beq_eq_true e, hps, h⟩
      · obtain ⟨vk', t', ps', h1, h2⟩ := handM_of h
        exact ⟨vk', t', ps', by simp [h1], h2⟩
    · obtain ⟨vk', t', ps', h1, h2⟩ := handM_of h
      exact ⟨vk', t', ps', by simp [h1], h2⟩

def fnVcI (Γ : Tab) (fn : Func) (L : Loops) (args : List SV) (h : Heap) (k : IntKind) (K : List Int → List SV → Prop) (Q : Nat → List Pv → Prop) : Prop :=
  runFn Γ fn (loopKeysM L) args h (fun x h' => kvI k x h' K) (handM L Q)
def loopVcI (Γ : Tab) (fn : Func) (L : Loops) (key : Nat) (ps : List Pv) (k : IntKind) (K : List Int → List SV → Prop) (Q : Nat → List Pv → Prop) : Prop :=
  match assoc L key with
  | some t => runLoop Γ fn (loopKeysM L) (key % 1000) (instSt t ps) (fun x h' => kvI k x h' K) (handM L Q)
  | none => False

structure VcI (Γ : Tab) (fn : Func) (L : Loops) (h : Heap) (args : List SV) (k : IntKind) (K : List Int → List SV → Prop) (inv : Nat → List Pv → Nat → Prop) : Prop where
  low : ∀ k t, (k, t) ∈ L → ∀ g, g ∈ keysOf h → g < 1000 ∧ (assoc t.heap g).isSome = true
  loop : ∀ vk t ps m, (vk, t) ∈ L → inv vk ps m → runLoop Γ fn (loopKeysM L) (vk % 1000) (instSt t ps) (fun x h' => kvI k x h' K) (handM L fun key' ps' => ∃ m', m' < m ∧ inv key' ps' m')
  entry : fnVcI Γ fn L args h k K fun key' ps' => ∃ m', inv key' ps' m'

def freshCtr (k : IntKind) (spec : List SV → Option (List Prop × List Int × List SV)) : Ctr := fun stamp args =>
  match spec args with
  | some (p, l, r) => .get stamp fun b => (match b with
    | none => .ret ⟨p, .tup (.sl stamp 0 1 ⟨true, 0⟩ ⟨false, (l.length : Int)⟩ :: r), [(stamp, .segs false [.rowI k l])], true⟩
    | some _ => .fail)
  | none => .fail

theorem freshCtr_run {H : Nat → Option SB} {k : IntKind} {spec : List SV → Option (List Prop × List Int × List SV)} {stamp : Nat} {args : List SV} {rs rs' : List Nat} {d : Delta} (h : (freshCtr k spec stamp args).run H rs = some (d, rs')) :
    ∃ p l r, spec args = some (p, l, r) ∧ H stamp = none ∧ d = ⟨p, .tup (.sl stamp 0 1 ⟨true, 0⟩ ⟨false, (l.length : Int)⟩ :: r), [(stamp, .segs false [.rowI k l])], true⟩ := by
  unfold freshCtr at h
  split at h
  · rename_i p l r e
    simp only [RP.run] at h
    split at h
    · rename_i hn
      exact ⟨p, l, r, e, hn, run_ret h⟩
    · simp [RP.run] at h
  · simp [RP.run] at h

section
variable {P : Program} {Γ : Tab}

/-- A block that a call has made. -/
theorem Mem.add {w0 : World} {M : Nat → Prop} {ρ : Nat → Pl} {H : Nat → Option SB} {w w' : World} (h0 : Mem w0 M ρ H w) (hb : Below w.heap.size w w') {key : Nat} (hn : H key = none) {p : Pl} {l : List Seg} {vs : List Value}
    (hl : SegsD (fun _ => False) (fun _ => ⟨0, 0, 0⟩) l vs) (h1 : vs.length ≤ p.cap) (h2 : w'.rangeAt p.blk p.off vs) (h3 : w'.there p.blk p.off p.cap) (h4 : 0 < p.cap → w.heap.size ≤ p.blk ∧ p.blk < w'.heap.size) :
    Mem w0 M (updP ρ key p) (updH H key (.segs false l)) w' := by
  have h := h0.keep hb
  have hk := updP_keeps (ρ := ρ) (p := p) hn
  have hlt : ∀ k ro l, H k = some (.segs ro l) → 0 < (ρ k).cap → (ρ k).blk < w.heap.size := h0.heap.lt
  refine ⟨⟨fun k b hb => ?_, fun k k' ro ro' l1 l2 e1 e2 hkk hr c1 c2 => ?_, fun k ro l1 e1 c1 => ?_⟩, h.frame, fun k l1 e1 c1 => ?_⟩
  · by_cases e : k = key
    · subst e
      rw [updH_same] at hb
      simp only [Option.some.injEq] at hb; subst hb
      exact ⟨vs, SegsD.mono (fun _ h => h.elim) (fun _ h => h.elim) l vs hl, by rw [updP_same]; exact h1, by rw [updP_same]; exact h2, fun _ => by rw [updP_same]; exact h3⟩
    · rw [updH_ne e] at hb
      exact (h.heap.blk k b hb).of_block (dm_updH _ _ _) hk (updP_ne e) (fun _ _ _ _ => rfl)
  · by_cases e : k = key
    · subst e
      rw [updH_ne (Ne.symm hkk)] at e2
      rw [updP_ne (Ne.symm hkk)] at c2
      rw [updP_same] at c1
      have a := hlt k' ro' l2 e2 c2
      have b := (h4 c1).1
      rw [updP_same, updP_ne (Ne.symm hkk)]; omega
    · rw [updH_ne e] at e1
      rw [updP_ne e] at c1 ⊢
      by_cases e' : k' = key
      · subst e'
        rw [updP_same] at c2
        have a := hlt k ro l1 e1 c1
        have b := (h4 c2).1
        rw [updP_same]; omega
      · rw [updH_ne e'] at e2
        rw [updP_ne e'] at c2 ⊢
        exact h.heap.sep k k' ro ro' l1 l2 e1 e2 hkk hr c1 c2
  · by_cases e : k = key
    · subst e; rw [updP_same] at c1 ⊢; exact (h4 c1).2
    · rw [updH_ne e] at e1; rw [updP_ne e] at c1 ⊢; exact h.heap.lt k ro l1 e1 c1
  · by_cases e : k = key
    · subst e; rw [updP_same] at c1 ⊢; exact .inl (Nat.le_trans h0.frame.size (h4 c1).1)
    · rw [updH_ne e] at e1; rw [updP_ne e] at c1 ⊢; exact h.own k l1 e1 c1

/-- Where the numbers of such an answer lie. -/
theorem kvI_place {w0 w' : World} {k : IntKind} {x : SV} {h : Heap} {ρ : Nat → Pl} {v : Value} {K : List Int → List SV → Prop} (hm : Mem w0 (fun _ => False) ρ (assoc h) w') (hd : D (dmOf (assoc h)) ρ x v) (hk : kvI k x h K) :
    ∃ l r u vs p, K l r ∧ v = .tuple (u :: vs).toArray ∧ Ds (dmOf (assoc h)) ρ r vs ∧ AllR k l ∧ (l.length : Int) < 9223372036854775808 ∧
      (∃ a cap, u = .slice a l.length cap ∧ l.length ≤ cap ∧ ((a = some (at_ p 0) ∧ cap ≤ p.cap) ∨ (l.length = 0 ∧ cap = 0))) ∧
      l.length ≤ p.cap ∧ w'.rangeAt p.blk p.off (l.map (Value.int k)) ∧ w'.there p.blk p.off p.cap ∧ (0 < p.cap → w0.heap.size ≤ p.blk ∧ p.blk < w'.heap.size) := by
  unfold kvI at hk
  split at hk
  · rename_i key c est off len r
    simp only [D, Ds] at hd
    obtain ⟨vs0, ⟨u, vs, hu, rfl, hr⟩, rfl⟩ := hd
    split at hk
    · rename_i k' l hce hkey
      simp only [Bool.and_eq_true] at hce
      have hc0 : c = 0 := Nat.eq_of_beq_eq_true hce.1
      have he1 : est = 1 := Nat.eq_of_beq_eq_true hce.2
      subst hc0 he1
      split at hk
      · rename_i hkk
        obtain rfl : k = k' := keq_eq hkk
        obtain ⟨hn, hK⟩ := hk
        obtain ⟨hdm, ho, hl, hlr, a, cap, rfl, hcap, hpl⟩ := hu
        have hn : off.z + len.z ≤ (l.length : Int) := hn
        simp only [InR] at hlr
        have hbk : BlkD (dmOf (assoc h)) ρ w' key (.segs false [.rowI k l]) := hm.heap.blk key _ hkey
        obtain ⟨cs, hs, h1, h2, h3⟩ := hbk
        have hth := h3 rfl
        obtain ⟨c1, c2, ⟨hall, rfl⟩, rfl, rfl⟩ := hs
        simp only [List.append_nil, List.length_map] at h1 h2
        have hlen : ((l.drop off.z.toNat).take len.z.toNat).length = len.z.toNat := by
          rw [List.length_take, List.length_drop]; omega
        have hallt : AllR k ((l.drop off.z.toNat).take len.z.toNat) := fun z hz => hall z (List.mem_of_mem_drop (List.mem_of_mem_take hz))
        rcases hpl with ⟨ha, hle⟩ | ⟨h0, hc0⟩
        · refine ⟨_, r, _, vs, ⟨(ρ key).blk, (ρ key).off + off.z.toNat, cap⟩, hK, rfl, hr, hallt, by rw [hlen]; omega, ⟨a, cap, by rw [hlen], by rw [hlen]; exact hcap, .inl ⟨by rw [ha]; simp [at_], Nat.le_refl _⟩⟩, by rw [hlen]; exact hcap, ?_, ?_, fun hc => ?_⟩
          · intro j y hj
            simp only [List.map_take, List.map_drop] at hj
            have := h2 (off.z.toNat + j) y (by
              rw [List.getElem?_take] at hj
              split at hj
              · rw [List.getElem?_drop] at hj; exact hj
              · cases hj)
            rw [show (ρ key).off + off.z.toNat + j = (ρ key).off + (off.z.toNat + j) by omega]
            exact this
          · intro j hj
            have hj' : j < cap := hj
            have := hth (off.z.toNat + j) (by simp only [Nat.one_mul] at hle; omega)
            rw [show (ρ key).off + off.z.toNat + j = (ρ key).off + (off.z.toNat + j) by omega]
            exact this
          · have hc : 0 < cap := hc
            have hcp : 0 < (ρ key).cap := by simp only [Nat.one_mul] at hle; omega
            refine ⟨?_, hm.heap.lt key _ _ hkey hcp⟩
            rcases hm.own key _ hkey hcp with h | h
            · exact h
            · exact h.elim
        · have hz : len.z.toNat = 0 := by omega
          refine ⟨_, r, _, vs, ⟨0, 0, 0⟩, hK, rfl, hr, hallt, by rw [hlen]; omega, ⟨a, cap, by rw [hlen], by rw [hlen]; exact hcap, .inr ⟨by rw [hlen]; exact hz, hc0⟩⟩, by rw [hlen]; omega, ?_, fun j hj => by simp at hj, fun hc => by simp at hc⟩
          rw [hz, List.take_zero]
          intro j y hj; simp at hj
      · exact hk.elim
    · exact hk.elim
  · rename_i r
    simp only [D, Ds] at hd
    obtain ⟨vs0, ⟨u, vs, hu, rfl, hr⟩, rfl⟩ := hd
    exact ⟨[], r, u, vs, ⟨0, 0, 0⟩, hk, rfl, hr, fun z hz => by simp at hz, by simp, ⟨none, 0, by simpa using hu, Nat.le_refl _, .inr ⟨rfl, rfl⟩⟩, Nat.le_refl _, fun j y hj => by simp at hj, fun j hj => by simp at hj, fun hc => by simp at hc⟩
  · exact hk.elim

theorem vcI_calls (hΓ : TabOk P Γ) {f : FuncId} {fn : Func} (hf : P.funcs[f]? = some fn) {L : Loops} {h : Heap} {args : List SV} {k : IntKind} {K : List Int → List SV → Prop} {inv : Nat → List Pv → Nat → Prop} (hv : VcI Γ fn L h args k K inv) (hlen : args.length ≤ fn.ntmps)
    {w : World} {ρg : Nat → Pl} {vs : List Value} (hgo : GlOk Γ w (fun _ => False) ρg (assoc h)) (g1 : Mem w (fun _ => False) ρg (assoc h) w) (ha : Ds (dmOf (assoc h)) ρg args vs) :
    Calls P f vs.toArray w fun e w' => ∃ x v h' ρ', e = .returned v ∧ kvI k x h' K ∧ D (dmOf (assoc h')) ρ' x v ∧ Mem w (fun _ => False) ρ' (assoc h') w' ∧ Below w.heap.size w w' := by
  have hweak : ∀ vk t σ' ps, (vk, t) ∈ L → matchSt t σ' = some ps → Weak (assoc h) σ' (instSt t ps) := fun vk t σ' ps ht hm =>
    weak_of_match hm fun k hk => hv.low vk t ht k (keysOf_of_dm hk)
  refine (fn_calls hΓ hf hgo hlen ha g1 (fun m key σ => ∃ vk t ps, (vk, t) ∈ L ∧ vk % 1000 = key ∧ σ = instSt t ps ∧ inv vk ps m) (fun m => handM L fun key' ps' => ∃ m', m' < m ∧ inv key' ps' m') (fun m key σ hj => ?_) (fun m key σ' h => ?_)
    (handM L fun key' ps' => ∃ m', inv key' ps' m') (fun key σ' h => ?_) hv.entry).mono fun e w' he => ?_
  · obtain ⟨vk, t, ps, ht, rfl, rfl, hinv⟩ := hj
    exact hv.loop vk t ps m ht hinv
  · obtain ⟨vk, t, ps, ht, hk, hps, m', hlt, hinv⟩ := handM_of h
    exact ⟨m', hlt, _, hweak _ _ _ _ ht hps, vk, t, ps, ht, hk, rfl, hinv⟩
  · obtain ⟨vk, t, ps, ht, hk, hps, m', hinv⟩ := handM_of h
    exact ⟨m', _, hweak _ _ _ _ ht hps, vk, t, ps, ht, hk, rfl, hinv⟩
  · obtain ⟨x, v, h', ρ', rfl, k1, k2, k3, k4⟩ := he
    exact ⟨x, v, h', ρ', rfl, k1, k2, k3, k3.frame.below fun _ h => h⟩

/-- The contract of such a function. -/
theorem call_fresh {k : IntKind} (hΓ : TabOk P Γ) (hgl : Γ.gl = keysOf Γ.gh) {f : FuncId} {fn : Func} (hf : P.funcs[f]? = some fn) (hn : (fn.name == "runtime.NumGoroutine") = false) (hb : fn.body.isNone = false) (spec : List SV → Option (List Prop × List Int × List SV))
    (h : ∀ args p l r, spec args = some (p, l, r) → AllP p → FactVs args → ∃ args' L inv, eqVs args args' ∧ args'.length ≤ fn.ntmps ∧ VcI Γ fn L Γ.gh args' k (fun l' r' => l = l' ∧ eqVs r' r) inv) : CallOk P Γ.gh f (freshCtr k spec) := by
  intro stamp args H rs rs' d vs w0 M ρ w hG hc hp hD hm
  obtain ⟨p, l, r, hs, hnone, rfl⟩ := freshCtr_run hc
  obtain ⟨args', L, inv, h1, h2, h3⟩ := h args p l r hs hp (Ds.fact args vs hD)
  obtain ⟨ρg, g1, g2, g3⟩ := mem_of_glob hG hm
  have hgo : GlOk Γ w (fun _ => False) ρg (assoc Γ.gh) := ⟨fun g hg => ⟨assoc_dm (by rw [← hgl]; exact hg), (g3 g).1, (g3 g).2⟩, g2⟩
  refine .inr ⟨f, vs.toArray, GoFn.run ⟨fn, hf, hn, hb⟩ _ _, (vcI_calls hΓ hf h3 h2 hgo g1 (eqVs_Ds args args' vs h1 hD)).mono fun e w' he => ?_⟩
  obtain ⟨x, v, h', ρ', rfl, k1, k2, k3, k4⟩ := he
  obtain ⟨l', r', u, vs', p', ⟨rfl, hr⟩, rfl, hrd, hall, hlt, ⟨a, cap, rfl, hcap, hpl⟩, q1, q2, q3, q4⟩ := kvI_place k3 k2 k1
  refine ⟨_, rfl, updP ρ stamp p', updP_keeps hnone, ?_, ?_⟩
  · have hdm : dmOf (updsH H [(stamp, .segs false [.rowI k l])]) stamp := by
      unfold dmOf; simp [updsH, updH]
    simp only [D, Ds]
    refine ⟨_, ⟨_, vs', ⟨hdm, by decide, by omega, ⟨by omega, by omega⟩, a, cap, by simp, by simpa using hcap, ?_⟩, rfl, eqVs_Ds r' r vs' hr hrd⟩, rfl⟩
    rcases hpl with ⟨ha, hle⟩ | ⟨h0, hc0⟩
    · left
      rw [updP_same]
      exact ⟨by rw [ha]; simp, by simpa using hle⟩
    · right
      exact ⟨by omega, hc0⟩
  · exact Mem.add hm k4 hnone ⟨_, _, ⟨hall, rfl⟩, by simp, rfl⟩ (by simpa using q1) q2 q3 q4
end
end Go.Gx

/- A window of bits; the digits. -/
namespace Go.Sp
/-- w bits from bit i on. -/
def winL (n i w : Int) : Int := n / ((2 ^ i.toNat : Nat) : Int) % ((2 ^ w.toNat : Nat) : Int)
end Go.Sp
namespace Go.Gx
open Go.Proofs Go.Sp
open Go.Sp (prI mlL adL sbL pwL halfI invL)
set_option linter.unusedVariables false

theorem win1 (m r w : Nat) (h : r + w ≤ 64) : m % 2 ^ 64 / 2 ^ r % 2 ^ w = m / 2 ^ r % 2 ^ w := by
  rw [show (2 : Nat) ^ 64 = 2 ^ r * 2 ^ (64 - r) by rw [← Nat.pow_add]; congr 1; omega, Nat.mod_mul_right_div_self, Nat.mod_mod_of_dvd _ ⟨2 ^ (64 - r - w), by rw [← Nat.pow_add]; congr 1; omega⟩]
theorem win2 (m r w : Nat) (hr : r ≤ 64) (hw : w ≤ 64) : (m % 2 ^ 64 / 2 ^ r + m / 2 ^ 64 % 2 ^ 64 * 2 ^ (64 - r) % 2 ^ 64) % 2 ^ w = m / 2 ^ r % 2 ^ w := by
  have h64 : (2 : Nat) ^ 64 = 2 ^ r * 2 ^ (64 - r) := by rw [← Nat.pow_add]; congr 1; omega
  have hd : (2 : Nat) ^ w ∣ 2 ^ 64 := ⟨2 ^ (64 - w), by rw [← Nat.pow_add]; congr 1; omega⟩
  have h1 : m / 2 ^ r = m % 2 ^ 64 / 2 ^ r + 2 ^ (64 - r) * (m / 2 ^ 64) := by
    conv => lhs; rw [← Nat.mod_add_div m (2 ^ 64)]
    conv => lhs; rw [show 2 ^ 64 * (m / 2 ^ 64) = 2 ^ r * (2 ^ (64 - r) * (m / 2 ^ 64)) by rw [← Nat.mul_assoc, ← h64]]
    rw [Nat.add_mul_div_left _ _ (Nat.two_pow_pos r)]
  rw [h1, Nat.add_mod, Nat.mod_mod_of_dvd _ hd, Nat.mul_mod (m / 2 ^ 64 % 2 ^ 64), Nat.mod_mod_of_dvd _ hd, ← Nat.mul_mod, ← Nat.add_mod, Nat.mul_comm (m / 2 ^ 64)]

theorem shl_mod (x r : Nat) (h : r ≤ 64) : x * 2 ^ (64 - r) % 2 ^ 64 = x % 2 ^ r * 2 ^ (64 - r) := by
  have e : (2 : Nat) ^ r * 2 ^ (64 - r) = 2 ^ 64 := by rw [← Nat.pow_add]; congr 1; omega
  rw [← e, Nat.mul_mod_mul_right]

theorem wordN (N : Nat) (j : Nat) : ((N : Nat) : Int) / ((2 ^ (64 * j) : Nat) : Int) % 18446744073709551616 = ((N / 2 ^ (64 * j) % 2 ^ 64 : Nat) : Int) := by
  have : (18446744073709551616 : Int) = ((2 ^ 64 : Nat) : Int) := by decide
  rw [this]; exact_mod_cast rfl

/-- The last steps: the mask. -/
theorem mask_tail {x y s m q v : Int} (hy : 0 ≤ y ∧ y ≤ 12) (es : s = shlI .u64 1 y) (em : m = IntKind.u64.wrap (s - 1)) (hx : InR .u64 x) (eq : q = andI .u64 x m) (ev : v = IntKind.i64.wrap q) : v = x % ((2 ^ y.toNat : Nat) : Int) := by
  obtain ⟨k, rfl⟩ := Int.eq_ofNat_of_zero_le hy.1
  have hk : k ≤ 12 := by omega
  rw [shlI_u64 1 k (by omega), Int.one_mul] at es
  have hp : 2 ^ k ≤ 2 ^ 12 := Nat.pow_le_pow_right (by omega) hk
  have hp0 := Nat.two_pow_pos k
  have es' : s = ((2 ^ k : Nat) : Int) := by rw [es, Int.emod_eq_of_lt (by omega) (by omega)]
  rw [wrap_u64] at em
  have em' : m = ((2 ^ k - 1 : Nat) : Int) := by rw [em, es']; omega
  rw [em', and_mask k (by omega) hx] at eq
  rw [Int.toNat_natCast]
  have h2 := Int.emod_nonneg x (show ((2 ^ k : Nat) : Int) ≠ 0 by omega)
  have h3 := Int.emod_lt_of_pos x (show (0 : Int) < ((2 ^ k : Nat) : Int) by omega)
  rw [ev, wrap_i64 (by omega), eq]

/-- The word's place. -/
theorem word_at {b0 b1 b2 b3 i x5 x6 : Int} (hi : 0 ≤ i ∧ i < 4) (hb0 : InR .u64 b0) (hb1 : InR .u64 b1) (hb2 : InR .u64 b2) (hb3 : InR .u64 b3) {N : Nat} (hN : val4 [b0, b1, b2, b3] = N) (e5 : x5 = i) (e6 : x6 = [b0, b1, b2, b3].getD x5.toNat 0) : x6 = ((N / 2 ^ (64 * i.toNat) % 2 ^ 64 : Nat) : Int) := by
  have hw : ([b0, b1, b2, b3] : List Int) = [w0 (val4 [b0, b1, b2, b3]), w1 (val4 [b0, b1, b2, b3]), w2 (val4 [b0, b1, b2, b3]), w3 (val4 [b0, b1, b2, b3])] := (words_val hb0 hb1 hb2 hb3).symm
  rw [e5, hw, getD_words _ i.toNat (by omega), hN, wordN] at e6
  exact e6

def vc70 (a0 a1 a2 a3 x y : Int) (K : SV → Prop) (Q : Nat → List Pv → Prop) : Prop := fnVc Γ18 Tryd.f70 [] [.arr .u64 4 true [a0, a1, a2, a3], .i .i64 ⟨false, x⟩, .i .i64 ⟨false, y⟩] gh K Q
theorem vc70_eq : ∀ (a0 a1 a2 a3 x y : Int) (K : SV → Prop) (Q : Nat → List Pv → Prop), vc70 a0 a1 a2 a3 x y K Q = ((decide (x < (256 : Int)) = true → ∀ (x1 : Int), x1 = IntKind.i64.wrap (x.tdiv (64 : Int)) → InR IntKind.i64 x1 → Need ((0 : Int) ≤ x1 ∧ x1 < (4 : Int)) ∧ Need ((0 : Int) ≤ x1 ∧ x1 < (4 : Int)) ∧ ∀ (x2 : Int), x2 = [a0, a1, a2, a3].getD x1.toNat (0 : Int) → InR IntKind.u64 x2 → ∀ (x3 : Int), x3 = x.tmod (64 : Int) → InR IntKind.i64 x3 → Need ((0 : Int) ≤ x3) ∧ ∀ (x4 : Int), x4 = shrI IntKind.u64 x2 x3 → InR IntKind.u64 x4 → ∀ (x5 : Int), x5 = x.tmod (64 : Int) → InR IntKind.i64 x5 → ∀ (x6 : Int), x6 = IntKind.i64.wrap (x5 + y) → InR IntKind.i64 x6 → (decide (x6 > (64 : Int)) = true → ∀ (x7 : Int), x7 = IntKind.i64.wrap (x.tdiv (64 : Int)) → InR IntKind.i64 x7 → (decide (x7 < (3 : Int)) = true → ∀ (x8 : Int), x8 = IntKind.i64.wrap (x.tdiv (64 : Int)) → InR IntKind.i64 x8 → ∀ (x9 : Int), x9 = IntKind.i64.wrap (x8 + (1 : Int)) → InR IntKind.i64 x9 → Need ((0 : Int) ≤ x9 ∧ x9 < (4 : Int)) ∧ Need ((0 : Int) ≤ x9 ∧ x9 < (4 : Int)) ∧ ∀ (x10 : Int), x10 = [a0, a1, a2, a3].getD x9.toNat (0 : Int) → InR IntKind.u64 x10 → ∀ (x11 : Int), x11 = x.tmod (64 : Int) → InR IntKind.i64 x11 → ∀ (x12 : Int), x12 = IntKind.i64.wrap ((64 : Int) - x11) → InR IntKind.i64 x12 → Need ((0 : Int) ≤ x12) ∧ ∀ (x13 : Int), x13 = shlI IntKind.u64 x10 x12 → InR IntKind.u64 x13 → ∀ (x14 : Int), x14 = orI IntKind.u64 x4 x13 → InR IntKind.u64 x14 → Need ((0 : Int) ≤ y) ∧ ∀ (x15 : Int), x15 = shlI IntKind.u64 (1 : Int) y → InR IntKind.u64 x15 → ∀ (x16 : Int), x16 = IntKind.u64.wrap (x15 - (1 : Int)) → InR IntKind.u64 x16 → ∀ (x17 : Int), x17 = andI IntKind.u64 x14 x16 → InR IntKind.u64 x17 → ∀ (x18 : Int), x18 = IntKind.i64.wrap x17 → InR IntKind.i64 x18 → K (SV.i IntKind.i64 { st := false, z := x18 })) ∧ (decide (x7 < (3 : Int)) = false → Need ((0 : Int) ≤ y) ∧ ∀ (x19 : Int), x19 = shlI IntKind.u64 (1 : Int) y → InR IntKind.u64 x19 → ∀ (x20 : Int), x20 = IntKind.u64.wrap (x19 - (1 : Int)) → InR IntKind.u64 x20 → ∀ (x21 : Int), x21 = andI IntKind.u64 x4 x20 → InR IntKind.u64 x21 → ∀ (x22 : Int), x22 = IntKind.i64.wrap x21 → InR IntKind.i64 x22 → K (SV.i IntKind.i64 { st := false, z := x22 }))) ∧ (decide (x6 > (64 : Int)) = false → Need ((0 : Int) ≤ y) ∧ ∀ (x23 : Int), x23 = shlI IntKind.u64 (1 : Int) y → InR IntKind.u64 x23 → ∀ (x24 : Int), x24 = IntKind.u64.wrap (x23 - (1 : Int)) → InR IntKind.u64 x24 → ∀ (x25 : Int), x25 = andI IntKind.u64 x4 x24 → InR IntKind.u64 x25 → ∀ (x26 : Int), x26 = IntKind.i64.wrap x25 → InR IntKind.i64 x26 → K (SV.i IntKind.i64 { st := false, z := x26 }))) ∧ (decide (x < (256 : Int)) = false → Need ((0 : Int) ≤ y) ∧ ∀ (x27 : Int), x27 = shlI IntKind.u64 (1 : Int) y → InR IntKind.u64 x27 → ∀ (x28 : Int), x28 = IntKind.u64.wrap (x27 - (1 : Int)) → InR IntKind.u64 x28 → ∀ (x29 : Int), x29 = andI IntKind.u64 (0 : Int) x28 → InR IntKind.u64 x29 → ∀ (x30 : Int), x30 = IntKind.i64.wrap x29 → InR IntKind.i64 x30 → K (SV.i IntKind.i64 { st := false, z := x30 }))) := by
  intros
  kernel_rfl

def windowS : List SV → Option (List Prop × SV)
  | [.arr .u64 4 _ aL, .i .i64 xV, .i .i64 yV] => some ([0 ≤ xV.z, xV.z ≤ 4096, 0 ≤ yV.z, yV.z ≤ 12], .i .i64 ⟨false, winL (val4 aL) xV.z yV.z⟩)
  | _ => none

set_option maxHeartbeats 1000000 in
theorem window_ok : CallOk Tryd.prog gh 70 (pureCtr windowS) := by
  refine call_pure (fn := Tryd.f70) Γ18_ok rfl (by kernel_rfl) (by kernel_rfl) (by kernel_rfl) windowS fun args P0 Y0 hs hp hf => ?_
  unfold windowS at hs
  split at hs
  · rename_i ea aL xV yV
    simp only [Option.some.injEq, Prod.mk.injEq] at hs
    obtain ⟨rfl, rfl⟩ := hs
    simp only [FactVs, FactV] at hf
    obtain ⟨⟨hal, ha⟩, hx, hy, _⟩ := hf
    obtain ⟨hi0, hi1, hw0, hw1, _⟩ := hp
    obtain ⟨a0, a1, a2, a3, rfl⟩ := len4 hal
    have ia0 := ha a0 (by simp); have ia1 := ha a1 (by simp); have ia2 := ha a2 (by simp); have ia3 := ha a3 (by simp)
    refine ⟨[.arr .u64 4 true [a0, a1, a2, a3], .i .i64 ⟨false, xV.z⟩, .i .i64 ⟨false, yV.z⟩], [], _, ⟨rfl, rfl, rfl, trivial⟩, Nat.le_of_ble_eq_true (by kernel_rfl), vc_noloops ?_⟩
    show vc70 a0 a1 a2 a3 xV.z yV.z _ _
    rw [vc70_eq]
    generalize xV.z = x at *
    generalize yV.z = y at *
    have hp := val_pos ia0 ia1 ia2 ia3
    obtain ⟨N, hN⟩ := Int.eq_ofNat_of_zero_le hp.1
    have hN2 : N < 2 ^ 256 := by rw [hN] at hp; omega
    obtain ⟨i, rfl⟩ := Int.eq_ofNat_of_zero_le hi0
    obtain ⟨w, rfl⟩ := Int.eq_ofNat_of_zero_le hw0
    have hwin : winL (val4 [a0, a1, a2, a3]) (i : Int) (w : Int) = ((N / 2 ^ i % 2 ^ w : Nat) : Int) := by
      unfold winL
      rw [hN, Int.toNat_natCast, Int.toNat_natCast]
      exact_mod_cast rfl
    have hij : 2 ^ i = 2 ^ (64 * (i / 64)) * 2 ^ (i % 64) := by rw [← Nat.pow_add]; congr 1; omega
    have hdiv : N / 2 ^ i = N / 2 ^ (64 * (i / 64)) / 2 ^ (i % 64) := by rw [hij, Nat.div_div_eq_div_mul]
    have ht : IntKind.i64.wrap ((i : Int).tdiv 64) = ((i / 64 : Nat) : Int) := by rw [tdiv64 (by omega), wrap_i64 (by omega)]; omega
    have hm : (i : Int).tmod 64 = ((i % 64 : Nat) : Int) := by rw [tmod64 (by omega)]; omega
    rw [ht, hm]
    have hjn : ((i / 64 : Nat) : Int).toNat = i / 64 := Int.toNat_natCast _
    have goal : ∀ x v : Int, v = x % ((2 ^ (w : Int).toNat : Nat) : Int) → (∃ X : Nat, x = (X : Int) ∧ X % 2 ^ w = N / 2 ^ i % 2 ^ w) → v = winL (val4 [a0, a1, a2, a3]) (i : Int) (w : Int) := by
      rintro x v hv ⟨X, rfl, hX⟩
      rw [hwin, hv, Int.toNat_natCast, ← hX]
      exact_mod_cast rfl
    refine ⟨fun h => ?_, fun h => ?_⟩
    · have h := of_decide_eq_true h
      have hj : 0 ≤ ((i / 64 : Nat) : Int) ∧ ((i / 64 : Nat) : Int) < 4 := by omega
      intro x1 e1 r1
      refine ⟨need_of (by omega), need_of (by omega), fun x2 e2 r2 x3 e3 r3 => ⟨need_of (by omega), fun x4 e4 r4 x5 e5 r5 x6 e6 r6 => ?_⟩⟩
      have f2 := word_at hj ia0 ia1 ia2 ia3 hN e1 e2
      rw [hjn] at f2
      have f4 : x4 = ((N / 2 ^ (64 * (i / 64)) % 2 ^ 64 / 2 ^ (i % 64) : Nat) : Int) := by
        rw [e3, f2, shrI_u64 _ (i % 64) (by omega)] at e4
        rw [e4]; exact_mod_cast rfl
      rw [e5, wrap_i64 (by omega)] at e6
      refine ⟨fun h6 => ?_, fun h6 => ?_⟩
      · have h6 := of_decide_eq_true h6
        intro x7 e7 r7
        refine ⟨fun h7 => ?_, fun h7 => ?_⟩
        · have h7 := of_decide_eq_true h7
          intro x8 e8 r8 x9 e9 r9
          rw [e8, wrap_i64 (by omega)] at e9
          refine ⟨need_of (by omega), need_of (by omega), fun x10 e10 r10 x11 e11 r11 x12 e12 r12 => ?_⟩
          have hj1 : 0 ≤ (((i / 64 + 1 : Nat)) : Int) ∧ (((i / 64 + 1 : Nat)) : Int) < 4 := by omega
          have f10 := word_at hj1 ia0 ia1 ia2 ia3 hN (show x9 = ((i / 64 + 1 : Nat) : Int) by omega) e10
          rw [Int.toNat_natCast] at f10
          rw [e11, wrap_i64 (by omega)] at e12
          have f12 : x12 = ((64 - i % 64 : Nat) : Int) := by omega
          refine ⟨need_of (by omega), fun x13 e13 r13 x14 e14 r14 => ⟨need_of (by omega), fun x15 e15 r15 x16 e16 r16 x17 e17 r17 x18 e18 r18 => ?_⟩⟩
          have hq : N / 2 ^ (64 * (i / 64 + 1)) = N / 2 ^ (64 * (i / 64)) / 2 ^ 64 := by
            rw [Nat.div_div_eq_div_mul, ← Nat.pow_add]; congr 2
          rw [hq] at f10
          rw [f12, shlI_u64 _ (64 - i % 64) (by omega), f10] at e13
          generalize hM : N / 2 ^ (64 * (i / 64)) = M at *
          generalize hrr : i % 64 = rr at *
          have f13 : x13 = ((M / 2 ^ 64 % 2 ^ 64 * 2 ^ (64 - rr) % 2 ^ 64 : Nat) : Int) := by
            rw [e13]
            have : (18446744073709551616 : Int) = ((2 ^ 64 : Nat) : Int) := by decide
            rw [this]; exact_mod_cast rfl
          have hz : M / 2 ^ 64 % 2 ^ 64 * 2 ^ (64 - rr) % 2 ^ 64 = (M / 2 ^ 64 % 2 ^ 64 % 2 ^ rr) * 2 ^ (64 - rr) := by
            exact shl_mod _ _ (by omega)
          have hlt4 : M % 2 ^ 64 / 2 ^ rr < 2 ^ (64 - rr) := by
            rw [Nat.div_lt_iff_lt_mul (Nat.two_pow_pos rr), ← Nat.pow_add, show 64 - rr + rr = 64 by omega]
            exact Nat.mod_lt _ (Nat.two_pow_pos 64)
          have hor := or_add (64 - rr) (x := x13) (y := x4) (z := ((M / 2 ^ 64 % 2 ^ 64 % 2 ^ rr : Nat) : Int)) r13 r4 (by rw [f13, hz]; exact_mod_cast rfl) (by rw [f4]; exact_mod_cast hlt4)
          rw [orI_comm, hor] at e14
          have k := mask_tail ⟨hw0, hw1⟩ e15 e16 r14 e17 e18
          refine goal _ _ k ⟨M % 2 ^ 64 / 2 ^ rr + M / 2 ^ 64 % 2 ^ 64 * 2 ^ (64 - rr) % 2 ^ 64, ?_, ?_⟩
          · rw [e14, f13, f4]; omega
          · rw [hdiv]; exact win2 M rr w (by omega) (by omega)
        · have h7 := of_decide_eq_false h7
          refine ⟨need_of (by omega), fun x19 e19 r19 x20 e20 r20 x21 e21 r21 x22 e22 r22 => ?_⟩
          have k := mask_tail ⟨hw0, hw1⟩ e19 e20 r4 e21 e22
          refine goal _ _ k ⟨_, f4, ?_⟩
          rw [hdiv]
          have h3 : i / 64 = 3 := by omega
          rw [h3]
          have : N / 2 ^ (64 * 3) < 2 ^ 64 := by rw [Nat.div_lt_iff_lt_mul (Nat.two_pow_pos _), ← Nat.pow_add]; exact hN2
          rw [Nat.mod_eq_of_lt this]
      · have h6 := of_decide_eq_false h6
        refine ⟨need_of (by omega), fun x23 e23 r23 x24 e24 r24 x25 e25 r25 x26 e26 r26 => ?_⟩
        have k := mask_tail ⟨hw0, hw1⟩ e23 e24 r4 e25 e26
        refine goal _ _ k ⟨_, f4, ?_⟩
        rw [hdiv]
        exact win1 _ _ _ (by omega)
    · have h := of_decide_eq_false h
      refine ⟨need_of (by omega), fun x27 e27 r27 x28 e28 r28 x29 e29 r29 x30 e30 r30 => ?_⟩
      have k := mask_tail ⟨hw0, hw1⟩ e27 e28 (inR_zero _) e29 e30
      refine goal _ _ k ⟨0, rfl, ?_⟩
      have : N / 2 ^ i = 0 := by
        rw [Nat.div_eq_zero_iff]
        right
        exact Nat.lt_of_lt_of_le hN2 (Nat.pow_le_pow_right (by omega) (by omega))
      rw [this]
  · cases hs

def Γ19 : Tab := ⟨tys, [(70, pureCtr windowS)] ++ Γ18.ctr, [0], gh⟩
theorem Γ19_ok : TabOk Tryd.prog Γ19 := Γ18_ok.cons window_ok
end Go.Gx

/- Signed digits. -/
namespace Go.Sp
def p2 (w : Int) : Int := ((2 ^ w.toNat : Nat) : Int)
/-- m digits from the k-th on, with what was carried. -/
def dgs (n w : Int) : Nat → Int → Int → List Int
  | 0, _, _ => []
  | m + 1, k, c => if winL n (k * w) w + c > p2 (w - 1) then (winL n (k * w) w + c - p2 w) :: dgs n w m (k + 1) 1 else (winL n (k * w) w + c) :: dgs n w m (k + 1) 0
def digL (n w : Int) : List Int := if w < 1 ∨ w > 12 then [] else dgs n w (253 / w + 1).toNat 0 0
def digE (w : Int) : Int := if w < 1 ∨ w > 12 then 1 else 0
/-- The non-adjacent form from bit i on. -/
def nfs (n w : Int) : Nat → Int → Int → List Int → List Int
  | 0, _, _, l => l
  | m + 1, i, c, l => if i ≤ 253 then (if (winL n i 1 + c) % 2 = 0 then nfs n w m (i + 1) c l else if winL n i w + c ≥ p2 (w - 1) then nfs n w m (i + w) 1 (l.set i.toNat (winL n i w + c - p2 w)) else nfs n w m (i + w) 0 (l.set i.toNat (winL n i w + c))) else l
def nafL (n w : Int) : List Int := if w < 2 ∨ w > 8 then [] else nfs n w 255 0 0 (List.replicate 254 0)
def nafE (w : Int) : Int := if w < 2 ∨ w > 8 then 1 else 0
end Go.Sp
namespace Go.Gx
open Go.Proofs Go.Sp
open Go.Sp (prI mlL adL sbL pwL halfI invL)
set_option linter.unusedVariables false

theorem p2_bd {w : Int} (h : 0 ≤ w ∧ w ≤ 12) : 1 ≤ p2 w ∧ p2 w ≤ 4096 := by
  obtain ⟨k, rfl⟩ := Int.eq_ofNat_of_zero_le h.1
  unfold p2
  rw [Int.toNat_natCast]
  have h1 : 2 ^ k ≤ 2 ^ 12 := Nat.pow_le_pow_right (by omega) (by omega)
  have h2 := Nat.two_pow_pos k
  omega
theorem shl_p2 {w : Int} (h : 0 ≤ w ∧ w ≤ 12) : shlI .i64 1 w = p2 w := by
  have hb := p2_bd h
  have : shlI .i64 1 w = IntKind.i64.wrap (1 * 2 ^ min w.toNat 64) := rfl
  rw [this, show min w.toNat 64 = w.toNat by omega, Int.one_mul, show (2 : Int) ^ w.toNat = p2 w by unfold p2; simp, wrap_i64 (by omega)]
theorem win_bd (n i : Int) {w : Int} (h : 0 ≤ w ∧ w ≤ 12) : 0 ≤ winL n i w ∧ winL n i w < p2 w := by
  have hb := p2_bd h
  unfold winL
  show 0 ≤ _ % p2 w ∧ _ % p2 w < p2 w
  exact ⟨Int.emod_nonneg _ (by omega), Int.emod_lt_of_pos _ (by omega)⟩
theorem win1_bd (n i : Int) : 0 ≤ winL n i 1 ∧ winL n i 1 < 2 := win_bd n i (w := 1) (by omega)
theorem one_len (x : Int) : Need ((1 : Int) ≤ (([x].length : Nat) : Int)) := need_of (by simp)

def L27 : Loops := [(7, ⟨[.any, .i .i64 ⟨false, 0⟩, .p 1000 0, .any, .any, .any, .nsl, .i .i64 ⟨false, 0⟩, .any, .any] ++ reps .any 10 ++ [.i .i64 ⟨false, 0⟩, .i .i64 ⟨false, 0⟩] ++ reps .any 25, gh ++ [(1000, .segs false [.arr .u64 4 false []])], 1018⟩), (1007, ⟨[.any, .i .i64 ⟨false, 0⟩, .p 1000 0, .any, .any, .any, .sl 1001 0 1 ⟨true, 0⟩ ⟨false, 0⟩, .i .i64 ⟨false, 0⟩, .any, .any] ++ reps .any 10 ++ [.i .i64 ⟨false, 0⟩, .i .i64 ⟨false, 0⟩] ++ reps .any 25, gh ++ [(1000, .segs false [.arr .u64 4 false []]), (1001, .segs false [.rowI .i64 []])], 1018⟩)]
def vc27 (a0 a1 a2 a3 x : Int) (K : List Int → List SV → Prop) (Q : Nat → List Pv → Prop) : Prop := fnVcI Γ19 Tryd.f27 L27 [.arr .u64 4 true [a0, a1, a2, a3], .i .i64 ⟨false, x⟩] gh .i64 K Q
def lc27a (w c cnt k : Int) (a : List Int) (K : List Int → List SV → Prop) (Q : Nat → List Pv → Prop) : Prop := loopVcI Γ19 Tryd.f27 L27 7 [.z w, .z c, .z cnt, .z k, .l a] .i64 K Q
def lc27b (w len c cnt k : Int) (a l : List Int) (K : List Int → List SV → Prop) (Q : Nat → List Pv → Prop) : Prop := loopVcI Γ19 Tryd.f27 L27 1007 [.z w, .z len, .z c, .z cnt, .z k, .l a, .l l] .i64 K Q
theorem vc27_eq : ∀ (a0 a1 a2 a3 x : Int) (K : List Int → List SV → Prop) (Q : Nat → List Pv → Prop), vc27 a0 a1 a2 a3 x K Q = ((decide (x < (1 : Int)) = true → K [] [SV.i IntKind.i64 { st := true, z := (1 : Int) }]) ∧ (decide (x < (1 : Int)) = false → (decide (x > (12 : Int)) = true → K [] [SV.i IntKind.i64 { st := true, z := (1 : Int) }]) ∧ (decide (x > (12 : Int)) = false → ∀ (x1 : Int), x1 = w0 (val4 [a0, a1, a2, a3] % (7237005577332262213973186563042994240857116359379907606001950938285454250989 : Int)) → InR IntKind.u64 x1 → ∀ (x2 : Int), x2 = w1 (val4 [a0, a1, a2, a3] % (7237005577332262213973186563042994240857116359379907606001950938285454250989 : Int)) → InR IntKind.u64 x2 → ∀ (x3 : Int), x3 = w2 (val4 [a0, a1, a2, a3] % (7237005577332262213973186563042994240857116359379907606001950938285454250989 : Int)) → InR IntKind.u64 x3 → ∀ (x4 : Int), x4 = w3 (val4 [a0, a1, a2, a3] % (7237005577332262213973186563042994240857116359379907606001950938285454250989 : Int)) → InR IntKind.u64 x4 → Need (x ≠ (0 : Int)) ∧ ∀ (x5 : Int), x5 = IntKind.i64.wrap (Int.tdiv (253 : Int) x) → InR IntKind.i64 x5 → ∀ (x6 : Int), x6 = IntKind.i64.wrap (x5 + (1 : Int)) → InR IntKind.i64 x6 → Same Tryd.f27 (7 : Nat) (itemsOf Tryd.f27 (7 : Nat)) ∧ Q (7 : Nat) [Pv.z x, Pv.z (0 : Int), Pv.z x6, Pv.z (0 : Int), Pv.l [x1, x2, x3, x4]]))) := by
  intros
  kernel_rfl
theorem lc27a_eq : ∀ (w c cnt k : Int) (a : List Int) (K : List Int → List SV → Prop) (Q : Nat → List Pv → Prop), lc27a w c cnt k a K Q = ((decide (k < cnt) = true → ∀ (x1 : Int), x1 = IntKind.i64.wrap (k * w) → InR IntKind.i64 x1 → Need ((0 : Int) ≤ x1) ∧ Need (x1 ≤ (4096 : Int)) ∧ Need ((0 : Int) ≤ w) ∧ Need (w ≤ (12 : Int)) ∧ ∀ (x2 : Int), x2 = winL (val4 a) x1 w → InR IntKind.i64 x2 → ∀ (x3 : Int), x3 = IntKind.i64.wrap (x2 + c) → InR IntKind.i64 x3 → ∀ (x4 : Int), x4 = IntKind.i64.wrap (w - (1 : Int)) → InR IntKind.i64 x4 → Need ((0 : Int) ≤ x4) ∧ ∀ (x5 : Int), x5 = shlI IntKind.i64 (1 : Int) x4 → InR IntKind.i64 x5 → (decide (x3 > x5) = true → Need ((0 : Int) ≤ w) ∧ ∀ (x6 : Int), x6 = shlI IntKind.i64 (1 : Int) w → InR IntKind.i64 x6 → ∀ (x7 : Int), x7 = IntKind.i64.wrap (x3 - x6) → InR IntKind.i64 x7 → Need (↑([] ++ List.take (1 : Nat) (List.drop (0 : Nat) [x7])).length * (8 : Int) ≤ (70368744177664 : Int)) ∧ Need ((1 : Int) ≤ ↑[x7].length) ∧ ∀ (x8 : List Int), x8 = [] ++ List.take (1 : Nat) (List.drop (0 : Nat) [x7]) → AllR IntKind.i64 x8 → ∀ (x9 : Int), x9 = ↑([] ++ List.take (1 : Nat) (List.drop (0 : Nat) [x7])).length → (0 : Int) ≤ x9 → InR IntKind.i64 x9 → ∀ (x10 : Int), x10 = IntKind.i64.wrap (k + (1 : Int)) → InR IntKind.i64 x10 → Same Tryd.f27 (7 : Nat) (itemsOf Tryd.f27 (7 : Nat)) ∧ Q (1007 : Nat) [Pv.z w, Pv.z x9, Pv.z (1 : Int), Pv.z cnt, Pv.z x10, Pv.l a, Pv.l x8]) ∧ (decide (x3 > x5) = false → Need (↑([] ++ List.take (1 : Nat) (List.drop (0 : Nat) [x3])).length * (8 : Int) ≤ (70368744177664 : Int)) ∧ Need ((1 : Int) ≤ ↑[x3].length) ∧ ∀ (x11 : List Int), x11 = [] ++ List.take (1 : Nat) (List.drop (0 : Nat) [x3]) → AllR IntKind.i64 x11 → ∀ (x12 : Int), x12 = ↑([] ++ List.take (1 : Nat) (List.drop (0 : Nat) [x3])).length → (0 : Int) ≤ x12 → InR IntKind.i64 x12 → ∀ (x13 : Int), x13 = IntKind.i64.wrap (k + (1 : Int)) → InR IntKind.i64 x13 → Same Tryd.f27 (7 : Nat) (itemsOf Tryd.f27 (7 : Nat)) ∧ Q (1007 : Nat) [Pv.z w, Pv.z x12, Pv.z (0 : Int), Pv.z cnt, Pv.z x13, Pv.l a, Pv.l x11])) ∧ (decide (k < cnt) = false → K [] [SV.i IntKind.i64 { st := true, z := (0 : Int) }])) := by
  intros
  kernel_rfl
theorem lc27b_eq : ∀ (w len c cnt k : Int) (a l : List Int) (K : List Int → List SV → Prop) (Q : Nat → List Pv → Prop), lc27b w len c cnt k a l K Q = ((decide (k < cnt) = true → ∀ (x1 : Int), x1 = IntKind.i64.wrap (k * w) → InR IntKind.i64 x1 → Need ((0 : Int) ≤ x1) ∧ Need (x1 ≤ (4096 : Int)) ∧ Need ((0 : Int) ≤ w) ∧ Need (w ≤ (12 : Int)) ∧ ∀ (x2 : Int), x2 = winL (val4 a) x1 w → InR IntKind.i64 x2 → ∀ (x3 : Int), x3 = IntKind.i64.wrap (x2 + c) → InR IntKind.i64 x3 → ∀ (x4 : Int), x4 = IntKind.i64.wrap (w - (1 : Int)) → InR IntKind.i64 x4 → Need ((0 : Int) ≤ x4) ∧ ∀ (x5 : Int), x5 = shlI IntKind.i64 (1 : Int) x4 → InR IntKind.i64 x5 → (decide (x3 > x5) = true → Need ((0 : Int) ≤ w) ∧ ∀ (x6 : Int), x6 = shlI IntKind.i64 (1 : Int) w → InR IntKind.i64 x6 → ∀ (x7 : Int), x7 = IntKind.i64.wrap (x3 - x6) → InR IntKind.i64 x7 → Need (↑(l ++ List.take (1 : Nat) (List.drop (0 : Nat) [x7])).length * (8 : Int) ≤ (70368744177664 : Int)) ∧ Need (len = ↑l.length) ∧ Need ((1 : Int) ≤ ↑[x7].length) ∧ ∀ (x8 : List Int), x8 = l ++ List.take (1 : Nat) (List.drop (0 : Nat) [x7]) → AllR IntKind.i64 x8 → ∀ (x9 : Int), x9 = ↑(l ++ List.take (1 : Nat) (List.drop (0 : Nat) [x7])).length → (0 : Int) ≤ x9 → InR IntKind.i64 x9 → ∀ (x10 : Int), x10 = IntKind.i64.wrap (k + (1 : Int)) → InR IntKind.i64 x10 → Same Tryd.f27 (7 : Nat) (itemsOf Tryd.f27 (7 : Nat)) ∧ Q (1007 : Nat) [Pv.z w, Pv.z x9, Pv.z (1 : Int), Pv.z cnt, Pv.z x10, Pv.l a, Pv.l x8]) ∧ (decide (x3 > x5) = false → Need (↑(l ++ List.take (1 : Nat) (List.drop (0 : Nat) [x3])).length * (8 : Int) ≤ (70368744177664 : Int)) ∧ Need (len = ↑l.length) ∧ Need ((1 : Int) ≤ ↑[x3].length) ∧ ∀ (x11 : List Int), x11 = l ++ List.take (1 : Nat) (List.drop (0 : Nat) [x3]) → AllR IntKind.i64 x11 → ∀ (x12 : Int), x12 = ↑(l ++ List.take (1 : Nat) (List.drop (0 : Nat) [x3])).length → (0 : Int) ≤ x12 → InR IntKind.i64 x12 → ∀ (x13 : Int), x13 = IntKind.i64.wrap (k + (1 : Int)) → InR IntKind.i64 x13 → Same Tryd.f27 (7 : Nat) (itemsOf Tryd.f27 (7 : Nat)) ∧ Q (1007 : Nat) [Pv.z w, Pv.z x12, Pv.z (0 : Int), Pv.z cnt, Pv.z x13, Pv.l a, Pv.l x11])) ∧ (decide (k < cnt) = false → Need ((0 : Int) + len ≤ ↑l.length) ∧ K (List.take len.toNat (List.drop (0 : Nat) l)) [SV.i IntKind.i64 { st := true, z := (0 : Int) }])) := by
  intros
  kernel_rfl

theorem round27a {w len c cnt k n : Int} {a l : List Int} {K : List Int → List SV → Prop} {Q : Nat → List Pv → Prop} (hw : 1 ≤ w ∧ w ≤ 12) (hk : 0 ≤ k ∧ k < cnt) (hcnt : cnt = 253 / w + 1) (hc : c = 0 ∨ c = 1) (ha : val4 a = n) (hl : l = [] ∧ len = (l.length : Int) ∧ (l.length : Int) = k)
    (h : ∀ c' d, (c' = 0 ∨ c' = 1) → dgs n w (cnt - k).toNat k c = d :: dgs n w (cnt - (k + 1)).toNat (k + 1) c' → Q 1007 [.z w, .z (k + 1), .z c', .z cnt, .z (k + 1), .l a, .l (l ++ [d])]) : lc27a w c cnt k a K Q := by
  have hkw : 0 ≤ k * w ∧ k * w ≤ 253 := by
    have h1 : k * w ≤ 253 / w * w := Int.mul_le_mul_of_nonneg_right (by omega) (by omega)
    have h2 : 253 / w * w ≤ 253 := Int.ediv_mul_le 253 (by omega)
    exact ⟨Int.mul_nonneg hk.1 (by omega), by omega⟩
  have hcb : cnt ≤ 254 := by
    have : 253 / w ≤ 253 := by rw [Int.ediv_le_iff_le_mul (by omega)]; omega
    omega
  have hs : (cnt - k).toNat = (cnt - (k + 1)).toNat + 1 := by omega
  have hwb := win_bd n (k * w) (w := w) (by omega)
  have hp := p2_bd (w := w) (by omega)
  have hp1 := p2_bd (w := w - 1) (by omega)
  obtain ⟨hl1, hl2, hl3⟩ := hl
  rw [lc27a_eq]
  refine ⟨fun _ x1 e1 r1 => ?_, fun hn => by have := of_decide_eq_false hn; omega⟩
  rw [wrap_i64 (by omega)] at e1
  refine ⟨need_of (by omega), need_of (by omega), need_of (by omega), need_of (by omega), fun x2 e2 r2 x3 e3 r3 x4 e4 r4 => ?_⟩
  rw [e1, ha] at e2
  rw [wrap_i64 (by omega)] at e3 e4
  refine ⟨need_of (by omega), fun x5 e5 r5 => ?_⟩
  rw [e4, shl_p2 (by omega)] at e5
  have hwr : IntKind.i64.wrap (k + 1) = k + 1 := wrap_i64 (by omega)
  refine ⟨fun hg => ?_, fun hg => ?_⟩
  · have hg := of_decide_eq_true hg
    refine ⟨need_of (by omega), fun x6 e6 r6 x7 e7 r7 => ?_⟩
    rw [shl_p2 (by omega)] at e6
    rw [wrap_i64 (by omega)] at e7
    refine ⟨need_of (by simp), one_len _, fun x8 e8 _ x9 e9 _ _ x10 e10 _ => ⟨rfl, ?_⟩⟩
    have f8 : x8 = l ++ [x7] := by rw [e8, hl1]; rfl
    have f9 : x9 = k + 1 := by rw [e9]; simp; rw [hl1] at hl3; simp at hl3; omega
    rw [f8, f9, e10, hwr]
    refine h 1 x7 (.inr rfl) ?_
    rw [hs]
    simp only [dgs]
    rw [if_pos (by omega)]
    congr 1; omega
  · have hg := of_decide_eq_false hg
    refine ⟨need_of (by simp), one_len _, fun x11 e11 _ x12 e12 _ _ x13 e13 _ => ⟨rfl, ?_⟩⟩
    have f8 : x11 = l ++ [x3] := by rw [e11, hl1]; rfl
    have f9 : x12 = k + 1 := by rw [e12]; simp; rw [hl1] at hl3; simp at hl3; omega
    rw [f8, f9, e13, hwr]
    refine h 0 x3 (.inl rfl) ?_
    rw [hs]
    simp only [dgs]
    rw [if_neg (by omega)]
    congr 1; omega

theorem round27b {w len c cnt k n : Int} {a l : List Int} {K : List Int → List SV → Prop} {Q : Nat → List Pv → Prop} (hw : 1 ≤ w ∧ w ≤ 12) (hk : 0 ≤ k ∧ k < cnt) (hcnt : cnt = 253 / w + 1) (hc : c = 0 ∨ c = 1) (ha : val4 a = n) (hl : l = l ∧ len = (l.length : Int) ∧ (l.length : Int) = k)
    (h : ∀ c' d, (c' = 0 ∨ c' = 1) → dgs n w (cnt - k).toNat k c = d :: dgs n w (cnt - (k + 1)).toNat (k + 1) c' → Q 1007 [.z w, .z (k + 1), .z c', .z cnt, .z (k + 1), .l a, .l (l ++ [d])]) : lc27b w len c cnt k a l K Q := by
  have hkw : 0 ≤ k * w ∧ k * w ≤ 253 := by
    have h1 : k * w ≤ 253 / w * w := Int.mul_le_mul_of_nonneg_right (by omega) (by omega)
    have h2 : 253 / w * w ≤ 253 := Int.ediv_mul_le 253 (by omega)
    exact ⟨Int.mul_nonneg hk.1 (by omega), by omega⟩
  have hcb : cnt ≤ 254 := by
    have : 253 / w ≤ 253 := by rw [Int.ediv_le_iff_le_mul (by omega)]; omega
    omega
  have hs : (cnt - k).toNat = (cnt - (k + 1)).toNat + 1 := by omega
  have hwb := win_bd n (k * w) (w := w) (by omega)
  have hp := p2_bd (w := w) (by omega)
  have hp1 := p2_bd (w := w - 1) (by omega)
  obtain ⟨hl1, hl2, hl3⟩ := hl
  rw [lc27b_eq]
  refine ⟨fun _ x1 e1 r1 => ?_, fun hn => by have := of_decide_eq_false hn; omega⟩
  rw [wrap_i64 (by omega)] at e1
  refine ⟨need_of (by omega), need_of (by omega), need_of (by omega), need_of (by omega), fun x2 e2 r2 x3 e3 r3 x4 e4 r4 => ?_⟩
  rw [e1, ha] at e2
  rw [wrap_i64 (by omega)] at e3 e4
  refine ⟨need_of (by omega), fun x5 e5 r5 => ?_⟩
  rw [e4, shl_p2 (by omega)] at e5
  have hwr : IntKind.i64.wrap (k + 1) = k + 1 := wrap_i64 (by omega)
  refine ⟨fun hg => ?_, fun hg => ?_⟩
  · have hg := of_decide_eq_true hg
    refine ⟨need_of (by omega), fun x6 e6 r6 x7 e7 r7 => ?_⟩
    rw [shl_p2 (by omega)] at e6
    rw [wrap_i64 (by omega)] at e7
    refine ⟨need_of (by simp; omega), need_of (by omega), one_len _, fun x8 e8 _ x9 e9 _ _ x10 e10 _ => ⟨rfl, ?_⟩⟩
    have f8 : x8 = l ++ [x7] := by rw [e8]; rfl
    have f9 : x9 = k + 1 := by rw [e9]; simp; omega
    rw [f8, f9, e10, hwr]
    refine h 1 x7 (.inr rfl) ?_
    rw [hs]
    simp only [dgs]
    rw [if_pos (by omega)]
    congr 1; omega
  · have hg := of_decide_eq_false hg
    refine ⟨need_of (by simp; omega), need_of (by omega), one_len _, fun x11 e11 _ x12 e12 _ _ x13 e13 _ => ⟨rfl, ?_⟩⟩
    have f8 : x11 = l ++ [x3] := by rw [e11]; rfl
    have f9 : x12 = k + 1 := by rw [e12]; simp; omega
    rw [f8, f9, e13, hwr]
    refine h 0 x3 (.inl rfl) ?_
    rw [hs]
    simp only [dgs]
    rw [if_neg (by omega)]
    congr 1; omega

def inv27 (n w : Int) (a : List Int) (key : Nat) (ps : List Pv) (m : Nat) : Prop :=
  (1 ≤ w ∧ w ≤ 12) ∧ ∃ c cnt k l, cnt = 253 / w + 1 ∧ (m : Int) = cnt - k ∧ (0 ≤ k ∧ k ≤ cnt) ∧ (c = 0 ∨ c = 1) ∧ (l.length : Int) = k ∧ l ++ dgs n w (cnt - k).toNat k c = digL n w ∧
    ((key = 7 ∧ k = 0 ∧ ps = [.z w, .z c, .z cnt, .z k, .l a]) ∨ (key = 1007 ∧ ps = [.z w, .z k, .z c, .z cnt, .z k, .l a, .l l]))

def digS : List SV → Option (List Prop × List Int × List SV)
  | [.arr .u64 4 _ l, .i .i64 w] => some ([], digL (val4 l % ell) w.z, [.i .i64 ⟨false, digE w.z⟩])
  | _ => none

set_option maxHeartbeats 1000000 in
theorem dig_ok : CallOk Tryd.prog gh 27 (freshCtr .i64 digS) := by
  refine call_fresh (fn := Tryd.f27) Γ19_ok rfl (by kernel_rfl) (by kernel_rfl) (by kernel_rfl) digS fun args P0 l0 r0 hs hp hf => ?_
  unfold digS at hs
  split at hs
  · rename_i e1 l w
    simp only [Option.some.injEq, Prod.mk.injEq] at hs
    obtain ⟨rfl, rfl, rfl⟩ := hs
    simp only [FactVs, FactV] at hf
    obtain ⟨⟨hl, h1⟩, hw, _⟩ := hf
    obtain ⟨a0, a1, a2, a3, rfl⟩ := len4 hl
    obtain ⟨wT, w⟩ := w
    dsimp only at *
    have hn := val_mod (val4 [a0, a1, a2, a3])
    refine ⟨[.arr .u64 4 true [a0, a1, a2, a3], .i .i64 ⟨false, w⟩], L27, inv27 (val4 [a0, a1, a2, a3] % ell) w (words4 (val4 [a0, a1, a2, a3] % ell)), ⟨rfl, rfl, trivial⟩, Nat.le_of_ble_eq_true (by kernel_rfl), ?_, ?_, ?_⟩
    · intro k t ht g hg
      have hg : g ∈ keysOf gh := hg
      simp only [gh, keysOf, List.mem_singleton] at hg
      subst hg
      simp only [L27, List.mem_cons, List.not_mem_nil, or_false, Prod.mk.injEq] at ht
      rcases ht with ⟨rfl, rfl⟩ | ⟨rfl, rfl⟩ <;> exact ⟨by omega, rfl⟩
    · rintro vk t ps m ht ⟨hwr, c, cnt, k, l, hcnt, hm, hk, hc, hlk, hfull, hcase⟩
      have hpos : 0 ≤ 253 / w := Int.ediv_nonneg (by omega) (by omega)
      have next : ∀ c' d, k < cnt → (c' = 0 ∨ c' = 1) → dgs (val4 [a0, a1, a2, a3] % ell) w (cnt - k).toNat k c = d :: dgs (val4 [a0, a1, a2, a3] % ell) w (cnt - (k + 1)).toNat (k + 1) c' →
          ∃ m', m' < m ∧ inv27 (val4 [a0, a1, a2, a3] % ell) w (words4 (val4 [a0, a1, a2, a3] % ell)) 1007 [.z w, .z (k + 1), .z c', .z cnt, .z (k + 1), .l (words4 (val4 [a0, a1, a2, a3] % ell)), .l (l ++ [d])] m' := fun c' d hlt hc' hd =>
        ⟨m - 1, by omega, hwr, c', cnt, k + 1, l ++ [d], hcnt, by omega, by omega, hc', by simp; omega, by rw [← hfull, hd]; simp, .inr ⟨rfl, rfl⟩⟩
      simp only [L27, List.mem_cons, List.not_mem_nil, or_false, Prod.mk.injEq] at ht
      rcases ht with ⟨rfl, rfl⟩ | ⟨rfl, rfl⟩
      · rcases hcase with ⟨_, rfl, rfl⟩ | ⟨h7, _⟩
        · have hnil : l = [] := List.length_eq_zero_iff.1 (by omega)
          show lc27a w c cnt 0 (words4 (val4 [a0, a1, a2, a3] % ell)) _ _
          exact round27a (l := l) (len := 0) hwr ⟨by omega, by omega⟩ hcnt hc hn.1 ⟨hnil, by omega, hlk⟩ fun c' d hc' hd => next c' d (by omega) hc' hd
        · omega
      · rcases hcase with ⟨h7, _⟩ | ⟨_, rfl⟩
        · omega
        · show lc27b w k c cnt k (words4 (val4 [a0, a1, a2, a3] % ell)) l _ _
          rcases Int.lt_or_le k cnt with hlt | hge
          · exact round27b hwr ⟨hk.1, hlt⟩ hcnt hc hn.1 ⟨rfl, by omega, hlk⟩ fun c' d hc' hd => next c' d hlt hc' hd
          · rw [lc27b_eq]
            refine ⟨fun h => by have := of_decide_eq_true h; omega, fun _ => ⟨need_of (by omega), ?_, ?_, trivial⟩⟩
            · rw [show (cnt - k).toNat = 0 by omega] at hfull
              simp only [dgs, List.append_nil] at hfull
              rw [← hfull, List.drop_zero, List.take_of_length_le (by omega)]
            · show 0 = digE w
              unfold digE; rw [if_neg (by omega)]
    · show vc27 a0 a1 a2 a3 w _ _
      rw [vc27_eq, ← ell_lit]
      refine ⟨fun h => ?_, fun h => ⟨fun h' => ?_, fun h' => ?_⟩⟩
      · have h := of_decide_eq_true h
        exact ⟨by unfold digL; rw [if_pos (by omega)], by show 1 = digE w; unfold digE; rw [if_pos (by omega)], trivial⟩
      · have h' := of_decide_eq_true h'
        exact ⟨by unfold digL; rw [if_pos (by omega)], by show 1 = digE w; unfold digE; rw [if_pos (by omega)], trivial⟩
      · have h := of_decide_eq_false h
        have h' := of_decide_eq_false h'
        intro x1 e1 _ x2 e2 _ x3 e3 _ x4 e4 _
        have hpos : 0 ≤ 253 / w := Int.ediv_nonneg (by omega) (by omega)
        have hle : 253 / w ≤ 253 := by rw [Int.ediv_le_iff_le_mul (by omega)]; omega
        have htd : Int.tdiv 253 w = 253 / w := Int.tdiv_eq_ediv_of_nonneg (by omega)
        refine ⟨need_of (by omega), fun x5 e5 _ x6 e6 _ => ⟨rfl, (253 / w + 1).toNat, ⟨by omega, by omega⟩, 0, x6, 0, [], ?_, ?_, ?_, .inl rfl, rfl, ?_, .inl ⟨rfl, rfl, ?_⟩⟩⟩ <;> rw [htd, wrap_i64 (by omega)] at e5 <;> rw [e5, wrap_i64 (by omega)] at e6
        · exact e6
        · omega
        · omega
        · rw [e6]
          unfold digL; rw [if_neg (by omega), Int.sub_zero]; rfl
        · rw [e1, e2, e3, e4]; rfl
  · cases hs

def L39 : Loops := [(7, ⟨[.any, .i .i64 ⟨false, 0⟩, .p 1000 0, .any, .any, .any, .sl 1012 0 1 ⟨true, 0⟩ ⟨true, 254⟩, .i .i64 ⟨false, 0⟩, .i .i64 ⟨false, 0⟩] ++ reps .any 44, gh ++ [(1000, .segs false [.arr .u64 4 false []]), (1012, .segs false [.rowI .i64 []])], 1016⟩)]
def vc39 (a0 a1 a2 a3 x : Int) (K : List Int → List SV → Prop) (Q : Nat → List Pv → Prop) : Prop := fnVcI Γ19 Tryd.f39 L39 [.arr .u64 4 true [a0, a1, a2, a3], .i .i64 ⟨false, x⟩] gh .i64 K Q
def lc39 (w c i : Int) (a l : List Int) (K : List Int → List SV → Prop) (Q : Nat → List Pv → Prop) : Prop := loopVcI Γ19 Tryd.f39 L39 7 [.z w, .z c, .z i, .l a, .l l] .i64 K Q
theorem vc39_eq : ∀ (a0 a1 a2 a3 x : Int) (K : List Int → List SV → Prop) (Q : Nat → List Pv → Prop), vc39 a0 a1 a2 a3 x K Q = ((decide (x < (2 : Int)) = true → K [] [SV.i IntKind.i64 { st := true, z := (1 : Int) }]) ∧ (decide (x < (2 : Int)) = false → (decide (x > (8 : Int)) = true → K [] [SV.i IntKind.i64 { st := true, z := (1 : Int) }]) ∧ (decide (x > (8 : Int)) = false → ∀ (x1 : Int), x1 = w0 (val4 [a0, a1, a2, a3] % (7237005577332262213973186563042994240857116359379907606001950938285454250989 : Int)) → InR IntKind.u64 x1 → ∀ (x2 : Int), x2 = w1 (val4 [a0, a1, a2, a3] % (7237005577332262213973186563042994240857116359379907606001950938285454250989 : Int)) → InR IntKind.u64 x2 → ∀ (x3 : Int), x3 = w2 (val4 [a0, a1, a2, a3] % (7237005577332262213973186563042994240857116359379907606001950938285454250989 : Int)) → InR IntKind.u64 x3 → ∀ (x4 : Int), x4 = w3 (val4 [a0, a1, a2, a3] % (7237005577332262213973186563042994240857116359379907606001950938285454250989 : Int)) → InR IntKind.u64 x4 → Need ((0 : Int) ≤ (254 : Int) ∧ (254 : Int) ≤ (254 : Int) ∧ (2032 : Int) ≤ (70368744177664 : Int)) ∧ ∀ (x5 : List Int), x5 = List.replicate (254 : Nat) (0 : Int) → AllR IntKind.i64 x5 → Same Tryd.f39 (7 : Nat) (itemsOf Tryd.f39 (7 : Nat)) ∧ Q (7 : Nat) [Pv.z x, Pv.z (0 : Int), Pv.z (0 : Int), Pv.l [x1, x2, x3, x4], Pv.l x5]))) := by
  intros
  kernel_rfl
theorem lc39_eq : ∀ (w c i : Int) (a l : List Int) (K : List Int → List SV → Prop) (Q : Nat → List Pv → Prop), lc39 w c i a l K Q = ((decide (i ≤ (253 : Int)) = true → Need ((0 : Int) ≤ i) ∧ Need (i ≤ (4096 : Int)) ∧ Need ((0 : Int) ≤ (1 : Int)) ∧ Need ((1 : Int) ≤ (12 : Int)) ∧ ∀ (x1 : Int), x1 = winL (val4 a) i (1 : Int) → InR IntKind.i64 x1 → ∀ (x2 : Int), x2 = IntKind.i64.wrap (x1 + c) → InR IntKind.i64 x2 → ∀ (x3 : Int), x3 = x2.tmod (2 : Int) → InR IntKind.i64 x3 → ((x3 == (0 : Int)) = true → ∀ (x4 : Int), x4 = IntKind.i64.wrap (i + (1 : Int)) → InR IntKind.i64 x4 → Same Tryd.f39 (7 : Nat) (itemsOf Tryd.f39 (7 : Nat)) ∧ Q (7 : Nat) [Pv.z w, Pv.z c, Pv.z x4, Pv.l a, Pv.l l]) ∧ ((x3 == (0 : Int)) = false → Need ((0 : Int) ≤ i) ∧ Need (i ≤ (4096 : Int)) ∧ Need ((0 : Int) ≤ w) ∧ Need (w ≤ (12 : Int)) ∧ ∀ (x5 : Int), x5 = winL (val4 a) i w → InR IntKind.i64 x5 → ∀ (x6 : Int), x6 = IntKind.i64.wrap (x5 + c) → InR IntKind.i64 x6 → ∀ (x7 : Int), x7 = IntKind.i64.wrap (w - (1 : Int)) → InR IntKind.i64 x7 → Need ((0 : Int) ≤ x7) ∧ ∀ (x8 : Int), x8 = shlI IntKind.i64 (1 : Int) x7 → InR IntKind.i64 x8 → (decide (x6 ≥ x8) = true → Need ((0 : Int) ≤ w) ∧ ∀ (x9 : Int), x9 = shlI IntKind.i64 (1 : Int) w → InR IntKind.i64 x9 → ∀ (x10 : Int), x10 = IntKind.i64.wrap (x6 - x9) → InR IntKind.i64 x10 → Need ((0 : Int) ≤ i ∧ i < (254 : Int)) ∧ Need ((0 : Int) ≤ i ∧ i < ↑l.length) ∧ ∀ (x11 : List Int), x11 = l.set i.toNat x10 → AllR IntKind.i64 x11 → ∀ (x12 : Int), x12 = IntKind.i64.wrap (i + w) → InR IntKind.i64 x12 → Same Tryd.f39 (7 : Nat) (itemsOf Tryd.f39 (7 : Nat)) ∧ Q (7 : Nat) [Pv.z w, Pv.z (1 : Int), Pv.z x12, Pv.l a, Pv.l x11]) ∧ (decide (x6 ≥ x8) = false → Need ((0 : Int) ≤ i ∧ i < (254 : Int)) ∧ Need ((0 : Int) ≤ i ∧ i < ↑l.length) ∧ ∀ (x13 : List Int), x13 = l.set i.toNat x6 → AllR IntKind.i64 x13 → ∀ (x14 : Int), x14 = IntKind.i64.wrap (i + w) → InR IntKind.i64 x14 → Same Tryd.f39 (7 : Nat) (itemsOf Tryd.f39 (7 : Nat)) ∧ Q (7 : Nat) [Pv.z w, Pv.z (0 : Int), Pv.z x14, Pv.l a, Pv.l x13]))) ∧ (decide (i ≤ (253 : Int)) = false → Need ((254 : Int) ≤ ↑l.length) ∧ K (List.take (254 : Nat) (List.drop (0 : Nat) l)) [SV.i IntKind.i64 { st := true, z := (0 : Int) }])) := by
  intros
  kernel_rfl

theorem round39 {w c i n : Int} {a l : List Int} {m : Nat} {K : List Int → List SV → Prop} {Q : Nat → List Pv → Prop} (hw : 2 ≤ w ∧ w ≤ 8) (hi : 0 ≤ i ∧ i ≤ 253) (hc : c = 0 ∨ c = 1) (ha : val4 a = n) (hl : l.length = 254)
    (h : ∀ c' i' l', (c' = 0 ∨ c' = 1) → i + 1 ≤ i' ∧ i' ≤ i + 8 → l'.length = 254 → nfs n w (m + 1) i c l = nfs n w m i' c' l' → Q 7 [.z w, .z c', .z i', .l a, .l l']) : lc39 w c i a l K Q := by
  have h1b := win1_bd n i
  have hwb := win_bd n i (w := w) (by omega)
  have hp := p2_bd (w := w) (by omega)
  have hp1 := p2_bd (w := w - 1) (by omega)
  rw [lc39_eq]
  refine ⟨fun _ => ⟨need_of hi.1, need_of (by omega), need_of (by omega), need_of (by omega), fun x1 e1 r1 x2 e2 r2 x3 e3 r3 => ?_⟩, fun hn => by have := of_decide_eq_false hn; omega⟩
  rw [ha] at e1
  rw [wrap_i64 (by omega)] at e2
  have f3 : x3 = (winL n i 1 + c) % 2 := by rw [e3, Int.tmod_eq_emod_of_nonneg (by omega), e2, e1]
  have hwi : IntKind.i64.wrap (i + w) = i + w := wrap_i64 (by omega)
  refine ⟨fun h0 => ?_, fun h0 => ?_⟩
  · have h0 : x3 = 0 := by simpa using h0
    intro x4 e4 r4
    refine ⟨rfl, ?_⟩
    rw [e4, wrap_i64 (by omega)]
    refine h c (i + 1) l hc (by omega) hl ?_
    rw [nfs, if_pos hi.2, if_pos (by omega)]
  · have h0 : ¬ x3 = 0 := by simpa using h0
    refine ⟨need_of hi.1, need_of (by omega), need_of (by omega), need_of (by omega), fun x5 e5 r5 x6 e6 r6 x7 e7 r7 => ?_⟩
    rw [ha] at e5
    rw [wrap_i64 (by omega)] at e6 e7
    refine ⟨need_of (by omega), fun x8 e8 r8 => ?_⟩
    rw [e7, shl_p2 (by omega)] at e8
    refine ⟨fun hg => ?_, fun hg => ?_⟩
    · have hg := of_decide_eq_true hg
      refine ⟨need_of (by omega), fun x9 e9 r9 x10 e10 r10 => ⟨need_of (by omega), need_of (by omega), fun x11 e11 _ x12 e12 _ => ⟨rfl, ?_⟩⟩⟩
      rw [shl_p2 (by omega)] at e9
      rw [wrap_i64 (by omega)] at e10
      rw [e12, hwi, e11]
      refine h 1 (i + w) _ (.inr rfl) (by omega) (by simpa using hl) ?_
      rw [nfs, if_pos hi.2, if_neg (by omega), if_pos (by omega), e10, e6, e5, e9]
    · have hg := of_decide_eq_false hg
      refine ⟨need_of (by omega), need_of (by omega), fun x13 e13 _ x14 e14 _ => ⟨rfl, ?_⟩⟩
      rw [e14, hwi, e13]
      refine h 0 (i + w) _ (.inl rfl) (by omega) (by simpa using hl) ?_
      rw [nfs, if_pos hi.2, if_neg (by omega), if_neg (by omega), e6, e5]

def inv39 (n w : Int) (a : List Int) (key : Nat) (ps : List Pv) (m : Nat) : Prop :=
  key = 7 ∧ (2 ≤ w ∧ w ≤ 8) ∧ ∃ c i l, ps = [.z w, .z c, .z i, .l a, .l l] ∧ (0 ≤ i ∧ i ≤ 261) ∧ (c = 0 ∨ c = 1) ∧ l.length = 254 ∧ 255 ≤ (m : Int) + i ∧ nfs n w m i c l = nafL n w

def nafS : List SV → Option (List Prop × List Int × List SV)
  | [.arr .u64 4 _ l, .i .i64 w] => some ([], nafL (val4 l % ell) w.z, [.i .i64 ⟨false, nafE w.z⟩])
  | _ => none

set_option maxHeartbeats 1000000 in
theorem naf_ok : CallOk Tryd.prog gh 39 (freshCtr .i64 nafS) := by
  refine call_fresh (fn := Tryd.f39) Γ19_ok rfl (by kernel_rfl) (by kernel_rfl) (by kernel_rfl) nafS fun args P0 l0 r0 hs hp hf => ?_
  unfold nafS at hs
  split at hs
  · rename_i e1 l w
    simp only [Option.some.injEq, Prod.mk.injEq] at hs
    obtain ⟨rfl, rfl, rfl⟩ := hs
    simp only [FactVs, FactV] at hf
    obtain ⟨⟨hl, h1⟩, hw, _⟩ := hf
    obtain ⟨a0, a1, a2, a3, rfl⟩ := len4 hl
    obtain ⟨wT, w⟩ := w
    dsimp only at *
    have hn := val_mod (val4 [a0, a1, a2, a3])
    refine ⟨[.arr .u64 4 true [a0, a1, a2, a3], .i .i64 ⟨false, w⟩], L39, inv39 (val4 [a0, a1, a2, a3] % ell) w (words4 (val4 [a0, a1, a2, a3] % ell)), ⟨rfl, rfl, trivial⟩, Nat.le_of_ble_eq_true (by kernel_rfl), ?_, ?_, ?_⟩
    · intro k t ht g hg
      have hg : g ∈ keysOf gh := hg
      simp only [gh, keysOf, List.mem_singleton] at hg
      subst hg
      simp only [L39, List.mem_cons, List.not_mem_nil, or_false, Prod.mk.injEq] at ht
      obtain ⟨rfl, rfl⟩ := ht
      exact ⟨by omega, rfl⟩
    · rintro vk t ps m ht ⟨rfl, hwr, c, i, l, rfl, hi, hc, hlen, hmi, hfull⟩
      simp only [L39, List.mem_cons, List.not_mem_nil, or_false, Prod.mk.injEq, true_and] at ht
      subst ht
      show lc39 w c i (words4 (val4 [a0, a1, a2, a3] % ell)) l _ _
      rcases Int.lt_or_le 253 i with hgt | hle
      · rw [lc39_eq]
        refine ⟨fun h => by have := of_decide_eq_true h; omega, fun _ => ⟨need_of (by omega), ?_, ?_, trivial⟩⟩
        · have : nfs (val4 [a0, a1, a2, a3] % ell) w m i c l = l := by
            cases m with
            | zero => rfl
            | succ m => rw [nfs, if_neg (by omega)]
          rw [← hfull, this, List.drop_zero, List.take_of_length_le (by omega)]
        · show 0 = nafE w
          unfold nafE; rw [if_neg (by omega)]
      · obtain ⟨m', rfl⟩ : ∃ m', m = m' + 1 := ⟨m - 1, by omega⟩
        exact round39 (m := m') hwr ⟨hi.1, hle⟩ hc hn.1 hlen fun c' i' l' hc' hi' hl' hs' => ⟨m', by omega, rfl, hwr, c', i', l', rfl, by omega, hc', hl', by omega, by rw [← hs', hfull]⟩
    · show vc39 a0 a1 a2 a3 w _ _
      rw [vc39_eq, ← ell_lit]
      refine ⟨fun h => ?_, fun h => ⟨fun h' => ?_, fun h' => ?_⟩⟩
      · have h := of_decide_eq_true h
        exact ⟨by unfold nafL; rw [if_pos (by omega)], by show 1 = nafE w; unfold nafE; rw [if_pos (by omega)], trivial⟩
      · have h' := of_decide_eq_true h'
        exact ⟨by unfold nafL; rw [if_pos (by omega)], by show 1 = nafE w; unfold nafE; rw [if_pos (by omega)], trivial⟩
      · have h := of_decide_eq_false h
        have h' := of_decide_eq_false h'
        intro x1 e1 _ x2 e2 _ x3 e3 _ x4 e4 _
        refine ⟨need_of (by omega), fun x5 e5 _ => ⟨rfl, 255, rfl, ⟨by omega, by omega⟩, 0, 0, x5, ?_, ⟨by omega, by omega⟩, .inl rfl, ?_, by omega, ?_⟩⟩
        · rw [e1, e2, e3, e4]; rfl
        · rw [e5, List.length_replicate]
        · rw [e5]
          unfold nafL; rw [if_neg (by omega)]
  · cases hs

def Γ20 : Tab := ⟨tys, [(27, freshCtr .i64 digS), (39, freshCtr .i64 nafS)] ++ Γ19.ctr, [0], gh⟩
theorem Γ20_ok : TabOk Tryd.prog Γ20 := (Γ19_ok.cons naf_ok).cons dig_ok
end Go.Gx

/- Lists held against each other; a number and the order. -/
namespace Go.Gx
open Go.Proofs Go.Sp
open Go.Sp (prI mlL adL sbL pwL halfI invL)
set_option linter.unusedVariables false

def L30 : Loops := [(4, ⟨[.sl 500 0 1 ⟨true, 0⟩ ⟨false, 0⟩, .sl 501 0 1 ⟨true, 0⟩ ⟨false, 0⟩, .any, .any, .any, .i .i64 ⟨false, 0⟩] ++ reps .any 20, gh ++ [(500, .segs true [.rowI .i64 []]), (501, .segs true [.rowI .i64 []])], 1006⟩)]
def vc30 (l m : List Int) (K : SV → Prop) (Q : Nat → List Pv → Prop) : Prop := fnVc Γ20 Tryd.f30 L30 [.sl 500 0 1 ⟨true, 0⟩ ⟨false, (l.length : Int)⟩, .sl 501 0 1 ⟨true, 0⟩ ⟨false, (m.length : Int)⟩] (gh ++ [(500, .segs true [.rowI .i64 l]), (501, .segs true [.rowI .i64 m])]) K Q
def lc30 (n k i : Int) (l m : List Int) (K : SV → Prop) (Q : Nat → List Pv → Prop) : Prop := loopVc Γ20 Tryd.f30 L30 4 [.z n, .z k, .z i, .l l, .l m] K Q
theorem vc30_eq : ∀ (l m : List Int) (K : SV → Prop) (Q : Nat → List Pv → Prop), vc30 l m K Q = ((((l.length : Int) != (m.length : Int)) = true → K (SV.b true false)) ∧ (((l.length : Int) != (m.length : Int)) = false → Same Tryd.f30 (4 : Nat) (itemsOf Tryd.f30 (4 : Nat)) ∧ Q (4 : Nat) [Pv.z ↑l.length, Pv.z ↑m.length, Pv.z (0 : Int), Pv.l l, Pv.l m])) := by
  intros
  kernel_rfl
theorem lc30_eq : ∀ (n k i : Int) (l m : List Int) (K : SV → Prop) (Q : Nat → List Pv → Prop), lc30 n k i l m K Q = ((decide (i < n) = true → Need ((0 : Int) ≤ i ∧ i < n) ∧ Need ((0 : Int) ≤ i ∧ i < ↑l.length) ∧ ∀ (x1 : Int), x1 = l.getD i.toNat (0 : Int) → InR IntKind.i64 x1 → Need ((0 : Int) ≤ i ∧ i < k) ∧ Need ((0 : Int) ≤ i ∧ i < ↑m.length) ∧ ∀ (x2 : Int), x2 = m.getD i.toNat (0 : Int) → InR IntKind.i64 x2 → ((x1 != x2) = true → K (SV.b true false)) ∧ ((x1 != x2) = false → ∀ (x3 : Int), x3 = IntKind.i64.wrap (i + (1 : Int)) → InR IntKind.i64 x3 → Same Tryd.f30 (4 : Nat) (itemsOf Tryd.f30 (4 : Nat)) ∧ Q (4 : Nat) [Pv.z n, Pv.z k, Pv.z x3, Pv.l l, Pv.l m])) ∧ (decide (i < n) = false → K (SV.b true true))) := by
  intros
  kernel_rfl

def intsS : List RA → Option (List Prop × SV)
  | [.c (.ints .i64 l), .c (.ints .i64 m)] => some ([], .b false (l == m))
  | _ => none
def inv30 (l m : List Int) (key : Nat) (ps : List Pv) (n : Nat) : Prop :=
  key = 4 ∧ ∃ i : Nat, ps = [.z (l.length : Int), .z (m.length : Int), .z (i : Int), .l l, .l m] ∧ l.length = m.length ∧ n + i = l.length ∧ (l == m) = (l.drop i == m.drop i)

theorem ints_ok : CallOk Tryd.prog gh 30 (readCtr [true, true] intsS) := by
  refine call_read (fn := Tryd.f30) Γ20_ok rfl (fun g hg => by simp [Γ20, gh, keysOf] at hg; omega) (by kernel_rfl) (by kernel_rfl) (by kernel_rfl) [true, true] intsS fun ras p y hs hp hv hq => ?_
  unfold intsS at hs
  split at hs
  · rename_i l m
    simp only [Option.some.injEq, Prod.mk.injEq] at hs
    obtain ⟨rfl, rfl⟩ := hs
    have hlen : (l.length : Int) < 9223372036854775808 := (hq (.ints .i64 l) (by simp)).2
    have hlen' : (m.length : Int) < 9223372036854775808 := (hq (.ints .i64 m) (by simp)).2
    refine ⟨[.sl 500 0 1 ⟨true, 0⟩ ⟨false, (l.length : Int)⟩, .sl 501 0 1 ⟨true, 0⟩ ⟨false, (m.length : Int)⟩], L30, inv30 l m, ⟨rfl, rfl, trivial⟩, Nat.le_of_ble_eq_true (by kernel_rfl), ?_, ?_, ?_⟩
    · intro k t ht g hg
      simp only [L30, List.mem_singleton, Prod.mk.injEq] at ht
      obtain ⟨rfl, rfl⟩ := ht
      have hg : g ∈ [0, 500, 501] := hg
      simp only [List.mem_cons, List.not_mem_nil, or_false] at hg
      rcases hg with rfl | rfl | rfl <;> exact ⟨by omega, rfl⟩
    · rintro key ps n ⟨rfl, i, rfl, hlm, hn, hd⟩
      show lc30 (l.length : Int) (m.length : Int) (i : Int) l m _ _
      rw [lc30_eq]
      refine ⟨fun h => ?_, fun h => ?_⟩
      · have h := of_decide_eq_true h
        have hi : i < l.length := by omega
        have hi' : i < m.length := by omega
        refine ⟨need_of (by omega), need_of (by omega), fun x1 e1 _ => ⟨need_of (by omega), need_of (by omega), fun x2 e2 _ => ?_⟩⟩
        have f1 : x1 = l[i] := by rw [e1]; simp [hi]
        have f2 : x2 = m[i] := by rw [e2]; simp [hi']
        rw [List.drop_eq_getElem_cons hi, List.drop_eq_getElem_cons hi', ← f1, ← f2] at hd
        refine ⟨fun hne => ?_, fun heq => ?_⟩
        · have hne : ¬ x1 = x2 := by simpa using hne
          show false = (l == m)
          rw [hd]; simp [hne]
        · have heq : x1 = x2 := by simpa using heq
          intro x3 e3 _
          refine ⟨rfl, n - 1, by omega, rfl, i + 1, ?_, hlm, by omega, ?_⟩
          · rw [e3, wrap_i64 (by omega)]; rfl
          · rw [hd]; simp [heq]
      · have h := of_decide_eq_false h
        show true = (l == m)
        rw [hd, List.drop_eq_nil_of_le (by omega), List.drop_eq_nil_of_le (by omega)]; rfl
    · show vc30 l m _ _
      rw [vc30_eq]
      refine ⟨fun h => ?_, fun h => ?_⟩
      · have hne : ¬ (l.length : Int) = m.length := by simpa using h
        show false = (l == m)
        symm
        rw [beq_eq_false_iff_ne]
        intro e; rw [e] at hne; exact hne rfl
      · have he : (l.length : Int) = m.length := by simpa using h
        exact ⟨rfl, l.length, rfl, 0, rfl, by omega, by omega, rfl⟩
  · cases hs

/-- One limb of a sum by halves. -/
theorem limb {a p c x5 x6 x7 x8 x9 x10 x11 x12 x13 x14 x15 x16 x17 : Int} (ha : InR .u64 a) (hp : InR .u64 p) (hc : 0 ≤ c ∧ c ≤ 1) (e5 : x5 = andI .u64 a 4294967295) (e6 : x6 = andI .u64 p 4294967295) (e7 : x7 = IntKind.u64.wrap (x5 + x6)) (e8 : x8 = IntKind.u64.wrap (x7 + c)) (r8 : InR .u64 x8)
    (e9 : x9 = shrI .u64 a 32) (e10 : x10 = shrI .u64 p 32) (e11 : x11 = IntKind.u64.wrap (x9 + x10)) (e12 : x12 = shrI .u64 x8 32) (e13 : x13 = IntKind.u64.wrap (x11 + x12)) (e14 : x14 = andI .u64 x8 4294967295) (r14 : InR .u64 x14) (e15 : x15 = shlI .u64 x13 32) (r15 : InR .u64 x15) (e16 : x16 = orI .u64 x14 x15) (e17 : x17 = shrI .u64 x13 32) :
    a + p + c = x16 + 18446744073709551616 * x17 ∧ 0 ≤ x17 ∧ x17 ≤ 1 := by
  rw [and32 ha] at e5
  rw [and32 hp] at e6
  rw [and32 r8] at e14
  rw [shr32] at e9 e10 e12 e17
  rw [wrap_u64] at e7 e8 e11 e13
  rw [shl32] at e15
  have hz : x15 = x13 % 4294967296 * 4294967296 := by rw [e15]; omega
  have h14 : x14 < 4294967296 := by omega
  rw [orI_comm] at e16
  rw [or32 r15 r14 hz h14] at e16
  simp only [InR] at ha hp
  omega

def vc67 (a0 a1 a2 a3 : Int) (K : SV → Prop) (Q : Nat → List Pv → Prop) : Prop := fnVc Γ20 Tryd.f67 [] [.arr .u64 4 true [a0, a1, a2, a3]] gh K Q
theorem vc67_eq : ∀ (a0 a1 a2 a3 : Int) (K : SV → Prop) (Q : Nat → List Pv → Prop), vc67 a0 a1 a2 a3 K Q = ∀ (x1 : Int), x1 = (6346243789798364141 : Int) → InR IntKind.u64 x1 → ∀ (x2 : Int), x2 = (1503914060200516822 : Int) → InR IntKind.u64 x2 → ∀ (x3 : Int), x3 = (0 : Int) → InR IntKind.u64 x3 → ∀ (x4 : Int), x4 = (1152921504606846976 : Int) → InR IntKind.u64 x4 → ∀ (x5 : Int), x5 = andI IntKind.u64 a0 (4294967295 : Int) → InR IntKind.u64 x5 → ∀ (x6 : Int), x6 = andI IntKind.u64 x1 (4294967295 : Int) → InR IntKind.u64 x6 → ∀ (x7 : Int), x7 = IntKind.u64.wrap (x5 + x6) → InR IntKind.u64 x7 → ∀ (x8 : Int), x8 = IntKind.u64.wrap (x7 + (0 : Int)) → InR IntKind.u64 x8 → ∀ (x9 : Int), x9 = shrI IntKind.u64 a0 (32 : Int) → InR IntKind.u64 x9 → ∀ (x10 : Int), x10 = shrI IntKind.u64 x1 (32 : Int) → InR IntKind.u64 x10 → ∀ (x11 : Int), x11 = IntKind.u64.wrap (x9 + x10) → InR IntKind.u64 x11 → ∀ (x12 : Int), x12 = shrI IntKind.u64 x8 (32 : Int) → InR IntKind.u64 x12 → ∀ (x13 : Int), x13 = IntKind.u64.wrap (x11 + x12) → InR IntKind.u64 x13 → ∀ (x14 : Int), x14 = andI IntKind.u64 x8 (4294967295 : Int) → InR IntKind.u64 x14 → ∀ (x15 : Int), x15 = shlI IntKind.u64 x13 (32 : Int) → InR IntKind.u64 x15 → ∀ (x16 : Int), x16 = orI IntKind.u64 x14 x15 → InR IntKind.u64 x16 → ∀ (x17 : Int), x17 = shrI IntKind.u64 x13 (32 : Int) → InR IntKind.u64 x17 → ∀ (x18 : Int), x18 = andI IntKind.u64 a1 (4294967295 : Int) → InR IntKind.u64 x18 → ∀ (x19 : Int), x19 = andI IntKind.u64 x2 (4294967295 : Int) → InR IntKind.u64 x19 → ∀ (x20 : Int), x20 = IntKind.u64.wrap (x18 + x19) → InR IntKind.u64 x20 → ∀ (x21 : Int), x21 = IntKind.u64.wrap (x20 + x17) → InR IntKind.u64 x21 → ∀ (x22 : Int), x22 = shrI IntKind.u64 a1 (32 : Int) → InR IntKind.u64 x22 → ∀ (x23 : Int), x23 = shrI IntKind.u64 x2 (32 : Int) → InR IntKind.u64 x23 → ∀ (x24 : Int), x24 = IntKind.u64.wrap (x22 + x23) → InR IntKind.u64 x24 → ∀ (x25 : Int), x25 = shrI IntKind.u64 x21 (32 : Int) → InR IntKind.u64 x25 → ∀ (x26 : Int), x26 = IntKind.u64.wrap (x24 + x25) → InR IntKind.u64 x26 → ∀ (x27 : Int), x27 = andI IntKind.u64 x21 (4294967295 : Int) → InR IntKind.u64 x27 → ∀ (x28 : Int), x28 = shlI IntKind.u64 x26 (32 : Int) → InR IntKind.u64 x28 → ∀ (x29 : Int), x29 = orI IntKind.u64 x27 x28 → InR IntKind.u64 x29 → ∀ (x30 : Int), x30 = shrI IntKind.u64 x26 (32 : Int) → InR IntKind.u64 x30 → ∀ (x31 : Int), x31 = andI IntKind.u64 a2 (4294967295 : Int) → InR IntKind.u64 x31 → ∀ (x32 : Int), x32 = andI IntKind.u64 x3 (4294967295 : Int) → InR IntKind.u64 x32 → ∀ (x33 : Int), x33 = IntKind.u64.wrap (x31 + x32) → InR IntKind.u64 x33 → ∀ (x34 : Int), x34 = IntKind.u64.wrap (x33 + x30) → InR IntKind.u64 x34 → ∀ (x35 : Int), x35 = shrI IntKind.u64 a2 (32 : Int) → InR IntKind.u64 x35 → ∀ (x36 : Int), x36 = shrI IntKind.u64 x3 (32 : Int) → InR IntKind.u64 x36 → ∀ (x37 : Int), x37 = IntKind.u64.wrap (x35 + x36) → InR IntKind.u64 x37 → ∀ (x38 : Int), x38 = shrI IntKind.u64 x34 (32 : Int) → InR IntKind.u64 x38 → ∀ (x39 : Int), x39 = IntKind.u64.wrap (x37 + x38) → InR IntKind.u64 x39 → ∀ (x40 : Int), x40 = andI IntKind.u64 x34 (4294967295 : Int) → InR IntKind.u64 x40 → ∀ (x41 : Int), x41 = shlI IntKind.u64 x39 (32 : Int) → InR IntKind.u64 x41 → ∀ (x42 : Int), x42 = orI IntKind.u64 x40 x41 → InR IntKind.u64 x42 → ∀ (x43 : Int), x43 = shrI IntKind.u64 x39 (32 : Int) → InR IntKind.u64 x43 → ∀ (x44 : Int), x44 = andI IntKind.u64 a3 (4294967295 : Int) → InR IntKind.u64 x44 → ∀ (x45 : Int), x45 = andI IntKind.u64 x4 (4294967295 : Int) → InR IntKind.u64 x45 → ∀ (x46 : Int), x46 = IntKind.u64.wrap (x44 + x45) → InR IntKind.u64 x46 → ∀ (x47 : Int), x47 = IntKind.u64.wrap (x46 + x43) → InR IntKind.u64 x47 → ∀ (x48 : Int), x48 = shrI IntKind.u64 a3 (32 : Int) → InR IntKind.u64 x48 → ∀ (x49 : Int), x49 = shrI IntKind.u64 x4 (32 : Int) → InR IntKind.u64 x49 → ∀ (x50 : Int), x50 = IntKind.u64.wrap (x48 + x49) → InR IntKind.u64 x50 → ∀ (x51 : Int), x51 = shrI IntKind.u64 x47 (32 : Int) → InR IntKind.u64 x51 → ∀ (x52 : Int), x52 = IntKind.u64.wrap (x50 + x51) → InR IntKind.u64 x52 → ∀ (x53 : Int), x53 = andI IntKind.u64 x47 (4294967295 : Int) → InR IntKind.u64 x53 → ∀ (x54 : Int), x54 = shlI IntKind.u64 x52 (32 : Int) → InR IntKind.u64 x54 → ∀ (x55 : Int), x55 = orI IntKind.u64 x53 x54 → InR IntKind.u64 x55 → ∀ (x56 : Int), x56 = shrI IntKind.u64 x52 (32 : Int) → InR IntKind.u64 x56 → K (SV.tup [SV.arr IntKind.u64 (4 : Nat) true [x16, x29, x42, x55], SV.b false (x56 == (0 : Int))]) := by
  intros
  kernel_rfl

def carriedS : List SV → Option (List Prop × SV)
  | [.arr .u64 4 _ aL] => some ([], .tup [.arr .u64 4 true (words4 (val4 aL + ell)), .b false (decide (val4 aL + ell < 115792089237316195423570985008687907853269984665640564039457584007913129639936))])
  | _ => none

set_option maxHeartbeats 1000000 in
theorem carried_ok : CallOk Tryd.prog gh 67 (pureCtr carriedS) := by
  refine call_pure (fn := Tryd.f67) Γ20_ok rfl (by kernel_rfl) (by kernel_rfl) (by kernel_rfl) carriedS fun args P0 Y0 hs hp hf => ?_
  unfold carriedS at hs
  split at hs
  · rename_i ea aL
    simp only [Option.some.injEq, Prod.mk.injEq] at hs
    obtain ⟨rfl, rfl⟩ := hs
    simp only [FactVs, FactV] at hf
    obtain ⟨⟨hal, ha⟩, _⟩ := hf
    obtain ⟨a0, a1, a2, a3, rfl⟩ := len4 hal
    have ia0 := ha a0 (by simp); have ia1 := ha a1 (by simp); have ia2 := ha a2 (by simp); have ia3 := ha a3 (by simp)
    refine ⟨[.arr .u64 4 true [a0, a1, a2, a3]], [], _, ⟨rfl, trivial⟩, Nat.le_of_ble_eq_true (by kernel_rfl), vc_noloops ?_⟩
    show vc67 a0 a1 a2 a3 _ _
    rw [vc67_eq]
    intro x1 e1 r1 x2 e2 r2 x3 e3 r3 x4 e4 r4
    intro x5 e5 r5 x6 e6 r6 x7 e7 r7 x8 e8 r8 x9 e9 r9 x10 e10 r10 x11 e11 r11 x12 e12 r12 x13 e13 r13 x14 e14 r14 x15 e15 r15 x16 e16 r16 x17 e17 r17
    have s0 := limb (c := 0) ia0 r1 ⟨by omega, by omega⟩ e5 e6 e7 e8 r8 e9 e10 e11 e12 e13 e14 r14 e15 r15 e16 e17
    intro x18 e18 r18 x19 e19 r19 x20 e20 r20 x21 e21 r21 x22 e22 r22 x23 e23 r23 x24 e24 r24 x25 e25 r25 x26 e26 r26 x27 e27 r27 x28 e28 r28 x29 e29 r29 x30 e30 r30
    have s1 := limb ia1 r2 s0.2 e18 e19 e20 e21 r21 e22 e23 e24 e25 e26 e27 r27 e28 r28 e29 e30
    intro x31 e31 r31 x32 e32 r32 x33 e33 r33 x34 e34 r34 x35 e35 r35 x36 e36 r36 x37 e37 r37 x38 e38 r38 x39 e39 r39 x40 e40 r40 x41 e41 r41 x42 e42 r42 x43 e43 r43
    have s2 := limb ia2 r3 s1.2 e31 e32 e33 e34 r34 e35 e36 e37 e38 e39 e40 r40 e41 r41 e42 e43
    intro x44 e44 r44 x45 e45 r45 x46 e46 r46 x47 e47 r47 x48 e48 r48 x49 e49 r49 x50 e50 r50 x51 e51 r51 x52 e52 r52 x53 e53 r53 x54 e54 r54 x55 e55 r55 x56 e56 r56
    have s3 := limb ia3 r4 s2.2 e44 e45 e46 e47 r47 e48 e49 e50 e51 e52 e53 r53 e54 r54 e55 e56
    have hs : val4 [x16, x29, x42, x55] + 115792089237316195423570985008687907853269984665640564039457584007913129639936 * x56 = val4 [a0, a1, a2, a3] + ell := by
      have t0 := s0.1; have t1 := s1.1; have t2 := s2.1; have t3 := s3.1
      rw [ell_lit]
      simp only [val4]
      clear s0 s1 s2 s3
      omega
    have hv := val_pos r16 r29 r42 r55
    refine ⟨?_, ?_, trivial⟩
    · show [x16, x29, x42, x55] = words4 (val4 [a0, a1, a2, a3] + ell)
      rw [← hs]
      refine Eq.trans (words_val r16 r29 r42 r55).symm ?_
      generalize val4 [x16, x29, x42, x55] = V
      simp only [words4, w0, w1, w2, w3, List.cons.injEq, and_true]
      refine ⟨?_, ?_, ?_, ?_⟩ <;> omega
    · show (x56 == 0) = decide (val4 [a0, a1, a2, a3] + ell < 115792089237316195423570985008687907853269984665640564039457584007913129639936)
      rw [← hs, Bool.eq_iff_iff, beq_iff_eq, decide_eq_true_eq]
      have h3 := s3.2
      generalize val4 [x16, x29, x42, x55] = V at *
      clear s0 s1 s2 s3 hs
      omega
  · cases hs

def Γ21 : Tab := ⟨tys, [(30, readCtr [true, true] intsS), (67, pureCtr carriedS)] ++ Γ20.ctr, [0], gh⟩
theorem Γ21_ok : TabOk Tryd.prog Γ21 := (Γ20_ok.cons carried_ok).cons ints_ok
end Go.Gx

/- Of ScalarAny, for every input and in every world that holds the program's table as its text lays it: the call returns true, its arguments read as before and nothing else old has turned. No condition besides. -/
namespace Go.Gx
open Go.Proofs Go.Sp Go.RowKit
open Go.Sp (prI mlL adL sbL pwL halfI invL)
set_option linter.unusedVariables false

def L16 : Loops := [(7, ⟨[.any, .any, .i .i64 ⟨false, 0⟩, .any, .any, .any, .any, .p 1006 0, .p 1009 0, .p 1016 0, .b false false, .i .i64 ⟨false, 0⟩] ++ reps .any 166, gh ++ [(1006, .segs false [.arr .u64 4 false []]), (1009, .segs false [.arr .u64 4 false []]), (1016, .segs false [.arr .u64 4 false []])], 1020⟩)]
def vc16 (a0 a1 a2 a3 b0 b1 b2 b3 x : Int) (K : SV → Prop) (Q : Nat → List Pv → Prop) : Prop := fnVc Γ21 Tryd.f16 L16 [.arr .u64 4 true [a0, a1, a2, a3], .arr .u64 4 true [b0, b1, b2, b3], .i .i64 ⟨false, x⟩] gh K Q
def lc16 (w i : Int) (ok : Bool) (x y m : List Int) (K : SV → Prop) (Q : Nat → List Pv → Prop) : Prop := loopVc Γ21 Tryd.f16 L16 7 [.z w, .b ok, .z i, .l x, .l y, .l m] K Q
set_option maxHeartbeats 4000000 in
set_option maxRecDepth 100000 in
theorem vc16_eq : ∀ (a0 a1 a2 a3 b0 b1 b2 b3 x : Int) (K : SV → Prop) (Q : Nat → List Pv → Prop), vc16 a0 a1 a2 a3 b0 b1 b2 b3 x K Q = ∀ (x1 : Bool), x1 = true → ((!x1) = true → K (SV.b true false)) ∧ ((!x1) = false → ∀ (x2 : Int), x2 = w0 (val4 [a0, a1, a2, a3] + (7237005577332262213973186563042994240857116359379907606001950938285454250989 : Int)) → InR IntKind.u64 x2 → ∀ (x3 : Int), x3 = w1 (val4 [a0, a1, a2, a3] + (7237005577332262213973186563042994240857116359379907606001950938285454250989 : Int)) → InR IntKind.u64 x3 → ∀ (x4 : Int), x4 = w2 (val4 [a0, a1, a2, a3] + (7237005577332262213973186563042994240857116359379907606001950938285454250989 : Int)) → InR IntKind.u64 x4 → ∀ (x5 : Int), x5 = w3 (val4 [a0, a1, a2, a3] + (7237005577332262213973186563042994240857116359379907606001950938285454250989 : Int)) → InR IntKind.u64 x5 → ∀ (x6 : Bool), x6 = decide (val4 [a0, a1, a2, a3] + (7237005577332262213973186563042994240857116359379907606001950938285454250989 : Int) < (115792089237316195423570985008687907853269984665640564039457584007913129639936 : Int)) → Same Tryd.f16 (7 : Nat) (itemsOf Tryd.f16 (7 : Nat)) ∧ Q (7 : Nat) [Pv.z x, Pv.b x6, Pv.z (0 : Int), Pv.l [a0, a1, a2, a3], Pv.l [b0, b1, b2, b3], Pv.l [x2, x3, x4, x5]]) := by
  intros
  kernel_rfl
set_option maxHeartbeats 4000000 in
set_option maxRecDepth 100000 in
theorem lc16_eq : ∀ (w i : Int) (ok : Bool) (x y m : List Int) (K : SV → Prop) (Q : Nat → List Pv → Prop), lc16 w i ok x y m K Q = ((ok = true → (decide (i < (16 : Int)) = true → ∀ (x1 : List Int), x1 = nafL (val4 x % (7237005577332262213973186563042994240857116359379907606001950938285454250989 : Int)) w → AllR IntKind.i64 x1 → ∀ (x2 : Int), x2 = ↑(nafL (val4 x % (7237005577332262213973186563042994240857116359379907606001950938285454250989 : Int)) w).length → (0 : Int) ≤ x2 → InR IntKind.i64 x2 → ∀ (x3 : Int), x3 = nafE w → InR IntKind.i64 x3 → ∀ (x4 : List Int), x4 = nafL (val4 m % (7237005577332262213973186563042994240857116359379907606001950938285454250989 : Int)) w → AllR IntKind.i64 x4 → ∀ (x5 : Int), x5 = ↑(nafL (val4 m % (7237005577332262213973186563042994240857116359379907606001950938285454250989 : Int)) w).length → (0 : Int) ≤ x5 → InR IntKind.i64 x5 → ∀ (x6 : Int), x6 = nafE w → InR IntKind.i64 x6 → ∀ (x7 : List Int), x7 = digL (val4 x % (7237005577332262213973186563042994240857116359379907606001950938285454250989 : Int)) w → AllR IntKind.i64 x7 → ∀ (x8 : Int), x8 = ↑(digL (val4 x % (7237005577332262213973186563042994240857116359379907606001950938285454250989 : Int)) w).length → (0 : Int) ≤ x8 → InR IntKind.i64 x8 → ∀ (x9 : Int), x9 = digE w → InR IntKind.i64 x9 → ∀ (x10 : List Int), x10 = digL (val4 m % (7237005577332262213973186563042994240857116359379907606001950938285454250989 : Int)) w → AllR IntKind.i64 x10 → ∀ (x11 : Int), x11 = ↑(digL (val4 m % (7237005577332262213973186563042994240857116359379907606001950938285454250989 : Int)) w).length → (0 : Int) ≤ x11 → InR IntKind.i64 x11 → ∀ (x12 : Int), x12 = digE w → InR IntKind.i64 x12 → ((x3 != x6) = true → K (SV.b true false)) ∧ ((x3 != x6) = false → ((x9 != x12) = true → K (SV.b true false)) ∧ ((x9 != x12) = false → Need ((0 : Int) + x2 ≤ ↑x1.length) ∧ Need ((0 : Int) + x5 ≤ ↑x4.length) ∧ ∀ (x13 : Bool), x13 = (List.take x2.toNat (List.drop (0 : Nat) x1) == List.take x5.toNat (List.drop (0 : Nat) x4)) → ((!x13) = true → K (SV.b true false)) ∧ ((!x13) = false → Need ((0 : Int) + x8 ≤ ↑x7.length) ∧ Need ((0 : Int) + x11 ≤ ↑x10.length) ∧ ∀ (x14 : Bool), x14 = (List.take x8.toNat (List.drop (0 : Nat) x7) == List.take x11.toNat (List.drop (0 : Nat) x10)) → ((!x14) = true → K (SV.b true false)) ∧ ((!x14) = false → ∀ (x15 : Int), x15 = w0 (adL (val4 x) (val4 y)) → InR IntKind.u64 x15 → ∀ (x16 : Int), x16 = w1 (adL (val4 x) (val4 y)) → InR IntKind.u64 x16 → ∀ (x17 : Int), x17 = w2 (adL (val4 x) (val4 y)) → InR IntKind.u64 x17 → ∀ (x18 : Int), x18 = w3 (adL (val4 x) (val4 y)) → InR IntKind.u64 x18 → ∀ (x19 : Int), x19 = w0 (adL (val4 m) (val4 y)) → InR IntKind.u64 x19 → ∀ (x20 : Int), x20 = w1 (adL (val4 m) (val4 y)) → InR IntKind.u64 x20 → ∀ (x21 : Int), x21 = w2 (adL (val4 m) (val4 y)) → InR IntKind.u64 x21 → ∀ (x22 : Int), x22 = w3 (adL (val4 m) (val4 y)) → InR IntKind.u64 x22 → ((![x15, x16, x17, x18] == [x19, x20, x21, x22]) = true → K (SV.b true false)) ∧ ((![x15, x16, x17, x18] == [x19, x20, x21, x22]) = false → ∀ (x23 : Int), x23 = w0 (sbL (val4 y) (val4 x)) → InR IntKind.u64 x23 → ∀ (x24 : Int), x24 = w1 (sbL (val4 y) (val4 x)) → InR IntKind.u64 x24 → ∀ (x25 : Int), x25 = w2 (sbL (val4 y) (val4 x)) → InR IntKind.u64 x25 → ∀ (x26 : Int), x26 = w3 (sbL (val4 y) (val4 x)) → InR IntKind.u64 x26 → ∀ (x27 : Int), x27 = w0 (sbL (val4 y) (val4 m)) → InR IntKind.u64 x27 → ∀ (x28 : Int), x28 = w1 (sbL (val4 y) (val4 m)) → InR IntKind.u64 x28 → ∀ (x29 : Int), x29 = w2 (sbL (val4 y) (val4 m)) → InR IntKind.u64 x29 → ∀ (x30 : Int), x30 = w3 (sbL (val4 y) (val4 m)) → InR IntKind.u64 x30 → ((![x23, x24, x25, x26] == [x27, x28, x29, x30]) = true → K (SV.b true false)) ∧ ((![x23, x24, x25, x26] == [x27, x28, x29, x30]) = false → ∀ (x31 : Int), x31 = w0 (mlL (val4 x) (val4 y)) → InR IntKind.u64 x31 → ∀ (x32 : Int), x32 = w1 (mlL (val4 x) (val4 y)) → InR IntKind.u64 x32 → ∀ (x33 : Int), x33 = w2 (mlL (val4 x) (val4 y)) → InR IntKind.u64 x33 → ∀ (x34 : Int), x34 = w3 (mlL (val4 x) (val4 y)) → InR IntKind.u64 x34 → ∀ (x35 : Int), x35 = w0 (mlL (val4 m) (val4 y)) → InR IntKind.u64 x35 → ∀ (x36 : Int), x36 = w1 (mlL (val4 m) (val4 y)) → InR IntKind.u64 x36 → ∀ (x37 : Int), x37 = w2 (mlL (val4 m) (val4 y)) → InR IntKind.u64 x37 → ∀ (x38 : Int), x38 = w3 (mlL (val4 m) (val4 y)) → InR IntKind.u64 x38 → ((![x31, x32, x33, x34] == [x35, x36, x37, x38]) = true → K (SV.b true false)) ∧ ((![x31, x32, x33, x34] == [x35, x36, x37, x38]) = false → ∀ (x39 : Int), x39 = w0 (invL (val4 x)) → InR IntKind.u64 x39 → ∀ (x40 : Int), x40 = w1 (invL (val4 x)) → InR IntKind.u64 x40 → ∀ (x41 : Int), x41 = w2 (invL (val4 x)) → InR IntKind.u64 x41 → ∀ (x42 : Int), x42 = w3 (invL (val4 x)) → InR IntKind.u64 x42 → ∀ (x43 : Int), x43 = w0 (invL (val4 m)) → InR IntKind.u64 x43 → ∀ (x44 : Int), x44 = w1 (invL (val4 m)) → InR IntKind.u64 x44 → ∀ (x45 : Int), x45 = w2 (invL (val4 m)) → InR IntKind.u64 x45 → ∀ (x46 : Int), x46 = w3 (invL (val4 m)) → InR IntKind.u64 x46 → ((![x39, x40, x41, x42] == [x43, x44, x45, x46]) = true → K (SV.b true false)) ∧ ((![x39, x40, x41, x42] == [x43, x44, x45, x46]) = false → ∀ (x47 : List Int), x47 = byts (val4 x % (7237005577332262213973186563042994240857116359379907606001950938285454250989 : Int)) → x47.length = (32 : Nat) → AllR IntKind.u8 x47 → ∀ (x48 : List Int), x48 = byts (val4 m % (7237005577332262213973186563042994240857116359379907606001950938285454250989 : Int)) → x48.length = (32 : Nat) → AllR IntKind.u8 x48 → ((!x47 == x48) = true → K (SV.b true false)) ∧ ((!x47 == x48) = false → ∀ (x49 : Bool), x49 = decide (val4 x % (7237005577332262213973186563042994240857116359379907606001950938285454250989 : Int) = val4 m % (7237005577332262213973186563042994240857116359379907606001950938285454250989 : Int)) → ((!x49) = true → K (SV.b true false)) ∧ ((!x49) = false → ∀ (x50 : Bool), x50 = decide (val4 m % (7237005577332262213973186563042994240857116359379907606001950938285454250989 : Int) = val4 x % (7237005577332262213973186563042994240857116359379907606001950938285454250989 : Int)) → ((!x50) = true → K (SV.b true false)) ∧ ((!x50) = false → ∀ (x51 : Bool), x51 = decide (val4 x % (7237005577332262213973186563042994240857116359379907606001950938285454250989 : Int) = (0 : Int)) → ∀ (x52 : Bool), x52 = decide (val4 m % (7237005577332262213973186563042994240857116359379907606001950938285454250989 : Int) = (0 : Int)) → ((!x51 == x52) = true → K (SV.b true false)) ∧ ((!x51 == x52) = false → ∀ (x53 : Int), x53 = w0 (val4 x % (7237005577332262213973186563042994240857116359379907606001950938285454250989 : Int)) → InR IntKind.u64 x53 → ∀ (x54 : Int), x54 = w1 (val4 x % (7237005577332262213973186563042994240857116359379907606001950938285454250989 : Int)) → InR IntKind.u64 x54 → ∀ (x55 : Int), x55 = w2 (val4 x % (7237005577332262213973186563042994240857116359379907606001950938285454250989 : Int)) → InR IntKind.u64 x55 → ∀ (x56 : Int), x56 = w3 (val4 x % (7237005577332262213973186563042994240857116359379907606001950938285454250989 : Int)) → InR IntKind.u64 x56 → ∀ (x57 : Int), x57 = w0 (val4 m % (7237005577332262213973186563042994240857116359379907606001950938285454250989 : Int)) → InR IntKind.u64 x57 → ∀ (x58 : Int), x58 = w1 (val4 m % (7237005577332262213973186563042994240857116359379907606001950938285454250989 : Int)) → InR IntKind.u64 x58 → ∀ (x59 : Int), x59 = w2 (val4 m % (7237005577332262213973186563042994240857116359379907606001950938285454250989 : Int)) → InR IntKind.u64 x59 → ∀ (x60 : Int), x60 = w3 (val4 m % (7237005577332262213973186563042994240857116359379907606001950938285454250989 : Int)) → InR IntKind.u64 x60 → ((![x53, x54, x55, x56] == [x57, x58, x59, x60]) = true → K (SV.b true false)) ∧ ((![x53, x54, x55, x56] == [x57, x58, x59, x60]) = false → ∀ (x61 : Int), x61 = w0 (sbL (0 : Int) (val4 x)) → InR IntKind.u64 x61 → ∀ (x62 : Int), x62 = w1 (sbL (0 : Int) (val4 x)) → InR IntKind.u64 x62 → ∀ (x63 : Int), x63 = w2 (sbL (0 : Int) (val4 x)) → InR IntKind.u64 x63 → ∀ (x64 : Int), x64 = w3 (sbL (0 : Int) (val4 x)) → InR IntKind.u64 x64 → ∀ (x65 : Int), x65 = w0 (sbL (0 : Int) (val4 m)) → InR IntKind.u64 x65 → ∀ (x66 : Int), x66 = w1 (sbL (0 : Int) (val4 m)) → InR IntKind.u64 x66 → ∀ (x67 : Int), x67 = w2 (sbL (0 : Int) (val4 m)) → InR IntKind.u64 x67 → ∀ (x68 : Int), x68 = w3 (sbL (0 : Int) (val4 m)) → InR IntKind.u64 x68 → ((![x61, x62, x63, x64] == [x65, x66, x67, x68]) = true → K (SV.b true false)) ∧ ((![x61, x62, x63, x64] == [x65, x66, x67, x68]) = false → ∀ (x69 : Int), x69 = bitI (val4 x % (7237005577332262213973186563042994240857116359379907606001950938285454250989 : Int)) w → InR IntKind.i64 x69 → ∀ (x70 : Int), x70 = bitI (val4 m % (7237005577332262213973186563042994240857116359379907606001950938285454250989 : Int)) w → InR IntKind.i64 x70 → ((x69 != x70) = true → K (SV.b true false)) ∧ ((x69 != x70) = false → ∀ (x71 : Int), x71 = w0 (val4 m + (7237005577332262213973186563042994240857116359379907606001950938285454250989 : Int)) → InR IntKind.u64 x71 → ∀ (x72 : Int), x72 = w1 (val4 m + (7237005577332262213973186563042994240857116359379907606001950938285454250989 : Int)) → InR IntKind.u64 x72 → ∀ (x73 : Int), x73 = w2 (val4 m + (7237005577332262213973186563042994240857116359379907606001950938285454250989 : Int)) → InR IntKind.u64 x73 → ∀ (x74 : Int), x74 = w3 (val4 m + (7237005577332262213973186563042994240857116359379907606001950938285454250989 : Int)) → InR IntKind.u64 x74 → ∀ (x75 : Bool), x75 = decide (val4 m + (7237005577332262213973186563042994240857116359379907606001950938285454250989 : Int) < (115792089237316195423570985008687907853269984665640564039457584007913129639936 : Int)) → ∀ (x76 : Int), x76 = IntKind.i64.wrap (i + (1 : Int)) → InR IntKind.i64 x76 → Same Tryd.f16 (7 : Nat) (itemsOf Tryd.f16 (7 : Nat)) ∧ Q (7 : Nat) [Pv.z w, Pv.b x75, Pv.z x76, Pv.l x, Pv.l y, Pv.l [x71, x72, x73, x74]])))))))))))))))) ∧ (decide (i < (16 : Int)) = false → ∀ (x77 : Int), x77 = w0 (val4 x % (7237005577332262213973186563042994240857116359379907606001950938285454250989 : Int)) → InR IntKind.u64 x77 → ∀ (x78 : Int), x78 = w1 (val4 x % (7237005577332262213973186563042994240857116359379907606001950938285454250989 : Int)) → InR IntKind.u64 x78 → ∀ (x79 : Int), x79 = w2 (val4 x % (7237005577332262213973186563042994240857116359379907606001950938285454250989 : Int)) → InR IntKind.u64 x79 → ∀ (x80 : Int), x80 = w3 (val4 x % (7237005577332262213973186563042994240857116359379907606001950938285454250989 : Int)) → InR IntKind.u64 x80 → ∀ (x81 : Int), x81 = w0 (val4 x % (7237005577332262213973186563042994240857116359379907606001950938285454250989 : Int)) → InR IntKind.u64 x81 → ∀ (x82 : Int), x82 = w1 (val4 x % (7237005577332262213973186563042994240857116359379907606001950938285454250989 : Int)) → InR IntKind.u64 x82 → ∀ (x83 : Int), x83 = w2 (val4 x % (7237005577332262213973186563042994240857116359379907606001950938285454250989 : Int)) → InR IntKind.u64 x83 → ∀ (x84 : Int), x84 = w3 (val4 x % (7237005577332262213973186563042994240857116359379907606001950938285454250989 : Int)) → InR IntKind.u64 x84 → ∀ (x85 : Int), x85 = w0 (val4 [x81, x82, x83, x84] % (7237005577332262213973186563042994240857116359379907606001950938285454250989 : Int)) → InR IntKind.u64 x85 → ∀ (x86 : Int), x86 = w1 (val4 [x81, x82, x83, x84] % (7237005577332262213973186563042994240857116359379907606001950938285454250989 : Int)) → InR IntKind.u64 x86 → ∀ (x87 : Int), x87 = w2 (val4 [x81, x82, x83, x84] % (7237005577332262213973186563042994240857116359379907606001950938285454250989 : Int)) → InR IntKind.u64 x87 → ∀ (x88 : Int), x88 = w3 (val4 [x81, x82, x83, x84] % (7237005577332262213973186563042994240857116359379907606001950938285454250989 : Int)) → InR IntKind.u64 x88 → (([x77, x78, x79, x80] == [x85, x86, x87, x88]) = true → ∀ (x89 : Int), x89 = (6346243789798364141 : Int) → InR IntKind.u64 x89 → ∀ (x90 : Int), x90 = (1503914060200516822 : Int) → InR IntKind.u64 x90 → ∀ (x91 : Int), x91 = (0 : Int) → InR IntKind.u64 x91 → ∀ (x92 : Int), x92 = (1152921504606846976 : Int) → InR IntKind.u64 x92 → ∀ (x93 : Bool), x93 = decide (val4 [x89, x90, x91, x92] % (7237005577332262213973186563042994240857116359379907606001950938285454250989 : Int) = (0 : Int)) → K (SV.b false x93)) ∧ (([x77, x78, x79, x80] == [x85, x86, x87, x88]) = false → K (SV.b true false)))) ∧ (ok = false → ∀ (x94 : Int), x94 = w0 (val4 x % (7237005577332262213973186563042994240857116359379907606001950938285454250989 : Int)) → InR IntKind.u64 x94 → ∀ (x95 : Int), x95 = w1 (val4 x % (7237005577332262213973186563042994240857116359379907606001950938285454250989 : Int)) → InR IntKind.u64 x95 → ∀ (x96 : Int), x96 = w2 (val4 x % (7237005577332262213973186563042994240857116359379907606001950938285454250989 : Int)) → InR IntKind.u64 x96 → ∀ (x97 : Int), x97 = w3 (val4 x % (7237005577332262213973186563042994240857116359379907606001950938285454250989 : Int)) → InR IntKind.u64 x97 → ∀ (x98 : Int), x98 = w0 (val4 x % (7237005577332262213973186563042994240857116359379907606001950938285454250989 : Int)) → InR IntKind.u64 x98 → ∀ (x99 : Int), x99 = w1 (val4 x % (7237005577332262213973186563042994240857116359379907606001950938285454250989 : Int)) → InR IntKind.u64 x99 → ∀ (x100 : Int), x100 = w2 (val4 x % (7237005577332262213973186563042994240857116359379907606001950938285454250989 : Int)) → InR IntKind.u64 x100 → ∀ (x101 : Int), x101 = w3 (val4 x % (7237005577332262213973186563042994240857116359379907606001950938285454250989 : Int)) → InR IntKind.u64 x101 → ∀ (x102 : Int), x102 = w0 (val4 [x98, x99, x100, x101] % (7237005577332262213973186563042994240857116359379907606001950938285454250989 : Int)) → InR IntKind.u64 x102 → ∀ (x103 : Int), x103 = w1 (val4 [x98, x99, x100, x101] % (7237005577332262213973186563042994240857116359379907606001950938285454250989 : Int)) → InR IntKind.u64 x103 → ∀ (x104 : Int), x104 = w2 (val4 [x98, x99, x100, x101] % (7237005577332262213973186563042994240857116359379907606001950938285454250989 : Int)) → InR IntKind.u64 x104 → ∀ (x105 : Int), x105 = w3 (val4 [x98, x99, x100, x101] % (7237005577332262213973186563042994240857116359379907606001950938285454250989 : Int)) → InR IntKind.u64 x105 → (([x94, x95, x96, x97] == [x102, x103, x104, x105]) = true → ∀ (x106 : Int), x106 = (6346243789798364141 : Int) → InR IntKind.u64 x106 → ∀ (x107 : Int), x107 = (1503914060200516822 : Int) → InR IntKind.u64 x107 → ∀ (x108 : Int), x108 = (0 : Int) → InR IntKind.u64 x108 → ∀ (x109 : Int), x109 = (1152921504606846976 : Int) → InR IntKind.u64 x109 → ∀ (x110 : Bool), x110 = decide (val4 [x106, x107, x108, x109] % (7237005577332262213973186563042994240857116359379907606001950938285454250989 : Int) = (0 : Int)) → K (SV.b false x110)) ∧ (([x94, x95, x96, x97] == [x102, x103, x104, x105]) = false → K (SV.b true false)))) := by
  intros
  kernel_rfl
theorem vR (n : Int) : val4 [w0 n, w1 n, w2 n, w3 n] = n % 115792089237316195423570985008687907853269984665640564039457584007913129639936 := val_of rfl rfl rfl rfl
theorem in_R {n : Int} (h : 0 ≤ n ∧ n < ell) : n % 115792089237316195423570985008687907853269984665640564039457584007913129639936 = n := Int.emod_eq_of_lt h.1 (lt_r h.2)
theorem ad_R (a b : Int) : adL a b % 115792089237316195423570985008687907853269984665640564039457584007913129639936 = adL a b := in_R (add_bd _ _)
theorem sb_R (a b : Int) : sbL a b % 115792089237316195423570985008687907853269984665640564039457584007913129639936 = sbL a b := in_R (sub_bd _ _)
theorem ml_R (a b : Int) : mlL a b % 115792089237316195423570985008687907853269984665640564039457584007913129639936 = mlL a b := in_R (mul_bd _ _)
theorem pw_R (a b : Int) : pwL a b % 115792089237316195423570985008687907853269984665640564039457584007913129639936 = pwL a b := in_R (pow_bd _ _)
theorem inv_bd (a : Int) : 0 ≤ invL a ∧ invL a < ell := pow_bd _ _
theorem inv_R (a : Int) : invL a % 115792089237316195423570985008687907853269984665640564039457584007913129639936 = invL a := in_R (inv_bd _)
theorem ls_R (a : Int) : a % ell % 115792089237316195423570985008687907853269984665640564039457584007913129639936 = a % ell := in_R (mod_bd _)
theorem w1_in (n : Int) : InR .u64 (w1 n) := by unfold w1; simp only [InR]; omega
theorem w2_in (n : Int) : InR .u64 (w2 n) := by unfold w2; simp only [InR]; omega
theorem w3_in (n : Int) : InR .u64 (w3 n) := by unfold w3; simp only [InR]; omega
theorem beq_w (m n : Int) : ([w0 m, w1 m, w2 m, w3 m] == [w0 n, w1 n, w2 n, w3 n]) = decide (m % 115792089237316195423570985008687907853269984665640564039457584007913129639936 = n % 115792089237316195423570985008687907853269984665640564039457584007913129639936) := by
  have key : ([w0 m, w1 m, w2 m, w3 m] = [w0 n, w1 n, w2 n, w3 n]) ↔ m % 115792089237316195423570985008687907853269984665640564039457584007913129639936 = n % 115792089237316195423570985008687907853269984665640564039457584007913129639936 := by
    simp only [List.cons.injEq, and_true, w0, w1, w2, w3]
    omega
  rw [Bool.eq_iff_iff, beq_iff_eq, decide_eq_true_eq, key]
theorem beq_0 (m : Int) : ([w0 m, w1 m, w2 m, w3 m] == [0, 0, 0, 0]) = decide (m % 115792089237316195423570985008687907853269984665640564039457584007913129639936 = 0) := beq_w m 0
theorem beq_1 (m : Int) : ([w0 m, w1 m, w2 m, w3 m] == [1, 0, 0, 0]) = decide (m % 115792089237316195423570985008687907853269984665640564039457584007913129639936 = 1) := beq_w m 1
theorem no_b (e : Bool) : (∃ e' : Bool, SV.b e false = SV.b e' true) ↔ False := by simp
theorem yes_b (e : Bool) : (∃ e' : Bool, SV.b e true = SV.b e' true) ↔ True := by simp


theorem ad_cong {a b : Int} (h : a % ell = b % ell) (c : Int) : adL a c = adL b c := by rw [← add_ell1 a, ← add_ell1 b, h]
theorem sb_cong {a b : Int} (h : a % ell = b % ell) (c : Int) : sbL c a = sbL c b := by rw [← sub_ell c a, ← sub_ell c b, h]
theorem ml_cong {a b : Int} (h : a % ell = b % ell) (c : Int) : mlL a c = mlL b c := by rw [← mul_ell a c, ← mul_ell b c, h]
theorem inv_cong {a b : Int} (h : a % ell = b % ell) : invL a = invL b := by
  have : ∀ x, invL (x % ell) = invL x := fun x => pow_mod _ _
  rw [← this a, ← this b, h]

set_option maxHeartbeats 4000000 in
set_option maxRecDepth 100000 in
/-- One round of the law, or its end. -/
theorem round16 {w i : Int} {ok : Bool} {x y m : List Int} {Q : Nat → List Pv → Prop} (hi : 0 ≤ i ∧ i ≤ 16) (hm : ok = true → val4 m % ell = val4 x % ell)
    (h : i < 16 → ok = true → Q 7 [.z w, .b (decide (val4 m + ell < 115792089237316195423570985008687907853269984665640564039457584007913129639936)), .z (i + 1), .l x, .l y, .l (words4 (val4 m + ell))]) : lc16 w i ok x y m (fun x => ∃ e, x = .b e true) Q := by
  rw [lc16_eq, ← ell_lit]
  have hw : IntKind.i64.wrap (i + 1) = i + 1 := wrap_i64 (by omega)
  have hee : ∀ n : Int, n % ell % ell = n % ell := fun n => Int.emod_emod_of_dvd n (Int.dvd_refl _)
  have hp : val4 [6346243789798364141, 1503914060200516822, 0, 1152921504606846976] % ell = 0 := by decide
  refine ⟨fun hok => ?_, fun hok => ?_⟩
  · have hm := hm hok
    simp only [hm, ad_cong hm, sb_cong hm, ml_cong hm, inv_cong hm, hw]
    simp only [forall_eq, vR, w0_in, w1_in, w2_in, w3_in, true_implies, ls_R, hee, beq_w, no_b, hp]
    refine ⟨fun h16 => ?_, fun _ => ?_⟩
    · have h16 := of_decide_eq_true h16
      have hQ := h h16 hok
      simp only [words4] at hQ
      simp [Need, hQ, Same]
    · simp
  · simp only [forall_eq, vR, w0_in, w1_in, w2_in, w3_in, true_implies, ls_R, hee, beq_w, no_b, hp]
    simp

def inv16 (w : Int) (x y : List Int) (key : Nat) (ps : List Pv) (n : Nat) : Prop :=
  key = 7 ∧ ∃ i ok m, ps = [.z w, .b ok, .z i, .l x, .l y, .l m] ∧ (0 ≤ i ∧ i ≤ 16) ∧ (n : Int) = 16 - i ∧ 0 ≤ val4 m ∧ (ok = true → val4 m % ell = val4 x % ell)
theorem more_next {a A : Int} (h0 : 0 ≤ a) (hm : a % ell = A) : 0 ≤ val4 (words4 (a + ell)) ∧ (decide (a + ell < 115792089237316195423570985008687907853269984665640564039457584007913129639936) = true → val4 (words4 (a + ell)) % ell = A) := by
  have he := ell_lit
  rw [val_words]
  refine ⟨Int.emod_nonneg _ (by decide), fun h => ?_⟩
  have h := of_decide_eq_true h
  rw [Int.emod_eq_of_lt (by omega) h, Int.add_emod_right, hm]

namespace ScalarAny
set_option maxHeartbeats 4000000 in
set_option maxRecDepth 100000 in
theorem law (W : World) (hG : Glob gh W fun _ => False) (l0 : List Int) (hl0 : l0.length = 4) (hr0 : AllR .u64 l0) (l1 : List Int) (hl1 : l1.length = 4) (hr1 : AllR .u64 l1) (x : Int) (hr2 : InR .i64 x) :
    Calls Tryd.prog 16 #[.agg (l0.map (Value.int .u64)).toArray, .agg (l1.map (Value.int .u64)).toArray, .int .i64 x] W fun e w' => e = .returned (.bool true) ∧ Below W.heap.size W w' := by
  obtain ⟨a0, a1, a2, a3, rfl⟩ := len4 hl0
  have ia0 := hr0 a0 (by simp); have ia1 := hr0 a1 (by simp); have ia2 := hr0 a2 (by simp); have ia3 := hr0 a3 (by simp)
  obtain ⟨b0, b1, b2, b3, rfl⟩ := len4 hl1
  refine law_calls (f := 16) (fn := Tryd.f16) (L := L16) (inv := inv16 x [a0, a1, a2, a3] [b0, b1, b2, b3]) (args := [.arr .u64 4 true [a0, a1, a2, a3], .arr .u64 4 true [b0, b1, b2, b3], .i .i64 ⟨false, x⟩]) (vs := [.agg ([a0, a1, a2, a3].map (Value.int .u64)).toArray, .agg ([b0, b1, b2, b3].map (Value.int .u64)).toArray, .int .i64 x]) (K := fun x => ∃ e, x = .b e true)
    Γ21_ok rfl rfl ⟨?_, ?_, ?_⟩ (Nat.le_of_ble_eq_true (by kernel_rfl)) hG ⟨_, _, ⟨rfl, hr0, rfl⟩, rfl, _, _, ⟨rfl, hr1, rfl⟩, rfl, _, _, ⟨rfl, hr2⟩, rfl, rfl⟩ (fun _ h => h)
  · intro k t ht g hg
    simp only [L16, List.mem_singleton, Prod.mk.injEq] at ht
    obtain ⟨rfl, rfl⟩ := ht
    have hg : g ∈ keysOf gh := hg
    simp only [gh, keysOf, List.mem_singleton] at hg
    subst hg
    exact ⟨by omega, rfl⟩
  · rintro key ps n ⟨rfl, i, ok, m, rfl, hi, hn, h0, hm⟩
    show lc16 x i ok [a0, a1, a2, a3] [b0, b1, b2, b3] m _ _
    refine round16 hi hm fun hlt hok => ?_
    have hx := more_next h0 (hm hok)
    exact ⟨n - 1, by omega, rfl, i + 1, _, _, rfl, ⟨by omega, by omega⟩, by omega, hx.1, hx.2⟩
  · show vc16 a0 a1 a2 a3 b0 b1 b2 b3 x _ _
    rw [vc16_eq, ← ell_lit]
    rintro x1 rfl
    refine ⟨fun h => by simp at h, fun _ => ?_⟩
    intro x2 e2 r2 x3 e3 r3 x4 e4 r4 x5 e5 r5 x6 e6
    have hw : [x2, x3, x4, x5] = words4 (val4 [a0, a1, a2, a3] + ell) := by rw [e2, e3, e4, e5]; rfl
    have hx := more_next (val_pos ia0 ia1 ia2 ia3).1 rfl
    refine ⟨rfl, 16, rfl, 0, x6, _, rfl, ⟨by omega, by omega⟩, by omega, ?_, ?_⟩
    · rw [hw]; exact hx.1
    · rw [hw, e6]; exact hx.2
end ScalarAny

namespace ScalarAny
open Go.Proofs.YtnjcbedjhokfhaaDoor
open Go.ChangeShapes Go.WideShapes Go.ChangeAt Go.RowKit
theorem reads (t : Nat) (h : t ∈ Tryd.f16.params.toList) : Tryd.prog.readableRec t = true ∧ t < Tryd.prog.types.size := by
  have hp : Tryd.f16.params.toList = [24, 24, 3] := by kernel_rfl
  rw [hp] at h
  simp only [List.mem_cons, List.not_mem_nil, or_false] at h
  rcases h with rfl | rfl | rfl <;> exact ⟨by kernel_rfl, Nat.le_of_ble_eq_true (by kernel_rfl)⟩

set_option maxRecDepth 100000 in
/-- What the call gives, for every argument and every world that holds the table. -/
theorem contract (H : Type) (enc : TypeId × Value → H) (W : World) (base : Nat) (args : Array Value) (ds gs : List (DataW H)) (before : List MemPlace)
    (hval : ∀ (j : Nat) t v, Tryd.f16.params[j]? = some t → args[j]? = some v → Value.okWide Tryd.prog W .any base t v)
    (hW : DataW.Whole enc Tryd.prog Tryd.f16.params.toList Rows.scalarAnySpec.vars false W args.toList ds gs before) (hL : laidMetH Tryd.prog Rows.scalarAnyRow.laid W) :
    Calls Tryd.prog 16 args W fun e W' => ∃ v, e = .returned v ∧ Rows.scalarAnySpec.post enc Tryd.prog Tryd.f16 false true false false W args v W' := by
  have hA : DataW.TrodAll enc Tryd.prog W 0 (fun _ => true) true [24, 24, 3] args.toList ds _ := hW.choose_spec.choose_spec.1
  obtain ⟨v0, vs0, d0, ds0, p0, q0, hargs, _, _, h0, r0⟩ := trodAll_cons hA
  obtain ⟨v1, vs1, d1, ds1, p1, q1, rfl, _, _, h1, r1⟩ := trodAll_cons r0
  obtain ⟨v2, vs2, d2, ds2, p2, q2, rfl, _, _, h2, r2⟩ := trodAll_cons r1
  obtain ⟨rfl, _, _⟩ := trodAll_nil r2
  obtain rfl : args = #[v0, v1, v2] := by cases args; simp_all
  have hp : Tryd.f16.params = #[24, 24, 3] := by kernel_rfl
  rw [hp] at hval
  obtain ⟨l0, hl0, hr0, rfl⟩ := arr_arg (n := 4) (e := 22) (k := .u64) (by kernel_rfl) (by kernel_rfl) (by kernel_rfl) (by kernel_rfl) (hval 0 24 v0 rfl rfl)
  obtain ⟨l1, hl1, hr1, rfl⟩ := arr_arg (n := 4) (e := 22) (k := .u64) (by kernel_rfl) (by kernel_rfl) (by kernel_rfl) (by kernel_rfl) (hval 1 24 v1 rfl rfl)
  obtain ⟨z2, rfl, hr2⟩ := int_arg (k := .i64) (by kernel_rfl) (hval 2 3 v2 rfl rfl)
  refine (law W (tab_glob hL) l0 hl0 hr0 l1 hl1 hr1 z2 hr2).mono fun e W' ⟨he, hB⟩ => ?_
  subst he
  refine ⟨_, rfl, post_true (tb := 4) laidOut rfl (by kernel_rfl) (by kernel_rfl) reads ?_ hW hB⟩
  intro ds hds
  have hds : ds.length = 3 := hds
  match ds, hds with
  | [a0, a1, a2], _ => exact ⟨rfl, rfl, rfl⟩

def wargs : Array Value := #[.agg #[.int .u64 0, .int .u64 0, .int .u64 0, .int .u64 0], .agg #[.int .u64 0, .int .u64 0, .int .u64 0, .int .u64 0], .int .i64 0]
theorem laid_met (os : Os) : laidMet Tryd.prog Rows.scalarAnyRow.laid ((laidWorld os).forCall (fun _ _ => 0) ⟨#[], wargs, []⟩).memory :=
  laidMet_of_run' 8 (by kernel_rfl) (by kernel_rfl)
theorem reads0 (os : Os) {H : Type} (enc : TypeId × Value → H) : ∃ places, DataW.whole enc Tryd.prog ((laidWorld os).forCall (fun _ _ => 0) ⟨#[], wargs, []⟩).memory Tryd.f16.params.toList Rows.scalarAnySpec.vars false wargs.toList 8 = some ([.agg [.lit (.int .u64 0), .lit (.int .u64 0), .lit (.int .u64 0), .lit (.int .u64 0)], .agg [.lit (.int .u64 0), .lit (.int .u64 0), .lit (.int .u64 0), .lit (.int .u64 0)], .lit (.int .i64 0)], [], places) :=
  ⟨[], by kernel_rfl⟩

set_option maxRecDepth 100000 in
theorem lifted (os : Os) (started : os.Started) (H : Type) (enc : TypeId × Value → H) (F : Stop.Interp) :
    ReturnsInHanded {} Tryd.checked os 16 .any ((OpenSpec.ofChange Rows.scalarAnySpec).preRow enc Tryd.prog Tryd.f16 Rows.scalarAnyRow.domain false Rows.scalarAnyRow.laid) (((OpenSpec.ofChange Rows.scalarAnySpec).at F).post enc Tryd.prog Tryd.f16 false true false false) := by
  obtain ⟨places, hx⟩ := reads0 os enc
  refine returnsInHanded_of_row (C := Tryd.checked) (s := OpenSpec.ofChange Rows.scalarAnySpec) own started (by kernel_rfl) Tryd.func16
    (witness_row_at (enc := enc) (C := Tryd.checked) false (laidWorld os) wargs rfl (by kernel_rfl) (by kernel_rfl) (by kernel_rfl)
      (OpenSpec.preRow_of_cond 8 hx (by kernel_rfl) (fun k hk => by cases hk) (by kernel_rfl) (laid_met os))) ?_
  intro W base args ds gs before hval hW _ _ _ hL _ _
  exact contract H enc W base args ds gs before hval hW hL

theorem said : Rows.ScalarAnySaid :=
  OpenClaim.holds_of_cond 16 Tryd.f16 rfl rfl rfl rfl rfl rfl rfl ⟨rfl, rfl, rfl, rfl, rfl⟩ rfl rfl rfl rfl rfl (by kernel_rfl) Tryd.func16 (by kernel_rfl)
    (of_decide_eq_true (by kernel_rfl)) (by unfold Func.isWrapper; first | (rw [if_pos (by decide +kernel)]; kernel_rfl) | (rw [if_neg (by decide +kernel)]; exact ⟨rfl, rfl⟩))
    (fun os started H enc _ F => by rw [OpenClaim.pre_eq_preRow]; exact lifted os started H enc F)

theorem plain (f : FuncId) (fn : Func) (hf : Tryd.pinned.checked.prog.funcNamed "veil/veillaw02.ScalarAny" = some f) (hfn : Tryd.pinned.checked.prog.funcs[f]? = some fn) :
    false = Tryd.pinned.checked.prog.looks [] ∧ ∀ (j : Nat) t, fn.params[j]? = some t → Tryd.pinned.checked.prog.wantsStandIn t = false := by
  obtain rfl : f = 16 := Option.some.inj ((show Tryd.prog.funcNamed "veil/veillaw02.ScalarAny" = some 16 by kernel_rfl).symm.trans hf) |>.symm
  obtain rfl : fn = Tryd.f16 := (Option.some.inj (Tryd.func16.symm.trans hfn)).symm
  refine ⟨by kernel_rfl, fun j t ht => ?_⟩
  have hp : Tryd.f16.params = #[24, 24, 3] := by kernel_rfl
  rw [hp] at ht
  have := Array.mem_of_getElem? ht
  simp only [List.mem_toArray, List.mem_cons, List.not_mem_nil, or_false] at this
  rcases this with rfl | rfl | rfl <;> exact (show Tryd.prog.wantsStandIn _ = false by kernel_rfl)

theorem card : Rows.ScalarAnyCardSaid :=
  Claim7.holds_tied_plain_at .later [] _ _ _ _ said (fun _ h => by cases h) (by kernel_rfl) (fun _ h => by cases h) scalarAny_row_tie rfl ⟨rfl, rfl⟩ (by kernel_rfl) rfl plain (by kernel_rfl)
end ScalarAny

end Go.Gx

namespace Go.Proofs.YtnjcbedjhokfhaaDoor
theorem scalarAnyProved : Rows.ScalarAnyCardSaid := Go.Gx.ScalarAny.card
end Go.Proofs.YtnjcbedjhokfhaaDoor
#print axioms Go.Proofs.YtnjcbedjhokfhaaDoor.scalarAnyProved

