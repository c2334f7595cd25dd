/- TranscriptApart: two frames are the same just if what they frame is; none is the beginning of another one. For all labels and parts that are not more than the second form's bound. -/
import Derived.Test.YthgclfedhgmpiaaM3
import Derived.Test.YthgclfedhgmpiaaProg
import Derived.Laws.Strings
import Derived.Test.YthgclfedhgmpiaaRows
import Derived.WalkKit
import Derived.ProofKit
import Derived.OpenShut
import Derived.Carry
import Derived.Deep.DeepHandedRow
import Derived.Lib.LaidTab
import Derived.ChangeSlices
import Derived.SizedLaws
import Derived.Stop.LaidErr

/- Contracts in general: that they hold. -/
namespace Go.Gx
open Go.RowKit
set_option linter.unusedVariables false

section
variable {P : Program} {Γ : Tab} {w0 : World} {M : Nat → Prop} {ρ : Nat → Pl} {H : Nat → Option SB} {w : World}

theorem ones_D {dm : Nat → Prop} : ∀ (l : List Seg) (xs : List SV) (cs : List Value), onesOf l = some xs → SegsD dm ρ l cs → Ds dm ρ xs cs ∧ (∀ v ∈ cs, v.cells = #[v]) ∧ cs.length = xs.length
  | [], xs, cs, h, hd => by
    simp only [onesOf, Option.some.injEq] at h; subst h
    rw [show cs = [] from hd]
    exact ⟨rfl, (fun v hv => by cases hv), rfl⟩
  | .one x :: r, xs, cs, h, hd => by
    simp only [onesOf] at h
    split at h
    · rename_i ys hy
      simp only [Option.some.injEq] at h; subst h
      obtain ⟨c1, c2, ⟨h1, v, hv, rfl⟩, rfl, h3⟩ := hd
      obtain ⟨q1, q2, q3⟩ := ones_D r ys c2 hy h3
      refine ⟨⟨v, c2, hv, rfl, q1⟩, fun u hu => ?_, by simp [q3]⟩
      simp only [List.cons_append, List.nil_append, List.mem_cons] at hu
      rcases hu with rfl | hu
      · exact (single_cell h1 hv).2
      · exact q2 u hu
    · cases h
  | .arr .. :: r, xs, cs, h, hd => by simp [onesOf] at h
  | .rowI .. :: r, xs, cs, h, hd => by simp [onesOf] at h
  | .rowA .. :: r, xs, cs, h, hd => by simp [onesOf] at h

theorem eachRO_sound {R : RO → Value → Prop} {g : SV → (List Prop → RO → RP Delta) → RP Delta} (hg : ∀ (x : SV) (v : Value) (f : List Prop → RO → RP Delta) (d : Delta) (rs rs' : List Nat), D (dmOf H) ρ x v → (g x f).run H rs = some (d, rs') → ∃ p q rs1, (f p q).run H rs1 = some (d, rs') ∧ (AllP p → R q v)) :
    ∀ (xs : List SV) (vs : List Value) (f : List Prop → List RO → RP Delta) (d : Delta) (rs rs' : List Nat), Ds (dmOf H) ρ xs vs → (∀ v ∈ vs, v.cells = #[v]) → (eachRO g xs f).run H rs = some (d, rs') →
      ∃ p ds rs1, (f p ds).run H rs1 = some (d, rs') ∧ (AllP p → ChainR R ds vs) ∧ ds.length = xs.length
  | [], vs, f, d, rs, rs', hd, h1, h => ⟨[], [], rs, h, fun _ => hd, rfl⟩
  | x :: r, vs, f, d, rs, rs', hd, h1, h => by
    simp only [Ds] at hd
    obtain ⟨v, c, hx, rfl, hr⟩ := hd
    simp only [eachRO] at h
    obtain ⟨p, q, rs1, a1, a2⟩ := hg x v _ d rs rs' hx h
    obtain ⟨p', ds, rs2, b1, b2, b3⟩ := eachRO_sound hg r c _ d rs1 rs' hr (fun u hu => h1 u (by simp [hu])) a1
    refine ⟨p ++ p', q :: ds, rs2, b1, fun hp => ?_, by simp [b3]⟩
    obtain ⟨hp1, hp2⟩ := AllP.append (l := p) (r := p') hp
    exact ⟨v, c, a2 hp1, by rw [h1 v (by simp)]; rfl, b2 hp2⟩

/-- What the caller's own data may be seen as. -/
structure BanOk (w0 : World) (M : Nat → Prop) (ρ : Nat → Pl) (H : Nat → Option SB) (ban : List Nat) (M' : Nat → Prop) : Prop where
  own : ∀ key ro l, memN key ban = false → H key = some (.segs ro l) → 0 < (ρ key).cap → ¬ M' (ρ key).blk
  old : ∀ b, b < w0.heap.size → ¬ M b → ¬ M' b

theorem BanOk.keeps {ban : List Nat} {M' : Nat → Prop} (hB : BanOk w0 M ρ H ban M') (hm : Mem w0 M ρ H w) : Keeps w0 w (OutB w0 M) (OutB w M') := fun b hb =>
  ⟨⟨Nat.lt_of_lt_of_le hb.1 hm.frame.size, hB.old b hb.1 hb.2⟩, hm.frame.block b hb.1 hb.2⟩

theorem viewRO_sound (P : Program) (hm : Mem w0 M ρ H w) {ban : List Nat} {M' : Nat → Prop} (hB : BanOk w0 M ρ H ban M') : ∀ (sh : Sh) (x : SV) (v : Value) (f : List Prop → RO → RP Delta) (d : Delta) (rs rs' : List Nat), D (dmOf H) ρ x v → (viewRO ban sh x f).run H rs = some (d, rs') →
    ∃ p q rs1, (f p q).run H rs1 = some (d, rs') ∧ (AllP p → RoD w (OutB w M') sh q v)
  | .ints k, x, v, f, d, rs, rs', hx, h => by
    simp only [viewRO] at h
    split at h
    · rename_i key sh dd
      simp only [RP.run] at h
      split at h
      · rename_i hkey
        split at h
        · rename_i he
          have e := shEq_eq _ _ he
          subst e
          simp only [D] at hx
          have hrel := hx.2.1
          rw [hm.view key hkey] at hrel
          exact ⟨[], dd, _, h, fun _ => RoD.mono (hB.keeps hm) _ _ _ hrel⟩
        · simp [RP.run] at h
      · simp [RP.run] at h
    · simp only [D] at hx
      subst hx
      refine ⟨[], _, _, h, fun _ => ?_⟩
      simp only [RoD]
      exact ⟨none, 0, rfl, Nat.le_refl _, by simp [roL], (fun z hz => by cases hz), .inr ⟨rfl, rfl⟩⟩
    · rename_i key c est off len
      split at h
      · simp [RP.run] at h
      · rename_i hban
        obtain ⟨p, q, rs1, hw, hq, ro, lx, hkey, hcE⟩ := withCon_more (P := P) hm hx h
        split at hw
        · rename_i k' l
          split at hw
          · rename_i hkk
            have hkk := keq_eq hkk
            subst hkk
            refine ⟨p, _, rs1, hw, fun hp => ?_⟩
            have hcon := hq hp
            simp only [D] at hx
            obtain ⟨_, ho, hl, hr, ad, cap, rfl, hlc, hdis⟩ := hx
            obtain ⟨e1, e2, e3⟩ := hcon.at_ ad _ cap rfl
            have e1 : len.z.toNat = l.length := e1
            simp only [RoD, InR] at hr ⊢
            have er : roL (.l l) = l := rfl
            rw [er]
            refine ⟨ad, cap, by rw [e1], by omega, by omega, hcon.ok, ?_⟩
            rcases e3 with ⟨a, b⟩ | ⟨b, o, rfl, hlt, hra⟩
            · exact .inr ⟨a, b⟩
            · rcases hdis with ⟨ha', hc2⟩ | ⟨hz, hc0⟩
              · simp only [Option.some.injEq, at_, Addr.mk.injEq, and_true] at ha'
                obtain ⟨hb', ho'⟩ := ha'
                have hest : conSize (Con.ints k' l) = est := con_est hcE
                have hest1 : est = 1 := hest.symm
                subst hest1
                rcases Nat.eq_zero_or_pos cap with h0 | h0
                · exact .inr ⟨by omega, h0⟩
                · have hcp : 0 < (ρ key).cap := by omega
                  refine .inl ⟨b, o, rfl, ⟨hlt (by simpa [conSize] using h0), ?_⟩, hra⟩
                  rw [hb']
                  exact hB.own key ro lx hban hkey hcp
              · exact .inr ⟨by omega, hc0⟩
          · simp [RP.run] at hw
        · simp [RP.run] at hw
    · simp [RP.run] at h
  | .l e, x, v, f, d, rs, rs', hx, h => by
    simp only [viewRO] at h
    split at h
    · rename_i key sh dd
      simp only [RP.run] at h
      split at h
      · rename_i hkey
        split at h
        · rename_i he
          have e := shEq_eq _ _ he
          subst e
          simp only [D] at hx
          have hrel := hx.2.1
          rw [hm.view key hkey] at hrel
          exact ⟨[], dd, _, h, fun _ => RoD.mono (hB.keeps hm) _ _ _ hrel⟩
        · simp [RP.run] at h
      · simp [RP.run] at h
    · simp only [D] at hx
      subst hx
      refine ⟨[], _, _, h, fun _ => ?_⟩
      simp only [RoD]
      exact ⟨none, 0, [], rfl, Nat.le_refl _, by simp [roX], rfl, .inr ⟨rfl, rfl⟩⟩
    · rename_i key n
      split at h
      · simp [RP.run] at h
      · rename_i hban
        simp only [RP.run] at h
        split at h
        · rename_i ro l hkey
          split at h
          · rename_i xs hxs
            split at h
            · rename_i hn
              simp only [Bool.and_eq_true] at hn
              have hn1 := Nat.eq_of_beq_eq_true hn.1
              have hn2 : 0 < n := by have := hn.2; simp [Nat.blt] at this; omega
              obtain ⟨vs, h1, h2, h3, _⟩ := hm.segs hkey
              obtain ⟨q1, q2, q3⟩ := ones_D l xs vs hxs h1
              obtain ⟨p, ds, rs1, a1, a2, a3⟩ := eachRO_sound (R := RoD w (OutB w M') e) (fun x v f d rs rs' hx h => viewRO_sound P hm hB e x v f d rs rs' hx h) xs vs _ d _ rs' q1 q2 h
              refine ⟨p, _, rs1, a1, fun hp => ?_⟩
              simp only [D] at hx
              obtain ⟨_, ho, hl, hr, ad, cap, rfl, hlc, hdis⟩ := hx
              have er : roX (.r ds) = ds := rfl
              have hnn : (Int.ofNat n).toNat = n := rfl
              simp only [RoD, InR] at hr ⊢
              rw [er]
              simp only [hnn] at hlc ⊢
              rcases hdis with ⟨rfl, hcap⟩ | ⟨hz, hc0⟩
              · refine ⟨_, cap, vs, by rw [a3, hn1]; simp [at_], by omega, by omega, a2 hp, .inl ⟨(ρ key).blk, (ρ key).off, rfl, ?_, h3⟩⟩
                have hcp : 0 < (ρ key).cap := by simp at hcap; omega
                exact ⟨hm.heap.lt key ro l hkey hcp, hB.own key ro l hban hkey hcp⟩
              · simp at hz; omega
            · simp [RP.run] at h
          · simp [RP.run] at h
        · simp [RP.run] at h
    · simp [RP.run] at h
  | .i _, x, v, f, d, rs, rs', hx, h => by simp [viewRO, RP.run] at h
  | .tb, x, v, f, d, rs, rs', hx, h => by simp [viewRO, RP.run] at h
  | .ts, x, v, f, d, rs, rs', hx, h => by simp [viewRO, RP.run] at h
  | .arr _ _, x, v, f, d, rs, rs', hx, h => by simp [viewRO, RP.run] at h
  | .r _, x, v, f, d, rs, rs', hx, h => by simp [viewRO, RP.run] at h

/-- The arguments, as a contract sees them, and the keys of the caller's records among them. -/
def AsD (w : World) (Out : Nat → Prop) (H : Nat → Option SB) (ρ : Nat → Pl) : List AV → List Value → List Nat → Prop
  | [], vs, ks => vs = [] ∧ ks = []
  | .v x :: r, vs, ks => ∃ u c, vs = u :: c ∧ D (dmOf H) ρ x u ∧ AsD w Out H ρ r c ks
  | .d sh d :: r, vs, ks => ∃ u c, vs = u :: c ∧ RoD w Out sh d u ∧ (∃ ad n cap, u = .slice ad n cap) ∧ AsD w Out H ρ r c ks
  | .m l :: r, vs, ks => ∃ c k ks', ks = k :: ks' ∧ vs = .pointer (some (at_ (ρ k) 0)) :: c ∧ H k = some (.segs false l) ∧ AsD w Out H ρ r c ks'
  | .o q :: r, vs, ks => ∃ u c k ks', ks = k :: ks' ∧ vs = u :: c ∧ H k = some (.segs false [conRow q]) ∧
      (∃ ad cap, u = .slice ad (conLen q) cap ∧ conLen q ≤ cap ∧ ((conLen q : Nat) : Int) < 9223372036854775808 ∧ ((ad = some (at_ (ρ k) 0) ∧ conSize q * cap ≤ (ρ k).cap) ∨ (conLen q = 0 ∧ cap = 0))) ∧ AsD w Out H ρ r c ks'

theorem viewRO_slice (hm : Mem w0 M ρ H w) {ban : List Nat} {sh : Sh} {x : SV} {v : Value} {f : List Prop → RO → RP Delta} {d : Delta} {rs rs' : List Nat} (hx : D (dmOf H) ρ x v) (h : (viewRO ban sh x f).run H rs = some (d, rs')) : ∃ ad n cap, v = .slice ad n cap := by
  cases sh <;> simp only [viewRO] at h
  case ints k =>
    split at h
    · simp only [D] at hx; obtain ⟨_, _, _, a, cap, h, _⟩ := hx; exact ⟨_, _, _, h⟩
    · simp only [D] at hx; exact ⟨_, _, _, hx⟩
    · simp only [D] at hx; obtain ⟨_, _, _, _, a, cap, h, _⟩ := hx; exact ⟨_, _, _, h⟩
    · simp [RP.run] at h
  case l e =>
    split at h
    · simp only [D] at hx; obtain ⟨_, _, _, a, cap, h, _⟩ := hx; exact ⟨_, _, _, h⟩
    · simp only [D] at hx; exact ⟨_, _, _, hx⟩
    · simp only [D] at hx; obtain ⟨_, _, _, _, a, cap, h, _⟩ := hx; exact ⟨_, _, _, h⟩
    · simp [RP.run] at h
  all_goals simp [RP.run] at h

theorem getA_sound (P : Program) (hm : Mem w0 M ρ H w) {ban : List Nat} {M' : Nat → Prop} (hB : BanOk w0 M ρ H ban M') : ∀ (ms : List Md) (xs : List SV) (vs : List Value) (f : List Prop → List AV → RP Delta) (d : Delta) (rs rs' : List Nat), Ds (dmOf H) ρ xs vs → (getA ban ms xs f).run H rs = some (d, rs') →
    ∃ p avs rs1, (f p avs).run H rs1 = some (d, rs') ∧ (AllP p → AsD w (OutB w M') H ρ avs vs (ownKeys ms xs))
  | [], [], vs, f, d, rs, rs', hd, h => ⟨[], [], rs, h, fun _ => ⟨hd, rfl⟩⟩
  | [], _ :: _, vs, f, d, rs, rs', hd, h => by simp [getA, RP.run] at h
  | .v :: _, [], vs, f, d, rs, rs', hd, h => by simp [getA, RP.run] at h
  | .d _ :: _, [], vs, f, d, rs, rs', hd, h => by simp [getA, RP.run] at h
  | .m :: _, [], vs, f, d, rs, rs', hd, h => by simp [getA, RP.run] at h
  | .o :: _, [], vs, f, d, rs, rs', hd, h => by simp [getA, RP.run] at h
  | .v :: ms, x :: xs, vs, f, d, rs, rs', hd, h => by
    simp only [Ds] at hd
    obtain ⟨v, c, h1, rfl, h2⟩ := hd
    simp only [getA] at h
    obtain ⟨p, avs, rs1, q1, q2⟩ := getA_sound P hm hB ms xs c _ d rs rs' h2 h
    refine ⟨p, _, rs1, q1, fun hp => ⟨v, c, rfl, h1, ?_⟩⟩
    have : ownKeys (.v :: ms) (x :: xs) = ownKeys ms xs := by cases x <;> rfl
    rw [this]; exact q2 hp
  | .d sh :: ms, x :: xs, vs, f, d, rs, rs', hd, h => by
    simp only [Ds] at hd
    obtain ⟨v, c, h1, rfl, h2⟩ := hd
    simp only [getA] at h
    have hsl := viewRO_slice hm h1 h
    obtain ⟨p, q, rs1, q1, q2⟩ := viewRO_sound P hm hB sh x v _ d rs rs' h1 h
    obtain ⟨p', avs, rs2, q3, q4⟩ := getA_sound P hm hB ms xs c _ d rs1 rs' h2 q1
    refine ⟨p ++ p', _, rs2, q3, fun hp => ?_⟩
    obtain ⟨hp1, hp2⟩ := AllP.append (l := p) (r := p') hp
    have : ownKeys (.d sh :: ms) (x :: xs) = ownKeys ms xs := by cases x <;> rfl
    rw [this]
    exact ⟨v, c, rfl, q2 hp1, hsl, q4 hp2⟩
  | .m :: ms, x :: xs, vs, f, d, rs, rs', hd, h => by
    simp only [Ds] at hd
    obtain ⟨v, c, h1, rfl, h2⟩ := hd
    simp only [getA] at h
    split at h
    · rename_i key
      simp only [RP.run] at h
      split at h
      · rename_i l hkey
        obtain ⟨p, avs, rs1, q1, q2⟩ := getA_sound P hm hB ms xs c _ d _ rs' h2 h
        simp only [D] at h1
        exact ⟨p, _, rs1, q1, fun hp => ⟨c, key, _, rfl, by rw [h1.2], hkey, q2 hp⟩⟩
      · simp [RP.run] at h
    · obtain ⟨p, avs, rs1, q1, q2⟩ := getA_sound P hm hB ms xs c _ d rs rs' h2 h
      exact ⟨p, _, rs1, q1, fun hp => ⟨v, c, rfl, h1, q2 hp⟩⟩
    · simp [RP.run] at h
  | .o :: ms, x :: xs, vs, f, d, rs, rs', hd, h => by
    simp only [Ds] at hd
    obtain ⟨v, c, h1, rfl, h2⟩ := hd
    simp only [getA] at h
    split at h
    · rename_i key est len
      simp only [RP.run] at h
      split at h
      · rename_i g hkey
        split at h
        · rename_i q hq
          split at h
          · rename_i hest
            have hest := Nat.eq_of_beq_eq_true hest
            obtain ⟨p, avs, rs1, q1, q2⟩ := getA_sound P hm hB ms xs c _ d _ rs' h2 h
            have hg : g = conRow q := by
              cases g <;> simp only [rowCon, Option.some.injEq, reduceCtorEq] at hq <;> subst hq <;> rfl
            subst hg
            refine ⟨_, _, rs1, q1, fun hp => ?_⟩
            have hlen : len.z = ((conLen q : Nat) : Int) := hp.1
            simp only [D] at h1
            obtain ⟨_, ho, hl, hr, ad, cap, rfl, hlc, hdis⟩ := h1
            simp only [InR] at hr
            have hln : len.z.toNat = conLen q := by omega
            refine ⟨_, c, key, _, rfl, rfl, hkey, ⟨ad, cap, by rw [hln], by omega, by omega, ?_⟩, q2 hp.2⟩
            rcases hdis with ⟨ha, hc⟩ | ⟨hz, hc0⟩
            · exact .inl ⟨by simpa using ha, by rw [← hest]; simpa using hc⟩
            · exact .inr ⟨by omega, hc0⟩
          · simp [RP.run] at h
        · simp [RP.run] at h
      · simp [RP.run] at h
    · obtain ⟨p, avs, rs1, q1, q2⟩ := getA_sound P hm hB ms xs c _ d rs rs' h2 h
      exact ⟨p, _, rs1, q1, fun hp => ⟨v, c, rfl, h1, q2 hp⟩⟩
    · simp [RP.run] at h

theorem AsD.fact (hm : Mem w0 M ρ H w) {Out : Nat → Prop} : ∀ (avs : List AV) (vs : List Value) (ks : List Nat), AsD w Out H ρ avs vs ks → FactA avs
  | [], vs, ks, h => trivial
  | .v x :: r, vs, ks, h => by
    obtain ⟨u, c, rfl, h1, h2⟩ := h
    exact ⟨D.fact x u h1, AsD.fact hm r c ks h2⟩
  | .d sh d :: r, vs, ks, h => by
    obtain ⟨u, c, rfl, h1, _, h2⟩ := h
    exact ⟨RoD.fact sh d u h1, AsD.fact hm r c ks h2⟩
  | .m l :: r, vs, ks, h => by
    obtain ⟨c, k, ks', rfl, rfl, h1, h2⟩ := h
    obtain ⟨cs, hcs, _⟩ := hm.heap.blk k _ h1
    exact ⟨SegsD.fact l cs hcs, AsD.fact hm r c ks' h2⟩
  | .o q :: r, vs, ks, h => by
    obtain ⟨u, c, k, ks', rfl, rfl, h1, ⟨ad, cap, h3, h4, h5, _⟩, h2⟩ := h
    obtain ⟨cs, ⟨c1, c2, hq, _⟩, _⟩ := hm.heap.blk k _ h1
    refine ⟨⟨?_, h5⟩, AsD.fact hm r c ks' h2⟩
    cases q <;> exact hq.1

theorem AsD.keys {Out : Nat → Prop} : ∀ (avs : List AV) (vs : List Value) (ks : List Nat), AsD w Out H ρ avs vs ks → ∀ k ∈ ks, ∃ l, H k = some (.segs false l)
  | [], vs, ks, h => by obtain ⟨_, rfl⟩ := h; intro k hk; cases hk
  | .v x :: r, vs, ks, h => by
    obtain ⟨u, c, rfl, h1, h2⟩ := h
    exact AsD.keys r c ks h2
  | .d sh d :: r, vs, ks, h => by
    obtain ⟨u, c, rfl, h1, _, h2⟩ := h
    exact AsD.keys r c ks h2
  | .m l :: r, vs, ks, h => by
    obtain ⟨c, k, ks', rfl, rfl, h1, h2⟩ := h
    intro k' hk
    rcases List.mem_cons.1 hk with rfl | hk
    · exact ⟨_, h1⟩
    · exact AsD.keys r c ks' h2 k' hk
  | .o q :: r, vs, ks, h => by
    obtain ⟨u, c, k, ks', rfl, rfl, h1, _, h2⟩ := h
    intro k' hk
    rcases List.mem_cons.1 hk with rfl | hk
    · exact ⟨_, h1⟩
    · exact AsD.keys r c ks' h2 k' hk

/-- The callee's records are the caller's. -/
theorem okA_heap {Out : Nat → Prop} : ∀ (avs : List AV) (vs : List Value) (ks : List Nat) (j : Nat) (args' : List SV) (h : Heap), AsD w Out H ρ avs vs ks → okA j avs args' h →
    (∀ k b, assoc h k = some b → ∃ i, k = j + i ∧ i < ks.length ∧ ∃ l l', b = .segs false l' ∧ H (ks.getD i 0) = some (.segs false l) ∧ ∀ (dm : Nat → Prop) (ρ' : Nat → Pl) (cs : List Value), SegsD (dmOf H) ρ l cs → SegsD dm ρ' l' cs) ∧
    (∀ i, i < ks.length → (assoc h (j + i)).isSome = true)
  | [], vs, ks, j, [], [], h, ho => by
    obtain ⟨_, rfl⟩ := h
    exact ⟨fun k b hb => by simp [assoc] at hb, fun i hi => by simp at hi⟩
  | [], vs, ks, j, [], _ :: _, h, ho => ho.elim
  | [], vs, ks, j, _ :: _, _, h, ho => by simp [okA] at ho
  | .v x :: r, vs, ks, j, [], h', h, ho => by simp [okA] at ho
  | .v x :: r, vs, ks, j, y :: t, h', h, ho => by
    obtain ⟨u, c, rfl, h1, h2⟩ := h
    exact okA_heap r c ks j t h' h2 ho.2
  | .d sh d :: r, vs, ks, j, [], h', h, ho => by simp [okA] at ho
  | .d sh d :: r, vs, ks, j, y :: t, h', h, ho => by
    obtain ⟨u, c, rfl, h1, _, h2⟩ := h
    exact okA_heap r c ks j t h' h2 ho.2
  | .m l :: r, vs, ks, j, [], h', h, ho => by simp [okA] at ho
  | .m l :: r, vs, ks, j, y :: t, [], h, ho => by simp [okA] at ho
  | .m l :: r, vs, ks, j, y :: t, (k0, b0) :: h', h, ho => by
    obtain ⟨c, k, ks', rfl, rfl, h1, h2⟩ := h
    obtain ⟨_, rfl, ⟨l', rfl, he⟩, ho⟩ := ho
    obtain ⟨q1, q2⟩ := okA_heap r c ks' (k0 + 1) t h' h2 ho
    refine ⟨fun k b hb => ?_, fun i hi => ?_⟩
    · simp only [assoc] at hb
      split at hb
      · rename_i e
        have e := Nat.eq_of_beq_eq_true e
        simp only [Option.some.injEq] at hb
        subst hb
        exact ⟨0, by omega, by simp, l, l', rfl, by simpa using h1, fun dm ρ' cs hcs => eqSegs_D l l' cs he hcs⟩
      · obtain ⟨i, e, hi, rest⟩ := q1 k b hb
        exact ⟨i + 1, by omega, by simpa using hi, by simpa using rest⟩
    · cases i with
      | zero => simp [assoc, Nat.beq_refl]
      | succ i =>
        have : Nat.beq k0 (k0 + (i + 1)) = false := by
          cases hb : Nat.beq k0 (k0 + (i + 1)) with
          | false => rfl
          | true => have := Nat.eq_of_beq_eq_true hb; omega
        simp only [assoc, this]
        have := q2 i (by simpa using hi)
        rwa [show k0 + 1 + i = k0 + (i + 1) by omega] at this
  | .o q :: r, vs, ks, j, [], h', h, ho => by simp [okA] at ho
  | .o q :: r, vs, ks, j, y :: t, [], h, ho => by simp [okA] at ho
  | .o q :: r, vs, ks, j, y :: t, (k0, b0) :: h', h, ho => by
    obtain ⟨u, c, k, ks', rfl, rfl, h1, _, h2⟩ := h
    obtain ⟨_, rfl, rfl, ho⟩ := ho
    obtain ⟨q1, q2⟩ := okA_heap r c ks' (k0 + 1) t h' h2 ho
    refine ⟨fun k b hb => ?_, fun i hi => ?_⟩
    · simp only [assoc] at hb
      split at hb
      · rename_i e
        have e := Nat.eq_of_beq_eq_true e
        simp only [Option.some.injEq] at hb
        subst hb
        refine ⟨0, by omega, by simp, _, _, rfl, by simpa using h1, fun dm ρ' cs hcs => ?_⟩
        obtain ⟨c1, c2, hq, rfl, hc2⟩ := hcs
        refine ⟨c1, c2, ?_, rfl, hc2⟩
        cases q <;> exact hq
      · obtain ⟨i, e, hi, rest⟩ := q1 k b hb
        exact ⟨i + 1, by omega, by simpa using hi, by simpa using rest⟩
    · cases i with
      | zero => simp [assoc, Nat.beq_refl]
      | succ i =>
        have : Nat.beq k0 (k0 + (i + 1)) = false := by
          cases hb : Nat.beq k0 (k0 + (i + 1)) with
          | false => rfl
          | true => have := Nat.eq_of_beq_eq_true hb; omega
        simp only [assoc, this]
        have := q2 i (by simpa using hi)
        rwa [show k0 + 1 + i = k0 + (i + 1) by omega] at this

theorem okA_args {Out : Nat → Prop} {dm' : Nat → Prop} {ρ' : Nat → Pl} (h490 : dm' 490) (hrel : (ρ' 490).rel = RoD w Out) : ∀ (avs : List AV) (vs : List Value) (ks : List Nat) (j : Nat) (args' : List SV) (h : Heap), AsD w Out H ρ avs vs ks → okA j avs args' h →
    (∀ i, i < ks.length → dm' (j + i) ∧ ρ' (j + i) = ρ (ks.getD i 0)) → Ds dm' ρ' args' vs
  | [], vs, ks, j, [], [], h, ho, hk => h.1
  | [], vs, ks, j, [], _ :: _, h, ho, hk => ho.elim
  | [], vs, ks, j, _ :: _, _, h, ho, hk => by simp [okA] at ho
  | .v x :: r, vs, ks, j, [], h', h, ho, hk => by simp [okA] at ho
  | .v x :: r, vs, ks, j, y :: t, h', h, ho, hk => by
    obtain ⟨u, c, rfl, h1, h2⟩ := h
    exact ⟨u, c, eqV_D x y u ho.1 h1, rfl, okA_args h490 hrel r c ks j t h' h2 ho.2 hk⟩
  | .d sh d :: r, vs, ks, j, [], h', h, ho, hk => by simp [okA] at ho
  | .d sh d :: r, vs, ks, j, y :: t, h', h, ho, hk => by
    obtain ⟨u, c, rfl, h1, ⟨ad, n, cap, rfl⟩, h2⟩ := h
    obtain ⟨rfl, ho⟩ := ho
    exact ⟨_, c, RoD_D h490 hrel h1, rfl, okA_args h490 hrel r c ks j t h' h2 ho hk⟩
  | .m l :: r, vs, ks, j, [], h', h, ho, hk => by simp [okA] at ho
  | .m l :: r, vs, ks, j, y :: t, [], h, ho, hk => by simp [okA] at ho
  | .m l :: r, vs, ks, j, y :: t, (k0, b0) :: h', h, ho, hk => by
    obtain ⟨c, k, ks', rfl, rfl, h1, h2⟩ := h
    obtain ⟨rfl, rfl, ⟨l', rfl, he⟩, ho⟩ := ho
    have h0 := hk 0 (by simp)
    refine ⟨_, c, ⟨by simpa using h0.1, ?_⟩, rfl, okA_args h490 hrel r c ks' (k0 + 1) t h' h2 ho fun i hi => ?_⟩
    · have := h0.2
      simp only [Nat.add_zero, List.getD_cons_zero] at this
      rw [this]
    · have := hk (i + 1) (by simpa using hi)
      rw [show k0 + 1 + i = k0 + (i + 1) by omega]
      simpa using this
  | .o q :: r, vs, ks, j, [], h', h, ho, hk => by simp [okA] at ho
  | .o q :: r, vs, ks, j, y :: t, [], h, ho, hk => by simp [okA] at ho
  | .o q :: r, vs, ks, j, y :: t, (k0, b0) :: h', h, ho, hk => by
    obtain ⟨u, c, k, ks', rfl, rfl, h1, ⟨ad, cap, rfl, h3, h4, h5⟩, h2⟩ := h
    obtain ⟨rfl, rfl, rfl, ho⟩ := ho
    have h0 := hk 0 (by simp)
    refine ⟨_, c, sl_D (by simpa using h0.1) _ h4 h3 ?_, rfl, okA_args h490 hrel r c ks' (k0 + 1) t h' h2 ho fun i hi => ?_⟩
    · have := h0.2
      simp only [Nat.add_zero, List.getD_cons_zero] at this
      rw [this]; exact h5
    · have := hk (i + 1) (by simpa using hi)
      rw [show k0 + 1 + i = k0 + (i + 1) by omega]
      simpa using this

end
end Go.Gx

/- Contracts in general: off functions that the evaluator has run. -/
namespace Go.Gx
open Go.RowKit
set_option linter.unusedVariables false

/-- An answer of the callee's, and where it lies. -/
def RvD (H : Nat → Option SB) (ρ : Nat → Pl) (w : World) : RV → Value → Prop
  | .v x, v => D (dmOf H) ρ x v
  | .row q, v => conOk q ∧ ∃ key l pl ad cap, 1000 ≤ key ∧ H key = some (.segs false l) ∧ v = .slice ad (conLen q) cap ∧ conLen q ≤ cap ∧ ((conLen q : Nat) : Int) < 9223372036854775808 ∧
      ((ad = some (at_ pl 0) ∧ conSize q * cap ≤ pl.cap) ∨ (conLen q = 0 ∧ cap = 0)) ∧ (conCells q).length ≤ pl.cap ∧ w.rangeAt pl.blk pl.off (conCells q) ∧ w.there pl.blk pl.off pl.cap ∧ (0 < pl.cap → pl.blk = (ρ key).blk ∧ 0 < (ρ key).cap)
  | .ptr l, v => ∃ key, 1000 ≤ key ∧ H key = some (.segs false l) ∧ v = .pointer (some (at_ (ρ key) 0))
def RvsD (H : Nat → Option SB) (ρ : Nat → Pl) (w : World) : List RV → List Value → Prop
  | [], vs => vs = []
  | x :: r, vs => ∃ v c, RvD H ρ w x v ∧ vs = v :: c ∧ RvsD H ρ w r c

section
variable {P : Program} {Γ : Tab} {w0 : World} {M : Nat → Prop} {ρ : Nat → Pl} {w : World}

theorem canV_sound {h : Heap} (hm : Mem w0 M ρ (assoc h) w) {x : SV} {v : Value} (hx : D (dmOf (assoc h)) ρ x v) {K : RV → Prop} (hk : canV h x K) : ∃ r, K r ∧ RvD (assoc h) ρ w r v := by
  unfold canV at hk
  split at hk
  · rename_i key c est off len
    split at hk
    · rename_i l hkey1 hkey
      have hge : 1000 ≤ key := Nat.le_of_ble_eq_true hkey1
      split at hk
      · rename_i g hs
        split at hk
        · rename_i p q hq
          obtain ⟨hp, hK⟩ := preK_of _ _ hk
          simp only [D] at hx
          obtain ⟨hdm, ho, hl, hlr, a, cap, rfl, hcap, hpl⟩ := hx
          simp only [InR] at hlr
          obtain ⟨vs, h1, h2, h3, h4⟩ := hm.segs hkey
          obtain ⟨pre, cs, post, e1, e2, e3, _, _⟩ := segAt_D l c vs g 0 h1 hs
          obtain ⟨a1, a2, a3, a4, a5⟩ := conSeg_sound hq e2 hp ho hl
          have heq : conCells q = (vs.drop (c + est * off.z.toNat)).take (est * len.z.toNat) := by
            rw [a4, e1, show c + est * off.z.toNat = pre.length + est * off.z.toNat by omega, drop_mid _ _ _ _ _ a5]
          have hra := rangeAt_part h3 (c + est * off.z.toNat) (est * len.z.toNat)
          rw [← heq] at hra
          have hcl := conCells_length a1
          have hth := h4 rfl
          rcases hpl with ⟨ha, hle⟩ | ⟨h0, hc0⟩
          · refine ⟨_, hK, a1, key, l, ({ blk := (ρ key).blk, off := (ρ key).off + (c + est * off.z.toNat), cap := est * cap } : Pl), a, cap, hge, hkey, by rw [a2], by omega, by omega, .inl ⟨by rw [ha]; simp [at_], by rw [a3]; exact Nat.le_refl _⟩, ?_, hra, ?_, fun hc => ⟨rfl, ?_⟩⟩
            · show (conCells q).length ≤ est * cap
              rw [hcl, a3, a2, Nat.mul_comm]; exact Nat.mul_le_mul_left _ hcap
            · intro j hj
              have hj' : j < est * cap := hj
              have := hth (c + est * off.z.toNat + j) (by omega)
              rw [show (ρ key).off + (c + est * off.z.toNat) + j = (ρ key).off + (c + est * off.z.toNat + j) by omega]
              exact this
            · have hc : 0 < est * cap := hc
              omega
          · have hz : conLen q = 0 := by rw [a2]; omega
            have hnil : conCells q = [] := List.eq_nil_of_length_eq_zero (by rw [hcl, hz]; simp)
            refine ⟨_, hK, a1, key, l, ({ blk := 0, off := 0, cap := 0 } : Pl), a, cap, hge, hkey, by rw [a2], by omega, by omega, .inr ⟨hz, hc0⟩, by rw [hnil]; simp, by rw [hnil]; exact rangeAt_nil _ _ _, there_zero _ _ _, fun hc => absurd hc (by simp)⟩
        · exact hk.elim
      · exact hk.elim
    · exact hk.elim
  · rename_i key
    split at hk
    · rename_i l hkey1 hkey
      simp only [D] at hx
      exact ⟨_, hk, key, Nat.le_of_ble_eq_true hkey1, hkey, hx.2⟩
    · exact hk.elim
  · exact ⟨_, hk, hx⟩

theorem canVs_sound {h : Heap} (hm : Mem w0 M ρ (assoc h) w) : ∀ (xs : List SV) (vs : List Value) (K : List RV → Prop), Ds (dmOf (assoc h)) ρ xs vs → canVs h xs K → ∃ rs, K rs ∧ RvsD (assoc h) ρ w rs vs ∧ rs.length = xs.length
  | [], vs, K, hx, hk => ⟨[], hk, hx, rfl⟩
  | x :: r, vs, K, hx, hk => by
    simp only [Ds] at hx
    obtain ⟨v, c, h1, rfl, h2⟩ := hx
    obtain ⟨y, q1, q2⟩ := canV_sound hm h1 hk
    obtain ⟨ys, q3, q4, q5⟩ := canVs_sound hm r c _ h2 q1
    exact ⟨y :: ys, q3, ⟨v, c, q2, rfl, q4⟩, by simp [q5]⟩

/-- What the callee's records hold at the end. -/
def FinH (H : Nat → Option SB) : Nat → List (Option (List Seg)) → Prop
  | _, [] => True
  | j, some l :: r => H j = some (.segs false l) ∧ FinH H (j + 1) r
  | j, none :: r => H j = some .gone ∧ FinH H (j + 1) r

theorem canF_sound {h : Heap} : ∀ (n j : Nat) (K : List (Option (List Seg)) → Prop), canF h j n K → ∃ fs, K fs ∧ FinH (assoc h) j fs ∧ fs.length = n
  | 0, j, K, hk => ⟨[], hk, trivial, rfl⟩
  | n + 1, j, K, hk => by
    simp only [canF] at hk
    split at hk
    · rename_i l hl
      obtain ⟨fs, q1, q2, q3⟩ := canF_sound n (j + 1) _ hk
      exact ⟨_, q1, ⟨hl, q2⟩, by simp [q3]⟩
    · rename_i hl
      obtain ⟨fs, q1, q2, q3⟩ := canF_sound n (j + 1) _ hk
      exact ⟨_, q1, ⟨hl, q2⟩, by simp [q3]⟩
    · exact hk.elim

/-- The answers, one value or more. -/
def RvsOf (H : Nat → Option SB) (ρ : Nat → Pl) (w : World) (rs : List RV) (v : Value) : Prop :=
  (∃ r, rs = [r] ∧ RvD H ρ w r v) ∨ (rs.length ≠ 1 ∧ ∃ vs, v = .tuple vs.toArray ∧ RvsD H ρ w rs vs)

theorem kvG_sound {h : Heap} (hm : Mem w0 M ρ (assoc h) w) {n : Nat} {x : SV} {v : Value} (hx : D (dmOf (assoc h)) ρ x v) {K : List RV → List (Option (List Seg)) → Prop} (hk : kvG n x h K) :
    ∃ rs fs, K rs fs ∧ RvsOf (assoc h) ρ w rs v ∧ FinH (assoc h) 600 fs ∧ fs.length = n := by
  unfold kvG at hk
  split at hk
  · rename_i xs
    split at hk
    · exact hk.elim
    · rename_i hn
      simp only [D] at hx
      obtain ⟨vs, h1, rfl⟩ := hx
      obtain ⟨rs, q1, q2, q3⟩ := canVs_sound hm xs vs _ h1 hk
      obtain ⟨fs, q4, q5, q6⟩ := canF_sound n 600 _ q1
      refine ⟨rs, fs, q4, .inr ⟨fun e => ?_, vs, rfl, q2⟩, q5, q6⟩
      rw [q3] at e
      rw [e] at hn
      exact absurd hn (by decide)
  · obtain ⟨r, q1, q2⟩ := canV_sound hm hx hk
    obtain ⟨fs, q4, q5, q6⟩ := canF_sound n 600 _ q1
    exact ⟨_, fs, q4, .inl ⟨r, rfl, q2⟩, q5, q6⟩

theorem eqCon_eq {a b : Con} (h : eqCon a b) : a = b := by
  cases a <;> cases b <;> simp only [eqCon] at h
  · rw [keq_eq h.1, h.2]
  · rw [keq_eq h.1, h.2.1, h.2.2]

/-- Where the fresh block among the answers lies. -/
def FreshAt (H : Nat → Option SB) (ρ : Nat → Pl) (w : World) (l : List Seg) (pl : Pl) : Prop :=
  ∃ vs, SegsD (fun _ => False) (fun _ => ({ blk := 0, off := 0, cap := 0 } : Pl)) l vs ∧ vs.length ≤ pl.cap ∧ w.rangeAt pl.blk pl.off vs ∧ w.there pl.blk pl.off pl.cap ∧
    (0 < pl.cap → ∃ key l', 1000 ≤ key ∧ H key = some (.segs false l') ∧ pl.blk = (ρ key).blk ∧ 0 < (ρ key).cap)

theorem res_one {h : Heap} (hm : Mem w0 M ρ (assoc h) w) {r r' : RV} {v : Value} (hr : RvD (assoc h) ρ w r v) (he : eqRV1 r r') :
    ∃ pl, (∀ l, frOf [r'] = some l → FreshAt (assoc h) ρ w l pl) ∧ ∀ (dm : Nat → Prop) (ρ' : Nat → Pl) (stamp : Nat), (frOf [r'] ≠ none → dm stamp ∧ ρ' stamp = pl) → D dm ρ' (resG stamp r') v := by
  cases r' with
  | v y =>
    refine ⟨({ blk := 0, off := 0, cap := 0 } : Pl), (fun l hl => by cases hl), fun dm ρ' stamp _ => ?_⟩
    cases r with
    | v x =>
      have he' : eqRV (.v x) (.v y) := by cases x <;> exact he
      exact eqV_D x y v he' hr
    | row q => exact (show eqRV (.row q) (.v y) from he).elim
    | ptr l => exact (show eqRV (.ptr l) (.v y) from he).elim
  | ptr l' =>
    cases r with
    | v x => have he' : eqRV (.v x) (.ptr l') := by cases x <;> exact he
             exact he'.elim
    | row q => exact (show eqRV (.row q) (.ptr l') from he).elim
    | ptr l =>
      have he' : eqSegs l l' := he
      obtain ⟨key, k1, k2, rfl⟩ := hr
      obtain ⟨cs, s1, s2, s3, s4⟩ := hm.segs k2
      refine ⟨ρ key, fun l0 hl => ?_, fun dm ρ' stamp hs => ?_⟩
      · simp only [frOf, Option.some.injEq] at hl
        subst hl
        exact ⟨cs, eqSegs_D l l' cs he' s1, s2, s3, s4 rfl, fun hc => ⟨key, l, k1, k2, rfl, hc⟩⟩
      · obtain ⟨q1, q2⟩ := hs (by simp [frOf])
        simp only [resG, D]
        exact ⟨q1, by rw [q2]⟩
  | row q' =>
    have main : ∀ q, conOk q → q = q' → (∃ key l pl ad cap, 1000 ≤ key ∧ assoc h key = some (.segs false l) ∧ v = .slice ad (conLen q) cap ∧ conLen q ≤ cap ∧ ((conLen q : Nat) : Int) < 9223372036854775808 ∧
      ((ad = some (at_ pl 0) ∧ conSize q * cap ≤ pl.cap) ∨ (conLen q = 0 ∧ cap = 0)) ∧ (conCells q).length ≤ pl.cap ∧ w.rangeAt pl.blk pl.off (conCells q) ∧ w.there pl.blk pl.off pl.cap ∧ (0 < pl.cap → pl.blk = (ρ key).blk ∧ 0 < (ρ key).cap)) →
        ∃ pl, (∀ l, frOf [RV.row q'] = some l → FreshAt (assoc h) ρ w l pl) ∧ ∀ (dm : Nat → Prop) (ρ' : Nat → Pl) (stamp : Nat), (frOf [RV.row q'] ≠ none → dm stamp ∧ ρ' stamp = pl) → D dm ρ' (resG stamp (.row q')) v := by
      rintro q hok rfl ⟨key, l, pl, ad, cap, k1, k2, rfl, k3, k4, k5, k6, k7, k8, k9⟩
      refine ⟨pl, fun l0 hl => ?_, fun dm ρ' stamp hs => ?_⟩
      · simp only [frOf, Option.some.injEq] at hl
        subst hl
        exact ⟨conCells q, segs_one (conRow_D hok), k6, k7, k8, fun hc => ⟨key, l, k1, k2, k9 hc⟩⟩
      · obtain ⟨q1, q2⟩ := hs (by simp [frOf])
        simp only [resG]
        exact sl_D q1 _ k4 k3 (by rw [q2]; exact k5)
    cases r with
    | v x =>
      cases x with
      | nsl =>
        obtain ⟨e1, e2⟩ := (show conLen q' = 0 ∧ conOk q' from he)
        have hv : v = .slice none 0 0 := hr
        subst hv
        have hnil : conCells q' = [] := List.eq_nil_of_length_eq_zero (by rw [conCells_length e2, e1]; simp)
        refine ⟨({ blk := 0, off := 0, cap := 0 } : Pl), fun l0 hl => ?_, fun dm ρ' stamp hs => ?_⟩
        · simp only [frOf, Option.some.injEq] at hl
          subst hl
          have := segs_one (conRow_D (ρ := fun _ => ({ blk := 0, off := 0, cap := 0 } : Pl)) (dm := fun _ => False) e2)
          rw [hnil] at this
          exact ⟨[], this, Nat.le_refl _, rangeAt_nil _ _ _, there_zero _ _ _, fun hc => absurd hc (by simp)⟩
        · obtain ⟨q1, q2⟩ := hs (by simp [frOf])
          simp only [resG]
          have := sl_D (es := conSize q') (a := none) (cap := 0) (ρ := ρ') q1 (conLen q') (by omega) (by omega) (.inr ⟨e1, rfl⟩)
          rwa [show (Value.slice none (conLen q') 0) = .slice none 0 0 by rw [e1]] at this
      | _ => simp [eqRV1, eqRV] at he
    | ptr l => exact (show eqRV (.ptr l) (.row q') from he).elim
    | row q => exact main q hr.1 (eqCon_eq (show eqCon q q' from he)) hr.2

theorem res_all {h : Heap} (hm : Mem w0 M ρ (assoc h) w) : ∀ (rs rs' : List RV) (vs : List Value), RvsD (assoc h) ρ w rs vs → eqRVs rs rs' → oneFr rs' = true →
    ∃ pl, (∀ l, frOf rs' = some l → FreshAt (assoc h) ρ w l pl) ∧ ∀ (dm : Nat → Prop) (ρ' : Nat → Pl) (stamp : Nat), (frOf rs' ≠ none → dm stamp ∧ ρ' stamp = pl) → Ds dm ρ' (resGs stamp rs') vs
  | [], [], vs, hr, he, ho => ⟨({ blk := 0, off := 0, cap := 0 } : Pl), (fun l hl => by cases hl), fun dm ρ' stamp _ => hr⟩
  | [], _ :: _, vs, hr, he, ho => he.elim
  | _ :: _, [], vs, hr, he, ho => he.elim
  | r :: t, r' :: t', vs, hr, he, ho => by
    obtain ⟨v, c, h1, rfl, h2⟩ := hr
    obtain ⟨pl, a1, a2⟩ := res_one hm h1 he.1
    cases hf : frOf [r'] with
    | none =>
      have hff : frOf (r' :: t') = frOf t' := by cases r' <;> simp [frOf] at hf ⊢
      have ho' : oneFr t' = true := by cases r' <;> simp [frOf] at hf; exact ho
      obtain ⟨pl2, b1, b2⟩ := res_all hm t t' c h2 he.2 ho'
      refine ⟨pl2, fun l hl => b1 l (by rw [← hff]; exact hl), fun dm ρ' stamp hs => ?_⟩
      exact ⟨v, _, a2 dm ρ' stamp (fun h => absurd hf h), rfl, b2 dm ρ' stamp (fun h => hs (by rw [hff]; exact h))⟩
    | some l0 =>
      have hft : frOf t' = none := by
        cases r' with
        | v x => simp [frOf] at hf
        | row q => simp only [oneFr] at ho; split at ho <;> simp_all
        | ptr l => simp only [oneFr] at ho; split at ho <;> simp_all
      have ho' : oneFr t' = true := by
        have : ∀ t : List RV, frOf t = none → oneFr t = true := by
          intro t
          induction t with
          | nil => intro _; rfl
          | cons x r ih => intro hh; cases x <;> simp [frOf] at hh; exact ih hh
        exact this t' hft
      have hff : frOf (r' :: t') = frOf [r'] := by cases r' <;> simp [frOf] at hf ⊢
      obtain ⟨pl2, b1, b2⟩ := res_all hm t t' c h2 he.2 ho'
      refine ⟨pl, fun l hl => a1 l (by rw [← hff]; exact hl), fun dm ρ' stamp hs => ?_⟩
      have hs' := hs (by rw [hff, hf]; simp)
      exact ⟨v, _, a2 dm ρ' stamp (fun _ => hs'), rfl, b2 dm ρ' stamp (fun h => absurd hft h)⟩

theorem res_of {h : Heap} (hm : Mem w0 M ρ (assoc h) w) {rs rs' : List RV} {v : Value} (hr : RvsOf (assoc h) ρ w rs v) (he : eqRVs rs rs') (ho : oneFr rs' = true) :
    ∃ pl, (∀ l, frOf rs' = some l → FreshAt (assoc h) ρ w l pl) ∧ ∀ (dm : Nat → Prop) (ρ' : Nat → Pl) (stamp : Nat), (frOf rs' ≠ none → dm stamp ∧ ρ' stamp = pl) → D dm ρ' (resOf stamp rs') v := by
  have hlen : ∀ (a b : List RV), eqRVs a b → a.length = b.length := by
    intro a
    induction a with
    | nil => intro b hb; cases b <;> simp [eqRVs] at hb ⊢
    | cons x r ih => intro b hb; cases b <;> simp [eqRVs] at hb ⊢; exact ih _ hb.2
  rcases hr with ⟨r, rfl, h1⟩ | ⟨hn, vs, rfl, h1⟩
  · match rs', he with
    | [r'], he =>
      obtain ⟨pl, a1, a2⟩ := res_one hm h1 he.1
      exact ⟨pl, a1, fun dm ρ' stamp hs => a2 dm ρ' stamp hs⟩
  · obtain ⟨pl, a1, a2⟩ := res_all hm rs rs' vs h1 he ho
    refine ⟨pl, a1, fun dm ρ' stamp hs => ?_⟩
    have e : resOf stamp rs' = .tup (resGs stamp rs') := by
      match rs', hlen rs rs' he with
      | [], _ => rfl
      | [r'], hl => exact absurd hl hn
      | _ :: _ :: _, _ => rfl
    rw [e]
    simp only [D]
    exact ⟨vs, a2 dm ρ' stamp hs, rfl⟩

theorem nodupN_iff : ∀ {l : List Nat}, nodupN l = true → l.Nodup
  | [], _ => List.nodup_nil
  | x :: r, h => by
    simp only [nodupN] at h
    split at h
    · cases h
    · rename_i e
      refine List.nodup_cons.2 ⟨fun hx => ?_, nodupN_iff h⟩
      rw [memN_iff.2 hx] at e; cases e

def finB : Option (List Seg) → SB
  | some l => .segs false l
  | none => .gone

theorem finW_len : ∀ {ks : List Nat} {fin : List (Option (List Seg))} {ws : List (Nat × SB)}, finW ks fin = some ws → fin.length = ks.length
  | [], [], ws, h => rfl
  | [], _ :: _, ws, h => by simp [finW] at h
  | _ :: _, [], ws, h => by simp [finW] at h
  | k :: ks, some l :: r, ws, h => by
    simp only [finW] at h
    split at h
    · rename_i ws' e; simp [finW_len e]
    · cases h
  | k :: ks, none :: r, ws, h => by
    simp only [finW] at h
    split at h
    · rename_i ws' e; simp [finW_len e]
    · cases h

theorem finW_upd : ∀ {ks : List Nat} {fin : List (Option (List Seg))} {ws : List (Nat × SB)}, finW ks fin = some ws → ks.Nodup → ∀ (H : Nat → Option SB),
    (∀ k, k ∉ ks → updsH H ws k = H k) ∧ ∀ i, i < ks.length → updsH H ws (ks.getD i 0) = some (finB (fin.getD i none))
  | [], [], ws, h, hn, H => by
    simp only [finW, Option.some.injEq] at h; subst h
    exact ⟨fun k _ => rfl, fun i hi => by simp at hi⟩
  | [], _ :: _, ws, h, _, _ => by simp [finW] at h
  | _ :: _, [], ws, h, _, _ => by simp [finW] at h
  | k :: ks, b :: r, ws, h, hn, H => by
    have hh : ∃ ws', finW ks r = some ws' ∧ ws = (k, finB b) :: ws' := by
      cases b <;> simp only [finW] at h <;> split at h
      · rename_i ws' e; exact ⟨ws', e, (Option.some.inj h).symm⟩
      · cases h
      · rename_i ws' e; exact ⟨ws', e, (Option.some.inj h).symm⟩
      · cases h
    obtain ⟨ws', e, rfl⟩ := hh
    obtain ⟨hk, hn'⟩ := List.nodup_cons.1 hn
    obtain ⟨q1, q2⟩ := finW_upd e hn' (updH H k (finB b))
    refine ⟨fun k' hk' => ?_, fun i hi => ?_⟩
    · simp only [List.mem_cons, not_or] at hk'
      show updsH (updH H k (finB b)) ws' k' = H k'
      rw [q1 k' hk'.2, updH_ne hk'.1]
    · show updsH (updH H k (finB b)) ws' _ = _
      cases i with
      | zero =>
        simp only [List.getD_cons_zero]
        rw [q1 k hk, updH_same]
      | succ i =>
        simp only [List.getD_cons_succ]
        exact q2 i (by simpa using hi)

theorem finH_at {H : Nat → Option SB} : ∀ (fs : List (Option (List Seg))) (j i : Nat), FinH H j fs → i < fs.length → H (j + i) = some (finB (fs.getD i none))
  | some l :: r, j, 0, h, hi => h.1
  | none :: r, j, 0, h, hi => h.1
  | some l :: r, j, i + 1, h, hi => by
    have := finH_at r (j + 1) i h.2 (by simpa using hi)
    rw [show j + (i + 1) = j + 1 + i by omega]; simpa using this
  | none :: r, j, i + 1, h, hi => by
    have := finH_at r (j + 1) i h.2 (by simpa using hi)
    rw [show j + (i + 1) = j + 1 + i by omega]; simpa using this

theorem eqFin_at : ∀ (fs fs' : List (Option (List Seg))) (i : Nat), eqFin fs fs' → ∀ l', fs'.getD i none = some l' → ∃ l, fs.getD i none = some l ∧ eqSegs l l'
  | [], [], i, h, l', hl => by simp at hl
  | [], _ :: _, i, h, l', hl => h.elim
  | _ :: _, [], i, h, l', hl => h.elim
  | x :: r, y :: t, 0, h, l', hl => by
    simp only [List.getD_cons_zero] at hl ⊢
    subst hl
    cases x with
    | none => exact h.1.elim
    | some l => exact ⟨l, rfl, h.1⟩
  | x :: r, y :: t, i + 1, h, l', hl => by
    simp only [List.getD_cons_succ] at hl ⊢
    exact eqFin_at r t i h.2 l' hl

end
end Go.Gx

/- Contracts in general: the theorem. -/
namespace Go.Gx
open Go.RowKit
set_option linter.unusedVariables false

section
variable {P : Program} {Γ : Tab}

/-- What a general contract has read. -/
theorem genCtr_run {H : Nat → Option SB} {ms : List Md} {spec : List AV → Option (List Prop × List RV × List (Option (List Seg)))} {stamp : Nat} {args : List SV} {rs rs' : List Nat} {d : Delta} (h : (genCtr ms spec stamp args).run H rs = some (d, rs')) :
    nodupN (ownKeys ms args) = true ∧ ∃ f : List Prop → List AV → RP Delta, (getA (ownKeys ms args) ms args f).run H rs = some (d, rs') ∧ ∀ p avs rs1, (f p avs).run H rs1 = some (d, rs') →
      ∃ p' rvs fin ws, spec avs = some (p', rvs, fin) ∧ finW (ownKeys ms args) fin = some ws ∧ (oneFr rvs && Nat.ble fin.length 100) = true ∧
        ((frOf rvs = none ∧ d = ⟨p ++ p', resOf stamp rvs, ws, true⟩) ∨ ∃ l, frOf rvs = some l ∧ H stamp = none ∧ d = ⟨p ++ p', resOf stamp rvs, (stamp, .segs false l) :: ws, true⟩) := by
  unfold genCtr at h
  simp only at h
  split at h
  · rename_i hn
    refine ⟨hn, _, h, fun p avs rs1 h1 => ?_⟩
    split at h1
    · rename_i p' rvs fin hs
      split at h1
      · rename_i ws hws ho
        split at h1
        · rename_i hf
          exact ⟨p', rvs, fin, ws, hs, hws, ho, .inl ⟨hf, run_ret h1⟩⟩
        · rename_i l hf
          simp only [RP.run] at h1
          split at h1
          · rename_i hst
            exact ⟨p', rvs, fin, ws, hs, hws, ho, .inr ⟨l, hf, hst, run_ret h1⟩⟩
          · simp [RP.run] at h1
      · simp [RP.run] at h1
    · simp [RP.run] at h1
  · simp [RP.run] at h

/-- The callee's heap. -/
theorem gen_mem {w0 : World} {M : Nat → Prop} {ρ : Nat → Pl} {H : Nat → Option SB} {w : World} (hG : Glob Γ.gh w0 M) (hgl : Γ.gl = keysOf Γ.gh) (hlow : ∀ g ∈ keysOf Γ.gh, g < 490) (hm : Mem w0 M ρ H w) {ks : List Nat} (hks : ∀ k ∈ ks, ∃ l, H k = some (.segs false l)) (hnd : ks.Nodup)
    {M' : Nat → Prop} (hM' : ∀ b, M' b ↔ ∃ k ∈ ks, 0 < (ρ k).cap ∧ b = (ρ k).blk) {h6 : Heap}
    (h1 : ∀ k b, assoc h6 k = some b → ∃ i, k = 600 + i ∧ i < ks.length ∧ ∃ l l', b = .segs false l' ∧ H (ks.getD i 0) = some (.segs false l) ∧ ∀ (dm : Nat → Prop) (ρ' : Nat → Pl) (cs : List Value), SegsD (dmOf H) ρ l cs → SegsD dm ρ' l' cs)
    (h2 : ∀ i, i < ks.length → (assoc h6 (600 + i)).isSome = true) :
    ∃ ρ1 : Nat → Pl, Mem w M' ρ1 (assoc (Γ.gh ++ (490, .world) :: h6)) w ∧ GlOk Γ w M' ρ1 (assoc (Γ.gh ++ (490, .world) :: h6)) ∧ dmOf (assoc (Γ.gh ++ (490, .world) :: h6)) 490 ∧ (ρ1 490).rel = RoD w (OutB w M') ∧
      ∀ i, i < ks.length → dmOf (assoc (Γ.gh ++ (490, .world) :: h6)) (600 + i) ∧ ρ1 (600 + i) = ρ (ks.getD i 0) := by
  obtain ⟨ρg, g1, g2, g3⟩ := mem_of_glob hG hm
  have hMo : ∀ b, M' b → w0.heap.size ≤ b ∨ M b := fun b hb => by
    obtain ⟨k, hk, hc, rfl⟩ := (hM' b).1 hb
    obtain ⟨l, hl⟩ := hks k hk
    exact hm.own k l hl hc
  have hne : ∀ g b, (g, b) ∈ Γ.gh → ¬ M' g := fun g b hgb hb => by
    obtain ⟨_, _, _, _, _, q1, q2⟩ := hG g b hgb
    rcases hMo g hb with hh | hh
    · omega
    · exact q1 hh
  have hlow : ∀ k b, assoc Γ.gh k = some b → k < 490 := fun k b hb => hlow k (keysOf_of_dm (by unfold dmOf; rw [hb]; rfl))
  have hro : ∀ k b, assoc Γ.gh k = some b → ∃ l, b = .segs true l := fun k b hb => by
    obtain ⟨l, _, e, _⟩ := g2 k b (assoc_mem hb); exact ⟨l, e⟩
  let HH : Heap := Γ.gh ++ (490, .world) :: h6
  have hat : ∀ k b, assoc HH k = some b → (k < 490 ∧ assoc Γ.gh k = some b) ∨ (k = 490 ∧ b = .world) ∨ (600 ≤ k ∧ assoc h6 k = some b) := fun k b hb => by
    have hb : assoc (Γ.gh ++ (490, .world) :: h6) k = some b := hb
    rw [assoc_app] at hb
    split at hb
    · rename_i x hx
      rw [hb] at hx
      exact .inl ⟨hlow k b hx, hx⟩
    · simp only [assoc] at hb
      split at hb
      · rename_i e
        simp only [Option.some.injEq] at hb
        exact .inr (.inl ⟨(Nat.eq_of_beq_eq_true e).symm, hb.symm⟩)
      · obtain ⟨i, rfl, _⟩ := h1 k b hb
        exact .inr (.inr ⟨by omega, hb⟩)
  have hup : ∀ k b, assoc Γ.gh k = some b → assoc HH k = some b := fun k b hb => by
    show assoc (Γ.gh ++ (490, .world) :: h6) k = _
    rw [assoc_app, hb]
  have hnlow : ∀ k, 490 ≤ k → assoc Γ.gh k = none := fun k hk => by
    cases e : assoc Γ.gh k with
    | none => rfl
    | some b => have := hlow k b e; omega
  have h490 : assoc HH 490 = some .world := by
    show assoc (Γ.gh ++ (490, .world) :: h6) 490 = _
    rw [assoc_app, hnlow 490 (Nat.le_refl _)]
    simp [assoc]
  have hup6 : ∀ k, 600 ≤ k → assoc HH k = assoc h6 k := fun k hk => by
    show assoc (Γ.gh ++ (490, .world) :: h6) k = _
    rw [assoc_app, hnlow k (by omega)]
    have : Nat.beq 490 k = false := by
      cases hb : Nat.beq 490 k with
      | false => rfl
      | true => have := Nat.eq_of_beq_eq_true hb; omega
    simp only [assoc, this]
  let ρ1 : Nat → Pl := fun k => if k < 490 then ρg k else if k < 600 then { blk := 0, off := 0, cap := 0, rel := RoD w (OutB w M') } else ρ (ks.getD (k - 600) 0)
  have hρg : ∀ k, k < 490 → ρ1 k = ρg k := fun k hk => by simp [ρ1, hk]
  have hρ6 : ∀ i, ρ1 (600 + i) = ρ (ks.getD i 0) := fun i => by
    have h1 : ¬ (600 + i < 490) := by omega
    have h2 : ¬ (600 + i < 600) := by omega
    simp only [ρ1, h1, h2, if_false]
    rw [Nat.add_sub_cancel_left]
  have hmk : ∀ i, i < ks.length → ks.getD i 0 ∈ ks := fun i hi => by
    rw [List.getD_eq_getElem?_getD, List.getElem?_eq_getElem hi]
    exact List.getElem_mem hi
  have hinj : ∀ i i', i < ks.length → i' < ks.length → i ≠ i' → ks.getD i 0 ≠ ks.getD i' 0 := fun i i' hi hi' hne e => by
    rw [List.getD_eq_getElem?_getD, List.getD_eq_getElem?_getD, List.getElem?_eq_getElem hi, List.getElem?_eq_getElem hi'] at e
    have e : ks[i] = ks[i'] := e
    rcases Nat.lt_or_gt_of_ne hne with h | h
    · exact List.pairwise_iff_getElem.1 hnd i i' hi hi' h e
    · exact List.pairwise_iff_getElem.1 hnd i' i hi' hi h e.symm
  refine ⟨ρ1, ⟨⟨fun k b hb => ?_, fun k k' ro ro' l1 l2 e1 e2 hkk hr c1 c2 => ?_, fun k ro l1 e1 c1 => ?_⟩, FrameW.refl _ _, fun k l1 e1 c1 => ?_, fun k e1 => ?_, fun k l1 e1 c1 => ?_⟩, ⟨fun g hg => ?_, fun g b hgb => ?_⟩, by unfold dmOf; rw [h490]; rfl, by simp [ρ1], fun i hi => ⟨?_, hρ6 i⟩⟩
  · rcases hat k b hb with ⟨hk, hb'⟩ | ⟨rfl, rfl⟩ | ⟨hk, hb'⟩
    · refine (g1.heap.blk k b hb').of_block (fun j hj => ?_) (fun j hj => ?_) (hρg k hk) (fun _ _ _ _ => rfl)
      · unfold dmOf at hj ⊢
        obtain ⟨b', hb''⟩ := Option.isSome_iff_exists.1 hj
        rw [hup j b' hb'']; rfl
      · unfold dmOf at hj
        obtain ⟨b', hb''⟩ := Option.isSome_iff_exists.1 hj
        exact hρg j (hlow j b' hb'')
    · trivial
    · obtain ⟨i, rfl, hi, l, l', rfl, hl, hd⟩ := h1 k b hb'
      obtain ⟨cs, hcs, hcl, hra, hth⟩ := hm.heap.blk _ _ hl
      exact ⟨cs, hd _ _ cs hcs, by rw [hρ6]; exact hcl, by rw [hρ6]; exact hra, fun _ => by rw [hρ6]; exact hth rfl⟩
  · have hk0 : ∀ a b lx, assoc HH a = some (.segs b lx) → 0 < (ρ1 a).cap → (a < 490 ∧ b = true ∧ ¬ M' (ρ1 a).blk) ∨ (∃ i, a = 600 + i ∧ i < ks.length ∧ M' (ρ1 a).blk) := fun a b lx ha hca => by
      rcases hat a _ ha with ⟨ha1, ha'⟩ | ⟨_, ha'⟩ | ⟨ha1, ha'⟩
      · obtain ⟨lz, ez⟩ := hro a _ ha'
        simp only [SB.segs.injEq] at ez
        exact .inl ⟨ha1, ez.1, by rw [hρg a ha1, (g3 a).1]; exact hne a _ (assoc_mem ha')⟩
      · cases ha'
      · obtain ⟨i, rfl, hi, l, l', e, hl, hd⟩ := h1 a _ ha'
        exact .inr ⟨i, rfl, hi, (hM' _).2 ⟨ks.getD i 0, hmk i hi, by rw [hρ6] at hca; exact hca, by rw [hρ6]⟩⟩
    rcases hk0 k ro l1 e1 c1 with ⟨a1, a2, a3⟩ | ⟨i, rfl, hi, a3⟩
    · rcases hk0 k' ro' l2 e2 c2 with ⟨b1, b2, b3⟩ | ⟨i', rfl, hi', b3⟩
      · rw [a2, b2] at hr; rcases hr with hr | hr <;> cases hr
      · intro e; rw [e] at a3; exact a3 b3
    · rcases hk0 k' ro' l2 e2 c2 with ⟨b1, b2, b3⟩ | ⟨i', rfl, hi', b3⟩
      · intro e; rw [e] at a3; exact b3 a3
      · rw [hρ6] at c1 ⊢
        rw [hρ6] at c2 ⊢
        obtain ⟨l, hl⟩ := hks _ (hmk i hi)
        obtain ⟨l', hl'⟩ := hks _ (hmk i' hi')
        exact hm.heap.sep _ _ false false l l' hl hl' (hinj i i' hi hi' (fun e => hkk (by rw [e]))) (.inl rfl) c1 c2
  · rcases hat k _ e1 with ⟨h1', h1''⟩ | ⟨_, h1'⟩ | ⟨hk, h1'⟩
    · rw [hρg k h1'] at c1 ⊢; exact g1.heap.lt k ro l1 h1'' c1
    · cases h1'
    · obtain ⟨i, rfl, hi, l, l', e, hl, hd⟩ := h1 k _ h1'
      rw [hρ6] at c1 ⊢
      exact hm.heap.lt _ _ _ hl c1
  · rcases hat k _ e1 with ⟨h1', h1''⟩ | ⟨_, h1'⟩ | ⟨hk, h1'⟩
    · obtain ⟨lz, ez⟩ := hro k _ h1''
      simp only [SB.segs.injEq] at ez
      cases ez.1
    · cases h1'
    · obtain ⟨i, rfl, hi, l, l', e, hl, hd⟩ := h1 k _ h1'
      exact .inr ((hM' _).2 ⟨ks.getD i 0, hmk i hi, by rw [hρ6] at c1; exact c1, by rw [hρ6]⟩)
  · rcases hat k _ e1 with ⟨h1', h1''⟩ | ⟨rfl, _⟩ | ⟨hk, h1'⟩
    · obtain ⟨lz, ez⟩ := hro k _ h1''; cases ez
    · simp [ρ1]
    · obtain ⟨i, rfl, hi, l, l', e, hl, hd⟩ := h1 k _ h1'; cases e
  · rcases hat k _ e1 with ⟨h1', h1''⟩ | ⟨_, h1'⟩ | ⟨hk, h1'⟩
    · obtain ⟨lz, ez⟩ := hro k _ h1''
      simp only [SB.segs.injEq] at ez
      cases ez.1
    · cases h1'
    · obtain ⟨i, rfl, hi, l, l', e, hl, hd⟩ := h1 k _ h1'
      rw [hρ6] at c1 ⊢
      exact hm.clean _ _ hl c1
  · have hdm : dmOf (assoc Γ.gh) g := assoc_dm (by rw [← hgl]; exact hg)
    unfold dmOf at hdm
    obtain ⟨b', hb''⟩ := Option.isSome_iff_exists.1 hdm
    refine ⟨by unfold dmOf; rw [hup g b' hb'']; rfl, ?_, ?_⟩
    · rw [hρg g (hlow g b' hb'')]; exact (g3 g).1
    · rw [hρg g (hlow g b' hb'')]; exact (g3 g).2
  · obtain ⟨lz, vz, q0, q1, q2, _, q4⟩ := g2 g b hgb
    exact ⟨lz, vz, q0, q1, q2, hne g b hgb, q4⟩
  · unfold dmOf
    rw [hup6 _ (by omega)]
    exact h2 i hi

/-- The contract of a function that the evaluator has run. -/
theorem call_gen (hΓ : TabOk P Γ) (hgl : Γ.gl = keysOf Γ.gh) (hlow : ∀ g ∈ keysOf Γ.gh, g < 490) {f : FuncId} {fn : Func} (hf : P.funcs[f]? = some fn) (hn : (fn.name == "runtime.NumGoroutine") = false) (hb : fn.body.isNone = false)
    (ms : List Md) (spec : List AV → Option (List Prop × List RV × List (Option (List Seg))))
    (h : ∀ avs p rvs fin, spec avs = some (p, rvs, fin) → AllP p → FactA avs → ∃ args' h6 L inv, okA 600 avs args' h6 ∧ args'.length ≤ fn.ntmps ∧ VcG fin.length Γ fn L (Γ.gh ++ (490, .world) :: h6) args' (fun rvs' fin' => eqRVs rvs' rvs ∧ eqFin fin' fin) inv) : CallOk P Γ.gh f (genCtr ms spec) := by
  intro stamp args H rs rs' d vs w0 M ρ w hG hc hp hD hm
  obtain ⟨hnd0, f0, hget, hf0⟩ := genCtr_run hc
  have hnd := nodupN_iff hnd0
  generalize hks : ownKeys ms args = ks at *
  let M' : Nat → Prop := fun b => ∃ k ∈ ks, (∃ l, H k = some (.segs false l)) ∧ 0 < (ρ k).cap ∧ b = (ρ k).blk
  have hB : BanOk w0 M ρ H ks M' := ⟨fun key ro l hban hkey hc hb => by
    obtain ⟨k, hk, ⟨l', hl'⟩, hc', e⟩ := hb
    have hne : key ≠ k := fun e => by subst e; rw [memN_iff.2 hk] at hban; cases hban
    exact hm.heap.sep key k ro false l l' hkey hl' hne (.inr rfl) hc hc' e, fun b hb hnM hb' => by
    obtain ⟨k, hk, ⟨l', hl'⟩, hc', rfl⟩ := hb'
    rcases hm.own k l' hl' hc' with h | h
    · omega
    · exact hnM h⟩
  obtain ⟨p, avs, rs1, hrun, hAs⟩ := getA_sound P hm hB ms args vs f0 d rs rs' hD hget
  obtain ⟨p', rvs, fin, ws, hs, hws, ho, hcase⟩ := hf0 p avs rs1 hrun
  simp only [Bool.and_eq_true] at ho
  have hsmall := Nat.le_of_ble_eq_true ho.2
  have ho := ho.1
  have hpp : AllP p ∧ AllP p' := by
    rcases hcase with ⟨_, rfl⟩ | ⟨l, _, _, rfl⟩ <;> exact AllP.append (l := p) (r := p') hp
  have hA := hAs hpp.1
  rw [hks] at hA
  have hkeys := AsD.keys avs vs ks hA
  obtain ⟨args', h6, L, inv, k1, k2, k3⟩ := h avs p' rvs fin hs hpp.2 (AsD.fact hm avs vs ks hA)
  have hM'' : ∀ b, M' b ↔ ∃ k ∈ ks, 0 < (ρ k).cap ∧ b = (ρ k).blk := fun b => ⟨fun ⟨k, a, _, c⟩ => ⟨k, a, c⟩, fun ⟨k, a, c⟩ => ⟨k, a, hkeys k a, c⟩⟩
  obtain ⟨hh1, hh2⟩ := okA_heap avs vs ks 600 args' h6 hA k1
  obtain ⟨ρ1, m1, m2, m3, m4, m5⟩ := gen_mem hG hgl hlow hm hkeys hnd hM'' hh1 hh2
  have hargs := okA_args m3 m4 avs vs ks 600 args' h6 hA k1 m5
  refine .inr ⟨f, _, GoFn.run ⟨fn, hf, hn, hb⟩ _ _, (vcG_calls hΓ hf k3 k2 m2 m1 hargs).mono fun e w' he => ?_⟩
  obtain ⟨x, v, h', ρ', rfl, r1, r2, r3, r4⟩ := he
  obtain ⟨rvs', fin', ⟨t1, t2⟩, t3, t4, t5⟩ := kvG_sound r3 r2 r1
  obtain ⟨pl, u1, u2⟩ := res_of r3 t3 t1 ho
  have hfl := finW_len hws
  obtain ⟨up1, up2⟩ := finW_upd hws hnd H
  have hρ6 : ∀ i, i < ks.length → ρ' (600 + i) = ρ (ks.getD i 0) := fun i hi => by
    rw [(r4 _ (m5 i hi).1).2, (m5 i hi).2]
  have hmk : ∀ i, i < ks.length → ks.getD i 0 ∈ ks := fun i hi => by
    rw [List.getD_eq_getElem?_getD, List.getElem?_eq_getElem hi]
    exact List.getElem_mem hi
  have hidx : ∀ k ∈ ks, ∃ i, i < ks.length ∧ ks.getD i 0 = k := fun k hk => by
    obtain ⟨i, hi, e⟩ := List.getElem_of_mem hk
    exact ⟨i, hi, by rw [List.getD_eq_getElem?_getD, List.getElem?_eq_getElem hi]; exact e⟩
  have hMo : ∀ b, M' b → w0.heap.size ≤ b ∨ M b := fun b hb => by
    obtain ⟨k, hk, ⟨l, hl⟩, hc, rfl⟩ := hb
    exact hm.own k l hl hc
  -- the records, at the end
  have hrec : ∀ i, i < ks.length → ∀ l', fin.getD i none = some l' → ∃ l, assoc h' (600 + i) = some (.segs false l) ∧ eqSegs l l' := fun i hi l' hl' => by
    obtain ⟨l, q1, q2⟩ := eqFin_at fin' fin i t2 l' hl'
    have := finH_at fin' 600 i t4 (by omega)
    rw [q1] at this
    exact ⟨l, this, q2⟩
  have main : ∀ (T : Nat → Prop) (H' : Nat → Option SB) (ρ'' : Nat → Pl), (∀ k, T k ↔ k ∈ ks ∨ (k = stamp ∧ frOf rvs ≠ none)) → (frOf rvs ≠ none → H stamp = none) → (∀ k, k ∉ ks → k ≠ stamp → H' k = H k) → (frOf rvs = none → ∀ k, k ∉ ks → H' k = H k) →
      (∀ i, i < ks.length → H' (ks.getD i 0) = some (finB (fin.getD i none))) → (∀ l, frOf rvs = some l → H' stamp = some (.segs false l)) → (∀ k, k ≠ stamp → ρ'' k = ρ k) → (frOf rvs = none → ρ'' = ρ) → (frOf rvs ≠ none → ρ'' stamp = pl) → Mem w0 M ρ'' H' w' := by
    intro T H' ρ'' hTd hst hk1 hk2 hk3 hk4 hr1 hr2 hr3
    have hstk : frOf rvs ≠ none → stamp ∉ ks := fun hne hmem => by
      obtain ⟨l, hl⟩ := hkeys stamp hmem
      rw [hst hne] at hl; cases hl
    have hρk : ∀ k ∈ ks, ρ'' k = ρ k := fun k hk => by
      by_cases e : frOf rvs = none
      · rw [hr2 e]
      · exact hr1 k fun e' => hstk e (e' ▸ hk)
    refine Mem.merge hm r3.frame (T := T) (fun k hk => ?_) (fun k hk => ?_) (fun k hk => ?_) hMo (fun k ro l hk hkk hc hb => ?_) (fun k b hk hkb => ?_) (fun k k' l l' t1 t2 hkk e1 e2 c1 c2 => ?_)
    · have hk := fun h => hk ((hTd k).2 h)
      by_cases e : frOf rvs = none
      · exact hk2 e k fun h => hk (.inl h)
      · exact hk1 k (fun h => hk (.inl h)) fun h => hk (.inr ⟨h, e⟩)
    · by_cases e : frOf rvs = none
      · rw [hr2 e]
      · refine hr1 k fun e' => ?_
        subst e'
        unfold dmOf at hk
        rw [hst e] at hk; cases hk
    · by_cases e : k ∈ ks
      · obtain ⟨i, hi, rfl⟩ := hidx k e
        unfold dmOf; rw [hk3 i hi]; rfl
      · by_cases e' : k = stamp
        · by_cases e2 : frOf rvs = none
          · unfold dmOf at hk ⊢; rw [hk2 e2 k e]; exact hk
          · subst e'
            unfold dmOf at hk
            rw [hst e2] at hk; cases hk
        · unfold dmOf at hk ⊢; rw [hk1 k e e']; exact hk
    · obtain ⟨k0, hk0, ⟨l0, hl0⟩, hc0, e⟩ := hb
      have hne : k ≠ k0 := fun e => hk ((hTd k).2 (.inl (e ▸ hk0)))
      exact hm.heap.sep k k0 ro false l l0 hkk hl0 hne (.inr rfl) hc hc0 e
    · rcases (hTd k).1 hk with hk | ⟨rfl, hne⟩
      · obtain ⟨i, hi, rfl⟩ := hidx k hk
        rw [hk3 i hi] at hkb
        simp only [Option.some.injEq] at hkb
        subst hkb
        cases hfi : fin.getD i none with
        | none => exact ⟨by simp [finB], fun ro l e => by cases e⟩
        | some l' =>
          refine ⟨by simp [finB], fun ro l e => ?_⟩
          simp only [finB, SB.segs.injEq] at e
          obtain ⟨rfl, rfl⟩ := e
          obtain ⟨l1, q1, q2⟩ := hrec i hi l' hfi
          obtain ⟨cs, s1, s2, s3, s4⟩ := r3.segs q1
          rw [hρk _ hk, ← hρ6 i hi]
          refine ⟨rfl, ⟨cs, eqSegs_D l1 l' cs q2 s1, s2, s3, s4 rfl⟩, fun hc => ⟨r3.heap.lt _ _ _ q1 hc, ?_, r3.clean _ _ q1 hc⟩⟩
          exact r3.own _ _ q1 hc
      · cases hfr : frOf rvs with
        | none => exact absurd hfr hne
        | some l0 =>
          rw [hk4 l0 hfr] at hkb
          simp only [Option.some.injEq] at hkb
          subst hkb
          refine ⟨by simp, fun ro l e => ?_⟩
          simp only [SB.segs.injEq] at e
          obtain ⟨rfl, rfl⟩ := e
          obtain ⟨cs, s1, s2, s3, s4, s5⟩ := u1 l0 hfr
          rw [hr3 hne]
          refine ⟨rfl, ⟨cs, s1, s2, s3, s4⟩, fun hc => ?_⟩
          obtain ⟨key, lk, z1, z2, z3, z4⟩ := s5 hc
          rw [z3]
          exact ⟨r3.heap.lt key _ _ z2 z4, r3.own key _ z2 z4, r3.clean key _ z2 z4⟩
    · have hone : ∀ k l, k ∈ ks → H' k = some (.segs false l) → 0 < (ρ'' k).cap → ∃ i, i < ks.length ∧ ks.getD i 0 = k ∧ ∃ l1, assoc h' (600 + i) = some (.segs false l1) ∧ ρ'' k = ρ' (600 + i) := fun k l hk e c => by
        obtain ⟨i, hi, rfl⟩ := hidx k hk
        rw [hk3 i hi] at e
        simp only [Option.some.injEq] at e
        cases hfi : fin.getD i none with
        | none => rw [hfi] at e; cases e
        | some l' =>
          obtain ⟨l1, q1, q2⟩ := hrec i hi l' hfi
          exact ⟨i, hi, rfl, l1, q1, by rw [hρk _ hk, hρ6 i hi]⟩
      have hfr : ∀ l, frOf rvs ≠ none → H' stamp = some (.segs false l) → 0 < (ρ'' stamp).cap → ∃ key l', 1000 ≤ key ∧ assoc h' key = some (.segs false l') ∧ (ρ'' stamp).blk = (ρ' key).blk ∧ 0 < (ρ' key).cap := fun l hne e c => by
        cases hfr : frOf rvs with
        | none => exact absurd hfr hne
        | some l0 =>
          obtain ⟨cs, s1, s2, s3, s4, s5⟩ := u1 l0 hfr
          rw [hr3 hne] at c ⊢
          exact s5 c
      rcases (hTd k).1 t1 with hk | ⟨rfl, hne⟩
      · obtain ⟨i, hi, rfl, la, q1, q2⟩ := hone k l hk e1 c1
        rcases (hTd k').1 t2 with hk' | ⟨rfl, hne⟩
        · obtain ⟨i', hi', rfl, lb, q1', q2'⟩ := hone k' l' hk' e2 c2
          rw [q2] at c1 ⊢
          rw [q2'] at c2 ⊢
          exact r3.heap.sep _ _ false false la lb q1 q1' (fun e => hkk (by rw [show i = i' by omega])) (.inl rfl) c1 c2
        · obtain ⟨key, lk, z1, z2, z3, z4⟩ := hfr l' hne e2 c2
          rw [q2] at c1 ⊢
          rw [z3]
          by_cases e : 600 + i = key
          · exfalso
            omega
          · exact r3.heap.sep _ _ false false la lk q1 z2 e (.inl rfl) c1 z4
      · obtain ⟨key, lk, z1, z2, z3, z4⟩ := hfr l hne e1 c1
        rcases (hTd k').1 t2 with hk' | ⟨rfl, _⟩
        · obtain ⟨i', hi', rfl, lb, q1', q2'⟩ := hone k' l' hk' e2 c2
          rw [q2'] at c2 ⊢
          rw [z3]
          by_cases e : 600 + i' = key
          · exfalso
            omega
          · exact r3.heap.sep _ _ false false lk lb z2 q1' (Ne.symm e) (.inl rfl) z4 c2
        · exact absurd rfl hkk
  rcases hcase with ⟨hfn, rfl⟩ | ⟨l, hfs, hst, rfl⟩
  · refine ⟨v, rfl, ρ, .refl _ _, u2 _ _ _ (fun h => absurd hfn h), ?_⟩
    exact main (fun k => k ∈ ks ∨ (k = stamp ∧ frOf rvs ≠ none)) _ ρ (fun k => .rfl) (fun h => absurd hfn h) (fun k hk _ => up1 k hk) (fun _ k hk => up1 k hk) up2 (fun l hl => by rw [hfn] at hl; cases hl) (fun _ _ => rfl) (fun _ => rfl) (fun h => absurd hfn h)
  · have hstk : stamp ∉ ks := fun hmem => by
      obtain ⟨l, hl⟩ := hkeys stamp hmem
      rw [hst] at hl; cases hl
    obtain ⟨up1', up2'⟩ := finW_upd hws hnd (updH H stamp (.segs false l))
    have hne : frOf rvs ≠ none := by rw [hfs]; simp
    have hH : ∀ k, updsH H ((stamp, .segs false l) :: ws) k = updsH (updH H stamp (.segs false l)) ws k := fun k => rfl
    have hstv : updsH H ((stamp, .segs false l) :: ws) stamp = some (.segs false l) := by rw [hH, up1' stamp hstk, updH_same]
    refine ⟨v, rfl, updP ρ stamp pl, updP_keeps hst, u2 _ _ _ (fun _ => ⟨by unfold dmOf; rw [hstv]; rfl, updP_same _ _ _⟩), ?_⟩
    exact main (fun k => k ∈ ks ∨ (k = stamp ∧ frOf rvs ≠ none)) _ (updP ρ stamp pl) (fun k => .rfl) (fun _ => hst) (fun k hk hks => by rw [hH, up1' k hk, updH_ne hks]) (fun h => absurd h hne) (fun i hi => by rw [hH]; exact up2' i hi) (fun l' hl => by rw [hfs] at hl; simp only [Option.some.injEq] at hl; subst hl; exact hstv) (fun k hk => updP_ne hk) (fun h => absurd h hne) (fun _ => updP_same _ _ _)

end
end Go.Gx

/- Contracts in general: another telling of the same. -/
namespace Go.Gx
open Go.RowKit
set_option linter.unusedVariables false

def RP.bind {α β : Type} : RP α → (α → RP β) → RP β
  | .ret a, f => f a
  | .fail, _ => .fail
  | .get k h, f => .get k fun b => (h b).bind f

theorem RP.run_bind {α β : Type} {H : Nat → Option SB} (f : α → RP β) : ∀ (g : RP α) (rs : List Nat), (g.bind f).run H rs = (match g.run H rs with | some (a, rs1) => (f a).run H rs1 | none => none)
  | .ret a, rs => rfl
  | .fail, rs => rfl
  | .get k h, rs => by simp only [RP.bind, RP.run]; exact RP.run_bind f (h (H k)) (k :: rs)

/-- Does it only read, and hand on what it has read? -/
def Uni {α : Type} (F : (α → RP Delta) → RP Delta) : Prop := ∃ g : RP α, ∀ f, F f = g.bind f

theorem Uni.fail {α : Type} : Uni (α := α) fun _ => .fail := ⟨.fail, fun _ => rfl⟩
theorem Uni.ret {α : Type} (a : α) : Uni (α := α) fun f => f a := ⟨.ret a, fun _ => rfl⟩
theorem Uni.get {α : Type} (k : Nat) {F : Option SB → (α → RP Delta) → RP Delta} (h : ∀ b, Uni (F b)) : Uni fun f => .get k fun b => F b f :=
  ⟨.get k fun b => Classical.choose (h b), fun f => by
    simp only [RP.bind]
    congr 1
    funext b
    exact Classical.choose_spec (h b) f⟩
theorem Uni.bind {α β : Type} {F : (α → RP Delta) → RP Delta} (hF : Uni F) {G : α → (β → RP Delta) → RP Delta} (hG : ∀ a, Uni (G a)) : Uni fun f => F fun a => G a f := by
  obtain ⟨g, hg⟩ := hF
  have bb : ∀ {α β γ : Type} (g : RP α) (h : α → RP β) (f : β → RP γ), (g.bind h).bind f = g.bind fun a => (h a).bind f := by
    intro α β γ g h f
    induction g with
    | ret a => rfl
    | fail => rfl
    | get k r ih => simp only [RP.bind]; congr 1; funext b; exact ih b
  have hG' : ∀ a, ∃ k : RP β, ∀ f, G a f = k.bind f := hG
  refine ⟨g.bind fun a => Classical.choose (hG' a), fun f => ?_⟩
  show F (fun a => G a f) = _
  rw [hg, bb]
  congr 1
  funext a
  exact Classical.choose_spec (hG' a) f

theorem uni_withCon (x : SV) : Uni (α := List Prop × Con) fun f => withCon x fun p q => f (p, q) := by
  cases x <;> simp only [withCon] <;> try exact .fail
  case s v => exact .ret _
  case sl key c est off len =>
    refine .get _ fun b => ?_
    match b with
    | some (.segs ro l) =>
      simp only
      cases segAt l c with
      | none => exact .fail
      | some gj =>
        obtain ⟨g, j⟩ := gj
        cases j with
        | succ j => exact .fail
        | zero =>
          simp only
          cases conSeg g est off len with
          | none => exact .fail
          | some pq => exact .ret (pq.1, pq.2)
    | some .gone => exact .fail
    | some .world => exact .fail
    | none => exact .fail
  case ro key sh d =>
    refine .get _ fun b => ?_
    match b with
    | some .world => cases sh <;> first | exact .fail | exact .ret _
    | some (.segs ro l) => exact .fail
    | some .gone => exact .fail
    | none => exact .fail

theorem uni_each {g : SV → (List Prop → RO → RP Delta) → RP Delta} (hg : ∀ x, Uni (α := List Prop × RO) fun f => g x fun p d => f (p, d)) : ∀ xs : List SV, Uni (α := List Prop × List RO) fun f => eachRO g xs fun p d => f (p, d)
  | [] => .ret ([], [])
  | x :: r => by
    simp only [eachRO]
    exact Uni.bind (F := fun f => g x fun p d => f (p, d)) (hg x) (G := fun a f => eachRO g r fun p' ds => f (a.1 ++ p', a.2 :: ds)) fun a =>
      Uni.bind (F := fun f => eachRO g r fun p d => f (p, d)) (uni_each hg r) (G := fun b f => f (a.1 ++ b.1, a.2 :: b.2)) fun b => .ret _

theorem uni_view (ban : List Nat) : ∀ (sh : Sh) (x : SV), Uni (α := List Prop × RO) fun f => viewRO ban sh x fun p d => f (p, d)
  | .ints k, x => by
    simp only [viewRO]
    cases x <;> try exact .fail
    case nsl => exact .ret _
    case ro key sh d =>
      refine .get _ fun b => ?_
      match b with
      | some .world => simp only; cases shEq sh (.ints k) <;> first | exact .fail | exact .ret _
      | some (.segs ro l) => exact .fail
      | some .gone => exact .fail
      | none => exact .fail
    case sl key c est off len =>
      simp only
      cases memN key ban with
      | true => exact .fail
      | false =>
        refine Uni.bind (F := fun f => withCon (.sl key c est off len) fun p q => f (p, q)) (uni_withCon _) (G := fun a f => match a.2 with | .ints k' l => (match keq k' k with | true => f (a.1, RO.l l) | false => .fail) | _ => .fail) fun a => ?_
        obtain ⟨p, q⟩ := a
        cases q with
        | arrs => exact .fail
        | ints k' l => simp only; cases keq k' k <;> first | exact .fail | exact .ret _
  | .l e, x => by
    simp only [viewRO]
    cases x <;> try exact .fail
    case nsl => exact .ret _
    case ro key sh d =>
      refine .get _ fun b => ?_
      match b with
      | some .world => simp only; cases shEq sh (.l e) <;> first | exact .fail | exact .ret _
      | some (.segs ro l) => exact .fail
      | some .gone => exact .fail
      | none => exact .fail
    case sl key c est off len =>
      show Uni fun f => (match (SV.sl key c est off len) with
        | .ro key sh d => _
        | .nsl => _
        | .sl key 0 1 ⟨true, .ofNat 0⟩ ⟨true, .ofNat n⟩ => _
        | _ => _)
      split
      · rename_i h; cases h
      · rename_i h; cases h
      · rename_i key' n h
        cases memN key' ban with
        | true => exact .fail
        | false =>
          refine .get _ fun b => ?_
          match b with
          | some .world => exact .fail
          | some .gone => exact .fail
          | none => exact .fail
          | some (.segs ro l) =>
            simp only
            cases onesOf l with
            | none => exact .fail
            | some xs =>
              simp only
              cases (Nat.beq xs.length n && Nat.blt 0 n) with
              | false => exact .fail
              | true => exact Uni.bind (F := fun f => eachRO (viewRO ban e) xs fun p d => f (p, d)) (uni_each (fun x => uni_view ban e x) xs) (G := fun a f => f (a.1, RO.r a.2)) fun a => .ret _
      · exact .fail
  | .i _, x => by simp only [viewRO]; exact .fail
  | .tb, x => by simp only [viewRO]; exact .fail
  | .ts, x => by simp only [viewRO]; exact .fail
  | .arr _ _, x => by simp only [viewRO]; exact .fail
  | .r _, x => by simp only [viewRO]; exact .fail

theorem uni_getA (ban : List Nat) : ∀ (ms : List Md) (xs : List SV), Uni (α := List Prop × List AV) fun f => getA ban ms xs fun p a => f (p, a)
  | [], [] => .ret ([], [])
  | [], _ :: _ => .fail
  | .v :: _, [] => .fail
  | .d _ :: _, [] => .fail
  | .m :: _, [] => .fail
  | .o :: _, [] => .fail
  | .v :: ms, x :: xs => by
    simp only [getA]
    exact Uni.bind (F := fun f => getA ban ms xs fun p a => f (p, a)) (uni_getA ban ms xs) (G := fun b f => f (b.1, .v x :: b.2)) fun b => .ret _
  | .d sh :: ms, x :: xs => by
    simp only [getA]
    exact Uni.bind (F := fun f => viewRO ban sh x fun p d => f (p, d)) (uni_view ban sh x) (G := fun a f => getA ban ms xs fun p' b => f (a.1 ++ p', .d sh a.2 :: b)) fun a =>
      Uni.bind (F := fun f => getA ban ms xs fun p a => f (p, a)) (uni_getA ban ms xs) (G := fun b f => f (a.1 ++ b.1, .d sh a.2 :: b.2)) fun b => .ret _
  | .m :: ms, x :: xs => by
    simp only [getA]
    cases x <;> try exact .fail
    case np => exact Uni.bind (F := fun f => getA ban ms xs fun p a => f (p, a)) (uni_getA ban ms xs) (G := fun b f => f (b.1, .v .np :: b.2)) fun b => .ret _
    case p key c =>
      cases c with
      | succ c => exact .fail
      | zero =>
        refine .get _ fun b => ?_
        match b with
        | some .world => exact .fail
        | some .gone => exact .fail
        | none => exact .fail
        | some (.segs true l) => exact .fail
        | some (.segs false l) => exact Uni.bind (F := fun f => getA ban ms xs fun p a => f (p, a)) (uni_getA ban ms xs) (G := fun b f => f (b.1, .m l :: b.2)) fun b => .ret _
  | .o :: ms, x :: xs => by
    simp only [getA]
    cases x <;> try exact .fail
    case nsl => exact Uni.bind (F := fun f => getA ban ms xs fun p a => f (p, a)) (uni_getA ban ms xs) (G := fun b f => f (b.1, .v .nsl :: b.2)) fun b => .ret _
    case sl key c est off len =>
      show Uni fun f => (match (SV.sl key c est off len) with
        | .sl key 0 est ⟨true, .ofNat 0⟩ len => _
        | .nsl => _
        | _ => _)
      split
      · rename_i key' est' len' h
        refine .get _ fun b => ?_
        match b with
        | some .world => exact .fail
        | some .gone => exact .fail
        | none => exact .fail
        | some (.segs true l) => exact .fail
        | some (.segs false []) => exact .fail
        | some (.segs false (_ :: _ :: _)) => exact .fail
        | some (.segs false [g]) =>
          simp only
          cases rowCon g with
          | none => exact .fail
          | some q =>
            simp only
            cases Nat.beq est' (conSize q) with
            | false => exact .fail
            | true => exact Uni.bind (F := fun f => getA ban ms xs fun p a => f (p, a)) (uni_getA ban ms xs) (G := fun b f => f ((len'.z = ((conLen q : Nat) : Int)) :: b.1, .o q :: b.2)) fun b => .ret _
      · rename_i h; cases h
      · exact .fail

section
variable {P : Program}

/-- A contract's answers, told by other contracts of the same function. -/
theorem gen_weaken {gh : Heap} {f : FuncId} {ms : List Md} {spec : List AV → Option (List Prop × List RV × List (Option (List Seg)))}
    (h : ∀ av p rvs fin, spec av = some (p, rvs, fin) → AllP p → ∃ spec' p', CallOk P gh f (genCtr ms spec') ∧ spec' av = some (p', rvs, fin) ∧ AllP p') : CallOk P gh f (genCtr ms spec) := by
  intro stamp args H rs rs' d vs w0 M ρ w hG hc hp hD hm
  obtain ⟨g, hg⟩ := uni_getA (ownKeys ms args) ms args
  have run : ∀ spec : List AV → Option (List Prop × List RV × List (Option (List Seg))), genCtr ms spec stamp args = (match nodupN (ownKeys ms args) with
      | true => g.bind (fun x => match spec x.2 with
        | some (p', rvs, fin) => (match finW (ownKeys ms args) fin, oneFr rvs && Nat.ble fin.length 100 with
          | some ws, true => (match frOf rvs with
            | none => .ret ⟨x.1 ++ p', resOf stamp rvs, ws, true⟩
            | some l => .get stamp fun b => (match b with
              | none => .ret ⟨x.1 ++ p', resOf stamp rvs, (stamp, .segs false l) :: ws, true⟩
              | some _ => .fail))
          | _, _ => .fail)
        | none => .fail)
      | false => .fail) := fun spec => by
    unfold genCtr
    simp only
    cases nodupN (ownKeys ms args) with
    | false => rfl
    | true => exact hg fun x => match spec x.2 with
        | some (p', rvs, fin) => (match finW (ownKeys ms args) fin, oneFr rvs && Nat.ble fin.length 100 with
          | some ws, true => (match frOf rvs with
            | none => .ret ⟨x.1 ++ p', resOf stamp rvs, ws, true⟩
            | some l => .get stamp fun b => (match b with
              | none => .ret ⟨x.1 ++ p', resOf stamp rvs, (stamp, .segs false l) :: ws, true⟩
              | some _ => .fail))
          | _, _ => .fail)
        | none => .fail
  rw [run] at hc
  cases hn : nodupN (ownKeys ms args) with
  | false => rw [hn] at hc; simp [RP.run] at hc
  | true =>
    rw [hn] at hc
    simp only [RP.run_bind] at hc
    cases hr : g.run H rs with
    | none => rw [hr] at hc; cases hc
    | some pa =>
      obtain ⟨⟨p, av⟩, rs1⟩ := pa
      rw [hr] at hc
      simp only at hc
      cases hs : spec av with
      | none => rw [hs] at hc; simp [RP.run] at hc
      | some t =>
        obtain ⟨p', rvs, fin⟩ := t
        rw [hs] at hc
        simp only at hc
        have hpp : AllP p' := by
          split at hc
          · split at hc
            · have e := run_ret hc; subst e; exact (AllP.append (l := p) (r := p') hp).2
            · simp only [RP.run] at hc
              split at hc
              · have e := run_ret hc; subst e; exact (AllP.append (l := p) (r := p') hp).2
              · simp [RP.run] at hc
          · simp [RP.run] at hc
        obtain ⟨spec', p'', hok, hs', hp''⟩ := h av p' rvs fin hs hpp
        have happ : ∀ a b : List Prop, AllP a → AllP b → AllP (a ++ b) := by
          intro a b ha hb
          induction a with
          | nil => exact hb
          | cons x r ih => exact ⟨ha.1, ih ha.2⟩
        have hrun : (genCtr ms spec' stamp args).run H rs = some (⟨p ++ p'', d.v, d.ws, d.gen⟩, rs') ∧ AllP p := by
          rw [run, hn]
          simp only [RP.run_bind, hr, hs']
          split at hc
          · rename_i ws e1 e2
            split at hc
            · rename_i e3
              have e := run_ret hc
              simp only [RP.run, Option.some.injEq, Prod.mk.injEq] at hc
              subst e
              exact ⟨by simp only [RP.run, hc.2], (AllP.append (l := p) (r := p') hp).1⟩
            · rename_i l e3
              simp only [RP.run] at hc ⊢
              split at hc
              · rename_i e4
                have e := run_ret hc
                simp only [RP.run, Option.some.injEq, Prod.mk.injEq] at hc
                subst e
                exact ⟨by simp only [RP.run, hc.2], (AllP.append (l := p) (r := p') hp).1⟩
              · simp [RP.run] at hc
          · simp [RP.run] at hc
        have hfin := hok stamp args H rs rs' ⟨p ++ p'', d.v, d.ws, d.gen⟩ vs w0 M ρ w hG hrun.1 (happ _ _ hrun.2 hp'') hD hm
        exact hfin

end
end Go.Gx

/- The frames: types. -/
namespace Go.Gx
open Go.Proofs
set_option linter.unusedVariables false

def tys : List (Nat × TInfo) := [
  (2, ⟨(.int .i64), 0, 8⟩),
  (3, ⟨(.int .i64), 0, 8⟩),
  (4, ⟨.bool, 0, 1⟩),
  (5, ⟨(.int .u8), 0, 1⟩),
  (9, ⟨.str, 0, 16⟩),
  (12, ⟨(.int .u64), 0, 8⟩),
  (13, ⟨(.struct [.str, (.int .u64)]), 0, 24⟩),
  (20, ⟨.iface, 0, 16⟩),
  (21, ⟨(.int .i32), 0, 4⟩),
  (22, ⟨.slice, 26, 24⟩),
  (23, ⟨(.struct [.slice, .slice]), 0, 48⟩),
  (24, ⟨(.struct [.slice, .slice]), 0, 48⟩),
  (26, ⟨.slice, 5, 24⟩),
  (35, ⟨(.int .u64), 0, 8⟩),
  (39, ⟨(.arr 0 .ptr), 0, 0⟩),
  (43, ⟨(.int .u32), 0, 4⟩),
  (47, ⟨.ptr, 5, 8⟩)]
def gh : Heap := []
def Γ0 : Tab := ⟨tys, [], [], gh⟩
theorem mixed : Try.prog.follows .mixedOrders = true := by kernel_rfl
theorem tys_ok : tabB Try.prog tys = true := by kernel_rfl
theorem Γ0_ok : TabOk Try.prog Γ0 := .nil mixed tys_ok
theorem need_of {p : Prop} (h : p) : Need p := h
theorem glow : ∀ g ∈ keysOf gh, g < 490 := fun g hg => by cases hg
theorem wrap_i64 {x : Int} (h : -9223372036854775808 ≤ x ∧ x < 9223372036854775808) : IntKind.i64.wrap x = x := wrap_of_InR h
end Go.Gx

/- Eight bytes put behind a list. -/
namespace Go.Sp
open Go.Gx
/-- A number's eight bytes. -/
def le8 (i : Int) : List Int := [IntKind.u8.wrap (shrI .i64 i 0), IntKind.u8.wrap (shrI .i64 i 8), IntKind.u8.wrap (shrI .i64 i 16), IntKind.u8.wrap (shrI .i64 i 24), IntKind.u8.wrap (shrI .i64 i 32), IntKind.u8.wrap (shrI .i64 i 40), IntKind.u8.wrap (shrI .i64 i 48), IntKind.u8.wrap (shrI .i64 i 56)]
end Go.Sp
namespace Go.Gx
open Go.Proofs Go.Sp
set_option linter.unusedVariables false
set_option maxRecDepth 100000

def vc13o (l : List Int) (n : Int) (K : List RV → List (Option (List Seg)) → Prop) (Q : Nat → List Pv → Prop) : Prop := fnVcG 1 Γ0 Try.f13 [] [.sl 600 0 1 ⟨true, 0⟩ ⟨false, (l.length : Int)⟩, .i .i64 ⟨false, n⟩] (gh ++ (490, .world) :: [(600, .segs false [.rowI .u8 l])]) K Q
def vc13n (n : Int) (K : List RV → List (Option (List Seg)) → Prop) (Q : Nat → List Pv → Prop) : Prop := fnVcG 0 Γ0 Try.f13 [] [.nsl, .i .i64 ⟨false, n⟩] (gh ++ (490, .world) :: []) K Q
theorem vc13o_eq : ∀ (l : List Int) (n : Int) (K : List RV → List (Option (List Seg)) → Prop) (Q : Nat → List Pv → Prop), vc13o l n K Q = ∀ (x1 : Int), x1 = shrI IntKind.i64 n (0 : Int) → InR IntKind.i64 x1 → ∀ (x2 : Int), x2 = IntKind.u8.wrap x1 → InR IntKind.u8 x2 → Need ((((l ++ List.take (1 : Nat) (List.drop (0 : Nat) [x2])).length : Nat) : Int) * (1 : Int) ≤ (70368744177664 : Int)) ∧ Need (((l.length : Nat) : Int) = ((l.length : Nat) : Int)) ∧ Need ((1 : Int) ≤ (([x2].length : Nat) : Int)) ∧ ∀ (x3 : List Int), x3 = l ++ List.take (1 : Nat) (List.drop (0 : Nat) [x2]) → AllR IntKind.u8 x3 → ∀ (x4 : Int), x4 = (((l ++ List.take (1 : Nat) (List.drop (0 : Nat) [x2])).length : Nat) : Int) → (0 : Int) ≤ x4 → InR IntKind.i64 x4 → ∀ (x5 : Int), x5 = shrI IntKind.i64 n (8 : Int) → InR IntKind.i64 x5 → ∀ (x6 : Int), x6 = IntKind.u8.wrap x5 → InR IntKind.u8 x6 → Need ((((x3 ++ List.take (1 : Nat) (List.drop (0 : Nat) [x6])).length : Nat) : Int) * (1 : Int) ≤ (70368744177664 : Int)) ∧ Need (x4 = ((x3.length : Nat) : Int)) ∧ Need ((1 : Int) ≤ (([x6].length : Nat) : Int)) ∧ ∀ (x7 : List Int), x7 = x3 ++ List.take (1 : Nat) (List.drop (0 : Nat) [x6]) → AllR IntKind.u8 x7 → ∀ (x8 : Int), x8 = (((x3 ++ List.take (1 : Nat) (List.drop (0 : Nat) [x6])).length : Nat) : Int) → (0 : Int) ≤ x8 → InR IntKind.i64 x8 → ∀ (x9 : Int), x9 = shrI IntKind.i64 n (16 : Int) → InR IntKind.i64 x9 → ∀ (x10 : Int), x10 = IntKind.u8.wrap x9 → InR IntKind.u8 x10 → Need ((((x7 ++ List.take (1 : Nat) (List.drop (0 : Nat) [x10])).length : Nat) : Int) * (1 : Int) ≤ (70368744177664 : Int)) ∧ Need (x8 = ((x7.length : Nat) : Int)) ∧ Need ((1 : Int) ≤ (([x10].length : Nat) : Int)) ∧ ∀ (x11 : List Int), x11 = x7 ++ List.take (1 : Nat) (List.drop (0 : Nat) [x10]) → AllR IntKind.u8 x11 → ∀ (x12 : Int), x12 = (((x7 ++ List.take (1 : Nat) (List.drop (0 : Nat) [x10])).length : Nat) : Int) → (0 : Int) ≤ x12 → InR IntKind.i64 x12 → ∀ (x13 : Int), x13 = shrI IntKind.i64 n (24 : Int) → InR IntKind.i64 x13 → ∀ (x14 : Int), x14 = IntKind.u8.wrap x13 → InR IntKind.u8 x14 → Need ((((x11 ++ List.take (1 : Nat) (List.drop (0 : Nat) [x14])).length : Nat) : Int) * (1 : Int) ≤ (70368744177664 : Int)) ∧ Need (x12 = ((x11.length : Nat) : Int)) ∧ Need ((1 : Int) ≤ (([x14].length : Nat) : Int)) ∧ ∀ (x15 : List Int), x15 = x11 ++ List.take (1 : Nat) (List.drop (0 : Nat) [x14]) → AllR IntKind.u8 x15 → ∀ (x16 : Int), x16 = (((x11 ++ List.take (1 : Nat) (List.drop (0 : Nat) [x14])).length : Nat) : Int) → (0 : Int) ≤ x16 → InR IntKind.i64 x16 → ∀ (x17 : Int), x17 = shrI IntKind.i64 n (32 : Int) → InR IntKind.i64 x17 → ∀ (x18 : Int), x18 = IntKind.u8.wrap x17 → InR IntKind.u8 x18 → Need ((((x15 ++ List.take (1 : Nat) (List.drop (0 : Nat) [x18])).length : Nat) : Int) * (1 : Int) ≤ (70368744177664 : Int)) ∧ Need (x16 = ((x15.length : Nat) : Int)) ∧ Need ((1 : Int) ≤ (([x18].length : Nat) : Int)) ∧ ∀ (x19 : List Int), x19 = x15 ++ List.take (1 : Nat) (List.drop (0 : Nat) [x18]) → AllR IntKind.u8 x19 → ∀ (x20 : Int), x20 = (((x15 ++ List.take (1 : Nat) (List.drop (0 : Nat) [x18])).length : Nat) : Int) → (0 : Int) ≤ x20 → InR IntKind.i64 x20 → ∀ (x21 : Int), x21 = shrI IntKind.i64 n (40 : Int) → InR IntKind.i64 x21 → ∀ (x22 : Int), x22 = IntKind.u8.wrap x21 → InR IntKind.u8 x22 → Need ((((x19 ++ List.take (1 : Nat) (List.drop (0 : Nat) [x22])).length : Nat) : Int) * (1 : Int) ≤ (70368744177664 : Int)) ∧ Need (x20 = ((x19.length : Nat) : Int)) ∧ Need ((1 : Int) ≤ (([x22].length : Nat) : Int)) ∧ ∀ (x23 : List Int), x23 = x19 ++ List.take (1 : Nat) (List.drop (0 : Nat) [x22]) → AllR IntKind.u8 x23 → ∀ (x24 : Int), x24 = (((x19 ++ List.take (1 : Nat) (List.drop (0 : Nat) [x22])).length : Nat) : Int) → (0 : Int) ≤ x24 → InR IntKind.i64 x24 → ∀ (x25 : Int), x25 = shrI IntKind.i64 n (48 : Int) → InR IntKind.i64 x25 → ∀ (x26 : Int), x26 = IntKind.u8.wrap x25 → InR IntKind.u8 x26 → Need ((((x23 ++ List.take (1 : Nat) (List.drop (0 : Nat) [x26])).length : Nat) : Int) * (1 : Int) ≤ (70368744177664 : Int)) ∧ Need (x24 = ((x23.length : Nat) : Int)) ∧ Need ((1 : Int) ≤ (([x26].length : Nat) : Int)) ∧ ∀ (x27 : List Int), x27 = x23 ++ List.take (1 : Nat) (List.drop (0 : Nat) [x26]) → AllR IntKind.u8 x27 → ∀ (x28 : Int), x28 = (((x23 ++ List.take (1 : Nat) (List.drop (0 : Nat) [x26])).length : Nat) : Int) → (0 : Int) ≤ x28 → InR IntKind.i64 x28 → ∀ (x29 : Int), x29 = shrI IntKind.i64 n (56 : Int) → InR IntKind.i64 x29 → ∀ (x30 : Int), x30 = IntKind.u8.wrap x29 → InR IntKind.u8 x30 → Need ((((x27 ++ List.take (1 : Nat) (List.drop (0 : Nat) [x30])).length : Nat) : Int) * (1 : Int) ≤ (70368744177664 : Int)) ∧ Need (x28 = ((x27.length : Nat) : Int)) ∧ Need ((1 : Int) ≤ (([x30].length : Nat) : Int)) ∧ ∀ (x31 : List Int), x31 = x27 ++ List.take (1 : Nat) (List.drop (0 : Nat) [x30]) → AllR IntKind.u8 x31 → ∀ (x32 : Int), x32 = (((x27 ++ List.take (1 : Nat) (List.drop (0 : Nat) [x30])).length : Nat) : Int) → (0 : Int) ≤ x32 → InR IntKind.i64 x32 → Need ((0 : Int) + x32 ≤ ((x31.length : Nat) : Int)) ∧ K [RV.row (Con.ints IntKind.u8 (List.take x32.toNat (List.drop (0 : Nat) x31)))] [none] := by
  intros
  kernel_rfl
theorem vc13n_eq : ∀ (n : Int) (K : List RV → List (Option (List Seg)) → Prop) (Q : Nat → List Pv → Prop), vc13n n K Q = ∀ (x1 : Int), x1 = shrI IntKind.i64 n (0 : Int) → InR IntKind.i64 x1 → ∀ (x2 : Int), x2 = IntKind.u8.wrap x1 → InR IntKind.u8 x2 → Need (((([] ++ List.take (1 : Nat) (List.drop (0 : Nat) [x2])).length : Nat) : Int) * (1 : Int) ≤ (70368744177664 : Int)) ∧ Need ((1 : Int) ≤ (([x2].length : Nat) : Int)) ∧ ∀ (x3 : List Int), x3 = [] ++ List.take (1 : Nat) (List.drop (0 : Nat) [x2]) → AllR IntKind.u8 x3 → ∀ (x4 : Int), x4 = ((([] ++ List.take (1 : Nat) (List.drop (0 : Nat) [x2])).length : Nat) : Int) → (0 : Int) ≤ x4 → InR IntKind.i64 x4 → ∀ (x5 : Int), x5 = shrI IntKind.i64 n (8 : Int) → InR IntKind.i64 x5 → ∀ (x6 : Int), x6 = IntKind.u8.wrap x5 → InR IntKind.u8 x6 → Need ((((x3 ++ List.take (1 : Nat) (List.drop (0 : Nat) [x6])).length : Nat) : Int) * (1 : Int) ≤ (70368744177664 : Int)) ∧ Need (x4 = ((x3.length : Nat) : Int)) ∧ Need ((1 : Int) ≤ (([x6].length : Nat) : Int)) ∧ ∀ (x7 : List Int), x7 = x3 ++ List.take (1 : Nat) (List.drop (0 : Nat) [x6]) → AllR IntKind.u8 x7 → ∀ (x8 : Int), x8 = (((x3 ++ List.take (1 : Nat) (List.drop (0 : Nat) [x6])).length : Nat) : Int) → (0 : Int) ≤ x8 → InR IntKind.i64 x8 → ∀ (x9 : Int), x9 = shrI IntKind.i64 n (16 : Int) → InR IntKind.i64 x9 → ∀ (x10 : Int), x10 = IntKind.u8.wrap x9 → InR IntKind.u8 x10 → Need ((((x7 ++ List.take (1 : Nat) (List.drop (0 : Nat) [x10])).length : Nat) : Int) * (1 : Int) ≤ (70368744177664 : Int)) ∧ Need (x8 = ((x7.length : Nat) : Int)) ∧ Need ((1 : Int) ≤ (([x10].length : Nat) : Int)) ∧ ∀ (x11 : List Int), x11 = x7 ++ List.take (1 : Nat) (List.drop (0 : Nat) [x10]) → AllR IntKind.u8 x11 → ∀ (x12 : Int), x12 = (((x7 ++ List.take (1 : Nat) (List.drop (0 : Nat) [x10])).length : Nat) : Int) → (0 : Int) ≤ x12 → InR IntKind.i64 x12 → ∀ (x13 : Int), x13 = shrI IntKind.i64 n (24 : Int) → InR IntKind.i64 x13 → ∀ (x14 : Int), x14 = IntKind.u8.wrap x13 → InR IntKind.u8 x14 → Need ((((x11 ++ List.take (1 : Nat) (List.drop (0 : Nat) [x14])).length : Nat) : Int) * (1 : Int) ≤ (70368744177664 : Int)) ∧ Need (x12 = ((x11.length : Nat) : Int)) ∧ Need ((1 : Int) ≤ (([x14].length : Nat) : Int)) ∧ ∀ (x15 : List Int), x15 = x11 ++ List.take (1 : Nat) (List.drop (0 : Nat) [x14]) → AllR IntKind.u8 x15 → ∀ (x16 : Int), x16 = (((x11 ++ List.take (1 : Nat) (List.drop (0 : Nat) [x14])).length : Nat) : Int) → (0 : Int) ≤ x16 → InR IntKind.i64 x16 → ∀ (x17 : Int), x17 = shrI IntKind.i64 n (32 : Int) → InR IntKind.i64 x17 → ∀ (x18 : Int), x18 = IntKind.u8.wrap x17 → InR IntKind.u8 x18 → Need ((((x15 ++ List.take (1 : Nat) (List.drop (0 : Nat) [x18])).length : Nat) : Int) * (1 : Int) ≤ (70368744177664 : Int)) ∧ Need (x16 = ((x15.length : Nat) : Int)) ∧ Need ((1 : Int) ≤ (([x18].length : Nat) : Int)) ∧ ∀ (x19 : List Int), x19 = x15 ++ List.take (1 : Nat) (List.drop (0 : Nat) [x18]) → AllR IntKind.u8 x19 → ∀ (x20 : Int), x20 = (((x15 ++ List.take (1 : Nat) (List.drop (0 : Nat) [x18])).length : Nat) : Int) → (0 : Int) ≤ x20 → InR IntKind.i64 x20 → ∀ (x21 : Int), x21 = shrI IntKind.i64 n (40 : Int) → InR IntKind.i64 x21 → ∀ (x22 : Int), x22 = IntKind.u8.wrap x21 → InR IntKind.u8 x22 → Need ((((x19 ++ List.take (1 : Nat) (List.drop (0 : Nat) [x22])).length : Nat) : Int) * (1 : Int) ≤ (70368744177664 : Int)) ∧ Need (x20 = ((x19.length : Nat) : Int)) ∧ Need ((1 : Int) ≤ (([x22].length : Nat) : Int)) ∧ ∀ (x23 : List Int), x23 = x19 ++ List.take (1 : Nat) (List.drop (0 : Nat) [x22]) → AllR IntKind.u8 x23 → ∀ (x24 : Int), x24 = (((x19 ++ List.take (1 : Nat) (List.drop (0 : Nat) [x22])).length : Nat) : Int) → (0 : Int) ≤ x24 → InR IntKind.i64 x24 → ∀ (x25 : Int), x25 = shrI IntKind.i64 n (48 : Int) → InR IntKind.i64 x25 → ∀ (x26 : Int), x26 = IntKind.u8.wrap x25 → InR IntKind.u8 x26 → Need ((((x23 ++ List.take (1 : Nat) (List.drop (0 : Nat) [x26])).length : Nat) : Int) * (1 : Int) ≤ (70368744177664 : Int)) ∧ Need (x24 = ((x23.length : Nat) : Int)) ∧ Need ((1 : Int) ≤ (([x26].length : Nat) : Int)) ∧ ∀ (x27 : List Int), x27 = x23 ++ List.take (1 : Nat) (List.drop (0 : Nat) [x26]) → AllR IntKind.u8 x27 → ∀ (x28 : Int), x28 = (((x23 ++ List.take (1 : Nat) (List.drop (0 : Nat) [x26])).length : Nat) : Int) → (0 : Int) ≤ x28 → InR IntKind.i64 x28 → ∀ (x29 : Int), x29 = shrI IntKind.i64 n (56 : Int) → InR IntKind.i64 x29 → ∀ (x30 : Int), x30 = IntKind.u8.wrap x29 → InR IntKind.u8 x30 → Need ((((x27 ++ List.take (1 : Nat) (List.drop (0 : Nat) [x30])).length : Nat) : Int) * (1 : Int) ≤ (70368744177664 : Int)) ∧ Need (x28 = ((x27.length : Nat) : Int)) ∧ Need ((1 : Int) ≤ (([x30].length : Nat) : Int)) ∧ ∀ (x31 : List Int), x31 = x27 ++ List.take (1 : Nat) (List.drop (0 : Nat) [x30]) → AllR IntKind.u8 x31 → ∀ (x32 : Int), x32 = (((x27 ++ List.take (1 : Nat) (List.drop (0 : Nat) [x30])).length : Nat) : Int) → (0 : Int) ≤ x32 → InR IntKind.i64 x32 → Need ((0 : Int) + x32 ≤ ((x31.length : Nat) : Int)) ∧ K [RV.row (Con.ints IntKind.u8 (List.take x32.toNat (List.drop (0 : Nat) x31)))] [] := by
  intros
  kernel_rfl

theorem one_of (x : Int) : List.take 1 (List.drop 0 [x]) = [x] := rfl
def leG : List AV → Option (List Prop × List RV × List (Option (List Seg)))
  | [.o (.ints .u8 l), .v (.i .i64 ⟨_, n⟩)] => some ([(l.length : Int) + 8 ≤ 70368744177664], [.row (.ints .u8 (l ++ le8 n))], [none])
  | [.v .nsl, .v (.i .i64 ⟨_, n⟩)] => some ([], [.row (.ints .u8 (le8 n))], [])
  | _ => none
set_option maxHeartbeats 2000000 in
theorem leG_ok : CallOk Try.prog gh 13 (genCtr [.o, .v] leG) := by
  refine call_gen (fn := Try.f13) Γ0_ok rfl glow rfl (by kernel_rfl) (by kernel_rfl) _ leG fun av p rvs fin hs hp hf => ?_
  unfold leG at hs
  split at hs
  · rename_i l st n
    simp only [Option.some.injEq, Prod.mk.injEq] at hs
    obtain ⟨rfl, rfl, rfl⟩ := hs
    have hl : (l.length : Int) + 8 ≤ 70368744177664 := hp.1
    refine ⟨[.sl 600 0 1 ⟨true, 0⟩ ⟨false, (l.length : Int)⟩, .i .i64 ⟨false, n⟩], [(600, .segs false [.rowI .u8 l])], [], _, ?_, Nat.le_of_ble_eq_true (by kernel_rfl), vcG_noloops ?_⟩
    · exact ⟨rfl, rfl, rfl, rfl, trivial⟩
    · show vc13o l n _ _
      rw [vc13o_eq]
      intro x1 e1 _ x2 e2 _
      rw [one_of]
      have l0 : (l ++ [x2]).length = l.length + 1 := by simp
      refine ⟨need_of (by omega), need_of (by omega), need_of (by simp), ?_⟩
      intro x3 e3 _ x4 e4 _ _
      rw [← e3] at l0 e4
      intro x5 e5 _ x6 e6 _
      rw [one_of]
      have l1 : (x3 ++ [x6]).length = l.length + 2 := by rw [List.length_append, l0]; rfl
      refine ⟨need_of (by omega), need_of (by omega), need_of (by simp), ?_⟩
      intro x7 e7 _ x8 e8 _ _
      rw [← e7] at l1 e8
      intro x9 e9 _ x10 e10 _
      rw [one_of]
      have l2 : (x7 ++ [x10]).length = l.length + 3 := by rw [List.length_append, l1]; rfl
      refine ⟨need_of (by omega), need_of (by omega), need_of (by simp), ?_⟩
      intro x11 e11 _ x12 e12 _ _
      rw [← e11] at l2 e12
      intro x13 e13 _ x14 e14 _
      rw [one_of]
      have l3 : (x11 ++ [x14]).length = l.length + 4 := by rw [List.length_append, l2]; rfl
      refine ⟨need_of (by omega), need_of (by omega), need_of (by simp), ?_⟩
      intro x15 e15 _ x16 e16 _ _
      rw [← e15] at l3 e16
      intro x17 e17 _ x18 e18 _
      rw [one_of]
      have l4 : (x15 ++ [x18]).length = l.length + 5 := by rw [List.length_append, l3]; rfl
      refine ⟨need_of (by omega), need_of (by omega), need_of (by simp), ?_⟩
      intro x19 e19 _ x20 e20 _ _
      rw [← e19] at l4 e20
      intro x21 e21 _ x22 e22 _
      rw [one_of]
      have l5 : (x19 ++ [x22]).length = l.length + 6 := by rw [List.length_append, l4]; rfl
      refine ⟨need_of (by omega), need_of (by omega), need_of (by simp), ?_⟩
      intro x23 e23 _ x24 e24 _ _
      rw [← e23] at l5 e24
      intro x25 e25 _ x26 e26 _
      rw [one_of]
      have l6 : (x23 ++ [x26]).length = l.length + 7 := by rw [List.length_append, l5]; rfl
      refine ⟨need_of (by omega), need_of (by omega), need_of (by simp), ?_⟩
      intro x27 e27 _ x28 e28 _ _
      rw [← e27] at l6 e28
      intro x29 e29 _ x30 e30 _
      rw [one_of]
      have l7 : (x27 ++ [x30]).length = l.length + 8 := by rw [List.length_append, l6]; rfl
      refine ⟨need_of (by omega), need_of (by omega), need_of (by simp), ?_⟩
      intro x31 e31 _ x32 e32 _ _
      rw [← e31] at l7 e32
      refine ⟨need_of (by omega), ?_⟩
      refine ⟨⟨?_, trivial⟩, ⟨trivial, trivial⟩⟩
      refine ⟨rfl, ?_⟩
      show List.take x32.toNat (List.drop 0 x31) = l ++ le8 n
      rw [List.drop_zero, List.take_of_length_le (by omega)]
      rw [e31, e27, e23, e19, e15, e11, e7, e3, e2, e1, e6, e5, e10, e9, e14, e13, e18, e17, e22, e21, e26, e25, e30, e29]
      simp only [List.append_assoc, List.cons_append, List.nil_append]
      rfl
  · rename_i st n
    simp only [Option.some.injEq, Prod.mk.injEq] at hs
    obtain ⟨rfl, rfl, rfl⟩ := hs
    refine ⟨[.nsl, .i .i64 ⟨false, n⟩], [], [], _, ?_, Nat.le_of_ble_eq_true (by kernel_rfl), vcG_noloops ?_⟩
    · exact ⟨trivial, rfl, trivial⟩
    · show vc13n n _ _
      rw [vc13n_eq]
      intro x1 e1 _ x2 e2 _
      rw [one_of]
      have l0 : ([] ++ [x2]).length = 0 + 1 := by simp
      refine ⟨need_of (by omega), need_of (by simp), ?_⟩
      intro x3 e3 _ x4 e4 _ _
      rw [← e3] at l0 e4
      intro x5 e5 _ x6 e6 _
      rw [one_of]
      have l1 : (x3 ++ [x6]).length = 0 + 2 := by rw [List.length_append, l0]; rfl
      refine ⟨need_of (by omega), need_of (by omega), need_of (by simp), ?_⟩
      intro x7 e7 _ x8 e8 _ _
      rw [← e7] at l1 e8
      intro x9 e9 _ x10 e10 _
      rw [one_of]
      have l2 : (x7 ++ [x10]).length = 0 + 3 := by rw [List.length_append, l1]; rfl
      refine ⟨need_of (by omega), need_of (by omega), need_of (by simp), ?_⟩
      intro x11 e11 _ x12 e12 _ _
      rw [← e11] at l2 e12
      intro x13 e13 _ x14 e14 _
      rw [one_of]
      have l3 : (x11 ++ [x14]).length = 0 + 4 := by rw [List.length_append, l2]; rfl
      refine ⟨need_of (by omega), need_of (by omega), need_of (by simp), ?_⟩
      intro x15 e15 _ x16 e16 _ _
      rw [← e15] at l3 e16
      intro x17 e17 _ x18 e18 _
      rw [one_of]
      have l4 : (x15 ++ [x18]).length = 0 + 5 := by rw [List.length_append, l3]; rfl
      refine ⟨need_of (by omega), need_of (by omega), need_of (by simp), ?_⟩
      intro x19 e19 _ x20 e20 _ _
      rw [← e19] at l4 e20
      intro x21 e21 _ x22 e22 _
      rw [one_of]
      have l5 : (x19 ++ [x22]).length = 0 + 6 := by rw [List.length_append, l4]; rfl
      refine ⟨need_of (by omega), need_of (by omega), need_of (by simp), ?_⟩
      intro x23 e23 _ x24 e24 _ _
      rw [← e23] at l5 e24
      intro x25 e25 _ x26 e26 _
      rw [one_of]
      have l6 : (x23 ++ [x26]).length = 0 + 7 := by rw [List.length_append, l5]; rfl
      refine ⟨need_of (by omega), need_of (by omega), need_of (by simp), ?_⟩
      intro x27 e27 _ x28 e28 _ _
      rw [← e27] at l6 e28
      intro x29 e29 _ x30 e30 _
      rw [one_of]
      have l7 : (x27 ++ [x30]).length = 0 + 8 := by rw [List.length_append, l6]; rfl
      refine ⟨need_of (by omega), need_of (by omega), need_of (by simp), ?_⟩
      intro x31 e31 _ x32 e32 _ _
      rw [← e31] at l7 e32
      refine ⟨need_of (by omega), ?_⟩
      refine ⟨⟨?_, trivial⟩, trivial⟩
      refine ⟨rfl, ?_⟩
      show List.take x32.toNat (List.drop 0 x31) = [] ++ le8 n
      rw [List.drop_zero, List.take_of_length_le (by omega)]
      rw [e31, e27, e23, e19, e15, e11, e7, e3, e2, e1, e6, e5, e10, e9, e14, e13, e18, e17, e22, e21, e26, e25, e30, e29]
      simp only [List.cons_append, List.nil_append]
      rfl
  · cases hs
def Γ1 : Tab := ⟨tys, [(13, genCtr [.o, .v] leG)], [], gh⟩
theorem Γ1_ok : TabOk Try.prog Γ1 := Γ0_ok.cons leG_ok
end Go.Gx

/- A frame, and when two of them are the same. -/
namespace Go.Sp
open Go.Gx
/-- The parts, each behind its length. -/
def partsL (ls : List (List Int)) : List Int := (ls.map fun l => le8 (l.length : Int) ++ l).flatten
/-- A frame: a label and parts. -/
def frL (b : List Int) (ls : List (List Int)) : List Int := le8 (b.length : Int) ++ b ++ le8 (ls.length : Int) ++ partsL ls
def sameB (x : ByteArray) (ls : List (List Int)) (x' : ByteArray) (ls' : List (List Int)) : Bool := decide (bytesI x = bytesI x' ∧ ls = ls')
end Go.Sp
namespace Go.Gx
open Go.Proofs Go.Sp
set_option linter.unusedVariables false
set_option maxRecDepth 100000

def L7 : Loops := [(5, ⟨[.any, .any, .any, .any, .nsl, .sl 1001 0 1 ⟨true, 0⟩ ⟨false, 0⟩] ++ reps .any 12 ++ [.ro 490 (.l (.ints .u8)) (.r []), .i .i64 ⟨false, 0⟩, .i .i64 ⟨false, 0⟩] ++ reps .any 12, gh ++ [(490, .world), (1001, .segs false [.rowI .u8 []])], 2000⟩)]
def vc7 (s : ByteArray) (d : RO) (K : List RV → List (Option (List Seg)) → Prop) (Q : Nat → List Pv → Prop) : Prop := fnVcG 0 Γ1 Try.f7 L7 [.s s, .ro 490 (.l (.ints .u8)) d] (gh ++ (490, .world) :: []) K Q
def lc7 (d : RO) (n i z : Int) (l : List Int) (K : List RV → List (Option (List Seg)) → Prop) (Q : Nat → List Pv → Prop) : Prop := loopVcG 0 Γ1 Try.f7 L7 5 [.z z, .ro d, .z n, .z i, .l l] K Q
def L11 : Loops := [(4, ⟨[.any, .ro 490 (.l (.ints .u8)) (.r []), .any, .ro 490 (.l (.ints .u8)) (.r []), .any, .any, .any, .any, .any, .i .i64 ⟨false, 0⟩] ++ reps .any 27, gh ++ [(490, .world)], 2000⟩)]
def vc11 (s : ByteArray) (d : RO) (s' : ByteArray) (d' : RO) (K : List RV → List (Option (List Seg)) → Prop) (Q : Nat → List Pv → Prop) : Prop := fnVcG 0 Γ1 Try.f11 L11 [.s s, .ro 490 (.l (.ints .u8)) d, .s s', .ro 490 (.l (.ints .u8)) d'] (gh ++ (490, .world) :: []) K Q
def lc11 (d d' : RO) (i : Int) (K : List RV → List (Option (List Seg)) → Prop) (Q : Nat → List Pv → Prop) : Prop := loopVcG 0 Γ1 Try.f11 L11 4 [.ro d, .ro d', .z i] K Q
theorem vc7_eq : ∀ (s : ByteArray) (d : RO) (K : List RV → List (Option (List Seg)) → Prop) (Q : Nat → List Pv → Prop), vc7 s d K Q = ∀ (x1 : List Int), x1 = le8 ((s.size : Nat) : Int) → AllR IntKind.u8 x1 → ∀ (x2 : Int), x2 = ((le8 ((s.size : Nat) : Int)).length : Int) → (0 : Int) ≤ x2 → InR IntKind.i64 x2 → Need (((x1 ++ bytesI s).length : Int) * (1 : Int) ≤ (70368744177664 : Int)) ∧ Need (x2 = ((x1.length : Nat) : Int)) ∧ ∀ (x3 : List Int), x3 = x1 ++ bytesI s → AllR IntKind.u8 x3 → ∀ (x4 : Int), x4 = ((x1 ++ bytesI s).length : Int) → (0 : Int) ≤ x4 → InR IntKind.i64 x4 → Need (x4 = ((x3.length : Nat) : Int)) ∧ Need (((x3.length : Nat) : Int) + (8 : Int) ≤ (70368744177664 : Int)) ∧ ∀ (x5 : List Int), x5 = x3 ++ le8 ((roX d).length : Int) → AllR IntKind.u8 x5 → ∀ (x6 : Int), x6 = ((x3 ++ le8 ↑(roX d).length).length : Int) → (0 : Int) ≤ x6 → InR IntKind.i64 x6 → Same Try.f7 (5 : Nat) (itemsOf Try.f7 (5 : Nat)) ∧ Q (5 : Nat) [Pv.z x6, Pv.ro d, Pv.z ((roX d).length : Int), Pv.z (0 : Int), Pv.l x5] := by
  intros
  kernel_rfl
theorem lc7_eq : ∀ (d : RO) (n i z : Int) (l : List Int) (K : List RV → List (Option (List Seg)) → Prop) (Q : Nat → List Pv → Prop), lc7 d n i z l K Q = ((decide (i < n) = true → Need ((0 : Int) ≤ i ∧ i < ((roX d).length : Int)) ∧ Need (z = ((l.length : Nat) : Int)) ∧ Need (((l.length : Nat) : Int) + (8 : Int) ≤ (70368744177664 : Int)) ∧ ∀ (x1 : List Int), x1 = l ++ le8 ((roL (roN d i.toNat)).length : Int) → AllR IntKind.u8 x1 → ∀ (x2 : Int), x2 = ↑(l ++ le8 ((roL (roN d i.toNat)).length : Int)).length → (0 : Int) ≤ x2 → InR IntKind.i64 x2 → Need (((x1 ++ roL (roN d i.toNat)).length : Int) * (1 : Int) ≤ (70368744177664 : Int)) ∧ Need (x2 = ((x1.length : Nat) : Int)) ∧ ∀ (x3 : List Int), x3 = x1 ++ roL (roN d i.toNat) → AllR IntKind.u8 x3 → ∀ (x4 : Int), x4 = ((x1 ++ roL (roN d i.toNat)).length : Int) → (0 : Int) ≤ x4 → InR IntKind.i64 x4 → ∀ (x5 : Int), x5 = IntKind.i64.wrap (i + (1 : Int)) → InR IntKind.i64 x5 → Same Try.f7 (5 : Nat) (itemsOf Try.f7 (5 : Nat)) ∧ Q (5 : Nat) [Pv.z x4, Pv.ro d, Pv.z n, Pv.z x5, Pv.l x3]) ∧ (decide (i < n) = false → Need ((0 : Int) + z ≤ ((l.length : Nat) : Int)) ∧ K [RV.row (Con.ints IntKind.u8 (List.take z.toNat (List.drop (0 : Nat) l)))] [])) := by
  intros
  kernel_rfl
theorem vc11_eq : ∀ (s : ByteArray) (d : RO) (s' : ByteArray) (d' : RO) (K : List RV → List (Option (List Seg)) → Prop) (Q : Nat → List Pv → Prop), vc11 s d s' d' K Q = (((!s.toList == s'.toList) = true → K [RV.v (SV.b true false)] []) ∧ ((!s.toList == s'.toList) = false → ((((roX d).length : Int) != ((roX d').length : Int)) = true → K [RV.v (SV.b true false)] []) ∧ ((((roX d).length : Int) != ((roX d').length : Int)) = false → Same Try.f11 (4 : Nat) (itemsOf Try.f11 (4 : Nat)) ∧ Q (4 : Nat) [Pv.ro d, Pv.ro d', Pv.z (0 : Int)]))) := by
  intros
  kernel_rfl
theorem lc11_eq : ∀ (d d' : RO) (i : Int) (K : List RV → List (Option (List Seg)) → Prop) (Q : Nat → List Pv → Prop), lc11 d d' i K Q = ((decide (i < ((roX d).length : Int)) = true → Need ((0 : Int) ≤ i ∧ i < ((roX d).length : Int)) ∧ Need ((0 : Int) ≤ i ∧ i < ((roX d').length : Int)) ∧ ((!(ofBytesI (roL (roN d i.toNat))).toList == (ofBytesI (roL (roN d' i.toNat))).toList) = true → K [RV.v (SV.b true false)] []) ∧ ((!(ofBytesI (roL (roN d i.toNat))).toList == (ofBytesI (roL (roN d' i.toNat))).toList) = false → ∀ (x1 : Int), x1 = IntKind.i64.wrap (i + (1 : Int)) → InR IntKind.i64 x1 → Same Try.f11 (4 : Nat) (itemsOf Try.f11 (4 : Nat)) ∧ Q (4 : Nat) [Pv.ro d, Pv.ro d', Pv.z x1])) ∧ (decide (i < ((roX d).length : Int)) = false → K [RV.v (SV.b true true)] [])) := by
  intros
  kernel_rfl

theorem bytesI_len (s : ByteArray) : (bytesI s).length = s.size := by
  unfold bytesI
  rw [List.length_map, Array.length_toList]; rfl
theorem bytesI_u8 (s : ByteArray) : AllR .u8 (bytesI s) := fun z hz => by
  unfold bytesI at hz
  obtain ⟨b, _, rfl⟩ := List.mem_map.1 hz
  have h : b.toNat < 256 := b.toNat_lt
  show 0 ≤ ((b.toNat : Nat) : Int) ∧ ((b.toNat : Nat) : Int) < 256
  omega
theorem bytesI_of {l : List Int} (h : AllR .u8 l) : bytesI (ofBytesI l) = l := by
  unfold bytesI ofBytesI
  simp only [List.map_map]
  conv => rhs; rw [← List.map_id l]
  apply List.map_congr_left
  intro z hz
  have hz : 0 ≤ z ∧ z < 256 := h z hz
  show (((UInt8.ofNat z.toNat).toNat : Nat) : Int) = z
  rw [UInt8.toNat_ofNat']
  omega
theorem bytesI_inj {a b : ByteArray} (h : bytesI a = bytesI b) : a = b := by
  apply ByteArray.ext
  apply Array.toList_inj.1
  unfold bytesI at h
  refine List.map_inj_right (f := fun b : UInt8 => (b.toNat : Int)) (fun x y hxy => ?_) |>.1 h
  exact UInt8.toNat_inj.1 (by have hxy : ((x.toNat : Nat) : Int) = ((y.toNat : Nat) : Int) := hxy; omega)
theorem toList_bytes (a b : ByteArray) : (a.toList == b.toList) = decide (bytesI a = bytesI b) := by
  rw [ByteArray.toList_eq, ByteArray.toList_eq]
  by_cases h : a = b
  · subst h; simp
  · have h1 : ¬ bytesI a = bytesI b := fun e => h (bytesI_inj e)
    have h2 : ¬ a.data.toList = b.data.toList := fun e => h (ByteArray.ext (Array.toList_inj.1 e))
    rw [decide_eq_false h1]
    exact beq_eq_false_iff_ne.2 h2
theorem ofBytes_eq {l l' : List Int} (h : AllR .u8 l) (h' : AllR .u8 l') : ((ofBytesI l).toList == (ofBytesI l').toList) = decide (l = l') := by
  rw [toList_bytes, bytesI_of h, bytesI_of h']
theorem partsL_take (xs : List (List Int)) (j : Nat) (h : j < xs.length) : partsL (xs.take (j + 1)) = partsL (xs.take j) ++ le8 ((xs.getD j []).length : Int) ++ xs.getD j [] := by
  unfold partsL
  rw [List.take_add_one, List.getElem?_eq_getElem h, List.map_append, List.flatten_append]
  simp [List.getD, h]
theorem partsL_le (xs : List (List Int)) (j : Nat) : (partsL (xs.take j)).length ≤ (partsL xs).length := by
  have h : partsL xs = partsL (xs.take j) ++ partsL (xs.drop j) := by
    unfold partsL
    rw [← List.flatten_append, ← List.map_append, List.take_append_drop]
  rw [h, List.length_append]; omega
theorem le8_len (n : Int) : (le8 n).length = 8 := rfl
theorem map_getD (xs : List RO) (j : Nat) (h : j < xs.length) : (xs.map roL).getD j [] = roL (xs.getD j (.r [])) := by
  simp [List.getD, h]
/-- A frame's beginning: j of its parts. -/
def frJ (s : ByteArray) (d : RO) (j : Nat) : List Int := le8 (s.size : Int) ++ bytesI s ++ le8 ((roX d).length : Int) ++ partsL (((roX d).map roL).take j)
def inv7 (s : ByteArray) (d : RO) (key : Nat) (ps : List Pv) (mm : Nat) : Prop :=
  key = 5 ∧ ∃ j : Nat, j ≤ (roX d).length ∧ ps = [.z ((frJ s d j).length : Int), .ro d, .z ((roX d).length : Int), .z (j : Int), .l (frJ s d j)] ∧ mm = (roX d).length - j
def frG : List AV → Option (List Prop × List RV × List (Option (List Seg)))
  | [.v (.s x), .d (.l (.ints .u8)) d] => some ([((frL (bytesI x) ((roX d).map roL)).length : Int) ≤ 70368744177664], [.row (.ints .u8 (frL (bytesI x) ((roX d).map roL)))], [])
  | _ => none
theorem frJ_all (s : ByteArray) (d : RO) : frJ s d (roX d).length = frL (bytesI s) ((roX d).map roL) := by
  unfold frJ frL
  rw [bytesI_len, List.length_map, List.take_of_length_le (by rw [List.length_map]; exact Nat.le_refl _)]
theorem frJ_le (s : ByteArray) (d : RO) (j : Nat) : (frJ s d j).length ≤ (frL (bytesI s) ((roX d).map roL)).length := by
  have h1 : (frJ s d j).length = 8 + (bytesI s).length + 8 + (partsL (((roX d).map roL).take j)).length := by
    unfold frJ
    rw [List.length_append, List.length_append, List.length_append, le8_len, le8_len]
  have h2 : (frL (bytesI s) ((roX d).map roL)).length = 8 + (bytesI s).length + 8 + (partsL ((roX d).map roL)).length := by
    unfold frL
    rw [List.length_append, List.length_append, List.length_append, le8_len, le8_len]
  have := partsL_le ((roX d).map roL) j
  omega
theorem frJ_succ (s : ByteArray) (d : RO) (j : Nat) (h : j < (roX d).length) : frJ s d (j + 1) = frJ s d j ++ le8 ((roL (roN d j)).length : Int) ++ roL (roN d j) := by
  unfold frJ
  rw [partsL_take _ _ (by rw [List.length_map]; exact h), map_getD _ _ h]
  simp only [List.append_assoc]
  rfl
theorem frG_ok : CallOk Try.prog gh 7 (genCtr [.v, .d (.l (.ints .u8))] frG) := by
  refine call_gen (fn := Try.f7) Γ1_ok rfl glow rfl (by kernel_rfl) (by kernel_rfl) _ frG fun av p rvs fin hs hp hf => ?_
  unfold frG at hs
  split at hs
  · rename_i s d
    simp only [Option.some.injEq, Prod.mk.injEq] at hs
    obtain ⟨rfl, rfl, rfl⟩ := hs
    have hd : ((frL (bytesI s) ((roX d).map roL)).length : Int) ≤ 70368744177664 := hp.1
    obtain ⟨_, ⟨_, hlen⟩, _⟩ := hf
    refine ⟨[.s s, .ro 490 (.l (.ints .u8)) d], [], L7, inv7 s d, ⟨rfl, rfl, trivial⟩, Nat.le_of_ble_eq_true (by kernel_rfl), ?_, ?_, ?_⟩
    · intro kk t ht g hg
      have hg : g ∈ [490] := hg
      simp only [List.mem_cons, List.not_mem_nil, or_false] at hg
      simp only [L7, List.mem_cons, List.not_mem_nil, or_false, Prod.mk.injEq] at ht
      obtain ⟨rfl, rfl⟩ := ht
      subst hg
      exact ⟨by omega, rfl⟩
    · rintro vk t ps mm ht ⟨rfl, j, hj, rfl, rfl⟩
      simp only [L7, List.mem_cons, List.not_mem_nil, or_false, Prod.mk.injEq] at ht
      obtain ⟨_, rfl⟩ := ht
      show lc7 d ((roX d).length : Int) (j : Int) ((frJ s d j).length : Int) (frJ s d j) _ _
      rw [lc7_eq]
      refine ⟨fun hlt => ?_, fun hge => ?_⟩
      · have hlt := of_decide_eq_true hlt
        have hjl : j < (roX d).length := by omega
        have hs := frJ_succ s d j hjl
        have hle := frJ_le s d (j + 1)
        have hln : (frJ s d (j + 1)).length = (frJ s d j).length + 8 + (roL (roN d j)).length := by rw [hs, List.length_append, List.length_append, le8_len]
        rw [Int.toNat_natCast]
        refine ⟨need_of (by omega), need_of rfl, need_of (by omega), ?_⟩
        intro x1 e1 _ x2 e2 _ _
        rw [← e1] at e2
        rw [← e1] at hs
        rw [← hs]
        refine ⟨need_of (by omega), need_of e2, ?_⟩
        intro x3 e3 _ x4 e4 _ _ x5 e5 _
        rw [wrap_i64 (by omega)] at e5
        rw [e3, e4, e5]
        exact ⟨rfl, (roX d).length - (j + 1), by omega, rfl, j + 1, by omega, rfl, rfl⟩
      · have hge := of_decide_eq_false hge
        obtain rfl : j = (roX d).length := by omega
        refine ⟨need_of (by omega), ⟨⟨rfl, ?_⟩, trivial⟩, trivial⟩
        show List.take _ (List.drop 0 (frJ s d (roX d).length)) = frL (bytesI s) ((roX d).map roL)
        rw [List.drop_zero, Int.toNat_natCast, List.take_of_length_le (Nat.le_refl _), frJ_all]
    · show vc7 s d _ _
      rw [vc7_eq]
      have h0 : le8 (s.size : Int) ++ bytesI s ++ le8 ((roX d).length : Int) = frJ s d 0 := by
        unfold frJ
        simp [partsL]
      have hle := frJ_le s d 0
      have hl0 : (frJ s d 0).length = 8 + (bytesI s).length + 8 := by rw [← h0, List.length_append, List.length_append, le8_len, le8_len]
      intro x1 e1 _ x2 e2 _ _
      subst e1
      have hl1 : (le8 (s.size : Int) ++ bytesI s).length = 8 + (bytesI s).length := by rw [List.length_append, le8_len]
      refine ⟨need_of (by omega), need_of e2, ?_⟩
      intro x3 e3 _ x4 e4 _ _
      rw [← e3] at e4 hl1 h0
      rw [h0]
      refine ⟨need_of e4, need_of (by omega), ?_⟩
      intro x5 e5 _ x6 e6 _ _
      rw [e5, e6]
      exact ⟨rfl, (roX d).length - 0, rfl, 0, by omega, rfl, rfl⟩
  · cases hs
def inv11 (d d' : RO) (key : Nat) (ps : List Pv) (mm : Nat) : Prop :=
  key = 4 ∧ ∃ j : Nat, j ≤ (roX d).length ∧ ((roX d).map roL).take j = ((roX d').map roL).take j ∧ ps = [.ro d, .ro d', .z (j : Int)] ∧ mm = (roX d).length - j
def sameG : List AV → Option (List Prop × List RV × List (Option (List Seg)))
  | [.v (.s x), .d (.l (.ints .u8)) d, .v (.s x'), .d (.l (.ints .u8)) d'] => some ([], [.v (.b false (sameB x ((roX d).map roL) x' ((roX d').map roL)))], [])
  | _ => none
theorem sameG_ok : CallOk Try.prog gh 11 (genCtr [.v, .d (.l (.ints .u8)), .v, .d (.l (.ints .u8))] sameG) := by
  refine call_gen (fn := Try.f11) Γ1_ok rfl glow rfl (by kernel_rfl) (by kernel_rfl) _ sameG fun av p rvs fin hs hp hf => ?_
  unfold sameG at hs
  split at hs
  · rename_i s d s' d'
    simp only [Option.some.injEq, Prod.mk.injEq] at hs
    obtain ⟨rfl, rfl, rfl⟩ := hs
    obtain ⟨_, ⟨hu, hlen⟩, _, ⟨hu', hlen'⟩, _⟩ := hf
    by_cases hss : bytesI s = bytesI s' ∧ (roX d).length = (roX d').length
    · obtain ⟨hs1, hll⟩ := hss
      refine ⟨[.s s, .ro 490 (.l (.ints .u8)) d, .s s', .ro 490 (.l (.ints .u8)) d'], [], L11, inv11 d d', ⟨rfl, rfl, rfl, rfl, trivial⟩, Nat.le_of_ble_eq_true (by kernel_rfl), ?_, ?_, ?_⟩
      · intro kk t ht g hg
        have hg : g ∈ [490] := hg
        simp only [List.mem_cons, List.not_mem_nil, or_false] at hg
        simp only [L11, List.mem_cons, List.not_mem_nil, or_false, Prod.mk.injEq] at ht
        obtain ⟨rfl, rfl⟩ := ht
        subst hg
        exact ⟨by omega, rfl⟩
      · rintro vk t ps mm ht ⟨rfl, j, hj, htk, rfl, rfl⟩
        simp only [L11, List.mem_cons, List.not_mem_nil, or_false, Prod.mk.injEq] at ht
        obtain ⟨_, rfl⟩ := ht
        show lc11 d d' (j : Int) _ _
        rw [lc11_eq]
        refine ⟨fun hlt => ?_, fun hge => ?_⟩
        · have hlt := of_decide_eq_true hlt
          have hjl : j < (roX d).length := by omega
          have hm : roN d j ∈ roX d := by unfold roN; simp [List.getD, hjl]
          have hm' : roN d' j ∈ roX d' := by
            have : j < (roX d').length := by omega
            unfold roN; simp [List.getD, this]
          rw [Int.toNat_natCast, ofBytes_eq (hu _ hm).1 (hu' _ hm').1]
          have hg : ((roX d).map roL)[j]? = some (roL (roN d j)) := by
            rw [List.getElem?_map]; unfold roN; simp [List.getD, hjl]
          have hg' : ((roX d').map roL)[j]? = some (roL (roN d' j)) := by
            have : j < (roX d').length := by omega
            rw [List.getElem?_map]; unfold roN; simp [List.getD, this]
          refine ⟨need_of (by omega), need_of (by omega), fun h => ?_, fun h => ?_⟩
          · have hne : ¬ roL (roN d j) = roL (roN d' j) := by simpa using h
            refine ⟨⟨?_, trivial⟩, trivial⟩
            show false = sameB _ _ _ _
            refine (decide_eq_false fun hh => hne ?_).symm
            have := hh.2
            rw [this, hg'] at hg
            exact (Option.some.inj hg).symm
          · have he : roL (roN d j) = roL (roN d' j) := by simpa using h
            intro x1 e1 _
            rw [wrap_i64 (by omega)] at e1
            rw [e1]
            refine ⟨rfl, (roX d).length - (j + 1), by omega, rfl, j + 1, by omega, ?_, rfl, rfl⟩
            rw [List.take_add_one, List.take_add_one, htk, hg, hg', he]
        · have hge := of_decide_eq_false hge
          obtain rfl : j = (roX d).length := by omega
          refine ⟨⟨?_, trivial⟩, trivial⟩
          show true = sameB _ _ _ _
          rw [List.take_of_length_le (by simp), List.take_of_length_le (by simp; omega)] at htk
          exact (decide_eq_true ⟨hs1, htk⟩).symm
      · show vc11 s d s' d' _ _
        rw [vc11_eq, toList_bytes]
        refine ⟨fun h => ?_, fun _ => ⟨fun h => ?_, fun _ => ⟨rfl, (roX d).length - 0, rfl, 0, by omega, by simp, rfl, rfl⟩⟩⟩
        · simp [hs1] at h
        · rw [hll] at h; simp at h
    · have hno : sameB s ((roX d).map roL) s' ((roX d').map roL) = false := decide_eq_false fun hh => hss ⟨hh.1, by have := congrArg List.length hh.2; simpa using this⟩
      rw [hno]
      refine ⟨[.s s, .ro 490 (.l (.ints .u8)) d, .s s', .ro 490 (.l (.ints .u8)) d'], [], L11, fun _ _ _ => False, ⟨rfl, rfl, rfl, rfl, trivial⟩, Nat.le_of_ble_eq_true (by kernel_rfl), ?_, fun _ _ _ _ _ h => h.elim, ?_⟩
      · intro kk t ht g hg
        have hg : g ∈ [490] := hg
        simp only [List.mem_cons, List.not_mem_nil, or_false] at hg
        simp only [L11, List.mem_cons, List.not_mem_nil, or_false, Prod.mk.injEq] at ht
        obtain ⟨rfl, rfl⟩ := ht
        subst hg
        exact ⟨by omega, rfl⟩
      · show vc11 s d s' d' _ _
        rw [vc11_eq, toList_bytes]
        refine ⟨fun _ => ⟨⟨rfl, trivial⟩, trivial⟩, fun h => ⟨fun _ => ⟨⟨rfl, trivial⟩, trivial⟩, fun h2 => (hss ⟨by simpa using h, ?_⟩).elim⟩⟩
        have : ((roX d).length : Int) = ((roX d').length : Int) := by simpa using h2
        omega
  · cases hs
def Γ2 : Tab := ⟨tys, (11, genCtr [.v, .d (.l (.ints .u8)), .v, .d (.l (.ints .u8))] sameG) :: (7, genCtr [.v, .d (.l (.ints .u8))] frG) :: Γ1.ctr, [], gh⟩
theorem Γ2_ok : TabOk Try.prog Γ2 := (Γ1_ok.cons frG_ok).cons sameG_ok
end Go.Gx

/- From a law's call to what its row asks, for laws that only read. -/
namespace Go.Gx
open Go.ChangeShapes Go.WideShapes Go.ChangeAt Go.RowKit
set_option linter.unusedVariables false

section
variable {P : Program}

theorem cell_int {w : World} {r : Reach} {b : Nat} {e : TypeId} {k : IntKind} {v : Value} (he : P.underlying e = some (.int k)) (h : Cell.okWide P w r b e v) : ∃ z, v = .int k z ∧ InR k z := by
  have h' : Value.okWide P w r b e v := by
    unfold Value.okWide
    rw [he]; exact h
  obtain ⟨z, rfl⟩ := okWide_int he h'
  refine ⟨z, rfl, ?_⟩
  simp only [Cell.okWide, Cell.ok, he, IntKind.has] at h
  cases k <;> simp [InR, IntKind.min, IntKind.max, IntKind.bits, IntKind.signed] at h ⊢ <;> omega

theorem ints_of {k : IntKind} : ∀ (cs : List Value), (∀ v ∈ cs, ∃ z, v = .int k z ∧ InR k z) → ∃ l : List Int, AllR k l ∧ cs = l.map (Value.int k)
  | [], _ => ⟨[], fun _ h => by simp at h, rfl⟩
  | v :: cs, h => by
    obtain ⟨l, h1, rfl⟩ := ints_of cs fun v hv => h v (by simp [hv])
    obtain ⟨z, rfl, hz⟩ := h v (by simp)
    refine ⟨z :: l, fun x hx => ?_, rfl⟩
    rcases List.mem_cons.1 hx with rfl | hx
    · exact hz
    · exact h1 x hx

/-- An argument that is an array of numbers. -/
theorem arr_arg {w : World} {r : Reach} {b : Nat} {t e : TypeId} {n : Nat} {k : IntKind} {v : Value} (ht : P.underlying t = some (.array n e)) (he : P.underlying e = some (.int k)) (hc : P.cellsOf t = n) (hts : P.cellTypes P.depth t = some (List.replicate n e)) (h : Value.okWide P w r b t v) :
    ∃ l : List Int, l.length = n ∧ AllR k l ∧ v = .agg (l.map (Value.int k)).toArray := by
  unfold Value.okWide at h
  rw [ht] at h
  obtain ⟨cs, rfl, hs, ts, hts', _, hall⟩ := h
  rw [hts] at hts'
  obtain rfl := Option.some.inj hts'
  obtain ⟨l, h1, h2⟩ := ints_of (k := k) cs.toList fun v hv => by
    obtain ⟨i, hi, rfl⟩ := List.getElem_of_mem hv
    obtain ⟨u, hu, hcell⟩ := hall i (cs.toList[i]) (by simp at hi ⊢)
    have : u = e := by
      have := List.mem_of_getElem? hu
      exact (List.mem_replicate.1 this).2
    subst this
    exact cell_int he hcell
  refine ⟨l, ?_, h1, ?_⟩
  · have := congrArg List.length h2
    simp at this
    omega
  · rw [← h2]

theorem int_arg {w : World} {r : Reach} {b : Nat} {e : TypeId} {k : IntKind} {v : Value} (he : P.underlying e = some (.int k)) (h : Value.okWide P w r b e v) : ∃ z, v = .int k z ∧ InR k z := by
  unfold Value.okWide at h
  rw [he] at h
  exact cell_int he h

/-- All arguments read behind the call as they did. -/
theorem below_trodAll {H : Type} {enc : TypeId × Value → H} {W W' : World} (hl : laidOutB P = true) (hB : Below W.heap.size W W') {sp : Nat → Bool} : ∀ {ts : List TypeId} {vs : List Value} {ds : List (DataW H)} {ps : List MemPlace},
    (∀ t ∈ ts, P.readableRec t = true ∧ t < P.types.size) → DataW.TrodAll enc P W 0 (fun _ => true) true ts vs ds ps → (∀ p ∈ ps, p.block < W.heap.size) → (∀ p ∈ ps, sp p.block = true) → DataW.TrodAll enc P W' 0 sp true ts vs ds ps
  | [], _, _, _, _, h, _, _ => by
    obtain ⟨rfl, rfl, rfl⟩ := trodAll_nil h
    exact trodAll_mk0
  | t :: ts, _, _, _, ht, h, hlt, hs => by
    obtain ⟨v, vs1, d, ds1, p, q, rfl, rfl, rfl, h1, h2⟩ := trodAll_cons h
    have := ht t (by simp)
    exact trodAll_cons_mk (WideElems.Trod_stays hl this.1 this.2 h1 (fun x hx => hB.same (hlt x (by simp [hx]))) fun x hx => hs x (by simp [hx]))
      (below_trodAll hl hB (fun t h => ht t (by simp [h])) h2 (fun x hx => hlt x (by simp [hx])) fun x hx => hs x (by simp [hx]))

/-- What a row asks behind a call that has answered true and turned nothing old. -/
theorem post_true {H : Type} {enc : TypeId × Value → H} {f : Func} {s : ChangeSpec} {tb : TypeId} {W W' : World} {args : Array Value} {ds gs : List (DataW H)} {before : List MemPlace}
    (hl : laidOutB P = true) (hv : s.vars = []) (hr : f.resultTypes = #[tb]) (hb : P.underlying tb = some .bool) (hread : ∀ t ∈ f.params.toList, P.readableRec t = true ∧ t < P.types.size)
    (hfn : ∀ ds : List (DataW H), ds.length = f.params.size → (s.fn H ds).results = [.lit (.bool true)] ∧ (s.fn H ds).args = ds ∧ (s.fn H ds).vars = [])
    (hW : DataW.Whole enc P f.params.toList s.vars false W args.toList ds gs before) (hB : Below W.heap.size W W') : s.post enc P f false true false false W args (.bool true) W' := by
  have hW' := hW
  obtain ⟨p, q, hA0, hV, rfl, hz, hn⟩ := hW
  have hA : DataW.TrodAll enc P W 0 (fun _ => true) true f.params.toList args.toList ds p := hA0
  rw [hv] at hV
  obtain ⟨rfl, rfl⟩ := trodVars_none hV
  have hlen : ds.length = f.params.size := by
    have : ∀ {ts : List TypeId} {vs : List Value} {ds : List (DataW H)} {ps : List MemPlace}, DataW.TrodAll enc P W 0 (fun _ => true) true ts vs ds ps → ds.length = ts.length := by
      intro ts
      induction ts with
      | nil => intro vs ds ps h; obtain ⟨_, rfl, _⟩ := trodAll_nil h; rfl
      | cons t ts ih => intro vs ds ps h; obtain ⟨_, _, _, _, _, _, rfl, rfl, rfl, _, h2⟩ := trodAll_cons h; simp [ih h2]
    simpa using this hA
  obtain ⟨k1, k2, k3⟩ := hfn ds hlen
  have hlt : ∀ x ∈ p, x.block < W.heap.size := fun x hx => hW'.lt x (by simp [hx])
  have hres : ∀ (b : Nat) (sp : Nat → Bool) (hd : Bool), DataW.TrodAll enc P W' b sp hd f.resultTypes.toList ((Value.bool true).resultList f.resultTypes.size) (s.fn H (ds ++ [])).results [] := fun b sp hd => by
    rw [List.append_nil, k1, hr]
    exact trodAll_cons_mk (shut_bool hb _) trodAll_mk0
  have hargs : ∀ sp : Nat → Bool, (∀ x ∈ p, sp x.block = true) → DataW.TrodAll enc P W' 0 sp true f.params.toList args.toList (s.fn H (ds ++ [])).args p := fun sp hs => by
    rw [List.append_nil, k2]
    exact below_trodAll hl hB hread hA hlt hs
  have hvars : ∀ sp : Nat → Bool, DataW.TrodVars enc P W' sp s.vars (s.fn H (ds ++ [])).vars [] := fun sp => by
    rw [List.append_nil, k3, hv]; rfl
  refine ⟨ds, [], p ++ [], [], p, [], hW', hres _ _ _, hargs _ (fun x hx => by simpa using hlt x hx), hvars _, hB.frame _, fun _ => ?_⟩
  refine ⟨ok_one hr rfl (okWide_bool_mk hb _), _, _, ([] ++ p) ++ [], ⟨[] ++ p, [], trodAll_append (hargs _ (fun _ _ => rfl)) (hres _ _ _), hvars _, rfl, ?_, ?_⟩, ?_⟩
  · intro b off hp
    have hp' : MemPlace.cell b off ∈ p := by simpa using hp
    rw [hB.frozen (hlt _ hp')]
    exact hz b off (by simpa using hp')
  · intro ha
    have := hn ha
    simpa using this
  · intro x hx _
    simpa using hx

theorem chunks {α : Type} {n : Nat} : ∀ (m : Nat) (cs : List α) (f : Nat → List α), cs.length = m * n → (∀ i, i < m → (cs.drop (i * n)).take n = f i) → cs = ((List.range m).map f).flatten
  | 0, cs, f, hl, _ => by
    have : cs = [] := List.length_eq_zero_iff.1 (by simpa using hl)
    simp [this]
  | m + 1, cs, f, hl, h => by
    have ih := chunks (n := n) m (cs.drop n) (fun i => f (i + 1)) (by rw [List.length_drop, hl, Nat.succ_mul]; omega) fun i hi => by
      rw [List.drop_drop, ← h (i + 1) (by omega), Nat.succ_mul, Nat.add_comm n]
    have h0 := h 0 (by omega)
    rw [Nat.zero_mul, List.drop_zero] at h0
    rw [List.range_succ_eq_map, List.map_cons, List.flatten_cons, List.map_map]
    conv => lhs; rw [← List.take_append_drop n cs]
    rw [h0, ih]
    rfl

/-- A listed table of rows of numbers: its cells. -/
theorem tab2_of_head {W : World} {name : String} {k : IntKind} {rows : List (List Int)} {rest : List (String × DataW Unit)} {g : Nat} {t e1 e : TypeId} {m n : Nat}
    (hg : P.globalNamed name = some g) (hty : (P.globals[g]?).map (·.type) = some t) (ht : P.underlying t = some (.array m e1)) (ht1 : P.underlying e1 = some (.array n e)) (he : P.underlying e = some (.int k)) (hce : P.cellsOf e = 1) (hc1 : P.cellsOf e1 = n) (hct : P.cellsOf t = m * n)
    (h : laidMet P ((name, .agg (rows.map (Lib.tabData k))) :: rest) W) : W.rangeAt g 0 ((List.range m).map fun i => (rows.getD i []).map (Value.int k)).flatten ∧ g < W.heap.size := by
  obtain ⟨ps, ⟨g', t', cs, fuel, p, q, hg', ht', hvar, hd, _, _⟩, _⟩ := h
  obtain rfl := Option.some.inj (hg.symm.trans hg')
  obtain rfl := Option.some.inj (hty.symm.trans ht')
  have hcs : cs.toList = ((List.range m).map fun i => (rows.getD i []).map (Value.int k)).flatten := by
    cases fuel with
    | zero => simp [DataW.trod] at hd
    | succ fuel =>
      simp only [DataW.trod, ht, hc1, hct] at hd
      split at hd
      · rename_i hl
        obtain ⟨xs, hm, hx⟩ := Option.map_eq_some_iff.1 hd
        have hxs : xs.map (·.1) = rows.map (Lib.tabData k) := by
          have := congrArg Prod.fst hx
          simpa using this
        have hxl : xs.length = m := by simpa using Lib.mapM_length hm
        have hrl : rows.length = m := by
          have := congrArg List.length hxs
          simp at this
          omega
        refine chunks m _ _ hl fun i hi => ?_
        obtain ⟨b, hb, hf⟩ := Lib.mapM_at hm i i (by simp [hi])
        have h2 : (xs.map (·.1))[i]? = some b.1 := by simp [hb]
        rw [hxs] at h2
        simp only [List.getElem?_map, Option.map_eq_some_iff] at h2
        obtain ⟨r, hr, hrb⟩ := h2
        have hf' : DataW.trod (fun _ => ()) P W 0 (fun _ => true) false fuel e1 ((cs.toList.drop (i * n)).take n) = some (Lib.tabData k r, b.2) := by
          rw [hrb]; exact hf
        rw [Lib.cells_of_tab ht1 he hce hc1 hf']
        simp [List.getD, hr]
      · cases hd
  constructor
  · rw [← hcs]
    intro j v hj
    have := World.var?_cell hg hvar j
    rw [Nat.zero_add, this]
    simpa using hj
  · unfold World.var? at hvar
    rw [hg] at hvar
    simp only [Option.bind_some] at hvar
    split at hvar
    · rename_i hh
      exact (Array.getElem?_eq_some_iff.1 hh).1
    · cases hvar

theorem mem_start (W : World) (ρ : Nat → Pl) : Mem W (fun _ => False) ρ (fun _ => none) W :=
  ⟨by constructor <;> (intros; contradiction), FrameW.refl _ _, by intros; contradiction, by intros; contradiction, by intros; contradiction⟩

/-- A law as a call off a world that holds the globals: its arguments hold no pointers. -/
theorem law_calls {Γ : Tab} (hΓ : TabOk P Γ) (hgl : Γ.gl = keysOf Γ.gh) {f : FuncId} {fn : Func} (hf : P.funcs[f]? = some fn) {L : Loops} {args : List SV} {K : SV → Prop} {inv : Nat → List Pv → Nat → Prop} (hv : Vc Γ fn L Γ.gh args K inv) (hlen : args.length ≤ fn.ntmps)
    {W : World} {vs : List Value} (hG : Glob Γ.gh W fun _ => False) (ha : Ds (fun _ => False) (fun _ => ({ blk := 0, off := 0, cap := 0 } : Pl)) args vs) (hK : ∀ x, K x → ∃ e, x = .b e true) :
    Calls P f vs.toArray W fun e w' => e = .returned (.bool true) ∧ Below W.heap.size W w' := by
  obtain ⟨ρg, g1, g2, g3⟩ := mem_of_glob hG (mem_start W fun _ => ({ blk := 0, off := 0, cap := 0 } : Pl))
  have hgo : GlOk Γ W (fun _ => False) ρg (assoc Γ.gh) := ⟨fun g hg => ⟨assoc_dm (by rw [← hgl]; exact hg), (g3 g).1, (g3 g).2⟩, g2⟩
  refine (vc_calls hΓ hf hv hlen hgo g1 (Ds.mono (fun _ h => h.elim) (fun _ h => h.elim) args vs ha)).mono fun e w' he => ?_
  obtain ⟨x, v, rfl, k1, ⟨dm, ρ', k2⟩, k3⟩ := he
  obtain ⟨e, rfl⟩ := hK x k1
  simp only [D] at k2
  exact ⟨by rw [k2], k3⟩
end
end Go.Gx

/- A law that reads slices, as a call off a world that holds the globals. -/
namespace Go.Gx
open Go.RowKit Go.ChangeShapes Go.WideShapes Go.ChangeAt
set_option linter.unusedVariables false

section
variable {P : Program}

theorem law_views {Γ : Tab} (hΓ : TabOk P Γ) (hgl : Γ.gl = keysOf Γ.gh) (hlow : ∀ g ∈ keysOf Γ.gh, g < 500) {f : FuncId} {fn : Func} (hf : P.funcs[f]? = some fn) {L : Loops} {ras : List RA} {args' : List SV} {K : SV → Prop} {inv : Nat → List Pv → Nat → Prop}
    (k1 : okArgs 500 ras args') (k3 : Vc Γ fn L (Γ.gh ++ viewH 500 ras) args' K inv) (k2 : args'.length ≤ fn.ntmps)
    {W : World} {vs : List Value} (hG : Glob Γ.gh W fun _ => False) (hR : RAsD P W (fun _ => False) (fun _ => ({ blk := 0, off := 0, cap := 0 } : Pl)) ras vs) (hK : ∀ x, K x → ∃ e, x = .b e true) :
    Calls P f vs.toArray W fun e w' => e = .returned (.bool true) ∧ Below W.heap.size W w' := by
  obtain ⟨ρg, g1, g2, g3⟩ := mem_of_glob hG (mem_start W fun _ => ({ blk := 0, off := 0, cap := 0 } : Pl))
  obtain ⟨pl, v1, v2⟩ := views_at ras args' vs 500 hR k1
  have hbelow : ∀ k b, assoc Γ.gh k = some b → k < 500 := fun k b hb => hlow k (keysOf_of_dm (by unfold dmOf; rw [hb]; rfl))
  have hat : ∀ k b, assoc (Γ.gh ++ viewH 500 ras) k = some b → (k < 500 ∧ assoc Γ.gh k = some b) ∨ (500 ≤ k ∧ assoc (viewH 500 ras) k = some b) := fun k b hb => by
    rw [assoc_app] at hb
    split at hb
    · rename_i x hx
      rw [hb] at hx
      exact .inl ⟨hbelow k b hx, hx⟩
    · exact .inr ⟨viewH_low ras 500 k b hb, hb⟩
  have hmem : Mem W (fun _ => False) (fun k => if k < 500 then ρg k else pl k) (assoc (Γ.gh ++ viewH 500 ras)) W := by
    refine mem_ro fun k b hb => ?_
    rcases hat k b hb with ⟨hk, hb⟩ | ⟨hk, hb⟩
    · simp only [hk, if_true]
      obtain ⟨l, cs, rfl, _, _, _, hlt⟩ := g2 k b (assoc_mem hb)
      obtain ⟨cs2, s1, s2, s3, _⟩ := g1.heap.blk k _ hb
      obtain ⟨_, _, e, q1, q2, _, _⟩ := g2 k _ (assoc_mem hb)
      simp only [SB.segs.injEq, true_and] at e
      subst e
      refine ⟨_, _, rfl, q1, ?_, by rw [(g3 k).1, (g3 k).2]; exact q2, fun hc => g1.heap.lt k true _ hb hc⟩
      have hu : ∀ (l : List Seg) (dm dm' : Nat → Prop) (ρ ρ' : Nat → Pl) (u v : List Value), SegsD dm ρ l u → SegsD dm' ρ' l v → u.length = v.length := by
        intro l
        induction l with
        | nil => intro _ _ _ _ u v hu hv; rw [show u = [] from hu, show v = [] from hv]
        | cons g r ih =>
          intro dm dm' ρ ρ' u v hu hv
          obtain ⟨a1, a2, a3, rfl, a5⟩ := hu
          obtain ⟨b1, b2, b3, rfl, b5⟩ := hv
          have := ih dm dm' ρ ρ' _ _ a5 b5
          have hg : a1.length = b1.length := by
            cases g with
            | one x => obtain ⟨_, _, _, e1⟩ := a3; obtain ⟨_, _, _, e2⟩ := b3; rw [e1, e2]; rfl
            | arr k n ex l => rw [a3.2.2, b3.2.2]
            | rowI k l => rw [a3.2, b3.2]
            | rowA k n l => rw [a3.2, b3.2]
          simp [this, hg]
      rw [hu _ _ _ _ _ _ _ q1 s1]
      exact s2
    · have hn : ¬ (k < 500) := by omega
      simp only [hn, if_false]
      exact v1 k b hb
  have hgo : GlOk Γ W (fun _ => False) (fun k => if k < 500 then ρg k else pl k) (assoc (Γ.gh ++ viewH 500 ras)) := by
    refine ⟨fun g hg => ?_, g2⟩
    rw [hgl] at hg
    have hk := hlow g hg
    simp only [hk, if_true]
    refine ⟨?_, (g3 g).1, (g3 g).2⟩
    have := assoc_dm hg
    unfold dmOf at this ⊢
    rw [assoc_app]
    obtain ⟨b, hb⟩ := Option.isSome_iff_exists.1 this
    rw [hb]; rfl
  have hargs : Ds (dmOf (assoc (Γ.gh ++ viewH 500 ras))) (fun k => if k < 500 then ρg k else pl k) args' vs := by
    refine v2 _ _ fun k hk => ?_
    obtain ⟨b, hb⟩ := Option.isSome_iff_exists.1 hk
    have h5 := viewH_low ras 500 k b hb
    have hn : ¬ (k < 500) := by omega
    refine ⟨?_, by simp only [hn, if_false]⟩
    unfold dmOf
    rw [assoc_app]
    split
    · rfl
    · exact hk
  refine (vc_calls hΓ hf k3 k2 hgo hmem hargs).mono fun e w' he => ?_
  obtain ⟨x, v, rfl, q1, ⟨dm, ρ', q2⟩, q3⟩ := he
  obtain ⟨e, rfl⟩ := hK x q1
  simp only [D] at q2
  exact ⟨by rw [q2], q3⟩

/-- An argument that is a slice of numbers: nil, or its numbers, which are few. -/
theorem slice_arg {H : Type} {enc : TypeId × Value → H} {W : World} {t e : TypeId} {k : IntKind} {v : Value} {d : DataW H} {ps : List MemPlace} {b : Nat} (hone : v.cells = #[v])
    (ht : P.underlying t = some (.slice e)) (he : P.underlying e = some (.int k)) (hc : P.cellsOf e = 1) (h : DataW.Trod enc P W b (fun _ => true) true t v d ps) {ts : List TypeId} {ds : List (DataW H)} {j : Nat} (hj : ts[j]? = some t) (hd : ds[j]? = some d) (hw : (DataW.weightsEach P ts ds).all (· ≤ reachBytes) = true) (hbs : 0 < P.bytesOf e) :
    (v = .slice none 0 0) ∨ ∃ zs : List Int, AllR k zs ∧ zs.length < 140737488355328 ∧ ConAt P W v (.ints k zs) ∧ ∃ ad n cap, v = .slice ad n cap := by
  obtain ⟨fuel, h⟩ := h
  rw [hone] at h
  rcases open_ints ht he hc h with ⟨h1, _⟩ | ⟨a, len, cap, zs, h1, h2, h3, h4, h5, h6, h7, h8⟩
  · left; simpa using h1
  · right
    have hv : v = .slice (some a) len cap := by simpa using h1
    have hzl : zs.length = cap := by simpa using h5
    have hdz : d = .slice (lits k (zs.take len)) (lits k (zs.drop len)) := by
      have := congrArg Prod.fst h6; simpa using this
    have hsz := sized_slice hw hj (by rw [hd, hdz]) ht
    have hll : ∀ l : List Int, (lits (H := H) k l).length = l.length := fun l => by simp [lits]
    rw [hll, hll, List.length_take, List.length_drop, hzl, Nat.min_eq_left h3] at hsz
    have hcap : cap < 2 ^ 47 := by
      have h9 := reachBytes_lt
      have : cap * 1 ≤ cap * P.bytesOf e := Nat.mul_le_mul_left _ hbs
      rw [show len + (cap - len) = cap by omega] at hsz
      omega
    have hR : AllR k zs := fun z hz => by
      have := h8 z hz
      simp only [Lit.wf, Bool.and_eq_true, decide_eq_true_eq] at this
      cases k <;> simp [InR, IntKind.min, IntKind.max, IntKind.bits, IntKind.signed] at this ⊢ <;> omega
    have hRt : AllR k (zs.take len) := fun z hz => hR z (List.mem_of_mem_take hz)
    have hlen : (zs.take len).length = len := by rw [List.length_take]; omega
    have hget : ∀ i v, (((zs.take len).map (Value.int k))[i]? = some v) → W.cell? (a.add i) = some v := fun i v hv => by
      rw [List.getElem?_map, Option.map_eq_some_iff] at hv
      obtain ⟨z, hz, rfl⟩ := hv
      have hi : i < len := by have := (List.getElem?_eq_some_iff.1 hz).1; omega
      rw [List.getElem?_take, if_pos hi] at hz
      rw [h7 i (by omega)]
      simp [List.getD, hz]
    refine ⟨zs.take len, hRt, by omega, ⟨hRt, fun w' => ?_, fun ad n c' hv' => ?_, fun w' hw' m hm => ?_⟩, some a, len, cap, hv⟩
    · rw [hv]; simp [Builtin.lenOf, conLen, hlen]
    · rw [hv] at hv'
      simp only [Value.slice.injEq] at hv'
      obtain ⟨rfl, rfl, rfl⟩ := hv'
      refine ⟨by simp [conLen, hlen], h3, ?_⟩
      rcases Nat.eq_zero_or_pos cap with h0 | h0
      · exact .inl ⟨by simp only [conLen]; omega, h0⟩
      · right
        have h00 := h7 0 (by omega)
        obtain ⟨bk, of, sp⟩ := a
        have hsp : sp = none ∧ bk < W.heap.size := by
          unfold World.cell? at h00
          split at h00
          · rename_i hb
            have hb : W.heap[bk]? = _ := hb
            refine ⟨?_, (Array.getElem?_eq_some_iff.1 hb).1⟩
            split at h00
            · cases h00
            · rename_i hs
              have hs : ¬ sp.isSome = true := hs
              simpa using hs
          · cases h00
        obtain ⟨rfl, hbk⟩ := hsp
        refine ⟨bk, of, rfl, fun _ => hbk, fun i u hu => ?_⟩
        have := hget i u hu
        have ea : (⟨bk, of, none⟩ : Addr).add i = ⟨bk, of + i, none⟩ := by
          by_cases h : i = 0 <;> simp [Addr.add, h]
        rw [ea] at this
        exact this
    · rw [hv]
      have hm' : m ≤ len := by simpa [conLen, hlen] using hm
      refine firstCells_some 1 m a len cap _ (by simp only [conSize, conCells, Nat.mul_one, List.length_take, List.length_map, hlen]; omega) (fun i u hu => hw' _ _ (hget i u ?_))
      rw [List.getElem?_take] at hu
      split at hu
      · exact hu
      · cases hu
end
end Go.Gx

/- A law off a world that holds the globals: its arguments as data that is only read. -/
namespace Go.Gx
open Go.RowKit Go.ChangeShapes Go.WideShapes Go.ChangeAt
open Go.Proofs.Ythgclfedhgmpiaa.Rows (uptoBulk uptoBulkAll uptoSmall)
set_option linter.unusedVariables false

def shTyB (P : Program) : Sh → TypeId → Bool
  | .i k, t => (match P.underlying t with | some (.int k') => keq k k' | _ => false)
  | .tb, t => (match P.underlying t with | some .bool => true | _ => false)
  | .ts, t => (match P.underlying t with | some .string => true | _ => false)
  | .ints k, t => (match P.underlying t with
    | some (.slice e) => (match P.underlying e with | some (.int k') => keq k k' && (Nat.beq (P.cellsOf e) 1 && Nat.blt 0 (P.bytesOf e)) | _ => false)
    | _ => false)
  | .l sh, t => (match P.underlying t with
    | some (.slice e) => shTyB P sh e && (Nat.beq (P.cellsOf e) (shSize sh) && (Nat.blt 0 (shSize sh) && Nat.blt 0 (P.bytesOf e)))
    | _ => false)
  | _, _ => false

/-- How much data holds. -/
def roM : Sh → RO → Nat
  | .ts, d => (roS d).size
  | .ints _, d => (roL d).length
  | .l e, d => (roX d).length + ((roX d).map (roM e)).sum
  | _, _ => 0

/-- Is each slice and text of data of at most so many parts? -/
def roMx (N : Nat) : Sh → RO → Prop
  | .ts, d => (roS d).size ≤ N
  | .ints _, d => (roL d).length ≤ N
  | .l e, d => (roX d).length ≤ N ∧ ∀ x ∈ roX d, roMx N e x
  | _, _ => True

section
variable {P : Program}

theorem weightsAll_mem {H : Type} {e : TypeId} {d : DataW H} : ∀ {l : List (DataW H)}, d ∈ l → ∀ n ∈ d.weights P e, n ∈ DataW.weightsAll P e l
  | y :: r, h, n, hn => by
    simp only [DataW.weightsAll, List.mem_append]
    rcases List.mem_cons.1 h with rfl | h
    · exact .inl hn
    · exact .inr (weightsAll_mem h n hn)

theorem bulk_pos {H : Type} (d : DataW H) : 1 ≤ uptoBulk d := by unfold uptoBulk; split <;> omega
theorem bulkAll_len {H : Type} : ∀ (l : List (DataW H)), l.length ≤ uptoBulkAll l
  | [] => by simp [uptoBulkAll]
  | d :: r => by have := bulk_pos d; have := bulkAll_len r; simp only [uptoBulkAll, List.length_cons]; omega
theorem bulkAll_app {H : Type} : ∀ (a b : List (DataW H)), uptoBulkAll (a ++ b) = uptoBulkAll a + uptoBulkAll b
  | [], b => by simp [uptoBulkAll]
  | d :: r, b => by simp only [List.cons_append, uptoBulkAll, bulkAll_app r b]; omega

theorem ChainR.snoc {R : RO → Value → Prop} {x : RO} {v : Value} (hx : R x v) : ∀ (xs : List RO) (cs : List Value), ChainR R xs cs → ChainR R (xs ++ [x]) (cs ++ v.cells.toList)
  | [], cs, h => by rw [show cs = [] from h]; exact ⟨v, [], hx, by simp, rfl⟩
  | y :: r, cs, h => by
    obtain ⟨u, c, h1, rfl, h3⟩ := h
    exact ⟨u, c ++ v.cells.toList, h1, by simp [List.append_assoc], ChainR.snoc hx r c h3⟩

theorem rangeAt_app {w : World} {b o : Nat} {x y : List Value} (h1 : w.rangeAt b o x) (h2 : w.rangeAt b (o + x.length) y) : w.rangeAt b o (x ++ y) := fun j v hv => by
  rcases Nat.lt_or_ge j x.length with h | h
  · rw [List.getElem?_append_left h] at hv; exact h1 j v hv
  · rw [List.getElem?_append_right h] at hv
    have := h2 _ v hv
    rwa [show o + x.length + (j - x.length) = o + j by omega] at this

theorem addr_of_cell {W : World} {a : Addr} {v : Value} (h : W.cell? a = some v) : a = ⟨a.block, a.off, none⟩ ∧ a.block < W.heap.size := by
  obtain ⟨bk, of, sp⟩ := a
  unfold World.cell? at h
  split at h
  · rename_i hb
    have hb : W.heap[bk]? = _ := hb
    refine ⟨?_, (Array.getElem?_eq_some_iff.1 hb).1⟩
    split at h
    · cases h
    · rename_i hs
      have hs : ¬ sp.isSome = true := hs
      have : sp = none := by simpa using hs
      rw [this]
  · cases h

theorem add_add_addr (a : Addr) (i j : Nat) : (a.add i).add j = a.add (i + j) := by
  unfold Addr.add
  by_cases h1 : i = 0 <;> by_cases h2 : j = 0 <;> simp [h1, h2, Nat.add_assoc]
theorem add_zero_addr (a : Addr) : a.add 0 = a := by simp [Addr.add]

/-- An argument's reading, as data. -/
theorem trod_ro {H : Type} {enc : TypeId × Value → H} {W : World} (N : Nat) : ∀ (sh : Sh) (t : TypeId) (fuel : Nat) (cs : List Value) (x : DataW H × List MemPlace), shTyB P sh t = true → DataW.trod enc P W 0 (fun _ => true) true fuel t cs = some x →
    ∃ ro v, cs = v.cells.toList ∧ RoD W (OutB W fun _ => False) sh ro v ∧ roM sh ro + 1 ≤ uptoBulk x.1 ∧ ((∀ n ∈ x.1.weights P t, n ≤ N) → roMx N sh ro)
  | .i k, t, fuel, cs, x, hs, h => by
    simp only [shTyB] at hs
    split at hs
    · rename_i k' hu
      have hk := keq_eq hs
      subst hk
      cases fuel with
      | zero => simp [DataW.trod] at h
      | succ n =>
        unfold DataW.trod at h
        rw [hu] at h
        rcases cs with _ | ⟨c, _ | ⟨c2, r⟩⟩
        · simp at h
        · cases c <;> simp at h
          rename_i k2 z
          obtain ⟨⟨rfl, hz⟩, rfl⟩ := h
          refine ⟨.i z, .int k2 z, rfl, ?_, by simp [roM, uptoBulk], fun _ => trivial⟩
          simp only [RoD, roZ]
          refine ⟨trivial, ?_⟩
          simp only [Lit.wf, Bool.and_eq_true, decide_eq_true_eq] at hz
          cases k2 <;> simp [InR, IntKind.min, IntKind.max, IntKind.bits, IntKind.signed] at hz ⊢ <;> omega
        · simp at h
    · cases hs
  | .tb, t, fuel, cs, x, hs, h => by
    simp only [shTyB] at hs
    split at hs
    · rename_i hu
      cases fuel with
      | zero => simp [DataW.trod] at h
      | succ n =>
        unfold DataW.trod at h
        rw [hu] at h
        rcases cs with _ | ⟨c, _ | ⟨c2, r⟩⟩
        · simp at h
        · cases c <;> simp at h
          rename_i b
          subst h
          exact ⟨.b b, .bool b, rfl, by simp only [RoD, roB], by simp [roM, uptoBulk], fun _ => trivial⟩
        · simp at h
    · cases hs
  | .ts, t, fuel, cs, x, hs, h => by
    simp only [shTyB] at hs
    split at hs
    · rename_i hu
      cases fuel with
      | zero => simp [DataW.trod] at h
      | succ n =>
        unfold DataW.trod at h
        rw [hu] at h
        rcases cs with _ | ⟨c, _ | ⟨c2, r⟩⟩
        · simp at h
        · cases c <;> simp at h
          rename_i s
          obtain ⟨hz, rfl⟩ := h
          refine ⟨.s s, .string s, rfl, ?_, ?_, fun hw => ?_⟩
          · simp only [RoD, roS]
            refine ⟨trivial, ?_⟩
            have : s.size ≤ maxLen := hz
            simp only [maxLen] at this
            omega
          · simp only [roM, roS, uptoBulk]
            have : s.data.toList.length = s.size := by simp
            omega
          · have := hw s.data.toList.length (by simp [DataW.weights])
            have e : s.data.toList.length = s.size := by simp
            simp only [roMx, roS]
            omega
        · simp at h
    · cases hs
  | .ints k, t, fuel, cs, x, hs, h => by
    simp only [shTyB] at hs
    split at hs
    · rename_i e hu
      split at hs
      · rename_i k' hue
        simp only [Bool.and_eq_true] at hs
        have hk := keq_eq hs.1
        subst hk
        have hbs : 0 < P.bytesOf e := by have := hs.2.2; simp [Nat.blt] at this; omega
        rcases open_ints hu hue (Nat.eq_of_beq_eq_true hs.2.1) h with ⟨rfl, rfl⟩ | ⟨a, len, cap, zs, rfl, h2, h3, h4, h5, h6, h7, h8⟩
        · refine ⟨.l [], .slice none 0 0, rfl, ?_, by simp [roM, roL, uptoBulk], fun _ => Nat.zero_le _⟩
          simp only [RoD]
          exact ⟨none, 0, rfl, Nat.le_refl _, by simp [roL], (fun z hz => by cases hz), .inr ⟨rfl, rfl⟩⟩
        · have hzl : zs.length = cap := by simpa using h5
          have hR : AllR k zs := fun z hz => by
            have := h8 z hz
            simp only [Lit.wf, Bool.and_eq_true, decide_eq_true_eq] at this
            cases k <;> simp [InR, IntKind.min, IntKind.max, IntKind.bits, IntKind.signed] at this ⊢ <;> omega
          have hlen : (zs.take len).length = len := by rw [List.length_take]; omega
          have hmax : cap ≤ 140737488355328 ∨ True := .inr trivial
          refine ⟨.l (zs.take len), .slice (some a) len cap, rfl, ?_, ?_, fun hw => ?_⟩
          · simp only [RoD]
            have er : roL (.l (zs.take len)) = zs.take len := rfl
            rw [er]
            refine ⟨some a, cap, by rw [hlen], by omega, ?_, fun z hz => hR z (List.mem_of_mem_take hz), ?_⟩
            · rw [hlen]; simp only [maxLen] at h4; omega
            · rcases Nat.eq_zero_or_pos cap with h0 | h0
              · exact .inr ⟨by omega, h0⟩
              · have h00 := h7 0 (by omega)
                rw [add_zero_addr] at h00
                obtain ⟨ha, hb⟩ := addr_of_cell h00
                refine .inl ⟨a.block, a.off, by rw [← ha], ⟨hb, fun h => h⟩, fun i u hu => ?_⟩
                rw [List.getElem?_map, Option.map_eq_some_iff] at hu
                obtain ⟨z, hz, rfl⟩ := hu
                rw [List.getElem?_take] at hz
                split at hz
                · rename_i hi
                  have := h7 i (by omega)
                  have ea : a.add i = ⟨a.block, a.off + i, none⟩ := by rw [ha]; exact Addr.add_mid _ _ _
                  rw [ea] at this
                  rw [this]
                  simp [List.getD, hz]
                · cases hz
          · rw [h6]
            simp only [roM, roL, uptoBulk]
            have := bulkAll_len (lits (H := H) k (zs.take len))
            have e : (lits (H := H) k (zs.take len)).length = (zs.take len).length := by simp [lits]
            omega
          · rw [h6] at hw
            have elen : ∀ l : List Int, (lits (H := H) k l).length = l.length := fun l => by simp [lits]
            have := hw (((lits (H := H) k (zs.take len)).length + (lits (H := H) k (zs.drop len)).length) * P.bytesOf e) (by simp [DataW.weights, hu])
            rw [elen, elen] at this
            have h9 : ((zs.take len).length + (zs.drop len).length) * 1 ≤ ((zs.take len).length + (zs.drop len).length) * P.bytesOf e := Nat.mul_le_mul_left _ hbs
            show (zs.take len).length ≤ N
            omega
      · cases hs
    · cases hs
  | .l sh, t, fuel, cs, x, hs, h => by
    simp only [shTyB] at hs
    split at hs
    · rename_i e hu
      simp only [Bool.and_eq_true] at hs
      obtain ⟨hs1, hs2, hs3, hs4⟩ := hs
      have hbs : 0 < P.bytesOf e := by simp [Nat.blt] at hs4; omega
      have hc := Nat.eq_of_beq_eq_true hs2
      have hpos : 0 < shSize sh := by simp [Nat.blt] at hs3; omega
      rcases DataW.trod_slice hu h with ⟨rfl, rfl⟩ | ⟨a, len, cap, elems, rest, n, rfl, rfl, rfl, hb, hl, hm, hlen, hel, hsp, hns⟩
      · refine ⟨.r [], .slice none 0 0, rfl, ?_, by simp [roM, roX, uptoBulk], fun _ => ⟨Nat.zero_le _, fun x hx => by cases hx⟩⟩
        simp only [RoD]
        exact ⟨none, 0, [], rfl, Nat.le_refl _, by simp [roX], rfl, .inr ⟨rfl, rfl⟩⟩
      · obtain ⟨hrl, hrest⟩ := hsp rfl
        have hall : ∀ i, i < cap → ∃ ccs y, W.cells? 0 (a.add (i * P.cellsOf e)) (P.cellsOf e) = some ccs ∧ DataW.trod enc P W 0 (fun _ => true) true n e ccs = some y ∧ (i < len → elems[i]? = some y) := fun i hi => by
          by_cases hil : i < len
          · have h1 := hel i hil
            have h2 : elems[i]? = some elems[i] := List.getElem?_eq_getElem (by omega)
            rw [h2, Option.bind_eq_some_iff] at h1
            obtain ⟨ccs, q1, q2⟩ := h1
            exact ⟨ccs, _, q1, q2, fun _ => h2⟩
          · have h1 := hrest (i - len) (by omega)
            have h2 : rest[i - len]? = some rest[i - len] := List.getElem?_eq_getElem (by omega)
            rw [h2, Option.bind_eq_some_iff, show len + (i - len) = i by omega] at h1
            obtain ⟨ccs, q1, q2⟩ := h1
            exact ⟨ccs, _, q1, q2, fun h => absurd h hil⟩
        have hblk : 0 < cap → a = ⟨a.block, a.off, none⟩ ∧ a.block < W.heap.size := fun h0 => by
          obtain ⟨ccs, y, q1, q2, _⟩ := hall 0 h0
          obtain ⟨_, q3, q4⟩ := World.cells?_some q1
          have := q4 0 (by omega)
          rw [Nat.zero_mul, add_zero_addr, add_zero_addr] at this
          obtain ⟨v, hv⟩ : ∃ v, ccs[0]? = some v := ⟨ccs[0]'(by omega), List.getElem?_eq_getElem _⟩
          rw [hv] at this
          exact addr_of_cell this
        have hchain : ∀ m, m ≤ len → ∃ ros cs', ros.length = m ∧ ChainR (RoD W (OutB W fun _ => False) sh) ros cs' ∧ cs'.length = shSize sh * m ∧ (∀ i u, cs'[i]? = some u → W.cell? (a.add i) = some u) ∧ ros.length + (ros.map (roM sh)).sum ≤ uptoBulkAll ((elems.take m).map (·.1)) ∧ ((∀ y ∈ elems, ∀ n ∈ y.1.weights P e, n ≤ N) → ∀ ro ∈ ros, roMx N sh ro) := by
          intro m
          induction m with
          | zero => intro _; exact ⟨[], [], rfl, rfl, by simp, (fun i u h => by simp at h), by simp, fun _ x hx => by cases hx⟩
          | succ m ih =>
            intro hm'
            obtain ⟨ros, cs', r1, r2, r3, r4, r5, r6⟩ := ih (by omega)
            obtain ⟨ccs, y, q1, q2, q3⟩ := hall m (by omega)
            have q3 := q3 (by omega)
            obtain ⟨ro, v, rfl, s2, s3, s4⟩ := trod_ro N sh e n ccs y hs1 q2
            obtain ⟨_, q5, q6⟩ := World.cells?_some q1
            have hvl := RoD_cells sh ro v s2
            refine ⟨ros ++ [ro], cs' ++ v.cells.toList, by simp [r1], ChainR.snoc s2 ros cs' r2, by rw [List.length_append, r3, hvl, Nat.mul_add]; omega, fun i u hu => ?_, ?_, fun hy ro' hr => ?_⟩
            · rcases Nat.lt_or_ge i cs'.length with hi | hi
              · rw [List.getElem?_append_left hi] at hu; exact r4 i u hu
              · rw [List.getElem?_append_right hi] at hu
                have hi2 : i - cs'.length < v.cells.toList.length := (List.getElem?_eq_some_iff.1 hu).1
                have := q6 (i - cs'.length) (by omega)
                rw [hu] at this
                have e1 : m * P.cellsOf e = cs'.length := by rw [hc, r3, Nat.mul_comm]
                rw [← this, add_add_addr, e1, Nat.add_sub_cancel' hi]
            · rw [List.map_append, List.sum_append, List.length_append, List.take_add_one, q3, List.map_append, bulkAll_app]
              simp only [List.map_cons, List.map_nil, List.sum_cons, List.sum_nil, List.length_cons, List.length_nil, Option.toList_some, uptoBulkAll]
              omega
            · rcases List.mem_append.1 hr with hr | hr
              · exact r6 hy ro' hr
              · simp only [List.mem_cons, List.not_mem_nil, or_false] at hr
                subst hr
                exact s4 fun k hk => hy y (List.mem_of_getElem? q3) k hk
        obtain ⟨ros, cs', r1, r2, r3, r4, r5, r6⟩ := hchain len (Nat.le_refl _)
        refine ⟨.r ros, .slice (some a) len cap, rfl, ?_, ?_, fun hw => ⟨?_, ?_⟩⟩
        · simp only [RoD]
          have er : roX (.r ros) = ros := rfl
          rw [er]
          refine ⟨some a, cap, cs', by rw [r1], by omega, ?_, r2, ?_⟩
          · rw [r1]; simp only [maxLen] at hm; omega
          · rcases Nat.eq_zero_or_pos cap with h0 | h0
            · exact .inr ⟨by omega, h0⟩
            · obtain ⟨ha, hb⟩ := hblk h0
              refine .inl ⟨a.block, a.off, by rw [← ha], ⟨hb, fun h => h⟩, fun i u hu => ?_⟩
              have := r4 i u hu
              have ea : a.add i = ⟨a.block, a.off + i, none⟩ := by rw [ha]; exact Addr.add_mid _ _ _
              rwa [ea] at this
        · simp only [roM, roX, uptoBulk]
          rw [List.take_of_length_le (by omega)] at r5
          have := bulkAll_len (elems.map (·.1))
          rw [List.length_map] at this
          omega
        · have := hw (((elems.map (·.1)).length + (rest.map (·.1)).length) * P.bytesOf e) (by simp [DataW.weights, hu])
          rw [List.length_map, List.length_map] at this
          have h9 : (elems.length + rest.length) * 1 ≤ (elems.length + rest.length) * P.bytesOf e := Nat.mul_le_mul_left _ hbs
          show ros.length ≤ N
          omega
        · refine r6 fun y hy k hk => hw k ?_
          simp only [DataW.weights, hu, List.mem_cons, List.mem_append]
          exact .inr (.inl (weightsAll_mem (List.mem_map.2 ⟨y, hy, rfl⟩) k hk))
    · cases hs
  | .arr _ _, t, fuel, cs, x, hs, h => by simp [shTyB] at hs
  | .r _, t, fuel, cs, x, hs, h => by simp [shTyB] at hs

def slSh : Sh → Bool
  | .ints _ => true
  | .l _ => true
  | _ => false

/-- An argument that is a slice, as data. -/
theorem arg_ro {H : Type} {enc : TypeId × Value → H} {W : World} (N : Nat) (sh : Sh) {t : TypeId} {v : Value} {d : DataW H} {ps : List MemPlace} (hs : shTyB P sh t = true) (hsl : slSh sh = true) (hv : v.cells.toList = [v]) (h : DataW.Trod enc P W 0 (fun _ => true) true t v d ps) :
    ∃ ro, RoD W (OutB W fun _ => False) sh ro v ∧ (∃ ad n cap, v = .slice ad n cap) ∧ roM sh ro + 1 ≤ uptoBulk d ∧ ((∀ n ∈ d.weights P t, n ≤ N) → roMx N sh ro) := by
  obtain ⟨fuel, h⟩ := h
  obtain ⟨ro, u, e, q1, q2, q3⟩ := trod_ro N sh t fuel _ _ hs h
  have hu : ∃ ad n cap, u = .slice ad n cap := by
    cases sh <;> simp only [slSh, Bool.false_eq_true] at hsl <;> simp only [RoD] at q1
    · obtain ⟨a, cap, rfl, _⟩ := q1; exact ⟨_, _, _, rfl⟩
    · obtain ⟨a, cap, cs, rfl, _⟩ := q1; exact ⟨_, _, _, rfl⟩
  have huv : v = u := by
    obtain ⟨ad, n, cap, rfl⟩ := hu
    rw [hv] at e
    simpa [Value.cells] using e
  subst huv
  exact ⟨ro, q1, hu, q2, q3⟩

/-- A law as a call off a world that holds the globals. -/
theorem law_gen {Γ : Tab} (hΓ : TabOk P Γ) (hgl : Γ.gl = keysOf Γ.gh) (hlow : ∀ g ∈ keysOf Γ.gh, g < 490) {f : FuncId} {fn : Func} (hf : P.funcs[f]? = some fn) {av : List AV} {args' : List SV} {L : Loops} {K : List RV → List (Option (List Seg)) → Prop} {inv : Nat → List Pv → Nat → Prop}
    (k1 : okA 600 av args' []) (k2 : args'.length ≤ fn.ntmps) (k3 : VcG 0 Γ fn L (Γ.gh ++ (490, .world) :: []) args' K inv) (hK : ∀ rvs fin, K rvs fin → ∃ e, rvs = [.v (.b e true)])
    {W : World} {vs : List Value} (hG : Glob Γ.gh W fun _ => False) (hA : AsD W (OutB W fun _ => False) (fun _ => none) (fun _ => { blk := 0, off := 0, cap := 0 }) av vs []) :
    Calls P f vs.toArray W fun e w' => e = .returned (.bool true) ∧ Below W.heap.size W w' := by
  have hm := mem_start W fun _ => { blk := 0, off := 0, cap := 0 }
  obtain ⟨hh1, hh2⟩ := okA_heap av vs [] 600 args' [] hA k1
  obtain ⟨ρ1, m1, m2, m3, m4, m5⟩ := gen_mem hG hgl hlow hm (ks := []) (fun k hk => by cases hk) List.nodup_nil (M' := fun _ => False) (fun b => ⟨fun h => h.elim, fun ⟨k, hk, _⟩ => by cases hk⟩) hh1 hh2
  have hargs := okA_args m3 m4 av vs [] 600 args' [] hA k1 (fun i hi => by simp at hi)
  refine (vcG_calls hΓ hf k3 k2 m2 m1 hargs).mono fun e w' he => ?_
  obtain ⟨x, v, h', ρ', rfl, r1, r2, r3, r4⟩ := he
  obtain ⟨rvs', fin', t1, t3, t4, t5⟩ := kvG_sound r3 r2 r1
  obtain ⟨e, rfl⟩ := hK _ _ t1
  rcases t3 with ⟨r, hr, hd⟩ | ⟨hn, _⟩
  · simp only [List.cons.injEq, and_true] at hr
    subst hr
    simp only [RvD, D] at hd
    exact ⟨by rw [hd], r3.frame.below fun _ h => h⟩
  · exact absurd rfl hn

end
end Go.Gx

/- TranscriptApart: two frames are the same just if what they frame is; none is the beginning of another one. For all labels and parts that are not more than the second form's bound. -/
namespace Go.Gx
open Go.Proofs Go.Sp Go.RowKit
set_option linter.unusedVariables false
set_option maxRecDepth 100000
namespace TranscriptApart
def vc4 (s : ByteArray) (d : RO) (s' : ByteArray) (d' : RO) (K : List RV → List (Option (List Seg)) → Prop) (Q : Nat → List Pv → Prop) : Prop := fnVcG 0 Γ2 Try.f4 [] [.s s, .ro 490 (.l (.ints .u8)) d, .s s', .ro 490 (.l (.ints .u8)) d'] (gh ++ (490, .world) :: []) K Q
theorem vc4_eq : ∀ (s : ByteArray) (d : RO) (s' : ByteArray) (d' : RO) (K : List RV → List (Option (List Seg)) → Prop) (Q : Nat → List Pv → Prop), vc4 s d s' d' K Q = (Need ((((frL (bytesI s) (List.map roL (roX d))).length : Nat) : Int) ≤ (70368744177664 : Int)) ∧ ∀ (x1 : List Int), x1 = frL (bytesI s) (List.map roL (roX d)) → AllR IntKind.u8 x1 → ∀ (x2 : Int), x2 = (((frL (bytesI s) (List.map roL (roX d))).length : Nat) : Int) → (0 : Int) ≤ x2 → InR IntKind.i64 x2 → Need ((0 : Int) + x2 ≤ ((x1.length : Nat) : Int)) ∧ Need ((((frL (bytesI s') (List.map roL (roX d'))).length : Nat) : Int) ≤ (70368744177664 : Int)) ∧ ∀ (x3 : List Int), x3 = frL (bytesI s') (List.map roL (roX d')) → AllR IntKind.u8 x3 → ∀ (x4 : Int), x4 = (((frL (bytesI s') (List.map roL (roX d'))).length : Nat) : Int) → (0 : Int) ≤ x4 → InR IntKind.i64 x4 → Need ((0 : Int) + x4 ≤ ((x3.length : Nat) : Int)) ∧ (decide ((((ofBytesI (List.take x2.toNat (List.drop (0 : Nat) x1))).size : Nat) : Int) < (16 : Int)) = true → K [RV.v (SV.b true false)] []) ∧ (decide ((((ofBytesI (List.take x2.toNat (List.drop (0 : Nat) x1))).size : Nat) : Int) < (16 : Int)) = false → (decide ((((ofBytesI (List.take x4.toNat (List.drop (0 : Nat) x3))).size : Nat) : Int) < (16 : Int)) = true → K [RV.v (SV.b true false)] []) ∧ (decide ((((ofBytesI (List.take x4.toNat (List.drop (0 : Nat) x3))).size : Nat) : Int) < (16 : Int)) = false → ∀ (x5 : Bool), x5 = sameB s (List.map roL (roX d)) s' (List.map roL (roX d')) → ((!((ofBytesI (List.take x2.toNat (List.drop (0 : Nat) x1))).toList == (ofBytesI (List.take x4.toNat (List.drop (0 : Nat) x3))).toList) == x5) = true → K [RV.v (SV.b true false)] []) ∧ ((!((ofBytesI (List.take x2.toNat (List.drop (0 : Nat) x1))).toList == (ofBytesI (List.take x4.toNat (List.drop (0 : Nat) x3))).toList) == x5) = false → (decide ((((ofBytesI (List.take x2.toNat (List.drop (0 : Nat) x1))).size : Nat) : Int) > (((ofBytesI (List.take x4.toNat (List.drop (0 : Nat) x3))).size : Nat) : Int)) = true → (((((ofBytesI (List.take x4.toNat (List.drop (0 : Nat) x3))).size : Nat) : Int) == (((ofBytesI (List.take x2.toNat (List.drop (0 : Nat) x1))).size : Nat) : Int)) = true → K [RV.v (SV.b true true)] []) ∧ (((((ofBytesI (List.take x4.toNat (List.drop (0 : Nat) x3))).size : Nat) : Int) == (((ofBytesI (List.take x2.toNat (List.drop (0 : Nat) x1))).size : Nat) : Int)) = false → Need ((0 : Int) ≤ (0 : Int) ∧ (0 : Int) ≤ (((ofBytesI (List.take x4.toNat (List.drop (0 : Nat) x3))).size : Nat) : Int) ∧ (((ofBytesI (List.take x4.toNat (List.drop (0 : Nat) x3))).size : Nat) : Int) ≤ (((ofBytesI (List.take x2.toNat (List.drop (0 : Nat) x1))).size : Nat) : Int)) ∧ K [RV.v (SV.b false !((ofBytesI (List.take x2.toNat (List.drop (0 : Nat) x1))).extract (0 : Nat) ((((ofBytesI (List.take x4.toNat (List.drop (0 : Nat) x3))).size : Nat) : Int)).toNat).toList == (ofBytesI (List.take x4.toNat (List.drop (0 : Nat) x3))).toList)] [])) ∧ (decide ((((ofBytesI (List.take x2.toNat (List.drop (0 : Nat) x1))).size : Nat) : Int) > (((ofBytesI (List.take x4.toNat (List.drop (0 : Nat) x3))).size : Nat) : Int)) = false → (((((ofBytesI (List.take x2.toNat (List.drop (0 : Nat) x1))).size : Nat) : Int) == (((ofBytesI (List.take x4.toNat (List.drop (0 : Nat) x3))).size : Nat) : Int)) = true → K [RV.v (SV.b true true)] []) ∧ (((((ofBytesI (List.take x2.toNat (List.drop (0 : Nat) x1))).size : Nat) : Int) == (((ofBytesI (List.take x4.toNat (List.drop (0 : Nat) x3))).size : Nat) : Int)) = false → Need ((0 : Int) ≤ (0 : Int) ∧ (0 : Int) ≤ (((ofBytesI (List.take x2.toNat (List.drop (0 : Nat) x1))).size : Nat) : Int) ∧ (((ofBytesI (List.take x2.toNat (List.drop (0 : Nat) x1))).size : Nat) : Int) ≤ (((ofBytesI (List.take x4.toNat (List.drop (0 : Nat) x3))).size : Nat) : Int)) ∧ K [RV.v (SV.b false !((ofBytesI (List.take x4.toNat (List.drop (0 : Nat) x3))).extract (0 : Nat) ((((ofBytesI (List.take x2.toNat (List.drop (0 : Nat) x1))).size : Nat) : Int)).toNat).toList == (ofBytesI (List.take x2.toNat (List.drop (0 : Nat) x1))).toList)] [])))))) := by
  intros
  kernel_rfl

theorem u8_wrap {x : Int} : IntKind.u8.wrap x = x % 256 := by
  simp [IntKind.wrap, IntKind.bits, IntKind.signed]
theorem shri {x : Int} (k : Nat) (hk : k ≤ 64) : shrI .i64 x (k : Int) = x / 2 ^ k := by
  unfold shrI
  rw [show (min ((k : Int)).toNat IntKind.i64.bits) = k by simp [IntKind.bits]; omega, Int.fdiv_eq_ediv_of_nonneg]
  exact Int.le_of_lt (Int.pow_pos (by omega))
def valL : List Int → Int
  | [] => 0
  | x :: r => x + 256 * valL r
theorem le8_val (a : Int) (h0 : 0 ≤ a) (h1 : a < 9223372036854775808) : valL (le8 a) = a := by
  have e0 : shrI .i64 a 0 = a / 1 := shri 0 (by omega)
  have e1 : shrI .i64 a 8 = a / 256 := shri 8 (by omega)
  have e2 : shrI .i64 a 16 = a / 65536 := shri 16 (by omega)
  have e3 : shrI .i64 a 24 = a / 16777216 := shri 24 (by omega)
  have e4 : shrI .i64 a 32 = a / 4294967296 := shri 32 (by omega)
  have e5 : shrI .i64 a 40 = a / 1099511627776 := shri 40 (by omega)
  have e6 : shrI .i64 a 48 = a / 281474976710656 := shri 48 (by omega)
  have e7 : shrI .i64 a 56 = a / 72057594037927936 := shri 56 (by omega)
  unfold le8
  simp only [valL, u8_wrap, e0, e1, e2, e3, e4, e5, e6, e7]
  have q1 : a / 65536 = a / 256 / 256 := by omega
  have q2 : a / 16777216 = a / 65536 / 256 := by omega
  have q3 : a / 4294967296 = a / 16777216 / 256 := by omega
  have q4 : a / 1099511627776 = a / 4294967296 / 256 := by omega
  have q5 : a / 281474976710656 = a / 1099511627776 / 256 := by omega
  have q6 : a / 72057594037927936 = a / 281474976710656 / 256 := by omega
  have b7 : a / 72057594037927936 < 128 := by omega
  clear e0 e1 e2 e3 e4 e5 e6 e7
  generalize a / 65536 = a2 at *
  generalize a / 16777216 = a3 at *
  generalize a / 4294967296 = a4 at *
  generalize a / 1099511627776 = a5 at *
  generalize a / 281474976710656 = a6 at *
  generalize a / 72057594037927936 = a7 at *
  omega
theorem le8_inj {a b : Nat} (ha : a < 9223372036854775808) (hb : b < 9223372036854775808) (h : le8 (a : Int) = le8 (b : Int)) : a = b := by
  have := congrArg valL h
  rw [le8_val _ (by omega) (by omega), le8_val _ (by omega) (by omega)] at this
  omega
theorem parts_pre : ∀ (ls ls' : List (List Int)) (r r' : List Int), (∀ l ∈ ls, l.length < 9223372036854775808) → (∀ l ∈ ls', l.length < 9223372036854775808) → ls.length = ls'.length → partsL ls ++ r = partsL ls' ++ r' → ls = ls' ∧ r = r'
  | [], [], r, r', _, _, _, h => ⟨rfl, by simpa [partsL] using h⟩
  | [], _ :: _, _, _, _, _, h, _ => by simp at h
  | _ :: _, [], _, _, _, _, h, _ => by simp at h
  | a :: ls, b :: ls', r, r', ha, hb, hl, h => by
    have h : le8 (a.length : Int) ++ (a ++ (partsL ls ++ r)) = le8 (b.length : Int) ++ (b ++ (partsL ls' ++ r')) := by
      simpa [partsL, List.append_assoc] using h
    obtain ⟨h1, h2⟩ := List.append_inj h rfl
    have h3 := le8_inj (ha a (by simp)) (hb b (by simp)) h1
    obtain ⟨h4, h5⟩ := List.append_inj h2 h3
    obtain ⟨h6, h7⟩ := parts_pre ls ls' r r' (fun l hl => ha l (by simp [hl])) (fun l hl => hb l (by simp [hl])) (by simpa using hl) h5
    exact ⟨by rw [h4, h6], h7⟩
theorem fr_pre (b b' : List Int) (ls ls' : List (List Int)) (r r' : List Int) (hb : b.length < 9223372036854775808) (hb' : b'.length < 9223372036854775808) (hn : ls.length < 9223372036854775808) (hn' : ls'.length < 9223372036854775808)
    (ha : ∀ l ∈ ls, l.length < 9223372036854775808) (ha' : ∀ l ∈ ls', l.length < 9223372036854775808) (h : frL b ls ++ r = frL b' ls' ++ r') : b = b' ∧ ls = ls' ∧ r = r' := by
  have h : le8 (b.length : Int) ++ (b ++ (le8 (ls.length : Int) ++ (partsL ls ++ r))) = le8 (b'.length : Int) ++ (b' ++ (le8 (ls'.length : Int) ++ (partsL ls' ++ r'))) := by
    simpa [frL, List.append_assoc] using h
  obtain ⟨h1, h2⟩ := List.append_inj h rfl
  obtain ⟨h3, h4⟩ := List.append_inj h2 (le8_inj hb hb' h1)
  obtain ⟨h5, h6⟩ := List.append_inj h4 rfl
  obtain ⟨h7, h8⟩ := parts_pre ls ls' r r' ha ha' (le8_inj hn hn' h5) h6
  exact ⟨h3, h7, h8⟩
theorem ofBytes_size (l : List Int) : (ofBytesI l).size = l.length := by simp [ofBytesI, ByteArray.size]
theorem bytes_cut (s : ByteArray) (n : Nat) : bytesI (s.extract 0 n) = (bytesI s).take n := by
  unfold bytesI
  rw [ByteArray.data_extract, Array.toList_extract, List.extract_eq_take_drop, List.drop_zero, Nat.sub_zero, List.map_take]
theorem not_pre {A B : List Int} (hA : AllR .u8 A) (hB : AllR .u8 B) (hlt : A.length < B.length) (hno' : ∀ r, A ++ r = B ++ [] → r = []) :
    ((ofBytesI B).extract 0 ((((ofBytesI A).size : Nat) : Int).toNat)).toList == (ofBytesI A).toList → False := by
  intro h
  rw [toList_bytes, bytes_cut, bytesI_of hA, bytesI_of hB, ofBytes_size, Int.toNat_natCast] at h
  have h := of_decide_eq_true h
  have h2 := hno' (B.drop A.length) (by rw [List.append_nil]; rw (occs := .pos [1]) [← h]; exact List.take_append_drop _ _)
  have h3 := congrArg List.length h2
  rw [List.length_drop] at h3
  simp at h3
  omega
theorem frL_len (b : List Int) (ls : List (List Int)) : (frL b ls).length = 16 + b.length + (partsL ls).length := by
  unfold frL
  rw [List.length_append, List.length_append, List.length_append, le8_len, le8_len]; omega
theorem parts_len : ∀ xs : List RO, (partsL (xs.map roL)).length = 8 * xs.length + (xs.map (roM (.ints .u8))).sum
  | [] => rfl
  | x :: xs => by
    have := parts_len xs
    have h : partsL ((x :: xs).map roL) = le8 ((roL x).length : Int) ++ roL x ++ partsL (xs.map roL) := by simp [partsL]
    have h2 : roM (.ints .u8) x = (roL x).length := rfl
    rw [h, List.length_append, List.length_append, le8_len, this]
    simp only [List.length_cons, List.map_cons, List.sum_cons]
    omega
theorem str_arg {P : Program} {H : Type} {enc : TypeId × Value → H} {W : World} (N : Nat) {t : TypeId} {s : ByteArray} {d : DataW H} {ps : List MemPlace} (hs : shTyB P .ts t = true) (h : DataW.Trod enc P W 0 (fun _ => true) true t (.string s) d ps) :
    s.size + 1 ≤ Go.Proofs.Ythgclfedhgmpiaa.Rows.uptoBulk d ∧ ((∀ n ∈ d.weights P t, n ≤ N) → s.size ≤ N) := by
  obtain ⟨fuel, h⟩ := h
  obtain ⟨ro, u, e, q1, q2, q3⟩ := trod_ro N .ts t fuel _ _ hs h
  simp only [RoD] at q1
  obtain ⟨rfl, _⟩ := q1
  have e : s = roS ro := by simpa [Value.cells] using e
  rw [e]
  exact ⟨q2, q3⟩
theorem law (W : World) (s : ByteArray) (d : RO) (v : Value) (hv : RoD W (OutB W fun _ => False) (.l (.ints .u8)) d v) (hs : ∃ ad n cap, v = .slice ad n cap)
    (s' : ByteArray) (d' : RO) (v' : Value) (hv' : RoD W (OutB W fun _ => False) (.l (.ints .u8)) d' v') (hs' : ∃ ad n cap, v' = .slice ad n cap)
    (hM : s.size + roM (.l (.ints .u8)) d + (s'.size + roM (.l (.ints .u8)) d') ≤ 1048576) :
    Calls Try.prog 4 #[.string s, v, .string s', v'] W fun e w' => e = .returned (.bool true) ∧ Below W.heap.size W w' := by
  have hM : s.size + ((roX d).length + ((roX d).map (roM (.ints .u8))).sum) + (s'.size + ((roX d').length + ((roX d').map (roM (.ints .u8))).sum)) ≤ 1048576 := hM
  refine law_gen Γ2_ok rfl glow rfl (fn := Try.f4) (L := []) (av := [.v (.s s), .d (.l (.ints .u8)) d, .v (.s s'), .d (.l (.ints .u8)) d']) (args' := [.s s, .ro 490 (.l (.ints .u8)) d, .s s', .ro 490 (.l (.ints .u8)) d']) (K := fun rvs fin => ∃ e, rvs = [.v (.b e true)]) ⟨rfl, rfl, rfl, rfl, trivial⟩ (Nat.le_of_ble_eq_true (by kernel_rfl)) (vcG_noloops ?_) (fun _ _ h => h) (fun _ _ h => by cases h) ⟨_, _, rfl, ⟨rfl, by omega⟩, v, _, rfl, hv, hs, _, _, rfl, ⟨rfl, by omega⟩, v', _, rfl, hv', hs', rfl, rfl⟩
  show vc4 s d s' d' _ _
  rw [vc4_eq]
  have hu := RoD.fact _ _ _ hv
  have hu' := RoD.fact _ _ _ hv'
  have lA := frL_len (bytesI s) ((roX d).map roL)
  have lB := frL_len (bytesI s') ((roX d').map roL)
  have pA := parts_len (roX d)
  have pB := parts_len (roX d')
  have bA := bytesI_len s
  have bB := bytesI_len s'
  have small : ∀ l ∈ (roX d).map roL, l.length < 9223372036854775808 := fun l hl => by
    obtain ⟨x, hx, rfl⟩ := List.mem_map.1 hl
    have := (hu.1 x hx).2; omega
  have small' : ∀ l ∈ (roX d').map roL, l.length < 9223372036854775808 := fun l hl => by
    obtain ⟨x, hx, rfl⟩ := List.mem_map.1 hl
    have := (hu'.1 x hx).2; omega
  have pre := fun r r' => fr_pre (bytesI s) (bytesI s') ((roX d).map roL) ((roX d').map roL) r r' (by omega) (by omega) (by rw [List.length_map]; omega) (by rw [List.length_map]; omega) small small'
  have hsame : sameB s ((roX d).map roL) s' ((roX d').map roL) = decide (frL (bytesI s) ((roX d).map roL) = frL (bytesI s') ((roX d').map roL)) := by
    unfold sameB
    by_cases he : frL (bytesI s) ((roX d).map roL) = frL (bytesI s') ((roX d').map roL)
    · obtain ⟨h1, h2, _⟩ := pre [] [] (by rw [he])
      rw [decide_eq_true he, decide_eq_true ⟨h1, h2⟩]
    · rw [decide_eq_false he, decide_eq_false fun hh => he (by rw [hh.1, hh.2])]
  rw [hsame]
  clear hsame
  generalize frL (bytesI s) ((roX d).map roL) = A at *
  generalize frL (bytesI s') ((roX d').map roL) = B at *
  refine ⟨need_of (by omega), ?_⟩
  intro x1 e1 hA x2 e2 _ _
  subst e1; subst e2
  rw [List.drop_zero, Int.toNat_natCast, List.take_of_length_le (Nat.le_refl _)]
  refine ⟨need_of (by omega), need_of (by omega), ?_⟩
  intro x3 e3 hB x4 e4 _ _
  subst e3; subst e4
  rw [List.drop_zero, Int.toNat_natCast, List.take_of_length_le (Nat.le_refl _)]
  have sA := ofBytes_size x1
  have sB := ofBytes_size x3
  refine ⟨need_of (by omega), fun h => absurd (of_decide_eq_true h) (by omega), fun _ => ⟨fun h => absurd (of_decide_eq_true h) (by omega), fun _ => ?_⟩⟩
  intro x5 e5
  rw [ofBytes_eq hA hB, ← e5]
  refine ⟨fun h => by simp at h, fun _ => ⟨fun hgt => ⟨fun _ => ⟨true, rfl⟩, fun _ => ?_⟩, fun hle => ⟨fun _ => ⟨true, rfl⟩, fun hne => ?_⟩⟩⟩
  · have hgt := of_decide_eq_true hgt
    refine ⟨need_of (by omega), false, ?_⟩
    have hno := not_pre hB hA (by omega) (fun r h => (pre [] r (by rw [h])).2.2.symm)
    rw [show (((ofBytesI x1).extract 0 ((((ofBytesI x3).size : Nat) : Int).toNat)).toList == (ofBytesI x3).toList) = false from Bool.eq_false_iff.2 hno]
    rfl
  · have hle := of_decide_eq_false hle
    have hne : (ofBytesI x1).size ≠ (ofBytesI x3).size := fun h => by rw [h] at hne; simp at hne
    refine ⟨need_of (by omega), false, ?_⟩
    have hno := not_pre hA hB (by omega) (fun r h => (pre r [] h).2.2)
    rw [show (((ofBytesI x3).extract 0 ((((ofBytesI x1).size : Nat) : Int).toNat)).toList == (ofBytesI x1).toList) = false from Bool.eq_false_iff.2 hno]
    rfl
end TranscriptApart

namespace TranscriptApart
open Go.Proofs.Ythgclfedhgmpiaa
open Go.ChangeShapes Go.WideShapes Go.ChangeAt Go.RowKit
theorem own : ownKnob Try.prog.godebug = none := by kernel_rfl
theorem laidOut : laidOutB Try.prog = true := by kernel_rfl
theorem reads (t : Nat) (h : t ∈ Try.f4.params.toList) : Try.prog.readableRec t = true ∧ t < Try.prog.types.size := by
  have hp : Try.f4.params.toList = [9, 22, 9, 22] := by kernel_rfl
  rw [hp] at h
  simp only [List.mem_cons, List.not_mem_nil, or_false] at h
  rcases h with rfl | rfl | rfl | rfl <;> exact ⟨by kernel_rfl, Nat.le_of_ble_eq_true (by kernel_rfl)⟩

set_option maxRecDepth 100000 in
/-- What the call gives, for every argument and every world. -/
theorem contract (H : Type) (enc : TypeId × Value → H) (W : World) (base : Nat) (args : Array Value) (ds gs : List (DataW H)) (before : List MemPlace)
    (hval : ∀ (j : Nat) t v, Try.f4.params[j]? = some t → args[j]? = some v → Value.okWide Try.prog W .any base t v)
    (hW : DataW.Whole enc Try.prog Try.f4.params.toList Rows.transcriptApartSpec.vars false W args.toList ds gs before)
    (hw : (DataW.weightsEach Try.prog (Try.f4.params.toList ++ (Rows.OpenSpec.upto Rows.transcriptApartSpec).bare.plain.varTypes Try.prog) (ds ++ gs)).all (· ≤ reachBytes) = true) (hC : Rows.uptoSmall H (ds ++ gs) = true) :
    Calls Try.prog 4 args W fun e W' => ∃ v, e = .returned v ∧ Rows.transcriptApartSpec.post enc Try.prog Try.f4 false true false false W args v W' := by
  have hA : DataW.TrodAll enc Try.prog W 0 (fun _ => true) true [9, 22, 9, 22] args.toList ds _ := hW.choose_spec.choose_spec.1
  obtain ⟨v0, vs0, d0, ds0, p0, q0, hargs, hds, _, h0, r0⟩ := trodAll_cons hA
  obtain ⟨v1, vs1, d1, ds1, p1, q1, rfl, hds1, _, h1, r1⟩ := trodAll_cons r0
  obtain ⟨v2, vs2, d2, ds2, p2, q2, rfl, hds2, _, h2, r2⟩ := trodAll_cons r1
  obtain ⟨v3, vs3, d3, ds3, p3, q3, rfl, hds3, _, h3, r3⟩ := trodAll_cons r2
  obtain ⟨rfl, hdsn, _⟩ := trodAll_nil r3
  obtain rfl : args = #[v0, v1, v2, v3] := by cases args; simp_all
  have hds : ds = [d0, d1, d2, d3] := by rw [hds, hds1, hds2, hds3, hdsn]
  have hp : Try.f4.params = #[9, 22, 9, 22] := by kernel_rfl
  rw [hp] at hval
  have hp2 : Try.f4.params.toList = [9, 22, 9, 22] := by kernel_rfl
  rw [hds, hp2] at hw
  have hC : Rows.uptoBulkAll (ds ++ gs) ≤ 1048576 := of_decide_eq_true hC
  rw [hds, bulkAll_app] at hC
  simp only [Rows.uptoBulkAll] at hC
  obtain ⟨s0, rfl⟩ := okWide_string (by kernel_rfl) (hval 0 9 v0 rfl rfl)
  obtain ⟨b0, x0⟩ := str_arg reachBytes (by kernel_rfl) h0
  have x0 := x0 fun n hn => by simpa using List.all_eq_true.1 hw n (DataW.weights_mem_each (j := 0) rfl rfl n hn)
  have hc1 : v1.cells.toList = [v1] := by
    obtain ⟨a, len, cap, e⟩ := okWide_slice (e := 26) (by kernel_rfl) (hval 1 22 v1 rfl rfl)
    rw [e]; rfl
  obtain ⟨o1, e1, s1, b1, x1⟩ := arg_ro reachBytes (.l (.ints .u8)) (by kernel_rfl) rfl hc1 h1
  have x1 := x1 fun n hn => by simpa using List.all_eq_true.1 hw n (DataW.weights_mem_each (j := 1) rfl rfl n hn)
  obtain ⟨s2, rfl⟩ := okWide_string (by kernel_rfl) (hval 2 9 v2 rfl rfl)
  obtain ⟨b2, x2⟩ := str_arg reachBytes (by kernel_rfl) h2
  have x2 := x2 fun n hn => by simpa using List.all_eq_true.1 hw n (DataW.weights_mem_each (j := 2) rfl rfl n hn)
  have hc3 : v3.cells.toList = [v3] := by
    obtain ⟨a, len, cap, e⟩ := okWide_slice (e := 26) (by kernel_rfl) (hval 3 22 v3 rfl rfl)
    rw [e]; rfl
  obtain ⟨o3, e3, s3, b3, x3⟩ := arg_ro reachBytes (.l (.ints .u8)) (by kernel_rfl) rfl hc3 h3
  have x3 := x3 fun n hn => by simpa using List.all_eq_true.1 hw n (DataW.weights_mem_each (j := 3) rfl rfl n hn)
  refine (law W s0 o1 v1 e1 s1 s2 o3 v3 e3 s3 (by omega)).mono fun e W' ⟨he, hB⟩ => ?_
  subst he
  refine ⟨_, rfl, post_true (tb := 4) laidOut rfl (by kernel_rfl) (by kernel_rfl) reads ?_ hW hB⟩
  intro ds hds
  have hds : ds.length = 4 := hds
  match ds, hds with
  | [a0, a1, a2, a3], _ => exact ⟨rfl, rfl, rfl⟩

def wargs : Array Value := #[.string ByteArray.empty, .slice none 0 0, .string ByteArray.empty, .slice none 0 0]
noncomputable def start (os : Os) : World := World.holding Try.prog os ⟨#[], #[], []⟩
theorem reads0 (os : Os) {H : Type} (enc : TypeId × Value → H) : ∃ places, DataW.whole enc Try.prog ((start os).forCall (fun _ _ => 0) ⟨#[], wargs, []⟩).memory Try.f4.params.toList Rows.transcriptApartSpec.vars false wargs.toList 8 = some ([.lit (.string []), .nil, .lit (.string []), .nil], [], places) :=
  ⟨[], by kernel_rfl⟩

set_option maxRecDepth 100000 in
theorem lifted (os : Os) (started : os.Started) (H : Type) (enc : TypeId × Value → H) (F : Stop.Interp) :
    ReturnsInHanded {} Try.checked os 4 .any ((Rows.OpenSpec.upto Rows.transcriptApartSpec).preRow enc Try.prog Try.f4 Rows.transcriptApartUptoRow.domain false Rows.transcriptApartUptoRow.laid) (((Rows.OpenSpec.upto Rows.transcriptApartSpec).at F).post enc Try.prog Try.f4 false true false false) := by
  obtain ⟨places, hx⟩ := reads0 os enc
  refine returnsInHanded_of_row (C := Try.checked) (s := (Rows.OpenSpec.upto Rows.transcriptApartSpec)) own started (by kernel_rfl) Try.func4
    (witness_row_at (enc := enc) (C := Try.checked) false (start os) wargs rfl (by kernel_rfl) (by kernel_rfl) (by kernel_rfl)
      (OpenSpec.preRow_of_cond 8 hx (by kernel_rfl) (fun k hk => by cases hk; kernel_rfl) (by kernel_rfl) (laidMet_of_run' 8 (by kernel_rfl) (by kernel_rfl)))) ?_
  intro W base args ds gs before hval hW hw1 hcond hw hL _ _
  exact contract H enc W base args ds gs before hval hW hw (hcond _ rfl)

theorem said : Rows.TranscriptApartUptoSaid :=
  OpenClaim.holds_of_cond 4 Try.f4 rfl rfl rfl rfl rfl rfl rfl ⟨rfl, rfl, rfl, rfl, rfl⟩ rfl rfl rfl rfl rfl (by kernel_rfl) Try.func4 (by kernel_rfl)
    (of_decide_eq_true (by kernel_rfl)) (by unfold Func.isWrapper; first | (rw [if_pos (by decide +kernel)]; kernel_rfl) | (rw [if_neg (by decide +kernel)]; exact ⟨rfl, rfl⟩))
    (fun os started H enc _ F => by rw [OpenClaim.pre_eq_preRow]; exact lifted os started H enc F)
end TranscriptApart
end Go.Gx

namespace Go.Proofs.Ythgclfedhgmpiaa
theorem transcriptApartProved : Rows.TranscriptApartUptoSaid := Go.Gx.TranscriptApart.said
end Go.Proofs.Ythgclfedhgmpiaa
#print axioms Go.Proofs.Ythgclfedhgmpiaa.transcriptApartProved
