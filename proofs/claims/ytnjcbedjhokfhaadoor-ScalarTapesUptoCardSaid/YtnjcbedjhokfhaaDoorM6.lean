/- Part 6 of the proof: the evaluator of the code, its soundness, and what it shows of the functions. -/
import Derived.Test.YtnjcbedjhokfhaaDoorM5

/- Contracts in general: that they hold. -/
namespace Go.Gx
open Go.RowKit
set_option linter.unusedVariables false

section
variable {P : Program} {Γ : Tab} {w0 : World} {M : Nat → Prop} {ρ : Nat → Pl} {H : Nat → Option SB} {w : World}

theorem ones_D {dm : Nat → Prop} : ∀ (l : List Seg) (xs : List SV) (cs : List Value), onesOf l = some xs → SegsD dm ρ l cs → Ds dm ρ xs cs ∧ (∀ v ∈ cs, v.cells = #[v]) ∧ cs.length = xs.length
  | [], xs, cs, h, hd => by
    simp only [onesOf, Option.some.injEq] at h; subst h
    rw [show cs = [] from hd]
    exact ⟨rfl, (fun v hv => by cases hv), rfl⟩
  | .one x :: r, xs, cs, h, hd => by
    simp only [onesOf] at h
    split at h
    · rename_i ys hy
      simp only [Option.some.injEq] at h; subst h
      obtain ⟨c1, c2, ⟨h1, v, hv, rfl⟩, rfl, h3⟩ := hd
      obtain ⟨q1, q2, q3⟩ := ones_D r ys c2 hy h3
      refine ⟨⟨v, c2, hv, rfl, q1⟩, fun u hu => ?_, by simp [q3]⟩
      simp only [List.cons_append, List.nil_append, List.mem_cons] at hu
      rcases hu with rfl | hu
      · exact (single_cell h1 hv).2
      · exact q2 u hu
    · cases h
  | .arr .. :: r, xs, cs, h, hd => by simp [onesOf] at h
  | .rowI .. :: r, xs, cs, h, hd => by simp [onesOf] at h
  | .rowA .. :: r, xs, cs, h, hd => by simp [onesOf] at h
  | .rowH .. :: r, xs, cs, h, hd => by simp [onesOf] at h

theorem eachRO_sound {R : RO → Value → Prop} {g : SV → (List Prop → RO → RP Delta) → RP Delta} (hg : ∀ (x : SV) (v : Value) (f : List Prop → RO → RP Delta) (d : Delta) (rs rs' : List Nat), D (dmOf H) ρ x v → (g x f).run H rs = some (d, rs') → ∃ p q rs1, (f p q).run H rs1 = some (d, rs') ∧ (AllP p → R q v)) :
    ∀ (xs : List SV) (vs : List Value) (f : List Prop → List RO → RP Delta) (d : Delta) (rs rs' : List Nat), Ds (dmOf H) ρ xs vs → (∀ v ∈ vs, v.cells = #[v]) → (eachRO g xs f).run H rs = some (d, rs') →
      ∃ p ds rs1, (f p ds).run H rs1 = some (d, rs') ∧ (AllP p → ChainR R ds vs) ∧ ds.length = xs.length
  | [], vs, f, d, rs, rs', hd, h1, h => ⟨[], [], rs, h, fun _ => hd, rfl⟩
  | x :: r, vs, f, d, rs, rs', hd, h1, h => by
    simp only [Ds] at hd
    obtain ⟨v, c, hx, rfl, hr⟩ := hd
    simp only [eachRO] at h
    obtain ⟨p, q, rs1, a1, a2⟩ := hg x v _ d rs rs' hx h
    obtain ⟨p', ds, rs2, b1, b2, b3⟩ := eachRO_sound hg r c _ d rs1 rs' hr (fun u hu => h1 u (by simp [hu])) a1
    refine ⟨p ++ p', q :: ds, rs2, b1, fun hp => ?_, by simp [b3]⟩
    obtain ⟨hp1, hp2⟩ := AllP.append (l := p) (r := p') hp
    exact ⟨v, c, a2 hp1, by rw [h1 v (by simp)]; rfl, b2 hp2⟩

/-- What the caller's own data may be seen as. -/
structure BanOk (w0 : World) (M : Nat → Prop) (ρ : Nat → Pl) (H : Nat → Option SB) (ban : List Nat) (M' : Nat → Prop) : Prop where
  own : ∀ key ro l, memN key ban = false → H key = some (.segs ro l) → 0 < (ρ key).cap → ¬ M' (ρ key).blk
  old : ∀ b, b < w0.heap.size → ¬ M b → ¬ M' b
  pool : ∀ key k ms i, H key = some (.pool k ms) → i < ms.length → 0 < (ρ key).pc i → ¬ M' ((ρ key).pb i)

theorem BanOk.keeps {ban : List Nat} {M' : Nat → Prop} (hB : BanOk w0 M ρ H ban M') (hm : Mem w0 M ρ H w) : Keeps w0 w (OutB w0 M) (OutB w M') := fun b hb =>
  ⟨⟨Nat.lt_of_lt_of_le hb.1 hm.frame.size, hB.old b hb.1 hb.2⟩, hm.frame.block b hb.1 hb.2⟩

/-- A pool's row, as data. -/
theorem ps_ro (hm : Mem w0 M ρ H w) {ban : List Nat} {M' : Nat → Prop} (hB : BanOk w0 M ρ H ban M') {key r : Nat} {k : IntKind} {ms : List (List Int)} (hkey : H key = some (.pool k ms)) {len : SI} {v : Value} (hx : D (dmOf H) ρ (.ps key r len) v) (hle : len.z ≤ ((ms.getD r []).length : Int)) :
    RoD w (OutB w M') (.ints k) (.l ((ms.getD r []).take len.z.toNat)) v := by
  simp only [D] at hx
  obtain ⟨hk, hrp, hl, hr, ad, cap, rfl, hlc, hdis⟩ := hx
  have hP := hm.pools.pool key k ms hkey
  have hrl : r < ms.length := by rw [← hP.cnt]; exact hrp
  have hrm : ms[r]? = some (ms.getD r []) := by rw [List.getD_eq_getElem?_getD, List.getElem?_eq_getElem hrl]; rfl
  obtain ⟨a1, a2, a3, a4⟩ := hP.row r _ hrm
  have hll : ((ms.getD r []).take len.z.toNat).length = len.z.toNat := by rw [List.length_take]; omega
  simp only [RoD, InR] at hr ⊢
  have er : roL (.l ((ms.getD r []).take len.z.toNat)) = (ms.getD r []).take len.z.toNat := rfl
  rw [er, hll]
  refine ⟨ad, cap, rfl, hlc, by omega, fun z hz => a1 z (List.mem_of_mem_take hz), ?_⟩
  rcases hdis with ⟨rfl, hcap⟩ | ⟨q1, q2⟩
  · rcases Nat.eq_zero_or_pos cap with h0 | h0
    · exact .inr ⟨by omega, h0⟩
    · have hcp : 0 < (ρ key).pc r := by omega
      refine .inl ⟨_, _, rfl, ⟨hP.lt r hrl hcp, hB.pool key k ms r hkey hrl hcp⟩, fun j u hu => ?_⟩
      rw [List.map_take, List.getElem?_take] at hu
      split at hu
      · exact a3 j u hu
      · cases hu
  · exact .inr ⟨by omega, q2⟩

theorem hdrs_chain (hm : Mem w0 M ρ H w) {ban : List Nat} {M' : Nat → Prop} (hB : BanOk w0 M ρ H ban M') {pk : Nat} {k : IntKind} {ms : List (List Int)} (hkey : H pk = some (.pool k ms)) : ∀ (hs : List (Nat × Nat)) (cs : List Value), HdrsD (dmOf H) ρ pk hs cs →
    (∀ h ∈ hs, h.2 ≤ (ms.getD h.1 []).length) → ChainR (RoD w (OutB w M') (.ints k)) (hs.map fun h => .l ((ms.getD h.1 []).take h.2)) cs
  | [], cs, h, _ => h
  | x :: t, cs, h, hl => by
    obtain ⟨v, c, h1, rfl, h3⟩ := h
    refine ⟨v, c, ?_, ?_, hdrs_chain hm hB hkey t c h3 fun y hy => hl y (by simp [hy])⟩
    · have := ps_ro hm hB hkey h1 (by have := hl x (by simp); simp only; omega)
      simpa using this
    · rw [(single_cell rfl h1).2]; rfl

theorem hdr_ro (hm : Mem w0 M ρ H w) {ban : List Nat} {M' : Nat → Prop} (hB : BanOk w0 M ρ H ban M') {key pk : Nat} {ro : Bool} {hs : List (Nat × Nat)} {k : IntKind} (hban : memN key ban = false) (hkey : H key = some (.segs ro [.rowH pk hs])) {off len : SI} {v : Value} (hx : D (dmOf H) ρ (.sl key 0 1 off len) v)
    {f : List Prop → RO → RP Delta} {d : Delta} {rs rs' : List Nat} (h : (hdrRO k off len pk hs f).run H rs = some (d, rs')) :
    ∃ p q rs1, (f p q).run H rs1 = some (d, rs') ∧ (AllP p → RoD w (OutB w M') (.l (.ints k)) q v) := by
  unfold hdrRO at h
  simp only [RP.run] at h
  split at h
  · rename_i k' ms hpk
    split at h
    · rename_i hkk
      have hkk := keq_eq hkk
      subst hkk
      refine ⟨_, _, _, h, fun hp => ?_⟩
      have hle : off.z + len.z ≤ (hs.length : Int) := hp.1
      have hall := hp.2.1
      simp only [D] at hx
      obtain ⟨_, ho, hl, hr, ad, cap, rfl, hlc, hdis⟩ := hx
      obtain ⟨vs, h1, h2, h3, _⟩ := hm.segs hkey
      obtain ⟨c1, c2, ⟨_, e1⟩, rfl, e3⟩ := h1
      have e4 : c2 = [] := e3
      subst e4
      simp only [List.append_nil] at h2 h3
      have hcl := e1.len
      have hln : (((hs.drop off.z.toNat).take len.z.toNat).map fun h => RO.l ((ms.getD h.1 []).take h.2)).length = len.z.toNat := by simp; omega
      simp only [RoD, InR] at hr ⊢
      have er : ∀ l, roX (.r l) = l := fun _ => rfl
      rw [er, hln]
      refine ⟨ad, cap, (c1.drop off.z.toNat).take len.z.toNat, rfl, hlc, by omega, hdrs_chain hm hB hpk _ _ ((e1.drop _).take _) hall, ?_⟩
      rcases hdis with ⟨rfl, hcap⟩ | ⟨hz, hc0⟩
      · rcases Nat.eq_zero_or_pos cap with h0 | h0
        · exact .inr ⟨by omega, h0⟩
        · have hcp : 0 < (ρ key).cap := by omega
          refine .inl ⟨(ρ key).blk, (ρ key).off + off.z.toNat, by simp [at_], ⟨hm.heap.lt key ro _ hkey hcp, hB.own key ro _ hban hkey hcp⟩, rangeAt_part h3 _ _⟩
      · exact .inr ⟨by omega, hc0⟩
    · simp [RP.run] at h
  · simp [RP.run] at h

mutual
theorem viewRO_sound (P : Program) (hm : Mem w0 M ρ H w) {ban : List Nat} {M' : Nat → Prop} (hB : BanOk w0 M ρ H ban M') : ∀ (sh : Sh) (x : SV) (v : Value) (f : List Prop → RO → RP Delta) (d : Delta) (rs rs' : List Nat), D (dmOf H) ρ x v → (viewRO ban sh x f).run H rs = some (d, rs') →
    ∃ p q rs1, (f p q).run H rs1 = some (d, rs') ∧ (AllP p → RoD w (OutB w M') sh q v)
  | .ints k, x, v, f, d, rs, rs', hx, h => by
    simp only [viewRO] at h
    split at h
    · rename_i key sh dd
      simp only [RP.run] at h
      split at h
      · rename_i hkey
        split at h
        · rename_i he
          have e := shEq_eq _ _ he
          subst e
          simp only [D] at hx
          have hrel := hx.2.1
          rw [hm.view key hkey] at hrel
          exact ⟨[], dd, _, h, fun _ => RoD.mono (hB.keeps hm) _ _ _ hrel⟩
        · simp [RP.run] at h
      · simp [RP.run] at h
    · simp only [D] at hx
      subst hx
      refine ⟨[], _, _, h, fun _ => ?_⟩
      simp only [RoD]
      exact ⟨none, 0, rfl, Nat.le_refl _, by simp [roL], (fun z hz => by cases hz), .inr ⟨rfl, rfl⟩⟩
    · rename_i key c est off len
      split at h
      · simp [RP.run] at h
      · rename_i hban
        obtain ⟨p, q, rs1, hw, hq, ro, lx, hkey, hcE⟩ := withCon_more (P := P) hm hx h
        split at hw
        · rename_i k' l
          split at hw
          · rename_i hkk
            have hkk := keq_eq hkk
            subst hkk
            refine ⟨p, _, rs1, hw, fun hp => ?_⟩
            have hcon := hq hp
            simp only [D] at hx
            obtain ⟨_, ho, hl, hr, ad, cap, rfl, hlc, hdis⟩ := hx
            obtain ⟨e1, e2, e3⟩ := hcon.at_ ad _ cap rfl
            have e1 : len.z.toNat = l.length := e1
            simp only [RoD, InR] at hr ⊢
            have er : roL (.l l) = l := rfl
            rw [er]
            refine ⟨ad, cap, by rw [e1], by omega, by omega, hcon.ok, ?_⟩
            rcases e3 with ⟨a, b⟩ | ⟨b, o, rfl, hlt, hra⟩
            · exact .inr ⟨a, b⟩
            · rcases hdis with ⟨ha', hc2⟩ | ⟨hz, hc0⟩
              · simp only [Option.some.injEq, at_, Addr.mk.injEq, and_true] at ha'
                obtain ⟨hb', ho'⟩ := ha'
                have hest : conSize (Con.ints k' l) = est := con_est hcE
                have hest1 : est = 1 := hest.symm
                subst hest1
                rcases Nat.eq_zero_or_pos cap with h0 | h0
                · exact .inr ⟨by omega, h0⟩
                · have hcp : 0 < (ρ key).cap := by omega
                  refine .inl ⟨b, o, rfl, ⟨hlt (by simpa [conSize] using h0), ?_⟩, hra⟩
                  rw [hb']
                  exact hB.own key ro lx hban hkey hcp
              · exact .inr ⟨by omega, hc0⟩
          · simp [RP.run] at hw
        · simp [RP.run] at hw
    · rename_i key r len
      simp only [withCon, RP.run] at h
      split at h
      · rename_i kk ms hkey
        split at h
        · rename_i hkk
          have hkk := keq_eq hkk
          subst hkk
          refine ⟨_, _, _, h, fun hp => ?_⟩
          have hle : len.z ≤ ((ms.getD r []).length : Int) := hp.1
          exact ps_ro hm hB hkey hx hle
        · simp [RP.run] at h
      · simp [RP.run] at h
    · simp [RP.run] at h
  | .l e, x, v, f, d, rs, rs', hx, h => by
    simp only [viewRO] at h
    split at h
    · rename_i key sh dd
      simp only [RP.run] at h
      split at h
      · rename_i hkey
        split at h
        · rename_i he
          have e := shEq_eq _ _ he
          subst e
          simp only [D] at hx
          have hrel := hx.2.1
          rw [hm.view key hkey] at hrel
          exact ⟨[], dd, _, h, fun _ => RoD.mono (hB.keeps hm) _ _ _ hrel⟩
        · simp [RP.run] at h
      · simp [RP.run] at h
    · simp only [D] at hx
      subst hx
      refine ⟨[], _, _, h, fun _ => ?_⟩
      simp only [RoD]
      exact ⟨none, 0, [], rfl, Nat.le_refl _, by simp [roX], rfl, .inr ⟨rfl, rfl⟩⟩
    · rename_i key n
      split at h
      · simp [RP.run] at h
      · rename_i hban
        simp only [RP.run] at h
        split at h
        · rename_i ro l hkey
          split at h
          · rename_i xs hxs
            split at h
            · rename_i hn
              simp only [Bool.and_eq_true] at hn
              have hn1 := Nat.eq_of_beq_eq_true hn.1
              have hn2 : 0 < n := by have := hn.2; simp [Nat.blt] at this; omega
              obtain ⟨vs, h1, h2, h3, _⟩ := hm.segs hkey
              obtain ⟨q1, q2, q3⟩ := ones_D l xs vs hxs h1
              obtain ⟨p, ds, rs1, a1, a2, a3⟩ := eachRO_sound (R := RoD w (OutB w M') e) (fun x v f d rs rs' hx h => viewRO_sound P hm hB e x v f d rs rs' hx h) xs vs _ d _ rs' q1 q2 h
              refine ⟨p, _, rs1, a1, fun hp => ?_⟩
              simp only [D] at hx
              obtain ⟨_, ho, hl, hr, ad, cap, rfl, hlc, hdis⟩ := hx
              have er : roX (.r ds) = ds := rfl
              have hnn : (Int.ofNat n).toNat = n := rfl
              simp only [RoD, InR] at hr ⊢
              rw [er]
              simp only [hnn] at hlc ⊢
              rcases hdis with ⟨rfl, hcap⟩ | ⟨hz, hc0⟩
              · refine ⟨_, cap, vs, by rw [a3, hn1]; simp [at_], by omega, by omega, a2 hp, .inl ⟨(ρ key).blk, (ρ key).off, rfl, ?_, h3⟩⟩
                have hcp : 0 < (ρ key).cap := by simp at hcap; omega
                exact ⟨hm.heap.lt key ro l hkey hcp, hB.own key ro l hban hkey hcp⟩
              · simp at hz; omega
            · simp [RP.run] at h
          · simp [RP.run] at h
        · simp [RP.run] at h
    · rename_i key off len _
      split at h
      · simp [RP.run] at h
      · rename_i hban
        simp only [RP.run] at h
        split at h
        · rename_i ro pk hs hkey
          split at h
          · rename_i k
            exact hdr_ro hm hB hban hkey hx h
          · simp [RP.run] at h
        · simp [RP.run] at h
    · rename_i key c est off len _ _
      split at h
      · rename_i n k
        split at h
        · rename_i hban hn0
          have hn0 : 0 < n := by simp [Nat.blt] at hn0; omega
          obtain ⟨p, q, rs1, hw, hq, ro, lx, hkey, hcE⟩ := withCon_more (P := P) hm hx h
          split at hw
          · rename_i k' m l
            split at hw
            · rename_i hkk
              simp only [Bool.and_eq_true] at hkk
              have e1 := keq_eq hkk.1
              have e2 := Nat.eq_of_beq_eq_true hkk.2
              subst e1 e2
              refine ⟨p, _, rs1, hw, fun hp => ?_⟩
              have hcon := hq hp
              simp only [D] at hx
              obtain ⟨_, ho, hl, hr, ad, cap, rfl, hlc, hdis⟩ := hx
              obtain ⟨e1, e2, e3⟩ := hcon.at_ ad _ cap rfl
              have e1 : len.z.toNat = l.length := e1
              simp only [RoD, InR] at hr ⊢
              have er : roX (.r (l.map RO.l)) = l.map RO.l := rfl
              rw [er, List.length_map]
              refine ⟨ad, cap, conCells (.arrs k' m l), by rw [e1], by omega, by omega, arrs_chain (w' := w) (Out := OutB w M') l hcon.ok, ?_⟩
              rcases e3 with ⟨a, b⟩ | ⟨b, o, rfl, hlt, hra⟩
              · exact .inr ⟨a, b⟩
              · rcases hdis with ⟨ha', hc2⟩ | ⟨hz, hc0⟩
                · simp only [Option.some.injEq, at_, Addr.mk.injEq, and_true] at ha'
                  obtain ⟨hb', ho'⟩ := ha'
                  have hest : conSize (Con.arrs k' m l) = est := con_est hcE
                  have hest1 : est = m := hest.symm
                  subst hest1
                  rcases Nat.eq_zero_or_pos cap with h0 | h0
                  · exact .inr ⟨by omega, h0⟩
                  · have hpos : 0 < est * cap := Nat.mul_pos hn0 h0
                    have hcp : 0 < (ρ key).cap := by omega
                    refine .inl ⟨b, o, rfl, ⟨hlt hpos, ?_⟩, hra⟩
                    rw [hb']
                    exact hB.own key ro lx (by rw [hban]) hkey hcp
                · exact .inr ⟨by omega, hc0⟩
            · simp [RP.run] at hw
          · simp [RP.run] at hw
        · simp [RP.run] at h
      · simp [RP.run] at h
    · simp [RP.run] at h
  | .i k, x, v, f, d, rs, rs', hx, h => by
    simp only [viewRO] at h
    split at h
    · rename_i k' a
      split at h
      · rename_i hk
        have e := keq_eq hk
        subst e
        refine ⟨[], _, _, h, fun _ => ?_⟩
        simp only [D] at hx
        simp only [RoD]
        exact hx
      · simp [RP.run] at h
    · simp [RP.run] at h
  | .tb, x, v, f, d, rs, rs', hx, h => by
    simp only [viewRO] at h
    split at h
    · refine ⟨[], _, _, h, fun _ => ?_⟩
      simp only [D] at hx
      simp only [RoD]
      exact hx
    · simp [RP.run] at h
  | .ts, x, v, f, d, rs, rs', hx, h => by
    simp only [viewRO] at h
    split at h
    · refine ⟨[], _, _, h, fun _ => ?_⟩
      simp only [D] at hx
      simp only [RoD]
      exact hx
    · simp [RP.run] at h
  | .arr n k, x, v, f, d, rs, rs', hx, h => by
    simp only [viewRO] at h
    split at h
    · rename_i k' m ex l
      split at h
      · rename_i hk
        simp only [Bool.and_eq_true] at hk
        have e := keq_eq hk.1
        have e2 := Nat.eq_of_beq_eq_true hk.2
        subst e e2
        refine ⟨[], _, _, h, fun _ => ?_⟩
        simp only [D] at hx
        simp only [RoD]
        exact hx
      · simp [RP.run] at h
    · simp [RP.run] at h
  | .r fs, x, v, f, d, rs, rs', hx, h => by
    simp only [viewRO] at h
    split at h
    · rename_i xs
      simp only [D] at hx
      obtain ⟨cs, hc, rfl⟩ := hx
      obtain ⟨p, ds, rs1, a1, a2⟩ := viewROs_sound P hm hB fs xs cs _ d rs rs' hc h
      refine ⟨p, _, rs1, a1, fun hp => ?_⟩
      simp only [RoD]
      exact ⟨cs, by simpa using a2 hp [], rfl⟩
    · simp [RP.run] at h
theorem viewROs_sound (P : Program) (hm : Mem w0 M ρ H w) {ban : List Nat} {M' : Nat → Prop} (hB : BanOk w0 M ρ H ban M') : ∀ (fs : List Sh) (xs : List SV) (cs : List Value) (f : List Prop → List RO → RP Delta) (d : Delta) (rs rs' : List Nat), Cs (dmOf H) ρ xs cs → (viewROs ban fs xs f).run H rs = some (d, rs') →
    ∃ p q rs1, (f p q).run H rs1 = some (d, rs') ∧ (AllP p → ∀ pre : List RO, RoCs w (OutB w M') fs (.r (pre ++ q)) pre.length cs)
  | [], xs, cs, f, d, rs, rs', hx, h => by
    simp only [viewROs] at h
    split at h
    · rw [show cs = [] from hx]
      exact ⟨[], [], rs, h, fun _ _ => rfl⟩
    · simp [RP.run] at h
  | s :: fs, xs, cs, f, d, rs, rs', hx, h => by
    simp only [viewROs] at h
    split at h
    · rename_i x xs
      simp only [Cs] at hx
      obtain ⟨v, c, h1, rfl, h2⟩ := hx
      obtain ⟨p, q, rs1, a1, a2⟩ := viewRO_sound P hm hB s x v _ d rs rs' h1 h
      obtain ⟨p', ds, rs2, b1, b2⟩ := viewROs_sound P hm hB fs xs c _ d rs1 rs' h2 a1
      refine ⟨p ++ p', q :: ds, rs2, b1, fun hp pre => ?_⟩
      obtain ⟨hp1, hp2⟩ := AllP.append (l := p) (r := p') hp
      simp only [RoCs]
      refine ⟨v, c, ?_, rfl, ?_⟩
      · have : roN (.r (pre ++ q :: ds)) pre.length = q := by simp [roN, roX, List.getD_eq_getElem?_getD]
        rw [this]; exact a2 hp1
      · have := b2 hp2 (pre ++ [q])
        simpa using this
    · simp [RP.run] at h
end

/-- The arguments, as a contract sees them, and the keys of the caller's records among them. -/
def AsD (w : World) (Out : Nat → Prop) (H : Nat → Option SB) (ρ : Nat → Pl) : List AV → List Value → List Nat → Prop
  | [], vs, ks => vs = [] ∧ ks = []
  | .v x :: r, vs, ks => ∃ u c, vs = u :: c ∧ D (dmOf H) ρ x u ∧ AsD w Out H ρ r c ks
  | .d sh d :: r, vs, ks => ∃ u c, vs = u :: c ∧ RoD w Out sh d u ∧ AsD w Out H ρ r c ks
  | .m l :: r, vs, ks => ∃ c k ks', ks = k :: ks' ∧ vs = .pointer (some (at_ (ρ k) 0)) :: c ∧ H k = some (.segs false l) ∧ AsD w Out H ρ r c ks'
  | .o q :: r, vs, ks => ∃ u c k ks', ks = k :: ks' ∧ vs = u :: c ∧ H k = some (.segs false [conRow q]) ∧
      (∃ ad cap, u = .slice ad (conLen q) cap ∧ conLen q ≤ cap ∧ ((conLen q : Nat) : Int) < 9223372036854775808 ∧ ((ad = some (at_ (ρ k) 0) ∧ conSize q * cap ≤ (ρ k).cap) ∨ (conLen q = 0 ∧ cap = 0))) ∧ AsD w Out H ρ r c ks'

theorem getA_sound (P : Program) (hm : Mem w0 M ρ H w) {ban : List Nat} {M' : Nat → Prop} (hB : BanOk w0 M ρ H ban M') : ∀ (ms : List Md) (xs : List SV) (vs : List Value) (f : List Prop → List AV → RP Delta) (d : Delta) (rs rs' : List Nat), Ds (dmOf H) ρ xs vs → (getA ban ms xs f).run H rs = some (d, rs') →
    ∃ p avs rs1, (f p avs).run H rs1 = some (d, rs') ∧ (AllP p → AsD w (OutB w M') H ρ avs vs (ownKeys ms xs))
  | [], [], vs, f, d, rs, rs', hd, h => ⟨[], [], rs, h, fun _ => ⟨hd, rfl⟩⟩
  | [], _ :: _, vs, f, d, rs, rs', hd, h => by simp [getA, RP.run] at h
  | .v :: _, [], vs, f, d, rs, rs', hd, h => by simp [getA, RP.run] at h
  | .d _ :: _, [], vs, f, d, rs, rs', hd, h => by simp [getA, RP.run] at h
  | .m :: _, [], vs, f, d, rs, rs', hd, h => by simp [getA, RP.run] at h
  | .o :: _, [], vs, f, d, rs, rs', hd, h => by simp [getA, RP.run] at h
  | .v :: ms, x :: xs, vs, f, d, rs, rs', hd, h => by
    simp only [Ds] at hd
    obtain ⟨v, c, h1, rfl, h2⟩ := hd
    simp only [getA] at h
    obtain ⟨p, avs, rs1, q1, q2⟩ := getA_sound P hm hB ms xs c _ d rs rs' h2 h
    refine ⟨p, _, rs1, q1, fun hp => ⟨v, c, rfl, h1, ?_⟩⟩
    have : ownKeys (.v :: ms) (x :: xs) = ownKeys ms xs := by cases x <;> rfl
    rw [this]; exact q2 hp
  | .d sh :: ms, x :: xs, vs, f, d, rs, rs', hd, h => by
    simp only [Ds] at hd
    obtain ⟨v, c, h1, rfl, h2⟩ := hd
    simp only [getA] at h
    obtain ⟨p, q, rs1, q1, q2⟩ := viewRO_sound P hm hB sh x v _ d rs rs' h1 h
    obtain ⟨p', avs, rs2, q3, q4⟩ := getA_sound P hm hB ms xs c _ d rs1 rs' h2 q1
    refine ⟨p ++ p', _, rs2, q3, fun hp => ?_⟩
    obtain ⟨hp1, hp2⟩ := AllP.append (l := p) (r := p') hp
    have : ownKeys (.d sh :: ms) (x :: xs) = ownKeys ms xs := by cases x <;> rfl
    rw [this]
    exact ⟨v, c, rfl, q2 hp1, q4 hp2⟩
  | .m :: ms, x :: xs, vs, f, d, rs, rs', hd, h => by
    simp only [Ds] at hd
    obtain ⟨v, c, h1, rfl, h2⟩ := hd
    simp only [getA] at h
    split at h
    · rename_i key
      simp only [RP.run] at h
      split at h
      · rename_i l hkey
        obtain ⟨p, avs, rs1, q1, q2⟩ := getA_sound P hm hB ms xs c _ d _ rs' h2 h
        simp only [D] at h1
        exact ⟨p, _, rs1, q1, fun hp => ⟨c, key, _, rfl, by rw [h1.2], hkey, q2 hp⟩⟩
      · simp [RP.run] at h
    · obtain ⟨p, avs, rs1, q1, q2⟩ := getA_sound P hm hB ms xs c _ d rs rs' h2 h
      exact ⟨p, _, rs1, q1, fun hp => ⟨v, c, rfl, h1, q2 hp⟩⟩
    · simp [RP.run] at h
  | .o :: ms, x :: xs, vs, f, d, rs, rs', hd, h => by
    simp only [Ds] at hd
    obtain ⟨v, c, h1, rfl, h2⟩ := hd
    simp only [getA] at h
    split at h
    · rename_i key est len
      simp only [RP.run] at h
      split at h
      · rename_i g hkey
        split at h
        · rename_i q hq
          split at h
          · rename_i hest
            have hest := Nat.eq_of_beq_eq_true hest
            obtain ⟨p, avs, rs1, q1, q2⟩ := getA_sound P hm hB ms xs c _ d _ rs' h2 h
            have hg : g = conRow q := by
              cases g <;> simp only [rowCon, Option.some.injEq, reduceCtorEq] at hq <;> subst hq <;> rfl
            subst hg
            refine ⟨_, _, rs1, q1, fun hp => ?_⟩
            have hlen : len.z = ((conLen q : Nat) : Int) := hp.1
            simp only [D] at h1
            obtain ⟨_, ho, hl, hr, ad, cap, rfl, hlc, hdis⟩ := h1
            simp only [InR] at hr
            have hln : len.z.toNat = conLen q := by omega
            refine ⟨_, c, key, _, rfl, rfl, hkey, ⟨ad, cap, by rw [hln], by omega, by omega, ?_⟩, q2 hp.2⟩
            rcases hdis with ⟨ha, hc⟩ | ⟨hz, hc0⟩
            · exact .inl ⟨by simpa using ha, by rw [← hest]; simpa using hc⟩
            · exact .inr ⟨by omega, hc0⟩
          · simp [RP.run] at h
        · simp [RP.run] at h
      · simp [RP.run] at h
    · obtain ⟨p, avs, rs1, q1, q2⟩ := getA_sound P hm hB ms xs c _ d rs rs' h2 h
      exact ⟨p, _, rs1, q1, fun hp => ⟨v, c, rfl, h1, q2 hp⟩⟩
    · simp [RP.run] at h

theorem AsD.fact (hm : Mem w0 M ρ H w) {Out : Nat → Prop} : ∀ (avs : List AV) (vs : List Value) (ks : List Nat), AsD w Out H ρ avs vs ks → FactA avs
  | [], vs, ks, h => trivial
  | .v x :: r, vs, ks, h => by
    obtain ⟨u, c, rfl, h1, h2⟩ := h
    exact ⟨D.fact x u h1, AsD.fact hm r c ks h2⟩
  | .d sh d :: r, vs, ks, h => by
    obtain ⟨u, c, rfl, h1, h2⟩ := h
    exact ⟨RoD.fact sh d u h1, AsD.fact hm r c ks h2⟩
  | .m l :: r, vs, ks, h => by
    obtain ⟨c, k, ks', rfl, rfl, h1, h2⟩ := h
    obtain ⟨cs, hcs, _⟩ := hm.heap.blk k _ h1
    exact ⟨SegsD.fact l cs hcs, AsD.fact hm r c ks' h2⟩
  | .o q :: r, vs, ks, h => by
    obtain ⟨u, c, k, ks', rfl, rfl, h1, ⟨ad, cap, h3, h4, h5, _⟩, h2⟩ := h
    obtain ⟨cs, ⟨c1, c2, hq, _⟩, _⟩ := hm.heap.blk k _ h1
    refine ⟨⟨?_, h5⟩, AsD.fact hm r c ks' h2⟩
    cases q <;> exact hq.1

theorem AsD.keys {Out : Nat → Prop} : ∀ (avs : List AV) (vs : List Value) (ks : List Nat), AsD w Out H ρ avs vs ks → ∀ k ∈ ks, ∃ l, H k = some (.segs false l)
  | [], vs, ks, h => by obtain ⟨_, rfl⟩ := h; intro k hk; cases hk
  | .v x :: r, vs, ks, h => by
    obtain ⟨u, c, rfl, h1, h2⟩ := h
    exact AsD.keys r c ks h2
  | .d sh d :: r, vs, ks, h => by
    obtain ⟨u, c, rfl, h1, h2⟩ := h
    exact AsD.keys r c ks h2
  | .m l :: r, vs, ks, h => by
    obtain ⟨c, k, ks', rfl, rfl, h1, h2⟩ := h
    intro k' hk
    rcases List.mem_cons.1 hk with rfl | hk
    · exact ⟨_, h1⟩
    · exact AsD.keys r c ks' h2 k' hk
  | .o q :: r, vs, ks, h => by
    obtain ⟨u, c, k, ks', rfl, rfl, h1, _, h2⟩ := h
    intro k' hk
    rcases List.mem_cons.1 hk with rfl | hk
    · exact ⟨_, h1⟩
    · exact AsD.keys r c ks' h2 k' hk

/-- The callee's records are the caller's. -/
theorem okA_heap {Out : Nat → Prop} : ∀ (avs : List AV) (vs : List Value) (ks : List Nat) (j : Nat) (args' : List SV) (h : Heap), AsD w Out H ρ avs vs ks → okA j avs args' h →
    (∀ k b, assoc h k = some b → ∃ i, k = j + i ∧ i < ks.length ∧ ∃ l l', b = .segs false l' ∧ H (ks.getD i 0) = some (.segs false l) ∧ ∀ (dm : Nat → Prop) (ρ' : Nat → Pl) (cs : List Value), SegsD (dmOf H) ρ l cs → SegsD dm ρ' l' cs) ∧
    (∀ i, i < ks.length → (assoc h (j + i)).isSome = true)
  | [], vs, ks, j, [], [], h, ho => by
    obtain ⟨_, rfl⟩ := h
    exact ⟨fun k b hb => by simp [assoc] at hb, fun i hi => by simp at hi⟩
  | [], vs, ks, j, [], _ :: _, h, ho => ho.elim
  | [], vs, ks, j, _ :: _, _, h, ho => by simp [okA] at ho
  | .v x :: r, vs, ks, j, [], h', h, ho => by simp [okA] at ho
  | .v x :: r, vs, ks, j, y :: t, h', h, ho => by
    obtain ⟨u, c, rfl, h1, h2⟩ := h
    exact okA_heap r c ks j t h' h2 ho.2
  | .d sh d :: r, vs, ks, j, [], h', h, ho => by simp [okA] at ho
  | .d sh d :: r, vs, ks, j, y :: t, h', h, ho => by
    obtain ⟨u, c, rfl, h1, h2⟩ := h
    exact okA_heap r c ks j t h' h2 ho.2
  | .m l :: r, vs, ks, j, [], h', h, ho => by simp [okA] at ho
  | .m l :: r, vs, ks, j, y :: t, [], h, ho => by simp [okA] at ho
  | .m l :: r, vs, ks, j, y :: t, (k0, b0) :: h', h, ho => by
    obtain ⟨c, k, ks', rfl, rfl, h1, h2⟩ := h
    obtain ⟨_, rfl, ⟨l', rfl, he⟩, ho⟩ := ho
    obtain ⟨q1, q2⟩ := okA_heap r c ks' (k0 + 1) t h' h2 ho
    refine ⟨fun k b hb => ?_, fun i hi => ?_⟩
    · simp only [assoc] at hb
      split at hb
      · rename_i e
        have e := Nat.eq_of_beq_eq_true e
        simp only [Option.some.injEq] at hb
        subst hb
        exact ⟨0, by omega, by simp, l, l', rfl, by simpa using h1, fun dm ρ' cs hcs => eqSegs_D l l' cs he hcs⟩
      · obtain ⟨i, e, hi, rest⟩ := q1 k b hb
        exact ⟨i + 1, by omega, by simpa using hi, by simpa using rest⟩
    · cases i with
      | zero => simp [assoc, Nat.beq_refl]
      | succ i =>
        have : Nat.beq k0 (k0 + (i + 1)) = false := by
          cases hb : Nat.beq k0 (k0 + (i + 1)) with
          | false => rfl
          | true => have := Nat.eq_of_beq_eq_true hb; omega
        simp only [assoc, this]
        have := q2 i (by simpa using hi)
        rwa [show k0 + 1 + i = k0 + (i + 1) by omega] at this
  | .o q :: r, vs, ks, j, [], h', h, ho => by simp [okA] at ho
  | .o q :: r, vs, ks, j, y :: t, [], h, ho => by simp [okA] at ho
  | .o q :: r, vs, ks, j, y :: t, (k0, b0) :: h', h, ho => by
    obtain ⟨u, c, k, ks', rfl, rfl, h1, _, h2⟩ := h
    obtain ⟨_, rfl, rfl, ho⟩ := ho
    obtain ⟨q1, q2⟩ := okA_heap r c ks' (k0 + 1) t h' h2 ho
    refine ⟨fun k b hb => ?_, fun i hi => ?_⟩
    · simp only [assoc] at hb
      split at hb
      · rename_i e
        have e := Nat.eq_of_beq_eq_true e
        simp only [Option.some.injEq] at hb
        subst hb
        refine ⟨0, by omega, by simp, _, _, rfl, by simpa using h1, fun dm ρ' cs hcs => ?_⟩
        obtain ⟨c1, c2, hq, rfl, hc2⟩ := hcs
        refine ⟨c1, c2, ?_, rfl, hc2⟩
        cases q <;> exact hq
      · obtain ⟨i, e, hi, rest⟩ := q1 k b hb
        exact ⟨i + 1, by omega, by simpa using hi, by simpa using rest⟩
    · cases i with
      | zero => simp [assoc, Nat.beq_refl]
      | succ i =>
        have : Nat.beq k0 (k0 + (i + 1)) = false := by
          cases hb : Nat.beq k0 (k0 + (i + 1)) with
          | false => rfl
          | true => have := Nat.eq_of_beq_eq_true hb; omega
        simp only [assoc, this]
        have := q2 i (by simpa using hi)
        rwa [show k0 + 1 + i = k0 + (i + 1) by omega] at this

theorem okA_args {Out : Nat → Prop} {dm' : Nat → Prop} {ρ' : Nat → Pl} (h490 : dm' 490) (hrel : (ρ' 490).rel = RoD w Out) : ∀ (avs : List AV) (vs : List Value) (ks : List Nat) (j : Nat) (args' : List SV) (h : Heap), AsD w Out H ρ avs vs ks → okA j avs args' h →
    (∀ i, i < ks.length → dm' (j + i) ∧ ρ' (j + i) = ρ (ks.getD i 0)) → Ds dm' ρ' args' vs
  | [], vs, ks, j, [], [], h, ho, hk => h.1
  | [], vs, ks, j, [], _ :: _, h, ho, hk => ho.elim
  | [], vs, ks, j, _ :: _, _, h, ho, hk => by simp [okA] at ho
  | .v x :: r, vs, ks, j, [], h', h, ho, hk => by simp [okA] at ho
  | .v x :: r, vs, ks, j, y :: t, h', h, ho, hk => by
    obtain ⟨u, c, rfl, h1, h2⟩ := h
    exact ⟨u, c, eqV_D x y u ho.1 h1, rfl, okA_args h490 hrel r c ks j t h' h2 ho.2 hk⟩
  | .d sh d :: r, vs, ks, j, [], h', h, ho, hk => by simp [okA] at ho
  | .d sh d :: r, vs, ks, j, y :: t, h', h, ho, hk => by
    obtain ⟨u, c, rfl, h1, h2⟩ := h
    obtain ⟨rfl, ho⟩ := ho
    exact ⟨_, c, svOf_D h490 hrel sh d u h1, rfl, okA_args h490 hrel r c ks j t h' h2 ho hk⟩
  | .m l :: r, vs, ks, j, [], h', h, ho, hk => by simp [okA] at ho
  | .m l :: r, vs, ks, j, y :: t, [], h, ho, hk => by simp [okA] at ho
  | .m l :: r, vs, ks, j, y :: t, (k0, b0) :: h', h, ho, hk => by
    obtain ⟨c, k, ks', rfl, rfl, h1, h2⟩ := h
    obtain ⟨rfl, rfl, ⟨l', rfl, he⟩, ho⟩ := ho
    have h0 := hk 0 (by simp)
    refine ⟨_, c, ⟨by simpa using h0.1, ?_⟩, rfl, okA_args h490 hrel r c ks' (k0 + 1) t h' h2 ho fun i hi => ?_⟩
    · have := h0.2
      simp only [Nat.add_zero, List.getD_cons_zero] at this
      rw [this]
    · have := hk (i + 1) (by simpa using hi)
      rw [show k0 + 1 + i = k0 + (i + 1) by omega]
      simpa using this
  | .o q :: r, vs, ks, j, [], h', h, ho, hk => by simp [okA] at ho
  | .o q :: r, vs, ks, j, y :: t, [], h, ho, hk => by simp [okA] at ho
  | .o q :: r, vs, ks, j, y :: t, (k0, b0) :: h', h, ho, hk => by
    obtain ⟨u, c, k, ks', rfl, rfl, h1, ⟨ad, cap, rfl, h3, h4, h5⟩, h2⟩ := h
    obtain ⟨rfl, rfl, rfl, ho⟩ := ho
    have h0 := hk 0 (by simp)
    refine ⟨_, c, sl_D (by simpa using h0.1) _ h4 h3 ?_, rfl, okA_args h490 hrel r c ks' (k0 + 1) t h' h2 ho fun i hi => ?_⟩
    · have := h0.2
      simp only [Nat.add_zero, List.getD_cons_zero] at this
      rw [this]; exact h5
    · have := hk (i + 1) (by simpa using hi)
      rw [show k0 + 1 + i = k0 + (i + 1) by omega]
      simpa using this

end
end Go.Gx

/- Contracts in general: off functions that the evaluator has run. -/
namespace Go.Gx
open Go.RowKit
set_option linter.unusedVariables false

/-- An answer of the callee's, and where it lies. -/
def RvD (H : Nat → Option SB) (ρ : Nat → Pl) (w : World) : RV → Value → Prop
  | .v x, v => D (dmOf H) ρ x v
  | .row q, v => conOk q ∧ ∃ key l pl ad cap, 1000 ≤ key ∧ H key = some (.segs false l) ∧ v = .slice ad (conLen q) cap ∧ conLen q ≤ cap ∧ ((conLen q : Nat) : Int) < 9223372036854775808 ∧
      ((ad = some (at_ pl 0) ∧ conSize q * cap ≤ pl.cap) ∨ (conLen q = 0 ∧ cap = 0)) ∧ (conCells q).length ≤ pl.cap ∧ w.rangeAt pl.blk pl.off (conCells q) ∧ w.there pl.blk pl.off pl.cap ∧ (0 < pl.cap → pl.blk = (ρ key).blk ∧ 0 < (ρ key).cap)
  | .ptr l, v => ∃ key, 1000 ≤ key ∧ H key = some (.segs false l) ∧ v = .pointer (some (at_ (ρ key) 0))
def RvsD (H : Nat → Option SB) (ρ : Nat → Pl) (w : World) : List RV → List Value → Prop
  | [], vs => vs = []
  | x :: r, vs => ∃ v c, RvD H ρ w x v ∧ vs = v :: c ∧ RvsD H ρ w r c

section
variable {P : Program} {Γ : Tab} {w0 : World} {M : Nat → Prop} {ρ : Nat → Pl} {w : World}

theorem canV_sound {h : Heap} (hm : Mem w0 M ρ (assoc h) w) {x : SV} {v : Value} (hx : D (dmOf (assoc h)) ρ x v) {K : RV → Prop} (hk : canV h x K) : ∃ r, K r ∧ RvD (assoc h) ρ w r v := by
  unfold canV at hk
  split at hk
  · rename_i key c est off len
    split at hk
    · rename_i l hkey1 hkey
      have hge : 1000 ≤ key := Nat.le_of_ble_eq_true hkey1
      split at hk
      · rename_i g hs
        split at hk
        · rename_i p q hq
          obtain ⟨hp, hK⟩ := preK_of _ _ hk
          simp only [D] at hx
          obtain ⟨hdm, ho, hl, hlr, a, cap, rfl, hcap, hpl⟩ := hx
          simp only [InR] at hlr
          obtain ⟨vs, h1, h2, h3, h4⟩ := hm.segs hkey
          obtain ⟨pre, cs, post, e1, e2, e3, _, _⟩ := segAt_D l c vs g 0 h1 hs
          obtain ⟨a1, a2, a3, a4, a5⟩ := conSeg_sound hq e2 hp ho hl
          have heq : conCells q = (vs.drop (c + est * off.z.toNat)).take (est * len.z.toNat) := by
            rw [a4, e1, show c + est * off.z.toNat = pre.length + est * off.z.toNat by omega, drop_mid _ _ _ _ _ a5]
          have hra := rangeAt_part h3 (c + est * off.z.toNat) (est * len.z.toNat)
          rw [← heq] at hra
          have hcl := conCells_length a1
          have hth := h4 rfl
          rcases hpl with ⟨ha, hle⟩ | ⟨h0, hc0⟩
          · refine ⟨_, hK, a1, key, l, ({ blk := (ρ key).blk, off := (ρ key).off + (c + est * off.z.toNat), cap := est * cap } : Pl), a, cap, hge, hkey, by rw [a2], by omega, by omega, .inl ⟨by rw [ha]; simp [at_], by rw [a3]; exact Nat.le_refl _⟩, ?_, hra, ?_, fun hc => ⟨rfl, ?_⟩⟩
            · show (conCells q).length ≤ est * cap
              rw [hcl, a3, a2, Nat.mul_comm]; exact Nat.mul_le_mul_left _ hcap
            · intro j hj
              have hj' : j < est * cap := hj
              have := hth (c + est * off.z.toNat + j) (by omega)
              rw [show (ρ key).off + (c + est * off.z.toNat) + j = (ρ key).off + (c + est * off.z.toNat + j) by omega]
              exact this
            · have hc : 0 < est * cap := hc
              omega
          · have hz : conLen q = 0 := by rw [a2]; omega
            have hnil : conCells q = [] := List.eq_nil_of_length_eq_zero (by rw [hcl, hz]; simp)
            refine ⟨_, hK, a1, key, l, ({ blk := 0, off := 0, cap := 0 } : Pl), a, cap, hge, hkey, by rw [a2], by omega, by omega, .inr ⟨hz, hc0⟩, by rw [hnil]; simp, by rw [hnil]; exact rangeAt_nil _ _ _, there_zero _ _ _, fun hc => absurd hc (by simp)⟩
        · exact hk.elim
      · exact hk.elim
    · exact hk.elim
  · rename_i key
    split at hk
    · rename_i l hkey1 hkey
      simp only [D] at hx
      exact ⟨_, hk, key, Nat.le_of_ble_eq_true hkey1, hkey, hx.2⟩
    · exact hk.elim
  · exact ⟨_, hk, hx⟩

theorem canVs_sound {h : Heap} (hm : Mem w0 M ρ (assoc h) w) : ∀ (xs : List SV) (vs : List Value) (K : List RV → Prop), Ds (dmOf (assoc h)) ρ xs vs → canVs h xs K → ∃ rs, K rs ∧ RvsD (assoc h) ρ w rs vs ∧ rs.length = xs.length
  | [], vs, K, hx, hk => ⟨[], hk, hx, rfl⟩
  | x :: r, vs, K, hx, hk => by
    simp only [Ds] at hx
    obtain ⟨v, c, h1, rfl, h2⟩ := hx
    obtain ⟨y, q1, q2⟩ := canV_sound hm h1 hk
    obtain ⟨ys, q3, q4, q5⟩ := canVs_sound hm r c _ h2 q1
    exact ⟨y :: ys, q3, ⟨v, c, q2, rfl, q4⟩, by simp [q5]⟩

/-- What the callee's records hold at the end. -/
def FinH (H : Nat → Option SB) : Nat → List (Option (List Seg)) → Prop
  | _, [] => True
  | j, some l :: r => H j = some (.segs false l) ∧ FinH H (j + 1) r
  | j, none :: r => H j = some .gone ∧ FinH H (j + 1) r

theorem canF_sound {h : Heap} : ∀ (n j : Nat) (K : List (Option (List Seg)) → Prop), canF h j n K → ∃ fs, K fs ∧ FinH (assoc h) j fs ∧ fs.length = n
  | 0, j, K, hk => ⟨[], hk, trivial, rfl⟩
  | n + 1, j, K, hk => by
    simp only [canF] at hk
    split at hk
    · rename_i l hl
      obtain ⟨fs, q1, q2, q3⟩ := canF_sound n (j + 1) _ hk
      exact ⟨_, q1, ⟨hl, q2⟩, by simp [q3]⟩
    · rename_i hl
      obtain ⟨fs, q1, q2, q3⟩ := canF_sound n (j + 1) _ hk
      exact ⟨_, q1, ⟨hl, q2⟩, by simp [q3]⟩
    · exact hk.elim

/-- The answers, one value or more. -/
def RvsOf (H : Nat → Option SB) (ρ : Nat → Pl) (w : World) (rs : List RV) (v : Value) : Prop :=
  (∃ r, rs = [r] ∧ RvD H ρ w r v) ∨ (rs.length ≠ 1 ∧ ∃ vs, v = .tuple vs.toArray ∧ RvsD H ρ w rs vs)

theorem kvG_sound {h : Heap} (hm : Mem w0 M ρ (assoc h) w) {n : Nat} {x : SV} {v : Value} (hx : D (dmOf (assoc h)) ρ x v) {K : List RV → List (Option (List Seg)) → Prop} (hk : kvG n x h K) :
    ∃ rs fs, K rs fs ∧ RvsOf (assoc h) ρ w rs v ∧ FinH (assoc h) 600 fs ∧ fs.length = n := by
  unfold kvG at hk
  split at hk
  · rename_i xs
    split at hk
    · exact hk.elim
    · rename_i hn
      simp only [D] at hx
      obtain ⟨vs, h1, rfl⟩ := hx
      obtain ⟨rs, q1, q2, q3⟩ := canVs_sound hm xs vs _ h1 hk
      obtain ⟨fs, q4, q5, q6⟩ := canF_sound n 600 _ q1
      refine ⟨rs, fs, q4, .inr ⟨fun e => ?_, vs, rfl, q2⟩, q5, q6⟩
      rw [q3] at e
      rw [e] at hn
      exact absurd hn (by decide)
  · obtain ⟨r, q1, q2⟩ := canV_sound hm hx hk
    obtain ⟨fs, q4, q5, q6⟩ := canF_sound n 600 _ q1
    exact ⟨_, fs, q4, .inl ⟨r, rfl, q2⟩, q5, q6⟩

theorem eqCon_eq {a b : Con} (h : eqCon a b) : a = b := by
  cases a <;> cases b <;> simp only [eqCon] at h
  · rw [keq_eq h.1, h.2]
  · rw [keq_eq h.1, h.2.1, h.2.2]

/-- Where the fresh block among the answers lies. -/
def FreshAt (H : Nat → Option SB) (ρ : Nat → Pl) (w : World) (l : List Seg) (pl : Pl) : Prop :=
  ∃ vs, SegsD (fun _ => False) (fun _ => ({ blk := 0, off := 0, cap := 0 } : Pl)) l vs ∧ vs.length ≤ pl.cap ∧ w.rangeAt pl.blk pl.off vs ∧ w.there pl.blk pl.off pl.cap ∧
    (0 < pl.cap → ∃ key l', 1000 ≤ key ∧ H key = some (.segs false l') ∧ pl.blk = (ρ key).blk ∧ 0 < (ρ key).cap)

theorem res_one {h : Heap} (hm : Mem w0 M ρ (assoc h) w) {r r' : RV} {v : Value} (hr : RvD (assoc h) ρ w r v) (he : eqRV1 r r') :
    ∃ pl, (∀ l, frOf [r'] = some l → FreshAt (assoc h) ρ w l pl) ∧ ∀ (dm : Nat → Prop) (ρ' : Nat → Pl) (stamp : Nat), (frOf [r'] ≠ none → dm stamp ∧ ρ' stamp = pl) → D dm ρ' (resG stamp r') v := by
  cases r' with
  | v y =>
    refine ⟨({ blk := 0, off := 0, cap := 0 } : Pl), (fun l hl => by cases hl), fun dm ρ' stamp _ => ?_⟩
    cases r with
    | v x =>
      have he' : eqRV (.v x) (.v y) := by cases x <;> exact he
      exact eqV_D x y v he' hr
    | row q => exact (show eqRV (.row q) (.v y) from he).elim
    | ptr l => exact (show eqRV (.ptr l) (.v y) from he).elim
  | ptr l' =>
    cases r with
    | v x => have he' : eqRV (.v x) (.ptr l') := by cases x <;> exact he
             exact he'.elim
    | row q => exact (show eqRV (.row q) (.ptr l') from he).elim
    | ptr l =>
      have he' : eqSegs l l' := he
      obtain ⟨key, k1, k2, rfl⟩ := hr
      obtain ⟨cs, s1, s2, s3, s4⟩ := hm.segs k2
      refine ⟨ρ key, fun l0 hl => ?_, fun dm ρ' stamp hs => ?_⟩
      · simp only [frOf, Option.some.injEq] at hl
        subst hl
        exact ⟨cs, eqSegs_D l l' cs he' s1, s2, s3, s4 rfl, fun hc => ⟨key, l, k1, k2, rfl, hc⟩⟩
      · obtain ⟨q1, q2⟩ := hs (by simp [frOf])
        simp only [resG, D]
        exact ⟨q1, by rw [q2]⟩
  | row q' =>
    have main : ∀ q, conOk q → q = q' → (∃ key l pl ad cap, 1000 ≤ key ∧ assoc h key = some (.segs false l) ∧ v = .slice ad (conLen q) cap ∧ conLen q ≤ cap ∧ ((conLen q : Nat) : Int) < 9223372036854775808 ∧
      ((ad = some (at_ pl 0) ∧ conSize q * cap ≤ pl.cap) ∨ (conLen q = 0 ∧ cap = 0)) ∧ (conCells q).length ≤ pl.cap ∧ w.rangeAt pl.blk pl.off (conCells q) ∧ w.there pl.blk pl.off pl.cap ∧ (0 < pl.cap → pl.blk = (ρ key).blk ∧ 0 < (ρ key).cap)) →
        ∃ pl, (∀ l, frOf [RV.row q'] = some l → FreshAt (assoc h) ρ w l pl) ∧ ∀ (dm : Nat → Prop) (ρ' : Nat → Pl) (stamp : Nat), (frOf [RV.row q'] ≠ none → dm stamp ∧ ρ' stamp = pl) → D dm ρ' (resG stamp (.row q')) v := by
      rintro q hok rfl ⟨key, l, pl, ad, cap, k1, k2, rfl, k3, k4, k5, k6, k7, k8, k9⟩
      refine ⟨pl, fun l0 hl => ?_, fun dm ρ' stamp hs => ?_⟩
      · simp only [frOf, Option.some.injEq] at hl
        subst hl
        exact ⟨conCells q, segs_one (conRow_D hok), k6, k7, k8, fun hc => ⟨key, l, k1, k2, k9 hc⟩⟩
      · obtain ⟨q1, q2⟩ := hs (by simp [frOf])
        simp only [resG]
        exact sl_D q1 _ k4 k3 (by rw [q2]; exact k5)
    cases r with
    | v x =>
      cases x with
      | nsl =>
        obtain ⟨e1, e2⟩ := (show conLen q' = 0 ∧ conOk q' from he)
        have hv : v = .slice none 0 0 := hr
        subst hv
        have hnil : conCells q' = [] := List.eq_nil_of_length_eq_zero (by rw [conCells_length e2, e1]; simp)
        refine ⟨({ blk := 0, off := 0, cap := 0 } : Pl), fun l0 hl => ?_, fun dm ρ' stamp hs => ?_⟩
        · simp only [frOf, Option.some.injEq] at hl
          subst hl
          have := segs_one (conRow_D (ρ := fun _ => ({ blk := 0, off := 0, cap := 0 } : Pl)) (dm := fun _ => False) e2)
          rw [hnil] at this
          exact ⟨[], this, Nat.le_refl _, rangeAt_nil _ _ _, there_zero _ _ _, fun hc => absurd hc (by simp)⟩
        · obtain ⟨q1, q2⟩ := hs (by simp [frOf])
          simp only [resG]
          have := sl_D (es := conSize q') (a := none) (cap := 0) (ρ := ρ') q1 (conLen q') (by omega) (by omega) (.inr ⟨e1, rfl⟩)
          rwa [show (Value.slice none (conLen q') 0) = .slice none 0 0 by rw [e1]] at this
      | _ => simp [eqRV1, eqRV] at he
    | ptr l => exact (show eqRV (.ptr l) (.row q') from he).elim
    | row q => exact main q hr.1 (eqCon_eq (show eqCon q q' from he)) hr.2

theorem res_all {h : Heap} (hm : Mem w0 M ρ (assoc h) w) : ∀ (rs rs' : List RV) (vs : List Value), RvsD (assoc h) ρ w rs vs → eqRVs rs rs' → oneFr rs' = true →
    ∃ pl, (∀ l, frOf rs' = some l → FreshAt (assoc h) ρ w l pl) ∧ ∀ (dm : Nat → Prop) (ρ' : Nat → Pl) (stamp : Nat), (frOf rs' ≠ none → dm stamp ∧ ρ' stamp = pl) → Ds dm ρ' (resGs stamp rs') vs
  | [], [], vs, hr, he, ho => ⟨({ blk := 0, off := 0, cap := 0 } : Pl), (fun l hl => by cases hl), fun dm ρ' stamp _ => hr⟩
  | [], _ :: _, vs, hr, he, ho => he.elim
  | _ :: _, [], vs, hr, he, ho => he.elim
  | r :: t, r' :: t', vs, hr, he, ho => by
    obtain ⟨v, c, h1, rfl, h2⟩ := hr
    obtain ⟨pl, a1, a2⟩ := res_one hm h1 he.1
    cases hf : frOf [r'] with
    | none =>
      have hff : frOf (r' :: t') = frOf t' := by cases r' <;> simp [frOf] at hf ⊢
      have ho' : oneFr t' = true := by cases r' <;> simp [frOf] at hf; exact ho
      obtain ⟨pl2, b1, b2⟩ := res_all hm t t' c h2 he.2 ho'
      refine ⟨pl2, fun l hl => b1 l (by rw [← hff]; exact hl), fun dm ρ' stamp hs => ?_⟩
      exact ⟨v, _, a2 dm ρ' stamp (fun h => absurd hf h), rfl, b2 dm ρ' stamp (fun h => hs (by rw [hff]; exact h))⟩
    | some l0 =>
      have hft : frOf t' = none := by
        cases r' with
        | v x => simp [frOf] at hf
        | row q => simp only [oneFr] at ho; split at ho <;> simp_all
        | ptr l => simp only [oneFr] at ho; split at ho <;> simp_all
      have ho' : oneFr t' = true := by
        have : ∀ t : List RV, frOf t = none → oneFr t = true := by
          intro t
          induction t with
          | nil => intro _; rfl
          | cons x r ih => intro hh; cases x <;> simp [frOf] at hh; exact ih hh
        exact this t' hft
      have hff : frOf (r' :: t') = frOf [r'] := by cases r' <;> simp [frOf] at hf ⊢
      obtain ⟨pl2, b1, b2⟩ := res_all hm t t' c h2 he.2 ho'
      refine ⟨pl, fun l hl => a1 l (by rw [← hff]; exact hl), fun dm ρ' stamp hs => ?_⟩
      have hs' := hs (by rw [hff, hf]; simp)
      exact ⟨v, _, a2 dm ρ' stamp (fun _ => hs'), rfl, b2 dm ρ' stamp (fun h => absurd hft h)⟩

theorem res_of {h : Heap} (hm : Mem w0 M ρ (assoc h) w) {rs rs' : List RV} {v : Value} (hr : RvsOf (assoc h) ρ w rs v) (he : eqRVs rs rs') (ho : oneFr rs' = true) :
    ∃ pl, (∀ l, frOf rs' = some l → FreshAt (assoc h) ρ w l pl) ∧ ∀ (dm : Nat → Prop) (ρ' : Nat → Pl) (stamp : Nat), (frOf rs' ≠ none → dm stamp ∧ ρ' stamp = pl) → D dm ρ' (resOf stamp rs') v := by
  have hlen : ∀ (a b : List RV), eqRVs a b → a.length = b.length := by
    intro a
    induction a with
    | nil => intro b hb; cases b <;> simp [eqRVs] at hb ⊢
    | cons x r ih => intro b hb; cases b <;> simp [eqRVs] at hb ⊢; exact ih _ hb.2
  rcases hr with ⟨r, rfl, h1⟩ | ⟨hn, vs, rfl, h1⟩
  · match rs', he with
    | [r'], he =>
      obtain ⟨pl, a1, a2⟩ := res_one hm h1 he.1
      exact ⟨pl, a1, fun dm ρ' stamp hs => a2 dm ρ' stamp hs⟩
  · obtain ⟨pl, a1, a2⟩ := res_all hm rs rs' vs h1 he ho
    refine ⟨pl, a1, fun dm ρ' stamp hs => ?_⟩
    have e : resOf stamp rs' = .tup (resGs stamp rs') := by
      match rs', hlen rs rs' he with
      | [], _ => rfl
      | [r'], hl => exact absurd hl hn
      | _ :: _ :: _, _ => rfl
    rw [e]
    simp only [D]
    exact ⟨vs, a2 dm ρ' stamp hs, rfl⟩

theorem nodupN_iff : ∀ {l : List Nat}, nodupN l = true → l.Nodup
  | [], _ => List.nodup_nil
  | x :: r, h => by
    simp only [nodupN] at h
    split at h
    · cases h
    · rename_i e
      refine List.nodup_cons.2 ⟨fun hx => ?_, nodupN_iff h⟩
      rw [memN_iff.2 hx] at e; cases e

def finB : Option (List Seg) → SB
  | some l => .segs false l
  | none => .gone

theorem finW_len : ∀ {ks : List Nat} {fin : List (Option (List Seg))} {ws : List (Nat × SB)}, finW ks fin = some ws → fin.length = ks.length
  | [], [], ws, h => rfl
  | [], _ :: _, ws, h => by simp [finW] at h
  | _ :: _, [], ws, h => by simp [finW] at h
  | k :: ks, some l :: r, ws, h => by
    simp only [finW] at h
    split at h
    · rename_i ws' e; simp [finW_len e]
    · cases h
  | k :: ks, none :: r, ws, h => by
    simp only [finW] at h
    split at h
    · rename_i ws' e; simp [finW_len e]
    · cases h

theorem finW_upd : ∀ {ks : List Nat} {fin : List (Option (List Seg))} {ws : List (Nat × SB)}, finW ks fin = some ws → ks.Nodup → ∀ (H : Nat → Option SB),
    (∀ k, k ∉ ks → updsH H ws k = H k) ∧ ∀ i, i < ks.length → updsH H ws (ks.getD i 0) = some (finB (fin.getD i none))
  | [], [], ws, h, hn, H => by
    simp only [finW, Option.some.injEq] at h; subst h
    exact ⟨fun k _ => rfl, fun i hi => by simp at hi⟩
  | [], _ :: _, ws, h, _, _ => by simp [finW] at h
  | _ :: _, [], ws, h, _, _ => by simp [finW] at h
  | k :: ks, b :: r, ws, h, hn, H => by
    have hh : ∃ ws', finW ks r = some ws' ∧ ws = (k, finB b) :: ws' := by
      cases b <;> simp only [finW] at h <;> split at h
      · rename_i ws' e; exact ⟨ws', e, (Option.some.inj h).symm⟩
      · cases h
      · rename_i ws' e; exact ⟨ws', e, (Option.some.inj h).symm⟩
      · cases h
    obtain ⟨ws', e, rfl⟩ := hh
    obtain ⟨hk, hn'⟩ := List.nodup_cons.1 hn
    obtain ⟨q1, q2⟩ := finW_upd e hn' (updH H k (finB b))
    refine ⟨fun k' hk' => ?_, fun i hi => ?_⟩
    · simp only [List.mem_cons, not_or] at hk'
      show updsH (updH H k (finB b)) ws' k' = H k'
      rw [q1 k' hk'.2, updH_ne hk'.1]
    · show updsH (updH H k (finB b)) ws' _ = _
      cases i with
      | zero =>
        simp only [List.getD_cons_zero]
        rw [q1 k hk, updH_same]
      | succ i =>
        simp only [List.getD_cons_succ]
        exact q2 i (by simpa using hi)

theorem finH_at {H : Nat → Option SB} : ∀ (fs : List (Option (List Seg))) (j i : Nat), FinH H j fs → i < fs.length → H (j + i) = some (finB (fs.getD i none))
  | some l :: r, j, 0, h, hi => h.1
  | none :: r, j, 0, h, hi => h.1
  | some l :: r, j, i + 1, h, hi => by
    have := finH_at r (j + 1) i h.2 (by simpa using hi)
    rw [show j + (i + 1) = j + 1 + i by omega]; simpa using this
  | none :: r, j, i + 1, h, hi => by
    have := finH_at r (j + 1) i h.2 (by simpa using hi)
    rw [show j + (i + 1) = j + 1 + i by omega]; simpa using this

theorem eqFin_at : ∀ (fs fs' : List (Option (List Seg))) (i : Nat), eqFin fs fs' → ∀ l', fs'.getD i none = some l' → ∃ l, fs.getD i none = some l ∧ eqSegs l l'
  | [], [], i, h, l', hl => by simp at hl
  | [], _ :: _, i, h, l', hl => h.elim
  | _ :: _, [], i, h, l', hl => h.elim
  | x :: r, y :: t, 0, h, l', hl => by
    simp only [List.getD_cons_zero] at hl ⊢
    subst hl
    cases x with
    | none => exact h.1.elim
    | some l => exact ⟨l, rfl, h.1⟩
  | x :: r, y :: t, i + 1, h, l', hl => by
    simp only [List.getD_cons_succ] at hl ⊢
    exact eqFin_at r t i h.2 l' hl

end
end Go.Gx

/- Contracts in general: the theorem. -/
namespace Go.Gx
open Go.RowKit
set_option linter.unusedVariables false

section
variable {P : Program} {Γ : Tab}

/-- What a general contract has read. -/
theorem genCtr_run {H : Nat → Option SB} {ms : List Md} {spec : List AV → Option (List Prop × List RV × List (Option (List Seg)))} {stamp : Nat} {args : List SV} {rs rs' : List Nat} {d : Delta} (h : (genCtr ms spec stamp args).run H rs = some (d, rs')) :
    nodupN (ownKeys ms args) = true ∧ ∃ f : List Prop → List AV → RP Delta, (getA (ownKeys ms args) ms args f).run H rs = some (d, rs') ∧ ∀ p avs rs1, (f p avs).run H rs1 = some (d, rs') →
      ∃ p' rvs fin ws, spec avs = some (p', rvs, fin) ∧ finW (ownKeys ms args) fin = some ws ∧ (oneFr rvs && Nat.ble fin.length 100) = true ∧
        ((frOf rvs = none ∧ d = ⟨p ++ p', resOf stamp rvs, ws, true⟩) ∨ ∃ l, frOf rvs = some l ∧ H stamp = none ∧ d = ⟨p ++ p', resOf stamp rvs, (stamp, .segs false l) :: ws, true⟩) := by
  unfold genCtr at h
  simp only at h
  split at h
  · rename_i hn
    refine ⟨hn, _, h, fun p avs rs1 h1 => ?_⟩
    split at h1
    · rename_i p' rvs fin hs
      split at h1
      · rename_i ws hws ho
        split at h1
        · rename_i hf
          exact ⟨p', rvs, fin, ws, hs, hws, ho, .inl ⟨hf, run_ret h1⟩⟩
        · rename_i l hf
          simp only [RP.run] at h1
          split at h1
          · rename_i hst
            exact ⟨p', rvs, fin, ws, hs, hws, ho, .inr ⟨l, hf, hst, run_ret h1⟩⟩
          · simp [RP.run] at h1
      · simp [RP.run] at h1
    · simp [RP.run] at h1
  · simp [RP.run] at h

/-- The callee's heap. -/
theorem gen_mem {w0 : World} {M : Nat → Prop} {ρ : Nat → Pl} {H : Nat → Option SB} {w : World} (hG : Glob Γ.gh w0 M) (hgl : Γ.gl = keysOf Γ.gh) (hlow : ∀ g ∈ keysOf Γ.gh, g < 490) (hm : Mem w0 M ρ H w) {ks : List Nat} (hks : ∀ k ∈ ks, ∃ l, H k = some (.segs false l)) (hnd : ks.Nodup)
    {M' : Nat → Prop} (hM' : ∀ b, M' b ↔ ∃ k ∈ ks, 0 < (ρ k).cap ∧ b = (ρ k).blk) {h6 : Heap}
    (h1 : ∀ k b, assoc h6 k = some b → ∃ i, k = 600 + i ∧ i < ks.length ∧ ∃ l l', b = .segs false l' ∧ H (ks.getD i 0) = some (.segs false l) ∧ ∀ (dm : Nat → Prop) (ρ' : Nat → Pl) (cs : List Value), SegsD (dmOf H) ρ l cs → SegsD dm ρ' l' cs)
    (h2 : ∀ i, i < ks.length → (assoc h6 (600 + i)).isSome = true) :
    ∃ ρ1 : Nat → Pl, Mem w M' ρ1 (assoc (Γ.gh ++ (490, .world) :: h6)) w ∧ GlOk Γ w M' ρ1 (assoc (Γ.gh ++ (490, .world) :: h6)) ∧ dmOf (assoc (Γ.gh ++ (490, .world) :: h6)) 490 ∧ (ρ1 490).rel = RoD w (OutB w M') ∧
      ∀ i, i < ks.length → dmOf (assoc (Γ.gh ++ (490, .world) :: h6)) (600 + i) ∧ ρ1 (600 + i) = ρ (ks.getD i 0) := by
  obtain ⟨ρg, g1, g2, g3⟩ := mem_of_glob hG hm
  have hMo : ∀ b, M' b → w0.heap.size ≤ b ∨ M b := fun b hb => by
    obtain ⟨k, hk, hc, rfl⟩ := (hM' b).1 hb
    obtain ⟨l, hl⟩ := hks k hk
    exact hm.own k l hl hc
  have hne : ∀ g b, (g, b) ∈ Γ.gh → ¬ M' g := fun g b hgb hb => by
    obtain ⟨_, _, _, _, _, q1, q2⟩ := hG g b hgb
    rcases hMo g hb with hh | hh
    · omega
    · exact q1 hh
  have hlow : ∀ k b, assoc Γ.gh k = some b → k < 490 := fun k b hb => hlow k (keysOf_of_dm (by unfold dmOf; rw [hb]; rfl))
  have hro : ∀ k b, assoc Γ.gh k = some b → ∃ l, b = .segs true l := fun k b hb => by
    obtain ⟨l, _, e, _⟩ := g2 k b (assoc_mem hb); exact ⟨l, e⟩
  let HH : Heap := Γ.gh ++ (490, .world) :: h6
  have hat : ∀ k b, assoc HH k = some b → (k < 490 ∧ assoc Γ.gh k = some b) ∨ (k = 490 ∧ b = .world) ∨ (600 ≤ k ∧ assoc h6 k = some b) := fun k b hb => by
    have hb : assoc (Γ.gh ++ (490, .world) :: h6) k = some b := hb
    rw [assoc_app] at hb
    split at hb
    · rename_i x hx
      rw [hb] at hx
      exact .inl ⟨hlow k b hx, hx⟩
    · simp only [assoc] at hb
      split at hb
      · rename_i e
        simp only [Option.some.injEq] at hb
        exact .inr (.inl ⟨(Nat.eq_of_beq_eq_true e).symm, hb.symm⟩)
      · obtain ⟨i, rfl, _⟩ := h1 k b hb
        exact .inr (.inr ⟨by omega, hb⟩)
  have hup : ∀ k b, assoc Γ.gh k = some b → assoc HH k = some b := fun k b hb => by
    show assoc (Γ.gh ++ (490, .world) :: h6) k = _
    rw [assoc_app, hb]
  have hnlow : ∀ k, 490 ≤ k → assoc Γ.gh k = none := fun k hk => by
    cases e : assoc Γ.gh k with
    | none => rfl
    | some b => have := hlow k b e; omega
  have h490 : assoc HH 490 = some .world := by
    show assoc (Γ.gh ++ (490, .world) :: h6) 490 = _
    rw [assoc_app, hnlow 490 (Nat.le_refl _)]
    simp [assoc]
  have hup6 : ∀ k, 600 ≤ k → assoc HH k = assoc h6 k := fun k hk => by
    show assoc (Γ.gh ++ (490, .world) :: h6) k = _
    rw [assoc_app, hnlow k (by omega)]
    have : Nat.beq 490 k = false := by
      cases hb : Nat.beq 490 k with
      | false => rfl
      | true => have := Nat.eq_of_beq_eq_true hb; omega
    simp only [assoc, this]
  let ρ1 : Nat → Pl := fun k => if k < 490 then ρg k else if k < 600 then { blk := 0, off := 0, cap := 0, rel := RoD w (OutB w M') } else ρ (ks.getD (k - 600) 0)
  have hρg : ∀ k, k < 490 → ρ1 k = ρg k := fun k hk => by simp [ρ1, hk]
  have hρ6 : ∀ i, ρ1 (600 + i) = ρ (ks.getD i 0) := fun i => by
    have h1 : ¬ (600 + i < 490) := by omega
    have h2 : ¬ (600 + i < 600) := by omega
    simp only [ρ1, h1, h2, if_false]
    rw [Nat.add_sub_cancel_left]
  have hmk : ∀ i, i < ks.length → ks.getD i 0 ∈ ks := fun i hi => by
    rw [List.getD_eq_getElem?_getD, List.getElem?_eq_getElem hi]
    exact List.getElem_mem hi
  have hinj : ∀ i i', i < ks.length → i' < ks.length → i ≠ i' → ks.getD i 0 ≠ ks.getD i' 0 := fun i i' hi hi' hne e => by
    rw [List.getD_eq_getElem?_getD, List.getD_eq_getElem?_getD, List.getElem?_eq_getElem hi, List.getElem?_eq_getElem hi'] at e
    have e : ks[i] = ks[i'] := e
    rcases Nat.lt_or_gt_of_ne hne with h | h
    · exact List.pairwise_iff_getElem.1 hnd i i' hi hi' h e
    · exact List.pairwise_iff_getElem.1 hnd i' i hi' hi h e.symm
  refine ⟨ρ1, ⟨⟨fun k b hb => ?_, fun k k' ro ro' l1 l2 e1 e2 hkk hr c1 c2 => ?_, fun k ro l1 e1 c1 => ?_⟩, FrameW.refl _ _, fun k l1 e1 c1 => ?_, fun k e1 => ?_, fun k l1 e1 c1 => ?_, .none (fun k kd ms e1 => by
      rcases hat k _ e1 with ⟨_, h⟩ | ⟨_, h⟩ | ⟨_, h⟩
      · obtain ⟨_, e⟩ := hro k _ h; cases e
      · cases h
      · obtain ⟨i, _, h⟩ := h1 k _ h
        obtain ⟨_, _, _, e, _⟩ := h
        cases e)⟩, ⟨fun g hg => ?_, fun g b hgb => ?_⟩, by unfold dmOf; rw [h490]; rfl, by simp [ρ1], fun i hi => ⟨?_, hρ6 i⟩⟩
  · rcases hat k b hb with ⟨hk, hb'⟩ | ⟨rfl, rfl⟩ | ⟨hk, hb'⟩
    · refine (g1.heap.blk k b hb').of_block (fun j hj => ?_) (fun j hj => ?_) (hρg k hk) (fun _ _ _ _ => rfl)
      · unfold dmOf at hj ⊢
        obtain ⟨b', hb''⟩ := Option.isSome_iff_exists.1 hj
        rw [hup j b' hb'']; rfl
      · unfold dmOf at hj
        obtain ⟨b', hb''⟩ := Option.isSome_iff_exists.1 hj
        exact .of_eq (hρg j (hlow j b' hb''))
    · trivial
    · obtain ⟨i, rfl, hi, l, l', rfl, hl, hd⟩ := h1 k b hb'
      obtain ⟨cs, hcs, hcl, hra, hth⟩ := hm.heap.blk _ _ hl
      exact ⟨cs, hd _ _ cs hcs, by rw [hρ6]; exact hcl, by rw [hρ6]; exact hra, fun _ => by rw [hρ6]; exact hth rfl⟩
  · have hk0 : ∀ a b lx, assoc HH a = some (.segs b lx) → 0 < (ρ1 a).cap → (a < 490 ∧ b = true ∧ ¬ M' (ρ1 a).blk) ∨ (∃ i, a = 600 + i ∧ i < ks.length ∧ M' (ρ1 a).blk) := fun a b lx ha hca => by
      rcases hat a _ ha with ⟨ha1, ha'⟩ | ⟨_, ha'⟩ | ⟨ha1, ha'⟩
      · obtain ⟨lz, ez⟩ := hro a _ ha'
        simp only [SB.segs.injEq] at ez
        exact .inl ⟨ha1, ez.1, by rw [hρg a ha1, (g3 a).1]; exact hne a _ (assoc_mem ha')⟩
      · cases ha'
      · obtain ⟨i, rfl, hi, l, l', e, hl, hd⟩ := h1 a _ ha'
        exact .inr ⟨i, rfl, hi, (hM' _).2 ⟨ks.getD i 0, hmk i hi, by rw [hρ6] at hca; exact hca, by rw [hρ6]⟩⟩
    rcases hk0 k ro l1 e1 c1 with ⟨a1, a2, a3⟩ | ⟨i, rfl, hi, a3⟩
    · rcases hk0 k' ro' l2 e2 c2 with ⟨b1, b2, b3⟩ | ⟨i', rfl, hi', b3⟩
      · rw [a2, b2] at hr; rcases hr with hr | hr <;> cases hr
      · intro e; rw [e] at a3; exact a3 b3
    · rcases hk0 k' ro' l2 e2 c2 with ⟨b1, b2, b3⟩ | ⟨i', rfl, hi', b3⟩
      · intro e; rw [e] at a3; exact b3 a3
      · rw [hρ6] at c1 ⊢
        rw [hρ6] at c2 ⊢
        obtain ⟨l, hl⟩ := hks _ (hmk i hi)
        obtain ⟨l', hl'⟩ := hks _ (hmk i' hi')
        exact hm.heap.sep _ _ false false l l' hl hl' (hinj i i' hi hi' (fun e => hkk (by rw [e]))) (.inl rfl) c1 c2
  · rcases hat k _ e1 with ⟨h1', h1''⟩ | ⟨_, h1'⟩ | ⟨hk, h1'⟩
    · rw [hρg k h1'] at c1 ⊢; exact g1.heap.lt k ro l1 h1'' c1
    · cases h1'
    · obtain ⟨i, rfl, hi, l, l', e, hl, hd⟩ := h1 k _ h1'
      rw [hρ6] at c1 ⊢
      exact hm.heap.lt _ _ _ hl c1
  · rcases hat k _ e1 with ⟨h1', h1''⟩ | ⟨_, h1'⟩ | ⟨hk, h1'⟩
    · obtain ⟨lz, ez⟩ := hro k _ h1''
      simp only [SB.segs.injEq] at ez
      cases ez.1
    · cases h1'
    · obtain ⟨i, rfl, hi, l, l', e, hl, hd⟩ := h1 k _ h1'
      exact .inr ((hM' _).2 ⟨ks.getD i 0, hmk i hi, by rw [hρ6] at c1; exact c1, by rw [hρ6]⟩)
  · rcases hat k _ e1 with ⟨h1', h1''⟩ | ⟨rfl, _⟩ | ⟨hk, h1'⟩
    · obtain ⟨lz, ez⟩ := hro k _ h1''; cases ez
    · simp [ρ1]
    · obtain ⟨i, rfl, hi, l, l', e, hl, hd⟩ := h1 k _ h1'; cases e
  · rcases hat k _ e1 with ⟨h1', h1''⟩ | ⟨_, h1'⟩ | ⟨hk, h1'⟩
    · obtain ⟨lz, ez⟩ := hro k _ h1''
      simp only [SB.segs.injEq] at ez
      cases ez.1
    · cases h1'
    · obtain ⟨i, rfl, hi, l, l', e, hl, hd⟩ := h1 k _ h1'
      rw [hρ6] at c1 ⊢
      exact hm.clean _ _ hl c1
  · have hdm : dmOf (assoc Γ.gh) g := assoc_dm (by rw [← hgl]; exact hg)
    unfold dmOf at hdm
    obtain ⟨b', hb''⟩ := Option.isSome_iff_exists.1 hdm
    refine ⟨by unfold dmOf; rw [hup g b' hb'']; rfl, ?_, ?_⟩
    · rw [hρg g (hlow g b' hb'')]; exact (g3 g).1
    · rw [hρg g (hlow g b' hb'')]; exact (g3 g).2
  · obtain ⟨lz, vz, q0, q1, q2, _, q4⟩ := g2 g b hgb
    exact ⟨lz, vz, q0, q1, q2, hne g b hgb, q4⟩
  · unfold dmOf
    rw [hup6 _ (by omega)]
    exact h2 i hi

/-- The contract of a function that the evaluator has run. -/
theorem call_gen (hΓ : TabOk P Γ) (hgl : Γ.gl = keysOf Γ.gh) (hlow : ∀ g ∈ keysOf Γ.gh, g < 490) {f : FuncId} {fn : Func} (hf : P.funcs[f]? = some fn) (hn : (fn.name == "runtime.NumGoroutine") = false) (hb : fn.body.isNone = false)
    (ms : List Md) (spec : List AV → Option (List Prop × List RV × List (Option (List Seg))))
    (h : ∀ avs p rvs fin, spec avs = some (p, rvs, fin) → AllP p → FactA avs → ∃ args' h6 L inv, okA 600 avs args' h6 ∧ args'.length ≤ fn.ntmps ∧ VcG fin.length Γ fn L (Γ.gh ++ (490, .world) :: h6) args' (fun rvs' fin' => eqRVs rvs' rvs ∧ eqFin fin' fin) inv) : CallOk P Γ.gh f (genCtr ms spec) := by
  intro stamp args H rs rs' d vs w0 M ρ w hG hc hp hD hm
  obtain ⟨hnd0, f0, hget, hf0⟩ := genCtr_run hc
  have hnd := nodupN_iff hnd0
  generalize hks : ownKeys ms args = ks at *
  let M' : Nat → Prop := fun b => ∃ k ∈ ks, (∃ l, H k = some (.segs false l)) ∧ 0 < (ρ k).cap ∧ b = (ρ k).blk
  have hB : BanOk w0 M ρ H ks M' := ⟨fun key ro l hban hkey hc hb => by
    obtain ⟨k, hk, ⟨l', hl'⟩, hc', e⟩ := hb
    have hne : key ≠ k := fun e => by subst e; rw [memN_iff.2 hk] at hban; cases hban
    exact hm.heap.sep key k ro false l l' hkey hl' hne (.inr rfl) hc hc' e, fun b hb hnM hb' => by
    obtain ⟨k, hk, ⟨l', hl'⟩, hc', rfl⟩ := hb'
    rcases hm.own k l' hl' hc' with h | h
    · omega
    · exact hnM h, fun key k ms i hkey hi hc hb => by
    obtain ⟨k0, hk0, ⟨l', hl'⟩, hc', e⟩ := hb
    exact hm.pools.apart key k ms k0 false l' i hkey hl' hc' hi hc e.symm⟩
  obtain ⟨p, avs, rs1, hrun, hAs⟩ := getA_sound P hm hB ms args vs f0 d rs rs' hD hget
  obtain ⟨p', rvs, fin, ws, hs, hws, ho, hcase⟩ := hf0 p avs rs1 hrun
  simp only [Bool.and_eq_true] at ho
  have hsmall := Nat.le_of_ble_eq_true ho.2
  have ho := ho.1
  have hpp : AllP p ∧ AllP p' := by
    rcases hcase with ⟨_, rfl⟩ | ⟨l, _, _, rfl⟩ <;> exact AllP.append (l := p) (r := p') hp
  have hA := hAs hpp.1
  rw [hks] at hA
  have hkeys := AsD.keys avs vs ks hA
  obtain ⟨args', h6, L, inv, k1, k2, k3⟩ := h avs p' rvs fin hs hpp.2 (AsD.fact hm avs vs ks hA)
  have hM'' : ∀ b, M' b ↔ ∃ k ∈ ks, 0 < (ρ k).cap ∧ b = (ρ k).blk := fun b => ⟨fun ⟨k, a, _, c⟩ => ⟨k, a, c⟩, fun ⟨k, a, c⟩ => ⟨k, a, hkeys k a, c⟩⟩
  obtain ⟨hh1, hh2⟩ := okA_heap avs vs ks 600 args' h6 hA k1
  obtain ⟨ρ1, m1, m2, m3, m4, m5⟩ := gen_mem hG hgl hlow hm hkeys hnd hM'' hh1 hh2
  have hargs := okA_args m3 m4 avs vs ks 600 args' h6 hA k1 m5
  refine .inr ⟨f, _, GoFn.run ⟨fn, hf, hn, hb⟩ _ _, (vcG_calls hΓ hf k3 k2 m2 m1 hargs).mono fun e w' he => ?_⟩
  obtain ⟨x, v, h', ρ', rfl, r1, r2, r3, r4⟩ := he
  obtain ⟨rvs', fin', ⟨t1, t2⟩, t3, t4, t5⟩ := kvG_sound r3 r2 r1
  obtain ⟨pl, u1, u2⟩ := res_of r3 t3 t1 ho
  have hfl := finW_len hws
  obtain ⟨up1, up2⟩ := finW_upd hws hnd H
  have hρ6 : ∀ i, i < ks.length → PlLe (ρ (ks.getD i 0)) (ρ' (600 + i)) := fun i hi => by
    have := (r4 _ (m5 i hi).1).2
    rwa [(m5 i hi).2] at this
  have hmk : ∀ i, i < ks.length → ks.getD i 0 ∈ ks := fun i hi => by
    rw [List.getD_eq_getElem?_getD, List.getElem?_eq_getElem hi]
    exact List.getElem_mem hi
  have hidx : ∀ k ∈ ks, ∃ i, i < ks.length ∧ ks.getD i 0 = k := fun k hk => by
    obtain ⟨i, hi, e⟩ := List.getElem_of_mem hk
    exact ⟨i, hi, by rw [List.getD_eq_getElem?_getD, List.getElem?_eq_getElem hi]; exact e⟩
  have hMo : ∀ b, M' b → w0.heap.size ≤ b ∨ M b := fun b hb => by
    obtain ⟨k, hk, ⟨l, hl⟩, hc, rfl⟩ := hb
    exact hm.own k l hl hc
  -- the records, at the end
  have hrec : ∀ i, i < ks.length → ∀ l', fin.getD i none = some l' → ∃ l, assoc h' (600 + i) = some (.segs false l) ∧ eqSegs l l' := fun i hi l' hl' => by
    obtain ⟨l, q1, q2⟩ := eqFin_at fin' fin i t2 l' hl'
    have := finH_at fin' 600 i t4 (by omega)
    rw [q1] at this
    exact ⟨l, this, q2⟩
  have main : ∀ (T : Nat → Prop) (H' : Nat → Option SB) (ρ'' : Nat → Pl), (∀ k, T k ↔ k ∈ ks ∨ (k = stamp ∧ frOf rvs ≠ none)) → (frOf rvs ≠ none → H stamp = none) → (∀ k, k ∉ ks → k ≠ stamp → H' k = H k) → (frOf rvs = none → ∀ k, k ∉ ks → H' k = H k) →
      (∀ i, i < ks.length → H' (ks.getD i 0) = some (finB (fin.getD i none))) → (∀ l, frOf rvs = some l → H' stamp = some (.segs false l)) → (∀ k, k ≠ stamp → ρ'' k = ρ k) → (frOf rvs = none → ρ'' = ρ) → (frOf rvs ≠ none → ρ'' stamp = pl) → Mem w0 M ρ'' H' w' := by
    intro T H' ρ'' hTd hst hk1 hk2 hk3 hk4 hr1 hr2 hr3
    have hstk : frOf rvs ≠ none → stamp ∉ ks := fun hne hmem => by
      obtain ⟨l, hl⟩ := hkeys stamp hmem
      rw [hst hne] at hl; cases hl
    have hρk : ∀ k ∈ ks, ρ'' k = ρ k := fun k hk => by
      by_cases e : frOf rvs = none
      · rw [hr2 e]
      · exact hr1 k fun e' => hstk e (e' ▸ hk)
    refine Mem.merge hm r3.frame (T := T) (fun k hk => ?_) (fun k hk => ?_) (fun k hk => ?_) hMo (fun k ro l hk hkk hc hb => ?_) (fun k b hk hkb => ?_) (fun k kd ms hk e => by
      rcases (hTd k).1 hk with h | ⟨h, h2⟩
      · obtain ⟨i, hi, rfl⟩ := hidx k h
        rw [hk3 i hi] at e
        cases hfi : fin.getD i none <;> rw [hfi] at e <;> cases e
      · subst h
        cases hfr : frOf rvs with
        | none => exact h2 hfr
        | some l => rw [hk4 l hfr] at e; cases e) (fun k kd ms i hk hi h0 hb => by
      obtain ⟨k0, hk0, ⟨l0, hl0⟩, hc0, e⟩ := hb
      exact hm.pools.apart k kd ms k0 false l0 i hk hl0 hc0 hi h0 e.symm) (fun k k' l l' t1 t2 hkk e1 e2 c1 c2 => ?_)
    · have hk := fun h => hk ((hTd k).2 h)
      by_cases e : frOf rvs = none
      · exact hk2 e k fun h => hk (.inl h)
      · exact hk1 k (fun h => hk (.inl h)) fun h => hk (.inr ⟨h, e⟩)
    · by_cases e : frOf rvs = none
      · rw [hr2 e]
      · refine hr1 k fun e' => ?_
        subst e'
        unfold dmOf at hk
        rw [hst e] at hk; cases hk
    · by_cases e : k ∈ ks
      · obtain ⟨i, hi, rfl⟩ := hidx k e
        unfold dmOf; rw [hk3 i hi]; rfl
      · by_cases e' : k = stamp
        · by_cases e2 : frOf rvs = none
          · unfold dmOf at hk ⊢; rw [hk2 e2 k e]; exact hk
          · subst e'
            unfold dmOf at hk
            rw [hst e2] at hk; cases hk
        · unfold dmOf at hk ⊢; rw [hk1 k e e']; exact hk
    · obtain ⟨k0, hk0, ⟨l0, hl0⟩, hc0, e⟩ := hb
      have hne : k ≠ k0 := fun e => hk ((hTd k).2 (.inl (e ▸ hk0)))
      exact hm.heap.sep k k0 ro false l l0 hkk hl0 hne (.inr rfl) hc hc0 e
    · rcases (hTd k).1 hk with hk | ⟨rfl, hne⟩
      · obtain ⟨i, hi, rfl⟩ := hidx k hk
        rw [hk3 i hi] at hkb
        simp only [Option.some.injEq] at hkb
        subst hkb
        cases hfi : fin.getD i none with
        | none => exact ⟨⟨by simp [finB], fun _ _ => by simp [finB]⟩, fun ro l e => by cases e⟩
        | some l' =>
          refine ⟨⟨by simp [finB], fun _ _ => by simp [finB]⟩, fun ro l e => ?_⟩
          simp only [finB, SB.segs.injEq] at e
          obtain ⟨rfl, rfl⟩ := e
          obtain ⟨l1, q1, q2⟩ := hrec i hi l' hfi
          obtain ⟨cs, s1, s2, s3, s4⟩ := r3.segs q1
          rw [hρk _ hk, ← (hρ6 i hi).blk, ← (hρ6 i hi).off, ← (hρ6 i hi).cap]
          refine ⟨rfl, ⟨cs, eqSegs_D l1 l' cs q2 s1, s2, s3, s4 rfl⟩, fun hc => ⟨r3.heap.lt _ _ _ q1 hc, ?_, r3.clean _ _ q1 hc⟩⟩
          exact r3.own _ _ q1 hc
      · cases hfr : frOf rvs with
        | none => exact absurd hfr hne
        | some l0 =>
          rw [hk4 l0 hfr] at hkb
          simp only [Option.some.injEq] at hkb
          subst hkb
          refine ⟨⟨by simp, fun _ _ => by simp⟩, fun ro l e => ?_⟩
          simp only [SB.segs.injEq] at e
          obtain ⟨rfl, rfl⟩ := e
          obtain ⟨cs, s1, s2, s3, s4, s5⟩ := u1 l0 hfr
          rw [hr3 hne]
          refine ⟨rfl, ⟨cs, s1, s2, s3, s4⟩, fun hc => ?_⟩
          obtain ⟨key, lk, z1, z2, z3, z4⟩ := s5 hc
          rw [z3]
          exact ⟨r3.heap.lt key _ _ z2 z4, r3.own key _ z2 z4, r3.clean key _ z2 z4⟩
    · have hone : ∀ k l, k ∈ ks → H' k = some (.segs false l) → 0 < (ρ'' k).cap → ∃ i, i < ks.length ∧ ks.getD i 0 = k ∧ ∃ l1, assoc h' (600 + i) = some (.segs false l1) ∧ (ρ'' k).blk = (ρ' (600 + i)).blk ∧ (ρ'' k).cap = (ρ' (600 + i)).cap := fun k l hk e c => by
        obtain ⟨i, hi, rfl⟩ := hidx k hk
        rw [hk3 i hi] at e
        simp only [Option.some.injEq] at e
        cases hfi : fin.getD i none with
        | none => rw [hfi] at e; cases e
        | some l' =>
          obtain ⟨l1, q1, q2⟩ := hrec i hi l' hfi
          exact ⟨i, hi, rfl, l1, q1, by rw [hρk _ hk, (hρ6 i hi).blk], by rw [hρk _ hk, (hρ6 i hi).cap]⟩
      have hfr : ∀ l, frOf rvs ≠ none → H' stamp = some (.segs false l) → 0 < (ρ'' stamp).cap → ∃ key l', 1000 ≤ key ∧ assoc h' key = some (.segs false l') ∧ (ρ'' stamp).blk = (ρ' key).blk ∧ 0 < (ρ' key).cap := fun l hne e c => by
        cases hfr : frOf rvs with
        | none => exact absurd hfr hne
        | some l0 =>
          obtain ⟨cs, s1, s2, s3, s4, s5⟩ := u1 l0 hfr
          rw [hr3 hne] at c ⊢
          exact s5 c
      rcases (hTd k).1 t1 with hk | ⟨rfl, hne⟩
      · obtain ⟨i, hi, rfl, la, q1, q2⟩ := hone k l hk e1 c1
        rcases (hTd k').1 t2 with hk' | ⟨rfl, hne⟩
        · obtain ⟨i', hi', rfl, lb, q1', q2'⟩ := hone k' l' hk' e2 c2
          rw [q2.2] at c1
          rw [q2'.2] at c2
          rw [q2.1, q2'.1]
          exact r3.heap.sep _ _ false false la lb q1 q1' (fun e => hkk (by rw [show i = i' by omega])) (.inl rfl) c1 c2
        · obtain ⟨key, lk, z1, z2, z3, z4⟩ := hfr l' hne e2 c2
          rw [q2.2] at c1
          rw [q2.1]
          rw [z3]
          by_cases e : 600 + i = key
          · exfalso
            omega
          · exact r3.heap.sep _ _ false false la lk q1 z2 e (.inl rfl) c1 z4
      · obtain ⟨key, lk, z1, z2, z3, z4⟩ := hfr l hne e1 c1
        rcases (hTd k').1 t2 with hk' | ⟨rfl, _⟩
        · obtain ⟨i', hi', rfl, lb, q1', q2'⟩ := hone k' l' hk' e2 c2
          rw [q2'.2] at c2
          rw [q2'.1]
          rw [z3]
          by_cases e : 600 + i' = key
          · exfalso
            omega
          · exact r3.heap.sep _ _ false false lk lb z2 q1' (Ne.symm e) (.inl rfl) z4 c2
        · exact absurd rfl hkk
  rcases hcase with ⟨hfn, rfl⟩ | ⟨l, hfs, hst, rfl⟩
  · refine ⟨v, rfl, ρ, .refl _ _, u2 _ _ _ (fun h => absurd hfn h), ?_⟩
    exact main (fun k => k ∈ ks ∨ (k = stamp ∧ frOf rvs ≠ none)) _ ρ (fun k => .rfl) (fun h => absurd hfn h) (fun k hk _ => up1 k hk) (fun _ k hk => up1 k hk) up2 (fun l hl => by rw [hfn] at hl; cases hl) (fun _ _ => rfl) (fun _ => rfl) (fun h => absurd hfn h)
  · have hstk : stamp ∉ ks := fun hmem => by
      obtain ⟨l, hl⟩ := hkeys stamp hmem
      rw [hst] at hl; cases hl
    obtain ⟨up1', up2'⟩ := finW_upd hws hnd (updH H stamp (.segs false l))
    have hne : frOf rvs ≠ none := by rw [hfs]; simp
    have hH : ∀ k, updsH H ((stamp, .segs false l) :: ws) k = updsH (updH H stamp (.segs false l)) ws k := fun k => rfl
    have hstv : updsH H ((stamp, .segs false l) :: ws) stamp = some (.segs false l) := by rw [hH, up1' stamp hstk, updH_same]
    refine ⟨v, rfl, updP ρ stamp pl, updP_keeps hst, u2 _ _ _ (fun _ => ⟨by unfold dmOf; rw [hstv]; rfl, updP_same _ _ _⟩), ?_⟩
    exact main (fun k => k ∈ ks ∨ (k = stamp ∧ frOf rvs ≠ none)) _ (updP ρ stamp pl) (fun k => .rfl) (fun _ => hst) (fun k hk hks => by rw [hH, up1' k hk, updH_ne hks]) (fun h => absurd h hne) (fun i hi => by rw [hH]; exact up2' i hi) (fun l' hl => by rw [hfs] at hl; simp only [Option.some.injEq] at hl; subst hl; exact hstv) (fun k hk => updP_ne hk) (fun h => absurd h hne) (fun _ => updP_same _ _ _)

end
end Go.Gx

/- Contracts in general: another telling of the same. -/
namespace Go.Gx
open Go.RowKit
set_option linter.unusedVariables false

def RP.bind {α β : Type} : RP α → (α → RP β) → RP β
  | .ret a, f => f a
  | .fail, _ => .fail
  | .get k h, f => .get k fun b => (h b).bind f

theorem RP.run_bind {α β : Type} {H : Nat → Option SB} (f : α → RP β) : ∀ (g : RP α) (rs : List Nat), (g.bind f).run H rs = (match g.run H rs with | some (a, rs1) => (f a).run H rs1 | none => none)
  | .ret a, rs => rfl
  | .fail, rs => rfl
  | .get k h, rs => by simp only [RP.bind, RP.run]; exact RP.run_bind f (h (H k)) (k :: rs)

/-- Does it only read, and hand on what it has read? -/
def Uni {α : Type} (F : (α → RP Delta) → RP Delta) : Prop := ∃ g : RP α, ∀ f, F f = g.bind f

theorem Uni.fail {α : Type} : Uni (α := α) fun _ => .fail := ⟨.fail, fun _ => rfl⟩
theorem Uni.ret {α : Type} (a : α) : Uni (α := α) fun f => f a := ⟨.ret a, fun _ => rfl⟩
theorem Uni.get {α : Type} (k : Nat) {F : Option SB → (α → RP Delta) → RP Delta} (h : ∀ b, Uni (F b)) : Uni fun f => .get k fun b => F b f :=
  ⟨.get k fun b => Classical.choose (h b), fun f => by
    simp only [RP.bind]
    congr 1
    funext b
    exact Classical.choose_spec (h b) f⟩
theorem Uni.bind {α β : Type} {F : (α → RP Delta) → RP Delta} (hF : Uni F) {G : α → (β → RP Delta) → RP Delta} (hG : ∀ a, Uni (G a)) : Uni fun f => F fun a => G a f := by
  obtain ⟨g, hg⟩ := hF
  have bb : ∀ {α β γ : Type} (g : RP α) (h : α → RP β) (f : β → RP γ), (g.bind h).bind f = g.bind fun a => (h a).bind f := by
    intro α β γ g h f
    induction g with
    | ret a => rfl
    | fail => rfl
    | get k r ih => simp only [RP.bind]; congr 1; funext b; exact ih b
  have hG' : ∀ a, ∃ k : RP β, ∀ f, G a f = k.bind f := hG
  refine ⟨g.bind fun a => Classical.choose (hG' a), fun f => ?_⟩
  show F (fun a => G a f) = _
  rw [hg, bb]
  congr 1
  funext a
  exact Classical.choose_spec (hG' a) f

section
variable {P : Program}

end
end Go.Gx

/- Contracts whose answers are lists of rows that the call has made: a pool, and rows of headers. -/
namespace Go.Gx
open Go.RowKit
set_option linter.unusedVariables false

def noPl : Pl := { blk := 0, off := 0, cap := 0 }

/-- What a call has made or turned, under the caller's keys. -/
theorem Mem.import {w0 : World} {M : Nat → Prop} {ρ ρ' ρn : Nat → Pl} {H H' Hn : Nat → Option SB} {w w' : World} {M' : Nat → Prop} (hm : Mem w0 M ρ H w) (hr : Mem w M' ρ' H' w') {im : Nat → Option (Option Nat)}
    (hN : ∀ k, im k = none → Hn k = H k ∧ (dmOf H k → ρn k = ρ k))
    (hT : ∀ k c, im k = some (some c) → ρn k = ρ' c ∧ (Hn k = some .gone ∨ (∃ kd ms, Hn k = some (.pool kd ms) ∧ H' c = some (.pool kd ms)) ∨ ∃ l l0, Hn k = some (.segs false l) ∧ H' c = some (.segs false l0) ∧ ∀ cs, SegsD (dmOf H') ρ' l0 cs → SegsD (dmOf Hn) ρn l cs))
    (hV : ∀ k, im k = some none → ρn k = noPl ∧ (Hn k = some .gone ∨ (∃ kd, Hn k = some (.pool kd [])) ∨ ∃ l, Hn k = some (.segs false l) ∧ SegsD (dmOf Hn) ρn l []))
    (hinj : ∀ k k' c, im k = some (some c) → im k' = some (some c) → k = k')
    (hle : ∀ k, dmOf H k → dmOf Hn k ∧ PlLe (ρ k) (ρn k)) (hM : ∀ b, M' b → w0.heap.size ≤ b ∨ M b)
    (hs : ∀ k ro l, im k = none → H k = some (.segs ro l) → 0 < (ρ k).cap → ¬ M' (ρ k).blk)
    (hp : ∀ k kd ms i, im k = none → H k = some (.pool kd ms) → i < ms.length → 0 < (ρ k).pc i → ¬ M' ((ρ k).pb i)) : Mem w0 M ρn Hn w' := by
  have seg : ∀ k ro l, Hn k = some (.segs ro l) → 0 < (ρn k).cap → (im k = none ∧ H k = some (.segs ro l) ∧ ρn k = ρ k ∧ (ρn k).blk < w.heap.size ∧ ¬ M' (ρn k).blk) ∨ (∃ c l0, im k = some (some c) ∧ ro = false ∧ H' c = some (.segs false l0) ∧ ρn k = ρ' c ∧ (w.heap.size ≤ (ρn k).blk ∨ M' (ρn k).blk)) := fun k ro l h c0 => by
    cases e : im k with
    | none =>
      obtain ⟨a, b⟩ := hN k e
      rw [a] at h
      have b := b (dm_of h)
      rw [b] at c0 ⊢
      exact .inl ⟨rfl, h, rfl, hm.heap.lt k ro l h c0, hs k ro l e h c0⟩
    | some o =>
      cases o with
      | none => rw [(hV k e).1] at c0; exact absurd c0 (by simp [noPl])
      | some c =>
        obtain ⟨a, b | ⟨kd, ms, b, _⟩ | ⟨l1, l0, b, b2, _⟩⟩ := hT k c e
        · rw [b] at h; cases h
        · rw [b] at h; cases h
        · rw [b] at h
          simp only [Option.some.injEq, SB.segs.injEq] at h
          rw [a] at c0 ⊢
          exact .inr ⟨c, l0, rfl, h.1.symm, b2, rfl, hr.own c l0 b2 c0⟩
  have pool : ∀ k kd ms, Hn k = some (.pool kd ms) → (im k = none ∧ H k = some (.pool kd ms) ∧ ρn k = ρ k) ∨ (∃ c, im k = some (some c) ∧ H' c = some (.pool kd ms) ∧ ρn k = ρ' c) ∨ (ms = [] ∧ ρn k = noPl) := fun k kd ms h => by
    cases e : im k with
    | none =>
      obtain ⟨a, b⟩ := hN k e
      rw [a] at h
      exact .inl ⟨rfl, h, b (dm_of h)⟩
    | some o =>
      cases o with
      | none =>
        obtain ⟨a, b | ⟨kd', b⟩ | ⟨l, b, _⟩⟩ := hV k e
        · rw [b] at h; cases h
        · rw [b] at h
          simp only [Option.some.injEq, SB.pool.injEq] at h
          exact .inr (.inr ⟨h.2.symm, a⟩)
        · rw [b] at h; cases h
      | some c =>
        obtain ⟨a, b | ⟨kd', ms', b, b2⟩ | ⟨l1, l0, b, _⟩⟩ := hT k c e
        · rw [b] at h; cases h
        · rw [b] at h
          simp only [Option.some.injEq, SB.pool.injEq] at h
          rw [h.1, h.2] at b2
          exact .inr (.inl ⟨c, rfl, b2, a⟩)
        · rw [b] at h; cases h
  have row : ∀ k kd ms i, Hn k = some (.pool kd ms) → i < ms.length → 0 < (ρn k).pc i → (im k = none ∧ H k = some (.pool kd ms) ∧ ρn k = ρ k ∧ (ρn k).pb i < w.heap.size ∧ ¬ M' ((ρn k).pb i)) ∨ (∃ c, im k = some (some c) ∧ H' c = some (.pool kd ms) ∧ ρn k = ρ' c ∧ (w.heap.size ≤ (ρn k).pb i ∨ M' ((ρn k).pb i))) := fun k kd ms i h hi c0 => by
    rcases pool k kd ms h with ⟨a, b, c⟩ | ⟨c, a, b, d⟩ | ⟨rfl, _⟩
    · rw [c] at c0 ⊢
      exact .inl ⟨a, b, rfl, (hm.pools.pool k kd ms b).lt i hi c0, hp k kd ms i a b hi c0⟩
    · rw [d] at c0 ⊢
      exact .inr ⟨c, a, b, rfl, (hr.pools.pool c kd ms b).own i hi c0⟩
    · exact absurd hi (by simp)
  refine ⟨⟨fun k b hb => ?_, fun k k' ro ro' l l' h1 h2 hkk hro c1 c2 => ?_, fun k ro l h1 c1 => ?_⟩, ⟨hr.frame.os.trans hm.frame.os, hr.frame.tape.trans hm.frame.tape, hr.frame.output.trans hm.frame.output, Nat.le_trans hm.frame.size hr.frame.size, fun k hk1 hk2 => ?_⟩, fun k l h1 c1 => ?_, fun k h1 => ?_, fun k l h1 c1 => ?_, ⟨fun k kd ms hk => ?_, fun k kd ms k' ro l i h1 h2 c1 hi c2 => ?_, fun k kd ms k' kd' ms' i j h1 h2 hkk hi hj c1 c2 => ?_⟩⟩
  · cases e : im k with
    | none =>
      obtain ⟨a, e2⟩ := hN k e
      rw [a] at hb
      exact (hm.heap.blk k b hb).of_block (fun a ha => (hle a ha).1) (fun a ha => (hle a ha).2) (e2 (dm_of hb)) fun ro l e3 c => by
        subst e3
        exact hr.frame.block _ (hm.heap.lt k ro l hb c) (hs k ro l e hb c)
    | some o =>
      cases o with
      | none =>
        obtain ⟨a, d | ⟨kd', d⟩ | ⟨l, d, d2⟩⟩ := hV k e
        · rw [d] at hb; simp only [Option.some.injEq] at hb; subst hb; trivial
        · rw [d] at hb; simp only [Option.some.injEq] at hb; subst hb; trivial
        · rw [d] at hb; simp only [Option.some.injEq] at hb; subst hb
          exact ⟨[], d2, by simp, rangeAt_nil _ _ _, fun _ => by rw [a]; exact there_zero _ _ _⟩
      | some c =>
        obtain ⟨a, d | ⟨kd', ms', d, _⟩ | ⟨l1, l0, d, d2, d3⟩⟩ := hT k c e
        · rw [d] at hb; simp only [Option.some.injEq] at hb; subst hb; trivial
        · rw [d] at hb; simp only [Option.some.injEq] at hb; subst hb; trivial
        · rw [d] at hb; simp only [Option.some.injEq] at hb; subst hb
          obtain ⟨vs, s1, s2, s3, s4⟩ := hr.heap.blk c _ d2
          exact ⟨vs, d3 vs s1, by rw [a]; exact s2, by rw [a]; exact s3, fun h => by rw [a]; exact s4 h⟩
  · rcases seg k ro l h1 c1 with ⟨a1, a2, a3, a4, a5⟩ | ⟨c, l0, a1, rfl, a2, a3, a4⟩
    · rcases seg k' ro' l' h2 c2 with ⟨b1, b2, b3, b4, b5⟩ | ⟨c', l0', b1, rfl, b2, b3, b4⟩
      · rw [a3] at c1 ⊢; rw [b3] at c2 ⊢
        exact hm.heap.sep k k' ro ro' l l' a2 b2 hkk hro c1 c2
      · intro e
        rcases b4 with b4 | b4
        · omega
        · rw [e] at a5; exact a5 b4
    · rcases seg k' ro' l' h2 c2 with ⟨b1, b2, b3, b4, b5⟩ | ⟨c', l0', b1, rfl, b2, b3, b4⟩
      · intro e
        rcases a4 with a4 | a4
        · omega
        · rw [← e] at b5; exact b5 a4
      · rw [a3] at c1 ⊢; rw [b3] at c2 ⊢
        exact hr.heap.sep c c' false false l0 l0' a2 b2 (fun e => by subst e; exact hkk (hinj k k' c a1 b1)) (.inl rfl) c1 c2
  · rcases seg k ro l h1 c1 with ⟨a1, a2, a3, a4, a5⟩ | ⟨c, l0, a1, rfl, a2, a3, a4⟩
    · exact Nat.lt_of_lt_of_le a4 hr.frame.size
    · rw [a3] at c1 ⊢; exact hr.heap.lt c false l0 a2 c1
  · have hn : ¬ M' k := fun h => by
      rcases hM k h with h | h
      · omega
      · exact hk2 h
    rw [hr.frame.block k (Nat.lt_of_lt_of_le hk1 hm.frame.size) hn]
    exact hm.frame.block k hk1 hk2
  · rcases seg k false l h1 c1 with ⟨a1, a2, a3, a4, a5⟩ | ⟨c, l0, a1, _, a2, a3, a4⟩
    · rw [a3] at c1 ⊢; exact hm.own k l a2 c1
    · rcases a4 with a4 | a4
      · exact .inl (Nat.le_trans hm.frame.size a4)
      · exact hM _ a4
  · cases e : im k with
    | none =>
      obtain ⟨a, b⟩ := hN k e
      rw [a] at h1
      rw [b (dm_of h1)]
      exact hm.view k h1
    | some o =>
      cases o with
      | none =>
        obtain ⟨_, d | ⟨kd', d⟩ | ⟨l, d, d2⟩⟩ := hV k e <;> rw [d] at h1 <;> cases h1
      | some c =>
        obtain ⟨_, d | ⟨kd', ms', d, _⟩ | ⟨l1, l0, d, d2, d3⟩⟩ := hT k c e <;> rw [d] at h1 <;> cases h1
  · rcases seg k false l h1 c1 with ⟨a1, a2, a3, a4, a5⟩ | ⟨c, l0, a1, _, a2, a3, a4⟩
    · rw [a3] at c1 a4 a5 ⊢
      exact (hm.clean k l a2 c1).of_block (hr.frame.block _ a4 a5)
    · rw [a3] at c1 ⊢; exact hr.clean c l0 a2 c1
  · rcases pool k kd ms hk with ⟨a, b, c⟩ | ⟨c, a, b, d⟩ | ⟨rfl, d⟩
    · refine (hm.pools.pool k kd ms b).step c hr.frame.size (fun _ _ _ h => h) fun i hi h0 => hr.frame.block _ ((hm.pools.pool k kd ms b).lt i hi h0) (hp k kd ms i a b hi h0)
    · rw [d]
      have hq := hr.pools.pool c kd ms b
      exact ⟨hq.cnt, hq.row, hq.lt, fun i hi h0 => by
        rcases hq.own i hi h0 with h | h
        · exact .inl (Nat.le_trans hm.frame.size h)
        · exact hM _ h, hq.clean, hq.sep⟩
    · rw [d]
      exact ⟨rfl, fun i m hi => by simp at hi, fun i hi => absurd hi (by simp), fun i hi => absurd hi (by simp), fun i hi => absurd hi (by simp), fun i j hi => absurd hi (by simp)⟩
  · rcases seg k' ro l h2 c1 with ⟨a1, a2, a3, a4, a5⟩ | ⟨c, l0, a1, rfl, a2, a3, a4⟩
    · rcases row k kd ms i h1 hi c2 with ⟨b1, b2, b3, b4, b5⟩ | ⟨c', b1, b2, b3, b4⟩
      · rw [a3] at c1 ⊢; rw [b3] at c2 ⊢
        exact hm.pools.apart k kd ms k' ro l i b2 a2 c1 hi c2
      · intro e
        rcases b4 with b4 | b4
        · omega
        · rw [e] at a5; exact a5 b4
    · rcases row k kd ms i h1 hi c2 with ⟨b1, b2, b3, b4, b5⟩ | ⟨c', b1, b2, b3, b4⟩
      · intro e
        rcases a4 with a4 | a4
        · omega
        · rw [← e] at b5; exact b5 a4
      · rw [a3] at c1 ⊢; rw [b3] at c2 ⊢
        exact hr.pools.apart c' kd ms c false l0 i b2 a2 c1 hi c2
  · rcases row k kd ms i h1 hi c1 with ⟨a1, a2, a3, a4, a5⟩ | ⟨c, a1, a2, a3, a4⟩
    · rcases row k' kd' ms' j h2 hj c2 with ⟨b1, b2, b3, b4, b5⟩ | ⟨c', b1, b2, b3, b4⟩
      · rw [a3] at c1 ⊢; rw [b3] at c2 ⊢
        exact hm.pools.two k kd ms k' kd' ms' i j a2 b2 hkk hi hj c1 c2
      · intro e
        rcases b4 with b4 | b4
        · omega
        · rw [e] at a5; exact a5 b4
    · rcases row k' kd' ms' j h2 hj c2 with ⟨b1, b2, b3, b4, b5⟩ | ⟨c', b1, b2, b3, b4⟩
      · intro e
        rcases a4 with a4 | a4
        · omega
        · rw [← e] at b5; exact b5 a4
      · rw [a3] at c1 ⊢; rw [b3] at c2 ⊢
        exact hr.pools.two c kd ms c' kd' ms' i j a2 b2 (fun e => by subst e; exact hkk (hinj k k' c a1 b1)) hi hj c1 c2

/-! ### The callee's side -/

abbrev Hdrs := List (Nat × Nat)

section
variable {P : Program} {Γ : Tab} {w0 : World} {M : Nat → Prop} {ρ : Nat → Pl} {w : World}

/-- Where a row of headers lies that a call has answered. -/
def HdrAt (H : Nat → Option SB) (ρ : Nat → Pl) (a : Option (Nat × Nat)) (hs : Hdrs) (v : Value) : Prop :=
  match a with
  | none => hs = [] ∧ v = .slice none 0 0
  | some (key, pk) => 1000 ≤ key ∧ H key = some (.segs false [.rowH pk hs]) ∧ D (dmOf H) ρ (.sl key 0 1 ⟨true, 0⟩ ⟨false, (hs.length : Int)⟩) v

/-! ### The caller's side -/

def hdrSV (key : Nat) (hs : Hdrs) : SV := .sl key 0 1 ⟨true, .ofNat 0⟩ ⟨false, (hs.length : Int)⟩

def keyOf : Option (Nat × Nat) → Option Nat
  | none => none
  | some (k, _) => some k

theorem HdrAt.segs {H' Hn : Nat → Option SB} {ρ' ρn : Nat → Pl} {pk pn key : Nat} {hs : Hdrs} (hd : dmOf Hn pn) (hρ : ρn pn = ρ' pk) : ∀ (cs : List Value), SegsD (dmOf H') ρ' [.rowH pk hs] cs → SegsD (dmOf Hn) ρn [.rowH pn hs] cs := by
  intro cs h
  obtain ⟨c1, c2, ⟨_, h1⟩, rfl, h2⟩ := h
  refine ⟨c1, c2, ⟨hd, ?_⟩, rfl, h2⟩
  have : ∀ (hs : Hdrs) (cs : List Value), HdrsD (dmOf H') ρ' pk hs cs → HdrsD (dmOf Hn) ρn pn hs cs := by
    intro hs
    induction hs with
    | nil => intro cs h; exact h
    | cons x t ih =>
      intro cs h
      obtain ⟨v, c, a1, a2, a3⟩ := h
      refine ⟨v, c, ?_, a2, ih c a3⟩
      simp only [D] at a1 ⊢
      rw [hρ]
      exact ⟨hd, a1.2⟩
  exact this hs c1 h1

/-- What a row of headers that has been handed over stands for. -/
theorem HdrAt.D {H' Hn : Nat → Option SB} {ρ' ρn : Nat → Pl} {a : Option (Nat × Nat)} {hs : Hdrs} {v : Value} (h : HdrAt H' ρ' a hs v) {key : Nat} (hd : dmOf Hn key) (hρ : ∀ k, keyOf a = some k → ρn key = ρ' k) : D (dmOf Hn) ρn (hdrSV key hs) v := by
  cases a with
  | none =>
    obtain ⟨rfl, rfl⟩ := h
    simp only [hdrSV, Gx.D]
    exact ⟨hd, by simp, by simp, by simp [InR], none, 0, by simp, Nat.le_refl _, .inr ⟨by simp, rfl⟩⟩
  | some q =>
    obtain ⟨k, pk⟩ := q
    obtain ⟨_, _, h⟩ := h
    simp only [hdrSV, Gx.D] at h ⊢
    rw [hρ k rfl]
    exact ⟨hd, h.2⟩

end
end Go.Gx

/- Contracts whose answers are lists of rows: the theorems. -/
namespace Go.Gx
open Go.RowKit
set_option linter.unusedVariables false

/-- A function up to its loops' heads; what is asked of the answer and the heap at the end. -/
def fnVcX (Γ : Tab) (fn : Func) (L : Loops) (args : List SV) (h : Heap) (KV : SV → Heap → Prop) (Q : Nat → List Pv → Prop) : Prop :=
  runFn Γ fn (loopKeysM L) args h KV (handM L Q)
def loopVcX (Γ : Tab) (fn : Func) (L : Loops) (key : Nat) (ps : List Pv) (KV : SV → Heap → Prop) (Q : Nat → List Pv → Prop) : Prop :=
  match assoc L key with
  | some t => runLoop Γ fn (loopKeysM L) (key % 1000) (instSt t ps) KV (handM L Q)
  | none => False

structure VcX (KV : SV → Heap → Prop) (Γ : Tab) (fn : Func) (L : Loops) (h : Heap) (args : List SV) (inv : Nat → List Pv → Nat → Prop) : Prop where
  low : ∀ k t, (k, t) ∈ L → ∀ g, g ∈ keysOf h → g < 1000 ∧ (assoc t.heap g).isSome = true
  loop : ∀ vk t ps m, (vk, t) ∈ L → inv vk ps m → runLoop Γ fn (loopKeysM L) (vk % 1000) (instSt t ps) KV (handM L fun key' ps' => ∃ m', m' < m ∧ inv key' ps' m')
  entry : fnVcX Γ fn L args h KV fun key' ps' => ∃ m', inv key' ps' m'

section
variable {P : Program} {Γ : Tab}

theorem vcX_calls {KV : SV → Heap → Prop} (hΓ : TabOk P Γ) {f : FuncId} {fn : Func} (hf : P.funcs[f]? = some fn) {L : Loops} {h : Heap} {args : List SV} {inv : Nat → List Pv → Nat → Prop} (hv : VcX KV Γ fn L h args inv) (hlen : args.length ≤ fn.ntmps)
    {w : World} {M : Nat → Prop} {ρg : Nat → Pl} {vs : List Value} (hgo : GlOk Γ w M ρg (assoc h)) (g1 : Mem w M ρg (assoc h) w) (ha : Ds (dmOf (assoc h)) ρg args vs) :
    Calls P f vs.toArray w fun e w' => ∃ x v h' ρ', e = .returned v ∧ KV x h' ∧ D (dmOf (assoc h')) ρ' x v ∧ Mem w M ρ' (assoc h') w' ∧ ∀ k, dmOf (assoc h) k → dmOf (assoc h') k ∧ PlLe (ρg k) (ρ' k) := by
  have hweak : ∀ vk t σ' ps, (vk, t) ∈ L → matchSt t σ' = some ps → Weak (assoc h) σ' (instSt t ps) := fun vk t σ' ps ht hm =>
    weak_of_match hm fun k hk => hv.low vk t ht k (keysOf_of_dm hk)
  refine (fn_calls hΓ hf hgo hlen ha g1 (fun m key σ => ∃ vk t ps, (vk, t) ∈ L ∧ vk % 1000 = key ∧ σ = instSt t ps ∧ inv vk ps m) (fun m => handM L fun key' ps' => ∃ m', m' < m ∧ inv key' ps' m') (fun m key σ hj => ?_) (fun m key σ' h => ?_)
    (handM L fun key' ps' => ∃ m', inv key' ps' m') (fun key σ' h => ?_) hv.entry).mono fun e w' he => ?_
  · obtain ⟨vk, t, ps, ht, rfl, rfl, hinv⟩ := hj
    exact hv.loop vk t ps m ht hinv
  · obtain ⟨vk, t, ps, ht, hk, hps, m', hlt, hinv⟩ := handM_of h
    exact ⟨m', hlt, _, hweak _ _ _ _ ht hps, vk, t, ps, ht, hk, rfl, hinv⟩
  · obtain ⟨vk, t, ps, ht, hk, hps, m', hinv⟩ := handM_of h
    exact ⟨m', _, hweak _ _ _ _ ht hps, vk, t, ps, ht, hk, rfl, hinv⟩
  · obtain ⟨x, v, h', ρ', rfl, k1, k2, k3, k4⟩ := he
    exact ⟨x, v, h', ρ', rfl, k1, k2, k3, k4⟩

end
end Go.Gx

/- Contracts of what is done to lists of rows: all turned in their places; a part of them handed on. -/
namespace Go.Gx
open Go.RowKit
set_option linter.unusedVariables false

theorem Hdrs.move {H' Hn : Nat → Option SB} {ρ' ρn : Nat → Pl} {pk pn : Nat} (hd : dmOf Hn pn) (hρ : ρn pn = ρ' pk) : ∀ (hs : Hdrs) (cs : List Value), HdrsD (dmOf H') ρ' pk hs cs → HdrsD (dmOf Hn) ρn pn hs cs
  | [], cs, h => h
  | x :: t, cs, h => by
    obtain ⟨v, c, a1, a2, a3⟩ := h
    refine ⟨v, c, ?_, a2, Hdrs.move hd hρ t c a3⟩
    simp only [D] at a1 ⊢
    rw [hρ]
    exact ⟨hd, a1.2⟩

section
variable {P : Program} {Γ : Tab}

/-! ### A part of the second row handed on -/

end
end Go.Gx

/- The contract of a function that writes into each of the caller's rows, and appends to it. -/
namespace Go.Gx
open Go.RowKit
set_option linter.unusedVariables false

def goneAll : List Nat → List (Nat × SB)
  | [] => []
  | k :: r => (k, .gone) :: goneAll r

section
variable {P : Program} {Γ : Tab} {w0 : World} {M : Nat → Prop} {ρ : Nat → Pl} {H : Nat → Option SB} {w : World}

/-- What the rows are. -/
def OwnD (H : Nat → Option SB) (ρ : Nat → Pl) (k : IntKind) : List SV → List Value → List Nat → List (List Int) → Hdrs → Prop
  | [], vs, ks, ls, hs => vs = [] ∧ ks = [] ∧ ls = [] ∧ hs = []
  | x :: r, vs, ks, ls, hs => ∃ v c key ks' l ls' n hs', vs = v :: c ∧ ks = key :: ks' ∧ ls = l :: ls' ∧ hs = (0, n) :: hs' ∧ H key = some (.segs false [.rowI k l]) ∧
      (n : Int) < 9223372036854775808 ∧ (∃ a cap, v = .slice a n cap ∧ n ≤ cap ∧ ((a = some (at_ (ρ key) 0) ∧ cap ≤ (ρ key).cap) ∨ (n = 0 ∧ cap = 0))) ∧ OwnD H ρ k r c ks' ls' hs'

theorem OwnD.len {k : IntKind} : ∀ {xs : List SV} {vs : List Value} {ks : List Nat} {ls : List (List Int)} {hs : Hdrs}, OwnD H ρ k xs vs ks ls hs → ks.length = xs.length ∧ ls.length = xs.length ∧ hs.length = xs.length ∧ vs.length = xs.length
  | [], vs, ks, ls, hs, h => by obtain ⟨rfl, rfl, rfl, rfl⟩ := h; exact ⟨rfl, rfl, rfl, rfl⟩
  | x :: r, vs, ks, ls, hs, h => by
    obtain ⟨v, c, key, ks', l, ls', n, hs', rfl, rfl, rfl, rfl, _, _, _, h2⟩ := h
    obtain ⟨a, b, c, d⟩ := OwnD.len h2
    simp [a, b, c, d]

theorem OwnD.key {k : IntKind} : ∀ {xs : List SV} {vs : List Value} {ks : List Nat} {ls : List (List Int)} {hs : Hdrs}, OwnD H ρ k xs vs ks ls hs → ∀ i, i < ks.length → H (ks.getD i 0) = some (.segs false [.rowI k (ls.getD i [])])
  | [], vs, ks, ls, hs, h, i, hi => by obtain ⟨rfl, rfl, rfl, rfl⟩ := h; exact absurd hi (by simp)
  | x :: r, vs, ks, ls, hs, h, 0, hi => by
    obtain ⟨v, c, key, ks', l, ls', n, hs', rfl, rfl, rfl, rfl, h1, _, _, h2⟩ := h
    exact h1
  | x :: r, vs, ks, ls, hs, h, i + 1, hi => by
    obtain ⟨v, c, key, ks', l, ls', n, hs', rfl, rfl, rfl, rfl, h1, _, _, h2⟩ := h
    have := OwnD.key h2 i (by simpa using hi)
    simpa using this

theorem gone_all : ∀ (ks : List Nat) (H : Nat → Option SB), Mem w0 M ρ H w → (∀ k ∈ ks, (H k).isSome = true) → Mem w0 M ρ (updsH H (goneAll ks)) w
  | [], H, hm, _ => hm
  | k :: r, H, hm, hk => gone_all r _ (hm.gone k (hk k (by simp))) fun j hj => dm_updH H k .gone j (hk j (by simp [hj]))

theorem gone_at : ∀ (ks : List Nat) (H : Nat → Option SB) (k : Nat), (k ∈ ks → updsH H (goneAll ks) k = some .gone) ∧ (k ∉ ks → updsH H (goneAll ks) k = H k)
  | [], H, k => ⟨fun h => (by cases h), fun _ => rfl⟩
  | j :: r, H, k => by
    obtain ⟨a, b⟩ := gone_at r (updH H j .gone) k
    refine ⟨fun h => ?_, fun h => ?_⟩
    · by_cases e : k ∈ r
      · exact a e
      · rcases List.mem_cons.1 h with rfl | h
        · exact (b e).trans (updH_same _ _ _)
        · exact absurd h e
    · simp only [List.mem_cons, not_or] at h
      exact (b h.2).trans (updH_ne h.1)

end
end Go.Gx

/- The contract of a function that writes into each of three rows of arrays, and appends to it. -/
namespace Go.Gx
open Go.RowKit
set_option linter.unusedVariables false

/-- A row of arrays of the caller's own, whole. -/
def ownA (k : IntKind) (n key : Nat) (f : List (List Int) → RP Delta) : RP Delta :=
  .get key fun b => (match b with
    | some (.segs false [.rowA k' m l]) => (match keq k' k && Nat.beq m n with
      | true => f l
      | false => .fail)
    | _ => .fail)

section
variable {P : Program} {Γ : Tab} {w0 : World} {M : Nat → Prop} {ρ : Nat → Pl} {H : Nat → Option SB} {w : World}

theorem ownA_sound {k : IntKind} {n key : Nat} {f : List (List Int) → RP Delta} {d : Delta} {rs rs' : List Nat} (h : (ownA k n key f).run H rs = some (d, rs')) : ∃ l rs1, H key = some (.segs false [.rowA k n l]) ∧ (f l).run H rs1 = some (d, rs') := by
  simp only [ownA, RP.run] at h
  split at h
  · rename_i k' m l hk
    split at h
    · rename_i hb
      simp only [Bool.and_eq_true] at hb
      have e1 := keq_eq hb.1
      have e2 := Nat.eq_of_beq_eq_true hb.2
      subst e1 e2
      exact ⟨l, _, hk, h⟩
    · simp [RP.run] at h
  · simp [RP.run] at h

end
end Go.Gx

/- Rows of scalars of their own. -/
namespace Go.Sp
end Go.Sp
namespace Go.Gx
open Go.Proofs Go.Sp
set_option linter.unusedVariables false

def Γ0b : Tab := ⟨tys, [], [], []⟩
theorem asc_mem {vk : Nat} : ∀ {L : Loops} {a : St}, (L.map (·.1)).Nodup → (vk, a) ∈ L → assoc L vk = some a
  | [], a, _, h => by cases h
  | (x1, x2) :: r, a, hn, h => by
    rw [List.map_cons] at hn
    obtain ⟨h5, h6⟩ := List.nodup_cons.1 hn
    simp only [assoc]
    rcases List.mem_cons.1 h with e | h
    · simp only [Prod.mk.injEq] at e
      obtain ⟨rfl, rfl⟩ := e
      simp
    · have hne : x1 ≠ vk := fun e => h5 (by rw [e]; exact List.mem_map.2 ⟨_, h, rfl⟩)
      have : Nat.beq x1 vk = false := by
        rw [← Bool.not_eq_true]; intro hb; exact hne (Nat.eq_of_beq_eq_true hb)
      rw [this]
      exact asc_mem h6 h
/-- What a row holds, up to its k-th. -/
def aRow (c : Int) (l : List (List Int)) (k : Nat) : Prop := ∀ j, j < k → l.getD j [] = [c + (j : Int), 0, 0, 0]
theorem aRow_set {c x : Int} {l : List (List Int)} {k : Nat} (h : aRow c l k) (hk : k < l.length) (hx : x = c + (k : Int)) : aRow c (l.set k [x, 0, 0, 0]) (k + 1) := fun j hj => by
  by_cases e : j = k
  · subst e
    rw [List.getD_eq_getElem?_getD, List.getElem?_set_self hk, hx]; rfl
  · rw [List.getD_eq_getElem?_getD, List.getElem?_set_ne (fun e' => e e'.symm), ← List.getD_eq_getElem?_getD]
    exact h j (by omega)
theorem aRow_zero (c : Int) (l : List (List Int)) : aRow c l 0 := fun j hj => by omega
theorem wrap_u64' {x : Int} (h : 0 ≤ x ∧ x < 18446744073709551616) : IntKind.u64.wrap x = x := wrap_of_InR h
theorem Γ0b_ok : TabOk Tryd.prog Γ0b := TabOk.nil mixed tys_ok
end Go.Gx

/- Lists of scalars: handed on, inverted, compared. -/
namespace Go.Sp
end Go.Sp
namespace Go.Gx
open Go.Proofs Go.Sp
open Go.Sp (prI mlL adL sbL pwL invL)
set_option linter.unusedVariables false
set_option maxRecDepth 100000

def gW : Heap := gh ++ [(490, .world)]
theorem glowS : ∀ g ∈ keysOf gh, g < 490 := fun g hg => by have hg : g ∈ [0] := hg; simp at hg; omega
theorem getD_set_self {l : List (List Int)} {k : Nat} {v : List Int} (hk : k < l.length) : (l.set k v).getD k [] = v := by
  rw [List.getD_eq_getElem?_getD, List.getElem?_set_self hk]; rfl
theorem getD_set_ne {l : List (List Int)} {k j : Nat} {v : List Int} (h : j ≠ k) : (l.set k v).getD j [] = l.getD j [] := by
  rw [List.getD_eq_getElem?_getD, List.getElem?_set_ne (fun e => h e.symm), ← List.getD_eq_getElem?_getD]
end Go.Gx

/- The contract of a function that writes into each of 5 rows of arrays, and appends to it. -/
namespace Go.Gx
open Go.RowKit
set_option linter.unusedVariables false

/-- A literal of 5 rows that are used up; the answer is a value. -/
def apart5Ctr (k : IntKind) (n : Nat) (spec : List Int → List (List (List Int)) → Option (List Prop × SV)) : Ctr := fun stamp args =>
  match args with
  | [.sl kx 0 1 ⟨true, .ofNat 0⟩ ⟨true, .ofNat 5⟩] => .get kx fun b => (match b with
    | some (.segs false [.one (.sl k0 0 e0 ⟨true, .ofNat 0⟩ n0), .one (.sl k1 0 e1 ⟨true, .ofNat 0⟩ n1), .one (.sl k2 0 e2 ⟨true, .ofNat 0⟩ n2), .one (.sl k3 0 e3 ⟨true, .ofNat 0⟩ n3), .one (.sl k4 0 e4 ⟨true, .ofNat 0⟩ n4)]) =>
      (match Nat.beq e0 n && Nat.beq e1 n && Nat.beq e2 n && Nat.beq e3 n && Nat.beq e4 n && nodupN [kx, k0, k1, k2, k3, k4] with
        | true => ownA k n k0 fun l0 => ownA k n k1 fun l1 => ownA k n k2 fun l2 => ownA k n k3 fun l3 => ownA k n k4 fun l4 => (match spec [n0.z, n1.z, n2.z, n3.z, n4.z] [l0, l1, l2, l3, l4] with
          | some (p, v) => .ret ⟨p, v, [(k0, .gone), (k1, .gone), (k2, .gone), (k3, .gone), (k4, .gone)], false⟩
          | none => .fail)
        | false => .fail)
    | _ => .fail)
  | _ => .fail

def apart5H (k : IntKind) (n : Nat) (n0 n1 n2 n3 n4 : Int) (l0 l1 l2 l3 l4 : List (List Int)) : Heap :=
  [(601, .segs true [.one (.sl 700 0 n ⟨true, .ofNat 0⟩ ⟨false, n0⟩), .one (.sl 701 0 n ⟨true, .ofNat 0⟩ ⟨false, n1⟩), .one (.sl 702 0 n ⟨true, .ofNat 0⟩ ⟨false, n2⟩), .one (.sl 703 0 n ⟨true, .ofNat 0⟩ ⟨false, n3⟩), .one (.sl 704 0 n ⟨true, .ofNat 0⟩ ⟨false, n4⟩)]),
   (700, .segs false [.rowA k n l0]), (701, .segs false [.rowA k n l1]), (702, .segs false [.rowA k n l2]), (703, .segs false [.rowA k n l3]), (704, .segs false [.rowA k n l4])]
def apart5A : List SV := [.sl 601 0 1 ⟨true, .ofNat 0⟩ ⟨true, .ofNat 5⟩]

section
variable {P : Program} {Γ : Tab} {w0 : World} {M : Nat → Prop} {ρ : Nat → Pl} {H : Nat → Option SB} {w : World}

theorem call_apart5 (hΓ : TabOk P Γ) (hgl : Γ.gl = []) (hgh : Γ.gh = []) {f : FuncId} {fn : Func} (hf : P.funcs[f]? = some fn) (hn : (fn.name == "runtime.NumGoroutine") = false) (hb : fn.body.isNone = false) (k : IntKind) (n : Nat)
    (spec : List Int → List (List (List Int)) → Option (List Prop × SV))
    (h : ∀ n0 n1 n2 n3 n4 l0 l1 l2 l3 l4 p y, spec [n0, n1, n2, n3, n4] [l0, l1, l2, l3, l4] = some (p, y) → AllP p → ∃ L inv, 1 ≤ fn.ntmps ∧ VcX (fun x h' => eqV x y) Γ fn L (apart5H k n n0 n1 n2 n3 n4 l0 l1 l2 l3 l4) apart5A inv) :
    CallOk P [] f (apart5Ctr k n spec) := by
  intro stamp args H rs rs' d vs w0 M ρ w hG hc hp hD hm
  unfold apart5Ctr at hc
  split at hc
  · rename_i kx
    simp only [RP.run] at hc
    split at hc
    · rename_i k0 e0 n0 k1 e1 n1 k2 e2 n2 k3 e3 n3 k4 e4 n4 hkx
      split at hc
      · rename_i hnn
        simp only [Bool.and_eq_true] at hnn
        obtain ⟨⟨⟨⟨⟨q0, q1⟩, q2⟩, q3⟩, q4⟩, hnd⟩ := hnn
        have q0 := (Nat.eq_of_beq_eq_true q0).symm
        have q1 := (Nat.eq_of_beq_eq_true q1).symm
        have q2 := (Nat.eq_of_beq_eq_true q2).symm
        have q3 := (Nat.eq_of_beq_eq_true q3).symm
        have q4 := (Nat.eq_of_beq_eq_true q4).symm
        subst q0
        subst q1 q2 q3 q4
        obtain ⟨l0, rs1, hk0, hc⟩ := ownA_sound hc
        obtain ⟨l1, rs2, hk1, hc⟩ := ownA_sound hc
        obtain ⟨l2, rs3, hk2, hc⟩ := ownA_sound hc
        obtain ⟨l3, rs4, hk3, hc⟩ := ownA_sound hc
        obtain ⟨l4, rs5, hk4, hc⟩ := ownA_sound hc
        split at hc
        · rename_i p y hsp
          have e := run_ret hc
          subst e
          have hp : AllP p := hp
          have hnd := nodupN_iff hnd
          simp only [List.nodup_cons, List.mem_cons, List.not_mem_nil, or_false, not_or, List.nodup_nil, and_true, not_false_eq_true] at hnd
          obtain ⟨⟨n0_1, n0_2, n0_3, n0_4, n0_5⟩, ⟨n1_2, n1_3, n1_4, n1_5⟩, ⟨n2_3, n2_4, n2_5⟩, ⟨n3_4, n3_5⟩, n4_5⟩ := hnd
          obtain ⟨cs, s1, s2, s3, s4⟩ := hm.segs hkx
          let M' : Nat → Prop := fun b => (0 < (ρ k0).cap ∧ b = (ρ k0).blk) ∨ (0 < (ρ k1).cap ∧ b = (ρ k1).blk) ∨ (0 < (ρ k2).cap ∧ b = (ρ k2).blk) ∨ (0 < (ρ k3).cap ∧ b = (ρ k3).blk) ∨ (0 < (ρ k4).cap ∧ b = (ρ k4).blk)
          let ρ1 : Nat → Pl := fun j => if j = 700 then ρ k0 else if j = 701 then ρ k1 else if j = 702 then ρ k2 else if j = 703 then ρ k3 else if j = 704 then ρ k4 else ρ kx
          have r0 : ρ1 700 = ρ k0 := rfl
          have r1 : ρ1 701 = ρ k1 := rfl
          have r2 : ρ1 702 = ρ k2 := rfl
          have r3 : ρ1 703 = ρ k3 := rfl
          have r4 : ρ1 704 = ρ k4 := rfl
          have rx : ρ1 601 = ρ kx := rfl
          have hat : ∀ j b, assoc (apart5H k n n0.z n1.z n2.z n3.z n4.z l0 l1 l2 l3 l4) j = some b → (j = 601 ∧ b = .segs true [.one (.sl 700 0 n ⟨true, .ofNat 0⟩ ⟨false, n0.z⟩), .one (.sl 701 0 n ⟨true, .ofNat 0⟩ ⟨false, n1.z⟩), .one (.sl 702 0 n ⟨true, .ofNat 0⟩ ⟨false, n2.z⟩), .one (.sl 703 0 n ⟨true, .ofNat 0⟩ ⟨false, n3.z⟩), .one (.sl 704 0 n ⟨true, .ofNat 0⟩ ⟨false, n4.z⟩)]) ∨ (j = 700 ∧ b = .segs false [.rowA k n l0]) ∨ (j = 701 ∧ b = .segs false [.rowA k n l1]) ∨ (j = 702 ∧ b = .segs false [.rowA k n l2]) ∨ (j = 703 ∧ b = .segs false [.rowA k n l3]) ∨ (j = 704 ∧ b = .segs false [.rowA k n l4]) := fun j b hb => by
            simp only [apart5H, assoc] at hb
            split at hb
            · rename_i e; exact .inl (⟨(Nat.eq_of_beq_eq_true e).symm, by simpa using hb.symm⟩)
            · skip
              split at hb
              · rename_i e; exact .inr (.inl (⟨(Nat.eq_of_beq_eq_true e).symm, by simpa using hb.symm⟩))
              · skip
                split at hb
                · rename_i e; exact .inr (.inr (.inl (⟨(Nat.eq_of_beq_eq_true e).symm, by simpa using hb.symm⟩)))
                · skip
                  split at hb
                  · rename_i e; exact .inr (.inr (.inr (.inl (⟨(Nat.eq_of_beq_eq_true e).symm, by simpa using hb.symm⟩))))
                  · skip
                    split at hb
                    · rename_i e; exact .inr (.inr (.inr (.inr (.inl (⟨(Nat.eq_of_beq_eq_true e).symm, by simpa using hb.symm⟩)))))
                    · skip
                      split at hb
                      · rename_i e; exact .inr (.inr (.inr (.inr (.inr (⟨(Nat.eq_of_beq_eq_true e).symm, by simpa using hb.symm⟩)))))
                      · cases hb
          have d0 : dmOf (assoc (apart5H k n n0.z n1.z n2.z n3.z n4.z l0 l1 l2 l3 l4)) 700 := rfl
          have d1 : dmOf (assoc (apart5H k n n0.z n1.z n2.z n3.z n4.z l0 l1 l2 l3 l4)) 701 := rfl
          have d2 : dmOf (assoc (apart5H k n n0.z n1.z n2.z n3.z n4.z l0 l1 l2 l3 l4)) 702 := rfl
          have d3 : dmOf (assoc (apart5H k n n0.z n1.z n2.z n3.z n4.z l0 l1 l2 l3 l4)) 703 := rfl
          have d4 : dmOf (assoc (apart5H k n n0.z n1.z n2.z n3.z n4.z l0 l1 l2 l3 l4)) 704 := rfl
          have dx : dmOf (assoc (apart5H k n n0.z n1.z n2.z n3.z n4.z l0 l1 l2 l3 l4)) 601 := rfl
          have mv : ∀ (ka kb : Nat) (m : SI) (v : Value), dmOf (assoc (apart5H k n n0.z n1.z n2.z n3.z n4.z l0 l1 l2 l3 l4)) kb → ρ1 kb = ρ ka → D (dmOf H) ρ (.sl ka 0 n ⟨true, .ofNat 0⟩ m) v → D (dmOf (assoc (apart5H k n n0.z n1.z n2.z n3.z n4.z l0 l1 l2 l3 l4))) ρ1 (.sl kb 0 n ⟨true, .ofNat 0⟩ ⟨false, m.z⟩) v := fun ka kb m v hd hr hv => by
            simp only [D] at hv ⊢
            rw [hr]
            exact ⟨hd, hv.2⟩
          have seg : ∀ (ka kb : Nat) (l : List (List Int)), ρ1 kb = ρ ka → H ka = some (.segs false [.rowA k n l]) → BlkD (dmOf (assoc (apart5H k n n0.z n1.z n2.z n3.z n4.z l0 l1 l2 l3 l4))) ρ1 w kb (.segs false [.rowA k n l]) := fun ka kb l hr hka => by
            obtain ⟨vz, z1, z2, z3, z4⟩ := hm.segs hka
            refine ⟨vz, ?_, by rw [hr]; exact z2, by rw [hr]; exact z3, fun _ => by rw [hr]; exact z4 rfl⟩
            obtain ⟨c1, c2, h1, h2, h3⟩ := z1
            exact ⟨c1, c2, h1, h2, h3⟩
          have g1 : Mem w M' ρ1 (assoc (apart5H k n n0.z n1.z n2.z n3.z n4.z l0 l1 l2 l3 l4)) w := by
            refine ⟨⟨fun j b hb => ?_, fun j j' ro ro' l l' h1 h2 hjj hro c1 c2 => ?_, fun j ro l h1 c1 => ?_⟩, FrameW.refl _ _, fun j l h1 c1 => ?_, fun j h1 => ?_, fun j l h1 c1 => ?_, ⟨fun j kd ms0 hj => ?_, fun j kd ms0 j' ro l i h1 h2 c1 hi c2 => ?_, fun j kd ms0 j' kd' ms1 i i' h1 h2 hjj _ _ _ _ => ?_⟩⟩
            · rcases hat j b hb with ⟨rfl, rfl⟩ | ⟨rfl, rfl⟩ | ⟨rfl, rfl⟩ | ⟨rfl, rfl⟩ | ⟨rfl, rfl⟩ | ⟨rfl, rfl⟩
              · refine ⟨cs, ?_, by rw [rx]; exact s2, by rw [rx]; exact s3, fun h => by cases h⟩
                obtain ⟨_, c1, ⟨_, v0, t0, rfl⟩, rfl, _, c2, ⟨_, v1, t1, rfl⟩, rfl, _, c3, ⟨_, v2, t2, rfl⟩, rfl, _, c4, ⟨_, v3, t3, rfl⟩, rfl, _, c5, ⟨_, v4, t4, rfl⟩, rfl, t5⟩ := s1
                exact ⟨_, _, ⟨rfl, v0, mv _ _ _ _ d0 r0 t0, rfl⟩, rfl, _, _, ⟨rfl, v1, mv _ _ _ _ d1 r1 t1, rfl⟩, rfl, _, _, ⟨rfl, v2, mv _ _ _ _ d2 r2 t2, rfl⟩, rfl, _, _, ⟨rfl, v3, mv _ _ _ _ d3 r3 t3, rfl⟩, rfl, _, _, ⟨rfl, v4, mv _ _ _ _ d4 r4 t4, rfl⟩, rfl, t5⟩
              · exact seg k0 700 l0 r0 hk0
              · exact seg k1 701 l1 r1 hk1
              · exact seg k2 702 l2 r2 hk2
              · exact seg k3 703 l3 r3 hk3
              · exact seg k4 704 l4 r4 hk4
            · rcases hat j _ h1 with ⟨rfl, e1⟩ | ⟨rfl, e1⟩ | ⟨rfl, e1⟩ | ⟨rfl, e1⟩ | ⟨rfl, e1⟩ | ⟨rfl, e1⟩ <;> rcases hat j' _ h2 with ⟨rfl, e2⟩ | ⟨rfl, e2⟩ | ⟨rfl, e2⟩ | ⟨rfl, e2⟩ | ⟨rfl, e2⟩ | ⟨rfl, e2⟩ <;> simp only [SB.segs.injEq] at e1 e2
              · exact absurd rfl hjj
              · exact hm.heap.sep _ _ false false _ _ hkx hk0 n0_1 (.inl rfl) c1 c2
              · exact hm.heap.sep _ _ false false _ _ hkx hk1 n0_2 (.inl rfl) c1 c2
              · exact hm.heap.sep _ _ false false _ _ hkx hk2 n0_3 (.inl rfl) c1 c2
              · exact hm.heap.sep _ _ false false _ _ hkx hk3 n0_4 (.inl rfl) c1 c2
              · exact hm.heap.sep _ _ false false _ _ hkx hk4 n0_5 (.inl rfl) c1 c2
              · exact hm.heap.sep _ _ false false _ _ hk0 hkx (Ne.symm n0_1) (.inl rfl) c1 c2
              · exact absurd rfl hjj
              · exact hm.heap.sep _ _ false false _ _ hk0 hk1 n1_2 (.inl rfl) c1 c2
              · exact hm.heap.sep _ _ false false _ _ hk0 hk2 n1_3 (.inl rfl) c1 c2
              · exact hm.heap.sep _ _ false false _ _ hk0 hk3 n1_4 (.inl rfl) c1 c2
              · exact hm.heap.sep _ _ false false _ _ hk0 hk4 n1_5 (.inl rfl) c1 c2
              · exact hm.heap.sep _ _ false false _ _ hk1 hkx (Ne.symm n0_2) (.inl rfl) c1 c2
              · exact hm.heap.sep _ _ false false _ _ hk1 hk0 (Ne.symm n1_2) (.inl rfl) c1 c2
              · exact absurd rfl hjj
              · exact hm.heap.sep _ _ false false _ _ hk1 hk2 n2_3 (.inl rfl) c1 c2
              · exact hm.heap.sep _ _ false false _ _ hk1 hk3 n2_4 (.inl rfl) c1 c2
              · exact hm.heap.sep _ _ false false _ _ hk1 hk4 n2_5 (.inl rfl) c1 c2
              · exact hm.heap.sep _ _ false false _ _ hk2 hkx (Ne.symm n0_3) (.inl rfl) c1 c2
              · exact hm.heap.sep _ _ false false _ _ hk2 hk0 (Ne.symm n1_3) (.inl rfl) c1 c2
              · exact hm.heap.sep _ _ false false _ _ hk2 hk1 (Ne.symm n2_3) (.inl rfl) c1 c2
              · exact absurd rfl hjj
              · exact hm.heap.sep _ _ false false _ _ hk2 hk3 n3_4 (.inl rfl) c1 c2
              · exact hm.heap.sep _ _ false false _ _ hk2 hk4 n3_5 (.inl rfl) c1 c2
              · exact hm.heap.sep _ _ false false _ _ hk3 hkx (Ne.symm n0_4) (.inl rfl) c1 c2
              · exact hm.heap.sep _ _ false false _ _ hk3 hk0 (Ne.symm n1_4) (.inl rfl) c1 c2
              · exact hm.heap.sep _ _ false false _ _ hk3 hk1 (Ne.symm n2_4) (.inl rfl) c1 c2
              · exact hm.heap.sep _ _ false false _ _ hk3 hk2 (Ne.symm n3_4) (.inl rfl) c1 c2
              · exact absurd rfl hjj
              · exact hm.heap.sep _ _ false false _ _ hk3 hk4 n4_5 (.inl rfl) c1 c2
              · exact hm.heap.sep _ _ false false _ _ hk4 hkx (Ne.symm n0_5) (.inl rfl) c1 c2
              · exact hm.heap.sep _ _ false false _ _ hk4 hk0 (Ne.symm n1_5) (.inl rfl) c1 c2
              · exact hm.heap.sep _ _ false false _ _ hk4 hk1 (Ne.symm n2_5) (.inl rfl) c1 c2
              · exact hm.heap.sep _ _ false false _ _ hk4 hk2 (Ne.symm n3_5) (.inl rfl) c1 c2
              · exact hm.heap.sep _ _ false false _ _ hk4 hk3 (Ne.symm n4_5) (.inl rfl) c1 c2
              · exact absurd rfl hjj
            · rcases hat j _ h1 with ⟨rfl, e⟩ | ⟨rfl, e⟩ | ⟨rfl, e⟩ | ⟨rfl, e⟩ | ⟨rfl, e⟩ | ⟨rfl, e⟩
              · exact hm.heap.lt kx false _ hkx c1
              · exact hm.heap.lt k0 false _ hk0 c1
              · exact hm.heap.lt k1 false _ hk1 c1
              · exact hm.heap.lt k2 false _ hk2 c1
              · exact hm.heap.lt k3 false _ hk3 c1
              · exact hm.heap.lt k4 false _ hk4 c1
            · rcases hat j _ h1 with ⟨rfl, e⟩ | ⟨rfl, e⟩ | ⟨rfl, e⟩ | ⟨rfl, e⟩ | ⟨rfl, e⟩ | ⟨rfl, e⟩
              · simp at e
              · exact .inr (.inl (⟨c1, rfl⟩))
              · exact .inr (.inr (.inl (⟨c1, rfl⟩)))
              · exact .inr (.inr (.inr (.inl (⟨c1, rfl⟩))))
              · exact .inr (.inr (.inr (.inr (.inl (⟨c1, rfl⟩)))))
              · exact .inr (.inr (.inr (.inr (.inr (⟨c1, rfl⟩)))))
            · rcases hat j _ h1 with ⟨_, e⟩ | ⟨_, e⟩ | ⟨_, e⟩ | ⟨_, e⟩ | ⟨_, e⟩ | ⟨_, e⟩ <;> cases e
            · rcases hat j _ h1 with ⟨rfl, e⟩ | ⟨rfl, e⟩ | ⟨rfl, e⟩ | ⟨rfl, e⟩ | ⟨rfl, e⟩ | ⟨rfl, e⟩
              · simp at e
              · exact hm.clean k0 _ hk0 c1
              · exact hm.clean k1 _ hk1 c1
              · exact hm.clean k2 _ hk2 c1
              · exact hm.clean k3 _ hk3 c1
              · exact hm.clean k4 _ hk4 c1
            · rcases hat j _ hj with ⟨_, e⟩ | ⟨_, e⟩ | ⟨_, e⟩ | ⟨_, e⟩ | ⟨_, e⟩ | ⟨_, e⟩ <;> cases e
            · rcases hat j _ h1 with ⟨_, e⟩ | ⟨_, e⟩ | ⟨_, e⟩ | ⟨_, e⟩ | ⟨_, e⟩ | ⟨_, e⟩ <;> cases e
            · rcases hat j _ h1 with ⟨_, e⟩ | ⟨_, e⟩ | ⟨_, e⟩ | ⟨_, e⟩ | ⟨_, e⟩ | ⟨_, e⟩ <;> cases e
          have hgo : GlOk Γ w M' ρ1 (assoc (apart5H k n n0.z n1.z n2.z n3.z n4.z l0 l1 l2 l3 l4)) := ⟨fun g hg => (by rw [hgl] at hg; cases hg), (by rw [hgh]; intro g b hgb; cases hgb)⟩
          have hargs : Ds (dmOf (assoc (apart5H k n n0.z n1.z n2.z n3.z n4.z l0 l1 l2 l3 l4))) ρ1 apart5A vs := by
            simp only [Ds, apart5A] at hD ⊢
            obtain ⟨u, c, hu, rfl, rfl⟩ := hD
            refine ⟨u, [], ?_, rfl, rfl⟩
            simp only [D] at hu ⊢
            exact ⟨dx, hu.2⟩
          obtain ⟨L, inv, u2, u3⟩ := h n0.z n1.z n2.z n3.z n4.z l0 l1 l2 l3 l4 p y hsp hp
          refine .inr ⟨f, _, GoFn.run ⟨fn, hf, hn, hb⟩ _ _, (vcX_calls hΓ hf u3 u2 hgo g1 hargs).mono fun e w' he => ?_⟩
          obtain ⟨x, v, h', ρ', rfl, t1, t2, t3, t4⟩ := he
          have hisS : ∀ j ∈ [k0, k1, k2, k3, k4], (H j).isSome = true := fun j hj => by
            simp only [List.mem_cons, List.not_mem_nil, or_false] at hj
            rcases hj with rfl | rfl | rfl | rfl | rfl
            · rw [hk0]; rfl
            · rw [hk1]; rfl
            · rw [hk2]; rfl
            · rw [hk3]; rfl
            · rw [hk4]; rfl
          have hg := gone_all [k0, k1, k2, k3, k4] H hm hisS
          have hne : ∀ j ro l, updsH H (goneAll [k0, k1, k2, k3, k4]) j = some (.segs ro l) → j ∉ [k0, k1, k2, k3, k4] ∧ H j = some (.segs ro l) := fun j ro l hj => by
            obtain ⟨a, b⟩ := gone_at [k0, k1, k2, k3, k4] H j
            by_cases e : j ∈ [k0, k1, k2, k3, k4]
            · rw [a e] at hj; cases hj
            · rw [b e] at hj; exact ⟨e, hj⟩
          refine ⟨v, rfl, ρ, .refl _ _, eqV_D x y v t1 t2, ?_⟩
          refine Mem.import hg t3 (im := fun _ => none) (fun j _ => ⟨rfl, fun _ => rfl⟩) (fun j c hj => by cases hj) (fun j hj => by cases hj) (fun j j' c h1 => by cases h1) (fun j hj => ⟨hj, .refl _⟩) (fun b hb => ?_) (fun j ro l _ hj c1 hb => ?_) (fun j kd ms0 i _ hj hi c1 hb => ?_)
          · rcases hb with ⟨hc, rfl⟩ | ⟨hc, rfl⟩ | ⟨hc, rfl⟩ | ⟨hc, rfl⟩ | ⟨hc, rfl⟩
            · exact hm.own _ _ hk0 hc
            · exact hm.own _ _ hk1 hc
            · exact hm.own _ _ hk2 hc
            · exact hm.own _ _ hk3 hc
            · exact hm.own _ _ hk4 hc
          · obtain ⟨e1, e2⟩ := hne j ro l hj
            simp only [List.mem_cons, List.not_mem_nil, or_false, not_or] at e1
            obtain ⟨f0, f1, f2, f3, f4⟩ := e1
            rcases hb with ⟨hc, e⟩ | ⟨hc, e⟩ | ⟨hc, e⟩ | ⟨hc, e⟩ | ⟨hc, e⟩
            · exact hm.heap.sep j _ ro false l _ e2 hk0 f0 (.inr rfl) c1 hc e
            · exact hm.heap.sep j _ ro false l _ e2 hk1 f1 (.inr rfl) c1 hc e
            · exact hm.heap.sep j _ ro false l _ e2 hk2 f2 (.inr rfl) c1 hc e
            · exact hm.heap.sep j _ ro false l _ e2 hk3 f3 (.inr rfl) c1 hc e
            · exact hm.heap.sep j _ ro false l _ e2 hk4 f4 (.inr rfl) c1 hc e
          · obtain ⟨a, b⟩ := gone_at [k0, k1, k2, k3, k4] H j
            by_cases e2 : j ∈ [k0, k1, k2, k3, k4]
            · rw [a e2] at hj; cases hj
            · rw [b e2] at hj
              rcases hb with ⟨hc, e⟩ | ⟨hc, e⟩ | ⟨hc, e⟩ | ⟨hc, e⟩ | ⟨hc, e⟩
              · exact hm.pools.apart j kd ms0 _ false _ i hj hk0 hc hi c1 e.symm
              · exact hm.pools.apart j kd ms0 _ false _ i hj hk1 hc hi c1 e.symm
              · exact hm.pools.apart j kd ms0 _ false _ i hj hk2 hc hi c1 e.symm
              · exact hm.pools.apart j kd ms0 _ false _ i hj hk3 hc hi c1 e.symm
              · exact hm.pools.apart j kd ms0 _ false _ i hj hk4 hc hi c1 e.symm
        · simp [RP.run] at hc
      · simp [RP.run] at hc
    · simp [RP.run] at hc
  · simp [RP.run] at hc

end
end Go.Gx

/- Rows of scalars of their own, five of them. -/
namespace Go.Sp
/-- Five rows, each with its length; not too long. -/
def ap5 (n0 n1 n2 n3 n4 : Int) (l0 l1 l2 l3 l4 : List (List Int)) : Prop := n0 = (l0.length : Int) ∧ n1 = (l1.length : Int) ∧ n2 = (l2.length : Int) ∧ n3 = (l3.length : Int) ∧ n4 = (l4.length : Int) ∧ l0.length ≤ 4398046510976 ∧ l1.length ≤ 4398046510976 ∧ l2.length ≤ 4398046510976 ∧ l3.length ≤ 4398046510976 ∧ l4.length ≤ 4398046510976
end Go.Sp
namespace Go.Gx
open Go.Proofs Go.Sp
set_option linter.unusedVariables false

def apH5 : Heap := apart5H .u64 4 0 0 0 0 0 [] [] [] [] [] 
def tA5 : SV := .sl 601 0 1 ⟨true, .ofNat 0⟩ ⟨true, .ofNat 5⟩
def L50v : Loops := [(5, ⟨[tA5, .any, .any, .i .i64 ⟨true, 0⟩, .i .i64 ⟨false, 0⟩] ++ reps .any 87, apH5, 1018⟩),
  (1005, ⟨[tA5, .any, .any, .i .i64 ⟨true, 1⟩, .i .i64 ⟨false, 0⟩] ++ reps .any 87, apH5, 1018⟩),
  (2005, ⟨[tA5, .any, .any, .i .i64 ⟨true, 2⟩, .i .i64 ⟨false, 0⟩] ++ reps .any 87, apH5, 1018⟩),
  (3005, ⟨[tA5, .any, .any, .i .i64 ⟨true, 3⟩, .i .i64 ⟨false, 0⟩] ++ reps .any 87, apH5, 1018⟩),
  (4005, ⟨[tA5, .any, .any, .i .i64 ⟨true, 4⟩, .i .i64 ⟨false, 0⟩] ++ reps .any 87, apH5, 1018⟩),
  (13, ⟨[tA5, .any, .any, .any, .any, .i .i64 ⟨true, 0⟩, .sl 700 0 4 ⟨true, .ofNat 0⟩ ⟨false, 0⟩, .i .i64 ⟨false, 0⟩] ++ reps .any 84, apH5, 1018⟩),
  (1013, ⟨[tA5, .any, .any, .any, .any, .i .i64 ⟨true, 1⟩, .sl 701 0 4 ⟨true, .ofNat 0⟩ ⟨false, 0⟩, .i .i64 ⟨false, 0⟩] ++ reps .any 84, apH5, 1018⟩),
  (2013, ⟨[tA5, .any, .any, .any, .any, .i .i64 ⟨true, 2⟩, .sl 702 0 4 ⟨true, .ofNat 0⟩ ⟨false, 0⟩, .i .i64 ⟨false, 0⟩] ++ reps .any 84, apH5, 1018⟩),
  (3013, ⟨[tA5, .any, .any, .any, .any, .i .i64 ⟨true, 3⟩, .sl 703 0 4 ⟨true, .ofNat 0⟩ ⟨false, 0⟩, .i .i64 ⟨false, 0⟩] ++ reps .any 84, apH5, 1018⟩),
  (4013, ⟨[tA5, .any, .any, .any, .any, .i .i64 ⟨true, 4⟩, .sl 704 0 4 ⟨true, .ofNat 0⟩ ⟨false, 0⟩, .i .i64 ⟨false, 0⟩] ++ reps .any 84, apH5, 1018⟩),
  (5013, ⟨[tA5, .any, .any, .any, .any, .i .i64 ⟨true, 0⟩, .kr 700 4 1000 ⟨false, 0⟩, .i .i64 ⟨false, 0⟩] ++ reps .any 84, apH5 ++ [(1000, .segs false [])], 1018⟩),
  (6013, ⟨[tA5, .any, .any, .any, .any, .i .i64 ⟨true, 1⟩, .kr 701 4 1000 ⟨false, 0⟩, .i .i64 ⟨false, 0⟩] ++ reps .any 84, apH5 ++ [(1000, .segs false [])], 1018⟩),
  (7013, ⟨[tA5, .any, .any, .any, .any, .i .i64 ⟨true, 2⟩, .kr 702 4 1000 ⟨false, 0⟩, .i .i64 ⟨false, 0⟩] ++ reps .any 84, apH5 ++ [(1000, .segs false [])], 1018⟩),
  (8013, ⟨[tA5, .any, .any, .any, .any, .i .i64 ⟨true, 3⟩, .kr 703 4 1000 ⟨false, 0⟩, .i .i64 ⟨false, 0⟩] ++ reps .any 84, apH5 ++ [(1000, .segs false [])], 1018⟩),
  (9013, ⟨[tA5, .any, .any, .any, .any, .i .i64 ⟨true, 4⟩, .kr 704 4 1000 ⟨false, 0⟩, .i .i64 ⟨false, 0⟩] ++ reps .any 84, apH5 ++ [(1000, .segs false [])], 1018⟩),
  (21, ⟨[tA5, .any, .any, .any, .any, .any, .any, .any, .i .i64 ⟨true, 0⟩, .i .i64 ⟨false, 0⟩] ++ reps .any 82, apH5, 1018⟩),
  (1021, ⟨[tA5, .any, .any, .any, .any, .any, .any, .any, .i .i64 ⟨true, 1⟩, .i .i64 ⟨false, 0⟩] ++ reps .any 82, apH5, 1018⟩),
  (2021, ⟨[tA5, .any, .any, .any, .any, .any, .any, .any, .i .i64 ⟨true, 2⟩, .i .i64 ⟨false, 0⟩] ++ reps .any 82, apH5, 1018⟩),
  (3021, ⟨[tA5, .any, .any, .any, .any, .any, .any, .any, .i .i64 ⟨true, 3⟩, .i .i64 ⟨false, 0⟩] ++ reps .any 82, apH5, 1018⟩),
  (4021, ⟨[tA5, .any, .any, .any, .any, .any, .any, .any, .i .i64 ⟨true, 4⟩, .i .i64 ⟨false, 0⟩] ++ reps .any 82, apH5, 1018⟩)]
def vc50v (n0 n1 n2 n3 n4 : Int) (l0 l1 l2 l3 l4 : List (List Int)) (K : SV → Prop) (Q : Nat → List Pv → Prop) : Prop := fnVcX Γ0b Tryd.f50 L50v apart5A (apart5H .u64 4 n0 n1 n2 n3 n4 l0 l1 l2 l3 l4) (fun x _ => K x) Q
def lc50va0 (k : Int) (n0 n1 n2 n3 n4 : Int) (l0 l1 l2 l3 l4 : List (List Int)) (K : SV → Prop) (Q : Nat → List Pv → Prop) : Prop := loopVcX Γ0b Tryd.f50 L50v 5 [.z k, .z n0, .z n1, .z n2, .z n3, .z n4, .ll l0, .ll l1, .ll l2, .ll l3, .ll l4] (fun x _ => K x) Q
def lc50vb0 (m t : Int) (n0 n1 n2 n3 n4 : Int) (l0 l1 l2 l3 l4 : List (List Int)) (K : SV → Prop) (Q : Nat → List Pv → Prop) : Prop := loopVcX Γ0b Tryd.f50 L50v 13 [.z m, .z t, .z n0, .z n1, .z n2, .z n3, .z n4, .ll l0, .ll l1, .ll l2, .ll l3, .ll l4] (fun x _ => K x) Q
def lc50vc0 (m t : Int) (n0 n1 n2 n3 n4 : Int) (l0 l1 l2 l3 l4 : List (List Int)) (K : SV → Prop) (Q : Nat → List Pv → Prop) : Prop := loopVcX Γ0b Tryd.f50 L50v 5013 [.z m, .z t, .z n0, .z n1, .z n2, .z n3, .z n4, .ll l0, .ll l1, .ll l2, .ll l3, .ll l4] (fun x _ => K x) Q
def lc50vd0 (k : Int) (n0 n1 n2 n3 n4 : Int) (l0 l1 l2 l3 l4 : List (List Int)) (K : SV → Prop) (Q : Nat → List Pv → Prop) : Prop := loopVcX Γ0b Tryd.f50 L50v 21 [.z k, .z n0, .z n1, .z n2, .z n3, .z n4, .ll l0, .ll l1, .ll l2, .ll l3, .ll l4] (fun x _ => K x) Q
def lc50va1 (k : Int) (n0 n1 n2 n3 n4 : Int) (l0 l1 l2 l3 l4 : List (List Int)) (K : SV → Prop) (Q : Nat → List Pv → Prop) : Prop := loopVcX Γ0b Tryd.f50 L50v 1005 [.z k, .z n0, .z n1, .z n2, .z n3, .z n4, .ll l0, .ll l1, .ll l2, .ll l3, .ll l4] (fun x _ => K x) Q
def lc50vb1 (m t : Int) (n0 n1 n2 n3 n4 : Int) (l0 l1 l2 l3 l4 : List (List Int)) (K : SV → Prop) (Q : Nat → List Pv → Prop) : Prop := loopVcX Γ0b Tryd.f50 L50v 1013 [.z m, .z t, .z n0, .z n1, .z n2, .z n3, .z n4, .ll l0, .ll l1, .ll l2, .ll l3, .ll l4] (fun x _ => K x) Q
def lc50vc1 (m t : Int) (n0 n1 n2 n3 n4 : Int) (l0 l1 l2 l3 l4 : List (List Int)) (K : SV → Prop) (Q : Nat → List Pv → Prop) : Prop := loopVcX Γ0b Tryd.f50 L50v 6013 [.z m, .z t, .z n0, .z n1, .z n2, .z n3, .z n4, .ll l0, .ll l1, .ll l2, .ll l3, .ll l4] (fun x _ => K x) Q
def lc50vd1 (k : Int) (n0 n1 n2 n3 n4 : Int) (l0 l1 l2 l3 l4 : List (List Int)) (K : SV → Prop) (Q : Nat → List Pv → Prop) : Prop := loopVcX Γ0b Tryd.f50 L50v 1021 [.z k, .z n0, .z n1, .z n2, .z n3, .z n4, .ll l0, .ll l1, .ll l2, .ll l3, .ll l4] (fun x _ => K x) Q
def lc50va2 (k : Int) (n0 n1 n2 n3 n4 : Int) (l0 l1 l2 l3 l4 : List (List Int)) (K : SV → Prop) (Q : Nat → List Pv → Prop) : Prop := loopVcX Γ0b Tryd.f50 L50v 2005 [.z k, .z n0, .z n1, .z n2, .z n3, .z n4, .ll l0, .ll l1, .ll l2, .ll l3, .ll l4] (fun x _ => K x) Q
def lc50vb2 (m t : Int) (n0 n1 n2 n3 n4 : Int) (l0 l1 l2 l3 l4 : List (List Int)) (K : SV → Prop) (Q : Nat → List Pv → Prop) : Prop := loopVcX Γ0b Tryd.f50 L50v 2013 [.z m, .z t, .z n0, .z n1, .z n2, .z n3, .z n4, .ll l0, .ll l1, .ll l2, .ll l3, .ll l4] (fun x _ => K x) Q
def lc50vc2 (m t : Int) (n0 n1 n2 n3 n4 : Int) (l0 l1 l2 l3 l4 : List (List Int)) (K : SV → Prop) (Q : Nat → List Pv → Prop) : Prop := loopVcX Γ0b Tryd.f50 L50v 7013 [.z m, .z t, .z n0, .z n1, .z n2, .z n3, .z n4, .ll l0, .ll l1, .ll l2, .ll l3, .ll l4] (fun x _ => K x) Q
def lc50vd2 (k : Int) (n0 n1 n2 n3 n4 : Int) (l0 l1 l2 l3 l4 : List (List Int)) (K : SV → Prop) (Q : Nat → List Pv → Prop) : Prop := loopVcX Γ0b Tryd.f50 L50v 2021 [.z k, .z n0, .z n1, .z n2, .z n3, .z n4, .ll l0, .ll l1, .ll l2, .ll l3, .ll l4] (fun x _ => K x) Q
def lc50va3 (k : Int) (n0 n1 n2 n3 n4 : Int) (l0 l1 l2 l3 l4 : List (List Int)) (K : SV → Prop) (Q : Nat → List Pv → Prop) : Prop := loopVcX Γ0b Tryd.f50 L50v 3005 [.z k, .z n0, .z n1, .z n2, .z n3, .z n4, .ll l0, .ll l1, .ll l2, .ll l3, .ll l4] (fun x _ => K x) Q
def lc50vb3 (m t : Int) (n0 n1 n2 n3 n4 : Int) (l0 l1 l2 l3 l4 : List (List Int)) (K : SV → Prop) (Q : Nat → List Pv → Prop) : Prop := loopVcX Γ0b Tryd.f50 L50v 3013 [.z m, .z t, .z n0, .z n1, .z n2, .z n3, .z n4, .ll l0, .ll l1, .ll l2, .ll l3, .ll l4] (fun x _ => K x) Q
def lc50vc3 (m t : Int) (n0 n1 n2 n3 n4 : Int) (l0 l1 l2 l3 l4 : List (List Int)) (K : SV → Prop) (Q : Nat → List Pv → Prop) : Prop := loopVcX Γ0b Tryd.f50 L50v 8013 [.z m, .z t, .z n0, .z n1, .z n2, .z n3, .z n4, .ll l0, .ll l1, .ll l2, .ll l3, .ll l4] (fun x _ => K x) Q
def lc50vd3 (k : Int) (n0 n1 n2 n3 n4 : Int) (l0 l1 l2 l3 l4 : List (List Int)) (K : SV → Prop) (Q : Nat → List Pv → Prop) : Prop := loopVcX Γ0b Tryd.f50 L50v 3021 [.z k, .z n0, .z n1, .z n2, .z n3, .z n4, .ll l0, .ll l1, .ll l2, .ll l3, .ll l4] (fun x _ => K x) Q
def lc50va4 (k : Int) (n0 n1 n2 n3 n4 : Int) (l0 l1 l2 l3 l4 : List (List Int)) (K : SV → Prop) (Q : Nat → List Pv → Prop) : Prop := loopVcX Γ0b Tryd.f50 L50v 4005 [.z k, .z n0, .z n1, .z n2, .z n3, .z n4, .ll l0, .ll l1, .ll l2, .ll l3, .ll l4] (fun x _ => K x) Q
def lc50vb4 (m t : Int) (n0 n1 n2 n3 n4 : Int) (l0 l1 l2 l3 l4 : List (List Int)) (K : SV → Prop) (Q : Nat → List Pv → Prop) : Prop := loopVcX Γ0b Tryd.f50 L50v 4013 [.z m, .z t, .z n0, .z n1, .z n2, .z n3, .z n4, .ll l0, .ll l1, .ll l2, .ll l3, .ll l4] (fun x _ => K x) Q
def lc50vc4 (m t : Int) (n0 n1 n2 n3 n4 : Int) (l0 l1 l2 l3 l4 : List (List Int)) (K : SV → Prop) (Q : Nat → List Pv → Prop) : Prop := loopVcX Γ0b Tryd.f50 L50v 9013 [.z m, .z t, .z n0, .z n1, .z n2, .z n3, .z n4, .ll l0, .ll l1, .ll l2, .ll l3, .ll l4] (fun x _ => K x) Q
def lc50vd4 (k : Int) (n0 n1 n2 n3 n4 : Int) (l0 l1 l2 l3 l4 : List (List Int)) (K : SV → Prop) (Q : Nat → List Pv → Prop) : Prop := loopVcX Γ0b Tryd.f50 L50v 4021 [.z k, .z n0, .z n1, .z n2, .z n3, .z n4, .ll l0, .ll l1, .ll l2, .ll l3, .ll l4] (fun x _ => K x) Q
theorem vc50v_eq : ∀ (n0 n1 n2 n3 n4 : Int) (l0 l1 l2 l3 l4 : List (List Int)) (K : SV → Prop) (Q : Nat → List Pv → Prop), vc50v n0 n1 n2 n3 n4 l0 l1 l2 l3 l4 K Q = (Same Tryd.f50 (5 : Nat) (itemsOf Tryd.f50 (5 : Nat)) ∧ Q (5 : Nat) [Pv.z (0 : Int), Pv.z n0, Pv.z n1, Pv.z n2, Pv.z n3, Pv.z n4, Pv.ll l0, Pv.ll l1, Pv.ll l2, Pv.ll l3, Pv.ll l4]) := by
  intros
  kernel_rfl

theorem lc50va0_eq : ∀ (k n0 n1 n2 n3 n4 : Int) (l0 l1 l2 l3 l4 : List (List Int)) (K : SV → Prop) (Q : Nat → List Pv → Prop), lc50va0 k n0 n1 n2 n3 n4 l0 l1 l2 l3 l4 K Q = ((decide (k < n0) = true → ∀ (x1 : Int), x1 = IntKind.i64.wrap ((100000 : Int) + k) → InR IntKind.i64 x1 → ∀ (x2 : Int), x2 = IntKind.u64.wrap x1 → InR IntKind.u64 x2 → Need ((0 : Int) ≤ k ∧ k < n0) ∧ Need ((0 : Int) ≤ k ∧ k < ↑l0.length) ∧ ∀ (x3 : List (List Int)), x3 = l0.set k.toNat [x2, (0 : Int), (0 : Int), (0 : Int)] → AllA IntKind.u64 (4 : Nat) x3 → ∀ (x4 : Int), x4 = IntKind.i64.wrap (k + (1 : Int)) → InR IntKind.i64 x4 → Same Tryd.f50 (5 : Nat) (itemsOf Tryd.f50 (5 : Nat)) ∧ Q (5 : Nat) [Pv.z x4, Pv.z n0, Pv.z n1, Pv.z n2, Pv.z n3, Pv.z n4, Pv.ll x3, Pv.ll l1, Pv.ll l2, Pv.ll l3, Pv.ll l4]) ∧ (decide (k < n0) = false → Same Tryd.f50 (5 : Nat) (itemsOf Tryd.f50 (5 : Nat)) ∧ Q (1005 : Nat) [Pv.z (0 : Int), Pv.z n0, Pv.z n1, Pv.z n2, Pv.z n3, Pv.z n4, Pv.ll l0, Pv.ll l1, Pv.ll l2, Pv.ll l3, Pv.ll l4])) := by
  intros
  kernel_rfl

theorem lc50vb0_eq : ∀ (m t n0 n1 n2 n3 n4 : Int) (l0 l1 l2 l3 l4 : List (List Int)) (K : SV → Prop) (Q : Nat → List Pv → Prop), lc50vb0 m t n0 n1 n2 n3 n4 l0 l1 l2 l3 l4 K Q = ((decide (t < (64 : Int)) = true → Need (↑l0.length ≤ m) ∧ Need ((m + (1 : Int)) * (32 : Int) ≤ (140737488355328 : Int)) ∧ Need ((1 : Int) ≤ (1 : Int)) ∧ ∀ (x1 : Int), x1 = m + (1 : Int) → (0 : Int) ≤ x1 → InR IntKind.i64 x1 → ∀ (x2 : Int), x2 = IntKind.i64.wrap (t + (1 : Int)) → InR IntKind.i64 x2 → Same Tryd.f50 (13 : Nat) (itemsOf Tryd.f50 (13 : Nat)) ∧ Q (5013 : Nat) [Pv.z x1, Pv.z x2, Pv.z n0, Pv.z n1, Pv.z n2, Pv.z n3, Pv.z n4, Pv.ll l0, Pv.ll l1, Pv.ll l2, Pv.ll l3, Pv.ll l4]) ∧ (decide (t < (64 : Int)) = false → ∀ (x3 : Int), x3 = IntKind.i64.wrap (m - (1 : Int)) → InR IntKind.i64 x3 → Need ((0 : Int) ≤ x3 ∧ x3 < m) ∧ Need ((0 : Int) ≤ x3 ∧ x3 < ↑l0.length) ∧ ∀ (x4 : List (List Int)), x4 = l0.set x3.toNat [(8 : Int), (0 : Int), (0 : Int), (0 : Int)] → AllA IntKind.u64 (4 : Nat) x4 → Same Tryd.f50 (13 : Nat) (itemsOf Tryd.f50 (13 : Nat)) ∧ Q (1013 : Nat) [Pv.z n1, Pv.z (0 : Int), Pv.z n0, Pv.z n1, Pv.z n2, Pv.z n3, Pv.z n4, Pv.ll x4, Pv.ll l1, Pv.ll l2, Pv.ll l3, Pv.ll l4])) := by
  intros
  kernel_rfl

theorem lc50vc0_eq : ∀ (m t n0 n1 n2 n3 n4 : Int) (l0 l1 l2 l3 l4 : List (List Int)) (K : SV → Prop) (Q : Nat → List Pv → Prop), lc50vc0 m t n0 n1 n2 n3 n4 l0 l1 l2 l3 l4 K Q = ((decide (t < (64 : Int)) = true → Need (↑l0.length ≤ m) ∧ Need ((m + (1 : Int)) * (32 : Int) ≤ (140737488355328 : Int)) ∧ Need ((1 : Int) ≤ (1 : Int)) ∧ ∀ (x1 : Int), x1 = m + (1 : Int) → (0 : Int) ≤ x1 → InR IntKind.i64 x1 → ∀ (x2 : Int), x2 = IntKind.i64.wrap (t + (1 : Int)) → InR IntKind.i64 x2 → Same Tryd.f50 (13 : Nat) (itemsOf Tryd.f50 (13 : Nat)) ∧ Q (5013 : Nat) [Pv.z x1, Pv.z x2, Pv.z n0, Pv.z n1, Pv.z n2, Pv.z n3, Pv.z n4, Pv.ll l0, Pv.ll l1, Pv.ll l2, Pv.ll l3, Pv.ll l4]) ∧ (decide (t < (64 : Int)) = false → ∀ (x3 : Int), x3 = IntKind.i64.wrap (m - (1 : Int)) → InR IntKind.i64 x3 → Need ((0 : Int) ≤ x3 ∧ x3 < m) ∧ Need (↑l0.length ≤ x3) ∧ Same Tryd.f50 (13 : Nat) (itemsOf Tryd.f50 (13 : Nat)) ∧ Q (1013 : Nat) [Pv.z n1, Pv.z (0 : Int), Pv.z n0, Pv.z n1, Pv.z n2, Pv.z n3, Pv.z n4, Pv.ll l0, Pv.ll l1, Pv.ll l2, Pv.ll l3, Pv.ll l4])) := by
  intros
  kernel_rfl

theorem lc50vd0_eq : ∀ (k n0 n1 n2 n3 n4 : Int) (l0 l1 l2 l3 l4 : List (List Int)) (K : SV → Prop) (Q : Nat → List Pv → Prop), lc50vd0 k n0 n1 n2 n3 n4 l0 l1 l2 l3 l4 K Q = ((decide (k < n0) = true → Need ((0 : Int) ≤ k ∧ k < n0) ∧ Need ((0 : Int) ≤ k ∧ k < ↑l0.length) ∧ ∀ (x1 : Int), x1 = (l0.getD k.toNat []).getD (0 : Nat) (0 : Int) → InR IntKind.u64 x1 → ∀ (x2 : Int), x2 = (l0.getD k.toNat []).getD (1 : Nat) (0 : Int) → InR IntKind.u64 x2 → ∀ (x3 : Int), x3 = (l0.getD k.toNat []).getD (2 : Nat) (0 : Int) → InR IntKind.u64 x3 → ∀ (x4 : Int), x4 = (l0.getD k.toNat []).getD (3 : Nat) (0 : Int) → InR IntKind.u64 x4 → ∀ (x5 : Int), x5 = IntKind.i64.wrap ((100000 : Int) + k) → InR IntKind.i64 x5 → ∀ (x6 : Int), x6 = IntKind.u64.wrap x5 → InR IntKind.u64 x6 → ((![x1, x2, x3, x4] == [x6, (0 : Int), (0 : Int), (0 : Int)]) = true → K (SV.b true false)) ∧ ((![x1, x2, x3, x4] == [x6, (0 : Int), (0 : Int), (0 : Int)]) = false → ∀ (x7 : Int), x7 = IntKind.i64.wrap (k + (1 : Int)) → InR IntKind.i64 x7 → Same Tryd.f50 (21 : Nat) (itemsOf Tryd.f50 (21 : Nat)) ∧ Q (21 : Nat) [Pv.z x7, Pv.z n0, Pv.z n1, Pv.z n2, Pv.z n3, Pv.z n4, Pv.ll l0, Pv.ll l1, Pv.ll l2, Pv.ll l3, Pv.ll l4])) ∧ (decide (k < n0) = false → Same Tryd.f50 (21 : Nat) (itemsOf Tryd.f50 (21 : Nat)) ∧ Q (1021 : Nat) [Pv.z (0 : Int), Pv.z n0, Pv.z n1, Pv.z n2, Pv.z n3, Pv.z n4, Pv.ll l0, Pv.ll l1, Pv.ll l2, Pv.ll l3, Pv.ll l4])) := by
  intros
  kernel_rfl

theorem lc50va1_eq : ∀ (k n0 n1 n2 n3 n4 : Int) (l0 l1 l2 l3 l4 : List (List Int)) (K : SV → Prop) (Q : Nat → List Pv → Prop), lc50va1 k n0 n1 n2 n3 n4 l0 l1 l2 l3 l4 K Q = ((decide (k < n1) = true → ∀ (x1 : Int), x1 = IntKind.i64.wrap ((200000 : Int) + k) → InR IntKind.i64 x1 → ∀ (x2 : Int), x2 = IntKind.u64.wrap x1 → InR IntKind.u64 x2 → Need ((0 : Int) ≤ k ∧ k < n1) ∧ Need ((0 : Int) ≤ k ∧ k < ↑l1.length) ∧ ∀ (x3 : List (List Int)), x3 = l1.set k.toNat [x2, (0 : Int), (0 : Int), (0 : Int)] → AllA IntKind.u64 (4 : Nat) x3 → ∀ (x4 : Int), x4 = IntKind.i64.wrap (k + (1 : Int)) → InR IntKind.i64 x4 → Same Tryd.f50 (5 : Nat) (itemsOf Tryd.f50 (5 : Nat)) ∧ Q (1005 : Nat) [Pv.z x4, Pv.z n0, Pv.z n1, Pv.z n2, Pv.z n3, Pv.z n4, Pv.ll l0, Pv.ll x3, Pv.ll l2, Pv.ll l3, Pv.ll l4]) ∧ (decide (k < n1) = false → Same Tryd.f50 (5 : Nat) (itemsOf Tryd.f50 (5 : Nat)) ∧ Q (2005 : Nat) [Pv.z (0 : Int), Pv.z n0, Pv.z n1, Pv.z n2, Pv.z n3, Pv.z n4, Pv.ll l0, Pv.ll l1, Pv.ll l2, Pv.ll l3, Pv.ll l4])) := by
  intros
  kernel_rfl

theorem lc50vb1_eq : ∀ (m t n0 n1 n2 n3 n4 : Int) (l0 l1 l2 l3 l4 : List (List Int)) (K : SV → Prop) (Q : Nat → List Pv → Prop), lc50vb1 m t n0 n1 n2 n3 n4 l0 l1 l2 l3 l4 K Q = ((decide (t < (64 : Int)) = true → Need (↑l1.length ≤ m) ∧ Need ((m + (1 : Int)) * (32 : Int) ≤ (140737488355328 : Int)) ∧ Need ((1 : Int) ≤ (1 : Int)) ∧ ∀ (x1 : Int), x1 = m + (1 : Int) → (0 : Int) ≤ x1 → InR IntKind.i64 x1 → ∀ (x2 : Int), x2 = IntKind.i64.wrap (t + (1 : Int)) → InR IntKind.i64 x2 → Same Tryd.f50 (13 : Nat) (itemsOf Tryd.f50 (13 : Nat)) ∧ Q (6013 : Nat) [Pv.z x1, Pv.z x2, Pv.z n0, Pv.z n1, Pv.z n2, Pv.z n3, Pv.z n4, Pv.ll l0, Pv.ll l1, Pv.ll l2, Pv.ll l3, Pv.ll l4]) ∧ (decide (t < (64 : Int)) = false → ∀ (x3 : Int), x3 = IntKind.i64.wrap (m - (1 : Int)) → InR IntKind.i64 x3 → Need ((0 : Int) ≤ x3 ∧ x3 < m) ∧ Need ((0 : Int) ≤ x3 ∧ x3 < ↑l1.length) ∧ ∀ (x4 : List (List Int)), x4 = l1.set x3.toNat [(8 : Int), (0 : Int), (0 : Int), (0 : Int)] → AllA IntKind.u64 (4 : Nat) x4 → Same Tryd.f50 (13 : Nat) (itemsOf Tryd.f50 (13 : Nat)) ∧ Q (2013 : Nat) [Pv.z n2, Pv.z (0 : Int), Pv.z n0, Pv.z n1, Pv.z n2, Pv.z n3, Pv.z n4, Pv.ll l0, Pv.ll x4, Pv.ll l2, Pv.ll l3, Pv.ll l4])) := by
  intros
  kernel_rfl

theorem lc50vc1_eq : ∀ (m t n0 n1 n2 n3 n4 : Int) (l0 l1 l2 l3 l4 : List (List Int)) (K : SV → Prop) (Q : Nat → List Pv → Prop), lc50vc1 m t n0 n1 n2 n3 n4 l0 l1 l2 l3 l4 K Q = ((decide (t < (64 : Int)) = true → Need (↑l1.length ≤ m) ∧ Need ((m + (1 : Int)) * (32 : Int) ≤ (140737488355328 : Int)) ∧ Need ((1 : Int) ≤ (1 : Int)) ∧ ∀ (x1 : Int), x1 = m + (1 : Int) → (0 : Int) ≤ x1 → InR IntKind.i64 x1 → ∀ (x2 : Int), x2 = IntKind.i64.wrap (t + (1 : Int)) → InR IntKind.i64 x2 → Same Tryd.f50 (13 : Nat) (itemsOf Tryd.f50 (13 : Nat)) ∧ Q (6013 : Nat) [Pv.z x1, Pv.z x2, Pv.z n0, Pv.z n1, Pv.z n2, Pv.z n3, Pv.z n4, Pv.ll l0, Pv.ll l1, Pv.ll l2, Pv.ll l3, Pv.ll l4]) ∧ (decide (t < (64 : Int)) = false → ∀ (x3 : Int), x3 = IntKind.i64.wrap (m - (1 : Int)) → InR IntKind.i64 x3 → Need ((0 : Int) ≤ x3 ∧ x3 < m) ∧ Need (↑l1.length ≤ x3) ∧ Same Tryd.f50 (13 : Nat) (itemsOf Tryd.f50 (13 : Nat)) ∧ Q (2013 : Nat) [Pv.z n2, Pv.z (0 : Int), Pv.z n0, Pv.z n1, Pv.z n2, Pv.z n3, Pv.z n4, Pv.ll l0, Pv.ll l1, Pv.ll l2, Pv.ll l3, Pv.ll l4])) := by
  intros
  kernel_rfl

theorem lc50vd1_eq : ∀ (k n0 n1 n2 n3 n4 : Int) (l0 l1 l2 l3 l4 : List (List Int)) (K : SV → Prop) (Q : Nat → List Pv → Prop), lc50vd1 k n0 n1 n2 n3 n4 l0 l1 l2 l3 l4 K Q = ((decide (k < n1) = true → Need ((0 : Int) ≤ k ∧ k < n1) ∧ Need ((0 : Int) ≤ k ∧ k < ↑l1.length) ∧ ∀ (x1 : Int), x1 = (l1.getD k.toNat []).getD (0 : Nat) (0 : Int) → InR IntKind.u64 x1 → ∀ (x2 : Int), x2 = (l1.getD k.toNat []).getD (1 : Nat) (0 : Int) → InR IntKind.u64 x2 → ∀ (x3 : Int), x3 = (l1.getD k.toNat []).getD (2 : Nat) (0 : Int) → InR IntKind.u64 x3 → ∀ (x4 : Int), x4 = (l1.getD k.toNat []).getD (3 : Nat) (0 : Int) → InR IntKind.u64 x4 → ∀ (x5 : Int), x5 = IntKind.i64.wrap ((200000 : Int) + k) → InR IntKind.i64 x5 → ∀ (x6 : Int), x6 = IntKind.u64.wrap x5 → InR IntKind.u64 x6 → ((![x1, x2, x3, x4] == [x6, (0 : Int), (0 : Int), (0 : Int)]) = true → K (SV.b true false)) ∧ ((![x1, x2, x3, x4] == [x6, (0 : Int), (0 : Int), (0 : Int)]) = false → ∀ (x7 : Int), x7 = IntKind.i64.wrap (k + (1 : Int)) → InR IntKind.i64 x7 → Same Tryd.f50 (21 : Nat) (itemsOf Tryd.f50 (21 : Nat)) ∧ Q (1021 : Nat) [Pv.z x7, Pv.z n0, Pv.z n1, Pv.z n2, Pv.z n3, Pv.z n4, Pv.ll l0, Pv.ll l1, Pv.ll l2, Pv.ll l3, Pv.ll l4])) ∧ (decide (k < n1) = false → Same Tryd.f50 (21 : Nat) (itemsOf Tryd.f50 (21 : Nat)) ∧ Q (2021 : Nat) [Pv.z (0 : Int), Pv.z n0, Pv.z n1, Pv.z n2, Pv.z n3, Pv.z n4, Pv.ll l0, Pv.ll l1, Pv.ll l2, Pv.ll l3, Pv.ll l4])) := by
  intros
  kernel_rfl

theorem lc50va2_eq : ∀ (k n0 n1 n2 n3 n4 : Int) (l0 l1 l2 l3 l4 : List (List Int)) (K : SV → Prop) (Q : Nat → List Pv → Prop), lc50va2 k n0 n1 n2 n3 n4 l0 l1 l2 l3 l4 K Q = ((decide (k < n2) = true → ∀ (x1 : Int), x1 = IntKind.i64.wrap ((300000 : Int) + k) → InR IntKind.i64 x1 → ∀ (x2 : Int), x2 = IntKind.u64.wrap x1 → InR IntKind.u64 x2 → Need ((0 : Int) ≤ k ∧ k < n2) ∧ Need ((0 : Int) ≤ k ∧ k < ↑l2.length) ∧ ∀ (x3 : List (List Int)), x3 = l2.set k.toNat [x2, (0 : Int), (0 : Int), (0 : Int)] → AllA IntKind.u64 (4 : Nat) x3 → ∀ (x4 : Int), x4 = IntKind.i64.wrap (k + (1 : Int)) → InR IntKind.i64 x4 → Same Tryd.f50 (5 : Nat) (itemsOf Tryd.f50 (5 : Nat)) ∧ Q (2005 : Nat) [Pv.z x4, Pv.z n0, Pv.z n1, Pv.z n2, Pv.z n3, Pv.z n4, Pv.ll l0, Pv.ll l1, Pv.ll x3, Pv.ll l3, Pv.ll l4]) ∧ (decide (k < n2) = false → Same Tryd.f50 (5 : Nat) (itemsOf Tryd.f50 (5 : Nat)) ∧ Q (3005 : Nat) [Pv.z (0 : Int), Pv.z n0, Pv.z n1, Pv.z n2, Pv.z n3, Pv.z n4, Pv.ll l0, Pv.ll l1, Pv.ll l2, Pv.ll l3, Pv.ll l4])) := by
  intros
  kernel_rfl

theorem lc50vb2_eq : ∀ (m t n0 n1 n2 n3 n4 : Int) (l0 l1 l2 l3 l4 : List (List Int)) (K : SV → Prop) (Q : Nat → List Pv → Prop), lc50vb2 m t n0 n1 n2 n3 n4 l0 l1 l2 l3 l4 K Q = ((decide (t < (64 : Int)) = true → Need (↑l2.length ≤ m) ∧ Need ((m + (1 : Int)) * (32 : Int) ≤ (140737488355328 : Int)) ∧ Need ((1 : Int) ≤ (1 : Int)) ∧ ∀ (x1 : Int), x1 = m + (1 : Int) → (0 : Int) ≤ x1 → InR IntKind.i64 x1 → ∀ (x2 : Int), x2 = IntKind.i64.wrap (t + (1 : Int)) → InR IntKind.i64 x2 → Same Tryd.f50 (13 : Nat) (itemsOf Tryd.f50 (13 : Nat)) ∧ Q (7013 : Nat) [Pv.z x1, Pv.z x2, Pv.z n0, Pv.z n1, Pv.z n2, Pv.z n3, Pv.z n4, Pv.ll l0, Pv.ll l1, Pv.ll l2, Pv.ll l3, Pv.ll l4]) ∧ (decide (t < (64 : Int)) = false → ∀ (x3 : Int), x3 = IntKind.i64.wrap (m - (1 : Int)) → InR IntKind.i64 x3 → Need ((0 : Int) ≤ x3 ∧ x3 < m) ∧ Need ((0 : Int) ≤ x3 ∧ x3 < ↑l2.length) ∧ ∀ (x4 : List (List Int)), x4 = l2.set x3.toNat [(8 : Int), (0 : Int), (0 : Int), (0 : Int)] → AllA IntKind.u64 (4 : Nat) x4 → Same Tryd.f50 (13 : Nat) (itemsOf Tryd.f50 (13 : Nat)) ∧ Q (3013 : Nat) [Pv.z n3, Pv.z (0 : Int), Pv.z n0, Pv.z n1, Pv.z n2, Pv.z n3, Pv.z n4, Pv.ll l0, Pv.ll l1, Pv.ll x4, Pv.ll l3, Pv.ll l4])) := by
  intros
  kernel_rfl

theorem lc50vc2_eq : ∀ (m t n0 n1 n2 n3 n4 : Int) (l0 l1 l2 l3 l4 : List (List Int)) (K : SV → Prop) (Q : Nat → List Pv → Prop), lc50vc2 m t n0 n1 n2 n3 n4 l0 l1 l2 l3 l4 K Q = ((decide (t < (64 : Int)) = true → Need (↑l2.length ≤ m) ∧ Need ((m + (1 : Int)) * (32 : Int) ≤ (140737488355328 : Int)) ∧ Need ((1 : Int) ≤ (1 : Int)) ∧ ∀ (x1 : Int), x1 = m + (1 : Int) → (0 : Int) ≤ x1 → InR IntKind.i64 x1 → ∀ (x2 : Int), x2 = IntKind.i64.wrap (t + (1 : Int)) → InR IntKind.i64 x2 → Same Tryd.f50 (13 : Nat) (itemsOf Tryd.f50 (13 : Nat)) ∧ Q (7013 : Nat) [Pv.z x1, Pv.z x2, Pv.z n0, Pv.z n1, Pv.z n2, Pv.z n3, Pv.z n4, Pv.ll l0, Pv.ll l1, Pv.ll l2, Pv.ll l3, Pv.ll l4]) ∧ (decide (t < (64 : Int)) = false → ∀ (x3 : Int), x3 = IntKind.i64.wrap (m - (1 : Int)) → InR IntKind.i64 x3 → Need ((0 : Int) ≤ x3 ∧ x3 < m) ∧ Need (↑l2.length ≤ x3) ∧ Same Tryd.f50 (13 : Nat) (itemsOf Tryd.f50 (13 : Nat)) ∧ Q (3013 : Nat) [Pv.z n3, Pv.z (0 : Int), Pv.z n0, Pv.z n1, Pv.z n2, Pv.z n3, Pv.z n4, Pv.ll l0, Pv.ll l1, Pv.ll l2, Pv.ll l3, Pv.ll l4])) := by
  intros
  kernel_rfl

theorem lc50vd2_eq : ∀ (k n0 n1 n2 n3 n4 : Int) (l0 l1 l2 l3 l4 : List (List Int)) (K : SV → Prop) (Q : Nat → List Pv → Prop), lc50vd2 k n0 n1 n2 n3 n4 l0 l1 l2 l3 l4 K Q = ((decide (k < n2) = true → Need ((0 : Int) ≤ k ∧ k < n2) ∧ Need ((0 : Int) ≤ k ∧ k < ↑l2.length) ∧ ∀ (x1 : Int), x1 = (l2.getD k.toNat []).getD (0 : Nat) (0 : Int) → InR IntKind.u64 x1 → ∀ (x2 : Int), x2 = (l2.getD k.toNat []).getD (1 : Nat) (0 : Int) → InR IntKind.u64 x2 → ∀ (x3 : Int), x3 = (l2.getD k.toNat []).getD (2 : Nat) (0 : Int) → InR IntKind.u64 x3 → ∀ (x4 : Int), x4 = (l2.getD k.toNat []).getD (3 : Nat) (0 : Int) → InR IntKind.u64 x4 → ∀ (x5 : Int), x5 = IntKind.i64.wrap ((300000 : Int) + k) → InR IntKind.i64 x5 → ∀ (x6 : Int), x6 = IntKind.u64.wrap x5 → InR IntKind.u64 x6 → ((![x1, x2, x3, x4] == [x6, (0 : Int), (0 : Int), (0 : Int)]) = true → K (SV.b true false)) ∧ ((![x1, x2, x3, x4] == [x6, (0 : Int), (0 : Int), (0 : Int)]) = false → ∀ (x7 : Int), x7 = IntKind.i64.wrap (k + (1 : Int)) → InR IntKind.i64 x7 → Same Tryd.f50 (21 : Nat) (itemsOf Tryd.f50 (21 : Nat)) ∧ Q (2021 : Nat) [Pv.z x7, Pv.z n0, Pv.z n1, Pv.z n2, Pv.z n3, Pv.z n4, Pv.ll l0, Pv.ll l1, Pv.ll l2, Pv.ll l3, Pv.ll l4])) ∧ (decide (k < n2) = false → Same Tryd.f50 (21 : Nat) (itemsOf Tryd.f50 (21 : Nat)) ∧ Q (3021 : Nat) [Pv.z (0 : Int), Pv.z n0, Pv.z n1, Pv.z n2, Pv.z n3, Pv.z n4, Pv.ll l0, Pv.ll l1, Pv.ll l2, Pv.ll l3, Pv.ll l4])) := by
  intros
  kernel_rfl

theorem lc50va3_eq : ∀ (k n0 n1 n2 n3 n4 : Int) (l0 l1 l2 l3 l4 : List (List Int)) (K : SV → Prop) (Q : Nat → List Pv → Prop), lc50va3 k n0 n1 n2 n3 n4 l0 l1 l2 l3 l4 K Q = ((decide (k < n3) = true → ∀ (x1 : Int), x1 = IntKind.i64.wrap ((400000 : Int) + k) → InR IntKind.i64 x1 → ∀ (x2 : Int), x2 = IntKind.u64.wrap x1 → InR IntKind.u64 x2 → Need ((0 : Int) ≤ k ∧ k < n3) ∧ Need ((0 : Int) ≤ k ∧ k < ↑l3.length) ∧ ∀ (x3 : List (List Int)), x3 = l3.set k.toNat [x2, (0 : Int), (0 : Int), (0 : Int)] → AllA IntKind.u64 (4 : Nat) x3 → ∀ (x4 : Int), x4 = IntKind.i64.wrap (k + (1 : Int)) → InR IntKind.i64 x4 → Same Tryd.f50 (5 : Nat) (itemsOf Tryd.f50 (5 : Nat)) ∧ Q (3005 : Nat) [Pv.z x4, Pv.z n0, Pv.z n1, Pv.z n2, Pv.z n3, Pv.z n4, Pv.ll l0, Pv.ll l1, Pv.ll l2, Pv.ll x3, Pv.ll l4]) ∧ (decide (k < n3) = false → Same Tryd.f50 (5 : Nat) (itemsOf Tryd.f50 (5 : Nat)) ∧ Q (4005 : Nat) [Pv.z (0 : Int), Pv.z n0, Pv.z n1, Pv.z n2, Pv.z n3, Pv.z n4, Pv.ll l0, Pv.ll l1, Pv.ll l2, Pv.ll l3, Pv.ll l4])) := by
  intros
  kernel_rfl

theorem lc50vb3_eq : ∀ (m t n0 n1 n2 n3 n4 : Int) (l0 l1 l2 l3 l4 : List (List Int)) (K : SV → Prop) (Q : Nat → List Pv → Prop), lc50vb3 m t n0 n1 n2 n3 n4 l0 l1 l2 l3 l4 K Q = ((decide (t < (64 : Int)) = true → Need (↑l3.length ≤ m) ∧ Need ((m + (1 : Int)) * (32 : Int) ≤ (140737488355328 : Int)) ∧ Need ((1 : Int) ≤ (1 : Int)) ∧ ∀ (x1 : Int), x1 = m + (1 : Int) → (0 : Int) ≤ x1 → InR IntKind.i64 x1 → ∀ (x2 : Int), x2 = IntKind.i64.wrap (t + (1 : Int)) → InR IntKind.i64 x2 → Same Tryd.f50 (13 : Nat) (itemsOf Tryd.f50 (13 : Nat)) ∧ Q (8013 : Nat) [Pv.z x1, Pv.z x2, Pv.z n0, Pv.z n1, Pv.z n2, Pv.z n3, Pv.z n4, Pv.ll l0, Pv.ll l1, Pv.ll l2, Pv.ll l3, Pv.ll l4]) ∧ (decide (t < (64 : Int)) = false → ∀ (x3 : Int), x3 = IntKind.i64.wrap (m - (1 : Int)) → InR IntKind.i64 x3 → Need ((0 : Int) ≤ x3 ∧ x3 < m) ∧ Need ((0 : Int) ≤ x3 ∧ x3 < ↑l3.length) ∧ ∀ (x4 : List (List Int)), x4 = l3.set x3.toNat [(8 : Int), (0 : Int), (0 : Int), (0 : Int)] → AllA IntKind.u64 (4 : Nat) x4 → Same Tryd.f50 (13 : Nat) (itemsOf Tryd.f50 (13 : Nat)) ∧ Q (4013 : Nat) [Pv.z n4, Pv.z (0 : Int), Pv.z n0, Pv.z n1, Pv.z n2, Pv.z n3, Pv.z n4, Pv.ll l0, Pv.ll l1, Pv.ll l2, Pv.ll x4, Pv.ll l4])) := by
  intros
  kernel_rfl

theorem lc50vc3_eq : ∀ (m t n0 n1 n2 n3 n4 : Int) (l0 l1 l2 l3 l4 : List (List Int)) (K : SV → Prop) (Q : Nat → List Pv → Prop), lc50vc3 m t n0 n1 n2 n3 n4 l0 l1 l2 l3 l4 K Q = ((decide (t < (64 : Int)) = true → Need (↑l3.length ≤ m) ∧ Need ((m + (1 : Int)) * (32 : Int) ≤ (140737488355328 : Int)) ∧ Need ((1 : Int) ≤ (1 : Int)) ∧ ∀ (x1 : Int), x1 = m + (1 : Int) → (0 : Int) ≤ x1 → InR IntKind.i64 x1 → ∀ (x2 : Int), x2 = IntKind.i64.wrap (t + (1 : Int)) → InR IntKind.i64 x2 → Same Tryd.f50 (13 : Nat) (itemsOf Tryd.f50 (13 : Nat)) ∧ Q (8013 : Nat) [Pv.z x1, Pv.z x2, Pv.z n0, Pv.z n1, Pv.z n2, Pv.z n3, Pv.z n4, Pv.ll l0, Pv.ll l1, Pv.ll l2, Pv.ll l3, Pv.ll l4]) ∧ (decide (t < (64 : Int)) = false → ∀ (x3 : Int), x3 = IntKind.i64.wrap (m - (1 : Int)) → InR IntKind.i64 x3 → Need ((0 : Int) ≤ x3 ∧ x3 < m) ∧ Need (↑l3.length ≤ x3) ∧ Same Tryd.f50 (13 : Nat) (itemsOf Tryd.f50 (13 : Nat)) ∧ Q (4013 : Nat) [Pv.z n4, Pv.z (0 : Int), Pv.z n0, Pv.z n1, Pv.z n2, Pv.z n3, Pv.z n4, Pv.ll l0, Pv.ll l1, Pv.ll l2, Pv.ll l3, Pv.ll l4])) := by
  intros
  kernel_rfl

theorem lc50vd3_eq : ∀ (k n0 n1 n2 n3 n4 : Int) (l0 l1 l2 l3 l4 : List (List Int)) (K : SV → Prop) (Q : Nat → List Pv → Prop), lc50vd3 k n0 n1 n2 n3 n4 l0 l1 l2 l3 l4 K Q = ((decide (k < n3) = true → Need ((0 : Int) ≤ k ∧ k < n3) ∧ Need ((0 : Int) ≤ k ∧ k < ↑l3.length) ∧ ∀ (x1 : Int), x1 = (l3.getD k.toNat []).getD (0 : Nat) (0 : Int) → InR IntKind.u64 x1 → ∀ (x2 : Int), x2 = (l3.getD k.toNat []).getD (1 : Nat) (0 : Int) → InR IntKind.u64 x2 → ∀ (x3 : Int), x3 = (l3.getD k.toNat []).getD (2 : Nat) (0 : Int) → InR IntKind.u64 x3 → ∀ (x4 : Int), x4 = (l3.getD k.toNat []).getD (3 : Nat) (0 : Int) → InR IntKind.u64 x4 → ∀ (x5 : Int), x5 = IntKind.i64.wrap ((400000 : Int) + k) → InR IntKind.i64 x5 → ∀ (x6 : Int), x6 = IntKind.u64.wrap x5 → InR IntKind.u64 x6 → ((![x1, x2, x3, x4] == [x6, (0 : Int), (0 : Int), (0 : Int)]) = true → K (SV.b true false)) ∧ ((![x1, x2, x3, x4] == [x6, (0 : Int), (0 : Int), (0 : Int)]) = false → ∀ (x7 : Int), x7 = IntKind.i64.wrap (k + (1 : Int)) → InR IntKind.i64 x7 → Same Tryd.f50 (21 : Nat) (itemsOf Tryd.f50 (21 : Nat)) ∧ Q (3021 : Nat) [Pv.z x7, Pv.z n0, Pv.z n1, Pv.z n2, Pv.z n3, Pv.z n4, Pv.ll l0, Pv.ll l1, Pv.ll l2, Pv.ll l3, Pv.ll l4])) ∧ (decide (k < n3) = false → Same Tryd.f50 (21 : Nat) (itemsOf Tryd.f50 (21 : Nat)) ∧ Q (4021 : Nat) [Pv.z (0 : Int), Pv.z n0, Pv.z n1, Pv.z n2, Pv.z n3, Pv.z n4, Pv.ll l0, Pv.ll l1, Pv.ll l2, Pv.ll l3, Pv.ll l4])) := by
  intros
  kernel_rfl

theorem lc50va4_eq : ∀ (k n0 n1 n2 n3 n4 : Int) (l0 l1 l2 l3 l4 : List (List Int)) (K : SV → Prop) (Q : Nat → List Pv → Prop), lc50va4 k n0 n1 n2 n3 n4 l0 l1 l2 l3 l4 K Q = ((decide (k < n4) = true → ∀ (x1 : Int), x1 = IntKind.i64.wrap ((500000 : Int) + k) → InR IntKind.i64 x1 → ∀ (x2 : Int), x2 = IntKind.u64.wrap x1 → InR IntKind.u64 x2 → Need ((0 : Int) ≤ k ∧ k < n4) ∧ Need ((0 : Int) ≤ k ∧ k < ↑l4.length) ∧ ∀ (x3 : List (List Int)), x3 = l4.set k.toNat [x2, (0 : Int), (0 : Int), (0 : Int)] → AllA IntKind.u64 (4 : Nat) x3 → ∀ (x4 : Int), x4 = IntKind.i64.wrap (k + (1 : Int)) → InR IntKind.i64 x4 → Same Tryd.f50 (5 : Nat) (itemsOf Tryd.f50 (5 : Nat)) ∧ Q (4005 : Nat) [Pv.z x4, Pv.z n0, Pv.z n1, Pv.z n2, Pv.z n3, Pv.z n4, Pv.ll l0, Pv.ll l1, Pv.ll l2, Pv.ll l3, Pv.ll x3]) ∧ (decide (k < n4) = false → Same Tryd.f50 (13 : Nat) (itemsOf Tryd.f50 (13 : Nat)) ∧ Q (13 : Nat) [Pv.z n0, Pv.z (0 : Int), Pv.z n0, Pv.z n1, Pv.z n2, Pv.z n3, Pv.z n4, Pv.ll l0, Pv.ll l1, Pv.ll l2, Pv.ll l3, Pv.ll l4])) := by
  intros
  kernel_rfl

theorem lc50vb4_eq : ∀ (m t n0 n1 n2 n3 n4 : Int) (l0 l1 l2 l3 l4 : List (List Int)) (K : SV → Prop) (Q : Nat → List Pv → Prop), lc50vb4 m t n0 n1 n2 n3 n4 l0 l1 l2 l3 l4 K Q = ((decide (t < (64 : Int)) = true → Need (↑l4.length ≤ m) ∧ Need ((m + (1 : Int)) * (32 : Int) ≤ (140737488355328 : Int)) ∧ Need ((1 : Int) ≤ (1 : Int)) ∧ ∀ (x1 : Int), x1 = m + (1 : Int) → (0 : Int) ≤ x1 → InR IntKind.i64 x1 → ∀ (x2 : Int), x2 = IntKind.i64.wrap (t + (1 : Int)) → InR IntKind.i64 x2 → Same Tryd.f50 (13 : Nat) (itemsOf Tryd.f50 (13 : Nat)) ∧ Q (9013 : Nat) [Pv.z x1, Pv.z x2, Pv.z n0, Pv.z n1, Pv.z n2, Pv.z n3, Pv.z n4, Pv.ll l0, Pv.ll l1, Pv.ll l2, Pv.ll l3, Pv.ll l4]) ∧ (decide (t < (64 : Int)) = false → ∀ (x3 : Int), x3 = IntKind.i64.wrap (m - (1 : Int)) → InR IntKind.i64 x3 → Need ((0 : Int) ≤ x3 ∧ x3 < m) ∧ Need ((0 : Int) ≤ x3 ∧ x3 < ↑l4.length) ∧ ∀ (x4 : List (List Int)), x4 = l4.set x3.toNat [(8 : Int), (0 : Int), (0 : Int), (0 : Int)] → AllA IntKind.u64 (4 : Nat) x4 → Same Tryd.f50 (21 : Nat) (itemsOf Tryd.f50 (21 : Nat)) ∧ Q (21 : Nat) [Pv.z (0 : Int), Pv.z n0, Pv.z n1, Pv.z n2, Pv.z n3, Pv.z n4, Pv.ll l0, Pv.ll l1, Pv.ll l2, Pv.ll l3, Pv.ll x4])) := by
  intros
  kernel_rfl

theorem lc50vc4_eq : ∀ (m t n0 n1 n2 n3 n4 : Int) (l0 l1 l2 l3 l4 : List (List Int)) (K : SV → Prop) (Q : Nat → List Pv → Prop), lc50vc4 m t n0 n1 n2 n3 n4 l0 l1 l2 l3 l4 K Q = ((decide (t < (64 : Int)) = true → Need (↑l4.length ≤ m) ∧ Need ((m + (1 : Int)) * (32 : Int) ≤ (140737488355328 : Int)) ∧ Need ((1 : Int) ≤ (1 : Int)) ∧ ∀ (x1 : Int), x1 = m + (1 : Int) → (0 : Int) ≤ x1 → InR IntKind.i64 x1 → ∀ (x2 : Int), x2 = IntKind.i64.wrap (t + (1 : Int)) → InR IntKind.i64 x2 → Same Tryd.f50 (13 : Nat) (itemsOf Tryd.f50 (13 : Nat)) ∧ Q (9013 : Nat) [Pv.z x1, Pv.z x2, Pv.z n0, Pv.z n1, Pv.z n2, Pv.z n3, Pv.z n4, Pv.ll l0, Pv.ll l1, Pv.ll l2, Pv.ll l3, Pv.ll l4]) ∧ (decide (t < (64 : Int)) = false → ∀ (x3 : Int), x3 = IntKind.i64.wrap (m - (1 : Int)) → InR IntKind.i64 x3 → Need ((0 : Int) ≤ x3 ∧ x3 < m) ∧ Need (↑l4.length ≤ x3) ∧ Same Tryd.f50 (21 : Nat) (itemsOf Tryd.f50 (21 : Nat)) ∧ Q (21 : Nat) [Pv.z (0 : Int), Pv.z n0, Pv.z n1, Pv.z n2, Pv.z n3, Pv.z n4, Pv.ll l0, Pv.ll l1, Pv.ll l2, Pv.ll l3, Pv.ll l4])) := by
  intros
  kernel_rfl

theorem lc50vd4_eq : ∀ (k n0 n1 n2 n3 n4 : Int) (l0 l1 l2 l3 l4 : List (List Int)) (K : SV → Prop) (Q : Nat → List Pv → Prop), lc50vd4 k n0 n1 n2 n3 n4 l0 l1 l2 l3 l4 K Q = ((decide (k < n4) = true → Need ((0 : Int) ≤ k ∧ k < n4) ∧ Need ((0 : Int) ≤ k ∧ k < ↑l4.length) ∧ ∀ (x1 : Int), x1 = (l4.getD k.toNat []).getD (0 : Nat) (0 : Int) → InR IntKind.u64 x1 → ∀ (x2 : Int), x2 = (l4.getD k.toNat []).getD (1 : Nat) (0 : Int) → InR IntKind.u64 x2 → ∀ (x3 : Int), x3 = (l4.getD k.toNat []).getD (2 : Nat) (0 : Int) → InR IntKind.u64 x3 → ∀ (x4 : Int), x4 = (l4.getD k.toNat []).getD (3 : Nat) (0 : Int) → InR IntKind.u64 x4 → ∀ (x5 : Int), x5 = IntKind.i64.wrap ((500000 : Int) + k) → InR IntKind.i64 x5 → ∀ (x6 : Int), x6 = IntKind.u64.wrap x5 → InR IntKind.u64 x6 → ((![x1, x2, x3, x4] == [x6, (0 : Int), (0 : Int), (0 : Int)]) = true → K (SV.b true false)) ∧ ((![x1, x2, x3, x4] == [x6, (0 : Int), (0 : Int), (0 : Int)]) = false → ∀ (x7 : Int), x7 = IntKind.i64.wrap (k + (1 : Int)) → InR IntKind.i64 x7 → Same Tryd.f50 (21 : Nat) (itemsOf Tryd.f50 (21 : Nat)) ∧ Q (4021 : Nat) [Pv.z x7, Pv.z n0, Pv.z n1, Pv.z n2, Pv.z n3, Pv.z n4, Pv.ll l0, Pv.ll l1, Pv.ll l2, Pv.ll l3, Pv.ll l4])) ∧ (decide (k < n4) = false → K (SV.b true true))) := by
  intros
  kernel_rfl

def inv50v (N0 N1 N2 N3 N4 : Nat) (key : Nat) (ps : List Pv) (m : Nat) : Prop := ∃ (k : Nat) (l0 l1 l2 l3 l4 : List (List Int)), l0.length = N0 ∧ l1.length = N1 ∧ l2.length = N2 ∧ l3.length = N3 ∧ l4.length = N4 ∧
  ((key = 5 ∧ ps = .z (k : Int) :: [.z (N0 : Int), .z (N1 : Int), .z (N2 : Int), .z (N3 : Int), .z (N4 : Int), .ll l0, .ll l1, .ll l2, .ll l3, .ll l4] ∧ k ≤ N0 ∧ (True) ∧ aRow 100000 l0 k ∧ m = 15 * 8796093022208 + (N0 - k)) ∨
   (key = 1005 ∧ ps = .z (k : Int) :: [.z (N0 : Int), .z (N1 : Int), .z (N2 : Int), .z (N3 : Int), .z (N4 : Int), .ll l0, .ll l1, .ll l2, .ll l3, .ll l4] ∧ k ≤ N1 ∧ (aRow 100000 l0 N0) ∧ aRow 200000 l1 k ∧ m = 14 * 8796093022208 + (N1 - k)) ∨
   (key = 2005 ∧ ps = .z (k : Int) :: [.z (N0 : Int), .z (N1 : Int), .z (N2 : Int), .z (N3 : Int), .z (N4 : Int), .ll l0, .ll l1, .ll l2, .ll l3, .ll l4] ∧ k ≤ N2 ∧ (aRow 100000 l0 N0 ∧ aRow 200000 l1 N1) ∧ aRow 300000 l2 k ∧ m = 13 * 8796093022208 + (N2 - k)) ∨
   (key = 3005 ∧ ps = .z (k : Int) :: [.z (N0 : Int), .z (N1 : Int), .z (N2 : Int), .z (N3 : Int), .z (N4 : Int), .ll l0, .ll l1, .ll l2, .ll l3, .ll l4] ∧ k ≤ N3 ∧ (aRow 100000 l0 N0 ∧ aRow 200000 l1 N1 ∧ aRow 300000 l2 N2) ∧ aRow 400000 l3 k ∧ m = 12 * 8796093022208 + (N3 - k)) ∨
   (key = 4005 ∧ ps = .z (k : Int) :: [.z (N0 : Int), .z (N1 : Int), .z (N2 : Int), .z (N3 : Int), .z (N4 : Int), .ll l0, .ll l1, .ll l2, .ll l3, .ll l4] ∧ k ≤ N4 ∧ (aRow 100000 l0 N0 ∧ aRow 200000 l1 N1 ∧ aRow 300000 l2 N2 ∧ aRow 400000 l3 N3) ∧ aRow 500000 l4 k ∧ m = 11 * 8796093022208 + (N4 - k)) ∨
   (key = 13 ∧ ps = .z (N0 : Int) :: .z 0 :: [.z (N0 : Int), .z (N1 : Int), .z (N2 : Int), .z (N3 : Int), .z (N4 : Int), .ll l0, .ll l1, .ll l2, .ll l3, .ll l4] ∧ (aRow 100000 l0 N0 ∧ aRow 200000 l1 N1 ∧ aRow 300000 l2 N2 ∧ aRow 400000 l3 N3 ∧ aRow 500000 l4 N4) ∧ m = 10 * 8796093022208 + 70) ∨
   (key = 5013 ∧ ps = .z ((N0 : Int) + (k : Int)) :: .z (k : Int) :: [.z (N0 : Int), .z (N1 : Int), .z (N2 : Int), .z (N3 : Int), .z (N4 : Int), .ll l0, .ll l1, .ll l2, .ll l3, .ll l4] ∧ 1 ≤ k ∧ k ≤ 64 ∧ (aRow 100000 l0 N0 ∧ aRow 200000 l1 N1 ∧ aRow 300000 l2 N2 ∧ aRow 400000 l3 N3 ∧ aRow 500000 l4 N4) ∧ m = 10 * 8796093022208 + (65 - k)) ∨
   (key = 1013 ∧ ps = .z (N1 : Int) :: .z 0 :: [.z (N0 : Int), .z (N1 : Int), .z (N2 : Int), .z (N3 : Int), .z (N4 : Int), .ll l0, .ll l1, .ll l2, .ll l3, .ll l4] ∧ (aRow 100000 l0 N0 ∧ aRow 200000 l1 N1 ∧ aRow 300000 l2 N2 ∧ aRow 400000 l3 N3 ∧ aRow 500000 l4 N4) ∧ m = 9 * 8796093022208 + 70) ∨
   (key = 6013 ∧ ps = .z ((N1 : Int) + (k : Int)) :: .z (k : Int) :: [.z (N0 : Int), .z (N1 : Int), .z (N2 : Int), .z (N3 : Int), .z (N4 : Int), .ll l0, .ll l1, .ll l2, .ll l3, .ll l4] ∧ 1 ≤ k ∧ k ≤ 64 ∧ (aRow 100000 l0 N0 ∧ aRow 200000 l1 N1 ∧ aRow 300000 l2 N2 ∧ aRow 400000 l3 N3 ∧ aRow 500000 l4 N4) ∧ m = 9 * 8796093022208 + (65 - k)) ∨
   (key = 2013 ∧ ps = .z (N2 : Int) :: .z 0 :: [.z (N0 : Int), .z (N1 : Int), .z (N2 : Int), .z (N3 : Int), .z (N4 : Int), .ll l0, .ll l1, .ll l2, .ll l3, .ll l4] ∧ (aRow 100000 l0 N0 ∧ aRow 200000 l1 N1 ∧ aRow 300000 l2 N2 ∧ aRow 400000 l3 N3 ∧ aRow 500000 l4 N4) ∧ m = 8 * 8796093022208 + 70) ∨
   (key = 7013 ∧ ps = .z ((N2 : Int) + (k : Int)) :: .z (k : Int) :: [.z (N0 : Int), .z (N1 : Int), .z (N2 : Int), .z (N3 : Int), .z (N4 : Int), .ll l0, .ll l1, .ll l2, .ll l3, .ll l4] ∧ 1 ≤ k ∧ k ≤ 64 ∧ (aRow 100000 l0 N0 ∧ aRow 200000 l1 N1 ∧ aRow 300000 l2 N2 ∧ aRow 400000 l3 N3 ∧ aRow 500000 l4 N4) ∧ m = 8 * 8796093022208 + (65 - k)) ∨
   (key = 3013 ∧ ps = .z (N3 : Int) :: .z 0 :: [.z (N0 : Int), .z (N1 : Int), .z (N2 : Int), .z (N3 : Int), .z (N4 : Int), .ll l0, .ll l1, .ll l2, .ll l3, .ll l4] ∧ (aRow 100000 l0 N0 ∧ aRow 200000 l1 N1 ∧ aRow 300000 l2 N2 ∧ aRow 400000 l3 N3 ∧ aRow 500000 l4 N4) ∧ m = 7 * 8796093022208 + 70) ∨
   (key = 8013 ∧ ps = .z ((N3 : Int) + (k : Int)) :: .z (k : Int) :: [.z (N0 : Int), .z (N1 : Int), .z (N2 : Int), .z (N3 : Int), .z (N4 : Int), .ll l0, .ll l1, .ll l2, .ll l3, .ll l4] ∧ 1 ≤ k ∧ k ≤ 64 ∧ (aRow 100000 l0 N0 ∧ aRow 200000 l1 N1 ∧ aRow 300000 l2 N2 ∧ aRow 400000 l3 N3 ∧ aRow 500000 l4 N4) ∧ m = 7 * 8796093022208 + (65 - k)) ∨
   (key = 4013 ∧ ps = .z (N4 : Int) :: .z 0 :: [.z (N0 : Int), .z (N1 : Int), .z (N2 : Int), .z (N3 : Int), .z (N4 : Int), .ll l0, .ll l1, .ll l2, .ll l3, .ll l4] ∧ (aRow 100000 l0 N0 ∧ aRow 200000 l1 N1 ∧ aRow 300000 l2 N2 ∧ aRow 400000 l3 N3 ∧ aRow 500000 l4 N4) ∧ m = 6 * 8796093022208 + 70) ∨
   (key = 9013 ∧ ps = .z ((N4 : Int) + (k : Int)) :: .z (k : Int) :: [.z (N0 : Int), .z (N1 : Int), .z (N2 : Int), .z (N3 : Int), .z (N4 : Int), .ll l0, .ll l1, .ll l2, .ll l3, .ll l4] ∧ 1 ≤ k ∧ k ≤ 64 ∧ (aRow 100000 l0 N0 ∧ aRow 200000 l1 N1 ∧ aRow 300000 l2 N2 ∧ aRow 400000 l3 N3 ∧ aRow 500000 l4 N4) ∧ m = 6 * 8796093022208 + (65 - k)) ∨
   (key = 21 ∧ ps = .z (k : Int) :: [.z (N0 : Int), .z (N1 : Int), .z (N2 : Int), .z (N3 : Int), .z (N4 : Int), .ll l0, .ll l1, .ll l2, .ll l3, .ll l4] ∧ k ≤ N0 ∧ (aRow 100000 l0 N0 ∧ aRow 200000 l1 N1 ∧ aRow 300000 l2 N2 ∧ aRow 400000 l3 N3 ∧ aRow 500000 l4 N4) ∧ m = 5 * 8796093022208 + (N0 - k)) ∨
   (key = 1021 ∧ ps = .z (k : Int) :: [.z (N0 : Int), .z (N1 : Int), .z (N2 : Int), .z (N3 : Int), .z (N4 : Int), .ll l0, .ll l1, .ll l2, .ll l3, .ll l4] ∧ k ≤ N1 ∧ (aRow 100000 l0 N0 ∧ aRow 200000 l1 N1 ∧ aRow 300000 l2 N2 ∧ aRow 400000 l3 N3 ∧ aRow 500000 l4 N4) ∧ m = 4 * 8796093022208 + (N1 - k)) ∨
   (key = 2021 ∧ ps = .z (k : Int) :: [.z (N0 : Int), .z (N1 : Int), .z (N2 : Int), .z (N3 : Int), .z (N4 : Int), .ll l0, .ll l1, .ll l2, .ll l3, .ll l4] ∧ k ≤ N2 ∧ (aRow 100000 l0 N0 ∧ aRow 200000 l1 N1 ∧ aRow 300000 l2 N2 ∧ aRow 400000 l3 N3 ∧ aRow 500000 l4 N4) ∧ m = 3 * 8796093022208 + (N2 - k)) ∨
   (key = 3021 ∧ ps = .z (k : Int) :: [.z (N0 : Int), .z (N1 : Int), .z (N2 : Int), .z (N3 : Int), .z (N4 : Int), .ll l0, .ll l1, .ll l2, .ll l3, .ll l4] ∧ k ≤ N3 ∧ (aRow 100000 l0 N0 ∧ aRow 200000 l1 N1 ∧ aRow 300000 l2 N2 ∧ aRow 400000 l3 N3 ∧ aRow 500000 l4 N4) ∧ m = 2 * 8796093022208 + (N3 - k)) ∨
   (key = 4021 ∧ ps = .z (k : Int) :: [.z (N0 : Int), .z (N1 : Int), .z (N2 : Int), .z (N3 : Int), .z (N4 : Int), .ll l0, .ll l1, .ll l2, .ll l3, .ll l4] ∧ k ≤ N4 ∧ (aRow 100000 l0 N0 ∧ aRow 200000 l1 N1 ∧ aRow 300000 l2 N2 ∧ aRow 400000 l3 N3 ∧ aRow 500000 l4 N4) ∧ m = 1 * 8796093022208 + (N4 - k)))

def apart5S : List Int → List (List (List Int)) → Option (List Prop × SV)
  | [n0, n1, n2, n3, n4], [l0, l1, l2, l3, l4] => some ([ap5 n0 n1 n2 n3 n4 l0 l1 l2 l3 l4], .b true true)
  | _, _ => none
theorem mem50v {vk : Nat} {t : St} (ht : (vk, t) ∈ L50v) (q : Nat) (t' : St) (h1 : assoc L50v q = some t') (h2 : vk = q) : t = t' := by
  subst h2
  have := asc_mem (L := L50v) (show List.Nodup [5, 1005, 2005, 3005, 4005, 13, 1013, 2013, 3013, 4013, 5013, 6013, 7013, 8013, 9013, 21, 1021, 2021, 3021, 4021] by decide) ht
  rw [this] at h1
  exact Option.some.inj h1
theorem nx1 {j : Nat} (hj : j ≤ 4398046510976) : IntKind.i64.wrap ((j : Int) + 1) = ((j + 1 : Nat) : Int) := by rw [wrap_i64 (by omega)]; omega
/-- What the loops hand on. -/
def nx50v (N0 N1 N2 N3 N4 m : Nat) (key' : Nat) (ps' : List Pv) : Prop := ∃ m', m' < m ∧ inv50v N0 N1 N2 N3 N4 key' ps' m'
theorem go_a0 {N0 N1 N2 N3 N4 : Nat} (hN0 : N0 ≤ 4398046510976) (hN1 : N1 ≤ 4398046510976) (hN2 : N2 ≤ 4398046510976) (hN3 : N3 ≤ 4398046510976) (hN4 : N4 ≤ 4398046510976) {K : SV → Prop} (hK : K (.b true true)) {k : Nat} {l0 l1 l2 l3 l4 : List (List Int)} (h0 : l0.length = N0) (h1 : l1.length = N1) (h2 : l2.length = N2) (h3 : l3.length = N3) (h4 : l4.length = N4) (hk : k ≤ N0) (hd : True) (hr : aRow 100000 l0 k) : lc50va0 (k : Int) (N0 : Int) (N1 : Int) (N2 : Int) (N3 : Int) (N4 : Int) l0 l1 l2 l3 l4 K (nx50v N0 N1 N2 N3 N4 (15 * 8796093022208 + (N0 - k))) := by
    rw [lc50va0_eq]
    refine ⟨fun h => ?_, fun h => ?_⟩
    · have h := of_decide_eq_true h
      intro x1 e1 _ x2 e2 _
      rw [wrap_i64 (by omega)] at e1
      rw [e1, wrap_u64' (by omega)] at e2
      refine ⟨need_of (by omega), need_of (by omega), fun x3 e3 _ x4 e4 _ => ⟨rfl, 15 * 8796093022208 + (N0 - (k + 1)), by omega, k + 1, x3, l1, l2, l3, l4, (by rw [e3]; simpa using h0), h1, h2, h3, h4, .inl ⟨rfl, ?_, by omega, trivial, ?_, rfl⟩⟩⟩
      · rw [e4, nx1 (by omega)]
      · rw [e3, Int.toNat_natCast]
        exact aRow_set hr (by omega) e2
    · have h := of_decide_eq_false h
      have hkN : k = N0 := by omega
      subst hkN
      exact ⟨rfl, 14 * 8796093022208 + (N1 - 0), by omega, 0, l0, l1, l2, l3, l4, h0, h1, h2, h3, h4, .inr (.inl ⟨rfl, rfl, Nat.zero_le _, hr, aRow_zero _ _, rfl⟩)⟩
theorem go_a1 {N0 N1 N2 N3 N4 : Nat} (hN0 : N0 ≤ 4398046510976) (hN1 : N1 ≤ 4398046510976) (hN2 : N2 ≤ 4398046510976) (hN3 : N3 ≤ 4398046510976) (hN4 : N4 ≤ 4398046510976) {K : SV → Prop} (hK : K (.b true true)) {k : Nat} {l0 l1 l2 l3 l4 : List (List Int)} (h0 : l0.length = N0) (h1 : l1.length = N1) (h2 : l2.length = N2) (h3 : l3.length = N3) (h4 : l4.length = N4) (hk : k ≤ N1) (hd : aRow 100000 l0 N0) (hr : aRow 200000 l1 k) : lc50va1 (k : Int) (N0 : Int) (N1 : Int) (N2 : Int) (N3 : Int) (N4 : Int) l0 l1 l2 l3 l4 K (nx50v N0 N1 N2 N3 N4 (14 * 8796093022208 + (N1 - k))) := by
    rw [lc50va1_eq]
    refine ⟨fun h => ?_, fun h => ?_⟩
    · have h := of_decide_eq_true h
      intro x1 e1 _ x2 e2 _
      rw [wrap_i64 (by omega)] at e1
      rw [e1, wrap_u64' (by omega)] at e2
      refine ⟨need_of (by omega), need_of (by omega), fun x3 e3 _ x4 e4 _ => ⟨rfl, 14 * 8796093022208 + (N1 - (k + 1)), by omega, k + 1, l0, x3, l2, l3, l4, h0, (by rw [e3]; simpa using h1), h2, h3, h4, .inr (.inl ⟨rfl, ?_, by omega, hd, ?_, rfl⟩)⟩⟩
      · rw [e4, nx1 (by omega)]
      · rw [e3, Int.toNat_natCast]
        exact aRow_set hr (by omega) e2
    · have h := of_decide_eq_false h
      have hkN : k = N1 := by omega
      subst hkN
      exact ⟨rfl, 13 * 8796093022208 + (N2 - 0), by omega, 0, l0, l1, l2, l3, l4, h0, h1, h2, h3, h4, .inr (.inr (.inl ⟨rfl, rfl, Nat.zero_le _, ⟨hd, hr⟩, aRow_zero _ _, rfl⟩))⟩
theorem go_a2 {N0 N1 N2 N3 N4 : Nat} (hN0 : N0 ≤ 4398046510976) (hN1 : N1 ≤ 4398046510976) (hN2 : N2 ≤ 4398046510976) (hN3 : N3 ≤ 4398046510976) (hN4 : N4 ≤ 4398046510976) {K : SV → Prop} (hK : K (.b true true)) {k : Nat} {l0 l1 l2 l3 l4 : List (List Int)} (h0 : l0.length = N0) (h1 : l1.length = N1) (h2 : l2.length = N2) (h3 : l3.length = N3) (h4 : l4.length = N4) (hk : k ≤ N2) (hd : aRow 100000 l0 N0 ∧ aRow 200000 l1 N1) (hr : aRow 300000 l2 k) : lc50va2 (k : Int) (N0 : Int) (N1 : Int) (N2 : Int) (N3 : Int) (N4 : Int) l0 l1 l2 l3 l4 K (nx50v N0 N1 N2 N3 N4 (13 * 8796093022208 + (N2 - k))) := by
    rw [lc50va2_eq]
    refine ⟨fun h => ?_, fun h => ?_⟩
    · have h := of_decide_eq_true h
      intro x1 e1 _ x2 e2 _
      rw [wrap_i64 (by omega)] at e1
      rw [e1, wrap_u64' (by omega)] at e2
      refine ⟨need_of (by omega), need_of (by omega), fun x3 e3 _ x4 e4 _ => ⟨rfl, 13 * 8796093022208 + (N2 - (k + 1)), by omega, k + 1, l0, l1, x3, l3, l4, h0, h1, (by rw [e3]; simpa using h2), h3, h4, .inr (.inr (.inl ⟨rfl, ?_, by omega, hd, ?_, rfl⟩))⟩⟩
      · rw [e4, nx1 (by omega)]
      · rw [e3, Int.toNat_natCast]
        exact aRow_set hr (by omega) e2
    · have h := of_decide_eq_false h
      have hkN : k = N2 := by omega
      subst hkN
      exact ⟨rfl, 12 * 8796093022208 + (N3 - 0), by omega, 0, l0, l1, l2, l3, l4, h0, h1, h2, h3, h4, .inr (.inr (.inr (.inl ⟨rfl, rfl, Nat.zero_le _, ⟨hd.1, hd.2, hr⟩, aRow_zero _ _, rfl⟩)))⟩
theorem go_a3 {N0 N1 N2 N3 N4 : Nat} (hN0 : N0 ≤ 4398046510976) (hN1 : N1 ≤ 4398046510976) (hN2 : N2 ≤ 4398046510976) (hN3 : N3 ≤ 4398046510976) (hN4 : N4 ≤ 4398046510976) {K : SV → Prop} (hK : K (.b true true)) {k : Nat} {l0 l1 l2 l3 l4 : List (List Int)} (h0 : l0.length = N0) (h1 : l1.length = N1) (h2 : l2.length = N2) (h3 : l3.length = N3) (h4 : l4.length = N4) (hk : k ≤ N3) (hd : aRow 100000 l0 N0 ∧ aRow 200000 l1 N1 ∧ aRow 300000 l2 N2) (hr : aRow 400000 l3 k) : lc50va3 (k : Int) (N0 : Int) (N1 : Int) (N2 : Int) (N3 : Int) (N4 : Int) l0 l1 l2 l3 l4 K (nx50v N0 N1 N2 N3 N4 (12 * 8796093022208 + (N3 - k))) := by
    rw [lc50va3_eq]
    refine ⟨fun h => ?_, fun h => ?_⟩
    · have h := of_decide_eq_true h
      intro x1 e1 _ x2 e2 _
      rw [wrap_i64 (by omega)] at e1
      rw [e1, wrap_u64' (by omega)] at e2
      refine ⟨need_of (by omega), need_of (by omega), fun x3 e3 _ x4 e4 _ => ⟨rfl, 12 * 8796093022208 + (N3 - (k + 1)), by omega, k + 1, l0, l1, l2, x3, l4, h0, h1, h2, (by rw [e3]; simpa using h3), h4, .inr (.inr (.inr (.inl ⟨rfl, ?_, by omega, hd, ?_, rfl⟩)))⟩⟩
      · rw [e4, nx1 (by omega)]
      · rw [e3, Int.toNat_natCast]
        exact aRow_set hr (by omega) e2
    · have h := of_decide_eq_false h
      have hkN : k = N3 := by omega
      subst hkN
      exact ⟨rfl, 11 * 8796093022208 + (N4 - 0), by omega, 0, l0, l1, l2, l3, l4, h0, h1, h2, h3, h4, .inr (.inr (.inr (.inr (.inl ⟨rfl, rfl, Nat.zero_le _, ⟨hd.1, hd.2.1, hd.2.2, hr⟩, aRow_zero _ _, rfl⟩))))⟩
theorem go_a4 {N0 N1 N2 N3 N4 : Nat} (hN0 : N0 ≤ 4398046510976) (hN1 : N1 ≤ 4398046510976) (hN2 : N2 ≤ 4398046510976) (hN3 : N3 ≤ 4398046510976) (hN4 : N4 ≤ 4398046510976) {K : SV → Prop} (hK : K (.b true true)) {k : Nat} {l0 l1 l2 l3 l4 : List (List Int)} (h0 : l0.length = N0) (h1 : l1.length = N1) (h2 : l2.length = N2) (h3 : l3.length = N3) (h4 : l4.length = N4) (hk : k ≤ N4) (hd : aRow 100000 l0 N0 ∧ aRow 200000 l1 N1 ∧ aRow 300000 l2 N2 ∧ aRow 400000 l3 N3) (hr : aRow 500000 l4 k) : lc50va4 (k : Int) (N0 : Int) (N1 : Int) (N2 : Int) (N3 : Int) (N4 : Int) l0 l1 l2 l3 l4 K (nx50v N0 N1 N2 N3 N4 (11 * 8796093022208 + (N4 - k))) := by
    rw [lc50va4_eq]
    refine ⟨fun h => ?_, fun h => ?_⟩
    · have h := of_decide_eq_true h
      intro x1 e1 _ x2 e2 _
      rw [wrap_i64 (by omega)] at e1
      rw [e1, wrap_u64' (by omega)] at e2
      refine ⟨need_of (by omega), need_of (by omega), fun x3 e3 _ x4 e4 _ => ⟨rfl, 11 * 8796093022208 + (N4 - (k + 1)), by omega, k + 1, l0, l1, l2, l3, x3, h0, h1, h2, h3, (by rw [e3]; simpa using h4), .inr (.inr (.inr (.inr (.inl ⟨rfl, ?_, by omega, hd, ?_, rfl⟩))))⟩⟩
      · rw [e4, nx1 (by omega)]
      · rw [e3, Int.toNat_natCast]
        exact aRow_set hr (by omega) e2
    · have h := of_decide_eq_false h
      have hkN : k = N4 := by omega
      subst hkN
      exact ⟨rfl, 10 * 8796093022208 + 70, by omega, 0, l0, l1, l2, l3, l4, h0, h1, h2, h3, h4, .inr (.inr (.inr (.inr (.inr (.inl ⟨rfl, rfl, ⟨hd.1, hd.2.1, hd.2.2.1, hd.2.2.2, hr⟩, rfl⟩)))))⟩
theorem go_b0 {N0 N1 N2 N3 N4 : Nat} (hN0 : N0 ≤ 4398046510976) (hN1 : N1 ≤ 4398046510976) (hN2 : N2 ≤ 4398046510976) (hN3 : N3 ≤ 4398046510976) (hN4 : N4 ≤ 4398046510976) {K : SV → Prop} (hK : K (.b true true)) {k : Nat} {l0 l1 l2 l3 l4 : List (List Int)} (h0 : l0.length = N0) (h1 : l1.length = N1) (h2 : l2.length = N2) (h3 : l3.length = N3) (h4 : l4.length = N4) (hd : aRow 100000 l0 N0 ∧ aRow 200000 l1 N1 ∧ aRow 300000 l2 N2 ∧ aRow 400000 l3 N3 ∧ aRow 500000 l4 N4) : lc50vb0 (N0 : Int) 0 (N0 : Int) (N1 : Int) (N2 : Int) (N3 : Int) (N4 : Int) l0 l1 l2 l3 l4 K (nx50v N0 N1 N2 N3 N4 (10 * 8796093022208 + 70)) := by
    rw [lc50vb0_eq]
    refine ⟨fun _ => ⟨need_of (by omega), need_of (by omega), need_of (by omega), fun x1 e1 _ _ x2 e2 _ => ⟨rfl, 10 * 8796093022208 + (65 - 1), by omega, 1, l0, l1, l2, l3, l4, h0, h1, h2, h3, h4, .inr (.inr (.inr (.inr (.inr (.inr (.inl ⟨rfl, ?_, by omega, by omega, hd, rfl⟩))))))⟩⟩, fun h => by have := of_decide_eq_false h; omega⟩
    rw [wrap_i64 (by omega)] at e2
    rw [e1, e2]; rfl
theorem go_c0 {N0 N1 N2 N3 N4 : Nat} (hN0 : N0 ≤ 4398046510976) (hN1 : N1 ≤ 4398046510976) (hN2 : N2 ≤ 4398046510976) (hN3 : N3 ≤ 4398046510976) (hN4 : N4 ≤ 4398046510976) {K : SV → Prop} (hK : K (.b true true)) {k : Nat} {l0 l1 l2 l3 l4 : List (List Int)} (h0 : l0.length = N0) (h1 : l1.length = N1) (h2 : l2.length = N2) (h3 : l3.length = N3) (h4 : l4.length = N4) (hk1 : 1 ≤ k) (hk64 : k ≤ 64) (hd : aRow 100000 l0 N0 ∧ aRow 200000 l1 N1 ∧ aRow 300000 l2 N2 ∧ aRow 400000 l3 N3 ∧ aRow 500000 l4 N4) : lc50vc0 ((N0 : Int) + (k : Int)) (k : Int) (N0 : Int) (N1 : Int) (N2 : Int) (N3 : Int) (N4 : Int) l0 l1 l2 l3 l4 K (nx50v N0 N1 N2 N3 N4 (10 * 8796093022208 + (65 - k))) := by
    rw [lc50vc0_eq]
    refine ⟨fun h => ?_, fun h => ?_⟩
    · have h := of_decide_eq_true h
      refine ⟨need_of (by omega), need_of (by omega), need_of (by omega), fun x1 e1 _ _ x2 e2 _ => ⟨rfl, 10 * 8796093022208 + (65 - (k + 1)), by omega, k + 1, l0, l1, l2, l3, l4, h0, h1, h2, h3, h4, .inr (.inr (.inr (.inr (.inr (.inr (.inl ⟨rfl, ?_, by omega, by omega, hd, rfl⟩))))))⟩⟩
      rw [nx1 (by omega)] at e2
      rw [e1, e2, show (N0 : Int) + (k : Int) + 1 = (N0 : Int) + ((k + 1 : Nat) : Int) by omega]
    · have h := of_decide_eq_false h
      intro x3 e3 _
      rw [wrap_i64 (by omega)] at e3
      refine ⟨need_of (by omega), need_of (by omega), rfl, 9 * 8796093022208 + 70, by omega, 0, l0, l1, l2, l3, l4, h0, h1, h2, h3, h4, .inr (.inr (.inr (.inr (.inr (.inr (.inr (.inl ⟨rfl, ?_, hd, rfl⟩)))))))⟩
      rfl
theorem go_b1 {N0 N1 N2 N3 N4 : Nat} (hN0 : N0 ≤ 4398046510976) (hN1 : N1 ≤ 4398046510976) (hN2 : N2 ≤ 4398046510976) (hN3 : N3 ≤ 4398046510976) (hN4 : N4 ≤ 4398046510976) {K : SV → Prop} (hK : K (.b true true)) {k : Nat} {l0 l1 l2 l3 l4 : List (List Int)} (h0 : l0.length = N0) (h1 : l1.length = N1) (h2 : l2.length = N2) (h3 : l3.length = N3) (h4 : l4.length = N4) (hd : aRow 100000 l0 N0 ∧ aRow 200000 l1 N1 ∧ aRow 300000 l2 N2 ∧ aRow 400000 l3 N3 ∧ aRow 500000 l4 N4) : lc50vb1 (N1 : Int) 0 (N0 : Int) (N1 : Int) (N2 : Int) (N3 : Int) (N4 : Int) l0 l1 l2 l3 l4 K (nx50v N0 N1 N2 N3 N4 (9 * 8796093022208 + 70)) := by
    rw [lc50vb1_eq]
    refine ⟨fun _ => ⟨need_of (by omega), need_of (by omega), need_of (by omega), fun x1 e1 _ _ x2 e2 _ => ⟨rfl, 9 * 8796093022208 + (65 - 1), by omega, 1, l0, l1, l2, l3, l4, h0, h1, h2, h3, h4, .inr (.inr (.inr (.inr (.inr (.inr (.inr (.inr (.inl ⟨rfl, ?_, by omega, by omega, hd, rfl⟩))))))))⟩⟩, fun h => by have := of_decide_eq_false h; omega⟩
    rw [wrap_i64 (by omega)] at e2
    rw [e1, e2]; rfl
theorem go_c1 {N0 N1 N2 N3 N4 : Nat} (hN0 : N0 ≤ 4398046510976) (hN1 : N1 ≤ 4398046510976) (hN2 : N2 ≤ 4398046510976) (hN3 : N3 ≤ 4398046510976) (hN4 : N4 ≤ 4398046510976) {K : SV → Prop} (hK : K (.b true true)) {k : Nat} {l0 l1 l2 l3 l4 : List (List Int)} (h0 : l0.length = N0) (h1 : l1.length = N1) (h2 : l2.length = N2) (h3 : l3.length = N3) (h4 : l4.length = N4) (hk1 : 1 ≤ k) (hk64 : k ≤ 64) (hd : aRow 100000 l0 N0 ∧ aRow 200000 l1 N1 ∧ aRow 300000 l2 N2 ∧ aRow 400000 l3 N3 ∧ aRow 500000 l4 N4) : lc50vc1 ((N1 : Int) + (k : Int)) (k : Int) (N0 : Int) (N1 : Int) (N2 : Int) (N3 : Int) (N4 : Int) l0 l1 l2 l3 l4 K (nx50v N0 N1 N2 N3 N4 (9 * 8796093022208 + (65 - k))) := by
    rw [lc50vc1_eq]
    refine ⟨fun h => ?_, fun h => ?_⟩
    · have h := of_decide_eq_true h
      refine ⟨need_of (by omega), need_of (by omega), need_of (by omega), fun x1 e1 _ _ x2 e2 _ => ⟨rfl, 9 * 8796093022208 + (65 - (k + 1)), by omega, k + 1, l0, l1, l2, l3, l4, h0, h1, h2, h3, h4, .inr (.inr (.inr (.inr (.inr (.inr (.inr (.inr (.inl ⟨rfl, ?_, by omega, by omega, hd, rfl⟩))))))))⟩⟩
      rw [nx1 (by omega)] at e2
      rw [e1, e2, show (N1 : Int) + (k : Int) + 1 = (N1 : Int) + ((k + 1 : Nat) : Int) by omega]
    · have h := of_decide_eq_false h
      intro x3 e3 _
      rw [wrap_i64 (by omega)] at e3
      refine ⟨need_of (by omega), need_of (by omega), rfl, 8 * 8796093022208 + 70, by omega, 0, l0, l1, l2, l3, l4, h0, h1, h2, h3, h4, .inr (.inr (.inr (.inr (.inr (.inr (.inr (.inr (.inr (.inl ⟨rfl, ?_, hd, rfl⟩)))))))))⟩
      rfl
theorem go_b2 {N0 N1 N2 N3 N4 : Nat} (hN0 : N0 ≤ 4398046510976) (hN1 : N1 ≤ 4398046510976) (hN2 : N2 ≤ 4398046510976) (hN3 : N3 ≤ 4398046510976) (hN4 : N4 ≤ 4398046510976) {K : SV → Prop} (hK : K (.b true true)) {k : Nat} {l0 l1 l2 l3 l4 : List (List Int)} (h0 : l0.length = N0) (h1 : l1.length = N1) (h2 : l2.length = N2) (h3 : l3.length = N3) (h4 : l4.length = N4) (hd : aRow 100000 l0 N0 ∧ aRow 200000 l1 N1 ∧ aRow 300000 l2 N2 ∧ aRow 400000 l3 N3 ∧ aRow 500000 l4 N4) : lc50vb2 (N2 : Int) 0 (N0 : Int) (N1 : Int) (N2 : Int) (N3 : Int) (N4 : Int) l0 l1 l2 l3 l4 K (nx50v N0 N1 N2 N3 N4 (8 * 8796093022208 + 70)) := by
    rw [lc50vb2_eq]
    refine ⟨fun _ => ⟨need_of (by omega), need_of (by omega), need_of (by omega), fun x1 e1 _ _ x2 e2 _ => ⟨rfl, 8 * 8796093022208 + (65 - 1), by omega, 1, l0, l1, l2, l3, l4, h0, h1, h2, h3, h4, .inr (.inr (.inr (.inr (.inr (.inr (.inr (.inr (.inr (.inr (.inl ⟨rfl, ?_, by omega, by omega, hd, rfl⟩))))))))))⟩⟩, fun h => by have := of_decide_eq_false h; omega⟩
    rw [wrap_i64 (by omega)] at e2
    rw [e1, e2]; rfl
theorem go_c2 {N0 N1 N2 N3 N4 : Nat} (hN0 : N0 ≤ 4398046510976) (hN1 : N1 ≤ 4398046510976) (hN2 : N2 ≤ 4398046510976) (hN3 : N3 ≤ 4398046510976) (hN4 : N4 ≤ 4398046510976) {K : SV → Prop} (hK : K (.b true true)) {k : Nat} {l0 l1 l2 l3 l4 : List (List Int)} (h0 : l0.length = N0) (h1 : l1.length = N1) (h2 : l2.length = N2) (h3 : l3.length = N3) (h4 : l4.length = N4) (hk1 : 1 ≤ k) (hk64 : k ≤ 64) (hd : aRow 100000 l0 N0 ∧ aRow 200000 l1 N1 ∧ aRow 300000 l2 N2 ∧ aRow 400000 l3 N3 ∧ aRow 500000 l4 N4) : lc50vc2 ((N2 : Int) + (k : Int)) (k : Int) (N0 : Int) (N1 : Int) (N2 : Int) (N3 : Int) (N4 : Int) l0 l1 l2 l3 l4 K (nx50v N0 N1 N2 N3 N4 (8 * 8796093022208 + (65 - k))) := by
    rw [lc50vc2_eq]
    refine ⟨fun h => ?_, fun h => ?_⟩
    · have h := of_decide_eq_true h
      refine ⟨need_of (by omega), need_of (by omega), need_of (by omega), fun x1 e1 _ _ x2 e2 _ => ⟨rfl, 8 * 8796093022208 + (65 - (k + 1)), by omega, k + 1, l0, l1, l2, l3, l4, h0, h1, h2, h3, h4, .inr (.inr (.inr (.inr (.inr (.inr (.inr (.inr (.inr (.inr (.inl ⟨rfl, ?_, by omega, by omega, hd, rfl⟩))))))))))⟩⟩
      rw [nx1 (by omega)] at e2
      rw [e1, e2, show (N2 : Int) + (k : Int) + 1 = (N2 : Int) + ((k + 1 : Nat) : Int) by omega]
    · have h := of_decide_eq_false h
      intro x3 e3 _
      rw [wrap_i64 (by omega)] at e3
      refine ⟨need_of (by omega), need_of (by omega), rfl, 7 * 8796093022208 + 70, by omega, 0, l0, l1, l2, l3, l4, h0, h1, h2, h3, h4, .inr (.inr (.inr (.inr (.inr (.inr (.inr (.inr (.inr (.inr (.inr (.inl ⟨rfl, ?_, hd, rfl⟩)))))))))))⟩
      rfl
theorem go_b3 {N0 N1 N2 N3 N4 : Nat} (hN0 : N0 ≤ 4398046510976) (hN1 : N1 ≤ 4398046510976) (hN2 : N2 ≤ 4398046510976) (hN3 : N3 ≤ 4398046510976) (hN4 : N4 ≤ 4398046510976) {K : SV → Prop} (hK : K (.b true true)) {k : Nat} {l0 l1 l2 l3 l4 : List (List Int)} (h0 : l0.length = N0) (h1 : l1.length = N1) (h2 : l2.length = N2) (h3 : l3.length = N3) (h4 : l4.length = N4) (hd : aRow 100000 l0 N0 ∧ aRow 200000 l1 N1 ∧ aRow 300000 l2 N2 ∧ aRow 400000 l3 N3 ∧ aRow 500000 l4 N4) : lc50vb3 (N3 : Int) 0 (N0 : Int) (N1 : Int) (N2 : Int) (N3 : Int) (N4 : Int) l0 l1 l2 l3 l4 K (nx50v N0 N1 N2 N3 N4 (7 * 8796093022208 + 70)) := by
    rw [lc50vb3_eq]
    refine ⟨fun _ => ⟨need_of (by omega), need_of (by omega), need_of (by omega), fun x1 e1 _ _ x2 e2 _ => ⟨rfl, 7 * 8796093022208 + (65 - 1), by omega, 1, l0, l1, l2, l3, l4, h0, h1, h2, h3, h4, .inr (.inr (.inr (.inr (.inr (.inr (.inr (.inr (.inr (.inr (.inr (.inr (.inl ⟨rfl, ?_, by omega, by omega, hd, rfl⟩))))))))))))⟩⟩, fun h => by have := of_decide_eq_false h; omega⟩
    rw [wrap_i64 (by omega)] at e2
    rw [e1, e2]; rfl
theorem go_c3 {N0 N1 N2 N3 N4 : Nat} (hN0 : N0 ≤ 4398046510976) (hN1 : N1 ≤ 4398046510976) (hN2 : N2 ≤ 4398046510976) (hN3 : N3 ≤ 4398046510976) (hN4 : N4 ≤ 4398046510976) {K : SV → Prop} (hK : K (.b true true)) {k : Nat} {l0 l1 l2 l3 l4 : List (List Int)} (h0 : l0.length = N0) (h1 : l1.length = N1) (h2 : l2.length = N2) (h3 : l3.length = N3) (h4 : l4.length = N4) (hk1 : 1 ≤ k) (hk64 : k ≤ 64) (hd : aRow 100000 l0 N0 ∧ aRow 200000 l1 N1 ∧ aRow 300000 l2 N2 ∧ aRow 400000 l3 N3 ∧ aRow 500000 l4 N4) : lc50vc3 ((N3 : Int) + (k : Int)) (k : Int) (N0 : Int) (N1 : Int) (N2 : Int) (N3 : Int) (N4 : Int) l0 l1 l2 l3 l4 K (nx50v N0 N1 N2 N3 N4 (7 * 8796093022208 + (65 - k))) := by
    rw [lc50vc3_eq]
    refine ⟨fun h => ?_, fun h => ?_⟩
    · have h := of_decide_eq_true h
      refine ⟨need_of (by omega), need_of (by omega), need_of (by omega), fun x1 e1 _ _ x2 e2 _ => ⟨rfl, 7 * 8796093022208 + (65 - (k + 1)), by omega, k + 1, l0, l1, l2, l3, l4, h0, h1, h2, h3, h4, .inr (.inr (.inr (.inr (.inr (.inr (.inr (.inr (.inr (.inr (.inr (.inr (.inl ⟨rfl, ?_, by omega, by omega, hd, rfl⟩))))))))))))⟩⟩
      rw [nx1 (by omega)] at e2
      rw [e1, e2, show (N3 : Int) + (k : Int) + 1 = (N3 : Int) + ((k + 1 : Nat) : Int) by omega]
    · have h := of_decide_eq_false h
      intro x3 e3 _
      rw [wrap_i64 (by omega)] at e3
      refine ⟨need_of (by omega), need_of (by omega), rfl, 6 * 8796093022208 + 70, by omega, 0, l0, l1, l2, l3, l4, h0, h1, h2, h3, h4, .inr (.inr (.inr (.inr (.inr (.inr (.inr (.inr (.inr (.inr (.inr (.inr (.inr (.inl ⟨rfl, ?_, hd, rfl⟩)))))))))))))⟩
      rfl
theorem go_b4 {N0 N1 N2 N3 N4 : Nat} (hN0 : N0 ≤ 4398046510976) (hN1 : N1 ≤ 4398046510976) (hN2 : N2 ≤ 4398046510976) (hN3 : N3 ≤ 4398046510976) (hN4 : N4 ≤ 4398046510976) {K : SV → Prop} (hK : K (.b true true)) {k : Nat} {l0 l1 l2 l3 l4 : List (List Int)} (h0 : l0.length = N0) (h1 : l1.length = N1) (h2 : l2.length = N2) (h3 : l3.length = N3) (h4 : l4.length = N4) (hd : aRow 100000 l0 N0 ∧ aRow 200000 l1 N1 ∧ aRow 300000 l2 N2 ∧ aRow 400000 l3 N3 ∧ aRow 500000 l4 N4) : lc50vb4 (N4 : Int) 0 (N0 : Int) (N1 : Int) (N2 : Int) (N3 : Int) (N4 : Int) l0 l1 l2 l3 l4 K (nx50v N0 N1 N2 N3 N4 (6 * 8796093022208 + 70)) := by
    rw [lc50vb4_eq]
    refine ⟨fun _ => ⟨need_of (by omega), need_of (by omega), need_of (by omega), fun x1 e1 _ _ x2 e2 _ => ⟨rfl, 6 * 8796093022208 + (65 - 1), by omega, 1, l0, l1, l2, l3, l4, h0, h1, h2, h3, h4, .inr (.inr (.inr (.inr (.inr (.inr (.inr (.inr (.inr (.inr (.inr (.inr (.inr (.inr (.inl ⟨rfl, ?_, by omega, by omega, hd, rfl⟩))))))))))))))⟩⟩, fun h => by have := of_decide_eq_false h; omega⟩
    rw [wrap_i64 (by omega)] at e2
    rw [e1, e2]; rfl
theorem go_c4 {N0 N1 N2 N3 N4 : Nat} (hN0 : N0 ≤ 4398046510976) (hN1 : N1 ≤ 4398046510976) (hN2 : N2 ≤ 4398046510976) (hN3 : N3 ≤ 4398046510976) (hN4 : N4 ≤ 4398046510976) {K : SV → Prop} (hK : K (.b true true)) {k : Nat} {l0 l1 l2 l3 l4 : List (List Int)} (h0 : l0.length = N0) (h1 : l1.length = N1) (h2 : l2.length = N2) (h3 : l3.length = N3) (h4 : l4.length = N4) (hk1 : 1 ≤ k) (hk64 : k ≤ 64) (hd : aRow 100000 l0 N0 ∧ aRow 200000 l1 N1 ∧ aRow 300000 l2 N2 ∧ aRow 400000 l3 N3 ∧ aRow 500000 l4 N4) : lc50vc4 ((N4 : Int) + (k : Int)) (k : Int) (N0 : Int) (N1 : Int) (N2 : Int) (N3 : Int) (N4 : Int) l0 l1 l2 l3 l4 K (nx50v N0 N1 N2 N3 N4 (6 * 8796093022208 + (65 - k))) := by
    rw [lc50vc4_eq]
    refine ⟨fun h => ?_, fun h => ?_⟩
    · have h := of_decide_eq_true h
      refine ⟨need_of (by omega), need_of (by omega), need_of (by omega), fun x1 e1 _ _ x2 e2 _ => ⟨rfl, 6 * 8796093022208 + (65 - (k + 1)), by omega, k + 1, l0, l1, l2, l3, l4, h0, h1, h2, h3, h4, .inr (.inr (.inr (.inr (.inr (.inr (.inr (.inr (.inr (.inr (.inr (.inr (.inr (.inr (.inl ⟨rfl, ?_, by omega, by omega, hd, rfl⟩))))))))))))))⟩⟩
      rw [nx1 (by omega)] at e2
      rw [e1, e2, show (N4 : Int) + (k : Int) + 1 = (N4 : Int) + ((k + 1 : Nat) : Int) by omega]
    · have h := of_decide_eq_false h
      intro x3 e3 _
      rw [wrap_i64 (by omega)] at e3
      refine ⟨need_of (by omega), need_of (by omega), rfl, 5 * 8796093022208 + (N0 - 0), by omega, 0, l0, l1, l2, l3, l4, h0, h1, h2, h3, h4, .inr (.inr (.inr (.inr (.inr (.inr (.inr (.inr (.inr (.inr (.inr (.inr (.inr (.inr (.inr (.inl ⟨rfl, ?_, Nat.zero_le _, hd, rfl⟩)))))))))))))))⟩
      rfl
theorem go_d0 {N0 N1 N2 N3 N4 : Nat} (hN0 : N0 ≤ 4398046510976) (hN1 : N1 ≤ 4398046510976) (hN2 : N2 ≤ 4398046510976) (hN3 : N3 ≤ 4398046510976) (hN4 : N4 ≤ 4398046510976) {K : SV → Prop} (hK : K (.b true true)) {k : Nat} {l0 l1 l2 l3 l4 : List (List Int)} (h0 : l0.length = N0) (h1 : l1.length = N1) (h2 : l2.length = N2) (h3 : l3.length = N3) (h4 : l4.length = N4) (hk : k ≤ N0) (hd : aRow 100000 l0 N0 ∧ aRow 200000 l1 N1 ∧ aRow 300000 l2 N2 ∧ aRow 400000 l3 N3 ∧ aRow 500000 l4 N4) : lc50vd0 (k : Int) (N0 : Int) (N1 : Int) (N2 : Int) (N3 : Int) (N4 : Int) l0 l1 l2 l3 l4 K (nx50v N0 N1 N2 N3 N4 (5 * 8796093022208 + (N0 - k))) := by
    rw [lc50vd0_eq]
    refine ⟨fun h => ?_, fun h => ?_⟩
    · have h := of_decide_eq_true h
      refine ⟨need_of (by omega), need_of (by omega), ?_⟩
      have hv := hd.1 k (by omega)
      rw [Int.toNat_natCast, hv]
      intro x1 e1 _ x2 e2 _ x3 e3 _ x4 e4 _ x5 e5 _ x6 e6 _
      rw [wrap_i64 (by omega)] at e5
      rw [e5, wrap_u64' (by omega)] at e6
      have hx : [x1, x2, x3, x4] = [x6, 0, 0, 0] := by rw [e1, e2, e3, e4, e6]; rfl
      refine ⟨fun hne => ?_, fun _ x7 e7 _ => ⟨rfl, 5 * 8796093022208 + (N0 - (k + 1)), by omega, k + 1, l0, l1, l2, l3, l4, h0, h1, h2, h3, h4, .inr (.inr (.inr (.inr (.inr (.inr (.inr (.inr (.inr (.inr (.inr (.inr (.inr (.inr (.inr (.inl ⟨rfl, ?_, by omega, hd, rfl⟩)))))))))))))))⟩⟩
      · rw [hx] at hne; simp at hne
      · rw [e7, nx1 (by omega)]
    · exact ⟨rfl, 4 * 8796093022208 + (N1 - 0), by omega, 0, l0, l1, l2, l3, l4, h0, h1, h2, h3, h4, .inr (.inr (.inr (.inr (.inr (.inr (.inr (.inr (.inr (.inr (.inr (.inr (.inr (.inr (.inr (.inr (.inl ⟨rfl, rfl, Nat.zero_le _, hd, rfl⟩))))))))))))))))⟩
theorem go_d1 {N0 N1 N2 N3 N4 : Nat} (hN0 : N0 ≤ 4398046510976) (hN1 : N1 ≤ 4398046510976) (hN2 : N2 ≤ 4398046510976) (hN3 : N3 ≤ 4398046510976) (hN4 : N4 ≤ 4398046510976) {K : SV → Prop} (hK : K (.b true true)) {k : Nat} {l0 l1 l2 l3 l4 : List (List Int)} (h0 : l0.length = N0) (h1 : l1.length = N1) (h2 : l2.length = N2) (h3 : l3.length = N3) (h4 : l4.length = N4) (hk : k ≤ N1) (hd : aRow 100000 l0 N0 ∧ aRow 200000 l1 N1 ∧ aRow 300000 l2 N2 ∧ aRow 400000 l3 N3 ∧ aRow 500000 l4 N4) : lc50vd1 (k : Int) (N0 : Int) (N1 : Int) (N2 : Int) (N3 : Int) (N4 : Int) l0 l1 l2 l3 l4 K (nx50v N0 N1 N2 N3 N4 (4 * 8796093022208 + (N1 - k))) := by
    rw [lc50vd1_eq]
    refine ⟨fun h => ?_, fun h => ?_⟩
    · have h := of_decide_eq_true h
      refine ⟨need_of (by omega), need_of (by omega), ?_⟩
      have hv := hd.2.1 k (by omega)
      rw [Int.toNat_natCast, hv]
      intro x1 e1 _ x2 e2 _ x3 e3 _ x4 e4 _ x5 e5 _ x6 e6 _
      rw [wrap_i64 (by omega)] at e5
      rw [e5, wrap_u64' (by omega)] at e6
      have hx : [x1, x2, x3, x4] = [x6, 0, 0, 0] := by rw [e1, e2, e3, e4, e6]; rfl
      refine ⟨fun hne => ?_, fun _ x7 e7 _ => ⟨rfl, 4 * 8796093022208 + (N1 - (k + 1)), by omega, k + 1, l0, l1, l2, l3, l4, h0, h1, h2, h3, h4, .inr (.inr (.inr (.inr (.inr (.inr (.inr (.inr (.inr (.inr (.inr (.inr (.inr (.inr (.inr (.inr (.inl ⟨rfl, ?_, by omega, hd, rfl⟩))))))))))))))))⟩⟩
      · rw [hx] at hne; simp at hne
      · rw [e7, nx1 (by omega)]
    · exact ⟨rfl, 3 * 8796093022208 + (N2 - 0), by omega, 0, l0, l1, l2, l3, l4, h0, h1, h2, h3, h4, .inr (.inr (.inr (.inr (.inr (.inr (.inr (.inr (.inr (.inr (.inr (.inr (.inr (.inr (.inr (.inr (.inr (.inl ⟨rfl, rfl, Nat.zero_le _, hd, rfl⟩)))))))))))))))))⟩
theorem go_d2 {N0 N1 N2 N3 N4 : Nat} (hN0 : N0 ≤ 4398046510976) (hN1 : N1 ≤ 4398046510976) (hN2 : N2 ≤ 4398046510976) (hN3 : N3 ≤ 4398046510976) (hN4 : N4 ≤ 4398046510976) {K : SV → Prop} (hK : K (.b true true)) {k : Nat} {l0 l1 l2 l3 l4 : List (List Int)} (h0 : l0.length = N0) (h1 : l1.length = N1) (h2 : l2.length = N2) (h3 : l3.length = N3) (h4 : l4.length = N4) (hk : k ≤ N2) (hd : aRow 100000 l0 N0 ∧ aRow 200000 l1 N1 ∧ aRow 300000 l2 N2 ∧ aRow 400000 l3 N3 ∧ aRow 500000 l4 N4) : lc50vd2 (k : Int) (N0 : Int) (N1 : Int) (N2 : Int) (N3 : Int) (N4 : Int) l0 l1 l2 l3 l4 K (nx50v N0 N1 N2 N3 N4 (3 * 8796093022208 + (N2 - k))) := by
    rw [lc50vd2_eq]
    refine ⟨fun h => ?_, fun h => ?_⟩
    · have h := of_decide_eq_true h
      refine ⟨need_of (by omega), need_of (by omega), ?_⟩
      have hv := hd.2.2.1 k (by omega)
      rw [Int.toNat_natCast, hv]
      intro x1 e1 _ x2 e2 _ x3 e3 _ x4 e4 _ x5 e5 _ x6 e6 _
      rw [wrap_i64 (by omega)] at e5
      rw [e5, wrap_u64' (by omega)] at e6
      have hx : [x1, x2, x3, x4] = [x6, 0, 0, 0] := by rw [e1, e2, e3, e4, e6]; rfl
      refine ⟨fun hne => ?_, fun _ x7 e7 _ => ⟨rfl, 3 * 8796093022208 + (N2 - (k + 1)), by omega, k + 1, l0, l1, l2, l3, l4, h0, h1, h2, h3, h4, .inr (.inr (.inr (.inr (.inr (.inr (.inr (.inr (.inr (.inr (.inr (.inr (.inr (.inr (.inr (.inr (.inr (.inl ⟨rfl, ?_, by omega, hd, rfl⟩)))))))))))))))))⟩⟩
      · rw [hx] at hne; simp at hne
      · rw [e7, nx1 (by omega)]
    · exact ⟨rfl, 2 * 8796093022208 + (N3 - 0), by omega, 0, l0, l1, l2, l3, l4, h0, h1, h2, h3, h4, .inr (.inr (.inr (.inr (.inr (.inr (.inr (.inr (.inr (.inr (.inr (.inr (.inr (.inr (.inr (.inr (.inr (.inr (.inl ⟨rfl, rfl, Nat.zero_le _, hd, rfl⟩))))))))))))))))))⟩
theorem go_d3 {N0 N1 N2 N3 N4 : Nat} (hN0 : N0 ≤ 4398046510976) (hN1 : N1 ≤ 4398046510976) (hN2 : N2 ≤ 4398046510976) (hN3 : N3 ≤ 4398046510976) (hN4 : N4 ≤ 4398046510976) {K : SV → Prop} (hK : K (.b true true)) {k : Nat} {l0 l1 l2 l3 l4 : List (List Int)} (h0 : l0.length = N0) (h1 : l1.length = N1) (h2 : l2.length = N2) (h3 : l3.length = N3) (h4 : l4.length = N4) (hk : k ≤ N3) (hd : aRow 100000 l0 N0 ∧ aRow 200000 l1 N1 ∧ aRow 300000 l2 N2 ∧ aRow 400000 l3 N3 ∧ aRow 500000 l4 N4) : lc50vd3 (k : Int) (N0 : Int) (N1 : Int) (N2 : Int) (N3 : Int) (N4 : Int) l0 l1 l2 l3 l4 K (nx50v N0 N1 N2 N3 N4 (2 * 8796093022208 + (N3 - k))) := by
    rw [lc50vd3_eq]
    refine ⟨fun h => ?_, fun h => ?_⟩
    · have h := of_decide_eq_true h
      refine ⟨need_of (by omega), need_of (by omega), ?_⟩
      have hv := hd.2.2.2.1 k (by omega)
      rw [Int.toNat_natCast, hv]
      intro x1 e1 _ x2 e2 _ x3 e3 _ x4 e4 _ x5 e5 _ x6 e6 _
      rw [wrap_i64 (by omega)] at e5
      rw [e5, wrap_u64' (by omega)] at e6
      have hx : [x1, x2, x3, x4] = [x6, 0, 0, 0] := by rw [e1, e2, e3, e4, e6]; rfl
      refine ⟨fun hne => ?_, fun _ x7 e7 _ => ⟨rfl, 2 * 8796093022208 + (N3 - (k + 1)), by omega, k + 1, l0, l1, l2, l3, l4, h0, h1, h2, h3, h4, .inr (.inr (.inr (.inr (.inr (.inr (.inr (.inr (.inr (.inr (.inr (.inr (.inr (.inr (.inr (.inr (.inr (.inr (.inl ⟨rfl, ?_, by omega, hd, rfl⟩))))))))))))))))))⟩⟩
      · rw [hx] at hne; simp at hne
      · rw [e7, nx1 (by omega)]
    · exact ⟨rfl, 1 * 8796093022208 + (N4 - 0), by omega, 0, l0, l1, l2, l3, l4, h0, h1, h2, h3, h4, .inr (.inr (.inr (.inr (.inr (.inr (.inr (.inr (.inr (.inr (.inr (.inr (.inr (.inr (.inr (.inr (.inr (.inr (.inr (⟨rfl, rfl, Nat.zero_le _, hd, rfl⟩)))))))))))))))))))⟩
theorem go_d4 {N0 N1 N2 N3 N4 : Nat} (hN0 : N0 ≤ 4398046510976) (hN1 : N1 ≤ 4398046510976) (hN2 : N2 ≤ 4398046510976) (hN3 : N3 ≤ 4398046510976) (hN4 : N4 ≤ 4398046510976) {K : SV → Prop} (hK : K (.b true true)) {k : Nat} {l0 l1 l2 l3 l4 : List (List Int)} (h0 : l0.length = N0) (h1 : l1.length = N1) (h2 : l2.length = N2) (h3 : l3.length = N3) (h4 : l4.length = N4) (hk : k ≤ N4) (hd : aRow 100000 l0 N0 ∧ aRow 200000 l1 N1 ∧ aRow 300000 l2 N2 ∧ aRow 400000 l3 N3 ∧ aRow 500000 l4 N4) : lc50vd4 (k : Int) (N0 : Int) (N1 : Int) (N2 : Int) (N3 : Int) (N4 : Int) l0 l1 l2 l3 l4 K (nx50v N0 N1 N2 N3 N4 (1 * 8796093022208 + (N4 - k))) := by
    rw [lc50vd4_eq]
    refine ⟨fun h => ?_, fun h => ?_⟩
    · have h := of_decide_eq_true h
      refine ⟨need_of (by omega), need_of (by omega), ?_⟩
      have hv := hd.2.2.2.2 k (by omega)
      rw [Int.toNat_natCast, hv]
      intro x1 e1 _ x2 e2 _ x3 e3 _ x4 e4 _ x5 e5 _ x6 e6 _
      rw [wrap_i64 (by omega)] at e5
      rw [e5, wrap_u64' (by omega)] at e6
      have hx : [x1, x2, x3, x4] = [x6, 0, 0, 0] := by rw [e1, e2, e3, e4, e6]; rfl
      refine ⟨fun hne => ?_, fun _ x7 e7 _ => ⟨rfl, 1 * 8796093022208 + (N4 - (k + 1)), by omega, k + 1, l0, l1, l2, l3, l4, h0, h1, h2, h3, h4, .inr (.inr (.inr (.inr (.inr (.inr (.inr (.inr (.inr (.inr (.inr (.inr (.inr (.inr (.inr (.inr (.inr (.inr (.inr (⟨rfl, ?_, by omega, hd, rfl⟩)))))))))))))))))))⟩⟩
      · rw [hx] at hne; simp at hne
      · rw [e7, nx1 (by omega)]
    · exact hK
set_option maxHeartbeats 8000000 in
theorem loop50v {N0 N1 N2 N3 N4 : Nat} (hN0 : N0 ≤ 4398046510976) (hN1 : N1 ≤ 4398046510976) (hN2 : N2 ≤ 4398046510976) (hN3 : N3 ≤ 4398046510976) (hN4 : N4 ≤ 4398046510976) {K : SV → Prop} (hK : K (.b true true)) {vk : Nat} {t : St} {ps : List Pv} {m : Nat} (ht : (vk, t) ∈ L50v) (hi : inv50v N0 N1 N2 N3 N4 vk ps m) :
    runLoop Γ0b Tryd.f50 (loopKeysM L50v) (vk % 1000) (instSt t ps) (fun x _ => K x) (handM L50v (nx50v N0 N1 N2 N3 N4 m)) := by
  obtain ⟨k, l0, l1, l2, l3, l4, h0, h1, h2, h3, h4, hc⟩ := hi
  rcases hc with ⟨rfl, rfl, hk, hd, hr, rfl⟩ | ⟨rfl, rfl, hk, hd, hr, rfl⟩ | ⟨rfl, rfl, hk, hd, hr, rfl⟩ | ⟨rfl, rfl, hk, hd, hr, rfl⟩ | ⟨rfl, rfl, hk, hd, hr, rfl⟩ | ⟨rfl, rfl, hd, rfl⟩ | ⟨rfl, rfl, hk1, hk64, hd, rfl⟩ | ⟨rfl, rfl, hd, rfl⟩ | ⟨rfl, rfl, hk1, hk64, hd, rfl⟩ | ⟨rfl, rfl, hd, rfl⟩ | ⟨rfl, rfl, hk1, hk64, hd, rfl⟩ | ⟨rfl, rfl, hd, rfl⟩ | ⟨rfl, rfl, hk1, hk64, hd, rfl⟩ | ⟨rfl, rfl, hd, rfl⟩ | ⟨rfl, rfl, hk1, hk64, hd, rfl⟩ | ⟨rfl, rfl, hk, hd, rfl⟩ | ⟨rfl, rfl, hk, hd, rfl⟩ | ⟨rfl, rfl, hk, hd, rfl⟩ | ⟨rfl, rfl, hk, hd, rfl⟩ | ⟨rfl, rfl, hk, hd, rfl⟩
  · rw [mem50v ht 5 _ rfl rfl]
    exact go_a0 hN0 hN1 hN2 hN3 hN4 hK h0 h1 h2 h3 h4 hk hd hr
  · rw [mem50v ht 1005 _ rfl rfl]
    exact go_a1 hN0 hN1 hN2 hN3 hN4 hK h0 h1 h2 h3 h4 hk hd hr
  · rw [mem50v ht 2005 _ rfl rfl]
    exact go_a2 hN0 hN1 hN2 hN3 hN4 hK h0 h1 h2 h3 h4 hk hd hr
  · rw [mem50v ht 3005 _ rfl rfl]
    exact go_a3 hN0 hN1 hN2 hN3 hN4 hK h0 h1 h2 h3 h4 hk hd hr
  · rw [mem50v ht 4005 _ rfl rfl]
    exact go_a4 hN0 hN1 hN2 hN3 hN4 hK h0 h1 h2 h3 h4 hk hd hr
  · rw [mem50v ht 13 _ rfl rfl]
    exact go_b0 (k := 0) hN0 hN1 hN2 hN3 hN4 hK h0 h1 h2 h3 h4 hd
  · rw [mem50v ht 5013 _ rfl rfl]
    exact go_c0 hN0 hN1 hN2 hN3 hN4 hK h0 h1 h2 h3 h4 hk1 hk64 hd
  · rw [mem50v ht 1013 _ rfl rfl]
    exact go_b1 (k := 0) hN0 hN1 hN2 hN3 hN4 hK h0 h1 h2 h3 h4 hd
  · rw [mem50v ht 6013 _ rfl rfl]
    exact go_c1 hN0 hN1 hN2 hN3 hN4 hK h0 h1 h2 h3 h4 hk1 hk64 hd
  · rw [mem50v ht 2013 _ rfl rfl]
    exact go_b2 (k := 0) hN0 hN1 hN2 hN3 hN4 hK h0 h1 h2 h3 h4 hd
  · rw [mem50v ht 7013 _ rfl rfl]
    exact go_c2 hN0 hN1 hN2 hN3 hN4 hK h0 h1 h2 h3 h4 hk1 hk64 hd
  · rw [mem50v ht 3013 _ rfl rfl]
    exact go_b3 (k := 0) hN0 hN1 hN2 hN3 hN4 hK h0 h1 h2 h3 h4 hd
  · rw [mem50v ht 8013 _ rfl rfl]
    exact go_c3 hN0 hN1 hN2 hN3 hN4 hK h0 h1 h2 h3 h4 hk1 hk64 hd
  · rw [mem50v ht 4013 _ rfl rfl]
    exact go_b4 (k := 0) hN0 hN1 hN2 hN3 hN4 hK h0 h1 h2 h3 h4 hd
  · rw [mem50v ht 9013 _ rfl rfl]
    exact go_c4 hN0 hN1 hN2 hN3 hN4 hK h0 h1 h2 h3 h4 hk1 hk64 hd
  · rw [mem50v ht 21 _ rfl rfl]
    exact go_d0 hN0 hN1 hN2 hN3 hN4 hK h0 h1 h2 h3 h4 hk hd
  · rw [mem50v ht 1021 _ rfl rfl]
    exact go_d1 hN0 hN1 hN2 hN3 hN4 hK h0 h1 h2 h3 h4 hk hd
  · rw [mem50v ht 2021 _ rfl rfl]
    exact go_d2 hN0 hN1 hN2 hN3 hN4 hK h0 h1 h2 h3 h4 hk hd
  · rw [mem50v ht 3021 _ rfl rfl]
    exact go_d3 hN0 hN1 hN2 hN3 hN4 hK h0 h1 h2 h3 h4 hk hd
  · rw [mem50v ht 4021 _ rfl rfl]
    exact go_d4 hN0 hN1 hN2 hN3 hN4 hK h0 h1 h2 h3 h4 hk hd
theorem apart5_nil : CallOk Tryd.prog [] 50 (apart5Ctr .u64 4 apart5S) := by
  refine call_apart5 (Γ := Γ0b) (fn := Tryd.f50) Γ0b_ok rfl rfl rfl (by kernel_rfl) (by kernel_rfl) .u64 4 apart5S fun n0 n1 n2 n3 n4 l0 l1 l2 l3 l4 p y hsp hp => ?_
  simp only [apart5S, Option.some.injEq, Prod.mk.injEq] at hsp
  obtain ⟨rfl, rfl⟩ := hsp
  obtain ⟨a0, a1, a2, a3, a4, b0, b1, b2, b3, b4⟩ : ap5 n0 n1 n2 n3 n4 l0 l1 l2 l3 l4 := hp.1
  subst a0 a1 a2 a3 a4
  refine ⟨L50v, inv50v l0.length l1.length l2.length l3.length l4.length, Nat.le_of_ble_eq_true (by kernel_rfl), ?_, ?_, ?_⟩
  · intro k t ht g hg
    have hg : g ∈ [601, 700, 701, 702, 703, 704] := hg
    simp only [L50v, List.mem_cons, List.not_mem_nil, or_false, Prod.mk.injEq] at ht hg
    rcases hg with rfl | rfl | rfl | rfl | rfl | rfl <;> rcases ht with ⟨rfl, rfl⟩ | ⟨rfl, rfl⟩ | ⟨rfl, rfl⟩ | ⟨rfl, rfl⟩ | ⟨rfl, rfl⟩ | ⟨rfl, rfl⟩ | ⟨rfl, rfl⟩ | ⟨rfl, rfl⟩ | ⟨rfl, rfl⟩ | ⟨rfl, rfl⟩ | ⟨rfl, rfl⟩ | ⟨rfl, rfl⟩ | ⟨rfl, rfl⟩ | ⟨rfl, rfl⟩ | ⟨rfl, rfl⟩ | ⟨rfl, rfl⟩ | ⟨rfl, rfl⟩ | ⟨rfl, rfl⟩ | ⟨rfl, rfl⟩ | ⟨rfl, rfl⟩ <;> exact ⟨by omega, rfl⟩
  · intro vk t ps m ht hi
    exact loop50v b0 b1 b2 b3 b4 (K := fun x => eqV x (.b true true)) (by simp [eqV]) ht hi
  · show vc50v _ _ _ _ _ l0 l1 l2 l3 l4 (fun x => eqV x (.b true true)) _
    rw [vc50v_eq]
    exact ⟨rfl, _, 0, l0, l1, l2, l3, l4, rfl, rfl, rfl, rfl, rfl, .inl ⟨rfl, rfl, Nat.zero_le _, trivial, aRow_zero _ _, rfl⟩⟩
theorem apart5_ok : CallOk Tryd.prog gh 50 (apart5Ctr .u64 4 apart5S) :=
  fun stamp args H rs rs' d vs w0 M ρ w _ h1 h2 h3 h4 => apart5_nil stamp args H rs rs' d vs w0 M ρ w (by intro g b hgb; cases hgb) h1 h2 h3 h4
end Go.Gx

/- The table with the wide numbers, and rows of scalars. -/
namespace Go.Gx
open Go.Proofs Go.Sp
def Γ18t : Tab := ⟨tys, (50, apart5Ctr .u64 4 apart5S) :: Γ18.ctr, [0], gh⟩
theorem Γ18t_ok : TabOk Tryd.prog Γ18t := Γ18_ok.cons apart5_ok
end Go.Gx
