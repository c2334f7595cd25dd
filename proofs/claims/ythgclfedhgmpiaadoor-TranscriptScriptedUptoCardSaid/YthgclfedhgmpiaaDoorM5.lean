/- Part 5 of the proof: the evaluator of the code, its soundness, and what it shows of the functions. -/
import Derived.Test.YthgclfedhgmpiaaDoorM4
import Derived.Laws.Strings

/- Contracts in general: that they hold. -/
namespace Go.Gx
open Go.RowKit
set_option linter.unusedVariables false

section
variable {P : Program} {Γ : Tab} {w0 : World} {M : Nat → Prop} {ρ : Nat → Pl} {H : Nat → Option SB} {w : World}

theorem ones_D {dm : Nat → Prop} : ∀ (l : List Seg) (xs : List SV) (cs : List Value), onesOf l = some xs → SegsD dm ρ l cs → Ds dm ρ xs cs ∧ (∀ v ∈ cs, v.cells = #[v]) ∧ cs.length = xs.length
 | [], xs, cs, h, hd => by
  simp only [onesOf, Option.some.injEq] at h; subst h
  rw [show cs = [] from hd]
  exact ⟨rfl, (fun v hv => by cases hv), rfl⟩
 | .one x :: r, xs, cs, h, hd => by
  simp only [onesOf] at h
  split at h
  ·rename_i ys hy
   simp only [Option.some.injEq] at h; subst h
   obtain ⟨c1, c2, ⟨h1, v, hv, rfl⟩, rfl, h3⟩ := hd
   obtain ⟨q1, q2, q3⟩ := ones_D r ys c2 hy h3
   refine ⟨⟨v, c2, hv, rfl, q1⟩, fun u hu => ?_, by simp [q3]⟩
   simp only [List.cons_append, List.nil_append, List.mem_cons] at hu
   rcases hu with rfl | hu
   ·exact (single_cell h1 hv).2
   ·exact q2 u hu
  ·cases h
 | .arr .. :: r, xs, cs, h, hd => by simp [onesOf] at h
 | .rowI .. :: r, xs, cs, h, hd => by simp [onesOf] at h
 | .rowA .. :: r, xs, cs, h, hd => by simp [onesOf] at h
 | .rowH .. :: r, xs, cs, h, hd => by simp [onesOf] at h
 | .rowP .. :: r, xs, cs, h, hd => by simp [onesOf] at h
 | .rowD .. :: r, xs, cs, h, hd => by simp [onesOf] at h

theorem eachRO_sound {R : RO → Value → Prop} {g : SV → (List Prop → RO → RP Delta) → RP Delta} (hg : ∀ (x : SV) (v : Value) (f : List Prop → RO → RP Delta) (d : Delta) (rs rs' : List Nat), D (dmOf H) ρ x v → (g x f).run H rs = some (d, rs') → ∃ p q rs1, (f p q).run H rs1 = some (d, rs') ∧ (AllP p → R q v)) :
  ∀ (xs : List SV) (vs : List Value) (f : List Prop → List RO → RP Delta) (d : Delta) (rs rs' : List Nat), Ds (dmOf H) ρ xs vs → (∀ v ∈ vs, v.cells = #[v]) → (eachRO g xs f).run H rs = some (d, rs') →
   ∃ p ds rs1, (f p ds).run H rs1 = some (d, rs') ∧ (AllP p → ChainR R ds vs) ∧ ds.length = xs.length
 | [], vs, f, d, rs, rs', hd, h1, h => ⟨[], [], rs, h, fun _ => hd, rfl⟩
 | x :: r, vs, f, d, rs, rs', hd, h1, h => by
  simp only [Ds] at hd
  obtain ⟨v, c, hx, rfl, hr⟩ := hd
  simp only [eachRO] at h
  obtain ⟨p, q, rs1, a1, a2⟩ := hg x v _ d rs rs' hx h
  obtain ⟨p', ds, rs2, b1, b2, b3⟩ := eachRO_sound hg r c _ d rs1 rs' hr (fun u hu => h1 u (by simp [hu])) a1
  refine ⟨p ++ p', q :: ds, rs2, b1, fun hp => ?_, by simp [b3]⟩
  obtain ⟨hp1, hp2⟩ := AllP.append (l := p) (r := p') hp
  exact ⟨v, c, a2 hp1, by rw [h1 v (by simp)]; rfl, b2 hp2⟩

structure BanOk (w0 : World) (M : Nat → Prop) (ρ : Nat → Pl) (H : Nat → Option SB) (w : World) (ban : List Nat) (M' : Nat → Prop) : Prop where
 own : ∀ key ro l, memN key ban = false → H key = some (.segs ro l) → 0 < (ρ key).cap → ¬ M' (ρ key).blk
 old : ∀ b, b < w0.heap.size → ¬ M b → ¬ M' b
 poolD : ∀ key (k : PK) ms i c, k.rcd = false → (k.deep = true → memN key ban = false) → H key = some (.pool k ms) → i < ms.length → OwnB w (ρ key) k i c → ¬ M' c

theorem BanOk.pool {w0 : World} {M : Nat → Prop} {ρ : Nat → Pl} {H : Nat → Option SB} {w : World} {ban : List Nat} {M' : Nat → Prop} (h : BanOk w0 M ρ H w ban M') (key : Nat) (k : IntKind) (ms : List (List Int)) (i : Nat) (h1 : H key = some (.pool k ms)) (h2 : i < ms.length) (h3 : 0 < (ρ key).pc i) : ¬ M' ((ρ key).pb i) := h.poolD key k ms i _ rfl (fun e => by cases e) h1 h2 (.pb h3)

theorem BanOk.keeps {ban : List Nat} {M' : Nat → Prop} (hB : BanOk w0 M ρ H w ban M') (hm : Mem w0 M ρ H w) : Keeps w0 w (OutB w0 M) (OutB w M') := fun b hb =>
 ⟨⟨Nat.lt_of_lt_of_le hb.1 hm.frame.size, hB.old b hb.1 hb.2⟩, hm.frame.block b hb.1 hb.2⟩

theorem dat_rel (hm : Mem w0 M ρ H w) {ban : List Nat} {M' : Nat → Prop} (hB : BanOk w0 M ρ H w ban M') {F : Nat} (hF : H F = some .world ∨ ∃ zs, H F = some (.pool .z zs) ∧ memN F ban = false) {sh : Sh} {d : RO} {v : Value} (h : (ρ F).rel sh d v) : RoD w (OutB w M') sh d v := by
 rcases hF with hF | ⟨zs, hF, hban⟩
 ·rw [hm.view F hF] at h
  exact RoD.mono (hB.keeps hm) _ _ _ h
 ·have hP := hm.pools.pool F _ zs hF
  obtain ⟨wF, e1, e2⟩ := hP.fzD rfl
  rw [e1] at h
  refine RoD.mono (fun b hb => ⟨?_, e2 b hb⟩) _ _ _ h
  obtain ⟨i, hi, hc, rfl⟩ := hb
  rw [hP.cnt] at hi
  exact ⟨hP.lt i hi hc, hB.poolD F _ zs i _ rfl (fun _ => hban) hF hi (.pb hc)⟩

theorem datRO_sound (hm : Mem w0 M ρ H w) {ban : List Nat} {M' : Nat → Prop} (hB : BanOk w0 M ρ H w ban M') {key c est : Nat} (hban : memN key ban = false) {off len : SI} {v : Value} (hx : D (dmOf H) ρ (.sl key c est off len) v) {fs : List Sh}
  {f : List Prop → RO → RP Delta} {d : Delta} {rs rs' : List Nat} (h : (datRO ban key c est off len fs f).run H rs = some (d, rs')) :
  ∃ p q rs1, (f p q).run H rs1 = some (d, rs') ∧ (AllP p → RoD w (OutB w M') (.l (.r fs)) q v) := by
 unfold datRO at h
 simp only [RP.run] at h
 split at h
 ·rename_i ro F sh ds hkey
  split at h
  ·rename_i hb
   simp only [Bool.and_eq_true] at hb
   obtain ⟨⟨⟨b1, b2⟩, b3⟩, b4⟩ := hb
   have b1 := shEq_eq _ _ b1
   have b2 := Nat.eq_of_beq_eq_true b2
   have b3 := Nat.eq_of_beq_eq_true b3
   have b4 : 0 < est := by simp [Nat.blt] at b4; omega
   subst b1 b2
   have fin : (H F = some .world ∨ ∃ zs, H F = some (.pool .z zs) ∧ memN F ban = false) → off.z = 0 → len.z = (ds.length : Int) → RoD w (OutB w M') (.l (.r fs)) (.r ds) v := fun hF ho hl => by
    simp only [D] at hx
    obtain ⟨_, _, _, hr, ad, cap, rfl, hlc, hdis⟩ := hx
    obtain ⟨vs, h1, h2, h3, _⟩ := hm.segs hkey
    obtain ⟨c1, c2, e1, rfl, e3⟩ := h1
    have e4 : c2 = [] := e3
    subst e4
    simp only [List.append_nil] at h2 h3
    obtain ⟨q1, q2, q3, q4, q5, q6⟩ := e1
    have hln : len.z.toNat = ds.length := by omega
    have er : roX (.r ds) = ds := rfl
    simp only [RoD, InR] at hr ⊢
    rw [er, hln]
    rw [hln] at hlc
    refine ⟨ad, cap, c1, rfl, hlc, by omega, ChainR.mono (fun x v hx => ?_) _ _ q3, ?_⟩
    ·have := dat_rel hm hB hF hx
     simpa only [RoD] using this
    ·rcases hdis with ⟨rfl, hcap⟩ | ⟨hz, hc0⟩
     ·rcases Nat.eq_zero_or_pos cap with h0 | h0
      ·exact .inr ⟨by omega, h0⟩
      ·have hpos : 0 < est * cap := Nat.mul_pos b4 h0
       have hcp : 0 < (ρ key).cap := by omega
       refine .inl ⟨(ρ key).blk, (ρ key).off, by simp [at_, ho], ⟨hm.heap.lt key ro _ hkey hcp, hB.own key ro _ hban hkey hcp⟩, h3⟩
     ·exact .inr ⟨by omega, hc0⟩
   simp only [RP.run] at h
   split at h
   ·rename_i hF
    exact ⟨_, _, _, h, fun hp => fin (.inl hF) hp.1 hp.2.1⟩
   ·rename_i zs hF
    split at h
    ·simp [RP.run] at h
    ·rename_i hbF
     exact ⟨_, _, _, h, fun hp => fin (.inr ⟨zs, hF, hbF⟩) hp.1 hp.2.1⟩
   ·simp [RP.run] at h
  ·simp [RP.run] at h
 ·simp [RP.run] at h

theorem ps_ro (hm : Mem w0 M ρ H w) {ban : List Nat} {M' : Nat → Prop} (hB : BanOk w0 M ρ H w ban M') {key r : Nat} {k : IntKind} {ms : List (List Int)} (hkey : H key = some (.pool k ms)) {len : SI} {v : Value} (hx : D (dmOf H) ρ (.ps key r len) v) (hle : len.z ≤ ((ms.getD r []).length : Int)) :
  RoD w (OutB w M') (.ints k) (.l ((ms.getD r []).take len.z.toNat)) v := by
 simp only [D] at hx
 obtain ⟨hk, hrp, hl, hr, ad, cap, rfl, hlc, hdis⟩ := hx
 have hP := hm.pools.pool key k ms hkey
 have hrl : r < ms.length := by rw [← hP.cnt]; exact hrp
 have hrm : ms[r]? = some (ms.getD r []) := by rw [List.getD_eq_getElem?_getD, List.getElem?_eq_getElem hrl]; rfl
 obtain ⟨a1, a2, a3, a4⟩ := hP.rowk r _ hrm
 have hll : ((ms.getD r []).take len.z.toNat).length = len.z.toNat := by rw [List.length_take]; omega
 simp only [RoD, InR] at hr ⊢
 have er : roL (.l ((ms.getD r []).take len.z.toNat)) = (ms.getD r []).take len.z.toNat := rfl
 rw [er, hll]
 refine ⟨ad, cap, rfl, hlc, by omega, fun z hz => a1 z (List.mem_of_mem_take hz), ?_⟩
 rcases hdis with ⟨rfl, hcap⟩ | ⟨q1, q2⟩
 ·rcases Nat.eq_zero_or_pos cap with h0 | h0
  ·exact .inr ⟨by omega, h0⟩
  ·have hcp : 0 < (ρ key).pc r := by omega
   refine .inl ⟨_, _, rfl, ⟨hP.lt r hrl hcp, hB.pool key k ms r hkey hrl hcp⟩, fun j u hu => ?_⟩
   rw [List.map_take, List.getElem?_take] at hu
   split at hu
   ·exact a3 j u hu
   ·cases hu
 ·exact .inr ⟨by omega, q2⟩

theorem hdrs_chain (hm : Mem w0 M ρ H w) {ban : List Nat} {M' : Nat → Prop} (hB : BanOk w0 M ρ H w ban M') {pk : Nat} {k : IntKind} {ms : List (List Int)} (hkey : H pk = some (.pool k ms)) : ∀ (hs : List (Nat × Nat)) (cs : List Value), HdrsD (dmOf H) ρ pk hs cs →
  (∀ h ∈ hs, h.2 ≤ (ms.getD h.1 []).length) → ChainR (RoD w (OutB w M') (.ints k)) (hs.map fun h => .l ((ms.getD h.1 []).take h.2)) cs
 | [], cs, h, _ => h
 | x :: t, cs, h, hl => by
  obtain ⟨v, c, h1, rfl, h3⟩ := h
  refine ⟨v, c, ?_, ?_, hdrs_chain hm hB hkey t c h3 fun y hy => hl y (by simp [hy])⟩
  ·have := ps_ro hm hB hkey h1 (by have := hl x (by simp); simp only; omega)
   simpa using this
  ·rw [(single_cell rfl h1).2]; rfl

theorem hdr_ro (hm : Mem w0 M ρ H w) {ban : List Nat} {M' : Nat → Prop} (hB : BanOk w0 M ρ H w ban M') {key pk : Nat} {ro : Bool} {hs : List (Nat × Nat)} {k : IntKind} (hban : memN key ban = false) (hkey : H key = some (.segs ro [.rowH pk hs])) {off len : SI} {v : Value} (hx : D (dmOf H) ρ (.sl key 0 1 off len) v)
  {f : List Prop → RO → RP Delta} {d : Delta} {rs rs' : List Nat} (h : (hdrRO k off len pk hs f).run H rs = some (d, rs')) :
  ∃ p q rs1, (f p q).run H rs1 = some (d, rs') ∧ (AllP p → RoD w (OutB w M') (.l (.ints k)) q v) := by
 unfold hdrRO at h
 simp only [RP.run] at h
 split at h
 ·rename_i k' ms hpk
  split at h
  ·rename_i hkk
   have hkk := keq_eq hkk
   subst hkk
   refine ⟨_, _, _, h, fun hp => ?_⟩
   have hle : off.z + len.z ≤ (hs.length : Int) := hp.1
   have hall := hp.2.1
   simp only [D] at hx
   obtain ⟨_, ho, hl, hr, ad, cap, rfl, hlc, hdis⟩ := hx
   obtain ⟨vs, h1, h2, h3, _⟩ := hm.segs hkey
   obtain ⟨c1, c2, ⟨_, e1⟩, rfl, e3⟩ := h1
   have e4 : c2 = [] := e3
   subst e4
   simp only [List.append_nil] at h2 h3
   have hcl := e1.len
   have hln : (((hs.drop off.z.toNat).take len.z.toNat).map fun h => RO.l ((ms.getD h.1 []).take h.2)).length = len.z.toNat := by simp; omega
   simp only [RoD, InR] at hr ⊢
   have er : ∀ l, roX (.r l) = l := fun _ => rfl
   rw [er, hln]
   refine ⟨ad, cap, (c1.drop off.z.toNat).take len.z.toNat, rfl, hlc, by omega, hdrs_chain hm hB hpk _ _ ((e1.drop _).take _) hall, ?_⟩
   rcases hdis with ⟨rfl, hcap⟩ | ⟨hz, hc0⟩
   ·rcases Nat.eq_zero_or_pos cap with h0 | h0
    ·exact .inr ⟨by omega, h0⟩
    ·have hcp : 0 < (ρ key).cap := by omega
     refine .inl ⟨(ρ key).blk, (ρ key).off + off.z.toNat, by simp [at_], ⟨hm.heap.lt key ro _ hkey hcp, hB.own key ro _ hban hkey hcp⟩, rangeAt_part h3 _ _⟩
   ·exact .inr ⟨by omega, hc0⟩
  ·simp [RP.run] at h
 ·simp [RP.run] at h

theorem boxV_sound (P : Program) (hm : Mem w0 M ρ H w) {ban : List Nat} {M' : Nat → Prop} (hB : BanOk w0 M ρ H w ban M') {x : SV} {k : IntKind} {v : Value} (hx : D (dmOf H) ρ x v) {f : List Prop → RO → RP Delta} {g : RP Delta} {d : Delta} {rs rs' : List Nat} (h : (boxV ban x k f g).run H rs = some (d, rs')) :
  (∃ p q rs1, (f p q).run H rs1 = some (d, rs') ∧ (AllP p → RoD w (OutB w M') (.ints k) q v)) ∨ ∃ rs0, g.run H rs0 = some (d, rs') := .inr ⟨_, h⟩
mutual
theorem viewRO_sound (P : Program) (hm : Mem w0 M ρ H w) {ban : List Nat} {M' : Nat → Prop} (hB : BanOk w0 M ρ H w ban M') : ∀ (sh : Sh) (x : SV) (v : Value) (f : List Prop → RO → RP Delta) (d : Delta) (rs rs' : List Nat), D (dmOf H) ρ x v → (viewRO ban sh x f).run H rs = some (d, rs') →
  ∃ p q rs1, (f p q).run H rs1 = some (d, rs') ∧ (AllP p → RoD w (OutB w M') sh q v)
 | .ints k, x, v, f, d, rs, rs', hx, h => by
  simp only [viewRO] at h
  split at h
  ·rename_i key sh dd
   simp only [RP.run] at h
   split at h
   ·rename_i hkey
    split at h
    ·rename_i he
     have e := shEq_eq _ _ he
     subst e
     simp only [D] at hx
     exact ⟨[], dd, _, h, fun _ => dat_rel hm hB (.inl hkey) hx.2.1⟩
    ·simp [RP.run] at h
   ·rename_i zs hkey
    split at h
    ·rename_i he hbF
     have e := shEq_eq _ _ he
     subst e
     simp only [D] at hx
     exact ⟨[], dd, _, h, fun _ => dat_rel hm hB (.inr ⟨zs, hkey, hbF⟩) hx.2.1⟩
    ·simp [RP.run] at h
   ·simp [RP.run] at h
  ·simp only [D] at hx
   subst hx
   refine ⟨[], _, _, h, fun _ => ?_⟩
   simp only [RoD]
   exact ⟨none, 0, rfl, Nat.le_refl _, by simp [roL], (fun z hz => by cases hz), .inr ⟨rfl, rfl⟩⟩
  ·rename_i key c est off len
   split at h
   ·simp [RP.run] at h
   ·rename_i hban
    rcases boxV_sound P hm hB hx h with h | h
    ·exact h
    obtain ⟨rs0, h⟩ := h
    obtain ⟨p, q, rs1, hw, hq, ro, lx, hkey, hcE⟩ := withCon_more (P := P) hm hx h
    split at hw
    ·rename_i k' l
     split at hw
     ·rename_i hkk
      have hkk := keq_eq hkk
      subst hkk
      refine ⟨p, _, rs1, hw, fun hp => ?_⟩
      have hcon := hq hp
      simp only [D] at hx
      obtain ⟨_, ho, hl, hr, ad, cap, rfl, hlc, hdis⟩ := hx
      obtain ⟨e1, e2, e3⟩ := hcon.at_ ad _ cap rfl
      have e1 : len.z.toNat = l.length := e1
      simp only [RoD, InR] at hr ⊢
      have er : roL (.l l) = l := rfl
      rw [er]
      refine ⟨ad, cap, by rw [e1], by omega, by omega, hcon.ok, ?_⟩
      rcases e3 with ⟨a, b⟩ | ⟨b, o, rfl, hlt, hra⟩
      ·exact .inr ⟨a, b⟩
      ·rcases hdis with ⟨ha', hc2⟩ | ⟨hz, hc0⟩
       ·simp only [Option.some.injEq, at_, Addr.mk.injEq, and_true] at ha'
        obtain ⟨hb', ho'⟩ := ha'
        have hest : conSize (Con.ints k' l) = est := con_est hcE
        have hest1 : est = 1 := hest.symm
        subst hest1
        rcases Nat.eq_zero_or_pos cap with h0 | h0
        ·exact .inr ⟨by omega, h0⟩
        ·have hcp : 0 < (ρ key).cap := by omega
         refine .inl ⟨b, o, rfl, ⟨hlt (by simpa [conSize] using h0), ?_⟩, hra⟩
         rw [hb']
         exact hB.own key ro lx hban hkey hcp
       ·exact .inr ⟨by omega, hc0⟩
     ·simp [RP.run] at hw
    ·simp [RP.run] at hw
  ·rename_i key r len
   simp only [withCon, RP.run] at h
   split at h
   ·rename_i kk ms hkey
    split at h
    ·rename_i hkk
     have hkk := keq_eq hkk
     subst hkk
     refine ⟨_, _, _, h, fun hp => ?_⟩
     have hle : len.z ≤ ((ms.getD r []).length : Int) := hp.1
     exact ps_ro hm hB hkey hx hle
    ·simp [RP.run] at h
   ·simp [RP.run] at h
  ·simp [RP.run] at h
 | .l e, x, v, f, d, rs, rs', hx, h => by
  simp only [viewRO] at h
  split at h
  ·rename_i key sh dd
   simp only [RP.run] at h
   split at h
   ·rename_i hkey
    split at h
    ·rename_i he
     have e := shEq_eq _ _ he
     subst e
     simp only [D] at hx
     exact ⟨[], dd, _, h, fun _ => dat_rel hm hB (.inl hkey) hx.2.1⟩
    ·simp [RP.run] at h
   ·rename_i zs hkey
    split at h
    ·rename_i he hbF
     have e := shEq_eq _ _ he
     subst e
     simp only [D] at hx
     exact ⟨[], dd, _, h, fun _ => dat_rel hm hB (.inr ⟨zs, hkey, hbF⟩) hx.2.1⟩
    ·simp [RP.run] at h
   ·simp [RP.run] at h
  ·simp only [D] at hx
   subst hx
   refine ⟨[], _, _, h, fun _ => ?_⟩
   simp only [RoD]
   exact ⟨none, 0, [], rfl, Nat.le_refl _, by simp [roX], rfl, .inr ⟨rfl, rfl⟩⟩
  ·rename_i key n
   split at h
   ·simp [RP.run] at h
   ·rename_i hban
    simp only [RP.run] at h
    split at h
    ·rename_i ro l hkey
     split at h
     ·rename_i xs hxs
      split at h
      ·rename_i hn
       simp only [Bool.and_eq_true] at hn
       have hn1 := Nat.eq_of_beq_eq_true hn.1
       have hn2 : 0 < n := by have := hn.2; simp [Nat.blt] at this; omega
       obtain ⟨vs, h1, h2, h3, _⟩ := hm.segs hkey
       obtain ⟨q1, q2, q3⟩ := ones_D l xs vs hxs h1
       obtain ⟨p, ds, rs1, a1, a2, a3⟩ := eachRO_sound (R := RoD w (OutB w M') e) (fun x v f d rs rs' hx h => viewRO_sound P hm hB e x v f d rs rs' hx h) xs vs _ d _ rs' q1 q2 h
       refine ⟨p, _, rs1, a1, fun hp => ?_⟩
       simp only [D] at hx
       obtain ⟨_, ho, hl, hr, ad, cap, rfl, hlc, hdis⟩ := hx
       have er : roX (.r ds) = ds := rfl
       have hnn : (Int.ofNat n).toNat = n := rfl
       simp only [RoD, InR] at hr ⊢
       rw [er]
       simp only [hnn] at hlc ⊢
       rcases hdis with ⟨rfl, hcap⟩ | ⟨hz, hc0⟩
       ·refine ⟨_, cap, vs, by rw [a3, hn1]; simp [at_], by omega, by omega, a2 hp, .inl ⟨(ρ key).blk, (ρ key).off, rfl, ?_, h3⟩⟩
        have hcp : 0 < (ρ key).cap := by simp at hcap; omega
        exact ⟨hm.heap.lt key ro l hkey hcp, hB.own key ro l hban hkey hcp⟩
       ·simp at hz; omega
      ·simp [RP.run] at h
     ·simp [RP.run] at h
    ·simp [RP.run] at h
  ·rename_i key off len _
   split at h
   ·simp [RP.run] at h
   ·rename_i hban
    simp only [RP.run] at h
    split at h
    ·rename_i ro pk hs hkey
     split at h
     ·rename_i k
      exact hdr_ro hm hB hban hkey hx h
     ·simp [RP.run] at h
    ·simp [RP.run] at h
  ·rename_i key c est off len _ _
   split at h
   ·rename_i n k
    split at h
    ·rename_i hban hn0
     have hn0 : 0 < n := by simp [Nat.blt] at hn0; omega
     obtain ⟨p, q, rs1, hw, hq, ro, lx, hkey, hcE⟩ := withCon_more (P := P) hm hx h
     split at hw
     ·rename_i k' m l
      split at hw
      ·rename_i hkk
       simp only [Bool.and_eq_true] at hkk
       have e1 := keq_eq hkk.1
       have e2 := Nat.eq_of_beq_eq_true hkk.2
       subst e1 e2
       refine ⟨p, _, rs1, hw, fun hp => ?_⟩
       have hcon := hq hp
       simp only [D] at hx
       obtain ⟨_, ho, hl, hr, ad, cap, rfl, hlc, hdis⟩ := hx
       obtain ⟨e1, e2, e3⟩ := hcon.at_ ad _ cap rfl
       have e1 : len.z.toNat = l.length := e1
       simp only [RoD, InR] at hr ⊢
       have er : roX (.r (l.map RO.l)) = l.map RO.l := rfl
       rw [er, List.length_map]
       refine ⟨ad, cap, conCells (.arrs k' m l), by rw [e1], by omega, by omega, arrs_chain (w' := w) (Out := OutB w M') l hcon.ok, ?_⟩
       rcases e3 with ⟨a, b⟩ | ⟨b, o, rfl, hlt, hra⟩
       ·exact .inr ⟨a, b⟩
       ·rcases hdis with ⟨ha', hc2⟩ | ⟨hz, hc0⟩
        ·simp only [Option.some.injEq, at_, Addr.mk.injEq, and_true] at ha'
         obtain ⟨hb', ho'⟩ := ha'
         have hest : conSize (Con.arrs k' m l) = est := con_est hcE
         have hest1 : est = m := hest.symm
         subst hest1
         rcases Nat.eq_zero_or_pos cap with h0 | h0
         ·exact .inr ⟨by omega, h0⟩
         ·have hpos : 0 < est * cap := Nat.mul_pos hn0 h0
          have hcp : 0 < (ρ key).cap := by omega
          refine .inl ⟨b, o, rfl, ⟨hlt hpos, ?_⟩, hra⟩
          rw [hb']
          exact hB.own key ro lx (by rw [hban]) hkey hcp
        ·exact .inr ⟨by omega, hc0⟩
      ·simp [RP.run] at hw
     ·simp [RP.run] at hw
    ·simp [RP.run] at h
   ·rename_i fs
    split at h
    ·simp [RP.run] at h
    ·rename_i hban
     exact datRO_sound hm hB hban hx h
   ·simp [RP.run] at h
  ·simp [RP.run] at h
 | .i k, x, v, f, d, rs, rs', hx, h => by
  simp only [viewRO] at h
  split at h
  ·rename_i k' a
   split at h
   ·rename_i hk
    have e := keq_eq hk
    subst e
    refine ⟨[], _, _, h, fun _ => ?_⟩
    simp only [D] at hx
    simp only [RoD]
    exact hx
   ·simp [RP.run] at h
  ·simp [RP.run] at h
 | .tb, x, v, f, d, rs, rs', hx, h => by
  simp only [viewRO] at h
  split at h
  ·refine ⟨[], _, _, h, fun _ => ?_⟩
   simp only [D] at hx
   simp only [RoD]
   exact hx
  ·simp [RP.run] at h
 | .ts, x, v, f, d, rs, rs', hx, h => by
  simp only [viewRO] at h
  split at h
  ·refine ⟨[], _, _, h, fun _ => ?_⟩
   simp only [D] at hx
   simp only [RoD]
   exact hx
  ·simp [RP.run] at h
 | .arr n k, x, v, f, d, rs, rs', hx, h => by
  simp only [viewRO] at h
  split at h
  ·rename_i k' m ex l
   split at h
   ·rename_i hk
    simp only [Bool.and_eq_true] at hk
    have e := keq_eq hk.1
    have e2 := Nat.eq_of_beq_eq_true hk.2
    subst e e2
    refine ⟨[], _, _, h, fun _ => ?_⟩
    simp only [D] at hx
    simp only [RoD]
    exact hx
   ·simp [RP.run] at h
  ·simp [RP.run] at h
 | .r fs, x, v, f, d, rs, rs', hx, h => by
  simp only [viewRO] at h
  split at h
  ·rename_i xs
   simp only [D] at hx
   obtain ⟨cs, hc, rfl⟩ := hx
   obtain ⟨p, ds, rs1, a1, a2⟩ := viewROs_sound P hm hB fs xs cs _ d rs rs' hc h
   refine ⟨p, _, rs1, a1, fun hp => ?_⟩
   simp only [RoD]
   exact ⟨cs, by simpa using a2 hp [], rfl⟩
  ·simp [RP.run] at h
theorem viewROs_sound (P : Program) (hm : Mem w0 M ρ H w) {ban : List Nat} {M' : Nat → Prop} (hB : BanOk w0 M ρ H w ban M') : ∀ (fs : List Sh) (xs : List SV) (cs : List Value) (f : List Prop → List RO → RP Delta) (d : Delta) (rs rs' : List Nat), Cs (dmOf H) ρ xs cs → (viewROs ban fs xs f).run H rs = some (d, rs') →
  ∃ p q rs1, (f p q).run H rs1 = some (d, rs') ∧ (AllP p → ∀ pre : List RO, RoCs w (OutB w M') fs (.r (pre ++ q)) pre.length cs)
 | [], xs, cs, f, d, rs, rs', hx, h => by
  simp only [viewROs] at h
  split at h
  ·rw [show cs = [] from hx]
   exact ⟨[], [], rs, h, fun _ _ => rfl⟩
  ·simp [RP.run] at h
 | s :: fs, xs, cs, f, d, rs, rs', hx, h => by
  simp only [viewROs] at h
  split at h
  ·rename_i x xs
   simp only [Cs] at hx
   obtain ⟨v, c, h1, rfl, h2⟩ := hx
   obtain ⟨p, q, rs1, a1, a2⟩ := viewRO_sound P hm hB s x v _ d rs rs' h1 h
   obtain ⟨p', ds, rs2, b1, b2⟩ := viewROs_sound P hm hB fs xs c _ d rs1 rs' h2 a1
   refine ⟨p ++ p', q :: ds, rs2, b1, fun hp pre => ?_⟩
   obtain ⟨hp1, hp2⟩ := AllP.append (l := p) (r := p') hp
   simp only [RoCs]
   refine ⟨v, c, ?_, rfl, ?_⟩
   ·have : roN (.r (pre ++ q :: ds)) pre.length = q := by simp [roN, roX, List.getD_eq_getElem?_getD]
    rw [this]; exact a2 hp1
   ·have := b2 hp2 (pre ++ [q])
    simpa using this
  ·simp [RP.run] at h
end

def AsD (w : World) (Out : Nat → Prop) (H : Nat → Option SB) (ρ : Nat → Pl) : List AV → List Value → List Nat → Prop
 | [], vs, ks => vs = [] ∧ ks = []
 | .v x :: r, vs, ks => ∃ u c, vs = u :: c ∧ D (dmOf H) ρ x u ∧ AsD w Out H ρ r c ks
 | .d sh d :: r, vs, ks => ∃ u c, vs = u :: c ∧ RoD w Out sh d u ∧ AsD w Out H ρ r c ks
 | .m l :: r, vs, ks => ∃ c k ks', ks = k :: ks' ∧ vs = .pointer (some (at_ (ρ k) 0)) :: c ∧ H k = some (.segs false l) ∧ AsD w Out H ρ r c ks'
 | .o q :: r, vs, ks => ∃ u c k ks', ks = k :: ks' ∧ vs = u :: c ∧ H k = some (.segs false [conRow q]) ∧
   (∃ ad cap, u = .slice ad (conLen q) cap ∧ conLen q ≤ cap ∧ ((conLen q : Nat) : Int) < 9223372036854775808 ∧ ((ad = some (at_ (ρ k) 0) ∧ conSize q * cap ≤ (ρ k).cap) ∨ (conLen q = 0 ∧ cap = 0))) ∧ AsD w Out H ρ r c ks'

theorem getA_sound (P : Program) (hm : Mem w0 M ρ H w) {ban : List Nat} {M' : Nat → Prop} (hB : BanOk w0 M ρ H w ban M') : ∀ (ms : List Md) (xs : List SV) (vs : List Value) (f : List Prop → List AV → RP Delta) (d : Delta) (rs rs' : List Nat), Ds (dmOf H) ρ xs vs → (getA ban ms xs f).run H rs = some (d, rs') →
  ∃ p avs rs1, (f p avs).run H rs1 = some (d, rs') ∧ (AllP p → AsD w (OutB w M') H ρ avs vs (ownKeys ms xs))
 | [], [], vs, f, d, rs, rs', hd, h => ⟨[], [], rs, h, fun _ => ⟨hd, rfl⟩⟩
 | [], _ :: _, vs, f, d, rs, rs', hd, h => by simp [getA, RP.run] at h
 | .v :: _, [], vs, f, d, rs, rs', hd, h => by simp [getA, RP.run] at h
 | .d _ :: _, [], vs, f, d, rs, rs', hd, h => by simp [getA, RP.run] at h
 | .m :: _, [], vs, f, d, rs, rs', hd, h => by simp [getA, RP.run] at h
 | .o :: _, [], vs, f, d, rs, rs', hd, h => by simp [getA, RP.run] at h
 | .v :: ms, x :: xs, vs, f, d, rs, rs', hd, h => by
  simp only [Ds] at hd
  obtain ⟨v, c, h1, rfl, h2⟩ := hd
  simp only [getA] at h
  obtain ⟨p, avs, rs1, q1, q2⟩ := getA_sound P hm hB ms xs c _ d rs rs' h2 h
  refine ⟨p, _, rs1, q1, fun hp => ⟨v, c, rfl, h1, ?_⟩⟩
  have : ownKeys (.v :: ms) (x :: xs) = ownKeys ms xs := by cases x <;> rfl
  rw [this]; exact q2 hp
 | .d sh :: ms, x :: xs, vs, f, d, rs, rs', hd, h => by
  simp only [Ds] at hd
  obtain ⟨v, c, h1, rfl, h2⟩ := hd
  simp only [getA] at h
  obtain ⟨p, q, rs1, q1, q2⟩ := viewRO_sound P hm hB sh x v _ d rs rs' h1 h
  obtain ⟨p', avs, rs2, q3, q4⟩ := getA_sound P hm hB ms xs c _ d rs1 rs' h2 q1
  refine ⟨p ++ p', _, rs2, q3, fun hp => ?_⟩
  obtain ⟨hp1, hp2⟩ := AllP.append (l := p) (r := p') hp
  have : ownKeys (.d sh :: ms) (x :: xs) = ownKeys ms xs := by cases x <;> rfl
  rw [this]
  exact ⟨v, c, rfl, q2 hp1, q4 hp2⟩
 | .m :: ms, x :: xs, vs, f, d, rs, rs', hd, h => by
  simp only [Ds] at hd
  obtain ⟨v, c, h1, rfl, h2⟩ := hd
  simp only [getA] at h
  split at h
  ·rename_i key
   simp only [RP.run] at h
   split at h
   ·rename_i l hkey
    obtain ⟨p, avs, rs1, q1, q2⟩ := getA_sound P hm hB ms xs c _ d _ rs' h2 h
    simp only [D] at h1
    exact ⟨p, _, rs1, q1, fun hp => ⟨c, key, _, rfl, by rw [h1.2], hkey, q2 hp⟩⟩
   ·simp [RP.run] at h
  ·obtain ⟨p, avs, rs1, q1, q2⟩ := getA_sound P hm hB ms xs c _ d rs rs' h2 h
   exact ⟨p, _, rs1, q1, fun hp => ⟨v, c, rfl, h1, q2 hp⟩⟩
  ·simp [RP.run] at h
 | .o :: ms, x :: xs, vs, f, d, rs, rs', hd, h => by
  simp only [Ds] at hd
  obtain ⟨v, c, h1, rfl, h2⟩ := hd
  simp only [getA] at h
  split at h
  ·rename_i key est len
   simp only [RP.run] at h
   split at h
   ·rename_i g hkey
    split at h
    ·rename_i q hq
     split at h
     ·rename_i hest
      have hest := Nat.eq_of_beq_eq_true hest
      obtain ⟨p, avs, rs1, q1, q2⟩ := getA_sound P hm hB ms xs c _ d _ rs' h2 h
      have hg : g = conRow q := by
       cases g <;> simp only [rowCon, Option.some.injEq, reduceCtorEq] at hq <;> subst hq <;> rfl
      subst hg
      refine ⟨_, _, rs1, q1, fun hp => ?_⟩
      have hlen : len.z = ((conLen q : Nat) : Int) := hp.1
      simp only [D] at h1
      obtain ⟨_, ho, hl, hr, ad, cap, rfl, hlc, hdis⟩ := h1
      simp only [InR] at hr
      have hln : len.z.toNat = conLen q := by omega
      refine ⟨_, c, key, _, rfl, rfl, hkey, ⟨ad, cap, by rw [hln], by omega, by omega, ?_⟩, q2 hp.2⟩
      rcases hdis with ⟨ha, hc⟩ | ⟨hz, hc0⟩
      ·exact .inl ⟨by simpa using ha, by rw [← hest]; simpa using hc⟩
      ·exact .inr ⟨by omega, hc0⟩
     ·simp [RP.run] at h
    ·simp [RP.run] at h
   ·simp [RP.run] at h
  ·obtain ⟨p, avs, rs1, q1, q2⟩ := getA_sound P hm hB ms xs c _ d rs rs' h2 h
   exact ⟨p, _, rs1, q1, fun hp => ⟨v, c, rfl, h1, q2 hp⟩⟩
  ·simp [RP.run] at h

theorem AsD.fact (hm : Mem w0 M ρ H w) {Out : Nat → Prop} : ∀ (avs : List AV) (vs : List Value) (ks : List Nat), AsD w Out H ρ avs vs ks → FactA avs
 | [], vs, ks, h => trivial
 | .v x :: r, vs, ks, h => by
  obtain ⟨u, c, rfl, h1, h2⟩ := h
  exact ⟨D.fact x u h1, AsD.fact hm r c ks h2⟩
 | .d sh d :: r, vs, ks, h => by
  obtain ⟨u, c, rfl, h1, h2⟩ := h
  exact ⟨RoD.fact sh d u h1, AsD.fact hm r c ks h2⟩
 | .m l :: r, vs, ks, h => by
  obtain ⟨c, k, ks', rfl, rfl, h1, h2⟩ := h
  obtain ⟨cs, hcs, _⟩ := hm.heap.blk k _ h1
  exact ⟨SegsD.fact l cs hcs, AsD.fact hm r c ks' h2⟩
 | .o q :: r, vs, ks, h => by
  obtain ⟨u, c, k, ks', rfl, rfl, h1, ⟨ad, cap, h3, h4, h5, _⟩, h2⟩ := h
  obtain ⟨cs, ⟨c1, c2, hq, _⟩, _⟩ := hm.heap.blk k _ h1
  refine ⟨⟨?_, h5⟩, AsD.fact hm r c ks' h2⟩
  cases q <;> exact hq.1

theorem AsD.keys {Out : Nat → Prop} : ∀ (avs : List AV) (vs : List Value) (ks : List Nat), AsD w Out H ρ avs vs ks → ∀ k ∈ ks, ∃ l, H k = some (.segs false l)
 | [], vs, ks, h => by obtain ⟨_, rfl⟩ := h; intro k hk; cases hk
 | .v x :: r, vs, ks, h => by
  obtain ⟨u, c, rfl, h1, h2⟩ := h
  exact AsD.keys r c ks h2
 | .d sh d :: r, vs, ks, h => by
  obtain ⟨u, c, rfl, h1, h2⟩ := h
  exact AsD.keys r c ks h2
 | .m l :: r, vs, ks, h => by
  obtain ⟨c, k, ks', rfl, rfl, h1, h2⟩ := h
  intro k' hk
  rcases List.mem_cons.1 hk with rfl | hk
  ·exact ⟨_, h1⟩
  ·exact AsD.keys r c ks' h2 k' hk
 | .o q :: r, vs, ks, h => by
  obtain ⟨u, c, k, ks', rfl, rfl, h1, _, h2⟩ := h
  intro k' hk
  rcases List.mem_cons.1 hk with rfl | hk
  ·exact ⟨_, h1⟩
  ·exact AsD.keys r c ks' h2 k' hk

theorem okA_heap {Out : Nat → Prop} : ∀ (avs : List AV) (vs : List Value) (ks : List Nat) (j : Nat) (args' : List SV) (h : Heap), AsD w Out H ρ avs vs ks → okA j avs args' h →
  (∀ k b, assoc h k = some b → ∃ i, k = j + i ∧ i < ks.length ∧ ∃ l l', b = .segs false l' ∧ H (ks.getD i 0) = some (.segs false l) ∧ ∀ (dm : Nat → Prop) (ρ' : Nat → Pl) (cs : List Value), SegsD (dmOf H) ρ l cs → SegsD dm ρ' l' cs) ∧
  (∀ i, i < ks.length → (assoc h (j + i)).isSome = true)
 | [], vs, ks, j, [], [], h, ho => by
  obtain ⟨_, rfl⟩ := h
  exact ⟨fun k b hb => by simp [assoc] at hb, fun i hi => by simp at hi⟩
 | [], vs, ks, j, [], _ :: _, h, ho => ho.elim
 | [], vs, ks, j, _ :: _, _, h, ho => by simp [okA] at ho
 | .v x :: r, vs, ks, j, [], h', h, ho => by simp [okA] at ho
 | .v x :: r, vs, ks, j, y :: t, h', h, ho => by
  obtain ⟨u, c, rfl, h1, h2⟩ := h
  exact okA_heap r c ks j t h' h2 ho.2
 | .d sh d :: r, vs, ks, j, [], h', h, ho => by simp [okA] at ho
 | .d sh d :: r, vs, ks, j, y :: t, h', h, ho => by
  obtain ⟨u, c, rfl, h1, h2⟩ := h
  exact okA_heap r c ks j t h' h2 ho.2
 | .m l :: r, vs, ks, j, [], h', h, ho => by simp [okA] at ho
 | .m l :: r, vs, ks, j, y :: t, [], h, ho => by simp [okA] at ho
 | .m l :: r, vs, ks, j, y :: t, (k0, b0) :: h', h, ho => by
  obtain ⟨c, k, ks', rfl, rfl, h1, h2⟩ := h
  obtain ⟨_, rfl, ⟨l', rfl, he⟩, ho⟩ := ho
  obtain ⟨q1, q2⟩ := okA_heap r c ks' (k0 + 1) t h' h2 ho
  refine ⟨fun k b hb => ?_, fun i hi => ?_⟩
  ·simp only [assoc] at hb
   split at hb
   ·rename_i e
    have e := Nat.eq_of_beq_eq_true e
    simp only [Option.some.injEq] at hb
    subst hb
    exact ⟨0, by omega, by simp, l, l', rfl, by simpa using h1, fun dm ρ' cs hcs => eqSegs_D l l' cs he hcs⟩
   ·obtain ⟨i, e, hi, rest⟩ := q1 k b hb
    exact ⟨i + 1, by omega, by simpa using hi, by simpa using rest⟩
  ·cases i with
   | zero => simp [assoc, Nat.beq_refl]
   | succ i =>
    have : Nat.beq k0 (k0 + (i + 1)) = false := by
     cases hb : Nat.beq k0 (k0 + (i + 1)) with
     | false => rfl
     | true => have := Nat.eq_of_beq_eq_true hb; omega
    simp only [assoc, this]
    have := q2 i (by simpa using hi)
    rwa [show k0 + 1 + i = k0 + (i + 1) by omega] at this
 | .o q :: r, vs, ks, j, [], h', h, ho => by simp [okA] at ho
 | .o q :: r, vs, ks, j, y :: t, [], h, ho => by simp [okA] at ho
 | .o q :: r, vs, ks, j, y :: t, (k0, b0) :: h', h, ho => by
  obtain ⟨u, c, k, ks', rfl, rfl, h1, _, h2⟩ := h
  obtain ⟨_, rfl, rfl, ho⟩ := ho
  obtain ⟨q1, q2⟩ := okA_heap r c ks' (k0 + 1) t h' h2 ho
  refine ⟨fun k b hb => ?_, fun i hi => ?_⟩
  ·simp only [assoc] at hb
   split at hb
   ·rename_i e
    have e := Nat.eq_of_beq_eq_true e
    simp only [Option.some.injEq] at hb
    subst hb
    refine ⟨0, by omega, by simp, _, _, rfl, by simpa using h1, fun dm ρ' cs hcs => ?_⟩
    obtain ⟨c1, c2, hq, rfl, hc2⟩ := hcs
    refine ⟨c1, c2, ?_, rfl, hc2⟩
    cases q <;> exact hq
   ·obtain ⟨i, e, hi, rest⟩ := q1 k b hb
    exact ⟨i + 1, by omega, by simpa using hi, by simpa using rest⟩
  ·cases i with
   | zero => simp [assoc, Nat.beq_refl]
   | succ i =>
    have : Nat.beq k0 (k0 + (i + 1)) = false := by
     cases hb : Nat.beq k0 (k0 + (i + 1)) with
     | false => rfl
     | true => have := Nat.eq_of_beq_eq_true hb; omega
    simp only [assoc, this]
    have := q2 i (by simpa using hi)
    rwa [show k0 + 1 + i = k0 + (i + 1) by omega] at this

theorem okA_args {Out : Nat → Prop} {dm' : Nat → Prop} {ρ' : Nat → Pl} (h490 : dm' 490) (hrel : (ρ' 490).rel = RoD w Out) : ∀ (avs : List AV) (vs : List Value) (ks : List Nat) (j : Nat) (args' : List SV) (h : Heap), AsD w Out H ρ avs vs ks → okA j avs args' h →
  (∀ i, i < ks.length → dm' (j + i) ∧ ρ' (j + i) = ρ (ks.getD i 0)) → Ds dm' ρ' args' vs
 | [], vs, ks, j, [], [], h, ho, hk => h.1
 | [], vs, ks, j, [], _ :: _, h, ho, hk => ho.elim
 | [], vs, ks, j, _ :: _, _, h, ho, hk => by simp [okA] at ho
 | .v x :: r, vs, ks, j, [], h', h, ho, hk => by simp [okA] at ho
 | .v x :: r, vs, ks, j, y :: t, h', h, ho, hk => by
  obtain ⟨u, c, rfl, h1, h2⟩ := h
  exact ⟨u, c, eqV_D x y u ho.1 h1, rfl, okA_args h490 hrel r c ks j t h' h2 ho.2 hk⟩
 | .d sh d :: r, vs, ks, j, [], h', h, ho, hk => by simp [okA] at ho
 | .d sh d :: r, vs, ks, j, y :: t, h', h, ho, hk => by
  obtain ⟨u, c, rfl, h1, h2⟩ := h
  obtain ⟨rfl, ho⟩ := ho
  exact ⟨_, c, svOf_D h490 hrel sh d u h1, rfl, okA_args h490 hrel r c ks j t h' h2 ho hk⟩
 | .m l :: r, vs, ks, j, [], h', h, ho, hk => by simp [okA] at ho
 | .m l :: r, vs, ks, j, y :: t, [], h, ho, hk => by simp [okA] at ho
 | .m l :: r, vs, ks, j, y :: t, (k0, b0) :: h', h, ho, hk => by
  obtain ⟨c, k, ks', rfl, rfl, h1, h2⟩ := h
  obtain ⟨rfl, rfl, ⟨l', rfl, he⟩, ho⟩ := ho
  have h0 := hk 0 (by simp)
  refine ⟨_, c, ⟨by simpa using h0.1, ?_⟩, rfl, okA_args h490 hrel r c ks' (k0 + 1) t h' h2 ho fun i hi => ?_⟩
  ·have := h0.2
   simp only [Nat.add_zero, List.getD_cons_zero] at this
   rw [this]
  ·have := hk (i + 1) (by simpa using hi)
   rw [show k0 + 1 + i = k0 + (i + 1) by omega]
   simpa using this
 | .o q :: r, vs, ks, j, [], h', h, ho, hk => by simp [okA] at ho
 | .o q :: r, vs, ks, j, y :: t, [], h, ho, hk => by simp [okA] at ho
 | .o q :: r, vs, ks, j, y :: t, (k0, b0) :: h', h, ho, hk => by
  obtain ⟨u, c, k, ks', rfl, rfl, h1, ⟨ad, cap, rfl, h3, h4, h5⟩, h2⟩ := h
  obtain ⟨rfl, rfl, rfl, ho⟩ := ho
  have h0 := hk 0 (by simp)
  refine ⟨_, c, sl_D (by simpa using h0.1) _ h4 h3 ?_, rfl, okA_args h490 hrel r c ks' (k0 + 1) t h' h2 ho fun i hi => ?_⟩
  ·have := h0.2
   simp only [Nat.add_zero, List.getD_cons_zero] at this
   rw [this]; exact h5
  ·have := hk (i + 1) (by simpa using hi)
   rw [show k0 + 1 + i = k0 + (i + 1) by omega]
   simpa using this

end
end Go.Gx

/- Contracts in general: off functions that the evaluator has run. -/
namespace Go.Gx
open Go.RowKit
set_option linter.unusedVariables false

def RvD (H : Nat → Option SB) (ρ : Nat → Pl) (w : World) : RV → Value → Prop
 | .v x, v => D (dmOf H) ρ x v
 | .row q, v => conOk q ∧ ∃ key l pl ad cap, 1000 ≤ key ∧ H key = some (.segs false l) ∧ v = .slice ad (conLen q) cap ∧ conLen q ≤ cap ∧ ((conLen q : Nat) : Int) < 9223372036854775808 ∧
   ((ad = some (at_ pl 0) ∧ conSize q * cap ≤ pl.cap) ∨ (conLen q = 0 ∧ cap = 0)) ∧ (conCells q).length ≤ pl.cap ∧ w.rangeAt pl.blk pl.off (conCells q) ∧ w.there pl.blk pl.off pl.cap ∧ (0 < pl.cap → pl.blk = (ρ key).blk ∧ 0 < (ρ key).cap)
 | .ptr l, v => ∃ key, 1000 ≤ key ∧ H key = some (.segs false l) ∧ v = .pointer (some (at_ (ρ key) 0))
def RvsD (H : Nat → Option SB) (ρ : Nat → Pl) (w : World) : List RV → List Value → Prop
 | [], vs => vs = []
 | x :: r, vs => ∃ v c, RvD H ρ w x v ∧ vs = v :: c ∧ RvsD H ρ w r c

section
variable {P : Program} {Γ : Tab} {w0 : World} {M : Nat → Prop} {ρ : Nat → Pl} {w : World}

theorem canV_sound {h : Heap} (hm : Mem w0 M ρ (assoc h) w) {x : SV} {v : Value} (hx : D (dmOf (assoc h)) ρ x v) {K : RV → Prop} (hk : canV h x K) : ∃ r, K r ∧ RvD (assoc h) ρ w r v := by
 unfold canV at hk
 split at hk
 ·rename_i key c est off len
  split at hk
  ·rename_i l hkey1 hkey
   have hge : 1000 ≤ key := Nat.le_of_ble_eq_true hkey1
   split at hk
   ·rename_i g hs
    split at hk
    ·rename_i p q hq
     obtain ⟨hp, hK⟩ := preK_of _ _ hk
     simp only [D] at hx
     obtain ⟨hdm, ho, hl, hlr, a, cap, rfl, hcap, hpl⟩ := hx
     simp only [InR] at hlr
     obtain ⟨vs, h1, h2, h3, h4⟩ := hm.segs hkey
     obtain ⟨pre, cs, post, e1, e2, e3, _, _⟩ := segAt_D l c vs g 0 h1 hs
     obtain ⟨a1, a2, a3, a4, a5⟩ := conSeg_sound hq e2 hp ho hl
     have heq : conCells q = (vs.drop (c + est * off.z.toNat)).take (est * len.z.toNat) := by
      rw [a4, e1, show c + est * off.z.toNat = pre.length + est * off.z.toNat by omega, drop_mid _ _ _ _ _ a5]
     have hra := rangeAt_part h3 (c + est * off.z.toNat) (est * len.z.toNat)
     rw [← heq] at hra
     have hcl := conCells_length a1
     have hth := h4 rfl
     rcases hpl with ⟨ha, hle⟩ | ⟨h0, hc0⟩
     ·refine ⟨_, hK, a1, key, l, ({ blk := (ρ key).blk, off := (ρ key).off + (c + est * off.z.toNat), cap := est * cap } : Pl), a, cap, hge, hkey, by rw [a2], by omega, by omega, .inl ⟨by rw [ha]; simp [at_], by rw [a3]; exact Nat.le_refl _⟩, ?_, hra, ?_, fun hc => ⟨rfl, ?_⟩⟩
      ·show (conCells q).length ≤ est * cap
       rw [hcl, a3, a2, Nat.mul_comm]; exact Nat.mul_le_mul_left _ hcap
      ·intro j hj
       have hj' : j < est * cap := hj
       have := hth (c + est * off.z.toNat + j) (by omega)
       rw [show (ρ key).off + (c + est * off.z.toNat) + j = (ρ key).off + (c + est * off.z.toNat + j) by omega]
       exact this
      ·have hc : 0 < est * cap := hc
       omega
     ·have hz : conLen q = 0 := by rw [a2]; omega
      have hnil : conCells q = [] := List.eq_nil_of_length_eq_zero (by rw [hcl, hz]; simp)
      refine ⟨_, hK, a1, key, l, ({ blk := 0, off := 0, cap := 0 } : Pl), a, cap, hge, hkey, by rw [a2], by omega, by omega, .inr ⟨hz, hc0⟩, by rw [hnil]; simp, by rw [hnil]; exact rangeAt_nil _ _ _, there_zero _ _ _, fun hc => absurd hc (by simp)⟩
    ·exact hk.elim
   ·exact hk.elim
  ·exact hk.elim
 ·rename_i key
  split at hk
  ·rename_i l hkey1 hkey
   simp only [D] at hx
   exact ⟨_, hk, key, Nat.le_of_ble_eq_true hkey1, hkey, hx.2⟩
  ·exact hk.elim
 ·exact ⟨_, hk, hx⟩

theorem canVs_sound {h : Heap} (hm : Mem w0 M ρ (assoc h) w) : ∀ (xs : List SV) (vs : List Value) (K : List RV → Prop), Ds (dmOf (assoc h)) ρ xs vs → canVs h xs K → ∃ rs, K rs ∧ RvsD (assoc h) ρ w rs vs ∧ rs.length = xs.length
 | [], vs, K, hx, hk => ⟨[], hk, hx, rfl⟩
 | x :: r, vs, K, hx, hk => by
  simp only [Ds] at hx
  obtain ⟨v, c, h1, rfl, h2⟩ := hx
  obtain ⟨y, q1, q2⟩ := canV_sound hm h1 hk
  obtain ⟨ys, q3, q4, q5⟩ := canVs_sound hm r c _ h2 q1
  exact ⟨y :: ys, q3, ⟨v, c, q2, rfl, q4⟩, by simp [q5]⟩

def FinH (H : Nat → Option SB) : Nat → List (Option (List Seg)) → Prop
 | _, [] => True
 | j, some l :: r => H j = some (.segs false l) ∧ FinH H (j + 1) r
 | j, none :: r => H j = some .gone ∧ FinH H (j + 1) r

theorem canF_sound {h : Heap} : ∀ (n j : Nat) (K : List (Option (List Seg)) → Prop), canF h j n K → ∃ fs, K fs ∧ FinH (assoc h) j fs ∧ fs.length = n
 | 0, j, K, hk => ⟨[], hk, trivial, rfl⟩
 | n + 1, j, K, hk => by
  simp only [canF] at hk
  split at hk
  ·rename_i l hl
   obtain ⟨fs, q1, q2, q3⟩ := canF_sound n (j + 1) _ hk
   exact ⟨_, q1, ⟨hl, q2⟩, by simp [q3]⟩
  ·rename_i hl
   obtain ⟨fs, q1, q2, q3⟩ := canF_sound n (j + 1) _ hk
   exact ⟨_, q1, ⟨hl, q2⟩, by simp [q3]⟩
  ·exact hk.elim

def RvsOf (H : Nat → Option SB) (ρ : Nat → Pl) (w : World) (rs : List RV) (v : Value) : Prop :=
 (∃ r, rs = [r] ∧ RvD H ρ w r v) ∨ (rs.length ≠ 1 ∧ ∃ vs, v = .tuple vs.toArray ∧ RvsD H ρ w rs vs)

theorem kvG_sound {h : Heap} (hm : Mem w0 M ρ (assoc h) w) {n : Nat} {x : SV} {v : Value} (hx : D (dmOf (assoc h)) ρ x v) {K : List RV → List (Option (List Seg)) → Prop} (hk : kvG n x h K) :
  ∃ rs fs, K rs fs ∧ RvsOf (assoc h) ρ w rs v ∧ FinH (assoc h) 600 fs ∧ fs.length = n := by
 unfold kvG at hk
 split at hk
 ·rename_i xs
  split at hk
  ·exact hk.elim
  ·rename_i hn
   simp only [D] at hx
   obtain ⟨vs, h1, rfl⟩ := hx
   obtain ⟨rs, q1, q2, q3⟩ := canVs_sound hm xs vs _ h1 hk
   obtain ⟨fs, q4, q5, q6⟩ := canF_sound n 600 _ q1
   refine ⟨rs, fs, q4, .inr ⟨fun e => ?_, vs, rfl, q2⟩, q5, q6⟩
   rw [q3] at e
   rw [e] at hn
   exact absurd hn (by decide)
 ·obtain ⟨r, q1, q2⟩ := canV_sound hm hx hk
  obtain ⟨fs, q4, q5, q6⟩ := canF_sound n 600 _ q1
  exact ⟨_, fs, q4, .inl ⟨r, rfl, q2⟩, q5, q6⟩

theorem eqCon_eq {a b : Con} (h : eqCon a b) : a = b := by
 cases a <;> cases b <;> simp only [eqCon] at h
 ·rw [keq_eq h.1, h.2]
 ·rw [keq_eq h.1, h.2.1, h.2.2]

def FreshAt (H : Nat → Option SB) (ρ : Nat → Pl) (w : World) (l : List Seg) (pl : Pl) : Prop :=
 ∃ vs, SegsD (fun _ => False) (fun _ => ({ blk := 0, off := 0, cap := 0 } : Pl)) l vs ∧ vs.length ≤ pl.cap ∧ w.rangeAt pl.blk pl.off vs ∧ w.there pl.blk pl.off pl.cap ∧
  (0 < pl.cap → ∃ key l', 1000 ≤ key ∧ H key = some (.segs false l') ∧ pl.blk = (ρ key).blk ∧ 0 < (ρ key).cap)

theorem res_one {h : Heap} (hm : Mem w0 M ρ (assoc h) w) {r r' : RV} {v : Value} (hr : RvD (assoc h) ρ w r v) (he : eqRV1 r r') :
    ∃ pl, (∀ l, frOf [r'] = some l → FreshAt (assoc h) ρ w l pl) ∧ ∀ (dm : Nat → Prop) (ρ' : Nat → Pl) (stamp : Nat), (frOf [r'] ≠ none → dm stamp ∧ ρ' stamp = pl) → D dm ρ' (resG stamp r') v := by
  cases r' with
  | v y =>
    refine ⟨({ blk := 0, off := 0, cap := 0 } : Pl), (fun l hl => by cases hl), fun dm ρ' stamp _ => ?_⟩
    cases r with
    | v x =>
      have he' : eqRV (.v x) (.v y) := by cases x <;> exact he
      exact eqV_D x y v he' hr
    | row q => exact (show eqRV (.row q) (.v y) from he).elim
    | ptr l => exact (show eqRV (.ptr l) (.v y) from he).elim
  | ptr l' =>
    cases r with
    | v x => have he' : eqRV (.v x) (.ptr l') := by cases x <;> exact he
             exact he'.elim
    | row q => exact (show eqRV (.row q) (.ptr l') from he).elim
    | ptr l =>
      have he' : eqSegs l l' := he
      obtain ⟨key, k1, k2, rfl⟩ := hr
      obtain ⟨cs, s1, s2, s3, s4⟩ := hm.segs k2
      refine ⟨ρ key, fun l0 hl => ?_, fun dm ρ' stamp hs => ?_⟩
      · simp only [frOf, Option.some.injEq] at hl
        subst hl
        exact ⟨cs, eqSegs_D l l' cs he' s1, s2, s3, s4 rfl, fun hc => ⟨key, l, k1, k2, rfl, hc⟩⟩
      · obtain ⟨q1, q2⟩ := hs (by simp [frOf])
        simp only [resG, D]
        exact ⟨q1, by rw [q2]⟩
  | row q' =>
    have main : ∀ q, conOk q → q = q' → (∃ key l pl ad cap, 1000 ≤ key ∧ assoc h key = some (.segs false l) ∧ v = .slice ad (conLen q) cap ∧ conLen q ≤ cap ∧ ((conLen q : Nat) : Int) < 9223372036854775808 ∧
      ((ad = some (at_ pl 0) ∧ conSize q * cap ≤ pl.cap) ∨ (conLen q = 0 ∧ cap = 0)) ∧ (conCells q).length ≤ pl.cap ∧ w.rangeAt pl.blk pl.off (conCells q) ∧ w.there pl.blk pl.off pl.cap ∧ (0 < pl.cap → pl.blk = (ρ key).blk ∧ 0 < (ρ key).cap)) →
        ∃ pl, (∀ l, frOf [RV.row q'] = some l → FreshAt (assoc h) ρ w l pl) ∧ ∀ (dm : Nat → Prop) (ρ' : Nat → Pl) (stamp : Nat), (frOf [RV.row q'] ≠ none → dm stamp ∧ ρ' stamp = pl) → D dm ρ' (resG stamp (.row q')) v := by
      rintro q hok rfl ⟨key, l, pl, ad, cap, k1, k2, rfl, k3, k4, k5, k6, k7, k8, k9⟩
      refine ⟨pl, fun l0 hl => ?_, fun dm ρ' stamp hs => ?_⟩
      · simp only [frOf, Option.some.injEq] at hl
        subst hl
        exact ⟨conCells q, segs_one (conRow_D hok), k6, k7, k8, fun hc => ⟨key, l, k1, k2, k9 hc⟩⟩
      · obtain ⟨q1, q2⟩ := hs (by simp [frOf])
        simp only [resG]
        exact sl_D q1 _ k4 k3 (by rw [q2]; exact k5)
    cases r with
    | v x =>
      cases x with
      | nsl =>
        obtain ⟨e1, e2⟩ := (show conLen q' = 0 ∧ conOk q' from he)
        have hv : v = .slice none 0 0 := hr
        subst hv
        have hnil : conCells q' = [] := List.eq_nil_of_length_eq_zero (by rw [conCells_length e2, e1]; simp)
        refine ⟨({ blk := 0, off := 0, cap := 0 } : Pl), fun l0 hl => ?_, fun dm ρ' stamp hs => ?_⟩
        · simp only [frOf, Option.some.injEq] at hl
          subst hl
          have := segs_one (conRow_D (ρ := fun _ => ({ blk := 0, off := 0, cap := 0 } : Pl)) (dm := fun _ => False) e2)
          rw [hnil] at this
          exact ⟨[], this, Nat.le_refl _, rangeAt_nil _ _ _, there_zero _ _ _, fun hc => absurd hc (by simp)⟩
        · obtain ⟨q1, q2⟩ := hs (by simp [frOf])
          simp only [resG]
          have := sl_D (es := conSize q') (a := none) (cap := 0) (ρ := ρ') q1 (conLen q') (by omega) (by omega) (.inr ⟨e1, rfl⟩)
          rwa [show (Value.slice none (conLen q') 0) = .slice none 0 0 by rw [e1]] at this
      | _ => simp [eqRV1, eqRV] at he
    | ptr l => exact (show eqRV (.ptr l) (.row q') from he).elim
    | row q => exact main q hr.1 (eqCon_eq (show eqCon q q' from he)) hr.2

theorem res_all {h : Heap} (hm : Mem w0 M ρ (assoc h) w) : ∀ (rs rs' : List RV) (vs : List Value), RvsD (assoc h) ρ w rs vs → eqRVs rs rs' → oneFr rs' = true →
  ∃ pl, (∀ l, frOf rs' = some l → FreshAt (assoc h) ρ w l pl) ∧ ∀ (dm : Nat → Prop) (ρ' : Nat → Pl) (stamp : Nat), (frOf rs' ≠ none → dm stamp ∧ ρ' stamp = pl) → Ds dm ρ' (resGs stamp rs') vs
 | [], [], vs, hr, he, ho => ⟨({ blk := 0, off := 0, cap := 0 } : Pl), (fun l hl => by cases hl), fun dm ρ' stamp _ => hr⟩
 | [], _ :: _, vs, hr, he, ho => he.elim
 | _ :: _, [], vs, hr, he, ho => he.elim
 | r :: t, r' :: t', vs, hr, he, ho => by
  obtain ⟨v, c, h1, rfl, h2⟩ := hr
  obtain ⟨pl, a1, a2⟩ := res_one hm h1 he.1
  cases hf : frOf [r'] with
  | none =>
   have hff : frOf (r' :: t') = frOf t' := by cases r' <;> simp [frOf] at hf ⊢
   have ho' : oneFr t' = true := by cases r' <;> simp [frOf] at hf; exact ho
   obtain ⟨pl2, b1, b2⟩ := res_all hm t t' c h2 he.2 ho'
   refine ⟨pl2, fun l hl => b1 l (by rw [← hff]; exact hl), fun dm ρ' stamp hs => ?_⟩
   exact ⟨v, _, a2 dm ρ' stamp (fun h => absurd hf h), rfl, b2 dm ρ' stamp (fun h => hs (by rw [hff]; exact h))⟩
  | some l0 =>
   have hft : frOf t' = none := by
    cases r' with
    | v x => simp [frOf] at hf
    | row q => simp only [oneFr] at ho; split at ho <;> simp_all
    | ptr l => simp only [oneFr] at ho; split at ho <;> simp_all
   have ho' : oneFr t' = true := by
    have : ∀ t : List RV, frOf t = none → oneFr t = true := by
     intro t
     induction t with
     | nil => intro _; rfl
     | cons x r ih => intro hh; cases x <;> simp [frOf] at hh; exact ih hh
    exact this t' hft
   have hff : frOf (r' :: t') = frOf [r'] := by cases r' <;> simp [frOf] at hf ⊢
   obtain ⟨pl2, b1, b2⟩ := res_all hm t t' c h2 he.2 ho'
   refine ⟨pl, fun l hl => a1 l (by rw [← hff]; exact hl), fun dm ρ' stamp hs => ?_⟩
   have hs' := hs (by rw [hff, hf]; simp)
   exact ⟨v, _, a2 dm ρ' stamp (fun _ => hs'), rfl, b2 dm ρ' stamp (fun h => absurd hft h)⟩

theorem res_of {h : Heap} (hm : Mem w0 M ρ (assoc h) w) {rs rs' : List RV} {v : Value} (hr : RvsOf (assoc h) ρ w rs v) (he : eqRVs rs rs') (ho : oneFr rs' = true) :
  ∃ pl, (∀ l, frOf rs' = some l → FreshAt (assoc h) ρ w l pl) ∧ ∀ (dm : Nat → Prop) (ρ' : Nat → Pl) (stamp : Nat), (frOf rs' ≠ none → dm stamp ∧ ρ' stamp = pl) → D dm ρ' (resOf stamp rs') v := by
 have hlen : ∀ (a b : List RV), eqRVs a b → a.length = b.length := by
  intro a
  induction a with
  | nil => intro b hb; cases b <;> simp [eqRVs] at hb ⊢
  | cons x r ih => intro b hb; cases b <;> simp [eqRVs] at hb ⊢; exact ih _ hb.2
 rcases hr with ⟨r, rfl, h1⟩ | ⟨hn, vs, rfl, h1⟩
 ·match rs', he with
  | [r'], he =>
   obtain ⟨pl, a1, a2⟩ := res_one hm h1 he.1
   exact ⟨pl, a1, fun dm ρ' stamp hs => a2 dm ρ' stamp hs⟩
 ·obtain ⟨pl, a1, a2⟩ := res_all hm rs rs' vs h1 he ho
  refine ⟨pl, a1, fun dm ρ' stamp hs => ?_⟩
  have e : resOf stamp rs' = .tup (resGs stamp rs') := by
   match rs', hlen rs rs' he with
   | [], _ => rfl
   | [r'], hl => exact absurd hl hn
   | _ :: _ :: _, _ => rfl
  rw [e]
  simp only [D]
  exact ⟨vs, a2 dm ρ' stamp hs, rfl⟩

theorem nodupN_iff : ∀ {l : List Nat}, nodupN l = true → l.Nodup
 | [], _ => List.nodup_nil
 | x :: r, h => by
  simp only [nodupN] at h
  split at h
  ·cases h
  ·rename_i e
   refine List.nodup_cons.2 ⟨fun hx => ?_, nodupN_iff h⟩
   rw [memN_iff.2 hx] at e; cases e

def finB : Option (List Seg) → SB
 | some l => .segs false l
 | none => .gone

theorem finW_len : ∀ {ks : List Nat} {fin : List (Option (List Seg))} {ws : List (Nat × SB)}, finW ks fin = some ws → fin.length = ks.length
 | [], [], ws, h => rfl
 | [], _ :: _, ws, h => by simp [finW] at h
 | _ :: _, [], ws, h => by simp [finW] at h
 | k :: ks, some l :: r, ws, h => by
  simp only [finW] at h
  split at h
  ·rename_i ws' e; simp [finW_len e]
  ·cases h
 | k :: ks, none :: r, ws, h => by
  simp only [finW] at h
  split at h
  ·rename_i ws' e; simp [finW_len e]
  ·cases h

theorem finW_upd : ∀ {ks : List Nat} {fin : List (Option (List Seg))} {ws : List (Nat × SB)}, finW ks fin = some ws → ks.Nodup → ∀ (H : Nat → Option SB),
  (∀ k, k ∉ ks → updsH H ws k = H k) ∧ ∀ i, i < ks.length → updsH H ws (ks.getD i 0) = some (finB (fin.getD i none))
 | [], [], ws, h, hn, H => by
  simp only [finW, Option.some.injEq] at h; subst h
  exact ⟨fun k _ => rfl, fun i hi => by simp at hi⟩
 | [], _ :: _, ws, h, _, _ => by simp [finW] at h
 | _ :: _, [], ws, h, _, _ => by simp [finW] at h
 | k :: ks, b :: r, ws, h, hn, H => by
  have hh : ∃ ws', finW ks r = some ws' ∧ ws = (k, finB b) :: ws' := by
   cases b <;> simp only [finW] at h <;> split at h
   ·rename_i ws' e; exact ⟨ws', e, (Option.some.inj h).symm⟩
   ·cases h
   ·rename_i ws' e; exact ⟨ws', e, (Option.some.inj h).symm⟩
   ·cases h
  obtain ⟨ws', e, rfl⟩ := hh
  obtain ⟨hk, hn'⟩ := List.nodup_cons.1 hn
  obtain ⟨q1, q2⟩ := finW_upd e hn' (updH H k (finB b))
  refine ⟨fun k' hk' => ?_, fun i hi => ?_⟩
  ·simp only [List.mem_cons, not_or] at hk'
   show updsH (updH H k (finB b)) ws' k' = H k'
   rw [q1 k' hk'.2, updH_ne hk'.1]
  ·show updsH (updH H k (finB b)) ws' _ = _
   cases i with
   | zero =>
    simp only [List.getD_cons_zero]
    rw [q1 k hk, updH_same]
   | succ i =>
    simp only [List.getD_cons_succ]
    exact q2 i (by simpa using hi)

theorem finH_at {H : Nat → Option SB} : ∀ (fs : List (Option (List Seg))) (j i : Nat), FinH H j fs → i < fs.length → H (j + i) = some (finB (fs.getD i none))
 | some l :: r, j, 0, h, hi => h.1
 | none :: r, j, 0, h, hi => h.1
 | some l :: r, j, i + 1, h, hi => by
  have := finH_at r (j + 1) i h.2 (by simpa using hi)
  rw [show j + (i + 1) = j + 1 + i by omega]; simpa using this
 | none :: r, j, i + 1, h, hi => by
  have := finH_at r (j + 1) i h.2 (by simpa using hi)
  rw [show j + (i + 1) = j + 1 + i by omega]; simpa using this

theorem eqFin_at : ∀ (fs fs' : List (Option (List Seg))) (i : Nat), eqFin fs fs' → ∀ l', fs'.getD i none = some l' → ∃ l, fs.getD i none = some l ∧ eqSegs l l'
 | [], [], i, h, l', hl => by simp at hl
 | [], _ :: _, i, h, l', hl => h.elim
 | _ :: _, [], i, h, l', hl => h.elim
 | x :: r, y :: t, 0, h, l', hl => by
  simp only [List.getD_cons_zero] at hl ⊢
  subst hl
  cases x with
  | none => exact h.1.elim
  | some l => exact ⟨l, rfl, h.1⟩
 | x :: r, y :: t, i + 1, h, l', hl => by
  simp only [List.getD_cons_succ] at hl ⊢
  exact eqFin_at r t i h.2 l' hl

end
end Go.Gx

/- Contracts in general: the theorem. -/
namespace Go.Gx
open Go.RowKit
set_option linter.unusedVariables false

section
variable {P : Program} {Γ : Tab}

theorem genCtr_run {H : Nat → Option SB} {ms : List Md} {spec : List AV → Option (List Prop × List RV × List (Option (List Seg)))} {stamp : Nat} {args : List SV} {rs rs' : List Nat} {d : Delta} (h : (genCtr ms spec stamp args).run H rs = some (d, rs')) :
  nodupN (ownKeys ms args) = true ∧ ∃ f : List Prop → List AV → RP Delta, (getA (ownKeys ms args) ms args f).run H rs = some (d, rs') ∧ ∀ p avs rs1, (f p avs).run H rs1 = some (d, rs') →
   ∃ p' rvs fin ws, spec avs = some (p', rvs, fin) ∧ finW (ownKeys ms args) fin = some ws ∧ (oneFr rvs && Nat.ble fin.length 100) = true ∧
    ((frOf rvs = none ∧ d = ⟨p ++ p', resOf stamp rvs, ws, true⟩) ∨ ∃ l, frOf rvs = some l ∧ H stamp = none ∧ d = ⟨p ++ p', resOf stamp rvs, (stamp, .segs false l) :: ws, true⟩) := by
 unfold genCtr at h
 simp only at h
 split at h
 ·rename_i hn
  refine ⟨hn, _, h, fun p avs rs1 h1 => ?_⟩
  split at h1
  ·rename_i p' rvs fin hs
   split at h1
   ·rename_i ws hws ho
    split at h1
    ·rename_i hf
     exact ⟨p', rvs, fin, ws, hs, hws, ho, .inl ⟨hf, run_ret h1⟩⟩
    ·rename_i l hf
     simp only [RP.run] at h1
     split at h1
     ·rename_i hst
      exact ⟨p', rvs, fin, ws, hs, hws, ho, .inr ⟨l, hf, hst, run_ret h1⟩⟩
     ·simp [RP.run] at h1
   ·simp [RP.run] at h1
  ·simp [RP.run] at h1
 ·simp [RP.run] at h

theorem gen_mem {w0 : World} {M : Nat → Prop} {ρ : Nat → Pl} {H : Nat → Option SB} {w : World} (hG : Glob Γ.gh w0 M) (hgl : Γ.gl = keysOf Γ.gh) (hlow : ∀ g ∈ keysOf Γ.gh, g < 490) (hm : Mem w0 M ρ H w) {ks : List Nat} (hks : ∀ k ∈ ks, ∃ l, H k = some (.segs false l)) (hnd : ks.Nodup)
  {M' : Nat → Prop} (hM' : ∀ b, M' b ↔ ∃ k ∈ ks, 0 < (ρ k).cap ∧ b = (ρ k).blk) {h6 : Heap}
  (h1 : ∀ k b, assoc h6 k = some b → ∃ i, k = 600 + i ∧ i < ks.length ∧ ∃ l l', b = .segs false l' ∧ H (ks.getD i 0) = some (.segs false l) ∧ ∀ (dm : Nat → Prop) (ρ' : Nat → Pl) (cs : List Value), SegsD (dmOf H) ρ l cs → SegsD dm ρ' l' cs)
  (h2 : ∀ i, i < ks.length → (assoc h6 (600 + i)).isSome = true) :
  ∃ ρ1 : Nat → Pl, Mem w M' ρ1 (assoc (Γ.gh ++ (490, .world) :: h6)) w ∧ GlOk Γ w M' ρ1 (assoc (Γ.gh ++ (490, .world) :: h6)) ∧ dmOf (assoc (Γ.gh ++ (490, .world) :: h6)) 490 ∧ (ρ1 490).rel = RoD w (OutB w M') ∧
   ∀ i, i < ks.length → dmOf (assoc (Γ.gh ++ (490, .world) :: h6)) (600 + i) ∧ ρ1 (600 + i) = ρ (ks.getD i 0) := by
 obtain ⟨ρg, g1, g2, g3⟩ := mem_of_glob hG hm
 have hMo : ∀ b, M' b → w0.heap.size ≤ b ∨ M b := fun b hb => by
  obtain ⟨k, hk, hc, rfl⟩ := (hM' b).1 hb
  obtain ⟨l, hl⟩ := hks k hk
  exact hm.own k l hl hc
 have hne : ∀ g b, (g, b) ∈ Γ.gh → ¬ M' g := fun g b hgb hb => by
  obtain ⟨_, _, _, _, _, q1, q2⟩ := hG g b hgb
  rcases hMo g hb with hh | hh
  ·omega
  ·exact q1 hh
 have hlow : ∀ k b, assoc Γ.gh k = some b → k < 490 := fun k b hb => hlow k (keysOf_of_dm (by unfold dmOf; rw [hb]; rfl))
 have hro : ∀ k b, assoc Γ.gh k = some b → ∃ l, b = .segs true l := fun k b hb => by
  obtain ⟨l, _, e, _⟩ := g2 k b (assoc_mem hb); exact ⟨l, e⟩
 let HH : Heap := Γ.gh ++ (490, .world) :: h6
 have hat : ∀ k b, assoc HH k = some b → (k < 490 ∧ assoc Γ.gh k = some b) ∨ (k = 490 ∧ b = .world) ∨ (600 ≤ k ∧ assoc h6 k = some b) := fun k b hb => by
  have hb : assoc (Γ.gh ++ (490, .world) :: h6) k = some b := hb
  rw [assoc_app] at hb
  split at hb
  ·rename_i x hx
   rw [hb] at hx
   exact .inl ⟨hlow k b hx, hx⟩
  ·simp only [assoc] at hb
   split at hb
   ·rename_i e
    simp only [Option.some.injEq] at hb
    exact .inr (.inl ⟨(Nat.eq_of_beq_eq_true e).symm, hb.symm⟩)
   ·obtain ⟨i, rfl, _⟩ := h1 k b hb
    exact .inr (.inr ⟨by omega, hb⟩)
 have hup : ∀ k b, assoc Γ.gh k = some b → assoc HH k = some b := fun k b hb => by
  show assoc (Γ.gh ++ (490, .world) :: h6) k = _
  rw [assoc_app, hb]
 have hnlow : ∀ k, 490 ≤ k → assoc Γ.gh k = none := fun k hk => by
  cases e : assoc Γ.gh k with
  | none => rfl
  | some b => have := hlow k b e; omega
 have h490 : assoc HH 490 = some .world := by
  show assoc (Γ.gh ++ (490, .world) :: h6) 490 = _
  rw [assoc_app, hnlow 490 (Nat.le_refl _)]
  simp [assoc]
 have hup6 : ∀ k, 600 ≤ k → assoc HH k = assoc h6 k := fun k hk => by
  show assoc (Γ.gh ++ (490, .world) :: h6) k = _
  rw [assoc_app, hnlow k (by omega)]
  have : Nat.beq 490 k = false := by
   cases hb : Nat.beq 490 k with
   | false => rfl
   | true => have := Nat.eq_of_beq_eq_true hb; omega
  simp only [assoc, this]
 let ρ1 : Nat → Pl := fun k => if k < 490 then ρg k else if k < 600 then { blk := 0, off := 0, cap := 0, rel := RoD w (OutB w M') } else ρ (ks.getD (k - 600) 0)
 have hρg : ∀ k, k < 490 → ρ1 k = ρg k := fun k hk => by simp [ρ1, hk]
 have hρ6 : ∀ i, ρ1 (600 + i) = ρ (ks.getD i 0) := fun i => by
  have h1 : ¬ (600 + i < 490) := by omega
  have h2 : ¬ (600 + i < 600) := by omega
  simp only [ρ1, h1, h2, if_false]
  rw [Nat.add_sub_cancel_left]
 have hmk : ∀ i, i < ks.length → ks.getD i 0 ∈ ks := fun i hi => by
  rw [List.getD_eq_getElem?_getD, List.getElem?_eq_getElem hi]
  exact List.getElem_mem hi
 have hinj : ∀ i i', i < ks.length → i' < ks.length → i ≠ i' → ks.getD i 0 ≠ ks.getD i' 0 := fun i i' hi hi' hne e => by
  rw [List.getD_eq_getElem?_getD, List.getD_eq_getElem?_getD, List.getElem?_eq_getElem hi, List.getElem?_eq_getElem hi'] at e
  have e : ks[i] = ks[i'] := e
  rcases Nat.lt_or_gt_of_ne hne with h | h
  ·exact List.pairwise_iff_getElem.1 hnd i i' hi hi' h e
  ·exact List.pairwise_iff_getElem.1 hnd i' i hi' hi h e.symm
 refine ⟨ρ1, ⟨⟨fun k b hb => ?_, fun k k' ro ro' l1 l2 e1 e2 hkk hr c1 c2 => ?_, fun k ro l1 e1 c1 => ?_⟩, FrameW.refl _ _, fun k l1 e1 c1 => ?_, fun k e1 => ?_, fun k l1 e1 c1 => ?_, .none (fun k kd ms e1 => by
   rcases hat k _ e1 with ⟨_, h⟩ | ⟨_, h⟩ | ⟨_, h⟩
   ·obtain ⟨_, e⟩ := hro k _ h; cases e
   ·cases h
   ·obtain ⟨i, _, h⟩ := h1 k _ h
    obtain ⟨_, _, _, e, _⟩ := h
    cases e)⟩, ⟨fun g hg => ?_, fun g b hgb => ?_⟩, by unfold dmOf; rw [h490]; rfl, by simp [ρ1], fun i hi => ⟨?_, hρ6 i⟩⟩
 ·rcases hat k b hb with ⟨hk, hb'⟩ | ⟨rfl, rfl⟩ | ⟨hk, hb'⟩
  ·refine (g1.heap.blk k b hb').of_block (fun j hj => ?_) (fun j hj => ?_) (hρg k hk) (fun _ _ _ _ => rfl)
   ·unfold dmOf at hj ⊢
    obtain ⟨b', hb''⟩ := Option.isSome_iff_exists.1 hj
    rw [hup j b' hb'']; rfl
   ·unfold dmOf at hj
    obtain ⟨b', hb''⟩ := Option.isSome_iff_exists.1 hj
    exact .of_eq (hρg j (hlow j b' hb''))
  ·trivial
  ·obtain ⟨i, rfl, hi, l, l', rfl, hl, hd⟩ := h1 k b hb'
   obtain ⟨cs, hcs, hcl, hra, hth⟩ := hm.heap.blk _ _ hl
   exact ⟨cs, hd _ _ cs hcs, by rw [hρ6]; exact hcl, by rw [hρ6]; exact hra, fun _ => by rw [hρ6]; exact hth rfl⟩
 ·have hk0 : ∀ a b lx, assoc HH a = some (.segs b lx) → 0 < (ρ1 a).cap → (a < 490 ∧ b = true ∧ ¬ M' (ρ1 a).blk) ∨ (∃ i, a = 600 + i ∧ i < ks.length ∧ M' (ρ1 a).blk) := fun a b lx ha hca => by
   rcases hat a _ ha with ⟨ha1, ha'⟩ | ⟨_, ha'⟩ | ⟨ha1, ha'⟩
   ·obtain ⟨lz, ez⟩ := hro a _ ha'
    simp only [SB.segs.injEq] at ez
    exact .inl ⟨ha1, ez.1, by rw [hρg a ha1, (g3 a).1]; exact hne a _ (assoc_mem ha')⟩
   ·cases ha'
   ·obtain ⟨i, rfl, hi, l, l', e, hl, hd⟩ := h1 a _ ha'
    exact .inr ⟨i, rfl, hi, (hM' _).2 ⟨ks.getD i 0, hmk i hi, by rw [hρ6] at hca; exact hca, by rw [hρ6]⟩⟩
  rcases hk0 k ro l1 e1 c1 with ⟨a1, a2, a3⟩ | ⟨i, rfl, hi, a3⟩
  ·rcases hk0 k' ro' l2 e2 c2 with ⟨b1, b2, b3⟩ | ⟨i', rfl, hi', b3⟩
   ·rw [a2, b2] at hr; rcases hr with hr | hr <;> cases hr
   ·intro e; rw [e] at a3; exact a3 b3
  ·rcases hk0 k' ro' l2 e2 c2 with ⟨b1, b2, b3⟩ | ⟨i', rfl, hi', b3⟩
   ·intro e; rw [e] at a3; exact b3 a3
   ·rw [hρ6] at c1 ⊢
    rw [hρ6] at c2 ⊢
    obtain ⟨l, hl⟩ := hks _ (hmk i hi)
    obtain ⟨l', hl'⟩ := hks _ (hmk i' hi')
    exact hm.heap.sep _ _ false false l l' hl hl' (hinj i i' hi hi' (fun e => hkk (by rw [e]))) (.inl rfl) c1 c2
 ·rcases hat k _ e1 with ⟨h1', h1''⟩ | ⟨_, h1'⟩ | ⟨hk, h1'⟩
  ·rw [hρg k h1'] at c1 ⊢; exact g1.heap.lt k ro l1 h1'' c1
  ·cases h1'
  ·obtain ⟨i, rfl, hi, l, l', e, hl, hd⟩ := h1 k _ h1'
   rw [hρ6] at c1 ⊢
   exact hm.heap.lt _ _ _ hl c1
 ·rcases hat k _ e1 with ⟨h1', h1''⟩ | ⟨_, h1'⟩ | ⟨hk, h1'⟩
  ·obtain ⟨lz, ez⟩ := hro k _ h1''
   simp only [SB.segs.injEq] at ez
   cases ez.1
  ·cases h1'
  ·obtain ⟨i, rfl, hi, l, l', e, hl, hd⟩ := h1 k _ h1'
   exact .inr ((hM' _).2 ⟨ks.getD i 0, hmk i hi, by rw [hρ6] at c1; exact c1, by rw [hρ6]⟩)
 ·rcases hat k _ e1 with ⟨h1', h1''⟩ | ⟨rfl, _⟩ | ⟨hk, h1'⟩
  ·obtain ⟨lz, ez⟩ := hro k _ h1''; cases ez
  ·simp [ρ1]
  ·obtain ⟨i, rfl, hi, l, l', e, hl, hd⟩ := h1 k _ h1'; cases e
 ·rcases hat k _ e1 with ⟨h1', h1''⟩ | ⟨_, h1'⟩ | ⟨hk, h1'⟩
  ·obtain ⟨lz, ez⟩ := hro k _ h1''
   simp only [SB.segs.injEq] at ez
   cases ez.1
  ·cases h1'
  ·obtain ⟨i, rfl, hi, l, l', e, hl, hd⟩ := h1 k _ h1'
   rw [hρ6] at c1 ⊢
   exact hm.clean _ _ hl c1
 ·have hdm : dmOf (assoc Γ.gh) g := assoc_dm (by rw [← hgl]; exact hg)
  unfold dmOf at hdm
  obtain ⟨b', hb''⟩ := Option.isSome_iff_exists.1 hdm
  refine ⟨by unfold dmOf; rw [hup g b' hb'']; rfl, ?_, ?_⟩
  ·rw [hρg g (hlow g b' hb'')]; exact (g3 g).1
  ·rw [hρg g (hlow g b' hb'')]; exact (g3 g).2
 ·obtain ⟨lz, vz, q0, q1, q2, _, q4⟩ := g2 g b hgb
  exact ⟨lz, vz, q0, q1, q2, hne g b hgb, q4⟩
 ·unfold dmOf
  rw [hup6 _ (by omega)]
  exact h2 i hi

theorem gen_core (hΓ : TabOk P Γ) (hgl : Γ.gl = keysOf Γ.gh) (hlow : ∀ g ∈ keysOf Γ.gh, g < 490) {f : FuncId} {fn : Func} (hf : P.funcs[f]? = some fn)
  {w0 : World} {M : Nat → Prop} {ρ : Nat → Pl} {H : Nat → Option SB} {w : World} (hG : Glob Γ.gh w0 M) (hm : Mem w0 M ρ H w) {ks : List Nat} (hnd : ks.Nodup) {avs : List AV} {vs : List Value} {M' : Nat → Prop} (hM'' : ∀ b, M' b ↔ ∃ k ∈ ks, 0 < (ρ k).cap ∧ b = (ρ k).blk) (hA : AsD w (OutB w M') H ρ avs vs ks)
  {rvs : List RV} {fin : List (Option (List Seg))} {args' : List SV} {h6 : Heap} {L : Loops} {inv : Nat → List Pv → Nat → Prop} (k1 : okA 600 avs args' h6) (k2 : args'.length ≤ fn.ntmps)
  (k3 : VcG fin.length Γ fn L (Γ.gh ++ (490, .world) :: h6) args' (fun rvs' fin' => eqRVs rvs' rvs ∧ eqFin fin' fin) inv) (ho : oneFr rvs = true) (hsmall : fin.length ≤ 100) (hfl : fin.length = ks.length)
  {stamp : Nat} (hst : frOf rvs ≠ none → H stamp = none) {H' : Nat → Option SB} (hk1 : ∀ k, k ∉ ks → k ≠ stamp → H' k = H k) (hk2 : frOf rvs = none → ∀ k, k ∉ ks → H' k = H k)
  (hk3 : ∀ i, i < ks.length → H' (ks.getD i 0) = some (finB (fin.getD i none))) (hk4 : ∀ l, frOf rvs = some l → H' stamp = some (.segs false l)) :
  Calls P f vs.toArray w fun e w' => ∃ v ρ'', e = .returned v ∧ Ext H ρ ρ'' ∧ D (dmOf H') ρ'' (resOf stamp rvs) v ∧ Mem w0 M ρ'' H' w' ∧ FrameW M' w w' ∧ (∀ k, k ≠ stamp → ρ'' k = ρ k) ∧ (frOf rvs = none → ρ'' = ρ) ∧
   (frOf rvs ≠ none → 0 < (ρ'' stamp).cap → w.heap.size ≤ (ρ'' stamp).blk ∨ M' (ρ'' stamp).blk) := by
 have hkeys := AsD.keys avs vs ks hA
 obtain ⟨hh1, hh2⟩ := okA_heap avs vs ks 600 args' h6 hA k1
 obtain ⟨ρ1, m1, m2, m3, m4, m5⟩ := gen_mem hG hgl hlow hm hkeys hnd hM'' hh1 hh2
 have hargs := okA_args m3 m4 avs vs ks 600 args' h6 hA k1 m5
 refine (vcG_calls hΓ hf k3 k2 m2 m1 hargs).mono fun e w' he => ?_
 obtain ⟨x, v, h', ρ', rfl, r1, r2, r3, r4⟩ := he
 obtain ⟨rvs', fin', ⟨t1, t2⟩, t3, t4, t5⟩ := kvG_sound r3 r2 r1
 obtain ⟨pl, u1, u2⟩ := res_of r3 t3 t1 ho
 have hρ6 : ∀ i, i < ks.length → PlLe (ρ (ks.getD i 0)) (ρ' (600 + i)) := fun i hi => by
  have := (r4 _ (m5 i hi).1).2
  rwa [(m5 i hi).2] at this
 have hmk : ∀ i, i < ks.length → ks.getD i 0 ∈ ks := fun i hi => by
  rw [List.getD_eq_getElem?_getD, List.getElem?_eq_getElem hi]
  exact List.getElem_mem hi
 have hidx : ∀ k ∈ ks, ∃ i, i < ks.length ∧ ks.getD i 0 = k := fun k hk => by
  obtain ⟨i, hi, e⟩ := List.getElem_of_mem hk
  exact ⟨i, hi, by rw [List.getD_eq_getElem?_getD, List.getElem?_eq_getElem hi]; exact e⟩
 have hMo : ∀ b, M' b → w0.heap.size ≤ b ∨ M b := fun b hb => by
  obtain ⟨k, hk, hc, rfl⟩ := (hM'' b).1 hb
  obtain ⟨l, hl⟩ := hkeys k hk
  exact hm.own k l hl hc
 -- the records, at the end
 have hrec : ∀ i, i < ks.length → ∀ l', fin.getD i none = some l' → ∃ l, assoc h' (600 + i) = some (.segs false l) ∧ eqSegs l l' := fun i hi l' hl' => by
  obtain ⟨l, q1, q2⟩ := eqFin_at fin' fin i t2 l' hl'
  have := finH_at fin' 600 i t4 (by omega)
  rw [q1] at this
  exact ⟨l, this, q2⟩
 have main : ∀ (T : Nat → Prop) (ρ'' : Nat → Pl), (∀ k, T k ↔ k ∈ ks ∨ (k = stamp ∧ frOf rvs ≠ none)) → (∀ k, k ≠ stamp → ρ'' k = ρ k) → (frOf rvs = none → ρ'' = ρ) → (frOf rvs ≠ none → ρ'' stamp = pl) → Mem w0 M ρ'' H' w' := by
  intro T ρ'' hTd hr1 hr2 hr3
  have hstk : frOf rvs ≠ none → stamp ∉ ks := fun hne hmem => by
   obtain ⟨l, hl⟩ := hkeys stamp hmem
   rw [hst hne] at hl; cases hl
  have hρk : ∀ k ∈ ks, ρ'' k = ρ k := fun k hk => by
   by_cases e : frOf rvs = none
   ·rw [hr2 e]
   ·exact hr1 k fun e' => hstk e (e' ▸ hk)
  refine Mem.merge hm r3.frame (T := T) (fun k hk => ?_) (fun k hk => ?_) (fun k hk => ?_) hMo (fun k ro l hk hkk hc hb => ?_) (fun k b hk hkb => ?_) (fun k kd ms hk e => by
   rcases (hTd k).1 hk with h | ⟨h, h2⟩
   ·obtain ⟨i, hi, rfl⟩ := hidx k h
    rw [hk3 i hi] at e
    cases hfi : fin.getD i none <;> rw [hfi] at e <;> cases e
   ·subst h
    cases hfr : frOf rvs with
    | none => exact h2 hfr
    | some l => rw [hk4 l hfr] at e; cases e) (fun k kd ms i c hk hi h0 hb => by
   obtain ⟨k0, hk0, hc0, e⟩ := (hM'' _).1 hb
   obtain ⟨l0, hl0⟩ := hkeys k0 hk0
   exact hm.pools.apartD k kd ms k0 false l0 i c hk hl0 hc0 hi h0 e.symm) (fun k k' l l' t1 t2 hkk e1 e2 c1 c2 => ?_)
  ·have hk := fun h => hk ((hTd k).2 h)
   by_cases e : frOf rvs = none
   ·exact hk2 e k fun h => hk (.inl h)
   ·exact hk1 k (fun h => hk (.inl h)) fun h => hk (.inr ⟨h, e⟩)
  ·by_cases e : frOf rvs = none
   ·rw [hr2 e]
   ·refine hr1 k fun e' => ?_
    subst e'
    unfold dmOf at hk
    rw [hst e] at hk; cases hk
  ·by_cases e : k ∈ ks
   ·obtain ⟨i, hi, rfl⟩ := hidx k e
    unfold dmOf; rw [hk3 i hi]; rfl
   ·by_cases e' : k = stamp
    ·by_cases e2 : frOf rvs = none
     ·unfold dmOf at hk ⊢; rw [hk2 e2 k e]; exact hk
     ·subst e'
      unfold dmOf at hk
      rw [hst e2] at hk; cases hk
    ·unfold dmOf at hk ⊢; rw [hk1 k e e']; exact hk
  ·obtain ⟨k0, hk0, hc0, e⟩ := (hM'' _).1 hb
   obtain ⟨l0, hl0⟩ := hkeys k0 hk0
   have hne : k ≠ k0 := fun e => hk ((hTd k).2 (.inl (e ▸ hk0)))
   exact hm.heap.sep k k0 ro false l l0 hkk hl0 hne (.inr rfl) hc hc0 e
  ·rcases (hTd k).1 hk with hk | ⟨rfl, hne⟩
   ·obtain ⟨i, hi, rfl⟩ := hidx k hk
    rw [hk3 i hi] at hkb
    simp only [Option.some.injEq] at hkb
    subst hkb
    cases hfi : fin.getD i none with
    | none => exact ⟨⟨by simp [finB], fun _ _ => by simp [finB]⟩, fun ro l e => by cases e⟩
    | some l' =>
     refine ⟨⟨by simp [finB], fun _ _ => by simp [finB]⟩, fun ro l e => ?_⟩
     simp only [finB, SB.segs.injEq] at e
     obtain ⟨rfl, rfl⟩ := e
     obtain ⟨l1, q1, q2⟩ := hrec i hi l' hfi
     obtain ⟨cs, s1, s2, s3, s4⟩ := r3.segs q1
     rw [hρk _ hk, ← (hρ6 i hi).blk, ← (hρ6 i hi).off, ← (hρ6 i hi).cap]
     refine ⟨rfl, ⟨cs, eqSegs_D l1 l' cs q2 s1, s2, s3, s4 rfl⟩, fun hc => ⟨r3.heap.lt _ _ _ q1 hc, ?_, r3.clean _ _ q1 hc⟩⟩
     exact r3.own _ _ q1 hc
   ·cases hfr : frOf rvs with
    | none => exact absurd hfr hne
    | some l0 =>
     rw [hk4 l0 hfr] at hkb
     simp only [Option.some.injEq] at hkb
     subst hkb
     refine ⟨⟨by simp, fun _ _ => by simp⟩, fun ro l e => ?_⟩
     simp only [SB.segs.injEq] at e
     obtain ⟨rfl, rfl⟩ := e
     obtain ⟨cs, s1, s2, s3, s4, s5⟩ := u1 l0 hfr
     rw [hr3 hne]
     refine ⟨rfl, ⟨cs, s1, s2, s3, s4⟩, fun hc => ?_⟩
     obtain ⟨key, lk, z1, z2, z3, z4⟩ := s5 hc
     rw [z3]
     exact ⟨r3.heap.lt key _ _ z2 z4, r3.own key _ z2 z4, r3.clean key _ z2 z4⟩
  ·have hone : ∀ k l, k ∈ ks → H' k = some (.segs false l) → 0 < (ρ'' k).cap → ∃ i, i < ks.length ∧ ks.getD i 0 = k ∧ ∃ l1, assoc h' (600 + i) = some (.segs false l1) ∧ (ρ'' k).blk = (ρ' (600 + i)).blk ∧ (ρ'' k).cap = (ρ' (600 + i)).cap := fun k l hk e c => by
    obtain ⟨i, hi, rfl⟩ := hidx k hk
    rw [hk3 i hi] at e
    simp only [Option.some.injEq] at e
    cases hfi : fin.getD i none with
    | none => rw [hfi] at e; cases e
    | some l' =>
     obtain ⟨l1, q1, q2⟩ := hrec i hi l' hfi
     exact ⟨i, hi, rfl, l1, q1, by rw [hρk _ hk, (hρ6 i hi).blk], by rw [hρk _ hk, (hρ6 i hi).cap]⟩
   have hfr : ∀ l, frOf rvs ≠ none → H' stamp = some (.segs false l) → 0 < (ρ'' stamp).cap → ∃ key l', 1000 ≤ key ∧ assoc h' key = some (.segs false l') ∧ (ρ'' stamp).blk = (ρ' key).blk ∧ 0 < (ρ' key).cap := fun l hne e c => by
    cases hfr : frOf rvs with
    | none => exact absurd hfr hne
    | some l0 =>
     obtain ⟨cs, s1, s2, s3, s4, s5⟩ := u1 l0 hfr
     rw [hr3 hne] at c ⊢
     exact s5 c
   rcases (hTd k).1 t1 with hk | ⟨rfl, hne⟩
   ·obtain ⟨i, hi, rfl, la, q1, q2⟩ := hone k l hk e1 c1
    rcases (hTd k').1 t2 with hk' | ⟨rfl, hne⟩
    ·obtain ⟨i', hi', rfl, lb, q1', q2'⟩ := hone k' l' hk' e2 c2
     rw [q2.2] at c1
     rw [q2'.2] at c2
     rw [q2.1, q2'.1]
     exact r3.heap.sep _ _ false false la lb q1 q1' (fun e => hkk (by rw [show i = i' by omega])) (.inl rfl) c1 c2
    ·obtain ⟨key, lk, z1, z2, z3, z4⟩ := hfr l' hne e2 c2
     rw [q2.2] at c1
     rw [q2.1]
     rw [z3]
     by_cases e : 600 + i = key
     ·exfalso
      omega
     ·exact r3.heap.sep _ _ false false la lk q1 z2 e (.inl rfl) c1 z4
   ·obtain ⟨key, lk, z1, z2, z3, z4⟩ := hfr l hne e1 c1
    rcases (hTd k').1 t2 with hk' | ⟨rfl, _⟩
    ·obtain ⟨i', hi', rfl, lb, q1', q2'⟩ := hone k' l' hk' e2 c2
     rw [q2'.2] at c2
     rw [q2'.1]
     rw [z3]
     by_cases e : 600 + i' = key
     ·exfalso
      omega
     ·exact r3.heap.sep _ _ false false lk lb z2 q1' (Ne.symm e) (.inl rfl) z4 c2
    ·exact absurd rfl hkk
 cases hfr : frOf rvs with
 | none =>
  exact ⟨v, ρ, rfl, fun k _ => .refl _, u2 _ _ _ (fun h => absurd hfr h), main (fun k => k ∈ ks ∨ (k = stamp ∧ frOf rvs ≠ none)) ρ (fun k => .rfl) (fun _ _ => rfl) (fun _ => rfl) (fun h => absurd hfr h), r3.frame, fun _ _ => rfl, fun _ => rfl, fun h => absurd rfl h⟩
 | some l =>
  have hne : frOf rvs ≠ none := by rw [hfr]; simp
  refine ⟨v, updP ρ stamp pl, rfl, updP_keeps (hst hne), u2 _ _ _ (fun _ => ⟨by unfold dmOf; rw [hk4 l hfr]; rfl, updP_same _ _ _⟩), main (fun k => k ∈ ks ∨ (k = stamp ∧ frOf rvs ≠ none)) (updP ρ stamp pl) (fun k => .rfl) (fun k hk => updP_ne hk) (fun h => absurd h hne) (fun _ => updP_same _ _ _), r3.frame, fun k hk => updP_ne hk, fun h => by (cases h), fun _ hc => ?_⟩
  rw [updP_same] at hc ⊢
  obtain ⟨cs, s1, s2, s3, s4, s5⟩ := u1 l hfr
  obtain ⟨key, lk, z1, z2, z3, z4⟩ := s5 hc
  rw [z3]
  exact r3.own key lk z2 z4

theorem call_gen (hΓ : TabOk P Γ) (hgl : Γ.gl = keysOf Γ.gh) (hlow : ∀ g ∈ keysOf Γ.gh, g < 490) {f : FuncId} {fn : Func} (hf : P.funcs[f]? = some fn) (hn : (fn.name == "runtime.NumGoroutine") = false) (hb : fn.body.isNone = false)
  (ms : List Md) (spec : List AV → Option (List Prop × List RV × List (Option (List Seg))))
  (h : ∀ avs p rvs fin, spec avs = some (p, rvs, fin) → AllP p → FactA avs → ∃ args' h6 L inv, okA 600 avs args' h6 ∧ args'.length ≤ fn.ntmps ∧ VcG fin.length Γ fn L (Γ.gh ++ (490, .world) :: h6) args' (fun rvs' fin' => eqRVs rvs' rvs ∧ eqFin fin' fin) inv) : CallOk P Γ.gh f (genCtr ms spec) := by
 intro stamp args H rs rs' d vs w0 M ρ w hG hc hp hD hm
 obtain ⟨hnd0, f0, hget, hf0⟩ := genCtr_run hc
 have hnd := nodupN_iff hnd0
 generalize hks : ownKeys ms args = ks at *
 let M' : Nat → Prop := fun b => ∃ k ∈ ks, (∃ l, H k = some (.segs false l)) ∧ 0 < (ρ k).cap ∧ b = (ρ k).blk
 have hB : BanOk w0 M ρ H w ks M' := ⟨fun key ro l hban hkey hc hb => by
  obtain ⟨k, hk, ⟨l', hl'⟩, hc', e⟩ := hb
  have hne : key ≠ k := fun e => by subst e; rw [memN_iff.2 hk] at hban; cases hban
  exact hm.heap.sep key k ro false l l' hkey hl' hne (.inr rfl) hc hc' e, fun b hb hnM hb' => by
  obtain ⟨k, hk, ⟨l', hl'⟩, hc', rfl⟩ := hb'
  rcases hm.own k l' hl' hc' with h | h
  ·omega
  ·exact hnM h, fun key k ms i c _ _ hkey hi hc hb => by
  obtain ⟨k0, hk0, ⟨l', hl'⟩, hc', e⟩ := hb
  exact hm.pools.apartD key k ms k0 false l' i c hkey hl' hc' hi hc e.symm⟩
 obtain ⟨p, avs, rs1, hrun, hAs⟩ := getA_sound P hm hB ms args vs f0 d rs rs' hD hget
 obtain ⟨p', rvs, fin, ws, hs, hws, ho, hcase⟩ := hf0 p avs rs1 hrun
 simp only [Bool.and_eq_true] at ho
 have hsmall := Nat.le_of_ble_eq_true ho.2
 have ho := ho.1
 have hpp : AllP p ∧ AllP p' := by
  rcases hcase with ⟨_, rfl⟩ | ⟨l, _, _, rfl⟩ <;> exact AllP.append (l := p) (r := p') hp
 have hA := hAs hpp.1
 rw [hks] at hA
 have hkeys := AsD.keys avs vs ks hA
 obtain ⟨args', h6, L, inv, k1, k2, k3⟩ := h avs p' rvs fin hs hpp.2 (AsD.fact hm avs vs ks hA)
 have hM'' : ∀ b, M' b ↔ ∃ k ∈ ks, 0 < (ρ k).cap ∧ b = (ρ k).blk := fun b => ⟨fun ⟨k, a, _, c⟩ => ⟨k, a, c⟩, fun ⟨k, a, c⟩ => ⟨k, a, hkeys k a, c⟩⟩
 have hfl := finW_len hws
 obtain ⟨up1, up2⟩ := finW_upd hws hnd H
 refine .inr ⟨f, _, GoFn.run ⟨fn, hf, hn, hb⟩ _ _, ?_⟩
 rcases hcase with ⟨hfn, rfl⟩ | ⟨l, hfs, hst, rfl⟩
 ·refine (gen_core hΓ hgl hlow hf hG hm hnd hM'' hA k1 k2 k3 ho hsmall hfl (stamp := stamp) (fun h => absurd hfn h) (H' := updsH H ws) (fun k hk _ => up1 k hk) (fun _ k hk => up1 k hk) up2 (fun l hl => by rw [hfn] at hl; cases hl)).mono fun e w' he => ?_
  obtain ⟨v, ρ'', rfl, q1, q2, q3, _⟩ := he
  exact ⟨v, rfl, ρ'', q1, q2, q3⟩
 ·have hstk : stamp ∉ ks := fun hmem => by
   obtain ⟨l, hl⟩ := hkeys stamp hmem
   rw [hst] at hl; cases hl
  obtain ⟨up1', up2'⟩ := finW_upd hws hnd (updH H stamp (.segs false l))
  have hne : frOf rvs ≠ none := by rw [hfs]; simp
  have hH : ∀ k, updsH H ((stamp, .segs false l) :: ws) k = updsH (updH H stamp (.segs false l)) ws k := fun k => rfl
  have hstv : updsH H ((stamp, .segs false l) :: ws) stamp = some (.segs false l) := by rw [hH, up1' stamp hstk, updH_same]
  refine (gen_core hΓ hgl hlow hf hG hm hnd hM'' hA k1 k2 k3 ho hsmall hfl (stamp := stamp) (fun _ => hst) (H' := updsH H ((stamp, .segs false l) :: ws)) (fun k hk hks => by rw [hH, up1' k hk, updH_ne hks]) (fun h => absurd h hne) (fun i hi => by rw [hH]; exact up2' i hi) (fun l' hl => by rw [hfs] at hl; simp only [Option.some.injEq] at hl; subst hl; exact hstv)).mono fun e w' he => ?_
  obtain ⟨v, ρ'', rfl, q1, q2, q3, _⟩ := he
  exact ⟨v, rfl, ρ'', q1, q2, q3⟩

end
end Go.Gx

/- Write and Clone, as general contracts. -/
namespace Go.Gx
open Go.Proofs Go.Sp
set_option linter.unusedVariables false
set_option maxRecDepth 100000

theorem glow : ∀ g ∈ keysOf gh, g < 490 := fun g hg => by have hg : g ∈ [3, 4] := hg; simp at hg; omega
def R23 (ws bl : List Int) (n : Int) (m : Bool) : List Seg := [.arr .u64 8 false ws, .arr .u8 128 false bl, .one (.i .i64 ⟨false, n⟩), .one (.b false m)]
def H6 (l : List Seg) : Heap := gh ++ (490, .world) :: [(600, .segs false l)]
def L23g : Loops := [(1, ⟨[.p 600 0, .ro 490 (.ints .u8) (.l [])] ++ reps .any 48, H6 (R23 [] [] 0 false), 2000⟩)]
def vc23g (ws bl : List Int) (n : Int) (m : Bool) (d : RO) (K : List RV → List (Option (List Seg)) → Prop) (Q : Nat → List Pv → Prop) : Prop := fnVcG 1 Γ5 Tryd.f61 L23g [.p 600 0, .ro 490 (.ints .u8) d] (H6 (R23 ws bl n m)) K Q
def lc23g (d : RO) (k ws bl : List Int) (n : Int) (m : Bool) (K : List RV → List (Option (List Seg)) → Prop) (Q : Nat → List Pv → Prop) : Prop := loopVcG 1 Γ5 Tryd.f61 L23g 1 [.ro d, .l k, .l ws, .l bl, .z n, .b m] K Q
def vc23n (d : RO) (K : List RV → List (Option (List Seg)) → Prop) (Q : Nat → List Pv → Prop) : Prop := fnVcG 0 Γ5 Tryd.f61 [] [.np, .ro 490 (.ints .u8) d] (gh ++ (490, .world) :: []) K Q
theorem vc23g_eq : ∀ (ws bl : List Int) (n : Int) (m : Bool) (d : RO) (K : List RV → List (Option (List Seg)) → Prop) (Q : Nat → List Pv → Prop), vc23g ws bl n m d K Q = ForA .u64 8 ws fun x1 => ForA .u8 128 bl fun x2 => ForI .i64 n fun x3 => ∀ (x4 : Bool), x4 = !m → (x4 = true → K [] [some [Seg.arr .u64 8 false x1, Seg.arr .u8 128 false x2, Seg.one (SV.i .i64 { st := false, z := x3 }), Seg.one (SV.b false m)]]) ∧ (x4 = false → ForI .i64 (IntKind.i64.wrap (1152921504606846976 - x3)) fun x5 => (decide (((roL d).length : Int) > x5) = true → K [] [some [Seg.arr .u64 8 false x1, Seg.arr .u8 128 false x2, Seg.one (SV.i .i64 { st := false, z := x3 }), Seg.one (SV.b false m)]]) ∧ (decide (((roL d).length : Int) > x5) = false → Same Tryd.f61 1 (itemsOf Tryd.f61 1) ∧ Q 1 [Pv.ro d, Pv.l K80, Pv.l x1, Pv.l x2, Pv.z x3, Pv.b m])) := by
 intros
 kernel_rfl
theorem lc23g_eq : ∀ (d : RO) (k ws bl : List Int) (n : Int) (m : Bool) (K : List RV → List (Option (List Seg)) → Prop) (Q : Nat → List Pv → Prop), lc23g d k ws bl n m K Q = ((decide (((roL d).length : Int) > 0) = true → ForI .i64 (n.tmod (128 : Int)) fun x1 => Need (0 ≤ x1 ∧ x1 ≤ 128 ∧ (128 : Int) ≤ 128) ∧ Need (x1 + (128 - x1) ≤ (128 : Int)) ∧ ForA .u64 8 ws fun x2 => ForA .u8 128 (splice bl x1.toNat (List.take (128 - x1).toNat (roL d))) fun x3 => ForI .i64 n fun x4 => ForI .i64 (min (((roL d).length : Int)) (128 - x1)) fun x5 => Need (0 ≤ x5 ∧ x5 ≤ ((roL d).length : Int) ∧ ((roL d).length : Int) ≤ ((roL d).length : Int)) ∧ ForI .i64 (IntKind.i64.wrap (x4 + x5)) fun x6 => ForI .i64 (IntKind.i64.wrap (x1 + x5)) fun x7 => ((x7 == 128) = true → ForA .u64 8 (compr x2 x3) fun x8 => ForA .u8 128 x3 fun x9 => ForI .i64 x6 fun x10 => Same Tryd.f61 1 (itemsOf Tryd.f61 1) ∧ Q 1 [Pv.ro (RO.l (List.take (((roL d).length : Int) - x5).toNat (List.drop x5.toNat (roL d)))), Pv.l k, Pv.l x8, Pv.l x9, Pv.z x10, Pv.b m]) ∧ ((x7 == 128) = false → Same Tryd.f61 1 (itemsOf Tryd.f61 1) ∧ Q 1 [Pv.ro (RO.l (List.take (((roL d).length : Int) - x5).toNat (List.drop x5.toNat (roL d)))), Pv.l k, Pv.l x2, Pv.l x3, Pv.z x6, Pv.b m])) ∧ (decide (((roL d).length : Int) > 0) = false → K [] [some [Seg.arr .u64 8 false ws, Seg.arr .u8 128 false bl, Seg.one (SV.i .i64 { st := false, z := n }), Seg.one (SV.b false m)]])) := by
 intros
 kernel_rfl
theorem vc23n_eq : ∀ (d : RO) (K : List RV → List (Option (List Seg)) → Prop) (Q : Nat → List Pv → Prop), vc23n d K Q = K [] [] := by
 intros
 kernel_rfl
def wrR (ws bl : List Int) (n : Int) (m : Bool) (b : List Int) : List Seg := R23 (wr m ⟨ws, bl, n⟩ b).ws (wr m ⟨ws, bl, n⟩ b).bl (wr m ⟨ws, bl, n⟩ b).n m
def writeG : List AV → Option (List Prop × List RV × List (Option (List Seg)))
 | [.m [.arr .u64 8 _ ws, .arr .u8 128 _ bl, .one (.i .i64 n), .one (.b _ m)], .d (.ints .u8) d] => some ([m = true → 0 ≤ n.z ∧ n.z ≤ 1152921504606846976], [], [some (wrR ws bl n.z m (roL d))])
 | [.v .np, .d (.ints .u8) d] => some ([], [], [])
 | _ => none
theorem eqR (ws bl : List Int) (n : Int) (m : Bool) : eqSegs (R23 ws bl n m) (R23 ws bl n m) := ⟨⟨rfl, rfl, rfl⟩, ⟨rfl, rfl, rfl⟩, ⟨rfl, rfl⟩, ⟨rfl, rfl⟩, trivial⟩
theorem eqR' {e1 e2 e3 e4 : Bool} (ws bl : List Int) (n : Int) (m : Bool) : eqSegs [.arr .u64 8 e1 ws, .arr .u8 128 e2 bl, .one (.i .i64 ⟨e3, n⟩), .one (.b e4 m)] (R23 ws bl n m) := ⟨⟨rfl, rfl, rfl⟩, ⟨rfl, rfl, rfl⟩, ⟨rfl, rfl⟩, ⟨rfl, rfl⟩, trivial⟩
def inv23g (b : List Int) (s : HS) (m : Bool) (key : Nat) (ps : List Pv) (mm : Nat) : Prop :=
 key = 1 ∧ ∃ (j : Nat) (d : RO), j ≤ b.length ∧ roL d = b.drop j ∧ ps = [.ro d, .l K80, .l (feed (b.take j) s).ws, .l (feed (b.take j) s).bl, .z (feed (b.take j) s).n, .b m] ∧ mm = b.length - j

set_option maxHeartbeats 2000000 in
theorem writeG_ok : CallOk Tryd.prog gh 61 (genCtr [.m, .d (.ints .u8)] writeG) := by
 refine call_gen (fn := Tryd.f61) Γ5_ok rfl glow rfl (by kernel_rfl) (by kernel_rfl) _ writeG fun av p rvs fin hs hp hf => ?_
 unfold writeG at hs
 split at hs
 ·rename_i e1 ws e2 bl n e3 m d
  simp only [Option.some.injEq, Prod.mk.injEq] at hs
  obtain ⟨rfl, rfl, rfl⟩ := hs
  obtain ⟨⟨⟨hws, _⟩, ⟨hbl, hblr⟩, hn, _, _⟩, ⟨hdr, hdl⟩, _⟩ := hf
  obtain ⟨nT, n⟩ := n
  dsimp only at *
  have hp : m = true → 0 ≤ n ∧ n ≤ 1152921504606846976 := hp.1
  generalize hb : roL d = b at *
  refine ⟨[.p 600 0, .ro 490 (.ints .u8) d], [(600, .segs false (R23 ws bl n m))], L23g, fun key ps mm => m = true ∧ n + (b.length : Int) ≤ 1152921504606846976 ∧ inv23g b ⟨ws, bl, n⟩ m key ps mm, ⟨rfl, rfl, ⟨_, rfl, eqR' ws bl n m⟩, rfl, trivial⟩, Nat.le_of_ble_eq_true (by kernel_rfl), ?_, ?_, ?_⟩
  ·intro k t ht g hg
   have hg : g ∈ [3, 4, 490, 600] := hg
   simp only [List.mem_cons, List.not_mem_nil, or_false] at hg
   simp only [L23g, List.mem_cons, List.not_mem_nil, or_false, Prod.mk.injEq] at ht
   obtain ⟨rfl, rfl⟩ := ht
   rcases hg with rfl | rfl | rfl | rfl <;> exact ⟨by omega, rfl⟩
  ·rintro vk t ps mm ht ⟨rfl, hle, rfl, j, d', hj, hd', rfl, rfl⟩
   simp only [L23g, List.mem_cons, List.not_mem_nil, or_false, Prod.mk.injEq] at ht
   obtain ⟨_, rfl⟩ := ht
   show lc23g d' K80 (feed (b.take j) ⟨ws, bl, n⟩).ws (feed (b.take j) ⟨ws, bl, n⟩).bl (feed (b.take j) ⟨ws, bl, n⟩).n true _ _
   rw [lc23g_eq]
   rw [hd']
   obtain ⟨hn0, hn1⟩ := hp rfl
   have hfn := feed_n (b.take j) ⟨ws, bl, n⟩
   rw [List.length_take, Nat.min_eq_left hj] at hfn
   have hfb := feed_bl (b.take j) ⟨ws, bl, n⟩
   dsimp only at hfn hfb
   have hdl' : ((b.drop j).length : Int) = (b.length : Int) - j := by rw [List.length_drop]; omega
   rw [hdl']
   generalize hS : feed (b.take j) ⟨ws, bl, n⟩ = S at hfn hfb ⊢
   refine ⟨fun hlt => ?_, fun hge => ?_⟩
   ·have hlt := of_decide_eq_true hlt
    intro x1 e1 _
    have hx1 : x1 = S.n % 128 := by rw [e1, Int.tmod_eq_emod_of_nonneg (by omega)]
    refine ⟨need_of (by omega), need_of (by omega), fun x2 e2 l2 r2 x3 e3 l3 r3 x4 e4 r4 x5 e5 r5 => ?_⟩
    refine ⟨need_of (by omega), fun x6 e6 r6 x7 e7 r7 => ?_⟩
    rw [wrap_i64 (by omega)] at e6 e7
    obtain ⟨c, rfl⟩ : ∃ c : Nat, x5 = (c : Int) := ⟨x5.toNat, by omega⟩
    have htk : List.take ((128 : Int) - x1).toNat (List.drop j b) = (b.drop j).take c := by
     rcases Nat.lt_or_ge ((128 : Int) - x1).toNat (b.length - j) with h | h
     ·rw [show ((128 : Int) - x1).toNat = c by omega]
     ·rw [List.take_of_length_le (by rw [List.length_drop]; omega), List.take_of_length_le (by rw [List.length_drop]; omega)]
    rw [htk] at e3
    have hcl : ((b.drop j).take c).length = c := by rw [List.length_take, List.length_drop]; omega
    have hnext : feed (b.take (j + c)) ⟨ws, bl, n⟩ = feed ((b.drop j).take c) S := by
     rw [List.take_add, feed_append, hS]
    have hch := feed_chunk ((b.drop j).take c) S (by omega) (by rw [hfb]; exact hbl) (by rw [hcl]; omega) (fun h => by rw [h] at hcl; simp at hcl; omega)
    rw [hcl] at hch
    have hx1n : x1.toNat = (S.n % 128).toNat := by rw [hx1]
    have hd2 : roL (.l (List.take ((b.length : Int) - j - c).toNat (List.drop ((c : Nat) : Int).toNat (List.drop j b)))) = b.drop (j + c) := by
     show List.take _ _ = _
     rw [Int.toNat_natCast, List.drop_drop, List.take_of_length_le (by rw [List.length_drop]; omega)]
    refine ⟨fun h7 => ?_, fun h7 => ?_⟩
    ·have h7 := of_decide_eq_true h7
     intro x8 e8 _ _ x9 e9 _ _ x10 e10 _
     refine ⟨rfl, b.length - (j + c), by omega, rfl, hle, rfl, j + c, _, by omega, hd2, ?_, rfl⟩
     rw [hnext, hch, if_pos (by omega)]
     dsimp only
     rw [e10, e6, e9, e8, e2, e3, e4, hx1n]
    ·have h7 := of_decide_eq_false h7
     refine ⟨rfl, b.length - (j + c), by omega, rfl, hle, rfl, j + c, _, by omega, hd2, ?_, rfl⟩
     rw [hnext, hch, if_neg (by omega)]
     dsimp only
     rw [e6, e2, e3, e4, hx1n]
   ·have hge := of_decide_eq_false hge
    obtain rfl : j = b.length := by omega
    rw [List.take_of_length_le (Nat.le_refl _)] at hS
    have hw : wr true ⟨ws, bl, n⟩ b = S := by unfold wr; rw [if_pos ⟨rfl, by dsimp only; omega⟩, hS]
    unfold wrR
    rw [hw]
    exact ⟨trivial, eqR _ _ _ _, trivial⟩
  ·show vc23g ws bl n m d _ _
   rw [vc23g_eq]
   rw [hb]
   intro x1 e1 _ _ x2 e2 _ _ x3 e3 _ x4 e4
   subst e1 e2 e3
   refine ⟨fun h4 => ?_, fun h4 => ?_⟩
   ·obtain rfl : m = false := by rw [e4] at h4; simpa using h4
    have hw : wr false ⟨x1, x2, x3⟩ b = ⟨x1, x2, x3⟩ := by unfold wr; rw [if_neg (fun h => by cases h.1)]
    unfold wrR
    rw [hw]
    exact ⟨trivial, eqR _ _ _ _, trivial⟩
   ·obtain rfl : m = true := by rw [e4] at h4; simpa using h4
    obtain ⟨hn0, hn1⟩ := hp rfl
    intro x5 e5 _
    rw [wrap_i64 (by omega)] at e5
    refine ⟨fun h => ?_, fun h => ?_⟩
    ·have h := of_decide_eq_true h
     have hw : wr true ⟨x1, x2, x3⟩ b = ⟨x1, x2, x3⟩ := by unfold wr; rw [if_neg (fun h' => by have := h'.2; dsimp only at this; omega)]
     unfold wrR
     rw [hw]
     exact ⟨trivial, eqR _ _ _ _, trivial⟩
    ·have h := of_decide_eq_false h
     exact ⟨rfl, b.length - 0, rfl, by omega, rfl, 0, d, by omega, by rw [hb]; rfl, rfl, rfl⟩
 ·rename_i d
  simp only [Option.some.injEq, Prod.mk.injEq] at hs
  obtain ⟨rfl, rfl, rfl⟩ := hs
  refine ⟨[.np, .ro 490 (.ints .u8) d], [], [], _, ⟨trivial, rfl, trivial⟩, Nat.le_of_ble_eq_true (by kernel_rfl), vcG_noloops ?_⟩
  show vc23n d _ _
  rw [vc23n_eq]
  exact ⟨trivial, trivial⟩
 ·cases hs

def Γ8 : Tab := ⟨tys, (61, genCtr [.m, .d (.ints .u8)] writeG) :: Γ5.ctr, [3, 4], gh⟩
theorem Γ8_ok : TabOk Tryd.prog Γ8 := Γ5_ok.cons writeG_ok
end Go.Gx

/- The hash of parts. -/
namespace Go.Sp
open Go.Gx
def st0 : HS := ⟨start8, List.replicate 128 0, 0⟩
def sha (b : List Int) : List Int := sumL (feed b st0).ws (feed b st0).bl (feed b st0).n true
def roJ (d : RO) : List Int := ((roX d).map roL).flatten
end Go.Sp
namespace Go.Gx
open Go.Proofs Go.Sp
set_option linter.unusedVariables false
set_option maxRecDepth 100000

theorem take_succ_map (xs : List RO) (j : Nat) (h : j < xs.length) : ((xs.take (j + 1)).map roL).flatten = ((xs.take j).map roL).flatten ++ roL (xs.getD j (.r [])) := by
 rw [List.take_add_one, List.getElem?_eq_getElem h, List.map_append, List.flatten_append]
 congr 1
 simp [List.getD, h]
theorem flat_take_le (xs : List RO) (j : Nat) : (((xs.take j).map roL).flatten).length ≤ ((xs.map roL).flatten).length := by
 have h : ((xs.map roL).flatten) = (((xs.take j).map roL).flatten) ++ (((xs.drop j).map roL).flatten) := by
  rw [← List.flatten_append, ← List.map_append, List.take_append_drop]
 rw [h, List.length_append]; omega
theorem feed_st0 (b : List Int) : (feed b st0).n = (b.length : Int) := by
 rw [feed_n]; simp [st0]
def L14 : Loops := [(3, ⟨[.any, .any, .p 1000 0, .p 1001 0, .any, .any, .any, .ro 490 (.l (.ints .u8)) (.r []), .i .i64 ⟨false, 0⟩, .i .i64 ⟨false, 0⟩] ++ reps .any 9, gh ++ (490, .world) :: [(1000, .segs false [.arr .u8 64 false []]), (1001, .segs false (R23 [] [] 0 false))], 2000⟩)]
def vc14 (d : RO) (K : List RV → List (Option (List Seg)) → Prop) (Q : Nat → List Pv → Prop) : Prop := fnVcG 0 Γ8 Tryd.f43 L14 [.ro 490 (.l (.ints .u8)) d] (gh ++ (490, .world) :: []) K Q
def lc14 (d : RO) (n i : Int) (k z ws bl : List Int) (c : Int) (m : Bool) (K : List RV → List (Option (List Seg)) → Prop) (Q : Nat → List Pv → Prop) : Prop := loopVcG 0 Γ8 Tryd.f43 L14 3 [.ro d, .z n, .z i, .l k, .l z, .l ws, .l bl, .z c, .b m] K Q
theorem vc14_eq : ∀ (d : RO) (K : List RV → List (Option (List Seg)) → Prop) (Q : Nat → List Pv → Prop), vc14 d K Q = ForI .u64 (7640891576956012808 : Int) fun x1 => ForI .u64 (13503953896175478587 : Int) fun x2 => ForI .u64 (4354685564936845355 : Int) fun x3 => ForI .u64 (11912009170470909681 : Int) fun x4 => ForI .u64 (5840696475078001361 : Int) fun x5 => ForI .u64 (11170449401992604703 : Int) fun x6 => ForI .u64 (2270897969802886507 : Int) fun x7 => ForI .u64 (6620516959819538809 : Int) fun x8 => ForA .u8 128 (List.replicate 128 (0 : Int)) fun x9 => Same Tryd.f43 3 (itemsOf Tryd.f43 3) ∧ Q 3 [Pv.ro d, Pv.z ((roX d).length : Int), Pv.z 0, Pv.l K80, Pv.l (List.replicate 64 (0 : Int)), Pv.l [x1, x2, x3, x4, x5, x6, x7, x8], Pv.l x9, Pv.z 0, Pv.b true] := by
 intros
 kernel_rfl
theorem lc14_eq : ∀ (d : RO) (n i : Int) (k z ws bl : List Int) (c : Int) (m : Bool) (K : List RV → List (Option (List Seg)) → Prop) (Q : Nat → List Pv → Prop), lc14 d n i k z ws bl c m K Q = ((decide (i < n) = true → Need (0 ≤ i ∧ i < ((roX d).length : Int)) ∧ Need (m = true → 0 ≤ c ∧ c ≤ 1152921504606846976) ∧ ForA .u64 8 ((wr m { ws := ws, bl := bl, n := c } (roL (roN d i.toNat))).ws) fun x1 => ForA .u8 128 ((wr m { ws := ws, bl := bl, n := c } (roL (roN d i.toNat))).bl) fun x2 => ForI .i64 ((wr m { ws := ws, bl := bl, n := c } (roL (roN d i.toNat))).n) fun x3 => ForI .i64 (IntKind.i64.wrap (i + 1)) fun x4 => Same Tryd.f43 3 (itemsOf Tryd.f43 3) ∧ Q 3 [Pv.ro d, Pv.z n, Pv.z x4, Pv.l k, Pv.l z, Pv.l x1, Pv.l x2, Pv.z x3, Pv.b m]) ∧ (decide (i < n) = false → Need (0 ≤ c) ∧ ForA .u64 8 ws fun x5 => ForA .u8 128 bl fun x6 => ForI .i64 c fun x7 => ForA .u8 64 (sumL ws bl c m) fun x8 => K [RV.v (SV.arr .u8 64 false x8)] [])) := by
 intros
 kernel_rfl

def inv14 (d : RO) (key : Nat) (ps : List Pv) (mm : Nat) : Prop :=
 key = 3 ∧ ∃ j : Nat, j ≤ (roX d).length ∧ ps = [.ro d, .z ((roX d).length : Int), .z (j : Int), .l K80, .l (List.replicate 64 0), .l (feed (((roX d).take j).map roL).flatten st0).ws, .l (feed (((roX d).take j).map roL).flatten st0).bl, .z (feed (((roX d).take j).map roL).flatten st0).n, .b true] ∧ mm = (roX d).length - j
def sumG : List AV → Option (List Prop × List RV × List (Option (List Seg)))
 | [.d (.l (.ints .u8)) d] => some ([((roJ d).length : Int) ≤ 1152921504606846976], [.v (.arr .u8 64 false (sha (roJ d)))], [])
 | _ => none
theorem sumG_ok : CallOk Tryd.prog gh 43 (genCtr [.d (.l (.ints .u8))] sumG) := by
 refine call_gen (fn := Tryd.f43) Γ8_ok rfl glow rfl (by kernel_rfl) (by kernel_rfl) _ sumG fun av p rvs fin hs hp hf => ?_
 unfold sumG at hs
 split at hs
 ·rename_i d
  simp only [Option.some.injEq, Prod.mk.injEq] at hs
  obtain ⟨rfl, rfl, rfl⟩ := hs
  have hp : ((roJ d).length : Int) ≤ 1152921504606846976 := hp.1
  obtain ⟨⟨_, hlen⟩, _⟩ := hf
  refine ⟨[.ro 490 (.l (.ints .u8)) d], [], L14, inv14 d, ⟨rfl, trivial⟩, Nat.le_of_ble_eq_true (by kernel_rfl), ?_, ?_, ?_⟩
  ·intro k t ht g hg
   have hg : g ∈ [3, 4, 490] := hg
   simp only [List.mem_cons, List.not_mem_nil, or_false] at hg
   simp only [L14, List.mem_cons, List.not_mem_nil, or_false, Prod.mk.injEq] at ht
   obtain ⟨rfl, rfl⟩ := ht
   rcases hg with rfl | rfl | rfl <;> exact ⟨by omega, rfl⟩
  ·rintro vk t ps mm ht ⟨rfl, j, hj, rfl, rfl⟩
   simp only [L14, List.mem_cons, List.not_mem_nil, or_false, Prod.mk.injEq] at ht
   obtain ⟨_, rfl⟩ := ht
   show lc14 d ((roX d).length : Int) (j : Int) K80 (List.replicate 64 0) (feed (((roX d).take j).map roL).flatten st0).ws (feed (((roX d).take j).map roL).flatten st0).bl (feed (((roX d).take j).map roL).flatten st0).n true _ _
   rw [lc14_eq]
   have hn := feed_st0 (((roX d).take j).map roL).flatten
   refine ⟨fun hlt => ?_, fun hge => ?_⟩
   ·have hlt := of_decide_eq_true hlt
    have hjl : j < (roX d).length := by omega
    have e1 := take_succ_map (roX d) j hjl
    have e2 := flat_take_le (roX d) (j + 1)
    have e3 : (((roX d).take (j + 1)).map roL).flatten.length = (((roX d).take j).map roL).flatten.length + (roL (roN d j)).length := by rw [e1, List.length_append]; rfl
    have hT : (roJ d).length = ((roX d).map roL).flatten.length := rfl
    have hw : wr true (feed (((roX d).take j).map roL).flatten st0) (roL (roN d (j : Int).toNat)) = feed (((roX d).take (j + 1)).map roL).flatten st0 := by
     unfold wr
     rw [Int.toNat_natCast, if_pos ⟨rfl, by rw [hn]; omega⟩, e1, feed_append]; rfl
    refine ⟨need_of (by omega), need_of (fun _ => by rw [hn]; omega), ?_⟩
    rw [show (HS.mk (feed (((roX d).take j).map roL).flatten st0).ws (feed (((roX d).take j).map roL).flatten st0).bl (feed (((roX d).take j).map roL).flatten st0).n) = feed (((roX d).take j).map roL).flatten st0 from rfl, hw]
    rintro x1 rfl _ _ x2 rfl _ _ x3 rfl _ x4 e4 _
    rw [wrap_i64 (by omega)] at e4
    subst e4
    exact ⟨rfl, (roX d).length - (j + 1), by omega, rfl, j + 1, by omega, rfl, rfl⟩
   ·have hge := of_decide_eq_false hge
    obtain rfl : j = (roX d).length := by omega
    refine ⟨need_of (by rw [hn]; omega), ?_⟩
    intro x5 e5 _ _ x6 e6 _ _ x7 e7 _ x8 e8 _ _
    refine ⟨⟨?_, trivial⟩, trivial⟩
    show x8 = sha (roJ d)
    rw [e8]
    unfold sha roJ
    rw [List.take_of_length_le (Nat.le_refl _)]
  ·show vc14 d _ _
   rw [vc14_eq]
   rintro x1 rfl _ x2 rfl _ x3 rfl _ x4 rfl _ x5 rfl _ x6 rfl _ x7 rfl _ x8 rfl _ x9 rfl _ _
   refine ⟨rfl, (roX d).length - 0, rfl, 0, by omega, ?_, rfl⟩
   simp only [List.take_zero, List.map_nil, List.flatten_nil, feed, st0, start8]
   rfl
 ·cases hs
def Γ9 : Tab := ⟨tys, (43, genCtr [.d (.l (.ints .u8))] sumG) :: Γ8.ctr, [3, 4], gh⟩
theorem Γ9_ok : TabOk Tryd.prog Γ9 := Γ8_ok.cons sumG_ok
end Go.Gx

/- Contracts in general: another telling of the same. -/
namespace Go.Gx
open Go.RowKit
set_option linter.unusedVariables false

def RP.bind {α β : Type} : RP α → (α → RP β) → RP β
 | .ret a, f => f a
 | .fail, _ => .fail
 | .get k h, f => .get k fun b => (h b).bind f

theorem RP.run_bind {α β : Type} {H : Nat → Option SB} (f : α → RP β) : ∀ (g : RP α) (rs : List Nat), (g.bind f).run H rs = (match g.run H rs with | some (a, rs1) => (f a).run H rs1 | none => none)
 | .ret a, rs => rfl
 | .fail, rs => rfl
 | .get k h, rs => by simp only [RP.bind, RP.run]; exact RP.run_bind f (h (H k)) (k :: rs)

def Uni {α : Type} (F : (α → RP Delta) → RP Delta) : Prop := ∃ g : RP α, ∀ f, F f = g.bind f

theorem Uni.fail {α : Type} : Uni (α := α) fun _ => .fail := ⟨.fail, fun _ => rfl⟩
theorem Uni.ret {α : Type} (a : α) : Uni (α := α) fun f => f a := ⟨.ret a, fun _ => rfl⟩
theorem Uni.get {α : Type} (k : Nat) {F : Option SB → (α → RP Delta) → RP Delta} (h : ∀ b, Uni (F b)) : Uni fun f => .get k fun b => F b f :=
 ⟨.get k fun b => Classical.choose (h b), fun f => by
  simp only [RP.bind]
  congr 1
  funext b
  exact Classical.choose_spec (h b) f⟩
theorem Uni.bind {α β : Type} {F : (α → RP Delta) → RP Delta} (hF : Uni F) {G : α → (β → RP Delta) → RP Delta} (hG : ∀ a, Uni (G a)) : Uni fun f => F fun a => G a f := by
 obtain ⟨g, hg⟩ := hF
 have bb : ∀ {α β γ : Type} (g : RP α) (h : α → RP β) (f : β → RP γ), (g.bind h).bind f = g.bind fun a => (h a).bind f := by
  intro α β γ g h f
  induction g with
  | ret a => rfl
  | fail => rfl
  | get k r ih => simp only [RP.bind]; congr 1; funext b; exact ih b
 have hG' : ∀ a, ∃ k : RP β, ∀ f, G a f = k.bind f := hG
 refine ⟨g.bind fun a => Classical.choose (hG' a), fun f => ?_⟩
 show F (fun a => G a f) = _
 rw [hg, bb]
 congr 1
 funext a
 exact Classical.choose_spec (hG' a) f

section
variable {P : Program}

end
end Go.Gx

/- Lemmas. -/
namespace Go.Sp
open Go.Gx
def le8 (i : Int) : List Int := [IntKind.u8.wrap (shrI .i64 i 0), IntKind.u8.wrap (shrI .i64 i 8), IntKind.u8.wrap (shrI .i64 i 16), IntKind.u8.wrap (shrI .i64 i 24), IntKind.u8.wrap (shrI .i64 i 32), IntKind.u8.wrap (shrI .i64 i 40), IntKind.u8.wrap (shrI .i64 i 48), IntKind.u8.wrap (shrI .i64 i 56)]
end Go.Sp
namespace Go.Gx
open Go.Proofs Go.Sp
set_option linter.unusedVariables false
set_option maxRecDepth 100000

theorem shr_div {x : Int} (k : Nat) (hk : k ≤ 64) : shrI .u64 x (k : Int) = x / 2 ^ k := by
 unfold shrI
 rw [show (min ((k : Int)).toNat IntKind.u64.bits) = k by simp [IntKind.bits]; omega, Int.fdiv_eq_ediv_of_nonneg]
 exact Int.le_of_lt (Int.pow_pos (by omega))
theorem roJ_r (xs : List RO) : roJ (.r xs) = (xs.map roL).flatten := rfl
theorem roL_l (l : List Int) : roL (.l l) = l := rfl
theorem sha_one (d : RO) : roJ (.r [d]) = roL d := by
 simp only [roJ_r, List.map_cons, List.map_nil, List.flatten_cons, List.flatten_nil, List.append_nil]
theorem sumL_len (ws bl : List Int) (n : Int) (m : Bool) : (sumL ws bl n m).length = 64 := by
 unfold sumL
 split
 ·rw [outb, outR_len, List.length_replicate]
 ·simp
theorem sha_len (b : List Int) : (sha b).length = 64 := sumL_len _ _ _ _
end Go.Gx

/- The reference's small functions; both packages' tables. -/
namespace Go.Sp
open Go.Gx
def be8 (x : Int) : List Int := [IntKind.u8.wrap (shrI .u64 x 56), IntKind.u8.wrap (shrI .u64 x 48), IntKind.u8.wrap (shrI .u64 x 40), IntKind.u8.wrap (shrI .u64 x 32), IntKind.u8.wrap (shrI .u64 x 24), IntKind.u8.wrap (shrI .u64 x 16), IntKind.u8.wrap (shrI .u64 x 8), IntKind.u8.wrap (shrI .u64 x 0)]
def wordL (b : List Int) (j : Nat) : Int := partw (b.drop j) 0 8
end Go.Sp
namespace Go.Gx
open Go.Proofs Go.Sp
set_option linter.unusedVariables false
set_option maxRecDepth 100000

theorem CallOk.mono {P : Program} {gh gh' : Heap} (h : ∀ x ∈ gh, x ∈ gh') {f : FuncId} {c : Ctr} (hc : CallOk P gh f c) : CallOk P gh' f c :=
 fun stamp args H rs rs' d vs w0 M ρ w hG => hc stamp args H rs rs' d vs w0 M ρ w fun g b hb => hG g b (h _ hb)
def gh4 : Heap := [(3, .segs true [.arr .u64 8 true start8]), (0, .segs true [.arr .u64 8 true start8]), (4, .segs true [.arr .u64 80 false K80]), (2, .segs true [.arr .u64 80 false K80])]
def Δ0 : Tab := ⟨tys, Γ9.ctr, [3, 0, 4, 2], gh4⟩
def vc52 (x n : Int) (K : SV → Prop) (Q : Nat → List Pv → Prop) : Prop := fnVc Δ0 Tryd.f59 [] [.i .u64 ⟨false, x⟩, .i .i64 ⟨false, n⟩] gh4 K Q
def vc51 (d : RO) (n : Int) (K : List RV → List (Option (List Seg)) → Prop) (Q : Nat → List Pv → Prop) : Prop := fnVcG 0 Δ0 Tryd.f58 [] [.ro 490 (.ints .u8) d, .i .i64 ⟨false, n⟩] (gh4 ++ (490, .world) :: []) K Q
def vc46 (x : Int) (K : List RV → List (Option (List Seg)) → Prop) (Q : Nat → List Pv → Prop) : Prop := fnVcG 0 Δ0 Tryd.f40 [] [.i .u64 ⟨false, x⟩, .i .i64 ⟨true, 8⟩] (gh4 ++ (490, .world) :: []) K Q
def vc44 (x : Int) (K : List RV → List (Option (List Seg)) → Prop) (Q : Nat → List Pv → Prop) : Prop := fnVcG 0 Δ0 Tryd.f42 [] [.i .i64 ⟨false, x⟩] (gh4 ++ (490, .world) :: []) K Q
theorem gh_sub : ∀ x ∈ gh, x ∈ gh4 := fun x hx => by
 simp only [gh, List.mem_cons, List.not_mem_nil, or_false] at hx
 rcases hx with rfl | rfl
 ·exact List.mem_cons_self
 ·exact List.mem_cons_of_mem _ (List.mem_cons_of_mem _ List.mem_cons_self)
theorem Δ0_ok : TabOk Tryd.prog Δ0 := ⟨Γ9_ok.mix, Γ9_ok.ty, fun f c h => (Γ9_ok.ctr f c h).mono gh_sub⟩
theorem glow4 : ∀ g ∈ keysOf gh4, g < 490 := fun g hg => by have hg : g ∈ [3, 0, 4, 2] := hg; simp at hg; omega
theorem vc52_eq : ∀ (x n : Int) (K : SV → Prop) (Q : Nat → List Pv → Prop), vc52 x n K Q = (Need (0 ≤ n) ∧ ForI .u64 (shrI .u64 x n) fun x1 => ForI .i64 (IntKind.i64.wrap ((64 : Int) - n)) fun x2 => Need (0 ≤ x2) ∧ ForI .u64 (shlI .u64 x x2) fun x3 => ForI .u64 (orI .u64 x1 x3) fun x4 => K (SV.i .u64 { st := false, z := x4 })) := by
 intros
 kernel_rfl
theorem vc51_eq : ∀ (d : RO) (n : Int) (K : List RV → List (Option (List Seg)) → Prop) (Q : Nat → List Pv → Prop), vc51 d n K Q = ForI .i64 (IntKind.i64.wrap (n + 0)) fun x1 => Need (0 ≤ x1 ∧ x1 < ((roL d).length : Int)) ∧ ForI .u8 ((roL d).getD x1.toNat 0) fun x2 => ForI .u64 (IntKind.u64.wrap x2) fun x3 => ForI .u64 (orI .u64 (0 : Int) x3) fun x4 => ForI .u64 (shlI .u64 x4 8) fun x5 => ForI .i64 (IntKind.i64.wrap (n + 1)) fun x6 => Need (0 ≤ x6 ∧ x6 < ((roL d).length : Int)) ∧ ForI .u8 ((roL d).getD x6.toNat 0) fun x7 => ForI .u64 (IntKind.u64.wrap x7) fun x8 => ForI .u64 (orI .u64 x5 x8) fun x9 => ForI .u64 (shlI .u64 x9 8) fun x10 => ForI .i64 (IntKind.i64.wrap (n + 2)) fun x11 => Need (0 ≤ x11 ∧ x11 < ((roL d).length : Int)) ∧ ForI .u8 ((roL d).getD x11.toNat 0) fun x12 => ForI .u64 (IntKind.u64.wrap x12) fun x13 => ForI .u64 (orI .u64 x10 x13) fun x14 => ForI .u64 (shlI .u64 x14 8) fun x15 => ForI .i64 (IntKind.i64.wrap (n + 3)) fun x16 => Need (0 ≤ x16 ∧ x16 < ((roL d).length : Int)) ∧ ForI .u8 ((roL d).getD x16.toNat 0) fun x17 => ForI .u64 (IntKind.u64.wrap x17) fun x18 => ForI .u64 (orI .u64 x15 x18) fun x19 => ForI .u64 (shlI .u64 x19 8) fun x20 => ForI .i64 (IntKind.i64.wrap (n + 4)) fun x21 => Need (0 ≤ x21 ∧ x21 < ((roL d).length : Int)) ∧ ForI .u8 ((roL d).getD x21.toNat 0) fun x22 => ForI .u64 (IntKind.u64.wrap x22) fun x23 => ForI .u64 (orI .u64 x20 x23) fun x24 => ForI .u64 (shlI .u64 x24 8) fun x25 => ForI .i64 (IntKind.i64.wrap (n + 5)) fun x26 => Need (0 ≤ x26 ∧ x26 < ((roL d).length : Int)) ∧ ForI .u8 ((roL d).getD x26.toNat 0) fun x27 => ForI .u64 (IntKind.u64.wrap x27) fun x28 => ForI .u64 (orI .u64 x25 x28) fun x29 => ForI .u64 (shlI .u64 x29 8) fun x30 => ForI .i64 (IntKind.i64.wrap (n + 6)) fun x31 => Need (0 ≤ x31 ∧ x31 < ((roL d).length : Int)) ∧ ForI .u8 ((roL d).getD x31.toNat 0) fun x32 => ForI .u64 (IntKind.u64.wrap x32) fun x33 => ForI .u64 (orI .u64 x30 x33) fun x34 => ForI .u64 (shlI .u64 x34 8) fun x35 => ForI .i64 (IntKind.i64.wrap (n + 7)) fun x36 => Need (0 ≤ x36 ∧ x36 < ((roL d).length : Int)) ∧ ForI .u8 ((roL d).getD x36.toNat 0) fun x37 => ForI .u64 (IntKind.u64.wrap x37) fun x38 => ForI .u64 (orI .u64 x35 x38) fun x39 => K [RV.v (SV.i .u64 { st := false, z := x39 })] [] := by
 intros
 kernel_rfl
theorem vc46_eq : ∀ (x : Int) (K : List RV → List (Option (List Seg)) → Prop) (Q : Nat → List Pv → Prop), vc46 x K Q = (Need ((0 : Int) ≤ 8 ∧ (8 : Int) ≤ 8 ∧ (8 : Int) ≤ 70368744177664) ∧ ForL .u8 (List.replicate 8 (0 : Int)) fun x1 => ForI .u8 (IntKind.u8.wrap x) fun x2 => Need (7 < x1.length) ∧ ForI .u64 (shrI .u64 x (8 : Int)) fun x3 => ForI .u8 (IntKind.u8.wrap x3) fun x4 => Need ((6 : Nat) < (x1.set (7 : Nat) x2).length) ∧ ForI .u64 (shrI .u64 x3 8) fun x5 => ForI .u8 (IntKind.u8.wrap x5) fun x6 => Need ((5 : Nat) < ((x1.set (7 : Nat) x2).set (6 : Nat) x4).length) ∧ ForI .u64 (shrI .u64 x5 8) fun x7 => ForI .u8 (IntKind.u8.wrap x7) fun x8 => Need ((4 : Nat) < (((x1.set (7 : Nat) x2).set (6 : Nat) x4).set (5 : Nat) x6).length) ∧ ForI .u64 (shrI .u64 x7 8) fun x9 => ForI .u8 (IntKind.u8.wrap x9) fun x10 => Need ((3 : Nat) < ((((x1.set (7 : Nat) x2).set (6 : Nat) x4).set (5 : Nat) x6).set (4 : Nat) x8).length) ∧ ForI .u64 (shrI .u64 x9 8) fun x11 => ForI .u8 (IntKind.u8.wrap x11) fun x12 => Need ((2 : Nat) < (((((x1.set (7 : Nat) x2).set (6 : Nat) x4).set (5 : Nat) x6).set (4 : Nat) x8).set (3 : Nat) x10).length) ∧ ForI .u64 (shrI .u64 x11 8) fun x13 => ForI .u8 (IntKind.u8.wrap x13) fun x14 => Need ((1 : Nat) < ((((((x1.set (7 : Nat) x2).set (6 : Nat) x4).set (5 : Nat) x6).set (4 : Nat) x8).set (3 : Nat) x10).set (2 : Nat) x12).length) ∧ ForI .u64 (shrI .u64 x13 8) fun x15 => ForI .u8 (IntKind.u8.wrap x15) fun x16 => Need ((0 : Nat) < (((((((x1.set (7 : Nat) x2).set (6 : Nat) x4).set (5 : Nat) x6).set (4 : Nat) x8).set (3 : Nat) x10).set (2 : Nat) x12).set (1 : Nat) x14).length) ∧ ForI .u64 (shrI .u64 x15 8) fun x17 => Need ((8 : Int) ≤ ↑((((((((x1.set (7 : Nat) x2).set (6 : Nat) x4).set (5 : Nat) x6).set (4 : Nat) x8).set (3 : Nat) x10).set (2 : Nat) x12).set (1 : Nat) x14).set (0 : Nat) x16).length) ∧ K [RV.row (Con.ints .u8 (List.take 8 (List.drop 0 ((((((((x1.set (7 : Nat) x2).set (6 : Nat) x4).set (5 : Nat) x6).set (4 : Nat) x8).set (3 : Nat) x10).set (2 : Nat) x12).set (1 : Nat) x14).set (0 : Nat) x16))))] []) := by
 intros
 kernel_rfl
theorem vc44_eq : ∀ (x : Int) (K : List RV → List (Option (List Seg)) → Prop) (Q : Nat → List Pv → Prop), vc44 x K Q = (Need ((0 : Int) ≤ 8 ∧ (8 : Int) ≤ 8 ∧ (8 : Int) ≤ 70368744177664) ∧ ForL .u8 (List.replicate 8 (0 : Int)) fun x1 => ForI .u8 (IntKind.u8.wrap x) fun x2 => Need (0 < x1.length) ∧ ForI .i64 (shrI .i64 x (8 : Int)) fun x3 => ForI .u8 (IntKind.u8.wrap x3) fun x4 => Need ((1 : Nat) < (x1.set (0 : Nat) x2).length) ∧ ForI .i64 (shrI .i64 x3 8) fun x5 => ForI .u8 (IntKind.u8.wrap x5) fun x6 => Need ((2 : Nat) < ((x1.set (0 : Nat) x2).set (1 : Nat) x4).length) ∧ ForI .i64 (shrI .i64 x5 8) fun x7 => ForI .u8 (IntKind.u8.wrap x7) fun x8 => Need ((3 : Nat) < (((x1.set (0 : Nat) x2).set (1 : Nat) x4).set (2 : Nat) x6).length) ∧ ForI .i64 (shrI .i64 x7 8) fun x9 => ForI .u8 (IntKind.u8.wrap x9) fun x10 => Need ((4 : Nat) < ((((x1.set (0 : Nat) x2).set (1 : Nat) x4).set (2 : Nat) x6).set (3 : Nat) x8).length) ∧ ForI .i64 (shrI .i64 x9 8) fun x11 => ForI .u8 (IntKind.u8.wrap x11) fun x12 => Need ((5 : Nat) < (((((x1.set (0 : Nat) x2).set (1 : Nat) x4).set (2 : Nat) x6).set (3 : Nat) x8).set (4 : Nat) x10).length) ∧ ForI .i64 (shrI .i64 x11 8) fun x13 => ForI .u8 (IntKind.u8.wrap x13) fun x14 => Need ((6 : Nat) < ((((((x1.set (0 : Nat) x2).set (1 : Nat) x4).set (2 : Nat) x6).set (3 : Nat) x8).set (4 : Nat) x10).set (5 : Nat) x12).length) ∧ ForI .i64 (shrI .i64 x13 8) fun x15 => ForI .u8 (IntKind.u8.wrap x15) fun x16 => Need ((7 : Nat) < (((((((x1.set (0 : Nat) x2).set (1 : Nat) x4).set (2 : Nat) x6).set (3 : Nat) x8).set (4 : Nat) x10).set (5 : Nat) x12).set (6 : Nat) x14).length) ∧ ForI .i64 (shrI .i64 x15 8) fun x17 => Need ((8 : Int) ≤ ↑((((((((x1.set (0 : Nat) x2).set (1 : Nat) x4).set (2 : Nat) x6).set (3 : Nat) x8).set (4 : Nat) x10).set (5 : Nat) x12).set (6 : Nat) x14).set (7 : Nat) x16).length) ∧ K [RV.row (Con.ints .u8 (List.take 8 (List.drop 0 ((((((((x1.set (0 : Nat) x2).set (1 : Nat) x4).set (2 : Nat) x6).set (3 : Nat) x8).set (4 : Nat) x10).set (5 : Nat) x12).set (6 : Nat) x14).set (7 : Nat) x16))))] []) := by
 intros
 kernel_rfl

theorem shr8 (x : Int) (a b : Nat) (h : b = a + 8 ∧ b ≤ 64 := by omega) : shrI .u64 (shrI .u64 x (a : Int)) 8 = shrI .u64 x (b : Int) := by
 have h8 : shrI .u64 (shrI .u64 x (a : Int)) ((8 : Nat) : Int) = (shrI .u64 x (a : Int)) / 2 ^ 8 := shr_div 8 (by omega)
 rw [show (8 : Int) = ((8 : Nat) : Int) from rfl, h8, shr_div a (by omega), shr_div b (by omega), Int.ediv_ediv_of_nonneg (Int.le_of_lt (Int.pow_pos (by omega))), ← Int.pow_add, h.1]
theorem rot_of (x n : Int) (h : 1 ≤ n ∧ n ≤ 63) : orI .u64 (shrI .u64 x n) (shlI .u64 x (64 - n)) = rotL x (-n) := by
 have hn : ∀ j : Fin 64, 1 ≤ j.val → andI .u64 (IntKind.u64.wrap (-(j.val : Int))) 63 = 64 - (j.val : Int) ∧ IntKind.u64.wrap (64 - (64 - (j.val : Int))) = (j.val : Int) := by decide +kernel
 obtain ⟨h1, h2⟩ := hn ⟨n.toNat, by omega⟩ (by show 1 ≤ n.toNat; omega)
 have hv : (((⟨n.toNat, by omega⟩ : Fin 64).val : Nat) : Int) = n := by show ((n.toNat : Nat) : Int) = n; omega
 rw [hv] at h1 h2
 unfold rotL
 rw [h1, h2]
 unfold orI
 rw [BitVec.or_comm]
def rotrS : List SV → Option (List Prop × SV)
 | [.i .u64 x, .i .i64 n] => some ([1 ≤ n.z ∧ n.z ≤ 63], .i .u64 ⟨false, rotL x.z (-n.z)⟩)
 | _ => none
theorem rotr_ok : CallOk Tryd.prog gh4 59 (pureCtr rotrS) := by
 refine call_pure (fn := Tryd.f59) Δ0_ok rfl (by kernel_rfl) (by kernel_rfl) (by kernel_rfl) rotrS fun args P0 Y0 hs hp hf => ?_
 unfold rotrS at hs
 split at hs
 ·rename_i x n
  simp only [Option.some.injEq, Prod.mk.injEq] at hs
  obtain ⟨rfl, rfl⟩ := hs
  have hp : 1 ≤ n.z ∧ n.z ≤ 63 := hp.1
  refine ⟨[.i .u64 ⟨false, x.z⟩, .i .i64 ⟨false, n.z⟩], [], _, ⟨rfl, rfl, trivial⟩, Nat.le_of_ble_eq_true (by kernel_rfl), vc_noloops ?_⟩
  show vc52 x.z n.z _ _
  rw [vc52_eq]
  refine ⟨need_of (by omega), ?_⟩
  intro x1 e1 _ x2 e2 _
  rw [wrap_i64 (by omega)] at e2
  refine ⟨need_of (by omega), fun x3 e3 _ x4 e4 _ => ?_⟩
  show x4 = rotL x.z (-n.z)
  rw [e4, e3, e1, e2, rot_of x.z n.z hp]
 ·cases hs
def wordG : List AV → Option (List Prop × List RV × List (Option (List Seg)))
 | [.d (.ints .u8) d, .v (.i .i64 ⟨_, n⟩)] => some ([0 ≤ n, n + 8 ≤ ((roL d).length : Int)], [.v (.i .u64 ⟨false, wordL (roL d) n.toNat⟩)], [])
 | _ => none
theorem getD_drop (b : List Int) (j k : Nat) : (b.drop j).getD k 0 = b.getD (j + k) 0 := by
 rw [List.getD_eq_getElem?_getD, List.getD_eq_getElem?_getD, List.getElem?_drop]
theorem hs0 : shlI .u64 0 8 = 0 := by decide +kernel
theorem partS (b : List Int) (k : Nat) : partw b 0 (k + 1) = orI .u64 (shlI .u64 (partw b 0 k) 8) (IntKind.u64.wrap (b.getD (8 * 0 + k) 0)) := rfl
set_option maxHeartbeats 2000000 in
theorem wordG_ok : CallOk Tryd.prog gh4 58 (genCtr [.d (.ints .u8), .v] wordG) := by
 refine call_gen (fn := Tryd.f58) Δ0_ok rfl glow4 rfl (by kernel_rfl) (by kernel_rfl) _ wordG fun av p rvs fin hs hp hf => ?_
 unfold wordG at hs
 split at hs
 ·rename_i d st n
  simp only [Option.some.injEq, Prod.mk.injEq] at hs
  obtain ⟨rfl, rfl, rfl⟩ := hs
  have h0 : 0 ≤ n := hp.1
  have h1 : n + 8 ≤ ((roL d).length : Int) := hp.2.1
  obtain ⟨⟨_, hlen⟩, _⟩ := hf
  refine ⟨[.ro 490 (.ints .u8) d, .i .i64 ⟨false, n⟩], [], [], _, ?_, Nat.le_of_ble_eq_true (by kernel_rfl), vcG_noloops ?_⟩
  ·exact ⟨rfl, rfl, trivial⟩
  show vc51 d n _ _
  rw [vc51_eq]
  intro x1 e1 _
  rw [wrap_i64 (by omega)] at e1
  refine ⟨need_of (by omega), ?_⟩
  intro x2 e2 _ x3 e3 _ x4 e4 _
  intro x5 e5 _ x6 e6 _
  rw [wrap_i64 (by omega)] at e6
  refine ⟨need_of (by omega), ?_⟩
  intro x7 e7 _ x8 e8 _ x9 e9 _
  intro x10 e10 _ x11 e11 _
  rw [wrap_i64 (by omega)] at e11
  refine ⟨need_of (by omega), ?_⟩
  intro x12 e12 _ x13 e13 _ x14 e14 _
  intro x15 e15 _ x16 e16 _
  rw [wrap_i64 (by omega)] at e16
  refine ⟨need_of (by omega), ?_⟩
  intro x17 e17 _ x18 e18 _ x19 e19 _
  intro x20 e20 _ x21 e21 _
  rw [wrap_i64 (by omega)] at e21
  refine ⟨need_of (by omega), ?_⟩
  intro x22 e22 _ x23 e23 _ x24 e24 _
  intro x25 e25 _ x26 e26 _
  rw [wrap_i64 (by omega)] at e26
  refine ⟨need_of (by omega), ?_⟩
  intro x27 e27 _ x28 e28 _ x29 e29 _
  intro x30 e30 _ x31 e31 _
  rw [wrap_i64 (by omega)] at e31
  refine ⟨need_of (by omega), ?_⟩
  intro x32 e32 _ x33 e33 _ x34 e34 _
  intro x35 e35 _ x36 e36 _
  rw [wrap_i64 (by omega)] at e36
  refine ⟨need_of (by omega), ?_⟩
  intro x37 e37 _ x38 e38 _ x39 e39 _
  refine ⟨⟨?_, trivial⟩, trivial⟩
  show x39 = wordL (roL d) n.toNat
  have p0 : partw ((roL d).drop n.toNat) 0 0 = 0 := rfl
  have q0 : ((roL d).drop n.toNat).getD (8 * 0 + 0) 0 = x2 := by rw [getD_drop, e2]; congr 1; omega
  have p1 : partw ((roL d).drop n.toNat) 0 1 = x4 := by
   rw [partS, p0, q0, e4, e3, hs0]
  have q1 : ((roL d).drop n.toNat).getD (8 * 0 + 1) 0 = x7 := by rw [getD_drop, e7]; congr 1; omega
  have p2 : partw ((roL d).drop n.toNat) 0 2 = x9 := by
   rw [partS, p1, q1, e9, e8, e5]
  have q2 : ((roL d).drop n.toNat).getD (8 * 0 + 2) 0 = x12 := by rw [getD_drop, e12]; congr 1; omega
  have p3 : partw ((roL d).drop n.toNat) 0 3 = x14 := by
   rw [partS, p2, q2, e14, e13, e10]
  have q3 : ((roL d).drop n.toNat).getD (8 * 0 + 3) 0 = x17 := by rw [getD_drop, e17]; congr 1; omega
  have p4 : partw ((roL d).drop n.toNat) 0 4 = x19 := by
   rw [partS, p3, q3, e19, e18, e15]
  have q4 : ((roL d).drop n.toNat).getD (8 * 0 + 4) 0 = x22 := by rw [getD_drop, e22]; congr 1; omega
  have p5 : partw ((roL d).drop n.toNat) 0 5 = x24 := by
   rw [partS, p4, q4, e24, e23, e20]
  have q5 : ((roL d).drop n.toNat).getD (8 * 0 + 5) 0 = x27 := by rw [getD_drop, e27]; congr 1; omega
  have p6 : partw ((roL d).drop n.toNat) 0 6 = x29 := by
   rw [partS, p5, q5, e29, e28, e25]
  have q6 : ((roL d).drop n.toNat).getD (8 * 0 + 6) 0 = x32 := by rw [getD_drop, e32]; congr 1; omega
  have p7 : partw ((roL d).drop n.toNat) 0 7 = x34 := by
   rw [partS, p6, q6, e34, e33, e30]
  have q7 : ((roL d).drop n.toNat).getD (8 * 0 + 7) 0 = x37 := by rw [getD_drop, e37]; congr 1; omega
  have p8 : partw ((roL d).drop n.toNat) 0 8 = x39 := by
   rw [partS, p7, q7, e39, e38, e35]
  exact p8.symm
 ·cases hs
theorem shr80 (x : Int) : shrI .u64 x 0 = x := by
 have := shr_div (x := x) 0 (by omega)
 rw [show (0 : Int) = ((0 : Nat) : Int) from rfl, this]; simp
theorem shri_div {x : Int} (k : Nat) (hk : k ≤ 64) : shrI .i64 x (k : Int) = x / 2 ^ k := by
 unfold shrI
 rw [show (min ((k : Int)).toNat IntKind.i64.bits) = k by simp [IntKind.bits]; omega, Int.fdiv_eq_ediv_of_nonneg]
 exact Int.le_of_lt (Int.pow_pos (by omega))
theorem shr8i (x : Int) (a b : Nat) (h : b = a + 8 ∧ b ≤ 64 := by omega) : shrI .i64 (shrI .i64 x (a : Int)) 8 = shrI .i64 x (b : Int) := by
 have h8 : shrI .i64 (shrI .i64 x (a : Int)) ((8 : Nat) : Int) = (shrI .i64 x (a : Int)) / 2 ^ 8 := shri_div 8 (by omega)
 rw [show (8 : Int) = ((8 : Nat) : Int) from rfl, h8, shri_div a (by omega), shri_div b (by omega), Int.ediv_ediv_of_nonneg (Int.le_of_lt (Int.pow_pos (by omega))), ← Int.pow_add, h.1]
theorem shr8i0 (x : Int) : shrI .i64 x 0 = x := by
 have := shri_div (x := x) 0 (by omega)
 rw [show (0 : Int) = ((0 : Nat) : Int) from rfl, this]; simp
def numG : List AV → Option (List Prop × List RV × List (Option (List Seg)))
 | [.v (.i .u64 ⟨_, x⟩), .v (.i .i64 ⟨true, .ofNat 8⟩)] => some ([], [.row (.ints .u8 (be8 x))], [])
 | _ => none
theorem numG_ok : CallOk Tryd.prog gh4 40 (genCtr [.v, .v] numG) := by
 refine call_gen (fn := Tryd.f40) Δ0_ok rfl glow4 rfl (by kernel_rfl) (by kernel_rfl) _ numG fun av p rvs fin hs hp hf => ?_
 unfold numG at hs
 split at hs
 ·rename_i st x
  simp only [Option.some.injEq, Prod.mk.injEq] at hs
  obtain ⟨rfl, rfl, rfl⟩ := hs
  refine ⟨[.i .u64 ⟨false, x⟩, .i .i64 ⟨true, 8⟩], [], [], _, ?_, Nat.le_of_ble_eq_true (by kernel_rfl), vcG_noloops ?_⟩
  ·exact ⟨rfl, rfl, trivial⟩
  show vc46 x _ _
  rw [vc46_eq]
  refine ⟨need_of (by omega), ?_⟩
  intro x1 e1 _
  subst e1
  intro x2 e2 _
  refine ⟨need_of (by simp), ?_⟩
  intro x3 e3 _ x4 e4 _
  refine ⟨need_of (by simp), ?_⟩
  intro x5 e5 _ x6 e6 _
  refine ⟨need_of (by simp), ?_⟩
  intro x7 e7 _ x8 e8 _
  refine ⟨need_of (by simp), ?_⟩
  intro x9 e9 _ x10 e10 _
  refine ⟨need_of (by simp), ?_⟩
  intro x11 e11 _ x12 e12 _
  refine ⟨need_of (by simp), ?_⟩
  intro x13 e13 _ x14 e14 _
  refine ⟨need_of (by simp), ?_⟩
  intro x15 e15 _ x16 e16 _
  refine ⟨need_of (by simp), ?_⟩
  intro x17 e17 _
  refine ⟨need_of (by simp), ⟨⟨rfl, ?_⟩, trivial⟩, trivial⟩
  show List.take 8 (List.drop 0 _) = be8 x
  have s0 := shr80 x
  rw [← s0] at e3 e2
  have e3 : x3 = shrI .u64 x (((8 : Nat)) : Int) := by rw [e3]; exact shr8 x 0 8
  have e5 : x5 = shrI .u64 x (((16 : Nat)) : Int) := by rw [e5, e3]; exact shr8 x 8 16
  have e7 : x7 = shrI .u64 x (((24 : Nat)) : Int) := by rw [e7, e5]; exact shr8 x 16 24
  have e9 : x9 = shrI .u64 x (((32 : Nat)) : Int) := by rw [e9, e7]; exact shr8 x 24 32
  have e11 : x11 = shrI .u64 x (((40 : Nat)) : Int) := by rw [e11, e9]; exact shr8 x 32 40
  have e13 : x13 = shrI .u64 x (((48 : Nat)) : Int) := by rw [e13, e11]; exact shr8 x 40 48
  have e15 : x15 = shrI .u64 x (((56 : Nat)) : Int) := by rw [e15, e13]; exact shr8 x 48 56
  rw [e2, e4, e6, e8, e10, e12, e14, e16, e15, e13, e11, e9, e7, e5, e3]
  rfl
 ·cases hs
def lowG : List AV → Option (List Prop × List RV × List (Option (List Seg)))
 | [.v (.i .i64 ⟨_, x⟩)] => some ([], [.row (.ints .u8 (le8 x))], [])
 | _ => none
theorem lowG_ok : CallOk Tryd.prog gh4 42 (genCtr [.v] lowG) := by
 refine call_gen (fn := Tryd.f42) Δ0_ok rfl glow4 rfl (by kernel_rfl) (by kernel_rfl) _ lowG fun av p rvs fin hs hp hf => ?_
 unfold lowG at hs
 split at hs
 ·rename_i st x
  simp only [Option.some.injEq, Prod.mk.injEq] at hs
  obtain ⟨rfl, rfl, rfl⟩ := hs
  refine ⟨[.i .i64 ⟨false, x⟩], [], [], _, ?_, Nat.le_of_ble_eq_true (by kernel_rfl), vcG_noloops ?_⟩
  ·exact ⟨rfl, trivial⟩
  show vc44 x _ _
  rw [vc44_eq]
  refine ⟨need_of (by omega), ?_⟩
  intro x1 e1 _
  subst e1
  intro x2 e2 _
  refine ⟨need_of (by simp), ?_⟩
  intro x3 e3 _ x4 e4 _
  refine ⟨need_of (by simp), ?_⟩
  intro x5 e5 _ x6 e6 _
  refine ⟨need_of (by simp), ?_⟩
  intro x7 e7 _ x8 e8 _
  refine ⟨need_of (by simp), ?_⟩
  intro x9 e9 _ x10 e10 _
  refine ⟨need_of (by simp), ?_⟩
  intro x11 e11 _ x12 e12 _
  refine ⟨need_of (by simp), ?_⟩
  intro x13 e13 _ x14 e14 _
  refine ⟨need_of (by simp), ?_⟩
  intro x15 e15 _ x16 e16 _
  refine ⟨need_of (by simp), ?_⟩
  intro x17 e17 _
  refine ⟨need_of (by simp), ⟨⟨rfl, ?_⟩, trivial⟩, trivial⟩
  show List.take 8 (List.drop 0 _) = le8 x
  have s0 := shr8i0 x
  rw [← s0] at e3 e2
  have e3 : x3 = shrI .i64 x (((8 : Nat)) : Int) := by rw [e3]; exact shr8i x 0 8
  have e5 : x5 = shrI .i64 x (((16 : Nat)) : Int) := by rw [e5, e3]; exact shr8i x 8 16
  have e7 : x7 = shrI .i64 x (((24 : Nat)) : Int) := by rw [e7, e5]; exact shr8i x 16 24
  have e9 : x9 = shrI .i64 x (((32 : Nat)) : Int) := by rw [e9, e7]; exact shr8i x 24 32
  have e11 : x11 = shrI .i64 x (((40 : Nat)) : Int) := by rw [e11, e9]; exact shr8i x 32 40
  have e13 : x13 = shrI .i64 x (((48 : Nat)) : Int) := by rw [e13, e11]; exact shr8i x 40 48
  have e15 : x15 = shrI .i64 x (((56 : Nat)) : Int) := by rw [e15, e13]; exact shr8i x 48 56
  rw [e2, e4, e6, e8, e10, e12, e14, e16, e15, e13, e11, e9, e7, e5, e3]
  rfl
 ·cases hs
def Δ1 : Tab := ⟨tys, (59, pureCtr rotrS) :: (58, genCtr [.d (.ints .u8), .v] wordG) :: (40, genCtr [.v, .v] numG) :: (42, genCtr [.v] lowG) :: Δ0.ctr, [3, 0, 4, 2], gh4⟩
theorem Δ1_ok : TabOk Tryd.prog Δ1 := (((Δ0_ok.cons lowG_ok).cons numG_ok).cons wordG_ok).cons rotr_ok
end Go.Gx

/- The reference's block. -/
namespace Go.Gx
open Go.Proofs Go.Sp
set_option linter.unusedVariables false
set_option maxRecDepth 100000

def A8 : SB := .segs false [.arr .u64 8 false []]
def A80 : SB := .segs false [.arr .u64 80 false []]
def L47 : Loops := [(3, ⟨[.any, .ro 490 (.ints .u8) (.l []), .i .i64 ⟨false, 0⟩, .p 1000 0, .any, .any, .p 1001 0, .p 1002 0, .i .i64 ⟨false, 0⟩] ++ reps .any 167, gh4 ++ [(490, .world), (1000, A8), (1001, A8), (1002, A80)], 2000⟩),
 (14, ⟨[.any, .any, .any, .p 1000 0, .any, .any, .p 1001 0, .p 1002 0] ++ reps .any 5 ++ [.p 1003 0, .i .i64 ⟨false, 0⟩] ++ reps .any 161, gh4 ++ [(490, .world), (1000, A8), (1001, A8), (1002, A80), (1003, A8)], 2000⟩)]
def vc47 (ws : List Int) (d : RO) (o : Int) (K : List RV → List (Option (List Seg)) → Prop) (Q : Nat → List Pv → Prop) : Prop := fnVcG 0 Δ1 Tryd.f41 L47 [.arr .u64 8 false ws, .ro 490 (.ints .u8) d, .i .i64 ⟨false, o⟩] (gh4 ++ (490, .world) :: []) K Q
def lc47a (d : RO) (o i : Int) (g g' ws r w : List Int) (K : List RV → List (Option (List Seg)) → Prop) (Q : Nat → List Pv → Prop) : Prop := loopVcG 0 Δ1 Tryd.f41 L47 3 [.ro d, .z o, .z i, .l g, .l g', .l ws, .l r, .l w] K Q
def lc47b (i : Int) (g g' ws r w s : List Int) (K : List RV → List (Option (List Seg)) → Prop) (Q : Nat → List Pv → Prop) : Prop := loopVcG 0 Δ1 Tryd.f41 L47 14 [.z i, .l g, .l g', .l ws, .l r, .l w, .l s] K Q
theorem vc47_eq : ∀ (ws : List Int) (d : RO) (o : Int) (K : List RV → List (Option (List Seg)) → Prop) (Q : Nat → List Pv → Prop), vc47 ws d o K Q = (Same Tryd.f41 3 (itemsOf Tryd.f41 3) ∧ Q 3 [Pv.ro d, Pv.z o, Pv.z 0, Pv.l K80, Pv.l K80, Pv.l ws, Pv.l [(0 : Int), (0 : Int), (0 : Int), (0 : Int), (0 : Int), (0 : Int), (0 : Int), (0 : Int)], Pv.l (List.replicate 80 (0 : Int))]) := by
 intros
 kernel_rfl
theorem lc47a_eq : ∀ (d : RO) (o i : Int) (g g' ws r w : List Int) (K : List RV → List (Option (List Seg)) → Prop) (Q : Nat → List Pv → Prop), lc47a d o i g g' ws r w K Q = ((decide (i < 80) = true → (decide (i < 16) = true → ForI .i64 (IntKind.i64.wrap ((8 : Int) * i)) fun x1 => ForI .i64 (IntKind.i64.wrap (o + x1)) fun x2 => Need (0 ≤ x2) ∧ Need (x2 + 8 ≤ ((roL d).length : Int)) ∧ ForI .u64 (wordL (roL d) x2.toNat) fun x3 => Need (0 ≤ i ∧ i < 80) ∧ Need (0 ≤ i ∧ i < 80) ∧ ForA .u64 80 (w.set i.toNat x3) fun x4 => ForI .i64 (IntKind.i64.wrap (i + 1)) fun x5 => Same Tryd.f41 3 (itemsOf Tryd.f41 3) ∧ Q 3 [Pv.ro d, Pv.z o, Pv.z x5, Pv.l g, Pv.l g', Pv.l ws, Pv.l r, Pv.l x4]) ∧ (decide (i < 16) = false → ForI .i64 (IntKind.i64.wrap (i - 2)) fun x6 => Need (0 ≤ x6 ∧ x6 < 80) ∧ Need (0 ≤ x6 ∧ x6 < 80) ∧ ForI .u64 (w.getD x6.toNat 0) fun x7 => ForI .i64 (IntKind.i64.wrap (i - 15)) fun x8 => Need (0 ≤ x8 ∧ x8 < 80) ∧ Need (0 ≤ x8 ∧ x8 < 80) ∧ ForI .u64 (w.getD x8.toNat 0) fun x9 => Need ((1 : Int) ≤ 19 ∧ (19 : Int) ≤ 63) ∧ ForI .u64 (rotL x7 (-19 : Int)) fun x10 => Need ((1 : Int) ≤ 61 ∧ (61 : Int) ≤ 63) ∧ ForI .u64 (rotL x7 (-61 : Int)) fun x11 => ForI .u64 (xorI .u64 x10 x11) fun x12 => ForI .u64 (shrI .u64 x7 6) fun x13 => ForI .u64 (xorI .u64 x12 x13) fun x14 => Need ((1 : Int) ≤ 1 ∧ (1 : Int) ≤ 63) ∧ ForI .u64 (rotL x9 (-1 : Int)) fun x15 => Need ((1 : Int) ≤ 8 ∧ (8 : Int) ≤ 63) ∧ ForI .u64 (rotL x9 (-8 : Int)) fun x16 => ForI .u64 (xorI .u64 x15 x16) fun x17 => ForI .u64 (shrI .u64 x9 7) fun x18 => ForI .u64 (xorI .u64 x17 x18) fun x19 => ForI .i64 (IntKind.i64.wrap (i - 7)) fun x20 => Need (0 ≤ x20 ∧ x20 < 80) ∧ Need (0 ≤ x20 ∧ x20 < 80) ∧ ForI .u64 (w.getD x20.toNat 0) fun x21 => ForI .u64 (IntKind.u64.wrap (x14 + x21)) fun x22 => ForI .u64 (IntKind.u64.wrap (x22 + x19)) fun x23 => ForI .i64 (IntKind.i64.wrap (i - 16)) fun x24 => Need (0 ≤ x24 ∧ x24 < 80) ∧ Need (0 ≤ x24 ∧ x24 < 80) ∧ ForI .u64 (w.getD x24.toNat 0) fun x25 => ForI .u64 (IntKind.u64.wrap (x23 + x25)) fun x26 => Need (0 ≤ i ∧ i < 80) ∧ Need (0 ≤ i ∧ i < 80) ∧ ForA .u64 80 (w.set i.toNat x26) fun x27 => ForI .i64 (IntKind.i64.wrap (i + 1)) fun x28 => Same Tryd.f41 3 (itemsOf Tryd.f41 3) ∧ Q 3 [Pv.ro d, Pv.z o, Pv.z x28, Pv.l g, Pv.l g', Pv.l ws, Pv.l r, Pv.l x27])) ∧ (decide (i < 80) = false → Same Tryd.f41 14 (itemsOf Tryd.f41 14) ∧ Q 14 [Pv.z 0, Pv.l g, Pv.l g', Pv.l ws, Pv.l r, Pv.l w, Pv.l ws])) := by
 intros
 kernel_rfl
theorem lc47b_eq : ∀ (i : Int) (g g' ws r w s : List Int) (K : List RV → List (Option (List Seg)) → Prop) (Q : Nat → List Pv → Prop), lc47b i g g' ws r w s K Q = ((decide (i < 80) = true → ForI .u64 (andI .u64 (s.getD 4 0) (s.getD 5 0)) fun x1 => ForI .u64 (notI .u64 (s.getD 4 0)) fun x2 => ForI .u64 (andI .u64 x2 (s.getD 6 0)) fun x3 => ForI .u64 (xorI .u64 x1 x3) fun x4 => ForI .u64 (andI .u64 (s.getD 0 0) (s.getD 1 0)) fun x5 => ForI .u64 (andI .u64 (s.getD 0 0) (s.getD 2 0)) fun x6 => ForI .u64 (xorI .u64 x5 x6) fun x7 => ForI .u64 (andI .u64 (s.getD 1 0) (s.getD 2 0)) fun x8 => ForI .u64 (xorI .u64 x7 x8) fun x9 => Need ((1 : Int) ≤ 14 ∧ (14 : Int) ≤ 63) ∧ ForI .u64 (rotL (s.getD 4 0) (-14 : Int)) fun x10 => Need ((1 : Int) ≤ 18 ∧ (18 : Int) ≤ 63) ∧ ForI .u64 (rotL (s.getD 4 0) (-18 : Int)) fun x11 => ForI .u64 (xorI .u64 x10 x11) fun x12 => Need ((1 : Int) ≤ 41 ∧ (41 : Int) ≤ 63) ∧ ForI .u64 (rotL (s.getD 4 0) (-41 : Int)) fun x13 => ForI .u64 (xorI .u64 x12 x13) fun x14 => Need ((1 : Int) ≤ 28 ∧ (28 : Int) ≤ 63) ∧ ForI .u64 (rotL (s.getD 0 0) (-28 : Int)) fun x15 => Need ((1 : Int) ≤ 34 ∧ (34 : Int) ≤ 63) ∧ ForI .u64 (rotL (s.getD 0 0) (-34 : Int)) fun x16 => ForI .u64 (xorI .u64 x15 x16) fun x17 => Need ((1 : Int) ≤ 39 ∧ (39 : Int) ≤ 63) ∧ ForI .u64 (rotL (s.getD 0 0) (-39 : Int)) fun x18 => ForI .u64 (xorI .u64 x17 x18) fun x19 => ForI .u64 (IntKind.u64.wrap (s.getD (7 : Nat) 0 + x14)) fun x20 => ForI .u64 (IntKind.u64.wrap (x20 + x4)) fun x21 => Need (0 ≤ i ∧ i < 80) ∧ Need (0 ≤ i ∧ i < 80) ∧ ForI .u64 (g'.getD i.toNat 0) fun x22 => ForI .u64 (IntKind.u64.wrap (x21 + x22)) fun x23 => Need (0 ≤ i ∧ i < 80) ∧ Need (0 ≤ i ∧ i < 80) ∧ ForI .u64 (w.getD i.toNat 0) fun x24 => ForI .u64 (IntKind.u64.wrap (x23 + x24)) fun x25 => ForI .u64 (IntKind.u64.wrap (x25 + x19)) fun x26 => ForI .u64 (IntKind.u64.wrap (x26 + x9)) fun x27 => ForI .u64 (IntKind.u64.wrap (s.getD (3 : Nat) 0 + x25)) fun x28 => ForI .i64 (IntKind.i64.wrap (i + 1)) fun x29 => Same Tryd.f41 14 (itemsOf Tryd.f41 14) ∧ Q 14 [Pv.z x29, Pv.l g, Pv.l g', Pv.l ws, Pv.l r, Pv.l w, Pv.l [x27, s.getD 0 0, s.getD 1 0, s.getD 2 0, x28, s.getD 4 0, s.getD 5 0, s.getD 6 0]]) ∧ (decide (i < 80) = false → ForI .u64 (IntKind.u64.wrap (ws.getD 0 0 + s.getD 0 0)) fun x30 => ForI .u64 (IntKind.u64.wrap ((ws.set (0 : Nat) x30).getD 1 0 + s.getD 1 0)) fun x31 => ForI .u64 (IntKind.u64.wrap (((ws.set (0 : Nat) x30).set (1 : Nat) x31).getD 2 0 + s.getD 2 0)) fun x32 => ForI .u64 (IntKind.u64.wrap ((((ws.set (0 : Nat) x30).set (1 : Nat) x31).set (2 : Nat) x32).getD 3 0 + s.getD 3 0)) fun x33 => ForI .u64 (IntKind.u64.wrap (((((ws.set (0 : Nat) x30).set (1 : Nat) x31).set (2 : Nat) x32).set (3 : Nat) x33).getD 4 0 + s.getD 4 0)) fun x34 => ForI .u64 (IntKind.u64.wrap ((((((ws.set (0 : Nat) x30).set (1 : Nat) x31).set (2 : Nat) x32).set (3 : Nat) x33).set (4 : Nat) x34).getD 5 0 + s.getD 5 0)) fun x35 => ForI .u64 (IntKind.u64.wrap (((((((ws.set (0 : Nat) x30).set (1 : Nat) x31).set (2 : Nat) x32).set (3 : Nat) x33).set (4 : Nat) x34).set (5 : Nat) x35).getD 6 0 + s.getD 6 0)) fun x36 => ForI .u64 (IntKind.u64.wrap ((((((((ws.set (0 : Nat) x30).set (1 : Nat) x31).set (2 : Nat) x32).set (3 : Nat) x33).set (4 : Nat) x34).set (5 : Nat) x35).set (6 : Nat) x36).getD 7 0 + s.getD 7 0)) fun x37 => K [RV.v (SV.arr .u64 8 false ((((((((ws.set (0 : Nat) x30).set (1 : Nat) x31).set (2 : Nat) x32).set (3 : Nat) x33).set (4 : Nat) x34).set (5 : Nat) x35).set (6 : Nat) x36).set (7 : Nat) x37))] [])) := by
 intros
 kernel_rfl

theorem word_part (b : List Int) (o t : Nat) (ht : t < 16) : wordL b (o + 8 * t) = partw ((b.drop o).take 128) t 8 := by
 have h : ∀ k, k ≤ 8 → partw (b.drop (o + 8 * t)) 0 k = partw ((b.drop o).take 128) t k := by
  intro k
  induction k with
  | zero => intro _; rfl
  | succ k ih =>
   intro hk
   have e1 : (b.drop (o + 8 * t)).getD (8 * 0 + k) 0 = ((b.drop o).take 128).getD (8 * t + k) 0 := by
    rw [List.getD_eq_getElem?_getD, List.getD_eq_getElem?_getD, List.getElem?_drop, List.getElem?_take, if_pos (by omega), List.getElem?_drop]
    congr 2
    omega
   rw [partw, partw, ih (by omega), e1]
 exact h 8 (by omega)
def zero8 : List Int := [0, 0, 0, 0, 0, 0, 0, 0]
def inv47 (ws bl : List Int) (d : RO) (o : Int) (key : Nat) (ps : List Pv) (mm : Nat) : Prop :=
 (key = 3 ∧ ∃ t : Nat, t < 16 ∧ ps = [.ro d, .z o, .z (t : Int), .l K80, .l K80, .l ws, .l zero8, .l (prew bl t)] ∧ mm = 200 - t) ∨
 (key = 3 ∧ ∃ i : Nat, i ≤ 64 ∧ ps = [.ro d, .z o, .z ((16 + i : Nat) : Int), .l K80, .l K80, .l ws, .l zero8, .l (schs bl i)] ∧ mm = 184 - i) ∨
 (key = 14 ∧ ∃ t : Nat, t ≤ 80 ∧ ps = [.z (t : Int), .l K80, .l K80, .l ws, .l zero8, .l (schs bl 64), .l (rnds (schs bl 64) ws t)] ∧ mm = 80 - t)
def takeG : List AV → Option (List Prop × List RV × List (Option (List Seg)))
 | [.v (.arr .u64 8 _ ws), .d (.ints .u8) d, .v (.i .i64 ⟨_, o⟩)] => some ([0 ≤ o, o + 128 ≤ ((roL d).length : Int)], [.v (.arr .u64 8 false (compr ws (((roL d).drop o.toNat).take 128)))], [])
 | _ => none
set_option maxHeartbeats 2000000 in
theorem takeG_ok : CallOk Tryd.prog gh4 41 (genCtr [.v, .d (.ints .u8), .v] takeG) := by
 refine call_gen (fn := Tryd.f41) Δ1_ok rfl glow4 rfl (by kernel_rfl) (by kernel_rfl) _ takeG fun av p rvs fin hs hp hf => ?_
 unfold takeG at hs
 split at hs
 ·rename_i e ws d st o
  simp only [Option.some.injEq, Prod.mk.injEq] at hs
  obtain ⟨rfl, rfl, rfl⟩ := hs
  have h0 : 0 ≤ o := hp.1
  have h1 : o + 128 ≤ ((roL d).length : Int) := hp.2.1
  obtain ⟨⟨hws, _⟩, ⟨_, hlen⟩, _⟩ := hf
  obtain ⟨bl, hbl⟩ : ∃ bl, ((roL d).drop o.toNat).take 128 = bl := ⟨_, rfl⟩
  rw [hbl]
  refine ⟨[.arr .u64 8 false ws, .ro 490 (.ints .u8) d, .i .i64 ⟨false, o⟩], [], L47, inv47 ws bl d o, ?okA, Nat.le_of_ble_eq_true (by kernel_rfl), ?_, ?_, ?_⟩
  case okA => exact ⟨rfl, rfl, rfl, trivial⟩
  ·intro kk t ht g hg
   have hg : g ∈ [3, 0, 4, 2, 490] := hg
   simp only [List.mem_cons, List.not_mem_nil, or_false] at hg
   simp only [L47, List.mem_cons, List.not_mem_nil, or_false, Prod.mk.injEq] at ht
   obtain ⟨rfl, rfl⟩ | ⟨rfl, rfl⟩ := ht <;> rcases hg with rfl | rfl | rfl | rfl | rfl <;> exact ⟨by omega, rfl⟩
  ·rintro vk t ps mm ht (⟨rfl, t', ht', rfl, rfl⟩ | ⟨rfl, i, hi, rfl, rfl⟩ | ⟨rfl, t', ht', rfl, rfl⟩)
   all_goals simp only [L47, List.mem_cons, List.not_mem_nil, or_false, Prod.mk.injEq, Nat.reduceEqDiff, false_and, true_and, false_or, or_false] at ht
   ·subst ht
    show lc47a d o (t' : Int) K80 K80 ws zero8 (prew bl t') _ _
    rw [lc47a_eq]
    refine ⟨fun _ => ⟨fun _ => ?_, fun h => absurd (of_decide_eq_false h) (by omega)⟩, fun h => absurd (of_decide_eq_false h) (by omega)⟩
    intro x1 e1 _ x2 e2 _
    rw [wrap_i64 (by omega)] at e1
    rw [e1, wrap_i64 (by omega)] at e2
    refine ⟨need_of (by omega), need_of (by omega), ?_⟩
    intro x3 e3 _
    refine ⟨need_of (by omega), need_of (by omega), ?_⟩
    intro x4 e4 _ _ x5 e5 _
    rw [wrap_i64 (by omega)] at e5
    rw [show x2.toNat = o.toNat + 8 * t' by omega, word_part _ _ _ ht', hbl] at e3
    have e4 : x4 = prew bl (t' + 1) := by rw [e4, e3, Int.toNat_natCast]; rfl
    rw [e4, e5]
    by_cases hl : t' + 1 < 16
    ·exact ⟨rfl, 200 - (t' + 1), by omega, Or.inl ⟨rfl, t' + 1, hl, rfl, rfl⟩⟩
    ·obtain rfl : t' = 15 := by omega
     exact ⟨rfl, 184 - 0, by omega, Or.inr (Or.inl ⟨rfl, 0, by omega, rfl, rfl⟩)⟩
   ·subst ht
    show lc47a d o ((16 + i : Nat) : Int) K80 K80 ws zero8 (schs bl i) _ _
    rw [lc47a_eq]
    refine ⟨fun hlt => ⟨fun h => absurd (of_decide_eq_true h) (by omega), fun _ => ?_⟩, fun hge => ?_⟩
    ·have hlt := of_decide_eq_true hlt
     generalize hw : schs bl i = w
     intro x6 e6 _
     rw [wrap_i64 (by omega)] at e6
     refine ⟨need_of (by omega), need_of (by omega), ?_⟩
     intro x7 e7 _ x8 e8 _
     rw [wrap_i64 (by omega)] at e8
     refine ⟨need_of (by omega), need_of (by omega), ?_⟩
     intro x9 e9 _
     refine ⟨need_of (by omega), ?_⟩
     intro x10 e10 _
     refine ⟨need_of (by omega), ?_⟩
     intro x11 e11 _ x12 e12 _ x13 e13 _ x14 e14 _
     refine ⟨need_of (by omega), ?_⟩
     intro x15 e15 _
     refine ⟨need_of (by omega), ?_⟩
     intro x16 e16 _ x17 e17 _ x18 e18 _ x19 e19 _ x20 e20 _
     rw [wrap_i64 (by omega)] at e20
     refine ⟨need_of (by omega), need_of (by omega), ?_⟩
     intro x21 e21 _ x22 e22 _ x23 e23 _ x24 e24 _
     rw [wrap_i64 (by omega)] at e24
     refine ⟨need_of (by omega), need_of (by omega), ?_⟩
     intro x25 e25 _ x26 e26 _
     refine ⟨need_of (by omega), need_of (by omega), ?_⟩
     intro x27 e27 _ _ x28 e28 _
     rw [wrap_i64 (by omega)] at e28
     have i6 : x6.toNat = 16 + i - 2 := by omega
     have i8 : x8.toNat = 16 + i - 15 := by omega
     have i20 : x20.toNat = 16 + i - 7 := by omega
     have i24 : x24.toNat = 16 + i - 16 := by omega
     rw [i6] at e7
     rw [i8] at e9
     rw [i20] at e21
     rw [i24] at e25
     have hx : x26 = schw w (16 + i) := by
      rw [e26, e23, e22, e14, e12, e10, e11, e13, e19, e17, e15, e16, e18, e7, e9, e21, e25]; rfl
     have e27 : x27 = schs bl (i + 1) := by
      rw [e27, hx, Int.toNat_natCast, ← hw]; rfl
     rw [e27]
     refine ⟨rfl, 184 - (i + 1), by omega, Or.inr (Or.inl ⟨rfl, i + 1, by omega, ?_, rfl⟩)⟩
     rw [show x28 = ((16 + (i + 1) : Nat) : Int) by omega]
    ·have hge := of_decide_eq_false hge
     obtain rfl : i = 64 := by omega
     exact ⟨rfl, 80 - 0, by omega, Or.inr (Or.inr ⟨rfl, 0, by omega, rfl, rfl⟩)⟩
   ·subst ht
    show lc47b (t' : Int) K80 K80 ws zero8 (schs bl 64) (rnds (schs bl 64) ws t') _ _
    rw [lc47b_eq]
    obtain ⟨a, b, c, d', e, f, g, h, hst⟩ := len8 (rnds_len (schs bl 64) ws hws t')
    refine ⟨fun hlt => ?_, fun hge => ?_⟩
    ·have hlt := of_decide_eq_true hlt
     rw [hst]
     generalize hw : schs bl 64 = w at *
     intro x1 e1 _ x2 e2 _ x3 e3 _ x4 e4 _ x5 e5 _ x6 e6 _ x7 e7 _ x8 e8 _ x9 e9 _
     refine ⟨need_of (by omega), ?_⟩
     intro x10 e10 _
     refine ⟨need_of (by omega), ?_⟩
     intro x11 e11 _ x12 e12 _
     refine ⟨need_of (by omega), ?_⟩
     intro x13 e13 _ x14 e14 _
     refine ⟨need_of (by omega), ?_⟩
     intro x15 e15 _
     refine ⟨need_of (by omega), ?_⟩
     intro x16 e16 _ x17 e17 _
     refine ⟨need_of (by omega), ?_⟩
     intro x18 e18 _ x19 e19 _ x20 e20 _ x21 e21 _
     refine ⟨need_of (by omega), need_of (by omega), ?_⟩
     intro x22 e22 _ x23 e23 _
     refine ⟨need_of (by omega), need_of (by omega), ?_⟩
     intro x24 e24 _ x25 e25 _ x26 e26 _ x27 e27 _ x28 e28 _ x29 e29 _
     rw [wrap_i64 (by omega)] at e29
     rw [Int.toNat_natCast] at e22 e24
     have hu : x25 = rndu (K80.getD t' 0) (w.getD t' 0) e f g h := by
      rw [e25, e23, e21, e20, e14, e12, e10, e11, e13, e4, e1, e3, e2, e22, e24]; rfl
     have ha : x27 = rnda (rndu (K80.getD t' 0) (w.getD t' 0) e f g h) a b c := by
      rw [e27, e26, e19, e17, e15, e16, e18, e9, e7, e5, e6, e8, hu]; rfl
     have hd : x28 = IntKind.u64.wrap (d' + rndu (K80.getD t' 0) (w.getD t' 0) e f g h) := by
      rw [e28, hu]; rfl
     refine ⟨rfl, 80 - (t' + 1), by omega, Or.inr (Or.inr ⟨rfl, t' + 1, by omega, ?_, rfl⟩)⟩
     rw [hw, rnds, hst, ha, hd, e29]
     rfl
    ·have hge := of_decide_eq_false hge
     obtain rfl : t' = 80 := by omega
     rw [hst]
     obtain ⟨w0, w1, w2, w3, w4, w5, w6, w7, rfl⟩ := len8 hws
     intro x30 e30 _ x31 e31 _ x32 e32 _ x33 e33 _ x34 e34 _ x35 e35 _ x36 e36 _ x37 e37 _
     refine ⟨⟨?_, trivial⟩, trivial⟩
     show _ = compr _ _
     have e30 : x30 = IntKind.u64.wrap (w0 + a) := e30
     have e31 : x31 = IntKind.u64.wrap (w1 + b) := e31
     have e32 : x32 = IntKind.u64.wrap (w2 + c) := e32
     have e33 : x33 = IntKind.u64.wrap (w3 + d') := e33
     have e34 : x34 = IntKind.u64.wrap (w4 + e) := e34
     have e35 : x35 = IntKind.u64.wrap (w5 + f) := e35
     have e36 : x36 = IntKind.u64.wrap (w6 + g) := e36
     have e37 : x37 = IntKind.u64.wrap (w7 + h) := e37
     rw [compr, hst, e30, e31, e32, e33, e34, e35, e36, e37]
     rfl
  ·show vc47 ws d o _ _
   rw [vc47_eq]
   exact ⟨rfl, 200 - 0, Or.inl ⟨rfl, 0, by omega, rfl, rfl⟩⟩
 ·cases hs
def Δ2 : Tab := ⟨tys, (41, genCtr [.v, .d (.ints .u8), .v] takeG) :: Δ1.ctr, [3, 0, 4, 2], gh4⟩
theorem Δ2_ok : TabOk Tryd.prog Δ2 := Δ1_ok.cons takeG_ok
end Go.Gx

/- The hash of bytes, by blocks of the padded message. -/
namespace Go.Sp
open Go.Gx
def padK0 (n : Nat) : Nat := (239 - n % 128) % 128
def padT (n : Nat) : List Int := 128 :: (List.replicate (padK0 n) 0 ++ (be8 0 ++ be8 (8 * (n : Int))))
end Go.Sp
namespace Go.Gx
open Go.Proofs Go.Sp
set_option linter.unusedVariables false
set_option maxRecDepth 100000

theorem be8_len (x : Int) : (be8 x).length = 8 := rfl
theorem padT_len (n : Nat) : (padT n).length = padK0 n + 17 := by
 unfold padT
 simp only [List.length_cons, List.length_append, List.length_replicate, be8_len]
theorem splice_full (l t : List Int) (j : Nat) (h : l.length ≤ j + t.length) : splice l j t = l.take j ++ t := by
 unfold splice
 rw [List.drop_of_length_le (by omega), List.append_nil]
theorem set_right (A B : List Int) (j : Nat) (v : Int) (i : Nat) (hi : i = A.length + j) : (A ++ B).set i v = A ++ B.set j v := by
 subst hi
 rw [List.set_append_right _ _ (by omega), Nat.add_sub_cancel_left]
theorem setlen_app (A : List Int) (hA : A.length = 112) (n : Int) : setlen (A ++ List.replicate 16 0) n = A ++ (be8 (hin n) ++ be8 (lon n)) := by
 simp only [setlen, lenR, Nat.reduceSub]
 rw [set_right A _ 7 _ 119 (by omega), set_right A _ 15 _ 127 (by omega), set_right A _ 6 _ 118 (by omega), set_right A _ 14 _ 126 (by omega),
  set_right A _ 5 _ 117 (by omega), set_right A _ 13 _ 125 (by omega), set_right A _ 4 _ 116 (by omega), set_right A _ 12 _ 124 (by omega),
  set_right A _ 3 _ 115 (by omega), set_right A _ 11 _ 123 (by omega), set_right A _ 2 _ 114 (by omega), set_right A _ 10 _ 122 (by omega),
  set_right A _ 1 _ 113 (by omega), set_right A _ 9 _ 121 (by omega), set_right A _ 0 _ 112 (by omega), set_right A _ 8 _ 120 (by omega)]
 rfl
theorem hin_of (n : Nat) (h : n ≤ 1152921504606846976) : hin (n : Int) = 0 ∧ lon (n : Int) = 8 * (n : Int) := by
 have hw : IntKind.u64.wrap (n : Int) = (n : Int) := wrap_of_InR (show 0 ≤ (n : Int) ∧ (n : Int) < 18446744073709551616 by omega)
 unfold hin lon
 rw [hw]
 omega
theorem endb_of (bl : List Int) (hbl : bl.length = 128) (n r : Nat) (hr : r = n % 128) : endb bl (n : Int) = bl.take r ++ (128 :: List.replicate (127 - r) 0) := by
 have h1 : ((n : Int).tmod 128).toNat = r := by
  rw [Int.tmod_eq_emod_of_nonneg (by omega)]; omega
 have h2 : (128 - (n : Int).tmod 128).toNat = 127 - r + 1 := by
  rw [Int.tmod_eq_emod_of_nonneg (by omega)]; omega
 have h3 : (bl.take r).length = r := by rw [List.length_take]; omega
 unfold endb
 rw [h1, h2, splice_full _ _ _ (by rw [List.length_replicate]; omega), set_right _ _ 0 _ r (by omega), List.replicate_succ, List.set_cons_zero]
theorem rep_add (a b : Nat) : List.replicate (a + b) (0 : Int) = List.replicate a 0 ++ List.replicate b 0 := List.replicate_append_replicate.symm
theorem finw_feed (s : HS) (n : Nat) (hn : s.n = (n : Int)) (hbl : s.bl.length = 128) (h : n ≤ 1152921504606846976) : finw s.ws s.bl (n : Int) = (feed (padT n) s).ws := by
 obtain ⟨hh, hl⟩ := hin_of n h
 have hm : (s.n % 128).toNat = n % 128 := by rw [hn]; omega
 have hE := endb_of s.bl hbl n (n % 128) rfl
 have h3 : (s.bl.take (n % 128)).length = n % 128 := by rw [List.length_take]; omega
 have hlt : n % 128 < 128 := Nat.mod_lt _ (by omega)
 have htm : (n : Int).tmod 128 = ((n % 128 : Nat) : Int) := by rw [Int.tmod_eq_emod_of_nonneg (by omega)]; omega
 generalize hr : n % 128 = r at *
 unfold finw
 rw [htm, hE]
 by_cases hc : r < 112
 ·rw [if_neg (by omega)]
  have hk : padK0 n = 111 - r := by unfold padK0; rw [hr]; omega
  have hpl : (padT n).length = 128 - r := by rw [padT_len, hk]; omega
  rw [feed_chunk (padT n) s (by omega) hbl (by omega) (by unfold padT; simp), hm, if_pos (by omega), splice_full _ _ _ (by omega)]
  rw [show 127 - r = (111 - r) + 16 by omega, rep_add, ← List.cons_append, ← List.append_assoc, setlen_app _ (by simp; omega), hh, hl]
  unfold padT
  rw [hk]
  simp only [List.append_assoc, List.cons_append]
 ·rw [if_pos (by omega)]
  have hk : padK0 n = (127 - r) + 112 := by unfold padK0; rw [hr]; omega
  have hsplit : padT n = (128 :: List.replicate (127 - r) 0) ++ (List.replicate 112 0 ++ (be8 0 ++ be8 (8 * (n : Int)))) := by
   unfold padT
   rw [hk, rep_add]
   simp only [List.append_assoc, List.cons_append]
  have hl1 : (128 :: List.replicate (127 - r) (0 : Int)).length = 128 - r := by simp; omega
  have hl2 : (List.replicate 112 (0 : Int) ++ (be8 0 ++ be8 (8 * (n : Int)))).length = 128 := by
   simp only [List.length_append, List.length_replicate, be8_len]
  have hs1 : splice s.bl r (128 :: List.replicate (127 - r) (0 : Int)) = s.bl.take r ++ 128 :: List.replicate (127 - r) 0 := splice_full _ _ _ (by omega)
  have hs2 : (s.bl.take r ++ 128 :: List.replicate (127 - r) (0 : Int)).length = 128 := by rw [List.length_append]; omega
  rw [hsplit, feed_append, feed_chunk (128 :: List.replicate (127 - r) 0) s (by omega) hbl (by omega) (by simp), hm, if_pos (by omega), hs1]
  rw [feed_chunk _ _ (by dsimp only; omega) hs2 (by dsimp only; omega) (by simp)]
  dsimp only
  have h0 : ((s.n + ((128 :: List.replicate (127 - r) (0 : Int)).length : Int)) % 128).toNat = 0 := by rw [hn, hl1]; omega
  rw [h0, if_pos (by omega), splice_full _ (List.replicate 112 (0 : Int) ++ (be8 0 ++ be8 (8 * (n : Int)))) 0 (by omega), List.take_zero, List.nil_append]
  have h9 : splice (s.bl.take r ++ 128 :: List.replicate (127 - r) (0 : Int)) 0 (List.replicate 128 0) = List.replicate 112 0 ++ List.replicate 16 0 := by
   rw [splice_full _ _ _ (by rw [hs2]; simp), ← rep_add]; rfl
  rw [h9, setlen_app _ (by simp), hh, hl]
theorem feed_bl0 (b : List Int) : (feed b st0).bl.length = 128 := by rw [feed_bl]; simp [st0]
theorem sha_pad (b : List Int) (h : b.length ≤ 1152921504606846976) : sha b = outb (feed (b ++ padT b.length) st0).ws := by
 have hn := feed_st0 b
 unfold sha sumL
 rw [if_pos rfl, feed_append, hn, finw_feed (feed b st0) b.length hn (feed_bl0 b) h]
theorem feed_block (p : List Int) (j : Nat) (h : 128 * j + 128 ≤ p.length) : (feed (p.take (128 * (j + 1))) st0).ws = compr (feed (p.take (128 * j)) st0).ws ((p.drop (128 * j)).take 128) := by
 have hs : p.take (128 * (j + 1)) = p.take (128 * j) ++ (p.drop (128 * j)).take 128 := by
  rw [show 128 * (j + 1) = 128 * j + 128 by omega, List.take_add]
 have hl : ((p.drop (128 * j)).take 128).length = 128 := by rw [List.length_take, List.length_drop]; omega
 have hl1 : (p.take (128 * j)).length = 128 * j := by rw [List.length_take]; omega
 have hn := feed_st0 (p.take (128 * j))
 have hb := feed_bl0 (p.take (128 * j))
 rw [hl1] at hn
 have hm : ((feed (p.take (128 * j)) st0).n % 128).toNat = 0 := by rw [hn]; omega
 rw [hs, feed_append, feed_chunk _ _ (by omega) hb (by omega) (by intro e; rw [e] at hl; simp at hl), hm, if_pos (by omega), splice_full _ _ _ (by omega), List.take_zero, List.nil_append]
end Go.Gx

/- The reference's hash. -/
namespace Go.Gx
open Go.Proofs Go.Sp
set_option linter.unusedVariables false
set_option maxRecDepth 100000

def L37 : Loops := [(3, ⟨[.ro 490 (.ints .u8) (.l []), .any, .p 1000 0, .sl 1001 0 1 ⟨true, 0⟩ ⟨false, 0⟩] ++ reps .any 61, gh4 ++ [(490, .world), (1000, .segs false [.arr .u8 64 false []]), (1001, .segs false [.rowI .u8 []])], 2000⟩),
 (9, ⟨[.any, .any, .p 1000 0, .sl 1001 0 1 ⟨true, 0⟩ ⟨false, 0⟩, .p 1002 0, .i .i64 ⟨false, 0⟩] ++ reps .any 59, gh4 ++ [(490, .world), (1000, .segs false [.arr .u8 64 false []]), (1001, .segs false [.rowI .u8 []]), (1002, .segs false [.arr .u64 8 false []])], 2000⟩)]
def vc37 (d : RO) (K : List RV → List (Option (List Seg)) → Prop) (Q : Nat → List Pv → Prop) : Prop := fnVcG 0 Δ2 Tryd.f21 L37 [.ro 490 (.ints .u8) d] (gh4 ++ (490, .world) :: []) K Q
def lc37a (d : RO) (z : Int) (g g' r l : List Int) (K : List RV → List (Option (List Seg)) → Prop) (Q : Nat → List Pv → Prop) : Prop := loopVcG 0 Δ2 Tryd.f21 L37 3 [.ro d, .z z, .l g, .l g', .l r, .l l] K Q
def lc37b (z i : Int) (g g' r l s : List Int) (K : List RV → List (Option (List Seg)) → Prop) (Q : Nat → List Pv → Prop) : Prop := loopVcG 0 Δ2 Tryd.f21 L37 9 [.z z, .z i, .l g, .l g', .l r, .l l, .l s] K Q
theorem vc37_eq : ∀ (d : RO) (K : List RV → List (Option (List Seg)) → Prop) (Q : Nat → List Pv → Prop), vc37 d K Q = (Need ((([] ++ roL d).length : Int) * 1 ≤ (70368744177664 : Int)) ∧ ForL .u8 ([] ++ roL d) fun x1 => ForN (([] ++ roL d).length : Int) fun x2 => Need (↑(x1 ++ List.take 1 (List.drop 0 [(128 : Int)])).length * (1 : Int) ≤ 70368744177664) ∧ Need (x2 = ↑x1.length) ∧ Need ((1 : Int) ≤ 1) ∧ ForL .u8 (x1 ++ List.take 1 (List.drop 0 [(128 : Int)])) fun x3 => ForN (↑(x1 ++ List.take 1 (List.drop 0 [(128 : Int)])).length) fun x4 => Same Tryd.f21 3 (itemsOf Tryd.f21 3) ∧ Q 3 [Pv.ro d, Pv.z x4, Pv.l K80, Pv.l K80, Pv.l (List.replicate 64 (0 : Int)), Pv.l x3]) := by
 intros
 kernel_rfl
theorem lc37a_eq : ∀ (d : RO) (z : Int) (g g' r l : List Int) (K : List RV → List (Option (List Seg)) → Prop) (Q : Nat → List Pv → Prop), lc37a d z g g' r l K Q = ForI .i64 (z.tmod (128 : Int)) fun x1 => ((x1 != (112 : Int)) = true → Need (↑(l ++ List.take 1 (List.drop 0 [(0 : Int)])).length * (1 : Int) ≤ 70368744177664) ∧ Need (z = ↑l.length) ∧ Need ((1 : Int) ≤ 1) ∧ ForL .u8 (l ++ List.take 1 (List.drop 0 [(0 : Int)])) fun x2 => ForN (↑(l ++ List.take 1 (List.drop 0 [(0 : Int)])).length) fun x3 => Same Tryd.f21 3 (itemsOf Tryd.f21 3) ∧ Q 3 [Pv.ro d, Pv.z x3, Pv.l g, Pv.l g', Pv.l r, Pv.l x2]) ∧ ((x1 != (112 : Int)) = false → ForL .u8 (be8 (0 : Int)) fun x4 => ForN (8 : Int) fun x5 => Need (↑(l ++ List.take x5.toNat (List.drop 0 x4)).length * (1 : Int) ≤ 70368744177664) ∧ Need (z = ↑l.length) ∧ Need (0 + x5 ≤ ↑x4.length) ∧ ForL .u8 (l ++ List.take x5.toNat (List.drop 0 x4)) fun x6 => ForN (↑(l ++ List.take x5.toNat (List.drop 0 x4)).length) fun x7 => ForI .u64 (IntKind.u64.wrap ((roL d).length : Int)) fun x8 => ForI .u64 (IntKind.u64.wrap (8 * x8)) fun x9 => ForL .u8 (be8 x9) fun x10 => ForN ((be8 x9).length : Int) fun x11 => Need (↑(x6 ++ List.take x11.toNat (List.drop 0 x10)).length * (1 : Int) ≤ 70368744177664) ∧ Need (x7 = ↑x6.length) ∧ Need (0 + x11 ≤ ↑x10.length) ∧ ForL .u8 (x6 ++ List.take x11.toNat (List.drop 0 x10)) fun x12 => ForN (↑(x6 ++ List.take x11.toNat (List.drop 0 x10)).length) fun x13 => Same Tryd.f21 9 (itemsOf Tryd.f21 9) ∧ Q 9 [Pv.z x13, Pv.z 0, Pv.l g, Pv.l g', Pv.l r, Pv.l x12, Pv.l [(7640891576956012808 : Int), (13503953896175478587 : Int), (4354685564936845355 : Int), (11912009170470909681 : Int), (5840696475078001361 : Int), (11170449401992604703 : Int), (2270897969802886507 : Int), (6620516959819538809 : Int)]]) := by
 intros
 kernel_rfl
def NdF (n : Int) (l : List Int) : Nat → Prop → Prop
 | 0, P => P
 | m + 1, P => Need ((0 : Int) ≤ ((7 - m : Nat) : Int) ∧ ((7 - m : Nat) : Int) < n) ∧ Need (0 + 1 * (7 - m) < l.length) ∧ NdF n l m P
def wdR (x : List Int) (b : Nat) : Nat → List Int → List Int
 | 0, o => o
 | m + 1, o => wdR x b m (o.set (b + (7 - m)) (x.getD (0 + 1 * (7 - m)) 0))
def WdF (s : List Int) : Nat → List Int → (List Int → Prop) → Prop
 | 0, o, P => P o
 | m + 1, o, P => ∀ (x : List Int), x = be8 (s.getD (7 - m) 0) → AllR IntKind.u8 x → ∀ (n : Int), n = (((be8 (s.getD (7 - m) 0)).length : Nat) : Int) → (0 : Int) ≤ n → InR IntKind.i64 n → NdF n x 8 (WdF s m (wdR x (8 * (7 - m)) 8 o) P)
def wdA (s : List Int) : Nat → List Int → List Int
 | 0, o => o
 | m + 1, o => wdA s m (wdR (be8 (s.getD (7 - m) 0)) (8 * (7 - m)) 8 o)
theorem ndF_ok {x : Int} {P : Prop} (h : P) : ∀ m, m ≤ 8 → NdF 8 (be8 x) m P
 | 0, _ => h
 | m + 1, hm => ⟨need_of (by omega), need_of (by rw [be8_len]; omega), ndF_ok h m (by omega)⟩
theorem wdF_ok {s : List Int} {P : List Int → Prop} : ∀ (m : Nat) (o : List Int), P (wdA s m o) → WdF s m o P
 | 0, _, h => h
 | m + 1, o, h => fun x e _ n e' _ _ => by
  rw [be8_len] at e'
  subst e e'
  exact ndF_ok (wdF_ok m _ h) 8 (by omega)
theorem lc37b_eq : ∀ (z i : Int) (g g' r l s : List Int) (K : List RV → List (Option (List Seg)) → Prop) (Q : Nat → List Pv → Prop), lc37b z i g g' r l s K Q = ((decide (i < z) = true → Need ((0 : Int) + z ≤ ↑l.length) ∧ Need (0 ≤ i) ∧ Need (i + 128 ≤ ↑(roL (RO.l (List.take z.toNat (List.drop 0 l)))).length) ∧ ForA .u64 8 (compr s (List.take 128 (List.drop i.toNat (roL (RO.l (List.take z.toNat (List.drop 0 l))))))) fun x1 => ForI .i64 (IntKind.i64.wrap (i + 128)) fun x2 => Same Tryd.f21 9 (itemsOf Tryd.f21 9) ∧ Q 9 [Pv.z z, Pv.z x2, Pv.l g, Pv.l g', Pv.l r, Pv.l l, Pv.l x1]) ∧ (decide (i < z) = false → WdF s 8 (List.replicate 64 0) fun o => K [RV.v (SV.arr .u8 64 false o)] [])) := by
 intros
 kernel_rfl

def padP (b : List Int) (k : Nat) : List Int := b ++ 128 :: List.replicate k 0
theorem padP_len (b : List Int) (k : Nat) : (padP b k).length = b.length + 1 + k := by
 unfold padP
 rw [List.length_append, List.length_cons, List.length_replicate]; omega
theorem padP_succ (b : List Int) (k : Nat) : padP b k ++ [0] = padP b (k + 1) := by
 unfold padP
 rw [List.append_assoc, List.cons_append, show [(0 : Int)] = List.replicate 1 0 from rfl, List.replicate_append_replicate]
theorem padP_full (b : List Int) : padP b (padK0 b.length) ++ be8 0 ++ be8 (8 * (b.length : Int)) = b ++ padT b.length := by
 unfold padP padT
 simp only [List.append_assoc, List.cons_append]
def inv37 (d : RO) (p : List Int) (key : Nat) (ps : List Pv) (mm : Nat) : Prop :=
 (key = 3 ∧ ∃ k : Nat, k ≤ padK0 (roL d).length ∧ ps = [.ro d, .z ((padP (roL d) k).length : Int), .l K80, .l K80, .l (List.replicate 64 0), .l (padP (roL d) k)] ∧ mm = p.length + 1 + (padK0 (roL d).length - k)) ∨
 (key = 9 ∧ ∃ j : Nat, 128 * j ≤ p.length ∧ ps = [.z (p.length : Int), .z ((128 * j : Nat) : Int), .l K80, .l K80, .l (List.replicate 64 0), .l p, .l (feed (p.take (128 * j)) st0).ws] ∧ mm = p.length - 128 * j)
def hashG : List AV → Option (List Prop × List RV × List (Option (List Seg)))
 | [.d (.ints .u8) d] => some ([((roL d).length : Int) ≤ 70368744177000], [.v (.arr .u8 64 false (sha (roL d)))], [])
 | _ => none
set_option maxHeartbeats 2000000 in
theorem hashG_ok : CallOk Tryd.prog gh4 21 (genCtr [.d (.ints .u8)] hashG) := by
 refine call_gen (fn := Tryd.f21) Δ2_ok rfl glow4 rfl (by kernel_rfl) (by kernel_rfl) _ hashG fun av p rvs fin hs hp hf => ?_
 unfold hashG at hs
 split at hs
 ·rename_i d
  simp only [Option.some.injEq, Prod.mk.injEq] at hs
  obtain ⟨rfl, rfl, rfl⟩ := hs
  have hd : ((roL d).length : Int) ≤ 70368744177000 := hp.1
  obtain ⟨p, hpp⟩ : ∃ p, roL d ++ padT (roL d).length = p := ⟨_, rfl⟩
  have hk128 : padK0 (roL d).length < 128 := Nat.mod_lt _ (by omega)
  have hk112 : ((roL d).length + 1 + padK0 (roL d).length) % 128 = 112 := by unfold padK0; omega
  have hpl : p.length = (roL d).length + (padK0 (roL d).length + 17) := by rw [← hpp, List.length_append, padT_len]
  have hp128 : p.length % 128 = 0 := by omega
  refine ⟨[.ro 490 (.ints .u8) d], [], L37, inv37 d p, ⟨rfl, trivial⟩, Nat.le_of_ble_eq_true (by kernel_rfl), ?_, ?_, ?_⟩
  ·intro kk t ht g hg
   have hg : g ∈ [3, 0, 4, 2, 490] := hg
   simp only [List.mem_cons, List.not_mem_nil, or_false] at hg
   simp only [L37, List.mem_cons, List.not_mem_nil, or_false, Prod.mk.injEq] at ht
   obtain ⟨rfl, rfl⟩ | ⟨rfl, rfl⟩ := ht <;> rcases hg with rfl | rfl | rfl | rfl | rfl <;> exact ⟨by omega, rfl⟩
  ·rintro vk t ps mm ht (⟨rfl, k, hk, rfl, rfl⟩ | ⟨rfl, j, hj, rfl, rfl⟩)
   all_goals simp only [L37, List.mem_cons, List.not_mem_nil, or_false, Prod.mk.injEq, Nat.reduceEqDiff, false_and, true_and, false_or, or_false] at ht
   ·subst ht
    have hl := padP_len (roL d) k
    have hl2 := padP_len (roL d) (k + 1)
    show lc37a d ((padP (roL d) k).length : Int) K80 K80 (List.replicate 64 0) (padP (roL d) k) _ _
    rw [lc37a_eq]
    intro x1 e1 _
    rw [Int.tmod_eq_emod_of_nonneg (by omega)] at e1
    rw [show List.take 1 (List.drop 0 [(0 : Int)]) = [0] from rfl, padP_succ]
    refine ⟨fun h => ?_, fun h => ?_⟩
    ·have h : x1 ≠ 112 := by simpa using h
     have hk' : k < padK0 (roL d).length := by
      rcases Nat.lt_or_ge k (padK0 (roL d).length) with h9 | h9
      ·exact h9
      ·exfalso
       obtain rfl : k = padK0 (roL d).length := by omega
       omega
     refine ⟨need_of (by omega), need_of rfl, need_of (by omega), ?_⟩
     intro x2 e2 _ x3 e3 _ _
     subst e2; subst e3
     exact ⟨rfl, p.length + 1 + (padK0 (roL d).length - (k + 1)), by omega, Or.inl ⟨rfl, k + 1, by omega, rfl, rfl⟩⟩
    ·have h : x1 = 112 := by simpa using h
     have hk' : k = padK0 (roL d).length := by omega
     intro x4 e4 _ x5 e5 _ _
     subst e4; subst e5
     rw [show List.take (8 : Int).toNat (List.drop 0 (be8 0)) = be8 0 from rfl]
     have hl6 : (padP (roL d) k ++ be8 0).length = (padP (roL d) k).length + 8 := by rw [List.length_append, be8_len]
     refine ⟨need_of (by omega), need_of rfl, need_of (by rw [be8_len]; omega), ?_⟩
     intro x6 e6 _ x7 e7 _ _ x8 e8 _ x9 e9 _ x10 e10 _ x11 e11 _ _
     subst e6; subst e7
     have hw : IntKind.u64.wrap (((roL d).length : Nat) : Int) = ((roL d).length : Int) := wrap_of_InR (show 0 ≤ (((roL d).length : Nat) : Int) ∧ (((roL d).length : Nat) : Int) < 18446744073709551616 by omega)
     rw [hw] at e8
     have hw2 : IntKind.u64.wrap (8 * x8) = 8 * x8 := wrap_of_InR (show 0 ≤ 8 * x8 ∧ 8 * x8 < 18446744073709551616 by omega)
     rw [hw2, e8] at e9
     rw [e9] at e10
     rw [be8_len] at e11
     subst e11; subst e10
     rw [show List.take (((8 : Nat) : Int)).toNat (List.drop 0 (be8 (8 * ((roL d).length : Int)))) = be8 (8 * ((roL d).length : Int)) from rfl]
     have hfull : padP (roL d) k ++ be8 0 ++ be8 (8 * ((roL d).length : Int)) = p := by rw [hk', padP_full, hpp]
     rw [hfull]
     refine ⟨need_of (by omega), need_of rfl, need_of (by rw [be8_len]; omega), ?_⟩
     intro x12 e12 _ x13 e13 _ _
     rw [e13, e12]
     exact ⟨rfl, p.length - 128 * 0, by omega, Or.inr ⟨rfl, 0, by omega, rfl, rfl⟩⟩
   ·subst ht
    show lc37b (p.length : Int) ((128 * j : Nat) : Int) K80 K80 (List.replicate 64 0) p (feed (p.take (128 * j)) st0).ws _ _
    rw [lc37b_eq]
    refine ⟨fun hlt => ?_, fun hge => ?_⟩
    ·have hlt := of_decide_eq_true hlt
     have hj1 : 128 * j + 128 ≤ p.length := by omega
     have hb := feed_block p j hj1
     rw [roL_l, List.drop_zero, Int.toNat_natCast, Int.toNat_natCast, List.take_of_length_le (Nat.le_refl p.length), ← hb]
     refine ⟨need_of (by omega), need_of (by omega), need_of (by omega), ?_⟩
     intro x1 e1 _ _ x2 e2 _
     rw [wrap_i64 (by omega)] at e2
     refine ⟨rfl, p.length - 128 * (j + 1), by omega, Or.inr ⟨rfl, j + 1, by omega, ?_, rfl⟩⟩
     rw [e1, show x2 = ((128 * (j + 1) : Nat) : Int) by omega]
    ·have hge := of_decide_eq_false hge
     have hj2 : 128 * j = p.length := by omega
     have hfin : outb (feed (p.take (128 * j)) st0).ws = sha (roL d) := by
      rw [hj2, List.take_of_length_le (Nat.le_refl _), sha_pad (roL d) (by omega), hpp]
     generalize (feed (p.take (128 * j)) st0).ws = s at *
     refine wdF_ok 8 _ ⟨⟨?_, trivial⟩, trivial⟩
     show wdA s 8 (List.replicate 64 0) = sha (roL d)
     rw [← hfin]
     rfl
  ·show vc37 d _ _
   rw [vc37_eq, List.nil_append, show List.take 1 (List.drop 0 [(128 : Int)]) = [128] from rfl]
   have hl := padP_len (roL d) 0
   have hp0 : roL d ++ [128] = padP (roL d) 0 := rfl
   refine ⟨need_of (by omega), ?_⟩
   intro x1 e1 _ x2 e2 _ _
   subst e1; subst e2
   rw [hp0]
   refine ⟨need_of (by omega), need_of rfl, need_of (by omega), ?_⟩
   intro x3 e3 _ x4 e4 _ _
   subst e3; subst e4
   exact ⟨rfl, p.length + 1 + (padK0 (roL d).length - 0), Or.inl ⟨rfl, 0, by omega, rfl, rfl⟩⟩
 ·cases hs
def Δ3 : Tab := ⟨tys, (21, genCtr [.d (.ints .u8)] hashG) :: Δ2.ctr, [3, 0, 4, 2], gh4⟩
theorem Δ3_ok : TabOk Tryd.prog Δ3 := Δ2_ok.cons hashG_ok
end Go.Gx

/- No tables. -/
namespace Go.Gx
open Go.Proofs Go.Sp
set_option linter.unusedVariables false

def ghE : Heap := []
def Φ0 : Tab := ⟨tys, [], [], ghE⟩
theorem Φ0_ok : TabOk Tryd.prog Φ0 := .nil mixed tys_ok
theorem glowE : ∀ g ∈ keysOf ghE, g < 490 := fun g hg => by cases hg
end Go.Gx

/- Eight bytes put behind a list. -/
namespace Go.Gx
open Go.Proofs Go.Sp
set_option linter.unusedVariables false
set_option maxRecDepth 100000

def vc13o (l : List Int) (n : Int) (K : List RV → List (Option (List Seg)) → Prop) (Q : Nat → List Pv → Prop) : Prop := fnVcG 1 Φ0 Tryd.f39 [] [.sl 600 0 1 ⟨true, 0⟩ ⟨false, (l.length : Int)⟩, .i .i64 ⟨false, n⟩] (ghE ++ (490, .world) :: [(600, .segs false [.rowI .u8 l])]) K Q
def vc13n (n : Int) (K : List RV → List (Option (List Seg)) → Prop) (Q : Nat → List Pv → Prop) : Prop := fnVcG 0 Φ0 Tryd.f39 [] [.nsl, .i .i64 ⟨false, n⟩] (ghE ++ (490, .world) :: []) K Q
theorem vc13o_eq : ∀ (l : List Int) (n : Int) (K : List RV → List (Option (List Seg)) → Prop) (Q : Nat → List Pv → Prop), vc13o l n K Q = ForI .i64 (shrI .i64 n (0 : Int)) fun x1 => ForI .u8 (IntKind.u8.wrap x1) fun x2 => Need ((((l ++ List.take 1 (List.drop 0 [x2])).length : Nat) : Int) * 1 ≤ (70368744177664 : Int)) ∧ Need (((l.length : Nat) : Int) = ((l.length : Nat) : Int)) ∧ Need ((1 : Int) ≤ (([x2].length : Nat) : Int)) ∧ ForL .u8 (l ++ List.take 1 (List.drop 0 [x2])) fun x3 => ForN (((l ++ List.take 1 (List.drop 0 [x2])).length : Nat) : Int) fun x4 => ForI .i64 (shrI .i64 n (8 : Int)) fun x5 => ForI .u8 (IntKind.u8.wrap x5) fun x6 => Need ((((x3 ++ List.take 1 (List.drop 0 [x6])).length : Nat) : Int) * 1 ≤ (70368744177664 : Int)) ∧ Need (x4 = ((x3.length : Nat) : Int)) ∧ Need ((1 : Int) ≤ (([x6].length : Nat) : Int)) ∧ ForL .u8 (x3 ++ List.take 1 (List.drop 0 [x6])) fun x7 => ForN (((x3 ++ List.take 1 (List.drop 0 [x6])).length : Nat) : Int) fun x8 => ForI .i64 (shrI .i64 n (16 : Int)) fun x9 => ForI .u8 (IntKind.u8.wrap x9) fun x10 => Need ((((x7 ++ List.take 1 (List.drop 0 [x10])).length : Nat) : Int) * 1 ≤ (70368744177664 : Int)) ∧ Need (x8 = ((x7.length : Nat) : Int)) ∧ Need ((1 : Int) ≤ (([x10].length : Nat) : Int)) ∧ ForL .u8 (x7 ++ List.take 1 (List.drop 0 [x10])) fun x11 => ForN (((x7 ++ List.take 1 (List.drop 0 [x10])).length : Nat) : Int) fun x12 => ForI .i64 (shrI .i64 n (24 : Int)) fun x13 => ForI .u8 (IntKind.u8.wrap x13) fun x14 => Need ((((x11 ++ List.take 1 (List.drop 0 [x14])).length : Nat) : Int) * 1 ≤ (70368744177664 : Int)) ∧ Need (x12 = ((x11.length : Nat) : Int)) ∧ Need ((1 : Int) ≤ (([x14].length : Nat) : Int)) ∧ ForL .u8 (x11 ++ List.take 1 (List.drop 0 [x14])) fun x15 => ForN (((x11 ++ List.take 1 (List.drop 0 [x14])).length : Nat) : Int) fun x16 => ForI .i64 (shrI .i64 n (32 : Int)) fun x17 => ForI .u8 (IntKind.u8.wrap x17) fun x18 => Need ((((x15 ++ List.take 1 (List.drop 0 [x18])).length : Nat) : Int) * 1 ≤ (70368744177664 : Int)) ∧ Need (x16 = ((x15.length : Nat) : Int)) ∧ Need ((1 : Int) ≤ (([x18].length : Nat) : Int)) ∧ ForL .u8 (x15 ++ List.take 1 (List.drop 0 [x18])) fun x19 => ForN (((x15 ++ List.take 1 (List.drop 0 [x18])).length : Nat) : Int) fun x20 => ForI .i64 (shrI .i64 n (40 : Int)) fun x21 => ForI .u8 (IntKind.u8.wrap x21) fun x22 => Need ((((x19 ++ List.take 1 (List.drop 0 [x22])).length : Nat) : Int) * 1 ≤ (70368744177664 : Int)) ∧ Need (x20 = ((x19.length : Nat) : Int)) ∧ Need ((1 : Int) ≤ (([x22].length : Nat) : Int)) ∧ ForL .u8 (x19 ++ List.take 1 (List.drop 0 [x22])) fun x23 => ForN (((x19 ++ List.take 1 (List.drop 0 [x22])).length : Nat) : Int) fun x24 => ForI .i64 (shrI .i64 n (48 : Int)) fun x25 => ForI .u8 (IntKind.u8.wrap x25) fun x26 => Need ((((x23 ++ List.take 1 (List.drop 0 [x26])).length : Nat) : Int) * 1 ≤ (70368744177664 : Int)) ∧ Need (x24 = ((x23.length : Nat) : Int)) ∧ Need ((1 : Int) ≤ (([x26].length : Nat) : Int)) ∧ ForL .u8 (x23 ++ List.take 1 (List.drop 0 [x26])) fun x27 => ForN (((x23 ++ List.take 1 (List.drop 0 [x26])).length : Nat) : Int) fun x28 => ForI .i64 (shrI .i64 n (56 : Int)) fun x29 => ForI .u8 (IntKind.u8.wrap x29) fun x30 => Need ((((x27 ++ List.take 1 (List.drop 0 [x30])).length : Nat) : Int) * 1 ≤ (70368744177664 : Int)) ∧ Need (x28 = ((x27.length : Nat) : Int)) ∧ Need ((1 : Int) ≤ (([x30].length : Nat) : Int)) ∧ ForL .u8 (x27 ++ List.take 1 (List.drop 0 [x30])) fun x31 => ForN (((x27 ++ List.take 1 (List.drop 0 [x30])).length : Nat) : Int) fun x32 => Need (0 + x32 ≤ ((x31.length : Nat) : Int)) ∧ K [RV.row (Con.ints .u8 (List.take x32.toNat (List.drop 0 x31)))] [none] := by
 intros
 kernel_rfl
theorem vc13n_eq : ∀ (n : Int) (K : List RV → List (Option (List Seg)) → Prop) (Q : Nat → List Pv → Prop), vc13n n K Q = ForI .i64 (shrI .i64 n (0 : Int)) fun x1 => ForI .u8 (IntKind.u8.wrap x1) fun x2 => Need (((([] ++ List.take 1 (List.drop 0 [x2])).length : Nat) : Int) * 1 ≤ (70368744177664 : Int)) ∧ Need ((1 : Int) ≤ (([x2].length : Nat) : Int)) ∧ ForL .u8 ([] ++ List.take 1 (List.drop 0 [x2])) fun x3 => ForN ((([] ++ List.take 1 (List.drop 0 [x2])).length : Nat) : Int) fun x4 => ForI .i64 (shrI .i64 n (8 : Int)) fun x5 => ForI .u8 (IntKind.u8.wrap x5) fun x6 => Need ((((x3 ++ List.take 1 (List.drop 0 [x6])).length : Nat) : Int) * 1 ≤ (70368744177664 : Int)) ∧ Need (x4 = ((x3.length : Nat) : Int)) ∧ Need ((1 : Int) ≤ (([x6].length : Nat) : Int)) ∧ ForL .u8 (x3 ++ List.take 1 (List.drop 0 [x6])) fun x7 => ForN (((x3 ++ List.take 1 (List.drop 0 [x6])).length : Nat) : Int) fun x8 => ForI .i64 (shrI .i64 n (16 : Int)) fun x9 => ForI .u8 (IntKind.u8.wrap x9) fun x10 => Need ((((x7 ++ List.take 1 (List.drop 0 [x10])).length : Nat) : Int) * 1 ≤ (70368744177664 : Int)) ∧ Need (x8 = ((x7.length : Nat) : Int)) ∧ Need ((1 : Int) ≤ (([x10].length : Nat) : Int)) ∧ ForL .u8 (x7 ++ List.take 1 (List.drop 0 [x10])) fun x11 => ForN (((x7 ++ List.take 1 (List.drop 0 [x10])).length : Nat) : Int) fun x12 => ForI .i64 (shrI .i64 n (24 : Int)) fun x13 => ForI .u8 (IntKind.u8.wrap x13) fun x14 => Need ((((x11 ++ List.take 1 (List.drop 0 [x14])).length : Nat) : Int) * 1 ≤ (70368744177664 : Int)) ∧ Need (x12 = ((x11.length : Nat) : Int)) ∧ Need ((1 : Int) ≤ (([x14].length : Nat) : Int)) ∧ ForL .u8 (x11 ++ List.take 1 (List.drop 0 [x14])) fun x15 => ForN (((x11 ++ List.take 1 (List.drop 0 [x14])).length : Nat) : Int) fun x16 => ForI .i64 (shrI .i64 n (32 : Int)) fun x17 => ForI .u8 (IntKind.u8.wrap x17) fun x18 => Need ((((x15 ++ List.take 1 (List.drop 0 [x18])).length : Nat) : Int) * 1 ≤ (70368744177664 : Int)) ∧ Need (x16 = ((x15.length : Nat) : Int)) ∧ Need ((1 : Int) ≤ (([x18].length : Nat) : Int)) ∧ ForL .u8 (x15 ++ List.take 1 (List.drop 0 [x18])) fun x19 => ForN (((x15 ++ List.take 1 (List.drop 0 [x18])).length : Nat) : Int) fun x20 => ForI .i64 (shrI .i64 n (40 : Int)) fun x21 => ForI .u8 (IntKind.u8.wrap x21) fun x22 => Need ((((x19 ++ List.take 1 (List.drop 0 [x22])).length : Nat) : Int) * 1 ≤ (70368744177664 : Int)) ∧ Need (x20 = ((x19.length : Nat) : Int)) ∧ Need ((1 : Int) ≤ (([x22].length : Nat) : Int)) ∧ ForL .u8 (x19 ++ List.take 1 (List.drop 0 [x22])) fun x23 => ForN (((x19 ++ List.take 1 (List.drop 0 [x22])).length : Nat) : Int) fun x24 => ForI .i64 (shrI .i64 n (48 : Int)) fun x25 => ForI .u8 (IntKind.u8.wrap x25) fun x26 => Need ((((x23 ++ List.take 1 (List.drop 0 [x26])).length : Nat) : Int) * 1 ≤ (70368744177664 : Int)) ∧ Need (x24 = ((x23.length : Nat) : Int)) ∧ Need ((1 : Int) ≤ (([x26].length : Nat) : Int)) ∧ ForL .u8 (x23 ++ List.take 1 (List.drop 0 [x26])) fun x27 => ForN (((x23 ++ List.take 1 (List.drop 0 [x26])).length : Nat) : Int) fun x28 => ForI .i64 (shrI .i64 n (56 : Int)) fun x29 => ForI .u8 (IntKind.u8.wrap x29) fun x30 => Need ((((x27 ++ List.take 1 (List.drop 0 [x30])).length : Nat) : Int) * 1 ≤ (70368744177664 : Int)) ∧ Need (x28 = ((x27.length : Nat) : Int)) ∧ Need ((1 : Int) ≤ (([x30].length : Nat) : Int)) ∧ ForL .u8 (x27 ++ List.take 1 (List.drop 0 [x30])) fun x31 => ForN (((x27 ++ List.take 1 (List.drop 0 [x30])).length : Nat) : Int) fun x32 => Need (0 + x32 ≤ ((x31.length : Nat) : Int)) ∧ K [RV.row (Con.ints .u8 (List.take x32.toNat (List.drop 0 x31)))] [] := by
 intros
 kernel_rfl

theorem one_of (x : Int) : List.take 1 (List.drop 0 [x]) = [x] := rfl
def leG : List AV → Option (List Prop × List RV × List (Option (List Seg)))
 | [.o (.ints .u8 l), .v (.i .i64 ⟨_, n⟩)] => some ([(l.length : Int) + 8 ≤ 70368744177664], [.row (.ints .u8 (l ++ le8 n))], [none])
 | [.v .nsl, .v (.i .i64 ⟨_, n⟩)] => some ([], [.row (.ints .u8 (le8 n))], [])
 | _ => none
set_option maxHeartbeats 2000000 in
theorem leG_ok : CallOk Tryd.prog ghE 39 (genCtr [.o, .v] leG) := by
 refine call_gen (fn := Tryd.f39) Φ0_ok rfl glowE rfl (by kernel_rfl) (by kernel_rfl) _ leG fun av p rvs fin hs hp hf => ?_
 unfold leG at hs
 split at hs
 ·rename_i l st n
  simp only [Option.some.injEq, Prod.mk.injEq] at hs
  obtain ⟨rfl, rfl, rfl⟩ := hs
  have hl : (l.length : Int) + 8 ≤ 70368744177664 := hp.1
  refine ⟨[.sl 600 0 1 ⟨true, 0⟩ ⟨false, (l.length : Int)⟩, .i .i64 ⟨false, n⟩], [(600, .segs false [.rowI .u8 l])], [], _, ?_, Nat.le_of_ble_eq_true (by kernel_rfl), vcG_noloops ?_⟩
  ·exact ⟨rfl, rfl, rfl, rfl, trivial⟩
  ·show vc13o l n _ _
   rw [vc13o_eq]
   intro x1 e1 _ x2 e2 _
   rw [one_of]
   have l0 : (l ++ [x2]).length = l.length + 1 := by simp
   refine ⟨need_of (by omega), need_of (by omega), need_of (by simp), ?_⟩
   intro x3 e3 _ x4 e4 _ _
   rw [← e3] at l0 e4
   intro x5 e5 _ x6 e6 _
   rw [one_of]
   have l1 : (x3 ++ [x6]).length = l.length + 2 := by rw [List.length_append, l0]; rfl
   refine ⟨need_of (by omega), need_of (by omega), need_of (by simp), ?_⟩
   intro x7 e7 _ x8 e8 _ _
   rw [← e7] at l1 e8
   intro x9 e9 _ x10 e10 _
   rw [one_of]
   have l2 : (x7 ++ [x10]).length = l.length + 3 := by rw [List.length_append, l1]; rfl
   refine ⟨need_of (by omega), need_of (by omega), need_of (by simp), ?_⟩
   intro x11 e11 _ x12 e12 _ _
   rw [← e11] at l2 e12
   intro x13 e13 _ x14 e14 _
   rw [one_of]
   have l3 : (x11 ++ [x14]).length = l.length + 4 := by rw [List.length_append, l2]; rfl
   refine ⟨need_of (by omega), need_of (by omega), need_of (by simp), ?_⟩
   intro x15 e15 _ x16 e16 _ _
   rw [← e15] at l3 e16
   intro x17 e17 _ x18 e18 _
   rw [one_of]
   have l4 : (x15 ++ [x18]).length = l.length + 5 := by rw [List.length_append, l3]; rfl
   refine ⟨need_of (by omega), need_of (by omega), need_of (by simp), ?_⟩
   intro x19 e19 _ x20 e20 _ _
   rw [← e19] at l4 e20
   intro x21 e21 _ x22 e22 _
   rw [one_of]
   have l5 : (x19 ++ [x22]).length = l.length + 6 := by rw [List.length_append, l4]; rfl
   refine ⟨need_of (by omega), need_of (by omega), need_of (by simp), ?_⟩
   intro x23 e23 _ x24 e24 _ _
   rw [← e23] at l5 e24
   intro x25 e25 _ x26 e26 _
   rw [one_of]
   have l6 : (x23 ++ [x26]).length = l.length + 7 := by rw [List.length_append, l5]; rfl
   refine ⟨need_of (by omega), need_of (by omega), need_of (by simp), ?_⟩
   intro x27 e27 _ x28 e28 _ _
   rw [← e27] at l6 e28
   intro x29 e29 _ x30 e30 _
   rw [one_of]
   have l7 : (x27 ++ [x30]).length = l.length + 8 := by rw [List.length_append, l6]; rfl
   refine ⟨need_of (by omega), need_of (by omega), need_of (by simp), ?_⟩
   intro x31 e31 _ x32 e32 _ _
   rw [← e31] at l7 e32
   refine ⟨need_of (by omega), ?_⟩
   refine ⟨⟨?_, trivial⟩, ⟨trivial, trivial⟩⟩
   refine ⟨rfl, ?_⟩
   show List.take x32.toNat (List.drop 0 x31) = l ++ le8 n
   rw [List.drop_zero, List.take_of_length_le (by omega)]
   rw [e31, e27, e23, e19, e15, e11, e7, e3, e2, e1, e6, e5, e10, e9, e14, e13, e18, e17, e22, e21, e26, e25, e30, e29]
   simp only [List.append_assoc, List.cons_append, List.nil_append]
   rfl
 ·rename_i st n
  simp only [Option.some.injEq, Prod.mk.injEq] at hs
  obtain ⟨rfl, rfl, rfl⟩ := hs
  refine ⟨[.nsl, .i .i64 ⟨false, n⟩], [], [], _, ?_, Nat.le_of_ble_eq_true (by kernel_rfl), vcG_noloops ?_⟩
  ·exact ⟨trivial, rfl, trivial⟩
  ·show vc13n n _ _
   rw [vc13n_eq]
   intro x1 e1 _ x2 e2 _
   rw [one_of]
   have l0 : ([] ++ [x2]).length = 0 + 1 := by simp
   refine ⟨need_of (by omega), need_of (by simp), ?_⟩
   intro x3 e3 _ x4 e4 _ _
   rw [← e3] at l0 e4
   intro x5 e5 _ x6 e6 _
   rw [one_of]
   have l1 : (x3 ++ [x6]).length = 0 + 2 := by rw [List.length_append, l0]; rfl
   refine ⟨need_of (by omega), need_of (by omega), need_of (by simp), ?_⟩
   intro x7 e7 _ x8 e8 _ _
   rw [← e7] at l1 e8
   intro x9 e9 _ x10 e10 _
   rw [one_of]
   have l2 : (x7 ++ [x10]).length = 0 + 3 := by rw [List.length_append, l1]; rfl
   refine ⟨need_of (by omega), need_of (by omega), need_of (by simp), ?_⟩
   intro x11 e11 _ x12 e12 _ _
   rw [← e11] at l2 e12
   intro x13 e13 _ x14 e14 _
   rw [one_of]
   have l3 : (x11 ++ [x14]).length = 0 + 4 := by rw [List.length_append, l2]; rfl
   refine ⟨need_of (by omega), need_of (by omega), need_of (by simp), ?_⟩
   intro x15 e15 _ x16 e16 _ _
   rw [← e15] at l3 e16
   intro x17 e17 _ x18 e18 _
   rw [one_of]
   have l4 : (x15 ++ [x18]).length = 0 + 5 := by rw [List.length_append, l3]; rfl
   refine ⟨need_of (by omega), need_of (by omega), need_of (by simp), ?_⟩
   intro x19 e19 _ x20 e20 _ _
   rw [← e19] at l4 e20
   intro x21 e21 _ x22 e22 _
   rw [one_of]
   have l5 : (x19 ++ [x22]).length = 0 + 6 := by rw [List.length_append, l4]; rfl
   refine ⟨need_of (by omega), need_of (by omega), need_of (by simp), ?_⟩
   intro x23 e23 _ x24 e24 _ _
   rw [← e23] at l5 e24
   intro x25 e25 _ x26 e26 _
   rw [one_of]
   have l6 : (x23 ++ [x26]).length = 0 + 7 := by rw [List.length_append, l5]; rfl
   refine ⟨need_of (by omega), need_of (by omega), need_of (by simp), ?_⟩
   intro x27 e27 _ x28 e28 _ _
   rw [← e27] at l6 e28
   intro x29 e29 _ x30 e30 _
   rw [one_of]
   have l7 : (x27 ++ [x30]).length = 0 + 8 := by rw [List.length_append, l6]; rfl
   refine ⟨need_of (by omega), need_of (by omega), need_of (by simp), ?_⟩
   intro x31 e31 _ x32 e32 _ _
   rw [← e31] at l7 e32
   refine ⟨need_of (by omega), ?_⟩
   refine ⟨⟨?_, trivial⟩, trivial⟩
   refine ⟨rfl, ?_⟩
   show List.take x32.toNat (List.drop 0 x31) = [] ++ le8 n
   rw [List.drop_zero, List.take_of_length_le (by omega)]
   rw [e31, e27, e23, e19, e15, e11, e7, e3, e2, e1, e6, e5, e10, e9, e14, e13, e18, e17, e22, e21, e26, e25, e30, e29]
   simp only [List.cons_append, List.nil_append]
   rfl
 ·cases hs
def Φ1 : Tab := ⟨tys, [(39, genCtr [.o, .v] leG)], [], ghE⟩
theorem Φ1_ok : TabOk Tryd.prog Φ1 := Φ0_ok.cons leG_ok
end Go.Gx

/- A frame, and when two of them are the same. -/
namespace Go.Sp
open Go.Gx
def partsL (ls : List (List Int)) : List Int := (ls.map fun l => le8 (l.length : Int) ++ l).flatten
def frL (b : List Int) (ls : List (List Int)) : List Int := le8 (b.length : Int) ++ b ++ le8 (ls.length : Int) ++ partsL ls
def sameB (x : ByteArray) (ls : List (List Int)) (x' : ByteArray) (ls' : List (List Int)) : Bool := decide (bytesI x = bytesI x' ∧ ls = ls')
end Go.Sp
namespace Go.Gx
open Go.Proofs Go.Sp
set_option linter.unusedVariables false
set_option maxRecDepth 100000

def L7 : Loops := [(5, ⟨[.any, .any, .any, .any, .nsl, .sl 1001 0 1 ⟨true, 0⟩ ⟨false, 0⟩] ++ reps .any 12 ++ [.ro 490 (.l (.ints .u8)) (.r []), .i .i64 ⟨false, 0⟩, .i .i64 ⟨false, 0⟩] ++ reps .any 12, ghE ++ [(490, .world), (1001, .segs false [.rowI .u8 []])], 2000⟩)]
def vc7 (s : ByteArray) (d : RO) (K : List RV → List (Option (List Seg)) → Prop) (Q : Nat → List Pv → Prop) : Prop := fnVcG 0 Φ1 Tryd.f20 L7 [.s s, .ro 490 (.l (.ints .u8)) d] (ghE ++ (490, .world) :: []) K Q
def lc7 (d : RO) (n i z : Int) (l : List Int) (K : List RV → List (Option (List Seg)) → Prop) (Q : Nat → List Pv → Prop) : Prop := loopVcG 0 Φ1 Tryd.f20 L7 5 [.z z, .ro d, .z n, .z i, .l l] K Q
def L11 : Loops := [(4, ⟨[.any, .ro 490 (.l (.ints .u8)) (.r []), .any, .ro 490 (.l (.ints .u8)) (.r []), .any, .any, .any, .any, .any, .i .i64 ⟨false, 0⟩] ++ reps .any 27, ghE ++ [(490, .world)], 2000⟩)]
def vc11 (s : ByteArray) (d : RO) (s' : ByteArray) (d' : RO) (K : List RV → List (Option (List Seg)) → Prop) (Q : Nat → List Pv → Prop) : Prop := fnVcG 0 Φ1 Tryd.f38 L11 [.s s, .ro 490 (.l (.ints .u8)) d, .s s', .ro 490 (.l (.ints .u8)) d'] (ghE ++ (490, .world) :: []) K Q
def lc11 (d d' : RO) (i : Int) (K : List RV → List (Option (List Seg)) → Prop) (Q : Nat → List Pv → Prop) : Prop := loopVcG 0 Φ1 Tryd.f38 L11 4 [.ro d, .ro d', .z i] K Q
theorem vc7_eq : ∀ (s : ByteArray) (d : RO) (K : List RV → List (Option (List Seg)) → Prop) (Q : Nat → List Pv → Prop), vc7 s d K Q = ForL .u8 (le8 ((s.size : Nat) : Int)) fun x1 => ForN ((le8 ((s.size : Nat) : Int)).length : Int) fun x2 => Need (((x1 ++ bytesI s).length : Int) * 1 ≤ (70368744177664 : Int)) ∧ Need (x2 = ((x1.length : Nat) : Int)) ∧ ForL .u8 (x1 ++ bytesI s) fun x3 => ForN ((x1 ++ bytesI s).length : Int) fun x4 => Need (x4 = ((x3.length : Nat) : Int)) ∧ Need (((x3.length : Nat) : Int) + 8 ≤ (70368744177664 : Int)) ∧ ForL .u8 (x3 ++ le8 ((roX d).length : Int)) fun x5 => ForN ((x3 ++ le8 ↑(roX d).length).length : Int) fun x6 => Same Tryd.f20 5 (itemsOf Tryd.f20 5) ∧ Q 5 [Pv.z x6, Pv.ro d, Pv.z ((roX d).length : Int), Pv.z 0, Pv.l x5] := by
 intros
 kernel_rfl
theorem lc7_eq : ∀ (d : RO) (n i z : Int) (l : List Int) (K : List RV → List (Option (List Seg)) → Prop) (Q : Nat → List Pv → Prop), lc7 d n i z l K Q = ((decide (i < n) = true → Need (0 ≤ i ∧ i < ((roX d).length : Int)) ∧ Need (z = ((l.length : Nat) : Int)) ∧ Need (((l.length : Nat) : Int) + 8 ≤ (70368744177664 : Int)) ∧ ForL .u8 (l ++ le8 ((roL (roN d i.toNat)).length : Int)) fun x1 => ForN (↑(l ++ le8 ((roL (roN d i.toNat)).length : Int)).length) fun x2 => Need (((x1 ++ roL (roN d i.toNat)).length : Int) * 1 ≤ (70368744177664 : Int)) ∧ Need (x2 = ((x1.length : Nat) : Int)) ∧ ForL .u8 (x1 ++ roL (roN d i.toNat)) fun x3 => ForN ((x1 ++ roL (roN d i.toNat)).length : Int) fun x4 => ForI .i64 (IntKind.i64.wrap (i + 1)) fun x5 => Same Tryd.f20 5 (itemsOf Tryd.f20 5) ∧ Q 5 [Pv.z x4, Pv.ro d, Pv.z n, Pv.z x5, Pv.l x3]) ∧ (decide (i < n) = false → Need ((0 : Int) + z ≤ ((l.length : Nat) : Int)) ∧ K [RV.row (Con.ints .u8 (List.take z.toNat (List.drop 0 l)))] [])) := by
 intros
 kernel_rfl
theorem vc11_eq : ∀ (s : ByteArray) (d : RO) (s' : ByteArray) (d' : RO) (K : List RV → List (Option (List Seg)) → Prop) (Q : Nat → List Pv → Prop), vc11 s d s' d' K Q = (((!s.toList == s'.toList) = true → K [RV.v (SV.b true false)] []) ∧ ((!s.toList == s'.toList) = false → ((((roX d).length : Int) != ((roX d').length : Int)) = true → K [RV.v (SV.b true false)] []) ∧ ((((roX d).length : Int) != ((roX d').length : Int)) = false → Same Tryd.f38 4 (itemsOf Tryd.f38 4) ∧ Q 4 [Pv.ro d, Pv.ro d', Pv.z 0]))) := by
 intros
 kernel_rfl
theorem lc11_eq : ∀ (d d' : RO) (i : Int) (K : List RV → List (Option (List Seg)) → Prop) (Q : Nat → List Pv → Prop), lc11 d d' i K Q = ((decide (i < ((roX d).length : Int)) = true → Need (0 ≤ i ∧ i < ((roX d).length : Int)) ∧ Need (0 ≤ i ∧ i < ((roX d').length : Int)) ∧ ((!(ofBytesI (roL (roN d i.toNat))).toList == (ofBytesI (roL (roN d' i.toNat))).toList) = true → K [RV.v (SV.b true false)] []) ∧ ((!(ofBytesI (roL (roN d i.toNat))).toList == (ofBytesI (roL (roN d' i.toNat))).toList) = false → ForI .i64 (IntKind.i64.wrap (i + 1)) fun x1 => Same Tryd.f38 4 (itemsOf Tryd.f38 4) ∧ Q 4 [Pv.ro d, Pv.ro d', Pv.z x1])) ∧ (decide (i < ((roX d).length : Int)) = false → K [RV.v (SV.b true true)] [])) := by
 intros
 kernel_rfl

theorem bytesI_len (s : ByteArray) : (bytesI s).length = s.size := by
 unfold bytesI
 rw [List.length_map, Array.length_toList]; rfl
theorem bytesI_of {l : List Int} (h : AllR .u8 l) : bytesI (ofBytesI l) = l := by
 unfold bytesI ofBytesI
 simp only [List.map_map]
 conv => rhs; rw [← List.map_id l]
 apply List.map_congr_left
 intro z hz
 have hz : 0 ≤ z ∧ z < 256 := h z hz
 show (((UInt8.ofNat z.toNat).toNat : Nat) : Int) = z
 rw [UInt8.toNat_ofNat']
 omega
theorem bytesI_inj {a b : ByteArray} (h : bytesI a = bytesI b) : a = b := by
 apply ByteArray.ext
 apply Array.toList_inj.1
 unfold bytesI at h
 refine List.map_inj_right (f := fun b : UInt8 => (b.toNat : Int)) (fun x y hxy => ?_) |>.1 h
 exact UInt8.toNat_inj.1 (by have hxy : ((x.toNat : Nat) : Int) = ((y.toNat : Nat) : Int) := hxy; omega)
theorem toList_bytes (a b : ByteArray) : (a.toList == b.toList) = decide (bytesI a = bytesI b) := by
 rw [ByteArray.toList_eq, ByteArray.toList_eq]
 by_cases h : a = b
 ·subst h; simp
 ·have h1 : ¬ bytesI a = bytesI b := fun e => h (bytesI_inj e)
  have h2 : ¬ a.data.toList = b.data.toList := fun e => h (ByteArray.ext (Array.toList_inj.1 e))
  rw [decide_eq_false h1]
  exact beq_eq_false_iff_ne.2 h2
theorem ofBytes_eq {l l' : List Int} (h : AllR .u8 l) (h' : AllR .u8 l') : ((ofBytesI l).toList == (ofBytesI l').toList) = decide (l = l') := by
 rw [toList_bytes, bytesI_of h, bytesI_of h']
theorem partsL_take (xs : List (List Int)) (j : Nat) (h : j < xs.length) : partsL (xs.take (j + 1)) = partsL (xs.take j) ++ le8 ((xs.getD j []).length : Int) ++ xs.getD j [] := by
 unfold partsL
 rw [List.take_add_one, List.getElem?_eq_getElem h, List.map_append, List.flatten_append]
 simp [List.getD, h]
theorem partsL_le (xs : List (List Int)) (j : Nat) : (partsL (xs.take j)).length ≤ (partsL xs).length := by
 have h : partsL xs = partsL (xs.take j) ++ partsL (xs.drop j) := by
  unfold partsL
  rw [← List.flatten_append, ← List.map_append, List.take_append_drop]
 rw [h, List.length_append]; omega
theorem le8_len (n : Int) : (le8 n).length = 8 := rfl
theorem map_getD (xs : List RO) (j : Nat) (h : j < xs.length) : (xs.map roL).getD j [] = roL (xs.getD j (.r [])) := by
 simp [List.getD, h]
def frJ (s : ByteArray) (d : RO) (j : Nat) : List Int := le8 (s.size : Int) ++ bytesI s ++ le8 ((roX d).length : Int) ++ partsL (((roX d).map roL).take j)
def inv7 (s : ByteArray) (d : RO) (key : Nat) (ps : List Pv) (mm : Nat) : Prop :=
 key = 5 ∧ ∃ j : Nat, j ≤ (roX d).length ∧ ps = [.z ((frJ s d j).length : Int), .ro d, .z ((roX d).length : Int), .z (j : Int), .l (frJ s d j)] ∧ mm = (roX d).length - j
def frG : List AV → Option (List Prop × List RV × List (Option (List Seg)))
 | [.v (.s x), .d (.l (.ints .u8)) d] => some ([((frL (bytesI x) ((roX d).map roL)).length : Int) ≤ 70368744177664], [.row (.ints .u8 (frL (bytesI x) ((roX d).map roL)))], [])
 | _ => none
theorem frJ_all (s : ByteArray) (d : RO) : frJ s d (roX d).length = frL (bytesI s) ((roX d).map roL) := by
 unfold frJ frL
 rw [bytesI_len, List.length_map, List.take_of_length_le (by rw [List.length_map]; exact Nat.le_refl _)]
theorem frJ_le (s : ByteArray) (d : RO) (j : Nat) : (frJ s d j).length ≤ (frL (bytesI s) ((roX d).map roL)).length := by
 have h1 : (frJ s d j).length = 8 + (bytesI s).length + 8 + (partsL (((roX d).map roL).take j)).length := by
  unfold frJ
  rw [List.length_append, List.length_append, List.length_append, le8_len, le8_len]
 have h2 : (frL (bytesI s) ((roX d).map roL)).length = 8 + (bytesI s).length + 8 + (partsL ((roX d).map roL)).length := by
  unfold frL
  rw [List.length_append, List.length_append, List.length_append, le8_len, le8_len]
 have := partsL_le ((roX d).map roL) j
 omega
theorem frJ_succ (s : ByteArray) (d : RO) (j : Nat) (h : j < (roX d).length) : frJ s d (j + 1) = frJ s d j ++ le8 ((roL (roN d j)).length : Int) ++ roL (roN d j) := by
 unfold frJ
 rw [partsL_take _ _ (by rw [List.length_map]; exact h), map_getD _ _ h]
 simp only [List.append_assoc]
 rfl
theorem frG_ok : CallOk Tryd.prog ghE 20 (genCtr [.v, .d (.l (.ints .u8))] frG) := by
 refine call_gen (fn := Tryd.f20) Φ1_ok rfl glowE rfl (by kernel_rfl) (by kernel_rfl) _ frG fun av p rvs fin hs hp hf => ?_
 unfold frG at hs
 split at hs
 ·rename_i s d
  simp only [Option.some.injEq, Prod.mk.injEq] at hs
  obtain ⟨rfl, rfl, rfl⟩ := hs
  have hd : ((frL (bytesI s) ((roX d).map roL)).length : Int) ≤ 70368744177664 := hp.1
  obtain ⟨_, ⟨_, hlen⟩, _⟩ := hf
  refine ⟨[.s s, .ro 490 (.l (.ints .u8)) d], [], L7, inv7 s d, ⟨rfl, rfl, trivial⟩, Nat.le_of_ble_eq_true (by kernel_rfl), ?_, ?_, ?_⟩
  ·intro kk t ht g hg
   have hg : g ∈ [490] := hg
   simp only [List.mem_cons, List.not_mem_nil, or_false] at hg
   simp only [L7, List.mem_cons, List.not_mem_nil, or_false, Prod.mk.injEq] at ht
   obtain ⟨rfl, rfl⟩ := ht
   subst hg
   exact ⟨by omega, rfl⟩
  ·rintro vk t ps mm ht ⟨rfl, j, hj, rfl, rfl⟩
   simp only [L7, List.mem_cons, List.not_mem_nil, or_false, Prod.mk.injEq] at ht
   obtain ⟨_, rfl⟩ := ht
   show lc7 d ((roX d).length : Int) (j : Int) ((frJ s d j).length : Int) (frJ s d j) _ _
   rw [lc7_eq]
   refine ⟨fun hlt => ?_, fun hge => ?_⟩
   ·have hlt := of_decide_eq_true hlt
    have hjl : j < (roX d).length := by omega
    have hs := frJ_succ s d j hjl
    have hle := frJ_le s d (j + 1)
    have hln : (frJ s d (j + 1)).length = (frJ s d j).length + 8 + (roL (roN d j)).length := by rw [hs, List.length_append, List.length_append, le8_len]
    rw [Int.toNat_natCast]
    refine ⟨need_of (by omega), need_of rfl, need_of (by omega), ?_⟩
    intro x1 e1 _ x2 e2 _ _
    rw [← e1] at e2
    rw [← e1] at hs
    rw [← hs]
    refine ⟨need_of (by omega), need_of e2, ?_⟩
    intro x3 e3 _ x4 e4 _ _ x5 e5 _
    rw [wrap_i64 (by omega)] at e5
    rw [e3, e4, e5]
    exact ⟨rfl, (roX d).length - (j + 1), by omega, rfl, j + 1, by omega, rfl, rfl⟩
   ·have hge := of_decide_eq_false hge
    obtain rfl : j = (roX d).length := by omega
    refine ⟨need_of (by omega), ⟨⟨rfl, ?_⟩, trivial⟩, trivial⟩
    show List.take _ (List.drop 0 (frJ s d (roX d).length)) = frL (bytesI s) ((roX d).map roL)
    rw [List.drop_zero, Int.toNat_natCast, List.take_of_length_le (Nat.le_refl _), frJ_all]
  ·show vc7 s d _ _
   rw [vc7_eq]
   have h0 : le8 (s.size : Int) ++ bytesI s ++ le8 ((roX d).length : Int) = frJ s d 0 := by
    unfold frJ
    simp [partsL]
   have hle := frJ_le s d 0
   have hl0 : (frJ s d 0).length = 8 + (bytesI s).length + 8 := by rw [← h0, List.length_append, List.length_append, le8_len, le8_len]
   intro x1 e1 _ x2 e2 _ _
   subst e1
   have hl1 : (le8 (s.size : Int) ++ bytesI s).length = 8 + (bytesI s).length := by rw [List.length_append, le8_len]
   refine ⟨need_of (by omega), need_of e2, ?_⟩
   intro x3 e3 _ x4 e4 _ _
   rw [← e3] at e4 hl1 h0
   rw [h0]
   refine ⟨need_of e4, need_of (by omega), ?_⟩
   intro x5 e5 _ x6 e6 _ _
   rw [e5, e6]
   exact ⟨rfl, (roX d).length - 0, rfl, 0, by omega, rfl, rfl⟩
 ·cases hs
def inv11 (d d' : RO) (key : Nat) (ps : List Pv) (mm : Nat) : Prop :=
 key = 4 ∧ ∃ j : Nat, j ≤ (roX d).length ∧ ((roX d).map roL).take j = ((roX d').map roL).take j ∧ ps = [.ro d, .ro d', .z (j : Int)] ∧ mm = (roX d).length - j
def sameG : List AV → Option (List Prop × List RV × List (Option (List Seg)))
 | [.v (.s x), .d (.l (.ints .u8)) d, .v (.s x'), .d (.l (.ints .u8)) d'] => some ([], [.v (.b false (sameB x ((roX d).map roL) x' ((roX d').map roL)))], [])
 | _ => none
theorem sameG_ok : CallOk Tryd.prog ghE 38 (genCtr [.v, .d (.l (.ints .u8)), .v, .d (.l (.ints .u8))] sameG) := by
 refine call_gen (fn := Tryd.f38) Φ1_ok rfl glowE rfl (by kernel_rfl) (by kernel_rfl) _ sameG fun av p rvs fin hs hp hf => ?_
 unfold sameG at hs
 split at hs
 ·rename_i s d s' d'
  simp only [Option.some.injEq, Prod.mk.injEq] at hs
  obtain ⟨rfl, rfl, rfl⟩ := hs
  obtain ⟨_, ⟨hu, hlen⟩, _, ⟨hu', hlen'⟩, _⟩ := hf
  by_cases hss : bytesI s = bytesI s' ∧ (roX d).length = (roX d').length
  ·obtain ⟨hs1, hll⟩ := hss
   refine ⟨[.s s, .ro 490 (.l (.ints .u8)) d, .s s', .ro 490 (.l (.ints .u8)) d'], [], L11, inv11 d d', ⟨rfl, rfl, rfl, rfl, trivial⟩, Nat.le_of_ble_eq_true (by kernel_rfl), ?_, ?_, ?_⟩
   ·intro kk t ht g hg
    have hg : g ∈ [490] := hg
    simp only [List.mem_cons, List.not_mem_nil, or_false] at hg
    simp only [L11, List.mem_cons, List.not_mem_nil, or_false, Prod.mk.injEq] at ht
    obtain ⟨rfl, rfl⟩ := ht
    subst hg
    exact ⟨by omega, rfl⟩
   ·rintro vk t ps mm ht ⟨rfl, j, hj, htk, rfl, rfl⟩
    simp only [L11, List.mem_cons, List.not_mem_nil, or_false, Prod.mk.injEq] at ht
    obtain ⟨_, rfl⟩ := ht
    show lc11 d d' (j : Int) _ _
    rw [lc11_eq]
    refine ⟨fun hlt => ?_, fun hge => ?_⟩
    ·have hlt := of_decide_eq_true hlt
     have hjl : j < (roX d).length := by omega
     have hm : roN d j ∈ roX d := by unfold roN; simp [List.getD, hjl]
     have hm' : roN d' j ∈ roX d' := by
      have : j < (roX d').length := by omega
      unfold roN; simp [List.getD, this]
     rw [Int.toNat_natCast, ofBytes_eq (hu _ hm).1 (hu' _ hm').1]
     have hg : ((roX d).map roL)[j]? = some (roL (roN d j)) := by
      rw [List.getElem?_map]; unfold roN; simp [List.getD, hjl]
     have hg' : ((roX d').map roL)[j]? = some (roL (roN d' j)) := by
      have : j < (roX d').length := by omega
      rw [List.getElem?_map]; unfold roN; simp [List.getD, this]
     refine ⟨need_of (by omega), need_of (by omega), fun h => ?_, fun h => ?_⟩
     ·have hne : ¬ roL (roN d j) = roL (roN d' j) := by simpa using h
      refine ⟨⟨?_, trivial⟩, trivial⟩
      show false = sameB _ _ _ _
      refine (decide_eq_false fun hh => hne ?_).symm
      have := hh.2
      rw [this, hg'] at hg
      exact (Option.some.inj hg).symm
     ·have he : roL (roN d j) = roL (roN d' j) := by simpa using h
      intro x1 e1 _
      rw [wrap_i64 (by omega)] at e1
      rw [e1]
      refine ⟨rfl, (roX d).length - (j + 1), by omega, rfl, j + 1, by omega, ?_, rfl, rfl⟩
      rw [List.take_add_one, List.take_add_one, htk, hg, hg', he]
    ·have hge := of_decide_eq_false hge
     obtain rfl : j = (roX d).length := by omega
     refine ⟨⟨?_, trivial⟩, trivial⟩
     show true = sameB _ _ _ _
     rw [List.take_of_length_le (by simp), List.take_of_length_le (by simp; omega)] at htk
     exact (decide_eq_true ⟨hs1, htk⟩).symm
   ·show vc11 s d s' d' _ _
    rw [vc11_eq, toList_bytes]
    refine ⟨fun h => ?_, fun _ => ⟨fun h => ?_, fun _ => ⟨rfl, (roX d).length - 0, rfl, 0, by omega, by simp, rfl, rfl⟩⟩⟩
    ·simp [hs1] at h
    ·rw [hll] at h; simp at h
  ·have hno : sameB s ((roX d).map roL) s' ((roX d').map roL) = false := decide_eq_false fun hh => hss ⟨hh.1, by have := congrArg List.length hh.2; simpa using this⟩
   rw [hno]
   refine ⟨[.s s, .ro 490 (.l (.ints .u8)) d, .s s', .ro 490 (.l (.ints .u8)) d'], [], L11, fun _ _ _ => False, ⟨rfl, rfl, rfl, rfl, trivial⟩, Nat.le_of_ble_eq_true (by kernel_rfl), ?_, fun _ _ _ _ _ h => h.elim, ?_⟩
   ·intro kk t ht g hg
    have hg : g ∈ [490] := hg
    simp only [List.mem_cons, List.not_mem_nil, or_false] at hg
    simp only [L11, List.mem_cons, List.not_mem_nil, or_false, Prod.mk.injEq] at ht
    obtain ⟨rfl, rfl⟩ := ht
    subst hg
    exact ⟨by omega, rfl⟩
   ·show vc11 s d s' d' _ _
    rw [vc11_eq, toList_bytes]
    refine ⟨fun _ => ⟨⟨rfl, trivial⟩, trivial⟩, fun h => ⟨fun _ => ⟨⟨rfl, trivial⟩, trivial⟩, fun h2 => (hss ⟨by simpa using h, ?_⟩).elim⟩⟩
    have : ((roX d).length : Int) = ((roX d').length : Int) := by simpa using h2
    omega
 ·cases hs
end Go.Gx

/- One table of all that is known so far. -/
namespace Go.Gx
open Go.Proofs Go.Sp
set_option linter.unusedVariables false

theorem none_sub : ∀ x ∈ ghE, x ∈ gh4 := fun x hx => by cases hx
def Λ0 : Tab := ⟨tys, (20, genCtr [.v, .d (.l (.ints .u8))] frG) :: (39, genCtr [.o, .v] leG) :: Δ3.ctr, [3, 0, 4, 2], gh4⟩
theorem Λ0_ok : TabOk Tryd.prog Λ0 := (Δ3_ok.cons (leG_ok.mono none_sub)).cons (frG_ok.mono none_sub)
end Go.Gx

/- The reference's frame; a transcript's first state. -/
namespace Go.Sp
open Go.Gx
def tagT : List Int := [118, 101, 105, 108, 32, 116, 114, 97, 110, 115, 99, 114, 105, 112, 116]
def seedL (b : List Int) : List Int := sha (frL tagT [b])
end Go.Sp
namespace Go.Gx
open Go.Proofs Go.Sp
set_option linter.unusedVariables false
set_option maxRecDepth 100000

def LRf : Loops := [(4, ⟨[.any, .ro 490 (.l (.ints .u8)) (.r []), .any, .any, .nsl, .sl 1001 0 1 ⟨true, 0⟩ ⟨false, 0⟩, .i .i64 ⟨false, 0⟩] ++ reps .any 31, gh4 ++ [(490, .world), (1001, .segs false [.rowI .u8 []])], 2000⟩)]
def vcRf (s : ByteArray) (d : RO) (K : List RV → List (Option (List Seg)) → Prop) (Q : Nat → List Pv → Prop) : Prop := fnVcG 0 Λ0 Tryd.f22 LRf [.s s, .ro 490 (.l (.ints .u8)) d] (gh4 ++ (490, .world) :: []) K Q
def lcRf (d : RO) (i z : Int) (g g' l : List Int) (K : List RV → List (Option (List Seg)) → Prop) (Q : Nat → List Pv → Prop) : Prop := loopVcG 0 Λ0 Tryd.f22 LRf 4 [.ro d, .z z, .z i, .l g, .l g', .l l] K Q
def vcNew (s : ByteArray) (K : List RV → List (Option (List Seg)) → Prop) (Q : Nat → List Pv → Prop) : Prop := fnVcG 0 Λ0 Tryd.f23 [] [.s s] (gh4 ++ (490, .world) :: []) K Q
def vcLives (st : List Int) (b : Bool) (K : List RV → List (Option (List Seg)) → Prop) (Q : Nat → List Pv → Prop) : Prop := fnVcG 1 Λ0 Tryd.f44 [] [.p 600 0] (gh4 ++ (490, .world) :: [(600, .segs false [.arr .u8 64 false st, .one (.b false b)])]) K Q
theorem vcRf_eq : ∀ (s : ByteArray) (d : RO) (K : List RV → List (Option (List Seg)) → Prop) (Q : Nat → List Pv → Prop), vcRf s d K Q = ForL .u8 (le8 ((s.size : Nat) : Int)) fun x1 => ForN (((le8 ((s.size : Nat) : Int)).length : Nat) : Int) fun x2 => Need ((((x1 ++ bytesI s).length : Nat) : Int) * 1 ≤ (70368744177664 : Int)) ∧ Need (x2 = ((x1.length : Nat) : Int)) ∧ ForL .u8 (x1 ++ bytesI s) fun x3 => ForN (((x1 ++ bytesI s).length : Nat) : Int) fun x4 => ForL .u8 (le8 (((roX d).length : Nat) : Int)) fun x5 => ForN (((le8 (((roX d).length : Nat) : Int)).length : Nat) : Int) fun x6 => Need ((((x3 ++ List.take x6.toNat (List.drop 0 x5)).length : Nat) : Int) * 1 ≤ (70368744177664 : Int)) ∧ Need (x4 = ((x3.length : Nat) : Int)) ∧ Need (0 + x6 ≤ ((x5.length : Nat) : Int)) ∧ ForL .u8 (x3 ++ List.take x6.toNat (List.drop 0 x5)) fun x7 => ForN (((x3 ++ List.take x6.toNat (List.drop 0 x5)).length : Nat) : Int) fun x8 => Same Tryd.f22 4 (itemsOf Tryd.f22 4) ∧ Q 4 [Pv.ro d, Pv.z x8, Pv.z 0, Pv.l K80, Pv.l K80, Pv.l x7] := by
 intros
 kernel_rfl
theorem lcRf_eq : ∀ (d : RO) (i z : Int) (g g' l : List Int) (K : List RV → List (Option (List Seg)) → Prop) (Q : Nat → List Pv → Prop), lcRf d i z g g' l K Q = ((decide (i < (((roX d).length : Nat) : Int)) = true → Need (0 ≤ i ∧ i < (((roX d).length : Nat) : Int)) ∧ ForL .u8 (le8 (((roL (roN d i.toNat)).length : Nat) : Int)) fun x1 => ForN (((le8 (((roL (roN d i.toNat)).length : Nat) : Int)).length : Nat) : Int) fun x2 => Need ((((l ++ List.take x2.toNat (List.drop 0 x1)).length : Nat) : Int) * 1 ≤ (70368744177664 : Int)) ∧ Need (z = ((l.length : Nat) : Int)) ∧ Need (0 + x2 ≤ ((x1.length : Nat) : Int)) ∧ ForL .u8 (l ++ List.take x2.toNat (List.drop 0 x1)) fun x3 => ForN (((l ++ List.take x2.toNat (List.drop 0 x1)).length : Nat) : Int) fun x4 => Need (0 ≤ i ∧ i < (((roX d).length : Nat) : Int)) ∧ Need ((((x3 ++ roL (roN d i.toNat)).length : Nat) : Int) * 1 ≤ (70368744177664 : Int)) ∧ Need (x4 = ((x3.length : Nat) : Int)) ∧ ForL .u8 (x3 ++ roL (roN d i.toNat)) fun x5 => ForN (((x3 ++ roL (roN d i.toNat)).length : Nat) : Int) fun x6 => ForI .i64 (IntKind.i64.wrap (i + 1)) fun x7 => Same Tryd.f22 4 (itemsOf Tryd.f22 4) ∧ Q 4 [Pv.ro d, Pv.z x6, Pv.z x7, Pv.l g, Pv.l g', Pv.l x5]) ∧ (decide (i < (((roX d).length : Nat) : Int)) = false → Need ((0 : Int) + z ≤ ((l.length : Nat) : Int)) ∧ K [RV.row (Con.ints .u8 (List.take z.toNat (List.drop 0 l)))] [])) := by
 intros
 kernel_rfl
theorem vcNew_eq : ∀ (s : ByteArray) (K : List RV → List (Option (List Seg)) → Prop) (Q : Nat → List Pv → Prop), vcNew s K Q = ForL .u8 (bytesI s) fun x1 => ForN ((s.size : Nat) : Int) fun x2 => Need (0 + x2 ≤ ((x1.length : Nat) : Int)) ∧ Need ((((frL (bytesI { data := #[118, 101, 105, 108, 32, 116, 114, 97, 110, 115, 99, 114, 105, 112, 116] }) (List.map roL (roX (RO.r [RO.l (List.take x2.toNat (List.drop 0 x1))])))).length : Nat) : Int) ≤ 70368744177664) ∧ ForL .u8 (frL (bytesI { data := #[118, 101, 105, 108, 32, 116, 114, 97, 110, 115, 99, 114, 105, 112, 116] }) (List.map roL (roX (RO.r [RO.l (List.take x2.toNat (List.drop 0 x1))])))) fun x3 => ForN (((frL (bytesI { data := #[118, 101, 105, 108, 32, 116, 114, 97, 110, 115, 99, 114, 105, 112, 116] }) (List.map roL (roX (RO.r [RO.l (List.take x2.toNat (List.drop 0 x1))])))).length : Nat) : Int) fun x4 => Need (0 + x4 ≤ ((x3.length : Nat) : Int)) ∧ Need ((((roJ (RO.r [RO.l (List.take x4.toNat (List.drop 0 x3))])).length : Nat) : Int) ≤ 1152921504606846976) ∧ ForA .u8 64 (sha (roJ (RO.r [RO.l (List.take x4.toNat (List.drop 0 x3))]))) fun x5 => K [RV.ptr [Seg.arr .u8 64 false x5, Seg.one (SV.b true true)]] [] := by
 intros
 kernel_rfl
theorem vcLives_eq : ∀ (st : List Int) (b : Bool) (K : List RV → List (Option (List Seg)) → Prop) (Q : Nat → List Pv → Prop), vcLives st b K Q = K [RV.v (SV.b false b)] [some [Seg.arr .u8 64 false st, Seg.one (SV.b false b)]] := by
 intros
 kernel_rfl

def invRf (s : ByteArray) (d : RO) (key : Nat) (ps : List Pv) (mm : Nat) : Prop :=
 key = 4 ∧ ∃ j : Nat, j ≤ (roX d).length ∧ ps = [.ro d, .z ((frJ s d j).length : Int), .z (j : Int), .l K80, .l K80, .l (frJ s d j)] ∧ mm = (roX d).length - j
theorem rfrG_ok : CallOk Tryd.prog gh4 22 (genCtr [.v, .d (.l (.ints .u8))] frG) := by
 refine call_gen (fn := Tryd.f22) Λ0_ok rfl glow4 rfl (by kernel_rfl) (by kernel_rfl) _ frG fun av p rvs fin hs hp hf => ?_
 unfold frG at hs
 split at hs
 ·rename_i s d
  simp only [Option.some.injEq, Prod.mk.injEq] at hs
  obtain ⟨rfl, rfl, rfl⟩ := hs
  have hd : ((frL (bytesI s) ((roX d).map roL)).length : Int) ≤ 70368744177664 := hp.1
  obtain ⟨_, ⟨_, hlen⟩, _⟩ := hf
  refine ⟨[.s s, .ro 490 (.l (.ints .u8)) d], [], LRf, invRf s d, ⟨rfl, rfl, trivial⟩, Nat.le_of_ble_eq_true (by kernel_rfl), ?_, ?_, ?_⟩
  ·intro kk t ht g hg
   have hg : g ∈ [3, 0, 4, 2, 490] := hg
   simp only [List.mem_cons, List.not_mem_nil, or_false] at hg
   simp only [LRf, List.mem_cons, List.not_mem_nil, or_false, Prod.mk.injEq] at ht
   obtain ⟨rfl, rfl⟩ := ht
   rcases hg with rfl | rfl | rfl | rfl | rfl <;> exact ⟨by omega, rfl⟩
  ·rintro vk t ps mm ht ⟨rfl, j, hj, rfl, rfl⟩
   simp only [LRf, List.mem_cons, List.not_mem_nil, or_false, Prod.mk.injEq] at ht
   obtain ⟨_, rfl⟩ := ht
   show lcRf d (j : Int) ((frJ s d j).length : Int) K80 K80 (frJ s d j) _ _
   rw [lcRf_eq]
   refine ⟨fun hlt => ?_, fun hge => ?_⟩
   ·have hlt := of_decide_eq_true hlt
    have hjl : j < (roX d).length := by omega
    have hs := frJ_succ s d j hjl
    have hle := frJ_le s d (j + 1)
    have hln : (frJ s d (j + 1)).length = (frJ s d j).length + 8 + (roL (roN d j)).length := by rw [hs, List.length_append, List.length_append, le8_len]
    rw [Int.toNat_natCast]
    refine ⟨need_of (by omega), ?_⟩
    intro x1 e1 _ x2 e2 _ _
    rw [le8_len] at e2
    subst e2
    have h8 : List.take (((8 : Nat) : Int)).toNat (List.drop 0 x1) = le8 ((roL (roN d j)).length : Int) := by rw [e1]; rfl
    rw [h8]
    have hl1 : (frJ s d j ++ le8 ((roL (roN d j)).length : Int)).length = (frJ s d j).length + 8 := by rw [List.length_append, le8_len]
    refine ⟨need_of (by omega), need_of rfl, need_of (by rw [e1, le8_len]; omega), ?_⟩
    intro x3 e3 _ x4 e4 _ _
    rw [← e3] at e4 hs
    rw [← hs]
    refine ⟨need_of (by omega), need_of (by omega), need_of e4, ?_⟩
    intro x5 e5 _ x6 e6 _ _ x7 e7 _
    rw [wrap_i64 (by omega)] at e7
    rw [e5, e6, e7]
    exact ⟨rfl, (roX d).length - (j + 1), by omega, rfl, j + 1, by omega, rfl, rfl⟩
   ·have hge := of_decide_eq_false hge
    obtain rfl : j = (roX d).length := by omega
    refine ⟨need_of (by omega), ⟨⟨rfl, ?_⟩, trivial⟩, trivial⟩
    show List.take _ (List.drop 0 (frJ s d (roX d).length)) = frL (bytesI s) ((roX d).map roL)
    rw [List.drop_zero, Int.toNat_natCast, List.take_of_length_le (Nat.le_refl _), frJ_all]
  ·show vcRf s d _ _
   rw [vcRf_eq]
   have h0 : le8 (s.size : Int) ++ bytesI s ++ le8 ((roX d).length : Int) = frJ s d 0 := by
    unfold frJ
    simp [partsL]
   have hle := frJ_le s d 0
   have hl0 : (frJ s d 0).length = 8 + (bytesI s).length + 8 := by rw [← h0, List.length_append, List.length_append, le8_len, le8_len]
   have hl1 : (le8 (s.size : Int) ++ bytesI s).length = 8 + (bytesI s).length := by rw [List.length_append, le8_len]
   intro x1 e1 _ x2 e2 _ _
   subst e1
   refine ⟨need_of (by omega), need_of e2, ?_⟩
   intro x3 e3 _ x4 e4 _ _
   rw [← e3] at e4 hl1 h0
   intro x5 e5 _ x6 e6 _ _
   rw [le8_len] at e6
   subst e6
   have h8 : List.take (((8 : Nat) : Int)).toNat (List.drop 0 x5) = le8 ((roX d).length : Int) := by rw [e5]; rfl
   rw [h8, h0]
   refine ⟨need_of (by omega), need_of e4, need_of (by rw [e5, le8_len]; omega), ?_⟩
   intro x7 e7 _ x8 e8 _ _
   rw [e7, e8]
   exact ⟨rfl, (roX d).length - 0, rfl, 0, by omega, rfl, rfl⟩
 ·cases hs
def newG : List AV → Option (List Prop × List RV × List (Option (List Seg)))
 | [.v (.s x)] => some ([((frL tagT [bytesI x]).length : Int) ≤ 70368744177664], [.ptr [.arr .u8 64 false (seedL (bytesI x)), .one (.b true true)]], [])
 | _ => none
theorem newG_ok : CallOk Tryd.prog gh4 23 (genCtr [.v] newG) := by
 refine call_gen (fn := Tryd.f23) Λ0_ok rfl glow4 rfl (by kernel_rfl) (by kernel_rfl) _ newG fun av p rvs fin hs hp hf => ?_
 unfold newG at hs
 split at hs
 ·rename_i s
  simp only [Option.some.injEq, Prod.mk.injEq] at hs
  obtain ⟨rfl, rfl, rfl⟩ := hs
  have hd : ((frL tagT [bytesI s]).length : Int) ≤ 70368744177664 := hp.1
  refine ⟨[.s s], [], [], _, ⟨rfl, trivial⟩, Nat.le_of_ble_eq_true (by kernel_rfl), vcG_noloops ?_⟩
  show vcNew s _ _
  rw [vcNew_eq]
  intro x1 e1 _ x2 e2 _ _
  have hx : List.map roL (roX (.r [.l (List.take x2.toNat (List.drop 0 x1))])) = [bytesI s] := by
   rw [List.drop_zero, e1, e2, Int.toNat_natCast, List.take_of_length_le (by rw [bytesI_len]; exact Nat.le_refl _)]; rfl
  have ht : bytesI ⟨#[118, 101, 105, 108, 32, 116, 114, 97, 110, 115, 99, 114, 105, 112, 116]⟩ = tagT := by decide +kernel
  rw [hx, ht]
  refine ⟨need_of (by rw [e1, e2, bytesI_len]; omega), need_of hd, ?_⟩
  intro x3 e3 _ x4 e4 _ _
  rw [← e3] at e4 hd
  have hj : roJ (.r [.l (List.take x4.toNat (List.drop 0 x3))]) = x3 := by
   rw [sha_one, roL_l, List.drop_zero, e4, Int.toNat_natCast, List.take_of_length_le (Nat.le_refl _)]
  rw [hj]
  refine ⟨need_of (by omega), need_of (by omega), ?_⟩
  intro x5 e5 _ _
  rw [e3] at e5
  refine ⟨⟨⟨⟨rfl, rfl, e5⟩, ⟨rfl, rfl⟩, trivial⟩, trivial⟩, trivial⟩
 ·cases hs
def livesG : List AV → Option (List Prop × List RV × List (Option (List Seg)))
 | [.m [.arr .u8 64 _ st, .one (.b _ b)]] => some ([], [.v (.b false b)], [some [.arr .u8 64 false st, .one (.b false b)]])
 | _ => none
theorem livesG_ok : CallOk Tryd.prog gh4 44 (genCtr [.m] livesG) := by
 refine call_gen (fn := Tryd.f44) Λ0_ok rfl glow4 rfl (by kernel_rfl) (by kernel_rfl) _ livesG fun av p rvs fin hs hp hf => ?_
 unfold livesG at hs
 split at hs
 ·rename_i e1 st e2 b
  simp only [Option.some.injEq, Prod.mk.injEq] at hs
  obtain ⟨rfl, rfl, rfl⟩ := hs
  refine ⟨[.p 600 0], [(600, .segs false [.arr .u8 64 false st, .one (.b false b)])], [], _, ⟨rfl, rfl, ⟨_, rfl, ⟨⟨rfl, rfl, rfl⟩, ⟨rfl, rfl⟩, trivial⟩⟩, trivial⟩, Nat.le_of_ble_eq_true (by kernel_rfl), vcG_noloops ?_⟩
  show vcLives st b _ _
  rw [vcLives_eq]
  exact ⟨⟨rfl, trivial⟩, ⟨⟨⟨rfl, rfl, rfl⟩, ⟨rfl, rfl⟩, trivial⟩, trivial⟩⟩
 ·cases hs
def Λ1 : Tab := ⟨tys, (44, genCtr [.m] livesG) :: (23, genCtr [.v] newG) :: (22, genCtr [.v, .d (.l (.ints .u8))] frG) :: Λ0.ctr, [3, 0, 4, 2], gh4⟩
theorem Λ1_ok : TabOk Tryd.prog Λ1 := ((Λ0_ok.cons rfrG_ok).cons newG_ok).cons livesG_ok
end Go.Gx
