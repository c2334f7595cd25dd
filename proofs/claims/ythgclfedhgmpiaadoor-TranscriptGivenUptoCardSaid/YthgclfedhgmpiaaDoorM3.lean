/- Part 3 of the proof: the evaluator of the code, its soundness, and what it shows of the functions. -/
import Derived.Test.YthgclfedhgmpiaaDoorM2
import Derived.Laws.AppendOwn
import Derived.Laws.IdiomStrings

/- Slices, parts of structs, literals, make. -/
namespace Go.Gx
open Go.RowKit
set_option linter.unusedVariables false

section
variable {P : Program} {w0 : World} {M : Nat → Prop} {ρ : Nat → Pl} {H : Nat → Option SB} {w : World}

def OptD (dm : Nat → Prop) (ρ : Nat → Pl) (x : Option SV) (v : Option Value) : Prop :=
 (x = none ∧ v = none) ∨ ∃ y u, x = some y ∧ v = some u ∧ D dm ρ y u

theorem optI_sound {dm : Nat → Prop} {d a : SI} {x : Option SV} {v : Option Value} (h : optI d x = some a) (hx : OptD dm ρ x v) : (v = none ∧ a = d) ∨ ∃ k, v = some (.int k a.z) := by
 rcases hx with ⟨rfl, rfl⟩ | ⟨y, u, rfl, rfl, hd⟩
 ·simp only [optI, Option.some.injEq] at h; exact .inl ⟨rfl, h.symm⟩
 ·cases y <;> simp only [optI, Option.some.injEq, reduceCtorEq] at h
  subst h
  simp only [D] at hd
  exact .inr ⟨_, by rw [hd.1]⟩

theorem AllR.drop_take_ {k : IntKind} {l : List Int} (h : AllR k l) (a b : Nat) : AllR k ((l.drop a).take b) := fun z hz => h z (List.mem_of_mem_drop (List.mem_of_mem_take hz))

theorem ChainR.drop {R : RO → Value → Prop} {n : Nat} (hn : ∀ d v, R d v → v.cells.toList.length = n) : ∀ (a : Nat) (xs : List RO) (cs : List Value), ChainR R xs cs → ChainR R (xs.drop a) (cs.drop (n * a))
 | 0, xs, cs, h => by simpa using h
 | a + 1, [], cs, h => by rw [show cs = [] from h]; simp; rfl
 | a + 1, x :: r, cs, h => by
  obtain ⟨v, c, h1, rfl, h3⟩ := h
  have ih := ChainR.drop hn a r c h3
  have hl := hn x v h1
  have e : (v.cells.toList ++ c).drop (n * (a + 1)) = c.drop (n * a) := by
   rw [Nat.mul_add, Nat.mul_one, List.drop_append, List.drop_eq_nil_of_le (as := v.cells.toList) (by omega), List.nil_append, hl, Nat.add_sub_cancel]
  rw [List.drop_succ_cons, e]
  exact ih
theorem ChainR.take {R : RO → Value → Prop} {n : Nat} (hn : ∀ d v, R d v → v.cells.toList.length = n) : ∀ (a : Nat) (xs : List RO) (cs : List Value), ChainR R xs cs → ChainR R (xs.take a) (cs.take (n * a))
 | 0, xs, cs, h => by simp; rfl
 | a + 1, [], cs, h => by rw [show cs = [] from h]; simp; rfl
 | a + 1, x :: r, cs, h => by
  obtain ⟨v, c, h1, rfl, h3⟩ := h
  have ih := ChainR.take hn a r c h3
  have hl := hn x v h1
  have e : (v.cells.toList ++ c).take (n * (a + 1)) = v.cells.toList ++ c.take (n * a) := by
   rw [Nat.mul_add, Nat.mul_one, List.take_append, List.take_of_length_le (l := v.cells.toList) (by omega), hl, Nat.add_sub_cancel]
  rw [List.take_succ_cons, e]
  exact ⟨v, _, h1, rfl, ih⟩

theorem RoD_sub {w : World} {Out : Nat → Prop} {sh : Sh} {d : RO} {ad : Option Addr} {n cap : Nat} (h : RoD w Out sh d (.slice ad n cap)) (hn : n = roLen sh d) {a z : Nat} (h1 : a + z ≤ n) :
  roLen sh (roSub sh d a z) = z ∧ ∀ ad', (a < cap → ad' = ad.map (·.add (a * shEl sh))) → RoD w Out sh (roSub sh d a z) (.slice ad' z (cap - a)) := by
 have hadd : ∀ (b o m : Nat), (⟨b, o, none⟩ : Addr).add m = ⟨b, o + m, none⟩ := fun b o m => by by_cases h : m = 0 <;> simp [Addr.add, h]
 cases sh with
 | ints k =>
  simp only [RoD] at h
  obtain ⟨a0, cap', q1, q2, q3, q4, q5⟩ := h
  simp only [Value.slice.injEq] at q1
  obtain ⟨rfl, rfl, rfl⟩ := q1
  have hz : (((roL d).drop a).take z).length = z := by rw [List.length_take, List.length_drop]; omega
  refine ⟨hz, fun ad' had => ?_⟩
  have er : ∀ x, roL (.l x) = x := fun x => rfl
  simp only [RoD, roSub, er]
  refine ⟨ad', cap - a, by rw [hz], by rw [hz]; omega, by rw [hz]; omega, q4.drop_take_ _ _, ?_⟩
  rcases q5 with ⟨b, o, rfl, r1, r2⟩ | ⟨r1, r2⟩
  ·by_cases hc : a < cap
   ·left
    refine ⟨b, o + a, by rw [had hc]; simp [shEl, hadd], r1, ?_⟩
    have := rangeAt_part r2 a z
    rw [← List.map_drop, ← List.map_take] at this
    exact this
   ·exact .inr ⟨by rw [hz]; omega, by omega⟩
  ·exact .inr ⟨by rw [hz]; omega, by omega⟩
 | l e =>
  simp only [RoD] at h
  obtain ⟨a0, cap', cs, q1, q2, q3, q4, q5⟩ := h
  simp only [Value.slice.injEq] at q1
  obtain ⟨rfl, rfl, rfl⟩ := q1
  have hz : (((roX d).drop a).take z).length = z := by rw [List.length_take, List.length_drop]; omega
  refine ⟨hz, fun ad' had => ?_⟩
  have er : ∀ x, roX (.r x) = x := fun x => rfl
  simp only [RoD, roSub, er]
  refine ⟨ad', cap - a, (cs.drop (shSize e * a)).take (shSize e * z), by rw [hz], by rw [hz]; omega, by rw [hz]; omega, ChainR.take (fun d v h => RoD_cells e d v h) z _ _ (ChainR.drop (fun d v h => RoD_cells e d v h) a _ _ q4), ?_⟩
  rcases q5 with ⟨b, o, rfl, r1, r2⟩ | ⟨r1, r2⟩
  ·by_cases hc : a < cap
   ·left
    refine ⟨b, o + shSize e * a, by rw [had hc]; simp [shEl, hadd, Nat.mul_comm], r1, rangeAt_part r2 _ _⟩
   ·exact .inr ⟨by rw [hz]; omega, by omega⟩
  ·exact .inr ⟨by rw [hz]; omega, by omega⟩
 | _ => simp only [RoD] at h <;> simp at h

theorem RoD_D {dm : Nat → Prop} {ρ : Nat → Pl} {key : Nat} (hk : dm key) {w : World} {Out : Nat → Prop} (hr : (ρ key).rel = RoD w Out) {sh : Sh} {d : RO} {ad : Option Addr} {n cap : Nat} (h : RoD w Out sh d (.slice ad n cap)) : D dm ρ (.ro key sh d) (.slice ad n cap) := by
 cases sh with
 | ints k => exact svOf_D hk hr (.ints k) d _ h
 | l e => exact svOf_D hk hr (.l e) d _ h
 | _ => simp only [RoD] at h <;> simp at h

theorem slice_sound {T : TypeId} {ti : TInfo} {ty : List (Nat × TInfo)} (hT : RowOk P T ti) (hm : Mem w0 M ρ H w) {x : SV} {vx : Value} (hx : D (dmOf H) ρ x vx) {lo hi : Option SV} {vlo vhi : Option Value}
  (hlo : OptD (dmOf H) ρ lo vlo) (hhi : OptD (dmOf H) ρ hi vhi) {d : Delta} {rs rs' : List Nat} (hest : ∀ key c est off len, x = .sl key c est off len → ti.ty = .slice → (∀ y, (sizeOf ti.elem).run P y = .ok est y)) (hestR : ∀ key sh d, x = .ro key sh d → ti.ty = .slice → (∀ y, (sizeOf ti.elem).run P y = .ok (shEl sh) y)) (hestN : ti.ty = .slice → ∃ es, ∀ y, (sizeOf ti.elem).run P y = .ok es y)
  (h : (sliceOp ti x lo hi).run H rs = some (d, rs')) (hp : AllP d.pre) : d.ws = [] ∧ ∃ v, (Instr.sliceAt T vx vlo vhi none).run P w = .ok v w ∧ D (dmOf H) ρ d.v v := by
 have hty' := hT.ty
 unfold sliceOp at h
 split at h
 ·rename_i key c n k l ht hl
  simp only [D] at hx
  obtain ⟨hk, rfl⟩ := hx
  simp only [RP.run] at h
  split at h
  ·rename_i ro gs hkey
   split at h
   ·rename_i k2 m ex y hs
    split at h
    ·rename_i hh hb hhh
     simp only [Bool.and_eq_true] at hb
     have hnm := Nat.eq_of_beq_eq_true hb.1
     have hbig := Nat.le_of_ble_eq_true hb.2
     split at h
     ·rename_i p hb3
      have e := run_ret h; subst e
      obtain ⟨b1, b2, b3⟩ := bounds3_ok hb3 hp
      simp only at b3
      rw [ht] at hty'
      unfold tyB at hty'
      split at hty'
      ·rename_i n' T' hu
       simp only [Bool.and_eq_true] at hty'
       obtain ⟨⟨e1, e2⟩, e3⟩ := hty'
       have hn := Nat.eq_of_beq_eq_true e1
       split at e2
       ·rename_i ii hii
        have hsz : ii.size = 1 := Nat.eq_of_beq_eq_true e2
        obtain ⟨vs, g1, g2, g3, _⟩ := hm.segs hkey
        obtain ⟨pre, cs, post, f1, f2, f3, _, _⟩ := segAt_D gs c vs _ 0 g1 hs
        have hcs := segLen_D f2 (n := m) rfl
        have hcap : c + n ≤ (ρ key).cap := by
         have : vs.length = pre.length + cs.length + post.length := by rw [f1]; simp; omega
         omega
        have hbnd := sliceBounds_run (P := P) (w := w) false n n l hh vlo vhi
         (by rcases optI_sound hl hlo with ⟨q1, q2⟩ | q; exact .inl ⟨q1, by rw [q2]⟩; exact .inr q)
         (by rcases optI_sound hhh hhi with ⟨q1, q2⟩ | q; exact .inl ⟨q1, by rw [q2]⟩; exact .inr q) b1 b2 b3
        have hdif : (hh.z - l.z).toNat = hh.z.toNat - l.z.toNat := by omega
        subst hn
        have hrun : (Instr.sliceAt T (.pointer (some (at_ (ρ key) c))) vlo vhi none).run P w = .ok (.slice (some (if n = l.z.toNat then at_ (ρ key) c else at_ (ρ key) (c + l.z.toNat))) (hh.z.toNat - l.z.toNat) (n - l.z.toNat)) w := by
         simp [Instr.sliceAt, run_underlying hu, Instr.sureAddr, hbnd, sizeOf, typeInfo, hii, hsz, addr_add]
        refine ⟨rfl, _, hrun, hk, b1, by rw [subI_z]; omega, by rw [subI_z]; simp only [InR]; omega, _, _, by rw [subI_z, hdif], by rw [subI_z, hdif]; omega, ?_⟩
        rw [subI_z]
        by_cases he : n = l.z.toNat
        ·exact .inr ⟨by omega, by omega⟩
        ·rw [if_neg he, Nat.one_mul, Nat.one_mul]
         exact .inl ⟨rfl, by omega⟩
       ·cases e2
      ·cases hty'
     ·simp [RP.run] at h
    ·simp [RP.run] at h
   ·simp [RP.run] at h
  ·simp [RP.run] at h
 ·rename_i key c est off len l ht hl
  have hestt := hest key c est off len rfl ht
  simp only [D] at hx
  obtain ⟨hk, ho, hl0, hlr, ad, cap, rfl, hlc, hdis⟩ := hx
  split at h
  ·rename_i hh hhh
   split at h
   ·rename_i p hb3
    have e := run_ret h; subst e
    obtain ⟨b1, b2, b3⟩ := bounds3_ok hb3 hp
    rw [ht] at hty'
    unfold tyB at hty'
    split at hty'
    ·rename_i el hu
     have hee := hT.slice el hu
     subst hee
     have hbnd := sliceBounds_run (P := P) (w := w) true len.z.toNat cap l hh vlo vhi
      (by rcases optI_sound hl hlo with ⟨q1, q2⟩ | q; exact .inl ⟨q1, by rw [q2]⟩; exact .inr q)
      (by rcases optI_sound hhh hhi with ⟨q1, q2⟩ | q; exact .inl ⟨q1, by rw [q2]; omega⟩; exact .inr q) b1 b2 (by omega)
     have hdif : (hh.z - l.z).toNat = hh.z.toNat - l.z.toNat := by omega
     have hrun : (Instr.sliceAt T (.slice ad len.z.toNat cap) vlo vhi none).run P w = .ok (.slice (if cap = l.z.toNat then ad else ad.map (·.add (l.z.toNat * est))) (hh.z.toNat - l.z.toNat) (cap - l.z.toNat)) w := by
      simp [Instr.sliceAt, Instr.slice, run_underlying hu, hbnd, hestt]
     have hInR : InR .i64 (hh.z - l.z) := by simp only [InR] at hlr ⊢; omega
     refine ⟨rfl, _, hrun, hk, by rw [addI_z]; omega, by rw [subI_z]; omega, by rw [subI_z]; exact hInR, _, _, by rw [subI_z, hdif], by rw [subI_z, hdif]; omega, ?_⟩
     rw [subI_z, addI_z]
     by_cases he : cap = l.z.toNat
     ·exact .inr ⟨by omega, by omega⟩
     ·rw [if_neg he]
      rcases hdis with ⟨rfl, hcap⟩ | ⟨q1, q2⟩
      ·have e1 : (off.z + l.z).toNat = off.z.toNat + l.z.toNat := Int.toNat_add ho b1
       refine .inl ⟨?_, ?_⟩
       ·simp only [Option.map_some, addr_add, e1, Nat.mul_add]
        rw [Nat.mul_comm l.z.toNat est, Nat.add_assoc]
       ·rw [e1, Nat.mul_add]
        have : est * cap = est * l.z.toNat + est * (cap - l.z.toNat) := by rw [← Nat.mul_add]; congr 1; omega
        omega
      ·exact absurd (by omega) he
    ·cases hty'
   ·simp [RP.run] at h
  ·simp [RP.run] at h
 ·rename_i key sh dd l ht hl
  have hestt := hestR key sh dd rfl ht
  simp only [D] at hx
  obtain ⟨hk, hrel, hF, ad, cap, rfl, hlc, hl63, hdis⟩ := hx
  split at h
  ·rename_i hh hhh
   simp only [RP.run] at h
   split at h
   ·rename_i hkey
    have e := run_ret h; subst e
    obtain ⟨b1, b2, b3⟩ := hp.1
    rw [ht] at hty'
    unfold tyB at hty'
    split at hty'
    ·rename_i el hu
     have hee := hT.slice el hu
     subst hee
     have hbnd := sliceBounds_run (P := P) (w := w) true (roLen sh dd) cap l hh vlo vhi
      (by rcases optI_sound hl hlo with ⟨q1, q2⟩ | q; exact .inl ⟨q1, by rw [q2]⟩; exact .inr q)
      (by rcases optI_sound hhh hhi with ⟨q1, q2⟩ | q; exact .inl ⟨q1, by rw [q2]⟩; exact .inr q) b1 b2 (by omega)
     have hdif : (hh.z - l.z).toNat = hh.z.toNat - l.z.toNat := by omega
     have hrun : (Instr.sliceAt T (.slice ad (roLen sh dd) cap) vlo vhi none).run P w = .ok (.slice (if cap = l.z.toNat then ad else ad.map (·.add (l.z.toNat * shEl sh))) (hh.z.toNat - l.z.toNat) (cap - l.z.toNat)) w := by
      simp [Instr.sliceAt, Instr.slice, run_underlying hu, hbnd, hestt]
     have hr := hm.view key hkey
     rw [hr] at hrel
     obtain ⟨s1, s2⟩ := RoD_sub hrel rfl (a := l.z.toNat) (z := (hh.z - l.z).toNat) (by omega)
     refine ⟨rfl, _, hrun, ?_⟩
     rw [← hdif]
     exact RoD_D hk hr (s2 _ fun hc => by rw [if_neg (by omega)])
    ·cases hty'
   ·simp [RP.run] at h
  ·simp [RP.run] at h
 ·rename_i l ht hl
  simp only [D] at hx
  subst hx
  split at h
  ·rename_i hh hhh
   have e := run_ret h; subst e
   obtain ⟨b1, b2, b3⟩ := hp.1
   rw [ht] at hty'
   unfold tyB at hty'
   split at hty'
   ·rename_i el hu
    have hee := hT.slice el hu
    subst hee
    have hbnd := sliceBounds_run (P := P) (w := w) true 0 0 l hh vlo vhi
     (by rcases optI_sound hl hlo with ⟨q1, q2⟩ | q; exact .inl ⟨q1, by rw [q2]⟩; exact .inr q)
     (by rcases optI_sound hhh hhi with ⟨q1, q2⟩ | q; exact .inl ⟨q1, by rw [q2]; rfl⟩; exact .inr q) b1 b2 b3
    have l0 : l.z.toNat = 0 := by omega
    have h0 : hh.z.toNat = 0 := by omega
    have hestt := hestN ht
    refine ⟨rfl, .slice none 0 0, ?_, rfl⟩
    obtain ⟨es, hes⟩ := hestt
    simp [Instr.sliceAt, Instr.slice, run_underlying hu, hbnd, hes, l0, h0]
   ·cases hty'
  ·simp [RP.run] at h
 ·rename_i v l ht hl
  simp only [D] at hx
  obtain ⟨rfl, hv⟩ := hx
  split at h
  ·rename_i hh hhh
   have e := run_ret h; subst e
   obtain ⟨b1, b2, b3⟩ := hp.1
   rw [ht] at hty'
   unfold tyB at hty'
   split at hty'
   ·rename_i hu
    have hbnd := sliceBounds_run (P := P) (w := w) false v.size v.size l hh vlo vhi
     (by rcases optI_sound hl hlo with ⟨q1, q2⟩ | q; exact .inl ⟨q1, by rw [q2]⟩; exact .inr q)
     (by rcases optI_sound hhh hhi with ⟨q1, q2⟩ | q; exact .inl ⟨q1, by rw [q2]⟩; exact .inr q) b1 b2 b3
    refine ⟨rfl, .string (v.extract l.z.toNat hh.z.toNat), ?_, rfl, ?_⟩
    ·simp [Instr.sliceAt, Instr.slice, run_underlying hu, hbnd]
    ·have : (v.extract l.z.toNat hh.z.toNat).size ≤ v.size := by simp [ByteArray.size_extract]; omega
     omega
   ·cases hty'
  ·simp [RP.run] at h
 ·simp [RP.run] at h

/-! ### Parts of structs -/

theorem field_sound {T : TypeId} {ti : TInfo} (hT : RowOk P T ti) {x : SV} {vx : Value} (hx : D (dmOf H) ρ x vx) {f : Nat} {d : Delta} {rs rs' : List Nat}
  (h : (fieldOp ti x f).run H rs = some (d, rs')) : d.ws = [] ∧ ∃ v, (Instr.field T vx f).run P w = .ok v w ∧ D (dmOf H) ρ d.v v := by
 have key : ∀ (fs : List Ty) (fl : List Field) (xs : List SV) (cs pre : List Value) (off f : Nat) (v : SV), fieldsB P fs off fl = true → ofTys fs xs = true → Cs (dmOf H) ρ xs cs → pre.length = off → nth xs f = some v →
   ∃ g u, fl[f]? = some g ∧ D (dmOf H) ρ v u ∧ (part g.type (pre ++ cs).toArray g.offset).run P w = .ok u w := by
  intro fs
  induction fs with
  | nil => intro fl xs cs pre off f v _ ho _ _ hn; cases xs <;> simp [ofTys] at ho; simp [nth] at hn
  | cons t r ih =>
   intro fl xs cs pre off f v hB ho hc hpre hn
   cases fl with
   | nil => simp [fieldsB] at hB
   | cons g gr =>
    cases xs with
    | nil => simp [ofTys] at ho
    | cons y ys =>
     simp only [fieldsB, Bool.and_eq_true] at hB
     obtain ⟨⟨⟨h1, h2⟩, h3⟩, h4⟩ := hB
     simp only [ofTys, Bool.and_eq_true] at ho
     simp only [Cs] at hc
     obtain ⟨u, c, c1, rfl, c3⟩ := hc
     have hsz := ofTy_size t y u ho.1 c1
     have hoff := Nat.eq_of_beq_eq_true h1
     cases f with
     | zero =>
      simp only [nth, Option.some.injEq] at hn; subst hn
      refine ⟨g, u, rfl, c1, ?_⟩
      split at h2
      ·rename_i i hi
       simp only [Bool.and_eq_true] at h2
       have hs := Nat.eq_of_beq_eq_true h2.1
       obtain ⟨dd, hdd, hrow⟩ := tyB_row h3
       have hagg := isAgg_run hdd w
       rw [hrow] at hagg
       cases hr : isRow t with
       | true =>
        have : ∃ a, u = .agg a := by
         cases t <;> simp [isRow] at hr
         ·rename_i n e
          cases e <;> cases y <;> simp [ofTy, fits] at ho
          simp only [D] at c1
          exact ⟨_, c1.2.2⟩
         ·cases y <;> simp [ofTy, fits] at ho
          simp only [D] at c1
          obtain ⟨q, _, q2⟩ := c1
          exact ⟨_, q2⟩
        obtain ⟨a, rfl⟩ := this
        rw [hr] at hagg
        simp only [part, Sem.run_bind, hagg, Result.andThen_ok, sizeOf, typeInfo, if_true]
        simp only [hi, hs, run_program, Result.andThen_ok, Sem.run_pure]
        congr 2
        apply Array.ext'
        simp only [Array.toList_extract, List.extract_eq_take_drop, hoff]
        rw [show off + t.size - off = t.size by omega, ← hpre, List.drop_left, ← hsz, ← Array.length_toList]
        exact List.take_left
       | false =>
        rw [hr] at hagg
        have hcell : u.cells = #[u] := by
         by_cases hvi : ∃ k, y = .vi k
         ·obtain ⟨k, rfl⟩ := hvi
          simp only [D] at c1
          obtain ⟨z, rfl, _⟩ := c1; rfl
         ·have hsing : single y = true := by
           cases t <;> simp [isRow] at hr <;> cases y <;> simp [ofTy, fits] at ho <;> first | rfl | exact absurd ⟨_, rfl⟩ hvi
          exact (single_cell hsing c1).2
        have : ((pre ++ (u.cells.toList ++ c)).toArray)[g.offset]? = some u := by
         rw [hcell, hoff, ← hpre]
         simp
        simp only [part, Sem.run_bind, hagg, Result.andThen_ok, Bool.false_eq_true, if_false, this]
        rfl
      ·cases h2
     | succ f =>
      simp only [nth] at hn
      obtain ⟨g', u', a1, a2, a3⟩ := ih gr ys c (pre ++ u.cells.toList) (off + t.size) f v h4 ho.2 c3 (by simp [hpre, hsz]) hn
      exact ⟨g', u', by simpa using a1, a2, by rw [List.append_assoc] at a3; exact a3⟩
 unfold fieldOp at h
 split at h
 ·rename_i xs fs ht
  split at h
  ·rename_i v ho hn
   have e := run_ret h; subst e
   simp only [D] at hx
   obtain ⟨cs, hc, rfl⟩ := hx
   have hty' := hT.ty
   rw [ht] at hty'
   unfold tyB at hty'
   split at hty'
   ·rename_i fl hu
    obtain ⟨g, u, a1, a2, a3⟩ := key fs fl.toList xs cs [] 0 f v hty' ho hc rfl hn
    have a1' : fl[f]? = some g := by rw [← Array.getElem?_toList]; exact a1
    refine ⟨rfl, u, ?_, a2⟩
    simp only [List.nil_append] at a3
    simp [Instr.field, run_underlying hu, a1', asAgg, a3]
   ·cases hty'
  ·simp [RP.run] at h
 ·simp [RP.run] at h

theorem sliceBounds_run3 {P : Program} {w : World} (len cap : Nat) (l : SI) (h m : Int) (kh km : IntKind) (lo : Option Value) (hl : (lo = none ∧ l.z = 0) ∨ ∃ k, lo = some (.int k l.z))
  (h0 : 0 ≤ l.z) (h1 : l.z ≤ h) (h2 : h ≤ m) (h3 : m ≤ cap) : (Instr.sliceBounds true len cap lo (some (.int kh h)) (some (.int km m))).run P w = .ok (l.z.toNat, h.toNat, m.toNat) w := by
 have hb : ∀ (k : IntKind) (z : Int) (y : Nat) (c : BoundsCode), 0 ≤ z → z ≤ y → (Instr.sliceBound (.int k z) y c).run P w = .ok z.toNat w := fun k z y c a1 a2 => by
  simp [Instr.sliceBound, asIntOf, a1, a2]
 unfold Instr.sliceBounds
 rcases hl with ⟨rfl, e⟩ | ⟨k, rfl⟩
 ·simp [hb km m cap _ (by omega) h3, hb kh h m.toNat _ (by omega) (by omega), e]
 ·simp [hb km m cap _ (by omega) h3, hb kh h m.toNat _ (by omega) (by omega), hb k l.z h.toNat _ h0 (by omega)]

theorem slice3_sound {T : TypeId} {ti : TInfo} (hT : RowOk P T ti) {x : SV} {vx : Value} (hx : D (dmOf H) ρ x vx) {lo : Option SV} {hi mx : SV} {vlo : Option Value} {vhi vmx : Value}
  (hlo : OptD (dmOf H) ρ lo vlo) (hhi : D (dmOf H) ρ hi vhi) (hmx : D (dmOf H) ρ mx vmx) {d : Delta} {rs rs' : List Nat} (hest : ∀ key c est off len, x = .sl key c est off len → ti.ty = .slice → (∀ y, (sizeOf ti.elem).run P y = .ok est y)) (hestN : ti.ty = .slice → ∃ es, ∀ y, (sizeOf ti.elem).run P y = .ok es y)
  (h : (sliceOp3 ti x lo hi mx).run H rs = some (d, rs')) (hp : AllP d.pre) : d.ws = [] ∧ ∃ v, (Instr.sliceAt T vx vlo (some vhi) (some vmx)).run P w = .ok v w ∧ D (dmOf H) ρ d.v v := by
 have hty' := hT.ty
 unfold sliceOp3 at h
 split at h
 ·rename_i key c est off len l kh hh km m ht hl
  have hestt := hest key c est off len rfl ht
  simp only [D] at hx hhi hmx
  obtain ⟨hk, ho, hl0, hlr, ad, cap, rfl, hlc, hdis⟩ := hx
  obtain ⟨rfl, _⟩ := hhi
  obtain ⟨rfl, _⟩ := hmx
  have e := run_ret h; subst e
  obtain ⟨b1, b2, b3, b4⟩ := hp.1
  rw [ht] at hty'
  unfold tyB at hty'
  split at hty'
  ·rename_i el hu
   have hee := hT.slice el hu
   subst hee
   have hbnd := sliceBounds_run3 (P := P) (w := w) len.z.toNat cap l hh.z m.z kh km vlo
    (by rcases optI_sound hl hlo with ⟨q1, q2⟩ | q; exact .inl ⟨q1, by rw [q2]⟩; exact .inr q) b1 b2 b3 (by omega)
   have hdif : (hh.z - l.z).toNat = hh.z.toNat - l.z.toNat := by omega
   have hrun : (Instr.sliceAt T (.slice ad len.z.toNat cap) vlo (some (.int kh hh.z)) (some (.int km m.z))).run P w = .ok (.slice (if m.z.toNat = l.z.toNat then ad else ad.map (·.add (l.z.toNat * est))) (hh.z.toNat - l.z.toNat) (m.z.toNat - l.z.toNat)) w := by
    simp [Instr.sliceAt, Instr.slice, run_underlying hu, hbnd, hestt]
   have hInR : InR .i64 (hh.z - l.z) := by simp only [InR] at hlr ⊢; omega
   refine ⟨rfl, _, hrun, hk, by rw [addI_z]; omega, by rw [subI_z]; omega, by rw [subI_z]; exact hInR, _, _, by rw [subI_z, hdif], by rw [subI_z, hdif]; omega, ?_⟩
   rw [subI_z, addI_z]
   by_cases he : m.z.toNat = l.z.toNat
   ·exact .inr ⟨by omega, by omega⟩
   ·rw [if_neg he]
    rcases hdis with ⟨rfl, hcap⟩ | ⟨q1, q2⟩
    ·have e1 : (off.z + l.z).toNat = off.z.toNat + l.z.toNat := Int.toNat_add ho b1
     refine .inl ⟨?_, ?_⟩
     ·simp only [Option.map_some, addr_add, e1, Nat.mul_add]
      rw [Nat.mul_comm l.z.toNat est, Nat.add_assoc]
     ·rw [e1, Nat.mul_add]
      have h5 : est * l.z.toNat + est * (m.z.toNat - l.z.toNat) ≤ est * cap := by rw [← Nat.mul_add]; exact Nat.mul_le_mul_left _ (by omega)
      omega
    ·exact absurd (by omega) he
  ·cases hty'
 ·rename_i l kh hh km m ht hl
  simp only [D] at hx hhi hmx
  subst hx
  obtain ⟨rfl, _⟩ := hhi
  obtain ⟨rfl, _⟩ := hmx
  have e := run_ret h; subst e
  obtain ⟨b1, b2, b3, b4⟩ := hp.1
  rw [ht] at hty'
  unfold tyB at hty'
  split at hty'
  ·rename_i el hu
   have hee := hT.slice el hu
   subst hee
   have hbnd := sliceBounds_run3 (P := P) (w := w) 0 0 l hh.z m.z kh km vlo
    (by rcases optI_sound hl hlo with ⟨q1, q2⟩ | q; exact .inl ⟨q1, by rw [q2]⟩; exact .inr q) b1 b2 b3 b4
   obtain ⟨es, hes⟩ := hestN ht
   have l0 : l.z.toNat = 0 := by omega
   have h0 : hh.z.toNat = 0 := by omega
   have m0 : m.z.toNat = 0 := by omega
   refine ⟨rfl, .slice none 0 0, ?_, rfl⟩
   simp [Instr.sliceAt, Instr.slice, run_underlying hu, hbnd, hes, l0, h0, m0]
  ·cases hty'
 ·simp [RP.run] at h

end
end Go.Gx

/- Literals, make, conversions. -/
namespace Go.Gx
open Go.RowKit
set_option linter.unusedVariables false

section
variable {P : Program} {w0 : World} {M : Nat → Prop} {ρ : Nat → Pl} {H : Nat → Option SB} {w : World}

def PartsD (dm : Nat → Prop) (ρ : Nat → Pl) : List (Nat × SV) → List (Nat × Value) → Prop
 | [], vs => vs = []
 | (i, x) :: r, vs => ∃ u c, vs = (i, u) :: c ∧ D dm ρ x u ∧ PartsD dm ρ r c

theorem fillI_sound {dm : Nat → Prop} {k : IntKind} {n : Nat} (place : Nat → Option (Nat × Nat)) (hpl : ∀ i, place i = some (i * 1, 1)) : ∀ (parts : List (Nat × SV)) (vs : List (Nat × Value)) (l l' : List Int), PartsD dm ρ parts vs → fillI k parts l = some l' → l.length = n → AllR k l →
  Instr.fill place (l.map (Value.int k)).toArray vs = some (l'.map (Value.int k)).toArray ∧ l'.length = n ∧ AllR k l'
 | [], vs, l, l', hd, h, hl, hr => by
  simp only [fillI, Option.some.injEq] at h; subst h
  rw [show vs = [] from hd]
  exact ⟨rfl, hl, hr⟩
 | (i, x) :: r, vs, l, l', hd, h, hl, hr => by
  obtain ⟨u, c, rfl, h1, h2⟩ := hd
  cases x <;> simp only [fillI, reduceCtorEq] at h
  rename_i k' a
  split at h
  ·rename_i l1 hk hs
   have hkk := keq_eq hk; subst hkk
   obtain ⟨e1, e2⟩ := setn_some hs
   simp only [D] at h1
   obtain ⟨rfl, ha⟩ := h1
   have hl1 : l1.length = n := by rw [e1, List.length_set]; exact hl
   have ih := fillI_sound (n := n) place hpl r c l1 l' h2 h hl1 (by rw [e1]; exact hr.set ha)
   refine ⟨?_, ih.2⟩
   rw [← ih.1]
   have hsz : (Value.int k a.z).cells.size = 1 := rfl
   simp only [Instr.fill, hpl]
   rw [if_neg (by simp [Value.cells]; omega)]
   congr 1
   simp only [Value.cells]
   rw [e1]
   apply Array.ext'
   simp [List.map_set]
  ·cases h

theorem fields_places {fs : List Ty} : ∀ {fl : List Field} {off : Nat}, fieldsB P fs off fl = true → ∃ places, fl.mapM (fun f => (P.info? f.type).map fun i => (f.offset, i.size)) = some places ∧
  ∀ i t, nth fs i = some t → places[i]? = some (off + fieldOff fs i, t.size) := by
 induction fs with
 | nil =>
  intro fl off h
  cases fl with
  | nil => exact ⟨[], by simp, fun i t h => by simp [nth] at h⟩
  | cons g gr => simp [fieldsB] at h
 | cons t r ih =>
  intro fl off h
  cases fl with
  | nil => simp [fieldsB] at h
  | cons g gr =>
   simp only [fieldsB, Bool.and_eq_true] at h
   obtain ⟨⟨⟨h1, h2⟩, h3⟩, h4⟩ := h
   obtain ⟨pl, p1, p2⟩ := ih h4
   split at h2
   ·rename_i i hi
    simp only [Bool.and_eq_true] at h2
    have e1 := Nat.eq_of_beq_eq_true h1
    have e2 := Nat.eq_of_beq_eq_true h2.1
    refine ⟨(off, t.size) :: pl, by simp [hi, p1, e1, e2], fun j u hj => ?_⟩
    cases j with
    | zero => simp only [nth, Option.some.injEq] at hj; subst hj; simp [fieldOff]
    | succ j =>
     simp only [nth] at hj
     have := p2 j u hj
     simp only [List.getElem?_cons_succ, this, fieldOff]
     congr 2; omega
   ·cases h2

theorem Cs_set {dm : Nat → Prop} : ∀ (fs : List Ty) (xs xs' : List SV) (cs : List Value) (i : Nat) (t : Ty) (x : SV) (u : Value), Cs dm ρ xs cs → ofTys fs xs = true → nth fs i = some t → setn xs i x = some xs' → ofTy t x = true → D dm ρ x u →
  Cs dm ρ xs' (over cs (fieldOff fs i) u.cells.toList) ∧ fieldOff fs i + t.size ≤ cs.length ∧ ofTys fs xs' = true
 | fs, [], xs', cs, i, t, x, u, hc, ho, hn, hs, ht, hd => by simp [setn] at hs
 | [], y :: ys, xs', cs, i, t, x, u, hc, ho, hn, hs, ht, hd => by simp [nth] at hn
 | t0 :: fs, y :: ys, xs', cs, 0, t, x, u, hc, ho, hn, hs, ht, hd => by
  simp only [nth, Option.some.injEq] at hn; subst hn
  simp only [setn, Option.some.injEq] at hs; subst hs
  simp only [Cs] at hc
  obtain ⟨v, c, c1, rfl, c3⟩ := hc
  simp only [ofTys, Bool.and_eq_true] at ho
  have e1 := ofTy_size t0 y v ho.1 c1
  have e2 := ofTy_size t0 x u ht hd
  refine ⟨⟨u, c, hd, ?_, c3⟩, by simp [fieldOff, e1], by simp [ofTys, ht, ho.2]⟩
  unfold over
  simp only [fieldOff, List.take_zero, List.nil_append, Nat.zero_add]
  congr 1
  rw [show u.cells.toList.length = v.cells.toList.length by simp [e1, e2], List.drop_left]
 | t0 :: fs, y :: ys, xs', cs, i + 1, t, x, u, hc, ho, hn, hs, ht, hd => by
  simp only [nth] at hn
  simp only [setn] at hs
  split at hs
  ·rename_i r' hr
   simp only [Option.some.injEq] at hs; subst hs
   simp only [Cs] at hc
   obtain ⟨v, c, c1, rfl, c3⟩ := hc
   simp only [ofTys, Bool.and_eq_true] at ho
   have e1 := ofTy_size t0 y v ho.1 c1
   have e2 := ofTy_size t x u ht hd
   obtain ⟨q1, q2, q3⟩ := Cs_set fs ys r' c i t x u c3 ho.2 hn hr ht hd
   refine ⟨⟨v, over c (fieldOff fs i) u.cells.toList, c1, ?_, q1⟩, by simp [fieldOff, e1]; omega, by simp [ofTys, ho.1, q3]⟩
   have := over_mid v.cells.toList c [] u.cells.toList (fieldOff fs i) (by simp [e2]; omega)
   simp only [List.append_nil] at this
   rw [← this]
   congr 1
   simp [fieldOff, e1]
  ·cases hs

theorem fold_over (off : Nat) (l : List Value) (cs : Array Value) (h : off + l.length ≤ cs.size) : ((l.zipIdx).foldl (fun cs (x : Value × Nat) => cs.setIfInBounds (off + x.2) x.1) cs) = (over cs.toList off l).toArray := by
 obtain ⟨h1, h2⟩ := Go.Great.foldl_set off l 0 cs
 have hlen : (over cs.toList off l).length = cs.size := by rw [over_length (by simpa using h)]; simp
 apply Array.ext_getElem?
 intro k
 rw [h2 k]
 simp only [Nat.add_zero, List.getElem?_toArray]
 unfold over
 by_cases c1 : k < off
 ·rw [if_neg (by omega), List.append_assoc, List.getElem?_append_left (by simp; omega), List.getElem?_take, if_pos c1]; simp
 ·by_cases c2 : k < off + l.length
  ·rw [if_pos ⟨by omega, c2, by omega⟩, List.append_assoc, List.getElem?_append_right (by simp; omega)]
   have hmin : (cs.toList.take off).length = off := by simp; omega
   rw [hmin, List.getElem?_append_left (by omega)]
  ·rw [if_neg (by omega), List.append_assoc, List.getElem?_append_right (by simp; omega)]
   have hmin : (cs.toList.take off).length = off := by simp; omega
   rw [hmin, List.getElem?_append_right (by omega), List.getElem?_drop]
   rw [show off + l.length + (k - off - l.length) = k by omega]; simp

theorem fillS_sound {dm : Nat → Prop} {fs : List Ty} (place : Nat → Option (Nat × Nat)) (hpl : ∀ i t, nth fs i = some t → place i = some (fieldOff fs i, t.size)) : ∀ (parts : List (Nat × SV)) (vs : List (Nat × Value)) (xs xs' : List SV) (cs : List Value),
  PartsD dm ρ parts vs → fillS fs parts xs = some xs' → Cs dm ρ xs cs → ofTys fs xs = true → ∃ cs', Instr.fill place cs.toArray vs = some cs'.toArray ∧ Cs dm ρ xs' cs'
 | [], vs, xs, xs', cs, hd, h, hc, ho => by
  simp only [fillS, Option.some.injEq] at h; subst h
  rw [show vs = [] from hd]
  exact ⟨cs, rfl, hc⟩
 | (i, x) :: r, vs, xs, xs', cs, hd, h, hc, ho => by
  obtain ⟨u, c, rfl, h1, h2⟩ := hd
  simp only [fillS] at h
  split at h
  ·rename_i t l1 ht hs
   split at h
   ·rename_i hty
    obtain ⟨q1, q2, q3⟩ := Cs_set fs xs l1 cs i t x u hc ho ht hs hty h1
    have e := ofTy_size t x u hty h1
    obtain ⟨cs', a1, a2⟩ := fillS_sound place hpl r c l1 xs' _ h2 h q1 q3
    refine ⟨cs', ?_, a2⟩
    simp only [Instr.fill, hpl i t ht]
    rw [if_neg (by simp [e]; omega)]
    rw [← a1]
    congr 1
    have hfo := fold_over (fieldOff fs i) u.cells.toList cs.toArray (by simp [e]; omega)
    rw [← hfo, ← Array.foldl_toList]
    simp
   ·cases h
  ·cases h

theorem build_sound {T : TypeId} {ti : TInfo} (hT : RowOk P T ti) {parts : List (Nat × SV)} {vs : Array (Nat × Value)} (hd : PartsD (dmOf H) ρ parts vs.toList) {d : Delta} {rs rs' : List Nat}
  (h : (buildOp ti parts).run H rs = some (d, rs')) : d.ws = [] ∧ ∃ v, (Instr.build T vs).run P w = .ok v w ∧ D (dmOf H) ρ d.v v := by
 have hty' := hT.ty
 obtain ⟨i, z, hi1, hi2, hi3, hi4, hi5⟩ := hT.info
 have hz := zeroB_D (dm := dmOf H) (ρ := ρ) hi5
 unfold buildOp at h
 split at h
 ·rename_i n k ht
  rw [ht] at hty' hz
  split at h
  ·rename_i hbn
   split at h
   ·rename_i l hl
    have e := run_ret h; subst e
    unfold tyB at hty'
    split at hty'
    ·rename_i n' T' hu
     simp only [Bool.and_eq_true] at hty'
     obtain ⟨⟨e1, e2⟩, e3⟩ := hty'
     split at e2
     ·rename_i ii hii
      have hs : ii.size = 1 := Nat.eq_of_beq_eq_true e2
      have hzc : z.cells = ((List.replicate n (0 : Int)).map (Value.int k)).toArray := by
       simp only [zero] at hz
       split at hz
       ·rw [reps_eq] at hz
        simp only [D] at hz; rw [hz.2.2]; rfl
       ·simp only [D] at hz; rw [hz.2.2]; rfl
      rw [reps_eq] at hl
      have hf := fillI_sound (ρ := ρ) (n := n) (fun i => some (i * 1, 1)) (fun _ => rfl) parts vs.toList _ l hd hl (by simp) (allR_rep k n)
      refine ⟨rfl, .agg (l.map (Value.int k)).toArray, ?_, hf.2.1, hf.2.2, rfl⟩
      have hfi := hf.1
      simp [Instr.build, zeroValue, typeInfo, hi1, hi4, run_underlying hu, sizeOf, hii, hs, hzc]
      simp only [List.map_replicate, Nat.mul_one, List.toArray_replicate] at hfi
      rw [hfi]
      simp
     ·cases e2
    ·cases hty'
   ·simp [RP.run] at h
  ·simp [RP.run] at h
 ·rename_i fs ht
  rw [ht] at hty' hz
  split at h
  ·rename_i l hl ho
   have e := run_ret h; subst e
   unfold tyB at hty'
   split at hty'
   ·rename_i fl hu
    obtain ⟨places, p1, p2⟩ := fields_places hty'
    simp only [zero, D] at hz
    obtain ⟨cs, c1, rfl⟩ := hz
    obtain ⟨cs', f1, f2⟩ := fillS_sound (ρ := ρ) (places.toArray[·]?) (fun i t hi => by simpa using p2 i t hi) parts vs.toList _ l cs hd hl c1 ho
    refine ⟨rfl, .agg cs'.toArray, run_build w T vs cs'.toArray ?_, cs', f2, rfl⟩
    unfold Program.built
    simp only [hi1, hu, hi4, p1]
    exact f1
   ·cases hty'
  ·simp [RP.run] at h
 ·simp [RP.run] at h

/-! ### A slice that is written out -/

theorem partsI_sound {dm : Nat → Prop} {k : IntKind} : ∀ (parts : List (Nat × SV)) (vs : List (Nat × Value)) (i : Nat) (l : List Int), PartsD dm ρ parts vs → partsI k i parts = some l →
  vs = ((l.map (Value.int k)).zipIdx i).map (fun x => (x.2, x.1)) ∧ AllR k l ∧ l.length = parts.length
 | [], vs, i, l, hd, h => by
  simp only [partsI, Option.some.injEq] at h; subst h
  rw [show vs = [] from hd]; exact ⟨rfl, (fun z hz => by cases hz), rfl⟩
 | (j, x) :: r, vs, i, l, hd, h => by
  obtain ⟨u, c, rfl, h1, h2⟩ := hd
  cases x <;> simp only [partsI, reduceCtorEq] at h
  rename_i k' a
  split at h
  ·rename_i l1 hb hr
   simp only [Bool.and_eq_true] at hb
   have e1 := Nat.eq_of_beq_eq_true hb.1
   have e2 := keq_eq hb.2
   subst e1 e2
   simp only [Option.some.injEq] at h; subst h
   simp only [D] at h1
   obtain ⟨rfl, ha⟩ := h1
   obtain ⟨q1, q2, q3⟩ := partsI_sound r c (i + 1) l1 h2 hr
   refine ⟨by rw [q1]; simp, fun z hz => ?_, by simp [q3]⟩
   rcases List.mem_cons.1 hz with rfl | hz
   ·exact ha
   ·exact q2 z hz
  ·cases h

theorem partsA_sound {dm : Nat → Prop} {k : IntKind} {n : Nat} : ∀ (parts : List (Nat × SV)) (vs : List (Nat × Value)) (i : Nat) (l : List (List Int)), PartsD dm ρ parts vs → partsA k n i parts = some l →
  ∃ us : List Value, vs = (us.zipIdx i).map (fun x => (x.2, x.1)) ∧ AllA k n l ∧ us = l.map (fun y => Value.agg (y.map (Value.int k)).toArray) ∧ l.length = parts.length
 | [], vs, i, l, hd, h => by
  simp only [partsA, Option.some.injEq] at h; subst h
  rw [show vs = [] from hd]; exact ⟨[], rfl, (fun z hz => by cases hz), rfl, rfl⟩
 | (j, x) :: r, vs, i, l, hd, h => by
  obtain ⟨u, c, rfl, h1, h2⟩ := hd
  cases x <;> simp only [partsA, reduceCtorEq] at h
  rename_i k' m ex y
  split at h
  ·rename_i l1 hb hr
   simp only [Bool.and_eq_true] at hb
   have e1 := Nat.eq_of_beq_eq_true hb.1.1
   have e2 := keq_eq hb.1.2
   have e3 := Nat.eq_of_beq_eq_true hb.2
   subst e1 e2 e3
   simp only [Option.some.injEq] at h; subst h
   simp only [D] at h1
   obtain ⟨a1, a2, rfl⟩ := h1
   obtain ⟨us, q1, q2, q3, q4⟩ := partsA_sound r c (i + 1) l1 h2 hr
   refine ⟨.agg (y.map (Value.int k)).toArray :: us, by rw [q1]; simp, fun z hz => ?_, by rw [q3]; simp, by simp [q4]⟩
   rcases List.mem_cons.1 hz with rfl | hz
   ·exact ⟨a1, a2⟩
   ·exact q2 z hz
  ·cases h

theorem fits_single {t : Ty} {x : SV} (h : fits t x = true) : single x = true := by
 cases t <;> cases x <;> simp [fits] at h <;> rfl

theorem partsS_sound {dm : Nat → Prop} {t : Ty} : ∀ (parts : List (Nat × SV)) (vs : List (Nat × Value)) (i : Nat) (l : List Seg), PartsD dm ρ parts vs → partsS t i parts = some l →
  ∃ us : List Value, vs = (us.zipIdx i).map (fun x => (x.2, x.1)) ∧ SegsD dm ρ l us ∧ (∀ u ∈ us, u.cells = #[u]) ∧ us.length = parts.length
 | [], vs, i, l, hd, h => by
  simp only [partsS, Option.some.injEq] at h; subst h
  rw [show vs = [] from hd]; exact ⟨[], rfl, rfl, (fun z hz => by cases hz), rfl⟩
 | (j, x) :: r, vs, i, l, hd, h => by
  obtain ⟨u, c, rfl, h1, h2⟩ := hd
  simp only [partsS] at h
  split at h
  ·rename_i l1 hb hr
   simp only [Bool.and_eq_true] at hb
   have e1 := Nat.eq_of_beq_eq_true hb.1
   subst e1
   simp only [Option.some.injEq] at h; subst h
   obtain ⟨us, q1, q2, q3, q4⟩ := partsS_sound r c (i + 1) l1 h2 hr
   have hs := fits_single hb.2
   refine ⟨u :: us, by rw [q1]; simp, ⟨[u], us, ⟨hs, u, h1, rfl⟩, rfl, q2⟩, fun z hz => ?_, by simp [q4]⟩
   rcases List.mem_cons.1 hz with rfl | hz
   ·exact (single_cell hs h1).2
   ·exact q3 z hz
  ·cases h

theorem PartsD.length {dm : Nat → Prop} : ∀ {parts : List (Nat × SV)} {vs : List (Nat × Value)}, PartsD dm ρ parts vs → vs.length = parts.length
 | [], vs, h => by rw [show vs = [] from h]; rfl
 | (j, x) :: r, vs, h => by obtain ⟨u, c, rfl, _, h2⟩ := h; simp [PartsD.length h2]

theorem buildSlice_zero {T e : TypeId} {ie : TypeInfo} (hu : P.underlying T = some (.slice e)) (hie : P.info? e = some ie) (w : World) :
  (Instr.buildSlice T 0 #[]).run P w = .ok (.slice (some ⟨w.heap.size, 0, none⟩) 0 0) (w.alloc (.cells #[] e)) := by
 have : (Array.range 0 : Array Nat) = #[] := rfl
 simp [Instr.buildSlice, run_underlying hu, sizeOf, typeInfo, hie, newRow, Instr.fill, this]

theorem buildSlice_sound {T : TypeId} {ti : TInfo} {ty : List (Nat × TInfo)} (hT : RowOk P T ti) (hty : tabB P ty = true) (hm : Mem w0 M ρ H w) {stamp n : Nat} {parts : List (Nat × SV)} {vs : Array (Nat × Value)} (hd : PartsD (dmOf H) ρ parts vs.toList)
  {d : Delta} {rs rs' : List Nat} (h : (buildSliceOp ty stamp ti n parts).run H rs = some (d, rs')) :
  ∃ v w', (Instr.buildSlice T n vs).run P w = .ok v w' ∧ After w0 M ρ H d v w' := by
 unfold buildSliceOp at h
 split at h
 ·rename_i te ht hte hb
  simp only [Bool.and_eq_true] at hb
  have hlen := Nat.eq_of_beq_eq_true hb.1
  have hsm := Nat.le_of_ble_eq_true hb.2
  have hTe := rowB_ok (tabB_row hty hte)
  obtain ⟨ie, z, hi1, hi2, hi3, hi4, hi5⟩ := hTe.info
  have hu : P.underlying T = some (.slice ti.elem) := by
   have hty' := hT.ty
   rw [ht] at hty'
   unfold tyB at hty'
   split at hty'
   ·rename_i e hu; rw [hu, hT.slice e hu]
   ·cases hty'
  have hvl := hd.length
  have finish : ∀ (l : List Seg) (cells : List Value) (es : Nat), es = ie.size → SegsD (dmOf H) ρ l cells → 0 < es → es ≤ 1000 → cells.length = n * es →
    (Instr.fill (fun i => some (i * es, es)) ((Array.range (n * es)).map (z.cells[· % z.cells.size]!)) vs.toList = some cells.toArray) →
    (fresh stamp l (.sl stamp 0 es ⟨true, 0⟩ ⟨true, n⟩) [] false).run H rs = some (d, rs') →
    ∃ v w', (Instr.buildSlice T n vs).run P w = .ok v w' ∧ After w0 M ρ H d v w' := fun l cells es he hl hes hes2 hcl hf hfr => by
   subst he
   obtain ⟨hn, rfl⟩ := fresh_run hfr
   have hle : n * ie.size ≤ 1000 * 1000 := Nat.mul_le_mul hsm hes2
   have hrun : (Instr.buildSlice T n vs).run P w = .ok (.slice (some ⟨w.heap.size, 0, none⟩) n n) (w.alloc (.cells cells.toArray ti.elem)) := by
    rcases Nat.eq_zero_or_pos n with rfl | hnpos
    ·have hv0 : vs = #[] := by
      have : vs.toList = [] := List.eq_nil_of_length_eq_zero (by omega)
      cases vs; simp_all
     have hc0 : cells = [] := List.eq_nil_of_length_eq_zero (by omega)
     rw [hv0, hc0]; exact buildSlice_zero hu hi1 w
    ·have hpos : 0 < n * ie.size := Nat.mul_pos hnpos hes
     exact run_buildSlice (P := P) w T ti.elem n vs cells.toArray ie z hu hi1 hi4 (by omega) (by omega) hf
   refine ⟨_, _, hrun, After.alloc hm hn hl (extra := []) (by simp) (.inl rfl) rfl ?_⟩
   refine ⟨dm_new _ _ _, by simp, by simp, by simp only [InR]; omega, _, n, rfl, by simp, .inl ⟨?_, ?_⟩⟩
   ·rw [updP_same]; simp [at_]
   ·rw [updP_same]; simp [hcl, Nat.mul_comm]
  split at h
  ·rename_i k hk
   split at h
   ·rename_i l hl
    obtain ⟨q1, q2, q3⟩ := partsI_sound parts vs.toList 0 l hd hl
    have hie : ie.size = 1 := by rw [hi2, hk]; rfl
    refine finish [.rowI k l] (l.map (Value.int k)) 1 hie.symm ⟨l.map (Value.int k), [], ⟨q2, rfl⟩, by simp, rfl⟩ (by omega) (by omega) (by simp; omega) ?_ h
    rw [q1]
    exact Go.Great.fill_flat (l.map (Value.int k)) _ (fun v hv => by simp at hv; obtain ⟨a, _, rfl⟩ := hv; rfl) (by simp; omega)
   ·simp [RP.run] at h
  ·rename_i m k hk
   split at h
   ·rename_i l hl hmm
    obtain ⟨us, q1, q2, q3, q4⟩ := partsA_sound parts vs.toList 0 l hd hl
    have hie : ie.size = m := by rw [hi2, hk]; simp [Ty.size]
    simp only [Bool.and_eq_true] at hmm
    have hm1 : 0 < m := by have := hmm.1; simp [Nat.blt] at this; omega
    have hm2 := Nat.le_of_ble_eq_true hmm.2
    have hcells : (us.flatMap fun v => v.cells.toList) = l.flatten.map (Value.int k) := by
     rw [q3]
     clear q1 q2 q3 q4 hl h hd
     induction l with
     | nil => rfl
     | cons y r ih => simp only [List.map_cons, List.flatMap_cons, List.flatten_cons, List.map_append, ih]; rfl
    refine finish [.rowA k m l] (l.flatten.map (Value.int k)) m hie.symm ⟨l.flatten.map (Value.int k), [], ⟨q2, rfl⟩, by simp, rfl⟩ hm1 hm2 (by rw [List.length_map, flatten_len q2, q4, hlen, Nat.mul_comm]) ?_ h
    rw [q1, ← hcells]
    exact Go.Great.fill_whole hm1 us _ (fun v hv => by rw [q3] at hv; simp only [List.mem_map] at hv; obtain ⟨y, hy, rfl⟩ := hv; simp [Value.cells, (q2 y hy).1]) (by rw [q3]; simp [q4, hlen])
   ·simp [RP.run] at h
  ·rename_i fs hk
   split at h
   ·rename_i xs
    split at h
    ·rename_i l hl hb2
     simp only [Bool.and_eq_true] at hb2
     obtain ⟨⟨⟨b1, b2⟩, b3⟩, b4⟩ := hb2
     have b2 : 0 < Ty.sizes fs := by simp [Nat.blt] at b2; omega
     have b3 := Nat.le_of_ble_eq_true b3
     have b4 := Nat.eq_of_beq_eq_true b4
     subst b4
     obtain ⟨u, c, e1, e2, e3⟩ := hd
     rw [show c = [] from e3] at e1
     have hsz := ofTy_size (.struct fs) (.agg xs) u b1 e2
     have hie : ie.size = Ty.sizes fs := by rw [hi2, hk]; rfl
     have hsg := segsOf_D (.agg xs) l u hl e2
     refine finish l u.cells.toList (Ty.sizes fs) hie.symm hsg b2 b3 (by rw [Array.length_toList, hsz, Nat.one_mul]; rfl) ?_ h
     rw [e1]
     have := Go.Great.fill_whole b2 [u] ((Array.range (1 * Ty.sizes fs)).map (z.cells[· % z.cells.size]!)) (fun v hv => by simp only [List.mem_singleton] at hv; subst hv; rw [hsz]; rfl) (by simp)
     simpa using this
    ·simp [RP.run] at h
   ·simp [RP.run] at h
  ·split at h
   ·rename_i l hl hs1
    obtain ⟨us, q1, q2, q3, q4⟩ := partsS_sound parts vs.toList 0 l hd hl
    have hie : ie.size = 1 := by rw [hi2]; exact Nat.eq_of_beq_eq_true hs1
    refine finish l us 1 hie.symm q2 (by omega) (by omega) (by omega) ?_ h
    rw [q1]
    exact Go.Great.fill_flat us _ q3 (by simp; omega)
   ·simp [RP.run] at h
 ·simp [RP.run] at h

/-! ### make -/

theorem madeCells_zero {dm : Nat → Prop} {t : Ty} {z : Value} (h : zeroB t z = true) (hr : isRow t = false) (n : Nat) : ∃ u, z.cells = #[u] ∧ (madeCells z.cells n).toList = List.replicate n u := by
 obtain ⟨u, hu⟩ : ∃ u, z.cells = #[u] := by
  unfold zeroB at h
  split at h
  ·simp [hr] at h
  ·cases z <;> first | exact ⟨_, rfl⟩ | (rename_i hne; exact absurd rfl (hne _))
 refine ⟨u, hu, ?_⟩
 rw [hu]
 unfold madeCells
 apply List.ext_getElem
 ·simp
 ·intro i h1 h2
  simp [Nat.mod_one]

theorem make_sound {T : TypeId} {ti : TInfo} {ty : List (Nat × TInfo)} (hT : RowOk P T ti) (hty : tabB P ty = true) (hm : Mem w0 M ρ H w) {stamp : Nat} {n m : SV} {vn vm : Value} (hn : D (dmOf H) ρ n vn) (hmm : D (dmOf H) ρ m vm)
  {d : Delta} {rs rs' : List Nat} (h : (makeOp ty stamp ti n m).run H rs = some (d, rs')) (hp : AllP d.pre) :
  ∃ v w', (Instr.makeSlice T vn vm).run P w = .ok v w' ∧ After w0 M ρ H d v w' := by
 unfold makeOp at h
 split at h
 ·rename_i te a c ht hte
  simp only [D] at hn hmm
  obtain ⟨rfl, ha⟩ := hn
  obtain ⟨rfl, hc⟩ := hmm
  have hTe := rowB_ok (tabB_row hty hte)
  obtain ⟨ie, z, hi1, hi2, hi3, hi4, hi5⟩ := hTe.info
  have hu : P.underlying T = some (.slice ti.elem) := by
   have hty' := hT.ty
   rw [ht] at hty'
   unfold tyB at hty'
   split at hty'
   ·rename_i e hu; rw [hu, hT.slice e hu]
   ·cases hty'
  have finish : ∀ (l : List Seg) (es : Nat) (zs extra : List Value), es = ie.size → SegsD (dmOf H) ρ l zs → (madeCells z.cells (c.z.toNat * es)).toList = zs ++ extra → 
    (fresh stamp l (.sl stamp 0 es ⟨true, 0⟩ a) [0 ≤ a.z ∧ a.z ≤ c.z ∧ c.z * te.bytes ≤ 70368744177664] true).run H rs = some (d, rs') →
    ∃ v w', (Instr.makeSlice T (.int .i64 a.z) (.int .i64 c.z)).run P w = .ok v w' ∧ After w0 M ρ H d v w' := fun l es zs extra he hl hc' hfr => by
   subst he
   obtain ⟨hn, rfl⟩ := fresh_run hfr
   obtain ⟨p1, p2, p3⟩ := hp.1
   have hrun := run_make (P := P) w T ti.elem ie z hu hi1 hi4 .i64 .i64 a.z c.z p1 p2 (by rw [hi3, Int.mul_comm]; omega) (by simp only [InR] at hc; omega)
   refine ⟨_, _, hrun, After.alloc hm hn hl hc' (.inl rfl) rfl ?_⟩
   refine ⟨dm_new _ _ _, by simp, p1, ha, _, c.z.toNat, rfl, by omega, .inl ⟨?_, ?_⟩⟩
   ·rw [updP_same]; simp [at_]
   ·rw [updP_same]; simp [size_madeCells, Nat.mul_comm]
  split at h
  ·rename_i k hk
   have hie : ie.size = 1 := by rw [hi2, hk]; rfl
   rw [hk] at hi5
   obtain ⟨u, hu1, hu2⟩ := madeCells_zero (dm := dmOf H) hi5 rfl (c.z.toNat * 1)
   have hu3 : u = .int k 0 := by
    have := zeroB_D (dm := dmOf H) (ρ := ρ) hi5
    simp only [zero, D] at this
    rw [this.1] at hu1
    simp [Value.cells] at hu1
    exact hu1.symm
   have hle : a.z.toNat ≤ c.z.toNat := by
    obtain ⟨_, rfl⟩ := fresh_run h
    obtain ⟨p1, p2, p3⟩ := hp.1
    omega
   refine finish [.rowI k (List.replicate a.z.toNat 0)] 1 ((List.replicate a.z.toNat (0 : Int)).map (Value.int k)) (List.replicate (c.z.toNat - a.z.toNat) (.int k 0)) hie.symm ⟨_, [], ⟨allR_rep _ _, rfl⟩, by simp, rfl⟩ ?_ h
   rw [hu2, hu3]
   simp only [List.map_replicate, Nat.mul_one, List.replicate_append_replicate]
   congr 1; omega
  ·rename_i n' k hk
   have hie : ie.size = n' := by rw [hi2, hk]; simp [Ty.size]
   rw [hk] at hi5
   have hz : z.cells = ((List.replicate n' (0 : Int)).map (Value.int k)).toArray := by
    have := zeroB_D (dm := dmOf H) (ρ := ρ) hi5
    simp only [zero] at this
    split at this
    ·rw [reps_eq] at this; simp only [D] at this; rw [this.2.2]; rfl
    ·simp only [D] at this; rw [this.2.2]; rfl
   have hle : a.z.toNat ≤ c.z.toNat := by
    obtain ⟨_, rfl⟩ := fresh_run h
    obtain ⟨p1, p2, p3⟩ := hp.1
    omega
   have hall : AllA k n' (List.replicate a.z.toNat (List.replicate n' 0)) := fun y hy => by
    rw [List.eq_of_mem_replicate hy]; exact ⟨by simp, allR_rep _ _⟩
   have hflat : ∀ q : Nat, (List.replicate q (List.replicate n' (0 : Int))).flatten = List.replicate (q * n') 0 := fun q => by
    simp [List.flatten_replicate_replicate]
   refine finish [.rowA k n' (List.replicate a.z.toNat (List.replicate n' 0))] n' ((List.replicate a.z.toNat (List.replicate n' (0 : Int))).flatten.map (Value.int k)) (List.replicate ((c.z.toNat - a.z.toNat) * n') (.int k 0)) hie.symm ⟨_, [], ⟨hall, rfl⟩, by simp, rfl⟩ ?_ h
   rw [hflat, List.map_replicate, List.replicate_append_replicate, ← Nat.add_mul, show a.z.toNat + (c.z.toNat - a.z.toNat) = c.z.toNat by omega]
   rw [hz]
   unfold madeCells
   apply List.ext_getElem
   ·simp
   ·intro i h1 h2
    simp at h1
    have hn' : 0 < n' := by
     rcases Nat.eq_zero_or_pos n' with rfl | h
     ·simp at h1
     ·exact h
    have : i % n' < n' := Nat.mod_lt _ hn'
    simp [this]
  ·simp [RP.run] at h
 ·simp [RP.run] at h

/-! ### Numbers turned -/

theorem convInt_sound {Ts Td : TypeId} {k k' : IntKind} {ks : IntKind} {a : Int} (hs : P.underlying Ts = some (.int ks)) (hd : P.underlying Td = some (.int k)) : (convert Ts Td (.int k' a)).run P w = .ok (.int k (k.wrap a)) w := by
 simp [convert, run_underlying hs, run_underlying hd, Conv.intToInt]

theorem wrap_of_InR {k : IntKind} {z : Int} (h : InR k z) : k.wrap z = z := by
 cases k <;> simp [InR] at h <;> simp [IntKind.wrap, IntKind.signed, IntKind.bits] <;> (try split) <;> omega

end
end Go.Gx

/- append, copy, clear; bytes and texts. -/
namespace Go.Gx
open Go.RowKit
set_option linter.unusedVariables false

def conCells : Con → List Value
 | .ints k l => l.map (Value.int k)
 | .arrs k n l => l.flatten.map (Value.int k)

def conOk : Con → Prop
 | .ints k l => AllR k l
 | .arrs k n l => AllA k n l

theorem conCells_length {q : Con} (h : conOk q) : (conCells q).length = conLen q * conSize q := by
 cases q with
 | ints k l => simp [conCells, conLen, conSize]
 | arrs k n l => simp only [conCells, conLen, conSize, List.length_map]; rw [flatten_len h, Nat.mul_comm]

theorem conCells_one {q : Con} : ∀ v ∈ conCells q, v.oneCell' = true := by
 cases q <;> (intro v hv; simp only [conCells, List.mem_map] at hv; obtain ⟨z, _, rfl⟩ := hv; rfl)

theorem AllR.drop_take {k : IntKind} {l : List Int} (h : AllR k l) (a b : Nat) : AllR k ((l.drop a).take b) := fun z hz => h z (List.mem_of_mem_drop (List.mem_of_mem_take hz))
theorem AllA.drop_take {k : IntKind} {n : Nat} {l : List (List Int)} (h : AllA k n l) (a b : Nat) : AllA k n ((l.drop a).take b) := fun z hz => h z (List.mem_of_mem_drop (List.mem_of_mem_take hz))

theorem drop_len_add {α : Type} (x y : List α) (m : Nat) : (x ++ y).drop (x.length + m) = y.drop m := by
 induction x with
 | nil => simp
 | cons a r ih => simp only [List.length_cons, List.cons_append]; rw [show r.length + 1 + m = (r.length + m) + 1 by omega, List.drop_succ_cons, ih]
theorem take_len_add {α : Type} (x y : List α) (m : Nat) : (x ++ y).take (x.length + m) = x ++ y.take m := by
 induction x with
 | nil => simp
 | cons a r ih => simp only [List.length_cons, List.cons_append]; rw [show r.length + 1 + m = (r.length + m) + 1 by omega, List.take_succ_cons, ih]

theorem flatten_drop {k : IntKind} {n : Nat} : ∀ {l : List (List Int)} (h : AllA k n l) (a : Nat), (l.drop a).flatten = l.flatten.drop (n * a)
 | [], _, a => by simp
 | x :: r, h, 0 => by simp
 | x :: r, h, a + 1 => by
  have hx := (h x (by simp)).1
  have e : n * (a + 1) = x.length + n * a := by rw [hx, Nat.mul_add]; omega
  simp only [List.drop_succ_cons, List.flatten_cons]
  rw [flatten_drop (fun y hy => h y (by simp [hy])) a, e]
  exact (drop_len_add x _ _).symm
theorem flatten_take {k : IntKind} {n : Nat} : ∀ {l : List (List Int)} (h : AllA k n l) (a : Nat), (l.take a).flatten = l.flatten.take (n * a)
 | [], _, a => by simp
 | x :: r, h, 0 => by simp
 | x :: r, h, a + 1 => by
  have hx := (h x (by simp)).1
  have e : n * (a + 1) = x.length + n * a := by rw [hx, Nat.mul_add]; omega
  simp only [List.take_succ_cons, List.flatten_cons]
  rw [flatten_take (fun y hy => h y (by simp [hy])) a, e]
  exact (take_len_add x _ _).symm

structure ConAt (P : Program) (w : World) (v : Value) (q : Con) : Prop where
 ok : conOk q
 len : ∀ w' : World, (Builtin.lenOf v).run P w' = .ok (conLen q) w'
 at_ : ∀ ad n cap, v = .slice ad n cap → n = conLen q ∧ n ≤ cap ∧ ((conLen q = 0 ∧ cap = 0) ∨ ∃ b o, ad = some ⟨b, o, none⟩ ∧ (0 < conSize q * cap → b < w.heap.size) ∧ w.rangeAt b o (conCells q))
 cells : ∀ w' : World, (∀ a u, w.cell? a = some u → w'.cell? a = some u) → ∀ m, m ≤ conLen q → (Builtin.firstCells (conSize q) m v).run P w' = .ok ((conCells q).take (m * conSize q)).toArray w'

theorem conSeg_sound {dm : Nat → Prop} {ρ : Nat → Pl} {g : Seg} {est : Nat} {off len : SI} {p : List Prop} {q : Con} {cs : List Value} (h : conSeg g est off len = some (p, q)) (hg : SegD dm ρ g cs) (hp : AllP p) (ho : 0 ≤ off.z) (hl : 0 ≤ len.z) :
  conOk q ∧ conLen q = len.z.toNat ∧ conSize q = est ∧ conCells q = (cs.drop (est * off.z.toNat)).take (est * len.z.toNat) ∧ est * off.z.toNat + est * len.z.toNat ≤ cs.length := by
 cases g with
 | one x => simp [conSeg] at h
 | rowH key hs => simp [conSeg] at h
 | rowP key n => simp [conSeg] at h
 | rowD key sh ds => simp [conSeg] at h
 | rowI k l =>
  obtain ⟨h1, h2⟩ := hg
  simp only [conSeg] at h
  split at h
  ·rename_i hb
   have e := Nat.eq_of_beq_eq_true hb
   simp only [Option.some.injEq, Prod.mk.injEq] at h
   obtain ⟨rfl, rfl⟩ := h
   subst e
   have hb2 := hp.1
   refine ⟨h1.drop_take _ _, by simp [conLen]; omega, rfl, ?_, by rw [h2]; simp; omega⟩
   simp only [conCells, h2, Nat.one_mul, List.map_take, List.map_drop]
  ·cases h
 | arr k n ex l =>
  obtain ⟨h0, h1, h2⟩ := hg
  simp only [conSeg] at h
  split at h
  ·rename_i p' hb hpp
   have e := Nat.eq_of_beq_eq_true hb
   simp only [Option.some.injEq, Prod.mk.injEq] at h
   obtain ⟨rfl, rfl⟩ := h
   subst e
   have hb2 : off.z + len.z ≤ (n : Int) := by
    split at hpp
    ·have := (tst_some hpp).1; simpa using this
    ·simp only [Option.some.injEq] at hpp; subst hpp; exact hp.1
   refine ⟨h1.drop_take _ _, by simp [conLen]; omega, rfl, ?_, by rw [h2]; simp; omega⟩
   simp only [conCells, h2, Nat.one_mul, List.map_take, List.map_drop]
  ·cases h
 | rowA k n l =>
  obtain ⟨h1, h2⟩ := hg
  simp only [conSeg] at h
  split at h
  ·rename_i hb
   have e := Nat.eq_of_beq_eq_true hb
   simp only [Option.some.injEq, Prod.mk.injEq] at h
   obtain ⟨rfl, rfl⟩ := h
   subst e
   have hb2 := hp.1
   have hle : off.z.toNat + len.z.toNat ≤ l.length := by omega
   refine ⟨h1.drop_take _ _, by simp [conLen]; omega, rfl, ?_, ?_⟩
   ·have h1d : AllA k est (l.drop off.z.toNat) := fun y hy => h1 y (List.mem_of_mem_drop hy)
    simp only [conCells, h2]
    rw [flatten_take h1d, flatten_drop h1, List.map_take, List.map_drop]
   ·rw [h2, List.length_map, flatten_len h1, ← Nat.mul_add]
    exact Nat.mul_le_mul_left _ hle
  ·cases h

theorem bytesI_ok (s : ByteArray) : AllR .u8 (bytesI s) := fun z hz => by
 simp only [bytesI, List.mem_map] at hz
 obtain ⟨b, _, rfl⟩ := hz
 have := UInt8.toNat_lt b
 simp only [InR]; omega

theorem bytesI_length (s : ByteArray) : (bytesI s).length = s.size := by simp [bytesI]

section
variable {P : Program} {w0 : World} {M : Nat → Prop} {ρ : Nat → Pl} {H : Nat → Option SB} {w : World}

theorem firstCells_some {w' : World} (es n : Nat) (a : Addr) (len cap : Nat) (cs : List Value) (hl : cs.length = n * es) (h : ∀ j v, cs[j]? = some v → w'.cell? (a.add j) = some v) :
  (Builtin.firstCells es n (.slice (some a) len cap)).run P w' = .ok cs.toArray w' := by
 have := run_loadCells_list (P := P) w' a cs h
 rw [hl] at this
 exact this

theorem ConAt.all {v : Value} {q : Con} (h : ConAt P w v q) (w' : World) (hw : ∀ a u, w.cell? a = some u → w'.cell? a = some u) : (Builtin.firstCells (conSize q) (conLen q) v).run P w' = .ok (conCells q).toArray w' := by
 have := h.cells w' hw (conLen q) (Nat.le_refl _)
 rwa [← conCells_length h.ok, List.take_length] at this

theorem chain_arrs {w' : World} {Out : Nat → Prop} {n : Nat} {k : IntKind} : ∀ (xs : List RO) (cs : List Value), ChainR (RoD w' Out (.arr n k)) xs cs → AllA k n (xs.map roL) ∧ cs = conCells (.arrs k n (xs.map roL))
 | [], cs, h => by
  rw [show cs = [] from h]
  exact ⟨fun a ha => (by cases ha), rfl⟩
 | x :: r, cs, h => by
  obtain ⟨v, c, h1, rfl, h3⟩ := h
  simp only [RoD] at h1
  obtain ⟨a1, a2, rfl⟩ := h1
  obtain ⟨b1, rfl⟩ := chain_arrs r c h3
  refine ⟨fun a ha => ?_, by simp [conCells, Value.cells]⟩
  rw [List.map_cons] at ha
  rcases List.mem_cons.1 ha with rfl | ha
  ·exact ⟨a1, a2⟩
  ·exact b1 a ha
theorem arrs_chain {w' : World} {Out : Nat → Prop} {n : Nat} {k : IntKind} : ∀ (l : List (List Int)), AllA k n l → ChainR (RoD w' Out (.arr n k)) (l.map RO.l) (conCells (.arrs k n l))
 | [], h => rfl
 | a :: r, h => by
  obtain ⟨a1, a2⟩ := h a (by simp)
  refine ⟨.agg (a.map (Value.int k)).toArray, conCells (.arrs k n r), ?_, by simp [conCells, Value.cells], arrs_chain r fun b hb => h b (by simp [hb])⟩
  simp only [RoD]
  exact ⟨a1, a2, rfl⟩

theorem withCon_sound (hm : Mem w0 M ρ H w) {x : SV} {v : Value} (hx : D (dmOf H) ρ x v) {f : List Prop → Con → RP Delta} {d : Delta} {rs rs' : List Nat} (h : (withCon x f).run H rs = some (d, rs')) :
  ∃ p q rs1, (f p q).run H rs1 = some (d, rs') ∧ (AllP p → ConAt P w v q) := by
 unfold withCon at h
 split at h
 ·rename_i key c est off len
  simp only [D] at hx
  obtain ⟨hk, ho, hl, hr, ad, cap, rfl, hlc, hdis⟩ := hx
  simp only [RP.run] at h
  split at h
  ·rename_i ro l hkey
   split at h
   ·rename_i g hs
    split at h
    ·rename_i p q hq
     refine ⟨p, q, _, h, fun hp => ?_⟩
     obtain ⟨vs, h1, h2, h3, _⟩ := hm.segs hkey
     obtain ⟨pre, cs, post, e1, e2, e3, _, _⟩ := segAt_D l c vs g 0 h1 hs
     obtain ⟨a1, a2, a3, a4, a5⟩ := conSeg_sound hq e2 hp ho hl
     refine ⟨a1, fun w' => by rw [a2]; rfl, ?_, fun w' hw' m hm' => ?_⟩
     ·rintro ad' n' cap' hv
      cases hv
      refine ⟨a2.symm, hlc, ?_⟩
      rcases hdis with ⟨rfl, hcap⟩ | ⟨q1, q2⟩
      ·right
       refine ⟨(ρ key).blk, (ρ key).off + (c + est * off.z.toNat), rfl, fun h0 => hm.heap.lt key ro l hkey ?_, ?_⟩
       ·rw [a3] at h0; omega
       ·have hra := rangeAt_part h3 (c + est * off.z.toNat) (est * len.z.toNat)
        have heq : conCells q = (vs.drop (c + est * off.z.toNat)).take (est * len.z.toNat) := by
         rw [a4, e1, show c + est * off.z.toNat = pre.length + est * off.z.toNat by omega, drop_mid _ _ _ _ _ a5]
        rw [heq]; exact hra
      ·left
       exact ⟨by rw [a2]; omega, q2⟩
     rw [a3]
     have hcl := conCells_length a1
     rw [a3] at hcl
     have hml : m * est ≤ conLen q * est := Nat.mul_le_mul_right _ hm'
     rcases hdis with ⟨rfl, hcap⟩ | ⟨q1, q2⟩
     ·refine firstCells_some est m _ _ _ _ (by rw [List.length_take, hcl]; omega) (fun j u hu => hw' _ _ ?_)
      rw [addr_add]
      have hra := rangeAt_part h3 (c + est * off.z.toNat) (est * len.z.toNat)
      have heq : conCells q = (vs.drop (c + est * off.z.toNat)).take (est * len.z.toNat) := by
       rw [a4, e1, show c + est * off.z.toNat = pre.length + est * off.z.toNat by omega, drop_mid _ _ _ _ _ a5]
      rw [← heq] at hra
      rw [List.getElem?_take] at hu
      split at hu
      ·have := hra j u hu
       simpa [at_, Nat.add_assoc] using this
      ·cases hu
     ·have hz : len.z.toNat = 0 := by omega
      have hm0 : m = 0 := by omega
      rw [hm0]
      cases ad <;> simp [Builtin.firstCells, loadCells, loadCellsFrom]
    ·simp [RP.run] at h
   ·simp [RP.run] at h
  ·simp [RP.run] at h
 ·rename_i s
  simp only [D] at hx
  obtain ⟨rfl, hs⟩ := hx
  refine ⟨[], _, _, h, fun _ => ⟨bytesI_ok s, fun w' => by simp [Builtin.lenOf, conLen, bytesI_length], (fun ad n cap hv => by cases hv), fun w' _ m hm' => ?_⟩⟩
  simp only [conLen, bytesI_length] at hm'
  simp only [Builtin.firstCells, conSize, conCells, Nat.mul_one, Sem.run_pure]
  congr 1
  apply Array.ext'
  simp [bytesI, Function.comp_def, ByteArray.extract, ByteArray.copySlice]
 ·rename_i key sh dd
  simp only [D] at hx
  obtain ⟨hk, hrel, hF, ad, cap, rfl, hlc, hl63, hdis⟩ := hx
  simp only [RP.run] at h
  split at h
  ·rename_i hkey
   split at h
   ·rename_i k
    have hr := hm.view key hkey
    rw [hr] at hrel
    have hrel := RoD.mono hm.keeps _ _ _ hrel
    simp only [RoD] at hrel
    obtain ⟨a0, cap', q1, q2, q3, q4, q5⟩ := hrel
    simp only [Value.slice.injEq, roLen] at q1
    obtain ⟨rfl, _, rfl⟩ := q1
    refine ⟨[], _, _, h, fun _ => ⟨q4, fun w' => rfl, ?_, fun w' hw' m hm' => ?_⟩⟩
    ·rintro ad' n' cap' hv
     cases hv
     refine ⟨rfl, hlc, ?_⟩
     rcases q5 with ⟨b, o, rfl, r1, r2⟩ | ⟨r1, r2⟩
     ·exact .inr ⟨b, o, rfl, fun _ => Nat.lt_of_lt_of_le r1.1 hm.frame.size, r2⟩
     ·exact .inl ⟨r1, r2⟩
    ·simp only [conLen] at hm'
     simp only [conSize, conCells, Nat.mul_one]
     rcases q5 with ⟨b, o, rfl, r1, r2⟩ | ⟨r1, r2⟩
     ·refine firstCells_some 1 m _ _ _ _ (by rw [List.length_take, List.length_map]; omega) (fun j u hu => hw' _ _ ?_)
      have hadd : ∀ m, (⟨b, o, none⟩ : Addr).add m = ⟨b, o + m, none⟩ := fun m => by by_cases h : m = 0 <;> simp [Addr.add, h]
      rw [hadd]
      rw [List.getElem?_take] at hu
      split at hu
      ·exact r2 j u hu
      ·cases hu
     ·have hm0 : m = 0 := by omega
      rw [hm0]
      cases ad <;> simp [Builtin.firstCells, loadCells, loadCellsFrom]
   ·rename_i n k
    have hr := hm.view key hkey
    rw [hr] at hrel
    have hrel := RoD.mono hm.keeps _ _ _ hrel
    simp only [RoD] at hrel
    obtain ⟨a0, cap', cs, q1, q2, q3, q4, q5⟩ := hrel
    simp only [Value.slice.injEq, roLen] at q1
    obtain ⟨rfl, _, rfl⟩ := q1
    obtain ⟨t1, rfl⟩ := chain_arrs (w' := w) (Out := OutB w0 M) (n := n) (k := k) _ _ q4
    have hlen : ((roX dd).map roL).length = (roX dd).length := by simp
    have hcl := conCells_length (q := .arrs k n ((roX dd).map roL)) t1
    refine ⟨[], _, _, h, fun _ => ⟨t1, fun w' => by show _ = Result.ok ((roX dd).map roL).length w'; rw [hlen]; rfl, ?_, fun w' hw' m hm' => ?_⟩⟩
    ·rintro ad' n' cap' hv
     cases hv
     refine ⟨hlen.symm, hlc, ?_⟩
     rcases q5 with ⟨b, o, rfl, r1, r2⟩ | ⟨r1, r2⟩
     ·exact .inr ⟨b, o, rfl, fun _ => Nat.lt_of_lt_of_le r1.1 hm.frame.size, r2⟩
     ·exact .inl ⟨by show ((roX dd).map roL).length = 0; omega, r2⟩
    ·have hm' : m ≤ (roX dd).length := by rw [← hlen]; exact hm'
     have hcl : (conCells (.arrs k n ((roX dd).map roL))).length = (roX dd).length * n := by rw [hcl]; show ((roX dd).map roL).length * n = _; rw [hlen]
     rcases q5 with ⟨b, o, rfl, r1, r2⟩ | ⟨r1, r2⟩
     ·refine firstCells_some n m _ _ _ _ (by rw [List.length_take, hcl]; exact Nat.min_eq_left (Nat.mul_le_mul_right _ hm')) (fun j u hu => hw' _ _ ?_)
      have hadd : ∀ m, (⟨b, o, none⟩ : Addr).add m = ⟨b, o + m, none⟩ := fun m => by by_cases h : m = 0 <;> simp [Addr.add, h]
      rw [hadd]
      rw [List.getElem?_take] at hu
      split at hu
      ·exact r2 j u hu
      ·cases hu
     ·have hm0 : m = 0 := by omega
      rw [hm0]
      cases ad <;> simp [Builtin.firstCells, loadCells, loadCellsFrom]
   ·simp [RP.run] at h
  ·simp [RP.run] at h
 ·rename_i key r len
  simp only [D] at hx
  obtain ⟨hk, hrp, hl, hr, ad, cap, rfl, hlc, hdis⟩ := hx
  simp only [RP.run] at h
  split at h
  ·rename_i k ms hkey
   refine ⟨_, _, _, h, fun hp => ?_⟩
   have hle : len.z ≤ ((ms.getD r []).length : Int) := hp.1
   have hP := hm.pools.pool key k ms hkey
   have hrl : r < ms.length := by rw [← hP.cnt]; exact hrp
   have hrm : ms[r]? = some (ms.getD r []) := by rw [List.getD_eq_getElem?_getD, List.getElem?_eq_getElem hrl]; rfl
   obtain ⟨a1, a2, a3, a4⟩ := hP.rowk r _ hrm
   have hll : ((ms.getD r []).take len.z.toNat).length = len.z.toNat := by rw [List.length_take]; omega
   have hra : w.rangeAt ((ρ key).pb r) ((ρ key).po r) (((ms.getD r []).take len.z.toNat).map (Value.int k)) := fun j v hv => by
    rw [List.map_take, List.getElem?_take] at hv
    split at hv
    ·exact a3 j v hv
    ·cases hv
   refine ⟨fun z hz => a1 z (List.mem_of_mem_take hz), fun w' => by rw [show conLen (.ints k ((ms.getD r []).take len.z.toNat)) = len.z.toNat from hll]; rfl, ?_, fun w' hw' m hm' => ?_⟩
   ·rintro ad' n' cap' hv
    cases hv
    refine ⟨hll.symm, hlc, ?_⟩
    rcases hdis with ⟨rfl, hcap⟩ | ⟨q1, q2⟩
    ·exact .inr ⟨_, _, rfl, fun h0 => hP.lt r hrl (by simp [conSize] at h0; omega), hra⟩
    ·exact .inl ⟨by rw [show conLen (.ints k ((ms.getD r []).take len.z.toNat)) = len.z.toNat from hll]; omega, q2⟩
   ·have hm' : m ≤ len.z.toNat := by rw [← hll]; exact hm'
    simp only [conSize, conCells, Nat.mul_one]
    rcases hdis with ⟨rfl, hcap⟩ | ⟨q1, q2⟩
    ·refine firstCells_some 1 m _ _ _ _ (by rw [List.length_take, List.length_map, hll]; omega) (fun j u hu => hw' _ _ ?_)
     have hadd : ∀ m, (⟨(ρ key).pb r, (ρ key).po r, none⟩ : Addr).add m = ⟨(ρ key).pb r, (ρ key).po r + m, none⟩ := fun m => by by_cases h : m = 0 <;> simp [Addr.add, h]
     rw [hadd]
     rw [List.getElem?_take] at hu
     split at hu
     ·exact hra j u hu
     ·cases hu
    ·have hm0 : m = 0 := by omega
     rw [hm0]
     cases ad <;> simp [Builtin.firstCells, loadCells, loadCellsFrom]
  ·simp [RP.run] at h
 ·simp [RP.run] at h

theorem noInt_of {T2 : TypeId} {ti : TInfo} (hT : RowOk P T2 ti) (h : (match ti.ty with | .slice => true | .str => true | _ => false) = true) : (∃ e, P.underlying T2 = some (.slice e)) ∨ P.underlying T2 = some .string := by
 have h1 := hT.ty
 revert h1 h
 generalize ti.ty = t
 intro h h1
 cases t <;> simp at h <;> unfold tyB at h1 <;> split at h1 <;> first
  | (rename_i hu; exact .inr hu)
  | (rename_i hu; exact .inl ⟨_, hu⟩)
  | cases h1

theorem append_room {T T2 ty e : TypeId} {i : TypeInfo} (ht : P.underlying T = some (.slice e)) (hi : P.info? e = some i) (h2 : (∃ e, P.underlying T2 = some (.slice e)) ∨ P.underlying T2 = some .string)
  {base : Option Addr} {sLen sCap : Nat} {v : Value} {q : Con} (hq : ConAt P w v q) (hes : conSize q = i.size) (hroom : sLen + conLen q ≤ sCap) {w' : World}
  (hst : ∀ a, base = some a → (storeCells (a.add (sLen * i.size)) (conCells q)).run P w = .ok () w') (hst' : base = none → w' = w) :
  (Builtin.append_ #[T, T2] ty #[.slice base sLen sCap, v]).run P w = .ok (.slice base (sLen + conLen q) sCap) w' := by
 have hf := hq.all w (fun _ _ h => h)
 rw [hes] at hf
 have hl := hq.len
 cases base with
 | none =>
  have hw := hst' rfl
  subst hw
  rcases h2 with ⟨e2, h2⟩ | h2 <;> simp [Builtin.append_, run_underlying ht, run_underlying h2, sizeOf, typeInfo, hi, hl, hroom, hf]
 | some a =>
  have hs := hst a rfl
  rcases h2 with ⟨e2, h2⟩ | h2 <;> simp [Builtin.append_, run_underlying ht, run_underlying h2, sizeOf, typeInfo, hi, hl, hroom, hf, hs]

theorem append_grow {T T2 ty e : TypeId} {i : TypeInfo} {z : Value} (ht : P.underlying T = some (.slice e)) (hi : P.info? e = some i) (hz0 : i.zero = some z) (h2 : (∃ e, P.underlying T2 = some (.slice e)) ∨ P.underlying T2 = some .string)
  {base : Option Addr} {sLen sCap : Nat} {v : Value} {q : Con} (hq : ConAt P w v q) (hes : conSize q = i.size) (hroom : sCap < sLen + conLen q) {xs : List Value}
  (hold : (Builtin.firstCells i.size sLen (.slice base sLen sCap)).run P w.drew = .ok xs.toArray w.drew) (h63 : ((sLen + conLen q : Nat) : Int) ≤ 9223372036854775807) (hfit : Builtin.nextslicecap (sLen + conLen q) sCap * i.bytes ≤ 281474976710656) :
  (Builtin.append_ #[T, T2] ty #[.slice base sLen sCap, v]).run P w = .ok (.slice (some ⟨w.heap.size, 0, none⟩) (sLen + conLen q) (grownCap w (sLen + conLen q) sCap e))
   (w.drew.alloc (.cells (xs.toArray ++ (conCells q).toArray ++ Builtin.zeroCells z.cells (grownCap w (sLen + conLen q) sCap e - (sLen + conLen q))) e)) := by
 have hf := hq.all w.drew (fun _ _ h => by simpa using h)
 rw [hes] at hf
 have hl := hq.len
 have hn : ¬ (sLen + conLen q ≤ sCap) := by omega
 have h63' : ¬ (9223372036854775807 < ((sLen : Int) + (conLen q : Int))) := by omega
 have h48' : ¬ (281474976710656 < Builtin.nextslicecap (sLen + conLen q) sCap * i.bytes) := by omega
 rcases h2 with ⟨e2, h2⟩ | h2 <;> simp [Builtin.append_, run_underlying ht, run_underlying h2, sizeOf, typeInfo, zeroValue, hi, hz0, hl, hn, h63', h48', Question.forced, hf, hold, newRow, grownCap] <;>
  (congr 2; apply Array.ext'; simp [List.append_assoc])

/-! ### append -/

theorem conRow_D {dm : Nat → Prop} {q : Con} (h : conOk q) : SegD dm ρ (conRow q) (conCells q) := by
 cases q <;> exact ⟨h, rfl⟩

theorem conJoin_sound {a b r : Con} (h : conJoin a b = some r) (ha : conOk a) (hb : conOk b) :
  conOk r ∧ conCells r = conCells a ++ conCells b ∧ conLen r = conLen a + conLen b ∧ conSize r = conSize a ∧ conSize b = conSize a := by
 cases a with
 | ints k l =>
  cases b with
  | ints k' y =>
   simp only [conJoin] at h
   split at h
   ·rename_i e
    have := keq_eq e
    subst this
    simp only [Option.some.injEq] at h; subst h
    exact ⟨fun z hz => (List.mem_append.1 hz).elim (ha z) (hb z), by simp [conCells], by simp [conLen], rfl, rfl⟩
   ·cases h
  | arrs => simp [conJoin] at h
 | arrs k n l =>
  cases b with
  | ints => simp [conJoin] at h
  | arrs k' m y =>
   simp only [conJoin] at h
   split at h
   ·rename_i e
    simp only [Bool.and_eq_true] at e
    have e1 := keq_eq e.1
    have e2 := Nat.eq_of_beq_eq_true e.2
    subst e1 e2
    simp only [Option.some.injEq] at h; subst h
    exact ⟨fun z hz => (List.mem_append.1 hz).elim (ha z) (hb z), by simp [conCells], by simp [conLen], rfl, rfl⟩
   ·cases h

theorem Mem.virtual (h : Mem w0 M ρ H w) {key : Nat} (hn : H key = none) {l : List Seg} (hl : SegsD (dmOf H) ρ l []) : Mem w0 M (updP ρ key ({ blk := 0, off := 0, cap := 0 } : Pl)) (updH H key (.segs false l)) w := by
 have hk := updP_keeps (ρ := ρ) (p := ({ blk := 0, off := 0, cap := 0 } : Pl)) hn
 refine ⟨⟨fun k b hb => ?_, fun k k' ro ro' l1 l2 h1 h2 hkk hr c1 c2 => ?_, fun k ro l1 h1 c1 => ?_⟩, h.frame, fun k l1 h1 c1 => ?_, view_up h.view (by simp), fun k l1 h1 c1 => ?_,
  h.pools.step (fun a ha => ⟨dm_updH _ _ _ a ha, updP_keeps hn a ha⟩) (fun k kd ms hk' => by
   have e : k ≠ key := fun e => by subst e; rw [updH_same] at hk'; cases hk'
   rw [updH_ne e] at hk'
   rw [updP_ne e]; exact ⟨hk', rfl⟩)
  (fun k ro l1 h1 c1 => by
   have n1 : k ≠ key := fun e => by subst e; rw [updP_same] at c1; exact absurd c1 (by simp)
   rw [updH_ne n1] at h1; rw [updP_ne n1] at c1 ⊢; exact .inl ⟨k, ro, l1, h1, c1, rfl⟩)
  (Nat.le_refl _) (fun _ hb => hb) (fun _ _ _ _ _ _ _ _ => rfl)⟩
 ·by_cases e : k = key
  ·subst e
   rw [updH_same] at hb
   simp only [Option.some.injEq] at hb; subst hb
   exact ⟨[], SegsD.mono (dm_updH _ _ _) hk l [] hl, by simp, rangeAt_nil _ _ _, fun _ => by rw [updP_same]; exact there_zero _ _ _⟩
  ·rw [updH_ne e] at hb
   exact (h.heap.blk k b hb).of_block (dm_updH _ _ _) hk (updP_ne e) (fun _ _ _ _ => rfl)
 ·have n1 : k ≠ key := fun e => by subst e; rw [updP_same] at c1; exact absurd c1 (by simp)
  have n2 : k' ≠ key := fun e => by subst e; rw [updP_same] at c2; exact absurd c2 (by simp)
  rw [updH_ne n1] at h1; rw [updH_ne n2] at h2
  rw [updP_ne n1] at c1 ⊢; rw [updP_ne n2] at c2 ⊢
  exact h.heap.sep k k' ro ro' l1 l2 h1 h2 hkk hr c1 c2
 ·have n1 : k ≠ key := fun e => by subst e; rw [updP_same] at c1; exact absurd c1 (by simp)
  rw [updH_ne n1] at h1; rw [updP_ne n1] at c1 ⊢
  exact h.heap.lt k ro l1 h1 c1
 ·have n1 : k ≠ key := fun e => by subst e; rw [updP_same] at c1; exact absurd c1 (by simp)
  rw [updH_ne n1] at h1; rw [updP_ne n1] at c1 ⊢
  exact h.own k l1 h1 c1
 ·have n1 : k ≠ key := fun e => by subst e; rw [updP_same] at c1; exact absurd c1 (by simp)
  rw [updH_ne n1] at h1; rw [updP_ne n1] at c1 ⊢
  exact h.clean k l1 h1 c1

theorem updH_comm {H : Nat → Option SB} {a b : Nat} (hab : a ≠ b) (x y : SB) : updH (updH H a x) b y = updH (updH H b y) a x := by
 funext k
 simp only [updH]
 split <;> split <;> simp_all

theorem updH_over {H : Nat → Option SB} {a : Nat} (x y : SB) : updH (updH H a x) a y = updH H a y := by
 funext k
 simp only [updH]
 split <;> simp_all

theorem zeroB_size {t : Ty} {z : Value} (h : zeroB t z = true) : z.cells.size = t.size := by
 unfold zeroB at h
 split at h
 ·rename_i cs
  simp only [Bool.and_eq_true] at h
  obtain ⟨h1, h2⟩ := h
  split at h2
  ·rename_i e
   obtain ⟨v, a1, a2, a3, a4, _⟩ := zc_D (dm := fun _ => False) (ρ := fun _ => ({ blk := 0, off := 0, cap := 0 } : Pl)) t cs.toList [] e
   rw [← a3]
   have := congrArg List.length a2
   simpa [Value.cells] using this
  ·cases h2
 ·simp only [Bool.and_eq_true, Bool.not_eq_true'] at h
  obtain ⟨h1, h2⟩ := h
  split at h2
  ·rename_i e
   obtain ⟨v, a1, a2, a3, _, a5⟩ := zc_D (dm := fun _ => False) (ρ := fun _ => ({ blk := 0, off := 0, cap := 0 } : Pl)) t _ [] e
   have := a5 h1
   rw [this] at a2
   simp at a2
   rw [a2]; exact a3
  ·cases h2

theorem slice_of {T : TypeId} {ti : TInfo} (hT : RowOk P T ti) (ht : ti.ty = .slice) : P.underlying T = some (.slice ti.elem) := by
 have hty' := hT.ty
 rw [ht] at hty'
 unfold tyB at hty'
 split at hty'
 ·rename_i e hu; rw [hu, hT.slice e hu]
 ·cases hty'

end
end Go.Gx

/- append, copy, clear; bytes and texts: what they come to. -/
namespace Go.Gx
open Go.RowKit
set_option linter.unusedVariables false

section
variable {P : Program} {w0 : World} {M : Nat → Prop} {ρ : Nat → Pl} {H : Nat → Option SB} {w : World}

theorem appendTo_run {stamp : Nat} {te : TInfo} {old x : Con} {gone : List (Nat × SB)} {pre : List Prop} {d : Delta} {rs rs' : List Nat} (h : (appendTo stamp te old x gone pre).run H rs = some (d, rs')) :
  ∃ r, conJoin old x = some r ∧ 0 < te.bytes ∧ te.ty.size = conSize old ∧ H stamp = none ∧
   d = ⟨(((conLen r : Nat) : Int) * (te.bytes : Int) ≤ 70368744177664) :: pre, .sl stamp 0 (conSize r) ⟨true, 0⟩ ⟨false, ((conLen r : Nat) : Int)⟩, (stamp, .segs false [conRow r]) :: gone, true⟩ := by
 unfold appendTo at h
 split at h
 ·rename_i r hr hb
  simp only [Bool.and_eq_true] at hb
  simp only [RP.run] at h
  split at h
  ·rename_i hn
   refine ⟨r, hr, ?_, Nat.eq_of_beq_eq_true hb.2, hn, run_ret h⟩
   have := hb.1
   simp [Nat.blt] at this
   omega
  ·simp [RP.run] at h
 ·simp [RP.run] at h

theorem segs_one {dm : Nat → Prop} {g : Seg} {cs : List Value} (h : SegD dm ρ g cs) : SegsD dm ρ [g] cs := ⟨cs, [], h, by simp, rfl⟩

theorem sl_D {dm : Nat → Prop} {key es : Nat} {a : Option Addr} {cap : Nat} (hk : dm key) (n : Nat) (hn : (n : Int) < 9223372036854775808) (hc : n ≤ cap)
  (h : (a = some (at_ (ρ key) 0) ∧ es * cap ≤ (ρ key).cap) ∨ (n = 0 ∧ cap = 0)) : D dm ρ (.sl key 0 es ⟨true, 0⟩ ⟨false, (n : Int)⟩) (.slice a n cap) := by
 refine ⟨hk, by simp, by simp, by simp only [InR]; omega, a, cap, by simp, by simpa using hc, ?_⟩
 rcases h with ⟨h1, h2⟩ | ⟨h1, h2⟩
 ·exact .inl ⟨by simpa using h1, by simpa using h2⟩
 ·exact .inr ⟨by simpa using h1, h2⟩

theorem grow_after (hm : Mem w0 M ρ H w) {stamp : Nat} (hn : H stamp = none) {te : TInfo} {ie : TypeInfo} {z : Value} (hz1 : z.cells.size = ie.size) {e : TypeId} {old x r : Con} (hr : conJoin old x = some r) (h1 : conOk old) (h2 : conOk x)
  (hes : conSize old = ie.size) {sLen sCap : Nat} (hl : sLen = conLen old) (hg : sCap < sLen + conLen x) (hb : 0 < ie.bytes) (hpre : ((conLen r : Nat) : Int) * (ie.bytes : Int) ≤ 70368744177664)
  {d : Delta} (hdv : d.v = .sl stamp 0 (conSize r) ⟨true, 0⟩ ⟨false, ((conLen r : Nat) : Int)⟩) (hws : d.ws = [(stamp, .segs false [conRow r])] ∨ ∃ key, (H key).isSome = true ∧ d.ws = [(stamp, .segs false [conRow r]), (key, .gone)]) :
  After w0 M ρ H d (.slice (some ⟨w.heap.size, 0, none⟩) (sLen + conLen x) (grownCap w (sLen + conLen x) sCap e))
   (w.drew.alloc (.cells ((conCells old).toArray ++ (conCells x).toArray ++ Builtin.zeroCells z.cells (grownCap w (sLen + conLen x) sCap e - (sLen + conLen x))) e)) := by
 obtain ⟨q1, q2, q3, q4, q5⟩ := conJoin_sound hr h1 h2
 have hge := grownCap_ge w (sLen + conLen x) sCap e
 generalize grownCap w (sLen + conLen x) sCap e = cp at *
 have hd : Mem w0 M ρ H w.drew := hm.drew _
 have hlen : conLen r = sLen + conLen x := by rw [q3, hl]
 have hsmall : (conLen r : Int) < 9223372036854775808 := by
  have : (conLen r : Int) * 1 ≤ (conLen r : Int) * (ie.bytes : Int) := Int.mul_le_mul_of_nonneg_left (by omega) (by omega)
  omega
 have hal := hd.alloc hn (segs_one (conRow_D (ρ := ρ) (dm := dmOf H) q1)) (cells := (conCells old).toArray ++ (conCells x).toArray ++ Builtin.zeroCells z.cells (cp - (sLen + conLen x)))
  (T := e) (fr := (0, 0)) (extra := (Builtin.zeroCells z.cells (cp - (sLen + conLen x))).toList) (by simp [q2]) (.inl rfl)
 have hsz : ((conCells old).toArray ++ (conCells x).toArray ++ Builtin.zeroCells z.cells (cp - (sLen + conLen x))).size = conSize r * cp := by
  have e1 := conCells_length h1
  have e2 := conCells_length h2
  rw [q5, hes] at e2
  rw [hes] at e1
  simp only [Array.size_append, List.size_toArray, Builtin.zeroCells, Array.size_map, Array.size_range, e1, e2, hz1, q4, hes]
  rw [← Nat.add_mul, ← Nat.add_mul, ← hl, Nat.add_sub_cancel' hge, Nat.mul_comm]
 have hD : ∀ (dm : Nat → Prop), dm stamp → D dm (updP ρ stamp ({ blk := w.drew.heap.size, off := 0, cap := ((conCells old).toArray ++ (conCells x).toArray ++ Builtin.zeroCells z.cells (cp - (sLen + conLen x))).size } : Pl)) d.v (.slice (some ⟨w.heap.size, 0, none⟩) (sLen + conLen x) cp) := fun dm hs => by
  rw [hdv, hlen]
  refine sl_D hs _ (by omega) hge (.inl ⟨?_, ?_⟩)
  ·rw [updP_same]; rfl
  ·rw [updP_same, hsz]; exact Nat.le_refl _
 rcases hws with hws | ⟨key, hk, hws⟩
 ·exact ⟨_, updP_keeps hn, hD _ (by rw [hws]; exact dm_new _ _ _), by rw [hws]; exact hal⟩
 ·exact ⟨_, updP_keeps hn, hD _ (by rw [hws]; exact dm_updH _ _ _ _ (dm_new _ _ _)), by rw [hws]; exact hal.gone key (dm_updH _ _ _ key hk)⟩

theorem append_sound {T T2 tyy : TypeId} {ti ti2 : TInfo} {ty : List (Nat × TInfo)} (hT : RowOk P T ti) (hT2 : RowOk P T2 ti2) (hty : tabB P ty = true) (hm : Mem w0 M ρ H w) {stamp : Nat} {s x : SV} {vs vx : Value} (hs : D (dmOf H) ρ s vs) (hx : D (dmOf H) ρ x vx)
  {d : Delta} {rs rs' : List Nat} (h : (appendOp ty stamp ti ti2 s x).run H rs = some (d, rs')) (hp : AllP d.pre) :
  ∃ v w', (Builtin.append_ #[T, T2] tyy #[vs, vx]).run P w = .ok v w' ∧ After w0 M ρ H d v w' := by
 unfold appendOp at h
 split at h
 ·rename_i te ht hte hsq
  have hTe := rowB_ok (tabB_row hty hte)
  obtain ⟨ie, z, hi1, hi2, hi3, hi4, hi5⟩ := hTe.info
  have hu := slice_of hT ht
  have hz1 : z.cells.size = ie.size := by rw [zeroB_size hi5, hi2]
  have h2 := noInt_of hT2 (show (match ti2.ty with | .slice => true | .str => true | _ => false) = true from hsq)
  split at h
  ·-- nil
   simp only [D] at hs
   subst hs
   split at h
   ·rename_i old hold
    obtain ⟨p, q, rs1, hw, hq⟩ := withCon_sound (P := P) hm hx h
    obtain ⟨r, hr, hb, hsz, hn, rfl⟩ := appendTo_run hw
    have hq := hq hp.2
    have hok : conOk old ∧ conLen old = 0 ∧ conCells old = [] := by
     unfold emptyCon at hold
     split at hold <;> simp only [Option.some.injEq, reduceCtorEq] at hold <;> subst hold
     ·exact ⟨fun z hz => by simp at hz, rfl, rfl⟩
     ·exact ⟨fun z hz => by simp at hz, rfl, rfl⟩
    obtain ⟨q1, q2, q3, q4, q5⟩ := conJoin_sound hr hok.1 hq.ok
    have hes : conSize q = ie.size := by rw [q5, ← hsz, hi2]
    rcases Nat.eq_zero_or_pos (conLen q) with h0 | h0
    ·have hc0 : conCells q = [] := List.eq_nil_of_length_eq_zero (by rw [conCells_length hq.ok, h0]; simp)
     refine ⟨_, w, append_room hu hi1 h2 hq hes (by omega) (fun a ha => by cases ha) (fun _ => rfl), updP ρ stamp ({ blk := 0, off := 0, cap := 0 } : Pl), updP_keeps hn, ?_, ?_⟩
     ·have : conLen r = 0 + conLen q := by rw [q3, hok.2.1]
      rw [this]
      exact sl_D (dm_new _ _ _) _ (by omega) (by omega) (.inr ⟨by omega, rfl⟩)
     ·exact hm.virtual hn (by have := segs_one (conRow_D (ρ := ρ) (dm := dmOf H) q1); rwa [q2, hok.2.2, hc0] at this)
    ·have hlr : conLen r = 0 + conLen q := by rw [q3, hok.2.1]
     have hb' : ((conLen r : Nat) : Int) * (ie.bytes : Int) ≤ 70368744177664 := by rw [hi3]; exact hp.1
     have hbn : (0 + conLen q) * ie.bytes ≤ 140737488355328 := by
      rw [← hlr]
      have : ((conLen r * ie.bytes : Nat) : Int) ≤ 70368744177664 := by simpa using hb'
      omega
     refine ⟨_, _, append_grow (xs := []) hu hi1 hi4 h2 hq hes (by omega) (by simp [Builtin.firstCells]) ?_ (growslice_fits (by omega) hbn), ?_⟩
     ·have : (0 + conLen q) * 1 ≤ (0 + conLen q) * ie.bytes := Nat.mul_le_mul_left _ (by omega)
      omega
     ·have := grow_after (e := ti.elem) (te := te) hm hn hz1 hr hok.1 hq.ok (by rw [← hsz, hi2]) (sLen := 0) (sCap := 0) hok.2.1.symm (by omega) (by omega) hb' (d := ⟨(((conLen r : Nat) : Int) * (te.bytes : Int) ≤ 70368744177664) :: p, _, _, true⟩) rfl (.inl rfl)
      rw [hok.2.2] at this
      exact this
   ·simp [RP.run] at h
  ·-- a row of the call's own
   rename_i key est len
   simp only [D] at hs
   obtain ⟨hk, ho, hl, hr0, ad, cap, rfl, hlc, hdis⟩ := hs
   simp only [RP.run] at h
   split at h
   ·rename_i g hkey
    split at h
    ·rename_i old hold
     split at h
     ·rename_i hest
      have hest := Nat.eq_of_beq_eq_true hest
      obtain ⟨p, q, rs1, hw, hq⟩ := withCon_sound (P := P) hm hx h
      obtain ⟨r, hr, hb, hsz, hn, rfl⟩ := appendTo_run hw
      have hq := hq hp.2.2
      have hlz := hp.2.1
      obtain ⟨vs, h1, h3, h4, h5⟩ := hm.segs hkey
      obtain ⟨c1, c2, e1, e2, e3⟩ := h1
      have e4 : c2 = [] := e3
      subst e4
      simp only [List.append_nil] at e2
      subst e2
      have hok : conOk old ∧ conCells old = vs ∧ conRow old = g := by
       cases g <;> simp only [rowCon, Option.some.injEq, reduceCtorEq] at hold <;> subst hold <;> exact ⟨e1.1, e1.2.symm, rfl⟩
      obtain ⟨q1, q2, q3, q4, q5⟩ := conJoin_sound hr hok.1 hq.ok
      have hes : conSize q = ie.size := by rw [q5, ← hsz, hi2]
      have hlen : len.z.toNat = conLen old := by omega
      have hcl := conCells_length hok.1
      have hlr : conLen r = len.z.toNat + conLen q := by rw [q3, hlen]
      have hb' : ((conLen r : Nat) : Int) * (ie.bytes : Int) ≤ 70368744177664 := by rw [hi3]; exact hp.1
      have hbn : (len.z.toNat + conLen q) * ie.bytes ≤ 140737488355328 := by
       rw [← hlr]; have : ((conLen r * ie.bytes : Nat) : Int) ≤ 70368744177664 := by simpa using hb'
       omega
      have hsmall : len.z.toNat + conLen q ≤ 140737488355328 := by
       have : (len.z.toNat + conLen q) * 1 ≤ (len.z.toNat + conLen q) * ie.bytes := Nat.mul_le_mul_left _ (by omega)
       omega
      rcases Nat.lt_or_ge cap (len.z.toNat + conLen q) with hroom | hroom
      ·-- it grows
       refine ⟨_, _, append_grow (xs := conCells old) hu hi1 hi4 h2 hq hes (by omega) ?_ (by omega) (growslice_fits (by omega) hbn), ?_⟩
       ·rcases hdis with ⟨rfl, hcap⟩ | ⟨d1, d2⟩
        ·refine firstCells_some _ _ _ _ _ _ (by rw [hcl, ← hsz, hi2, hlen]) (fun j u hu2 => ?_)
         rw [addr_add]
         rw [hok.2.1] at hu2
         have := h4 j u hu2
         simpa [at_] using this
        ·have : conCells old = [] := List.eq_nil_of_length_eq_zero (by rw [hcl, ← hlen, d1]; simp)
         rw [this, d1]
         cases ad <;> simp [Builtin.firstCells, loadCells, loadCellsFrom]
       ·exact grow_after (e := ti.elem) (te := te) hm hn hz1 hr hok.1 hq.ok (by rw [← hsz, hi2]) hlen (by omega) (by omega) hb' (d := ⟨(((conLen r : Nat) : Int) * (te.bytes : Int) ≤ 70368744177664) :: (len.z = ((conLen old : Nat) : Int)) :: p, _, _, true⟩) rfl (.inr ⟨key, by rw [hkey]; rfl, rfl⟩)
      ·rcases hdis with ⟨rfl, hcap⟩ | ⟨d1, d2⟩
       ·-- there is room
        have hcap' : conSize old * cap ≤ (ρ key).cap := by rw [← hest]; simpa using hcap
        have hfit : (conCells old).length + (conCells q).length ≤ (ρ key).cap := by
         rw [hcl, conCells_length hq.ok, q5, ← Nat.add_mul, Nat.mul_comm, ← hlen]
         exact Nat.le_trans (Nat.mul_le_mul_left _ hroom) hcap'
        have hclen : (conCells old).length = len.z.toNat * ie.size := by rw [hcl, ← hsz, hi2, hlen]
        have hth := h5 rfl
        have hst := run_storeCells_cells (P := P) (ρ key).blk ((ρ key).off + len.z.toNat * ie.size) (conCells q) 0 w
         (fun j hj => by have := (hth (len.z.toNat * ie.size + j) (by omega)).1; simpa [Nat.add_assoc] using this)
         (fun j hj => by have := (hth (len.z.toNat * ie.size + j) (by omega)).2; simpa [Nat.add_assoc] using this) conCells_one
        simp only [Nat.add_zero] at hst
        refine ⟨_, w.setCells (ρ key).blk ((ρ key).off + len.z.toNat * ie.size) (conCells q), append_room hu hi1 h2 hq hes hroom (fun a ha => ?_) (fun ha => by cases ha), ?_⟩
        ·simp only [Option.some.injEq] at ha
         subst ha
         rw [addr_add]
         simpa [at_] using hst
        ·have hmm := hm.store (nv := conCells q) (o := len.z.toNat * ie.size) (vs' := conCells r) (l' := [conRow r]) hkey h4 (by rw [← hok.2.1]; omega) (by omega) h3
          (by rw [← hok.2.1, ← hclen, List.take_length, List.drop_eq_nil_of_le (by omega), List.append_nil, q2]) (segs_one (conRow_D q1))
         have hn' : updH H key (.segs false [conRow r]) stamp = none := by
          rw [updH_ne]; exact hn
          intro e; rw [e, hkey] at hn; cases hn
         have hne : stamp ≠ key := fun e => by rw [e, hkey] at hn; cases hn
         have hre := hmm.rekey (new := stamp) (updH_same _ _ _) hn'
         rw [updH_over, updH_comm (Ne.symm hne)] at hre
         refine ⟨updP ρ stamp (ρ key), updP_keeps hn, ?_, hre⟩
         rw [hlr]
         refine sl_D (dm_updH _ _ _ _ (dm_new _ _ _)) _ (by omega) hroom (.inl ⟨?_, ?_⟩)
         ·rw [updP_same]; simp
         ·rw [updP_same, q4]; exact hcap'
       ·-- nothing to nothing
        have hq0 : conLen q = 0 := by omega
        have hc0 : conCells q = [] := List.eq_nil_of_length_eq_zero (by rw [conCells_length hq.ok, hq0]; simp)
        have ho0 : conCells old = [] := List.eq_nil_of_length_eq_zero (by rw [hcl, ← hlen, d1]; simp)
        refine ⟨_, w, append_room hu hi1 h2 hq hes hroom (fun a ha => by rw [hc0]; rfl) (fun _ => rfl), updP ρ stamp ({ blk := 0, off := 0, cap := 0 } : Pl), updP_keeps hn, ?_, ?_⟩
        ·rw [hlr]
         exact sl_D (dm_updH _ _ _ _ (dm_new _ _ _)) _ (by omega) hroom (.inr ⟨by omega, d2⟩)
        ·have hv := hm.virtual hn (by have := segs_one (conRow_D (ρ := ρ) (dm := dmOf H) q1); rwa [q2, ho0, hc0] at this)
         exact hv.gone key (dm_updH _ _ _ key (by rw [dmOf, hkey]; rfl))
     ·simp [RP.run] at h
    ·simp [RP.run] at h
   ·simp [RP.run] at h
  ·simp [RP.run] at h
 ·simp [RP.run] at h

end
end Go.Gx

/- append, of headers: rows of the call's own join a pool. -/
namespace Go.Gx
open Go.RowKit
set_option linter.unusedVariables false

section
variable {P : Program} {w0 : World} {M : Nat → Prop} {ρ : Nat → Pl} {H : Nat → Option SB} {w : World}

structure OneAt (P : Program) (w : World) (vx u : Value) : Prop where
 len : ∀ w' : World, (Builtin.lenOf vx).run P w' = .ok 1 w'
 cells : ∀ w' : World, (∀ a u, w.cell? a = some u → w'.cell? a = some u) → (Builtin.firstCells 1 1 vx).run P w' = .ok #[u] w'

theorem append_room1 {T T2 ty e : TypeId} {i : TypeInfo} (ht : P.underlying T = some (.slice e)) (hi : P.info? e = some i) (h2 : (∃ e, P.underlying T2 = some (.slice e)) ∨ P.underlying T2 = some .string) (hes : i.size = 1)
  {a : Addr} {sLen sCap : Nat} {v u : Value} (hq : OneAt P w v u) (hroom : sLen + 1 ≤ sCap) {w' : World}
  (hst : (storeCells (a.add sLen) [u]).run P w = .ok () w') :
  (Builtin.append_ #[T, T2] ty #[.slice (some a) sLen sCap, v]).run P w = .ok (.slice (some a) (sLen + 1) sCap) w' := by
 have hf := hq.cells w (fun _ _ h => h)
 have hl := hq.len
 rcases h2 with ⟨e2, h2⟩ | h2 <;> simp [Builtin.append_, run_underlying ht, run_underlying h2, sizeOf, typeInfo, hi, hl, hroom, hf, hst, hes]

theorem append_grow1 {T T2 ty e : TypeId} {i : TypeInfo} {z : Value} (ht : P.underlying T = some (.slice e)) (hi : P.info? e = some i) (hz0 : i.zero = some z) (h2 : (∃ e, P.underlying T2 = some (.slice e)) ∨ P.underlying T2 = some .string) (hes : i.size = 1)
  {base : Option Addr} {sLen sCap : Nat} {v u : Value} (hq : OneAt P w v u) (hroom : sCap < sLen + 1) {xs : List Value}
  (hold : (Builtin.firstCells 1 sLen (.slice base sLen sCap)).run P w.drew = .ok xs.toArray w.drew) (h63 : ((sLen + 1 : Nat) : Int) ≤ 9223372036854775807) (hfit : Builtin.nextslicecap (sLen + 1) sCap * i.bytes ≤ 281474976710656) :
  (Builtin.append_ #[T, T2] ty #[.slice base sLen sCap, v]).run P w = .ok (.slice (some ⟨w.heap.size, 0, none⟩) (sLen + 1) (grownCap w (sLen + 1) sCap e))
   (w.drew.alloc (.cells (xs.toArray ++ #[u] ++ Builtin.zeroCells z.cells (grownCap w (sLen + 1) sCap e - (sLen + 1))) e)) := by
 have hf := hq.cells w.drew (fun _ _ h => by simpa using h)
 have hl := hq.len
 have hn : ¬ (sLen + 1 ≤ sCap) := by omega
 have h63'' : ¬ (9223372036854775807 < ((sLen : Int) + 1)) := by omega
 have h48' : ¬ (281474976710656 < Builtin.nextslicecap (sLen + 1) sCap * i.bytes) := by omega
 rcases h2 with ⟨e2, h2⟩ | h2 <;> simp [Builtin.append_, run_underlying ht, run_underlying h2, sizeOf, typeInfo, zeroValue, hi, hz0, hl, hn, h63'', h48', Question.forced, hf, hold, newRow, grownCap, hes]

theorem HdrsD.one {dm : Nat → Prop} {key r n : Nat} {u : Value} (h : D dm ρ (.ps key r ⟨false, (n : Int)⟩) u) : HdrsD dm ρ key [(r, n)] [u] := ⟨u, [], h, rfl, rfl⟩

theorem dm_ps {dm : Nat → Prop} {key r : Nat} {n : SI} {u : Value} (h : D dm ρ (.ps key r n) u) : dm key := by simp only [D] at h; exact h.1

theorem appH_core {T T2 tyy : TypeId} {ti ti2 te : TInfo} {ty : List (Nat × TInfo)} (hT : RowOk P T ti) (ht : ti.ty = .slice) (hte : assoc ty ti.elem = some te) (hsl : te.ty = .slice) (hT2 : RowOk P T2 ti2) (hty : tabB P ty = true) (hsq : ti2.ty = .slice) (hb : 0 < te.bytes)
  (hm : Mem w0 M ρ H w) {stamp : Nat} (hn : H stamp = none) {pk r n : Nat} {u vx vs : Value} (hu : D (dmOf H) ρ (.ps pk r ⟨false, (n : Int)⟩) u) (hq : OneAt P w vx u) {hs : List (Nat × Nat)}
  (hpre : (((hs.length + 1 : Nat) : Int) * (te.bytes : Int)) ≤ 70368744177664)
  {gone : List (Nat × SB)} (hold : (vs = .slice none 0 0 ∧ hs = [] ∧ gone = []) ∨ ∃ key len, D (dmOf H) ρ (.sl key 0 1 ⟨true, 0⟩ len) vs ∧ H key = some (.segs false [.rowH pk hs]) ∧ len.z = (hs.length : Int) ∧ gone = [(key, .gone)]) :
  ∃ v w', (Builtin.append_ #[T, T2] tyy #[vs, vx]).run P w = .ok v w' ∧
   ∃ ρ', Ext H ρ ρ' ∧ D (dmOf (updsH H ((stamp, .segs false [.rowH pk (hs ++ [(r, n)])]) :: gone))) ρ' (.sl stamp 0 1 ⟨true, 0⟩ ⟨false, ((hs.length + 1 : Nat) : Int)⟩) v ∧ Mem w0 M ρ' (updsH H ((stamp, .segs false [.rowH pk (hs ++ [(r, n)])]) :: gone)) w' := by
 have hTe := rowB_ok (tabB_row hty hte)
 obtain ⟨ie, z, hi1, hi2, hi3, hi4, hi5⟩ := hTe.info
 have hU := slice_of hT ht
 have hes : ie.size = 1 := by rw [hi2, hsl]; rfl
 have hz1 : z.cells.size = 1 := by rw [zeroB_size hi5, hsl]; rfl
 have h2 := noInt_of hT2 (show (match ti2.ty with | .slice => true | .str => true | _ => false) = true by rw [hsq])
 have hb' : ((hs.length + 1 : Nat) : Int) * (ie.bytes : Int) ≤ 70368744177664 := by rw [hi3]; exact hpre
 have hbn : (hs.length + 1) * ie.bytes ≤ 140737488355328 := by
  have : (((hs.length + 1) * ie.bytes : Nat) : Int) ≤ 70368744177664 := by simpa using hb'
  omega
 have hbb : 0 < ie.bytes := by rw [hi3]; exact hb
 have hsmall : hs.length + 1 ≤ 140737488355328 := by
  have : (hs.length + 1) * 1 ≤ (hs.length + 1) * ie.bytes := Nat.mul_le_mul_left _ (by omega)
  omega
 have hpk := dm_ps hu
 have grow : ∀ (cs : List Value) (sCap : Nat), HdrsD (dmOf H) ρ pk hs cs → sCap < hs.length + 1 → ∀ G : List (Nat × SB), (G = [] ∨ ∃ key, (H key).isSome = true ∧ G = [(key, .gone)]) →
   ∃ ρ', Ext H ρ ρ' ∧ D (dmOf (updsH H ((stamp, .segs false [.rowH pk (hs ++ [(r, n)])]) :: G))) ρ' (.sl stamp 0 1 ⟨true, 0⟩ ⟨false, ((hs.length + 1 : Nat) : Int)⟩) (.slice (some ⟨w.heap.size, 0, none⟩) (hs.length + 1) (grownCap w (hs.length + 1) sCap ti.elem)) ∧
    Mem w0 M ρ' (updsH H ((stamp, .segs false [.rowH pk (hs ++ [(r, n)])]) :: G)) (w.drew.alloc (.cells (cs.toArray ++ #[u] ++ Builtin.zeroCells z.cells (grownCap w (hs.length + 1) sCap ti.elem - (hs.length + 1))) ti.elem)) := by
  intro cs sCap hcs hlt G hG
  have hge := grownCap_ge w (hs.length + 1) sCap ti.elem
  generalize grownCap w (hs.length + 1) sCap ti.elem = cp at *
  have hal := (hm.drew (w.drawn + 1)).alloc hn (segs_one (dm := dmOf H) (ρ := ρ) (g := .rowH pk (hs ++ [(r, n)])) (cs := cs ++ [u]) ⟨hpk, hcs.append (HdrsD.one hu)⟩) (cells := cs.toArray ++ #[u] ++ Builtin.zeroCells z.cells (cp - (hs.length + 1)))
   (T := ti.elem) (fr := (0, 0)) (extra := (Builtin.zeroCells z.cells (cp - (hs.length + 1))).toList) (by simp) (.inl rfl)
  have hsz : (cs.toArray ++ #[u] ++ Builtin.zeroCells z.cells (cp - (hs.length + 1))).size = cp := by
   have := hcs.len
   simp only [Array.size_append, List.size_toArray, Builtin.zeroCells, Array.size_map, Array.size_range, hz1]
   simp
   omega
  have hDD : ∀ (dm : Nat → Prop), dm stamp → D dm (updP ρ stamp ({ blk := w.drew.heap.size, off := 0, cap := (cs.toArray ++ #[u] ++ Builtin.zeroCells z.cells (cp - (hs.length + 1))).size } : Pl)) (.sl stamp 0 1 ⟨true, 0⟩ ⟨false, ((hs.length + 1 : Nat) : Int)⟩) (.slice (some ⟨w.heap.size, 0, none⟩) (hs.length + 1) cp) := fun dm hs' => by
   refine sl_D hs' _ (by omega) hge (.inl ⟨?_, ?_⟩)
   ·rw [updP_same]; rfl
   ·rw [updP_same, hsz]; show 1 * cp ≤ cp; omega
  rcases hG with rfl | ⟨key, hk, rfl⟩
  ·exact ⟨_, updP_keeps hn, hDD _ (dm_new _ _ _), hal⟩
  ·exact ⟨_, updP_keeps hn, hDD _ (dm_updH _ _ _ _ (dm_new _ _ _)), hal.gone key (dm_updH _ _ _ key hk)⟩
 rcases hold with ⟨rfl, rfl, rfl⟩ | ⟨key, len, hD, hkey, hlz, rfl⟩
 ·refine ⟨_, _, append_grow1 (xs := []) hU hi1 hi4 h2 hes hq (by omega) (by simp [Builtin.firstCells]) (by omega) (growslice_fits (by omega) (by simpa using hbn)), ?_⟩
  exact grow [] 0 rfl (by simp) [] (.inl rfl)
 ·simp only [D] at hD
  obtain ⟨hk, ho, hl, hr0, ad, cap, rfl, hlc, hdis⟩ := hD
  have hlen : len.z.toNat = hs.length := by omega
  rw [hlen] at hlc ⊢
  obtain ⟨vs, h1, h3, h4, h5⟩ := hm.segs hkey
  obtain ⟨c1, c2, ⟨_, e1⟩, rfl, e3⟩ := h1
  have e4 : c2 = [] := e3
  subst e4
  simp only [List.append_nil] at h3 h4
  have hcl := e1.len
  rcases Nat.lt_or_ge cap (hs.length + 1) with hroom | hroom
  ·refine ⟨_, _, append_grow1 (xs := c1) hU hi1 hi4 h2 hes hq (by omega) ?_ (by omega) (growslice_fits (by omega) hbn), ?_⟩
   ·rcases hdis with ⟨rfl, hcap⟩ | ⟨d1, d2⟩
    ·refine firstCells_some _ _ _ _ _ _ (by rw [hcl]; omega) (fun j u hu2 => ?_)
     rw [addr_add]
     have := h4 j u hu2
     simpa [at_] using this
    ·have h0 : hs.length = 0 := by omega
     have : c1 = [] := List.eq_nil_of_length_eq_zero (by omega)
     rw [this, h0]
     cases ad <;> simp [Builtin.firstCells, loadCells, loadCellsFrom]
   ·exact grow c1 cap e1 (by omega) _ (.inr ⟨key, by rw [hkey]; rfl, rfl⟩)
  ·rcases hdis with ⟨rfl, hcap⟩ | ⟨d1, d2⟩
   ·have hcap' : cap ≤ (ρ key).cap := by simpa using hcap
    have hth := h5 rfl
    have hone : ∀ v ∈ [u], v.oneCell' = true := fun v hv => by
     simp only [List.mem_singleton] at hv; subst hv
     exact (single_cell rfl hu).1
    have hst := run_storeCells_cells (P := P) (ρ key).blk ((ρ key).off + hs.length) [u] 0 w
     (fun j hj => by have := (hth (hs.length + j) (by simp at hj; omega)).1; simpa [Nat.add_assoc] using this)
     (fun j hj => by have := (hth (hs.length + j) (by simp at hj; omega)).2; simpa [Nat.add_assoc] using this) hone
    simp only [Nat.add_zero] at hst
    refine ⟨_, w.setCells (ρ key).blk ((ρ key).off + hs.length) [u], append_room1 hU hi1 h2 hes hq hroom ?_, ?_⟩
    ·rw [addr_add]
     simpa [at_] using hst
    ·have hmm := hm.store (nv := [u]) (o := hs.length) (vs' := c1 ++ [u]) (l' := [.rowH pk (hs ++ [(r, n)])]) hkey h4 (by omega) (by simp; omega) h3
      (by rw [← hcl, List.take_length, List.drop_eq_nil_of_le (by omega), List.append_nil]) (segs_one ⟨hpk, e1.append (HdrsD.one hu)⟩)
     have hn' : updH H key (.segs false [.rowH pk (hs ++ [(r, n)])]) stamp = none := by
      rw [updH_ne]; exact hn
      intro e; rw [e, hkey] at hn; cases hn
     have hne : stamp ≠ key := fun e => by rw [e, hkey] at hn; cases hn
     have hre := hmm.rekey (new := stamp) (updH_same _ _ _) hn'
     rw [updH_over, updH_comm (Ne.symm hne)] at hre
     refine ⟨updP ρ stamp (ρ key), updP_keeps hn, ?_, hre⟩
     refine sl_D (dm_updH _ _ _ _ (dm_new _ _ _)) _ (by omega) hroom (.inl ⟨?_, ?_⟩)
     ·rw [updP_same]; simp
     ·rw [updP_same]; simpa using hcap'
   ·omega

theorem one_at (hm : Mem w0 M ρ H w) {kx : Nat} {ro : Bool} {y : SV} {vx : Value} (hx : D (dmOf H) ρ (.sl kx 0 1 ⟨true, .ofNat 0⟩ ⟨true, .ofNat 1⟩) vx) (hk : H kx = some (.segs ro [.one y])) : ∃ u, D (dmOf H) ρ y u ∧ OneAt P w vx u := by
 simp only [D] at hx
 obtain ⟨_, _, _, _, ad, cap, rfl, hlc, hdis⟩ := hx
 obtain ⟨vs, h1, h2, h3, h4⟩ := hm.segs hk
 obtain ⟨c1, c2, ⟨_, u, hu, rfl⟩, rfl, e3⟩ := h1
 have e4 : c2 = [] := e3
 subst e4
 rcases hdis with ⟨rfl, hcap⟩ | ⟨h0, _⟩
 ·refine ⟨u, hu, fun w' => rfl, fun w' hw' => ?_⟩
  refine firstCells_some 1 1 _ _ _ [u] (by simp) (fun j v hv => hw' _ _ ?_)
  rw [addr_add]
  have := h3 j v (by simpa using hv)
  simpa [at_] using this
 ·exact absurd h0 (by decide)

theorem appHdr_sound {stamp : Nat} {te : TInfo} {old : Option (Nat × List (Nat × Nat))} {y : SV} {gone : List (Nat × SB)} {pre : List Prop} {d : Delta} {rs rs' : List Nat} (hm : Mem w0 M ρ H w) {u : Value} (hu : D (dmOf H) ρ y u) (hgone : ∀ k b, (k, b) ∈ gone → (H k).isSome = true)
  (h : (appHdr stamp te old y gone pre).run H rs = some (d, rs')) :
  ∃ (pk : Nat) (hs : List (Nat × Nat)) (r n : Nat) (ws : List (Nat × SB)) (ρ1 : Nat → Pl), 0 < te.bytes ∧ (old = none ∧ hs = [] ∨ old = some (pk, hs)) ∧ updsH H ws stamp = none ∧ (∀ k, k ∉ keysOf ws → updsH H ws k = H k) ∧
   (∀ k pk' hs', H k = some (.segs false [.rowH pk' hs']) → k ∉ keysOf ws) ∧ Ext H ρ ρ1 ∧ Mem w0 M ρ1 (updsH H ws) w ∧ D (dmOf (updsH H ws)) ρ1 (.ps pk r ⟨false, (n : Int)⟩) u ∧ (∀ k, dmOf H k → dmOf (updsH H ws) k) ∧
   d = ⟨((((hs.length + 1 : Nat) : Int) * (te.bytes : Int)) ≤ 70368744177664) :: pre, .sl stamp 0 1 ⟨true, 0⟩ ⟨false, ((hs.length + 1 : Nat) : Int)⟩, ws ++ ((stamp, .segs false [.rowH pk (hs ++ [(r, n)])]) :: gone), true⟩ := by
 have fin : ∀ (pk : Nat) (hs : List (Nat × Nat)) (r n : Nat) (ws : List (Nat × SB)) (rs0 : List Nat), (appH stamp te pk hs r n ws gone pre).run H rs0 = some (d, rs') → 0 < te.bytes ∧ H stamp = none ∧
   d = ⟨((((hs.length + 1 : Nat) : Int) * (te.bytes : Int)) ≤ 70368744177664) :: pre, .sl stamp 0 1 ⟨true, 0⟩ ⟨false, ((hs.length + 1 : Nat) : Int)⟩, ws ++ ((stamp, .segs false [.rowH pk (hs ++ [(r, n)])]) :: gone), true⟩ := by
  intro pk hs r n ws rs0 h
  unfold appH at h
  split at h
  ·rename_i hb
   simp only [RP.run] at h
   split at h
   ·rename_i hn
    refine ⟨?_, hn, run_ret h⟩
    simp [Nat.blt] at hb; omega
   ·simp [RP.run] at h
  ·simp [RP.run] at h
 have plain : ∀ (pk : Nat) (r : Nat) (len : SI) (rs0 : List Nat), D (dmOf H) ρ (.ps pk r len) u → (match old with
   | none => appH stamp te pk [] r len.z.toNat [] gone pre
   | some (pk', hs) => (match Nat.beq pk pk' with | true => appH stamp te pk hs r len.z.toNat [] gone pre | false => .fail)).run H rs0 = some (d, rs') →
   ∃ (pk : Nat) (hs : List (Nat × Nat)) (r n : Nat) (ws : List (Nat × SB)) (ρ1 : Nat → Pl), 0 < te.bytes ∧ (old = none ∧ hs = [] ∨ old = some (pk, hs)) ∧ updsH H ws stamp = none ∧ (∀ k, k ∉ keysOf ws → updsH H ws k = H k) ∧
   (∀ k pk' hs', H k = some (.segs false [.rowH pk' hs']) → k ∉ keysOf ws) ∧ Ext H ρ ρ1 ∧ Mem w0 M ρ1 (updsH H ws) w ∧ D (dmOf (updsH H ws)) ρ1 (.ps pk r ⟨false, (n : Int)⟩) u ∧ (∀ k, dmOf H k → dmOf (updsH H ws) k) ∧
   d = ⟨((((hs.length + 1 : Nat) : Int) * (te.bytes : Int)) ≤ 70368744177664) :: pre, .sl stamp 0 1 ⟨true, 0⟩ ⟨false, ((hs.length + 1 : Nat) : Int)⟩, ws ++ ((stamp, .segs false [.rowH pk (hs ++ [(r, n)])]) :: gone), true⟩ := by
  clear h
  intro pk r len rs0 hD h
  have hD' : D (dmOf H) ρ (.ps pk r ⟨false, (len.z.toNat : Int)⟩) u := by
   simp only [D] at hD ⊢
   have : ((len.z.toNat : Nat) : Int) = len.z := by omega
   rw [this]; exact hD
  split at h
  ·obtain ⟨a1, a2, a3⟩ := fin _ _ _ _ _ _ h
   exact ⟨pk, [], r, len.z.toNat, [], ρ, a1, .inl ⟨rfl, rfl⟩, a2, fun _ _ => rfl, fun _ _ _ _ h => (by cases h), Ext.refl _ _, hm, hD', fun _ h => h, a3⟩
  ·rename_i pk' hs
   split at h
   ·rename_i hb
    have e := Nat.eq_of_beq_eq_true hb
    subst e
    obtain ⟨a1, a2, a3⟩ := fin _ _ _ _ _ _ h
    exact ⟨pk, hs, r, len.z.toNat, [], ρ, a1, .inr rfl, a2, fun _ _ => rfl, fun _ _ _ _ h => (by cases h), Ext.refl _ _, hm, hD', fun _ h => h, a3⟩
   ·simp [RP.run] at h
 unfold appHdr at h
 split at h
 ·rename_i pk r len
  exact plain pk r len rs hu h
 ·rename_i kf len
  have hu0 := hu
  simp only [D] at hu
  obtain ⟨hk, _, hl, hr, ad, cap, rfl, hlc, hdis⟩ := hu
  have hz : ((len.z.toNat : Nat) : Int) = len.z := by omega
  simp only [RP.run] at h
  split at h
  ·rename_i pk r hkf
   obtain ⟨b1, b2, b3, b4, b5⟩ : BlkD (dmOf H) ρ w kf (.alias pk r) := hm.heap.blk kf _ hkf
   refine plain pk r len _ ?_ h
   simp only [D]
   refine ⟨b1, b2, hl, hr, ad, cap, rfl, hlc, ?_⟩
   rcases hdis with ⟨rfl, hcap⟩ | h0
   ·exact .inl ⟨by simp [at_, b3, b4], by rw [← b5]; simpa using hcap⟩
   ·exact .inr h0
  ·rename_i k l hkf
   -- the slice as a row of the pool
   have key : ∀ (ρ2 : Nat → Pl) (H2 : Nat → Option SB) (pk : Nat) (ms : List (List Int)), (ρ2 = ρ ∨ ∃ p, ρ2 = updP ρ pk p) → ρ2 kf = ρ kf → Mem w0 M ρ2 H2 w → H2 pk = some (.pool k ms) → H2 kf = some (.segs false [.rowI k l]) →
     D (dmOf (updH (updH H2 pk (.pool k (ms ++ [l]))) kf (.alias pk ms.length))) (updP ρ2 pk (joinP (ρ2 pk) (ρ2 kf))) (.ps pk ms.length ⟨false, (len.z.toNat : Int)⟩) (.slice ad len.z.toNat cap) := by
    intro ρ2 H2 pk ms _ hkf2 hm2 h2p h2f
    have hne : pk ≠ kf := fun e => by rw [e, h2f] at h2p; cases h2p
    have hP := hm2.pools.pool pk k ms h2p
    simp only [D]
    refine ⟨?_, ?_, by omega, by rw [hz]; exact hr, ad, cap, by rw [hz], by rw [hz]; exact hlc, ?_⟩
    ·unfold dmOf; rw [updH_ne hne, updH_same]; rfl
    ·rw [updP_same]; show ms.length < (ρ2 pk).pn + 1; rw [hP.cnt]; omega
    ·rw [hz]
     rcases hdis with ⟨rfl, hcap⟩ | h0
     ·refine .inl ⟨?_, ?_⟩
      ·rw [updP_same]; simp [joinP, hP.cnt, hkf2, at_]
      ·rw [updP_same]; simp [joinP, hP.cnt, hkf2]; simpa using hcap
     ·exact .inr h0
   split at h
   ·-- a new pool
    simp only [RP.run] at h
    split at h
    ·rename_i hnew
     obtain ⟨a1, a2, a3⟩ := fin _ _ _ _ _ _ h
     have hne : kf ≠ stamp + 500000 := fun e => by rw [← e, hkf] at hnew; cases hnew
     have hm2 := hm.pool_new hnew k rfl
     have e1 : updH H (stamp + 500000) (.pool k []) (stamp + 500000) = some (.pool k []) := updH_same _ _ _
     have e2 : updH H (stamp + 500000) (.pool k []) kf = some (.segs false [.rowI k l]) := by rw [updH_ne hne]; exact hkf
     obtain ⟨hm3, hle⟩ := hm2.pool_join e1 e2
     have hk3 := key _ _ _ _ (.inr ⟨_, rfl⟩) (updP_ne hne) hm2 e1 e2
     rw [updH_over] at hm3 hk3
     simp only [List.nil_append, List.length_nil] at hm3 hk3
     have hst : stamp ≠ stamp + 500000 := by omega
     have hst2 : stamp ≠ kf := fun e => by rw [e, hkf] at a2; cases a2
     refine ⟨stamp + 500000, [], 0, len.z.toNat, [(stamp + 500000, .pool k [l]), (kf, .alias (stamp + 500000) 0)], _, a1, .inl ⟨rfl, rfl⟩, ?_, ?_, ?_, ?_, hm3, hk3, fun a ha => dm_updH _ _ _ a (dm_updH _ _ _ a ha), a3⟩
     ·show updH (updH H _ _) kf _ stamp = none
      rw [updH_ne hst2, updH_ne hst]; exact a2
     ·intro a ha
      simp only [keysOf, List.mem_cons, List.not_mem_nil, or_false, not_or] at ha
      show updH (updH H _ _) kf _ a = _
      rw [updH_ne ha.2, updH_ne ha.1]
     ·intro a pk' hs' ha hm'
      simp only [keysOf, List.mem_cons, List.not_mem_nil, or_false] at hm'
      rcases hm' with rfl | rfl
      ·rw [hnew] at ha; cases ha
      ·rw [hkf] at ha; simp at ha
     ·intro a ha
      exact (updP_keeps hnew a ha).trans (hle a)
    ·simp [RP.run] at h
   ·rename_i pk hs
    simp only [RP.run] at h
    split at h
    ·rename_i k' ms hpk
     split at h
     ·rename_i hkk
      have hkk := keq_eq hkk
      subst hkk
      obtain ⟨a1, a2, a3⟩ := fin _ _ _ _ _ _ h
      obtain ⟨hm3, hle⟩ := hm.pool_join hpk hkf
      have hk3 := key _ _ _ _ (.inl rfl) rfl hm hpk hkf
      have hst : stamp ≠ pk := fun e => by rw [e, hpk] at a2; cases a2
      have hst2 : stamp ≠ kf := fun e => by rw [e, hkf] at a2; cases a2
      refine ⟨pk, hs, ms.length, len.z.toNat, [(pk, .pool k' (ms ++ [l])), (kf, .alias pk ms.length)], _, a1, .inr rfl, ?_, ?_, ?_, (fun a _ => hle a), hm3, hk3, fun a ha => dm_updH _ _ _ a (dm_updH _ _ _ a ha), a3⟩
      ·show updH (updH H _ _) kf _ stamp = none
       rw [updH_ne hst2, updH_ne hst]; exact a2
      ·intro a ha
       simp only [keysOf, List.mem_cons, List.not_mem_nil, or_false, not_or] at ha
       show updH (updH H _ _) kf _ a = _
       rw [updH_ne ha.2, updH_ne ha.1]
      ·intro a pk' hs' ha hm'
       simp only [keysOf, List.mem_cons, List.not_mem_nil, or_false] at hm'
       rcases hm' with rfl | rfl
       ·rw [hpk] at ha; cases ha
       ·rw [hkf] at ha; simp at ha
     ·simp [RP.run] at h
    ·simp [RP.run] at h
  ·simp [RP.run] at h
 ·simp [RP.run] at h

theorem onesN_len {dm : Nat → Prop} : ∀ (l : List Seg) (cs : List Value) (n : Nat), onesN l = some n → SegsD dm ρ l cs → cs.length = n
 | [], cs, n, h, hd => by
  simp only [onesN, Option.some.injEq] at h
  rw [show cs = [] from hd, ← h]; rfl
 | .one x :: r, cs, n, h, hd => by
  simp only [onesN] at h
  split at h
  ·rename_i m hm
   obtain ⟨c1, c2, ⟨_, v, _, rfl⟩, rfl, h3⟩ := hd
   simp only [Option.some.injEq] at h
   rw [List.length_append, onesN_len r c2 m hm h3, ← h]; simp; omega
  ·cases h
 | .arr .. :: r, cs, n, h, hd => by simp [onesN] at h
 | .rowI .. :: r, cs, n, h, hd => by simp [onesN] at h
 | .rowA .. :: r, cs, n, h, hd => by simp [onesN] at h
 | .rowH .. :: r, cs, n, h, hd => by simp [onesN] at h

theorem segs_snoc {dm : Nat → Prop} {g : Seg} {c : List Value} (hg : SegD dm ρ g c) : ∀ (l : List Seg) (cs : List Value), SegsD dm ρ l cs → SegsD dm ρ (l ++ [g]) (cs ++ c)
 | [], cs, h => by
  rw [show cs = [] from h]
  exact segs_one hg
 | x :: r, cs, h => by
  obtain ⟨c1, c2, h1, rfl, h3⟩ := h
  exact ⟨c1, c2 ++ c, h1, by simp, segs_snoc hg r c2 h3⟩

theorem one_ro (hm : Mem w0 M ρ H w) {kx : Nat} {k : IntKind} {d0 : RO} {vx : Value} (hx : D (dmOf H) ρ (.ro kx (.l (.ints k)) (.r [d0])) vx) (hk : H kx = some .world) : ∃ u, D (dmOf H) ρ (.ro kx (.ints k) d0) u ∧ OneAt P w vx u := by
 simp only [D] at hx
 obtain ⟨hdm, hrel, _, _⟩ := hx
 have hr := hm.view kx hk
 rw [hr] at hrel
 simp only [RoD, roX] at hrel
 obtain ⟨a, cap, cs, rfl, hcap, _, ⟨u, c, hu, rfl, hc⟩, hdis⟩ := hrel
 have hc : c = [] := hc
 subst hc
 have hD := svOf_D (dm := dmOf H) hdm hr (.ints k) d0 u hu
 have hD : D (dmOf H) ρ (.ro kx (.ints k) d0) u := hD
 have hcells := (single_cell (x := .ro kx (.ints k) d0) rfl hD).2
 refine ⟨u, hD, ?_⟩
 rcases hdis with ⟨b, o, rfl, hb, hr2⟩ | ⟨h0, _⟩
 ·refine ⟨fun w' => rfl, fun w' hw' => ?_⟩
  refine firstCells_some 1 1 _ _ _ [u] (by simp) (fun j v hv => hw' _ _ ?_)
  have h3 := hm.keeps.range hb hr2 j v (by rw [hcells]; simpa using hv)
  have hadd : (⟨b, o, none⟩ : Addr).add j = ⟨b, o + j, none⟩ := by by_cases h : j = 0 <;> simp [Addr.add, h]
  rw [hadd]; exact h3
 ·simp at h0

theorem appS_core {T T2 tyy : TypeId} {ti ti2 te : TInfo} {ty : List (Nat × TInfo)} (hT : RowOk P T ti) (ht : ti.ty = .slice) (hte : assoc ty ti.elem = some te) (hsl : te.ty = .slice) (hT2 : RowOk P T2 ti2) (hty : tabB P ty = true) (hsq : ti2.ty = .slice) (hb : 0 < te.bytes)
  (hm : Mem w0 M ρ H w) {stamp : Nat} (hn : H stamp = none) {y : SV} {u vx vs : Value} (hu : D (dmOf H) ρ y u) (hsy : single y = true) (hq : OneAt P w vx u) {l : List Seg} {n key : Nat}
  (hpre : (n + 1) * te.bytes ≤ 1000000) (hD : D (dmOf H) ρ (.sl key 0 1 ⟨true, 0⟩ ⟨true, (n : Int)⟩) vs) (hkey : H key = some (.segs false l)) (hln : onesN l = some n) :
  ∃ v w', (Builtin.append_ #[T, T2] tyy #[vs, vx]).run P w = .ok v w' ∧
   ∃ ρ', Ext H ρ ρ' ∧ D (dmOf (updsH H [(stamp, .segs false (l ++ [.one y])), (key, .gone)])) ρ' (.sl stamp 0 1 ⟨true, 0⟩ ⟨true, ((n + 1 : Nat) : Int)⟩) v ∧ Mem w0 M ρ' (updsH H [(stamp, .segs false (l ++ [.one y])), (key, .gone)]) w' := by
 have hTe := rowB_ok (tabB_row hty hte)
 obtain ⟨ie, z, hi1, hi2, hi3, hi4, hi5⟩ := hTe.info
 have hU := slice_of hT ht
 have hes : ie.size = 1 := by rw [hi2, hsl]; rfl
 have hz1 : z.cells.size = 1 := by rw [zeroB_size hi5, hsl]; rfl
 have h2 := noInt_of hT2 (show (match ti2.ty with | .slice => true | .str => true | _ => false) = true by rw [hsq])
 have hbn : (n + 1) * ie.bytes ≤ 140737488355328 := by rw [hi3]; omega
 have hbb : 0 < ie.bytes := by rw [hi3]; exact hb
 have hsmall : n + 1 ≤ 140737488355328 := by
  have : (n + 1) * 1 ≤ (n + 1) * ie.bytes := Nat.mul_le_mul_left _ (by omega)
  omega
 have hu1 : SegD (dmOf H) ρ (.one y) [u] := ⟨hsy, u, hu, rfl⟩
 simp only [D] at hD
 obtain ⟨hk, ho, hl, hr0, ad, cap, rfl, hlc, hdis⟩ := hD
 have hlen : ((n : Int)).toNat = n := by omega
 rw [hlen] at hlc ⊢
 obtain ⟨c1, e1, h3, h4, h5⟩ := hm.segs hkey
 have hcl := onesN_len l c1 n hln e1
 have hkS : (H key).isSome = true := by rw [hkey]; rfl
 have hne : stamp ≠ key := fun e => by rw [e, hkey] at hn; cases hn
 rcases Nat.lt_or_ge cap (n + 1) with hroom | hroom
 ·refine ⟨_, _, append_grow1 (xs := c1) hU hi1 hi4 h2 hes hq (by omega) ?_ (by omega) (growslice_fits (by omega) hbn), ?_⟩
  ·rcases hdis with ⟨rfl, hcap⟩ | ⟨d1, d2⟩
   ·refine firstCells_some _ _ _ _ _ _ (by rw [hcl]; omega) (fun j u hu2 => ?_)
    rw [addr_add]
    have := h4 j u hu2
    simpa [at_] using this
   ·have h0 : n = 0 := by omega
    have : c1 = [] := List.eq_nil_of_length_eq_zero (by omega)
    rw [this, h0]
    cases ad <;> simp [Builtin.firstCells, loadCells, loadCellsFrom]
  ·have hge := grownCap_ge w (n + 1) cap ti.elem
   generalize grownCap w (n + 1) cap ti.elem = cp at *
   have hal := (hm.drew (w.drawn + 1)).alloc hn (segs_snoc hu1 l c1 e1) (cells := c1.toArray ++ #[u] ++ Builtin.zeroCells z.cells (cp - (n + 1)))
    (T := ti.elem) (fr := (0, 0)) (extra := (Builtin.zeroCells z.cells (cp - (n + 1))).toList) (by simp) (.inl rfl)
   have hsz : (c1.toArray ++ #[u] ++ Builtin.zeroCells z.cells (cp - (n + 1))).size = cp := by
    simp only [Array.size_append, List.size_toArray, Builtin.zeroCells, Array.size_map, Array.size_range, hz1]
    simp
    omega
   refine ⟨_, updP_keeps hn, ?_, hal.gone key (dm_updH _ _ _ key hkS)⟩
   refine sl_D (es := 1) (dm_updH _ _ _ _ (dm_new _ _ _)) _ (by omega) hge (.inl ⟨?_, ?_⟩)
   ·rw [updP_same]; rfl
   ·rw [updP_same, hsz]; show 1 * cp ≤ cp; omega
 ·rcases hdis with ⟨rfl, hcap⟩ | ⟨d1, d2⟩
  ·have hcap' : cap ≤ (ρ key).cap := by simpa using hcap
   have hth := h5 rfl
   have hone : ∀ v ∈ [u], v.oneCell' = true := fun v hv => by
    simp only [List.mem_singleton] at hv; subst hv
    exact (single_cell hsy hu).1
   have hst := run_storeCells_cells (P := P) (ρ key).blk ((ρ key).off + n) [u] 0 w
    (fun j hj => by have := (hth (n + j) (by simp at hj; omega)).1; simpa [Nat.add_assoc] using this)
    (fun j hj => by have := (hth (n + j) (by simp at hj; omega)).2; simpa [Nat.add_assoc] using this) hone
   simp only [Nat.add_zero] at hst
   refine ⟨_, w.setCells (ρ key).blk ((ρ key).off + n) [u], append_room1 hU hi1 h2 hes hq hroom ?_, ?_⟩
   ·rw [addr_add]
    simpa [at_] using hst
   ·have hmm := hm.store (nv := [u]) (o := n) (vs' := c1 ++ [u]) (l' := l ++ [.one y]) hkey h4 (by omega) (by simp; omega) h3
     (by rw [← hcl, List.take_length, List.drop_eq_nil_of_le (by omega), List.append_nil]) (segs_snoc hu1 l c1 e1)
    have hn' : updH H key (.segs false (l ++ [.one y])) stamp = none := by
     rw [updH_ne]; exact hn
     intro e; rw [e, hkey] at hn; cases hn
    have hre := hmm.rekey (new := stamp) (updH_same _ _ _) hn'
    rw [updH_over, updH_comm (Ne.symm hne)] at hre
    refine ⟨updP ρ stamp (ρ key), updP_keeps hn, ?_, hre⟩
    refine sl_D (es := 1) (dm_updH _ _ _ _ (dm_new _ _ _)) _ (by omega) hroom (.inl ⟨?_, ?_⟩)
    ·rw [updP_same]; simp
    ·rw [updP_same]; simpa using hcap'
  ·omega

theorem updsH_append (H : Nat → Option SB) : ∀ (a b : List (Nat × SB)), updsH H (a ++ b) = updsH (updsH H a) b
 | [], b => rfl
 | (k, x) :: r, b => by simp only [List.cons_append, updsH]; exact updsH_append _ r b

theorem appendH_sound {T T2 tyy : TypeId} {ti ti2 te : TInfo} {ty : List (Nat × TInfo)} (hT : RowOk P T ti) (ht : ti.ty = .slice) (hte : assoc ty ti.elem = some te) (hsl : te.ty = .slice) (hT2 : RowOk P T2 ti2) (hty : tabB P ty = true) (hsq : ti2.ty = .slice)
  (hm : Mem w0 M ρ H w) {stamp : Nat} {s x : SV} {vs vx : Value} (hs : D (dmOf H) ρ s vs) (hx : D (dmOf H) ρ x vx) {d : Delta} {rs rs' : List Nat} (h : (appendHOp stamp te s x).run H rs = some (d, rs')) (hp : AllP d.pre) :
  ∃ v w', (Builtin.append_ #[T, T2] tyy #[vs, vx]).run P w = .ok v w' ∧ After w0 M ρ H d v w' := by
 unfold appendHOp at h
 split at h
 ·rename_i kx k d0
  unfold appSOp at h
  split at h
  ·rename_i key n
   simp only [RP.run] at h
   split at h
   ·rename_i hkx
    simp only [RP.run] at h
    split at h
    ·rename_i l hkey
     split at h
     ·rename_i m hln
      split at h
      ·rename_i hb
       simp only [Bool.and_eq_true] at hb
       have hmn := Nat.eq_of_beq_eq_true hb.1.1
       subst hmn
       have hb1 : 0 < te.bytes := by have := hb.1.2; simp [Nat.blt] at this; omega
       have hb2 := Nat.le_of_ble_eq_true hb.2
       simp only [RP.run] at h
       split at h
       ·rename_i hn
        have e := run_ret h
        subst e
        obtain ⟨u, hu, hone⟩ := one_ro (P := P) hm hx hkx
        obtain ⟨v, w', q1, ρ', q2, q3, q4⟩ := appS_core (tyy := tyy) hT ht hte hsl hT2 hty hsq hb1 hm hn hu rfl hone hb2 hs hkey hln
        refine ⟨v, w', q1, ρ', q2, ?_, q4⟩
        have e : litI (Int.ofNat (m + 1)) = ((m + 1 : Nat) : Int) := litI_eq _
        show D _ _ (.sl stamp 0 1 ⟨true, 0⟩ ⟨true, litI (Int.ofNat (m + 1))⟩) v
        rw [e]; exact q3
       ·simp [RP.run] at h
      ·simp [RP.run] at h
     ·simp [RP.run] at h
    ·simp [RP.run] at h
   ·simp [RP.run] at h
  ·simp [RP.run] at h
 ·rename_i kx
  simp only [RP.run] at h
  split at h
  ·rename_i ro y hkx
   obtain ⟨u, hu, hone⟩ := one_at (P := P) hm hx hkx
   split at h
   ·simp only [D] at hs
    subst hs
    obtain ⟨pk, hs, r, n, ws, ρ1, b1, b2, b3, b4, b5, b6, b7, b8, b9, rfl⟩ := appHdr_sound hm hu (fun k b hb => by cases hb) h
    have hh : hs = [] := by rcases b2 with b2 | b2; exact b2.2; cases b2
    subst hh
    obtain ⟨v, w', q1, ρ', q2, q3, q4⟩ := appH_core (tyy := tyy) (gone := []) hT ht hte hsl hT2 hty hsq b1 b7 b3 b8 hone hp.1 (.inl ⟨rfl, rfl, rfl⟩)
    refine ⟨v, w', q1, ρ', fun k hk => (b6 k hk).trans (q2 k (b9 k hk)), ?_, ?_⟩
    ·rw [updsH_append]; exact q3
    ·rw [updsH_append]; exact q4
   ·rename_i key len
    simp only [RP.run] at h
    split at h
    ·rename_i pk0 hs0 hkey
     obtain ⟨pk, hs, r, n, ws, ρ1, b1, b2, b3, b4, b5, b6, b7, b8, b9, rfl⟩ := appHdr_sound hm hu (fun k b hb => by simp only [List.mem_singleton, Prod.mk.injEq] at hb; rw [hb.1, hkey]; rfl) h
     have hh : pk0 = pk ∧ hs0 = hs := by
      rcases b2 with ⟨b2, _⟩ | b2
      ·cases b2
      ·simpa using b2
     obtain ⟨rfl, rfl⟩ := hh
     have hkey2 : updsH H ws key = some (.segs false [.rowH pk0 hs0]) := by rw [b4 key (b5 key _ _ hkey)]; exact hkey
     have hs2 : D (dmOf (updsH H ws)) ρ1 (.sl key 0 1 ⟨true, 0⟩ len) vs := D.mono b9 b6 _ _ hs
     obtain ⟨v, w', q1, ρ', q2, q3, q4⟩ := appH_core (tyy := tyy) hT ht hte hsl hT2 hty hsq b1 b7 b3 b8 hone hp.1 (.inr ⟨key, len, hs2, hkey2, hp.2.1, rfl⟩)
     refine ⟨v, w', q1, ρ', fun k hk => (b6 k hk).trans (q2 k (b9 k hk)), ?_, ?_⟩
     ·rw [updsH_append]; exact q3
     ·rw [updsH_append]; exact q4
    ·simp [RP.run] at h
   ·simp [RP.run] at h
  ·simp [RP.run] at h
 ·simp [RP.run] at h

/-! ### A pool's row appended to -/

theorem cells_there {b o n : Nat} (ht : w.there b o n) (m : Nat) (hm' : m ≤ n) (len cap : Nat) : ∃ cs : List Value, cs.length = m ∧ ∀ w' : World, (∀ a u, w.cell? a = some u → w'.cell? a = some u) → (Builtin.firstCells 1 m (.slice (some ⟨b, o, none⟩) len cap)).run P w' = .ok cs.toArray w' := by
 refine ⟨(List.range m).map fun j => (w.cell? ⟨b, o + j, none⟩).getD (.bool false), by simp, fun w' hw' => ?_⟩
 refine firstCells_some 1 m _ _ _ _ (by simp) (fun j v hv => ?_)
 have hj : j < m := by have := (List.getElem?_eq_some_iff.1 hv).1; simpa using this
 have hadd : (⟨b, o, none⟩ : Addr).add j = ⟨b, o + j, none⟩ := by by_cases h : j = 0 <;> simp [Addr.add, h]
 rw [hadd]
 have h1 := (ht j (by omega)).1
 obtain ⟨u, hu⟩ := Option.isSome_iff_exists.1 h1
 have hu' := hu
 simp [hj, hu] at hv
 subst hv
 exact hw' _ _ hu

theorem appendM_sound {T T2 tyy : TypeId} {ti ti2 : TInfo} {ty : List (Nat × TInfo)} (hT : RowOk P T ti) (hT2 : RowOk P T2 ti2) (hty : tabB P ty = true) (hm : Mem w0 M ρ H w) {stamp : Nat} {s x : SV} {vs vx : Value} (hs : D (dmOf H) ρ s vs) (hx : D (dmOf H) ρ x vx)
  {key r : Nat} {jk : Option Nat} {len : SI} (hmore : isMore s = some (key, r, jk, len)) {d : Delta} {rs rs' : List Nat} (h : (appendMOp ty stamp ti ti2 key r jk len x).run H rs = some (d, rs')) (hp : AllP d.pre) :
  ∃ v w', (Builtin.append_ #[T, T2] tyy #[vs, vx]).run P w = .ok v w' ∧ After w0 M ρ H d v w' := by
 have hbase : dmOf H key ∧ r < (ρ key).pn ∧ 0 ≤ len.z ∧ ∃ a cap, vs = .slice a len.z.toNat cap ∧ len.z.toNat ≤ cap ∧
   ((a = some ⟨(ρ key).pb r, (ρ key).po r, none⟩ ∧ cap ≤ (ρ key).pc r) ∨ (∃ j, jk = some j ∧ a = some (at_ (ρ j) 0) ∧ cap ≤ (ρ j).cap) ∨ (len.z = 0 ∧ cap = 0)) := by
  unfold isMore at hmore
  split at hmore
  ·simp only [Option.some.injEq, Prod.mk.injEq] at hmore
   obtain ⟨rfl, rfl, rfl, rfl⟩ := hmore
   simp only [D] at hs
   obtain ⟨h1, h2, h3, _, a, cap, h4, h5, h6⟩ := hs
   refine ⟨h1, h2, h3, a, cap, h4, h5, ?_⟩
   rcases h6 with h6 | h6
   ·exact .inl h6
   ·exact .inr (.inr h6)
  ·simp only [Option.some.injEq, Prod.mk.injEq] at hmore
   obtain ⟨rfl, rfl, rfl, rfl⟩ := hmore
   simp only [D] at hs
   obtain ⟨h1, h1', h2, h3, _, a, cap, h4, h5, h6⟩ := hs
   refine ⟨h1, h2, h3, a, cap, h4, h5, ?_⟩
   rcases h6 with h6 | h6 | h6
   ·exact .inl h6
   ·exact .inr (.inl ⟨_, rfl, h6⟩)
   ·exact .inr (.inr h6)
  ·cases hmore
 obtain ⟨hkey, hrp, hl0, a, cap, rfl, hlc, hdis⟩ := hbase
 unfold appendMOp at h
 split at h
 ·rename_i te hts hte hsq
  split at h
  ·rename_i k hti hb
   have hTe := rowB_ok (tabB_row hty hte)
   obtain ⟨ie, z, hi1, hi2, hi3, hi4, hi5⟩ := hTe.info
   have hU := slice_of hT hts
   have hes : ie.size = 1 := by rw [hi2, hti]; rfl
   have hz1 : z.cells.size = 1 := by rw [zeroB_size hi5, hti]; rfl
   have h2 := noInt_of hT2 (show (match ti2.ty with | .slice => true | .str => true | _ => false) = true from hsq)
   have hbp : 0 < te.bytes := by simp [Nat.blt] at hb; omega
   obtain ⟨p, q, rs1, hw, hq⟩ := withCon_sound (P := P) hm hx h
   split at hw
   ·rename_i k' l
    split at hw
    ·rename_i hkk
     have hkk := keq_eq hkk
     subst hkk
     simp only [RP.run] at hw
     split at hw
     ·rename_i k2 ms hpool
      split at hw
      ·rename_i hk2
       have hk2 := keq_eq hk2
       subst hk2
       have fin : ∃ gone : List (Nat × SB), H stamp = none ∧ (gone = [] ∧ jk = none ∨ ∃ j, jk = some j ∧ H j = some (.segs false []) ∧ gone = [(j, .gone)]) ∧
         d = ⟨(((ms.getD r []).length : Int) ≤ len.z) :: ((len.z + (l.length : Int)) * (te.bytes : Int) ≤ 70368744177664) :: p, .mr key r stamp ⟨false, len.z + (l.length : Int)⟩, (stamp, .segs false []) :: gone, true⟩ := by
        split at hw
        ·simp only [RP.run] at hw
         split at hw
         ·rename_i hn
          exact ⟨[], hn, .inl ⟨rfl, rfl⟩, run_ret hw⟩
         ·simp [RP.run] at hw
        ·rename_i j
         simp only [RP.run] at hw
         split at hw
         ·rename_i hj
          simp only [RP.run] at hw
          split at hw
          ·rename_i hn
           exact ⟨[(j, .gone)], hn, .inr ⟨j, rfl, hj, rfl⟩, run_ret hw⟩
          ·simp [RP.run] at hw
         ·simp [RP.run] at hw
       obtain ⟨gone, hn, hg, rfl⟩ := fin
       have hrow : ((ms.getD r []).length : Int) ≤ len.z := hp.1
       have hbytes : (len.z + (l.length : Int)) * (te.bytes : Int) ≤ 70368744177664 := hp.2.1
       have hq := hq hp.2.2
       have hP := hm.pools.pool key k2 ms hpool
       have hrl : r < ms.length := by rw [← hP.cnt]; exact hrp
       have hrm : ms[r]? = some (ms.getD r []) := by rw [List.getD_eq_getElem?_getD, List.getElem?_eq_getElem hrl]; rfl
       obtain ⟨a1, a2, a3, a4⟩ := hP.rowk r _ hrm
       have hne : key ≠ stamp := fun e => by rw [e, hn] at hpool; cases hpool
       have hcl : (conCells (.ints k2 l)).length = l.length := by simp [conCells]
       have hqe : conSize (.ints k2 l) = ie.size := by rw [hes]; rfl
       have hL : (((len.z.toNat + l.length : Nat)) : Int) = len.z + (l.length : Int) := by rw [Int.natCast_add, Int.toNat_of_nonneg hl0]
       have hbn : (len.z.toNat + l.length) * ie.bytes ≤ 140737488355328 := by
        have : (((len.z.toNat + l.length) * ie.bytes : Nat) : Int) ≤ 70368744177664 := by rw [Int.natCast_mul, hL, hi3]; exact hbytes
        omega
       have hbb : 0 < ie.bytes := by rw [hi3]; exact hbp
       have hsmall : len.z.toNat + l.length ≤ 140737488355328 := by
        have : (len.z.toNat + l.length) * 1 ≤ (len.z.toNat + l.length) * ie.bytes := Nat.mul_le_mul_left _ (by omega)
        omega
       -- the answer, wherever it lies
       have ans : ∀ (ρ' : Nat → Pl) (a' : Option Addr) (cap' : Nat), (ρ' key = ρ key) → len.z.toNat + l.length ≤ cap' →
         ((a' = some ⟨(ρ key).pb r, (ρ key).po r, none⟩ ∧ cap' ≤ (ρ key).pc r) ∨ (a' = some (at_ (ρ' stamp) 0) ∧ cap' ≤ (ρ' stamp).cap) ∨ (len.z + (l.length : Int) = 0 ∧ cap' = 0)) →
         D (dmOf (updsH H ((stamp, .segs false []) :: gone))) ρ' (.mr key r stamp ⟨false, len.z + (l.length : Int)⟩) (.slice a' (len.z.toNat + l.length) cap') := by
        intro ρ' a' cap' hρ hc hc'
        have dmu : ∀ b, dmOf (updH H stamp (.segs false [])) b → dmOf (updsH H ((stamp, .segs false []) :: gone)) b := fun b hb => dm_updsH gone _ b hb
        have ht : (len.z + (l.length : Int)).toNat = len.z.toNat + l.length := by omega
        simp only [D]
        refine ⟨dmu _ (dm_updH _ _ _ _ hkey), dmu _ (dm_new _ _ _), by rw [hρ]; exact hrp, by omega, by simp only [InR]; omega, a', cap', by rw [ht], by omega, ?_⟩
        rw [hρ]; exact hc'
       rcases Nat.lt_or_ge cap (len.z.toNat + l.length) with hroom | hroom
       ·-- it grows
        have hold : ∃ cs : List Value, cs.length = len.z.toNat ∧ (Builtin.firstCells ie.size len.z.toNat (.slice a len.z.toNat cap)).run P w.drew = .ok cs.toArray w.drew := by
         rw [hes]
         rcases hdis with ⟨rfl, hcap⟩ | ⟨j, hj, rfl, hcap⟩ | ⟨d1, d2⟩
         ·obtain ⟨cs, c1, c2⟩ := cells_there (P := P) a4 len.z.toNat (by omega) len.z.toNat cap
          exact ⟨cs, c1, c2 _ fun _ _ h => by simpa using h⟩
         ·rcases hg with ⟨_, e⟩ | ⟨j', e, hj', _⟩
          ·rw [hj] at e; cases e
          ·rw [hj] at e
           simp only [Option.some.injEq] at e
           subst e
           obtain ⟨_, _, _, _, s4⟩ := hm.segs hj'
           obtain ⟨cs, c1, c2⟩ := cells_there (P := P) (s4 rfl) len.z.toNat (by omega) len.z.toNat cap
           exact ⟨cs, c1, c2 _ fun _ _ h => by simpa using h⟩
         ·refine ⟨[], by simp [d1], ?_⟩
          rw [d1]
          cases a <;> simp [Builtin.firstCells, loadCells, loadCellsFrom]
        obtain ⟨cs, hcs, hold⟩ := hold
        have hge := grownCap_ge w (len.z.toNat + l.length) cap ti.elem
        refine ⟨_, _, append_grow (xs := cs) hU hi1 hi4 h2 hq hqe hroom hold (by show (((len.z.toNat + l.length : Nat)) : Int) ≤ _; omega) (growslice_fits (by simp only [conLen]; omega) hbn), ?_⟩
        have hcl2 : conLen (.ints k2 l) = l.length := rfl
        rw [hcl2]
        generalize grownCap w (len.z.toNat + l.length) cap ti.elem = cp at *
        have hsz : (cs.toArray ++ (conCells (.ints k2 l)).toArray ++ Builtin.zeroCells z.cells (cp - (len.z.toNat + l.length))).size = cp := by
         simp only [Array.size_append, List.size_toArray, Builtin.zeroCells, Array.size_map, Array.size_range, hz1, hcl, hcs]
         omega
        have hal := (hm.drew (w.drawn + 1)).alloc hn (l := []) (vs := []) rfl (cells := cs.toArray ++ (conCells (.ints k2 l)).toArray ++ Builtin.zeroCells z.cells (cp - (len.z.toNat + l.length)))
         (T := ti.elem) (fr := (0, 0)) (extra := (cs.toArray ++ (conCells (.ints k2 l)).toArray ++ Builtin.zeroCells z.cells (cp - (len.z.toNat + l.length))).toList) (by simp) (.inl rfl)
        refine ⟨updP ρ stamp ({ blk := w.drew.heap.size, off := 0, cap := (cs.toArray ++ (conCells (.ints k2 l)).toArray ++ Builtin.zeroCells z.cells (cp - (len.z.toNat + l.length))).size } : Pl), updP_keeps hn, ans _ _ _ (updP_ne hne) hge (.inr (.inl ⟨?_, ?_⟩)), ?_⟩
        ·rw [updP_same]; rfl
        ·rw [updP_same, hsz]; exact Nat.le_refl _
        ·rcases hg with ⟨rfl, _⟩ | ⟨j, _, hj, rfl⟩
         ·exact hal
         ·exact hal.gone j (dm_updH _ _ _ j (dm_of hj))
       ·-- there is room
        have virt : ∀ w' : World, Mem w0 M ρ H w' → Mem w0 M (updP ρ stamp ({ blk := 0, off := 0, cap := 0 } : Pl)) (updsH H ((stamp, .segs false []) :: gone)) w' := fun w' hm' => by
         have hv := hm'.virtual hn (l := []) rfl
         rcases hg with ⟨rfl, _⟩ | ⟨j, _, hj, rfl⟩
         ·exact hv
         ·exact hv.gone j (dm_updH _ _ _ j (dm_of hj))
        rcases hdis with ⟨rfl, hcap⟩ | ⟨j, hj, rfl, hcap⟩ | ⟨d1, d2⟩
        ·have hst := run_storeCells_cells (P := P) ((ρ key).pb r) ((ρ key).po r + len.z.toNat) (conCells (.ints k2 l)) 0 w
          (fun i hi => by have := (a4 (len.z.toNat + i) (by omega)).1; simpa [Nat.add_assoc] using this)
          (fun i hi => by have := (a4 (len.z.toNat + i) (by omega)).2; simpa [Nat.add_assoc] using this) conCells_one
         simp only [Nat.add_zero] at hst
         have hadd : (⟨(ρ key).pb r, (ρ key).po r, none⟩ : Addr).add (len.z.toNat * ie.size) = ⟨(ρ key).pb r, (ρ key).po r + len.z.toNat, none⟩ := by
          rw [hes, Nat.mul_one]; by_cases h : len.z.toNat = 0 <;> simp [Addr.add, h]
         refine ⟨_, w.setCells ((ρ key).pb r) ((ρ key).po r + len.z.toNat) (conCells (.ints k2 l)), append_room hU hi1 h2 hq hqe hroom (fun b hb => ?_) (fun hb => by cases hb), updP ρ stamp ({ blk := 0, off := 0, cap := 0 } : Pl), updP_keeps hn, ans _ _ _ (updP_ne hne) hroom (.inl ⟨rfl, hcap⟩), virt _ ?_⟩
         ·simp only [Option.some.injEq] at hb
          subst hb
          rw [hadd]; simpa using hst
         ·rcases Nat.eq_zero_or_pos ((ρ key).pc r) with h0 | h0
          ·have : conCells (.ints k2 l) = [] := List.eq_nil_of_length_eq_zero (by rw [hcl]; omega)
           rw [this]; exact hm
          ·exact hm.beyond_row hpool hrm (by omega) h0
        ·rcases hg with ⟨_, e⟩ | ⟨j', e, hj', rfl⟩
         ·rw [hj] at e; cases e
         ·rw [hj] at e
          simp only [Option.some.injEq] at e
          subst e
          obtain ⟨_, _, _, _, s4⟩ := hm.segs hj'
          have hth := s4 rfl
          have hst := run_storeCells_cells (P := P) (ρ j).blk ((ρ j).off + len.z.toNat) (conCells (.ints k2 l)) 0 w
           (fun i hi => by have := (hth (len.z.toNat + i) (by omega)).1; simpa [Nat.add_assoc] using this)
           (fun i hi => by have := (hth (len.z.toNat + i) (by omega)).2; simpa [Nat.add_assoc] using this) conCells_one
          simp only [Nat.add_zero] at hst
          have hnej : stamp ≠ j := fun e => by rw [e, hj'] at hn; cases hn
          have hmm : Mem w0 M ρ H (w.setCells (ρ j).blk ((ρ j).off + len.z.toNat) (conCells (.ints k2 l))) := by
           rcases Nat.eq_zero_or_pos (ρ j).cap with h0 | h0
           ·have : conCells (.ints k2 l) = [] := List.eq_nil_of_length_eq_zero (by rw [hcl]; omega)
            rw [this]; exact hm
           ·exact hm.beyond_blank hj' h0
          have hre := hmm.rekey (new := stamp) hj' hn
          rw [updH_comm (Ne.symm hnej)] at hre
          refine ⟨_, _, append_room hU hi1 h2 hq hqe hroom (fun b hb => ?_) (fun hb => by cases hb), updP ρ stamp (ρ j), updP_keeps hn, ans _ _ _ (updP_ne hne) hroom (.inr (.inl ⟨?_, ?_⟩)), hre⟩
          ·simp only [Option.some.injEq] at hb
           subst hb
           rw [addr_add, hes, Nat.mul_one]
           simpa [at_] using hst
          ·rw [updP_same]
          ·rw [updP_same]; exact hcap
        ·have hm0 : l.length = 0 := by omega
         have hc0 : conCells (.ints k2 l) = [] := List.eq_nil_of_length_eq_zero (by rw [hcl, hm0])
         exact ⟨_, w, append_room hU hi1 h2 hq hqe hroom (fun b hb => by rw [hc0]; rfl) (fun _ => rfl), updP ρ stamp ({ blk := 0, off := 0, cap := 0 } : Pl), updP_keeps hn, ans _ _ _ (updP_ne hne) hroom (.inr (.inr ⟨by omega, d2⟩)), virt _ hm⟩
      ·simp [RP.run] at hw
     ·simp [RP.run] at hw
    ·simp [RP.run] at hw
   ·simp [RP.run] at hw
  ·simp [RP.run] at h
 ·simp [RP.run] at h

theorem cells_thereN {b o c : Nat} (ht : w.there b o c) (n m : Nat) (hm' : n * m ≤ c) (len cap : Nat) : ∃ cs : List Value, cs.length = n * m ∧ ∀ w' : World, (∀ a u, w.cell? a = some u → w'.cell? a = some u) → (Builtin.firstCells n m (.slice (some ⟨b, o, none⟩) len cap)).run P w' = .ok cs.toArray w' := by
 refine ⟨(List.range (n * m)).map fun j => (w.cell? ⟨b, o + j, none⟩).getD (.bool false), by simp, fun w' hw' => ?_⟩
 refine firstCells_some n m _ _ _ _ (by simp [Nat.mul_comm]) (fun j v hv => ?_)
 have hj : j < n * m := by have := (List.getElem?_eq_some_iff.1 hv).1; simpa using this
 have hadd : (⟨b, o, none⟩ : Addr).add j = ⟨b, o + j, none⟩ := by by_cases h : j = 0 <;> simp [Addr.add, h]
 rw [hadd]
 have h1 := (ht j (by omega)).1
 obtain ⟨u, hu⟩ := Option.isSome_iff_exists.1 h1
 have hu' := hu
 simp [hj, hu] at hv
 subst hv
 exact hw' _ _ hu

theorem appendK_sound {T T2 tyy : TypeId} {ti ti2 : TInfo} {ty : List (Nat × TInfo)} (hT : RowOk P T ti) (hT2 : RowOk P T2 ti2) (hty : tabB P ty = true) (hm : Mem w0 M ρ H w) {stamp : Nat} {s x : SV} {vs vx : Value} (hs : D (dmOf H) ρ s vs) (hx : D (dmOf H) ρ x vx)
  {key est : Nat} {jk : Option Nat} {len : SI} (hmore : keepOf s = some (key, est, jk, len)) {d : Delta} {rs rs' : List Nat} (h : (appendKOp ty stamp ti ti2 key est jk len x).run H rs = some (d, rs')) (hp : AllP d.pre) :
  ∃ v w', (Builtin.append_ #[T, T2] tyy #[vs, vx]).run P w = .ok v w' ∧ After w0 M ρ H d v w' := by
 have hbase : dmOf H key ∧ 0 ≤ len.z ∧ ∃ a cap, vs = .slice a len.z.toNat cap ∧ len.z.toNat ≤ cap ∧
   ((a = some (at_ (ρ key) 0) ∧ est * cap ≤ (ρ key).cap) ∨ (∃ j, jk = some j ∧ a = some (at_ (ρ j) 0) ∧ est * cap ≤ (ρ j).cap) ∨ (len.z = 0 ∧ cap = 0)) := by
  unfold keepOf at hmore
  split at hmore
  ·split at hmore
   ·simp only [Option.some.injEq, Prod.mk.injEq] at hmore
    obtain ⟨rfl, rfl, rfl, rfl⟩ := hmore
    simp only [D] at hs
    obtain ⟨h1, _, h3, _, a, cap, h4, h5, h6⟩ := hs
    refine ⟨h1, h3, a, cap, h4, h5, ?_⟩
    rcases h6 with ⟨h6, h7⟩ | h6
    ·exact .inl ⟨by simpa using h6, by simpa using h7⟩
    ·exact .inr (.inr h6)
   ·cases hmore
  ·simp only [Option.some.injEq, Prod.mk.injEq] at hmore
   obtain ⟨rfl, rfl, rfl, rfl⟩ := hmore
   simp only [D] at hs
   obtain ⟨h1, h1', h3, _, a, cap, h4, h5, h6⟩ := hs
   refine ⟨h1, h3, a, cap, h4, h5, ?_⟩
   rcases h6 with h6 | h6 | h6
   ·exact .inl h6
   ·exact .inr (.inl ⟨_, rfl, h6⟩)
   ·exact .inr (.inr h6)
  ·cases hmore
 obtain ⟨hkey, hl0, a, cap, rfl, hlc, hdis⟩ := hbase
 unfold appendKOp at h
 split at h
 ·rename_i te hts hte hsq
  split at h
  ·rename_i n k hti hb
   have hTe := rowB_ok (tabB_row hty hte)
   obtain ⟨ie, z, hi1, hi2, hi3, hi4, hi5⟩ := hTe.info
   have hU := slice_of hT hts
   have hes : ie.size = n := by rw [hi2, hti]; simp [Ty.size]
   have hz1 : z.cells.size = n := by rw [zeroB_size hi5, hti]; simp [Ty.size]
   have h2 := noInt_of hT2 (show (match ti2.ty with | .slice => true | .str => true | _ => false) = true from hsq)
   have hbp : 0 < te.bytes := by simp [Nat.blt] at hb; omega
   obtain ⟨p, q, rs1, hw, hq⟩ := withCon_sound (P := P) hm hx h
   split at hw
   ·rename_i k' m l
    split at hw
    ·rename_i hkk
     simp only [Bool.and_eq_true] at hkk
     have e1 := Nat.eq_of_beq_eq_true hkk.1.1
     have e2 := Nat.eq_of_beq_eq_true hkk.1.2
     have hn0 : 0 < n := by have := hkk.2; simp [Nat.blt] at this; omega
     subst e1 e2
     simp only [RP.run] at hw
     split at hw
     ·rename_i k2 n2 r hrow0
      split at hw
      ·rename_i hk2
       have hk2 := Nat.eq_of_beq_eq_true hk2
       subst hk2
       have fin : ∃ gone : List (Nat × SB), H stamp = none ∧ (gone = [] ∧ jk = none ∨ ∃ j, jk = some j ∧ H j = some (.segs false []) ∧ gone = [(j, .gone)]) ∧
         d = ⟨((r.length : Int) ≤ len.z) :: ((len.z + (l.length : Int)) * (te.bytes : Int) ≤ 70368744177664) :: p, .kr key n2 stamp ⟨false, len.z + (l.length : Int)⟩, (stamp, .segs false []) :: gone, true⟩ := by
        split at hw
        ·simp only [RP.run] at hw
         split at hw
         ·rename_i hn
          exact ⟨[], hn, .inl ⟨rfl, rfl⟩, run_ret hw⟩
         ·simp [RP.run] at hw
        ·rename_i j
         simp only [RP.run] at hw
         split at hw
         ·rename_i hj
          simp only [RP.run] at hw
          split at hw
          ·rename_i hn
           exact ⟨[(j, .gone)], hn, .inr ⟨j, rfl, hj, rfl⟩, run_ret hw⟩
          ·simp [RP.run] at hw
         ·simp [RP.run] at hw
       obtain ⟨gone, hn, hg, rfl⟩ := fin
       have hrow : (r.length : Int) ≤ len.z := hp.1
       have hbytes : (len.z + (l.length : Int)) * (te.bytes : Int) ≤ 70368744177664 := hp.2.1
       have hq := hq hp.2.2
       obtain ⟨vr, s1, s2, s3, a4⟩ := hm.segs hrow0
       have a4 := a4 rfl
       have hbeyond : ∀ vs, SegsD (dmOf H) ρ [.rowA k2 n2 r] vs → vs.length ≤ n2 * len.z.toNat := fun vs hv => by
        obtain ⟨c1, c2, ⟨q1, rfl⟩, rfl, q3⟩ := hv
        have q3 : c2 = [] := q3
        subst q3
        rw [List.append_nil, List.length_map]
        have hfl : ∀ l : List (List Int), AllA k2 n2 l → l.flatten.length = n2 * l.length := by
         intro l
         induction l with
         | nil => intro _; simp
         | cons a r ih =>
          intro hA
          rw [List.flatten_cons, List.length_append, (hA a (by simp)).1, ih (fun b hb => hA b (by simp [hb])), List.length_cons, Nat.mul_succ]
          omega
        rw [hfl r q1]
        exact Nat.mul_le_mul_left _ (by omega)
       have hne : key ≠ stamp := fun e => by rw [e, hn] at hrow0; cases hrow0
       have hqe : conSize (.arrs k' n2 l) = ie.size := by rw [hes]; rfl
       have hcl : (conCells (.arrs k' n2 l)).length = n2 * l.length := by rw [conCells_length hq.ok, Nat.mul_comm]; rfl
       have hL : (((len.z.toNat + l.length : Nat)) : Int) = len.z + (l.length : Int) := by rw [Int.natCast_add, Int.toNat_of_nonneg hl0]
       have hbn : (len.z.toNat + l.length) * ie.bytes ≤ 140737488355328 := by
        have : (((len.z.toNat + l.length) * ie.bytes : Nat) : Int) ≤ 70368744177664 := by rw [Int.natCast_mul, hL, hi3]; exact hbytes
        omega
       have hbb : 0 < ie.bytes := by rw [hi3]; exact hbp
       have hsmall : len.z.toNat + l.length ≤ 140737488355328 := by
        have : (len.z.toNat + l.length) * 1 ≤ (len.z.toNat + l.length) * ie.bytes := Nat.mul_le_mul_left _ (by omega)
        omega
       have ans : ∀ (ρ' : Nat → Pl) (a' : Option Addr) (cap' : Nat), (ρ' key = ρ key) → len.z.toNat + l.length ≤ cap' →
         ((a' = some (at_ (ρ key) 0) ∧ n2 * cap' ≤ (ρ key).cap) ∨ (a' = some (at_ (ρ' stamp) 0) ∧ n2 * cap' ≤ (ρ' stamp).cap) ∨ (len.z + (l.length : Int) = 0 ∧ cap' = 0)) →
         D (dmOf (updsH H ((stamp, .segs false []) :: gone))) ρ' (.kr key n2 stamp ⟨false, len.z + (l.length : Int)⟩) (.slice a' (len.z.toNat + l.length) cap') := by
        intro ρ' a' cap' hρ hc hc'
        have dmu : ∀ b, dmOf (updH H stamp (.segs false [])) b → dmOf (updsH H ((stamp, .segs false []) :: gone)) b := fun b hb => dm_updsH gone _ b hb
        have ht : (len.z + (l.length : Int)).toNat = len.z.toNat + l.length := by omega
        simp only [D]
        refine ⟨dmu _ (dm_updH _ _ _ _ hkey), dmu _ (dm_new _ _ _), by omega, by simp only [InR]; omega, a', cap', by rw [ht], by omega, ?_⟩
        rw [hρ]; exact hc'
       rcases Nat.lt_or_ge cap (len.z.toNat + l.length) with hroom | hroom
       ·-- it grows
        have hmulc : n2 * len.z.toNat ≤ n2 * cap := Nat.mul_le_mul_left _ hlc
        have hold : ∃ cs : List Value, cs.length = n2 * len.z.toNat ∧ (Builtin.firstCells ie.size len.z.toNat (.slice a len.z.toNat cap)).run P w.drew = .ok cs.toArray w.drew := by
         rw [hes]
         rcases hdis with ⟨rfl, hcap⟩ | ⟨j, hj, rfl, hcap⟩ | ⟨d1, d2⟩
         ·obtain ⟨cs, c1, c2⟩ := cells_thereN (P := P) a4 n2 len.z.toNat (by omega) len.z.toNat cap
          exact ⟨cs, c1, by rw [show at_ (ρ key) 0 = ⟨(ρ key).blk, (ρ key).off, none⟩ by simp [at_]]; exact c2 _ fun _ _ h => by simpa using h⟩
         ·rcases hg with ⟨_, e⟩ | ⟨j', e, hj', _⟩
          ·rw [hj] at e; cases e
          ·rw [hj] at e
           simp only [Option.some.injEq] at e
           subst e
           obtain ⟨_, _, _, _, s4⟩ := hm.segs hj'
           obtain ⟨cs, c1, c2⟩ := cells_thereN (P := P) (s4 rfl) n2 len.z.toNat (by omega) len.z.toNat cap
           exact ⟨cs, c1, by rw [show at_ (ρ j) 0 = ⟨(ρ j).blk, (ρ j).off, none⟩ by simp [at_]]; exact c2 _ fun _ _ h => by simpa using h⟩
         ·refine ⟨[], by simp [d1], ?_⟩
          rw [d1]
          cases a <;> simp [Builtin.firstCells, loadCells, loadCellsFrom]
        obtain ⟨cs, hcs, hold⟩ := hold
        have hge := grownCap_ge w (len.z.toNat + l.length) cap ti.elem
        refine ⟨_, _, append_grow (xs := cs) hU hi1 hi4 h2 hq hqe hroom hold (by show (((len.z.toNat + l.length : Nat)) : Int) ≤ _; omega) (growslice_fits (by simp only [conLen]; omega) hbn), ?_⟩
        have hcl2 : conLen (.arrs k' n2 l) = l.length := rfl
        rw [hcl2]
        generalize grownCap w (len.z.toNat + l.length) cap ti.elem = cp at *
        have hsz : (cs.toArray ++ (conCells (.arrs k' n2 l)).toArray ++ Builtin.zeroCells z.cells (cp - (len.z.toNat + l.length))).size = n2 * cp := by
         simp only [Array.size_append, List.size_toArray, Builtin.zeroCells, Array.size_map, Array.size_range, hcl, hcs, hz1]
         rw [← Nat.mul_add, Nat.mul_comm (cp - _) n2, ← Nat.mul_add, Nat.add_sub_cancel' hge]
        have hal := (hm.drew (w.drawn + 1)).alloc hn (l := []) (vs := []) rfl (cells := cs.toArray ++ (conCells (.arrs k' n2 l)).toArray ++ Builtin.zeroCells z.cells (cp - (len.z.toNat + l.length)))
         (T := ti.elem) (fr := (0, 0)) (extra := (cs.toArray ++ (conCells (.arrs k' n2 l)).toArray ++ Builtin.zeroCells z.cells (cp - (len.z.toNat + l.length))).toList) (by simp) (.inl rfl)
        refine ⟨updP ρ stamp ({ blk := w.drew.heap.size, off := 0, cap := (cs.toArray ++ (conCells (.arrs k' n2 l)).toArray ++ Builtin.zeroCells z.cells (cp - (len.z.toNat + l.length))).size } : Pl), updP_keeps hn, ans _ _ _ (updP_ne hne) hge (.inr (.inl ⟨?_, ?_⟩)), ?_⟩
        ·rw [updP_same]; rfl
        ·rw [updP_same, hsz]; exact Nat.le_refl _
        ·rcases hg with ⟨rfl, _⟩ | ⟨j, _, hj, rfl⟩
         ·exact hal
         ·exact hal.gone j (dm_updH _ _ _ j (dm_of hj))
       ·-- there is room
        have hmulc : n2 * len.z.toNat + n2 * l.length ≤ n2 * cap := by rw [← Nat.mul_add]; exact Nat.mul_le_mul_left _ hroom
        have virt : ∀ w' : World, Mem w0 M ρ H w' → Mem w0 M (updP ρ stamp ({ blk := 0, off := 0, cap := 0 } : Pl)) (updsH H ((stamp, .segs false []) :: gone)) w' := fun w' hm' => by
         have hv := hm'.virtual hn (l := []) rfl
         rcases hg with ⟨rfl, _⟩ | ⟨j, _, hj, rfl⟩
         ·exact hv
         ·exact hv.gone j (dm_updH _ _ _ j (dm_of hj))
        rcases hdis with ⟨rfl, hcap⟩ | ⟨j, hj, rfl, hcap⟩ | ⟨d1, d2⟩
        ·have hst := run_storeCells_cells (P := P) (ρ key).blk ((ρ key).off + n2 * len.z.toNat) (conCells (.arrs k' n2 l)) 0 w
          (fun i hi => by have := (a4 (n2 * len.z.toNat + i) (by omega)).1; simpa [Nat.add_assoc] using this)
          (fun i hi => by have := (a4 (n2 * len.z.toNat + i) (by omega)).2; simpa [Nat.add_assoc] using this) conCells_one
         simp only [Nat.add_zero] at hst
         refine ⟨_, w.setCells (ρ key).blk ((ρ key).off + n2 * len.z.toNat) (conCells (.arrs k' n2 l)), append_room hU hi1 h2 hq hqe hroom (fun b hb => ?_) (fun hb => by cases hb), updP ρ stamp ({ blk := 0, off := 0, cap := 0 } : Pl), updP_keeps hn, ans _ _ _ (updP_ne hne) hroom (.inl ⟨rfl, hcap⟩), virt _ ?_⟩
         ·simp only [Option.some.injEq] at hb
          subst hb
          rw [addr_add, hes, Nat.mul_comm]
          simpa [at_] using hst
         ·rcases Nat.eq_zero_or_pos (ρ key).cap with h0 | h0
          ·have : conCells (.arrs k' n2 l) = [] := List.eq_nil_of_length_eq_zero (by rw [hcl]; omega)
           rw [this]; exact hm
          ·exact hm.beyond_own hrow0 h0 hbeyond
        ·rcases hg with ⟨_, e⟩ | ⟨j', e, hj', rfl⟩
         ·rw [hj] at e; cases e
         ·rw [hj] at e
          simp only [Option.some.injEq] at e
          subst e
          obtain ⟨_, _, _, _, s4⟩ := hm.segs hj'
          have hth := s4 rfl
          have hst := run_storeCells_cells (P := P) (ρ j).blk ((ρ j).off + n2 * len.z.toNat) (conCells (.arrs k' n2 l)) 0 w
           (fun i hi => by have := (hth (n2 * len.z.toNat + i) (by omega)).1; simpa [Nat.add_assoc] using this)
           (fun i hi => by have := (hth (n2 * len.z.toNat + i) (by omega)).2; simpa [Nat.add_assoc] using this) conCells_one
          simp only [Nat.add_zero] at hst
          have hnej : stamp ≠ j := fun e => by rw [e, hj'] at hn; cases hn
          have hmm : Mem w0 M ρ H (w.setCells (ρ j).blk ((ρ j).off + n2 * len.z.toNat) (conCells (.arrs k' n2 l))) := by
           rcases Nat.eq_zero_or_pos (ρ j).cap with h0 | h0
           ·have : conCells (.arrs k' n2 l) = [] := List.eq_nil_of_length_eq_zero (by rw [hcl]; omega)
            rw [this]; exact hm
           ·exact hm.beyond_blank hj' h0
          have hre := hmm.rekey (new := stamp) hj' hn
          rw [updH_comm (Ne.symm hnej)] at hre
          refine ⟨_, _, append_room hU hi1 h2 hq hqe hroom (fun b hb => ?_) (fun hb => by cases hb), updP ρ stamp (ρ j), updP_keeps hn, ans _ _ _ (updP_ne hne) hroom (.inr (.inl ⟨?_, ?_⟩)), hre⟩
          ·simp only [Option.some.injEq] at hb
           subst hb
           rw [addr_add, hes, Nat.mul_comm]
           simpa [at_] using hst
          ·rw [updP_same]
          ·rw [updP_same]; exact hcap
        ·have hm0 : l.length = 0 := by omega
         have hc0 : conCells (.arrs k' n2 l) = [] := List.eq_nil_of_length_eq_zero (by rw [hcl, hm0]; simp)
         exact ⟨_, w, append_room hU hi1 h2 hq hqe hroom (fun b hb => by rw [hc0]; rfl) (fun _ => rfl), updP ρ stamp ({ blk := 0, off := 0, cap := 0 } : Pl), updP_keeps hn, ans _ _ _ (updP_ne hne) hroom (.inr (.inr ⟨by omega, d2⟩)), virt _ hm⟩
      ·simp [RP.run] at hw
     ·simp [RP.run] at hw
    ·simp [RP.run] at hw
   ·simp [RP.run] at hw
  ·simp [RP.run] at h
 ·simp [RP.run] at h

end
end Go.Gx

/- append, of pointers: records of the call's own join a pool. -/
namespace Go.Gx
open Go.RowKit
set_option linter.unusedVariables false

section
variable {P : Program} {w0 : World} {M : Nat → Prop} {ρ : Nat → Pl} {H : Nat → Option SB} {w : World}

theorem app1_core {T T2 tyy : TypeId} {ti ti2 te : TInfo} {ty : List (Nat × TInfo)} (hT : RowOk P T ti) (ht : ti.ty = .slice) (hte : assoc ty ti.elem = some te) (hes1 : te.ty.size = 1) (hT2 : RowOk P T2 ti2) (hty : tabB P ty = true) (hsq : ti2.ty = .slice) (hb : 0 < te.bytes)
  (hm : Mem w0 M ρ H w) {stamp : Nat} (hn : H stamp = none) {u vx vs : Value} (hu1 : u.oneCell' = true) (hq : OneAt P w vx u) {g0 g1 : Seg} {n : Nat}
  (hpre : (((n + 1 : Nat) : Int) * (te.bytes : Int)) ≤ 70368744177664) {key : Nat} {len : SI}
  (hD : D (dmOf H) ρ (.sl key 0 1 ⟨true, 0⟩ len) vs) (hkey : H key = some (.segs false [g0])) (hlz : len.z = (n : Int)) (hg : ∀ cs, SegD (dmOf H) ρ g0 cs → cs.length = n ∧ SegD (dmOf H) ρ g1 (cs ++ [u])) :
  ∃ v w', (Builtin.append_ #[T, T2] tyy #[vs, vx]).run P w = .ok v w' ∧
   ∃ ρ', Ext H ρ ρ' ∧ D (dmOf (updsH H [(stamp, .segs false [g1]), (key, .gone)])) ρ' (.sl stamp 0 1 ⟨true, 0⟩ ⟨false, ((n + 1 : Nat) : Int)⟩) v ∧ Mem w0 M ρ' (updsH H [(stamp, .segs false [g1]), (key, .gone)]) w' := by
 have hTe := rowB_ok (tabB_row hty hte)
 obtain ⟨ie, z, hi1, hi2, hi3, hi4, hi5⟩ := hTe.info
 have hU := slice_of hT ht
 have hes : ie.size = 1 := by rw [hi2, hes1]
 have hz1 : z.cells.size = 1 := by rw [zeroB_size hi5, hes1]
 have h2 := noInt_of hT2 (show (match ti2.ty with | .slice => true | .str => true | _ => false) = true by rw [hsq])
 have hb' : ((n + 1 : Nat) : Int) * (ie.bytes : Int) ≤ 70368744177664 := by rw [hi3]; exact hpre
 have hbn : (n + 1) * ie.bytes ≤ 140737488355328 := by
  have : (((n + 1) * ie.bytes : Nat) : Int) ≤ 70368744177664 := by simpa using hb'
  omega
 have hbb : 0 < ie.bytes := by rw [hi3]; exact hb
 have hsmall : n + 1 ≤ 140737488355328 := by
  have : (n + 1) * 1 ≤ (n + 1) * ie.bytes := Nat.mul_le_mul_left _ (by omega)
  omega
 simp only [D] at hD
 obtain ⟨hk, ho, hl, hr0, ad, cap, rfl, hlc, hdis⟩ := hD
 have hlen : len.z.toNat = n := by omega
 rw [hlen] at hlc ⊢
 obtain ⟨vs, h1, h3, h4, h5⟩ := hm.segs hkey
 obtain ⟨c1, c2, e1, rfl, e3⟩ := h1
 have e4 : c2 = [] := e3
 subst e4
 simp only [List.append_nil] at h3 h4
 obtain ⟨hcl, hnew⟩ := hg c1 e1
 rcases Nat.lt_or_ge cap (n + 1) with hroom | hroom
 ·refine ⟨_, _, append_grow1 (xs := c1) hU hi1 hi4 h2 hes hq (by omega) ?_ (by omega) (growslice_fits (by omega) hbn), ?_⟩
  ·rcases hdis with ⟨rfl, hcap⟩ | ⟨d1, d2⟩
   ·refine firstCells_some _ _ _ _ _ _ (by rw [hcl]; omega) (fun j u hu2 => ?_)
    rw [addr_add]
    have := h4 j u hu2
    simpa [at_] using this
   ·have h0 : n = 0 := by omega
    have : c1 = [] := List.eq_nil_of_length_eq_zero (by omega)
    rw [this, h0]
    cases ad <;> simp [Builtin.firstCells, loadCells, loadCellsFrom]
  ·have hge := grownCap_ge w (n + 1) cap ti.elem
   generalize grownCap w (n + 1) cap ti.elem = cp at *
   have hal := (hm.drew (w.drawn + 1)).alloc hn (segs_one (dm := dmOf H) (ρ := ρ) (g := g1) (cs := c1 ++ [u]) hnew) (cells := c1.toArray ++ #[u] ++ Builtin.zeroCells z.cells (cp - (n + 1)))
    (T := ti.elem) (fr := (0, 0)) (extra := (Builtin.zeroCells z.cells (cp - (n + 1))).toList) (by simp) (.inl rfl)
   have hsz : (c1.toArray ++ #[u] ++ Builtin.zeroCells z.cells (cp - (n + 1))).size = cp := by
    simp only [Array.size_append, List.size_toArray, Builtin.zeroCells, Array.size_map, Array.size_range, hz1]
    simp
    omega
   refine ⟨_, updP_keeps hn, ?_, hal.gone key (dm_updH _ _ _ key (by unfold dmOf; rw [hkey]; rfl))⟩
   refine sl_D (dm_updH _ _ _ _ (dm_new _ _ _)) _ (by omega) hge (.inl ⟨?_, ?_⟩)
   ·rw [updP_same]; rfl
   ·rw [updP_same, hsz]; show 1 * cp ≤ cp; omega
 ·rcases hdis with ⟨rfl, hcap⟩ | ⟨d1, d2⟩
  ·have hcap' : cap ≤ (ρ key).cap := by simpa using hcap
   have hth := h5 rfl
   have hone : ∀ v ∈ [u], v.oneCell' = true := fun v hv => by
    simp only [List.mem_singleton] at hv; subst hv; exact hu1
   have hst := run_storeCells_cells (P := P) (ρ key).blk ((ρ key).off + n) [u] 0 w
    (fun j hj => by have := (hth (n + j) (by simp at hj; omega)).1; simpa [Nat.add_assoc] using this)
    (fun j hj => by have := (hth (n + j) (by simp at hj; omega)).2; simpa [Nat.add_assoc] using this) hone
   simp only [Nat.add_zero] at hst
   refine ⟨_, w.setCells (ρ key).blk ((ρ key).off + n) [u], append_room1 hU hi1 h2 hes hq hroom ?_, ?_⟩
   ·rw [addr_add]
    simpa [at_] using hst
   ·have hmm := hm.store (nv := [u]) (o := n) (vs' := c1 ++ [u]) (l' := [g1]) hkey h4 (by omega) (by simp; omega) h3
     (by rw [← hcl, List.take_length, List.drop_eq_nil_of_le (by omega), List.append_nil]) (segs_one hnew)
    have hn' : updH H key (.segs false [g1]) stamp = none := by
     rw [updH_ne]; exact hn
     intro e; rw [e, hkey] at hn; cases hn
    have hne : stamp ≠ key := fun e => by rw [e, hkey] at hn; cases hn
    have hre := hmm.rekey (new := stamp) (updH_same _ _ _) hn'
    rw [updH_over, updH_comm (Ne.symm hne)] at hre
    refine ⟨updP ρ stamp (ρ key), updP_keeps hn, ?_, hre⟩
    refine sl_D (dm_updH _ _ _ _ (dm_new _ _ _)) _ (by omega) hroom (.inl ⟨?_, ?_⟩)
    ·rw [updP_same]; simp
    ·rw [updP_same]; simpa using hcap'
  ·omega

theorem ptrs_join {p q : Pl} {n : Nat} (h : p.pn = n) : ptrsV (joinP p q) (n + 1) = ptrsV p n ++ [.pointer (some ⟨q.blk, q.off, none⟩)] := by
 unfold ptrsV
 rw [List.range_succ, List.map_append, List.map_cons, List.map_nil]
 congr 1
 ·refine List.map_congr_left fun i hi => ?_
  have hi := List.mem_range.1 hi
  simp [joinP, show i ≠ p.pn by omega]
 ·simp [joinP, h]

theorem boxJoinW_sound {T T2 tyy : TypeId} {ti ti2 te : TInfo} {ty : List (Nat × TInfo)} (hT : RowOk P T ti) (ht : ti.ty = .slice) (hte : assoc ty ti.elem = some te) (hsl : te.ty = .ptr) (hT2 : RowOk P T2 ti2) (hty : tabB P ty = true) (hsq : ti2.ty = .slice)
  (hm : Mem w0 M ρ H w) {stamp key kx kf kr : Nat} {len : SI} {vs vx : Value} (hs : D (dmOf H) ρ (.sl key 0 1 ⟨true, 0⟩ len) vs) (hx : D (dmOf H) ρ (.sl kx 0 1 ⟨true, .ofNat 0⟩ ⟨true, .ofNat 1⟩) vx) (hkx : H kx = some (.segs false [.one (.p kf 0)])) {x : SV} (hkf : H kf = some (.segs false [.one x])) {m : List Int} {pre : List Prop}
  (hxx : AllP pre → (x = .nsl ∧ m = [] ∧ kr = kf) ∨ (∃ len, x = .sl kr 0 1 ⟨true, 0⟩ len ∧ len.z = (m.length : Int) ∧ H kr = some (.segs false [.rowI .u8 m])))
  {d : Delta} {rs rs' : List Nat} (h : (boxJoinW stamp te key kf kr m len pre).run H rs = some (d, rs')) (hp : AllP d.pre) :
  ∃ v w', (Builtin.append_ #[T, T2] tyy #[vs, vx]).run P w = .ok v w' ∧ After w0 M ρ H d v w' := by
 obtain ⟨u, hu, hone⟩ := one_at (P := P) hm hx hkx
 unfold boxJoinW at h
 simp only [RP.run] at h
 split at h
 ·rename_i pk n hkey
  simp only [RP.run] at h
  split at h
  ·rename_i v0 ms hpk
   split at h
   ·rename_i hb1
    have hb1 : 0 < te.bytes := by simp [Nat.blt] at hb1; omega
    simp only [RP.run] at h
    split at h
    ·rename_i hn
     have e := run_ret h
     subst e
     obtain ⟨p1, p2, p3, p4⟩ := hp
     have hxx := hxx p4
     subst p2
     have hP := hm.pools.pool pk _ ms hpk
     obtain ⟨hm1, hle⟩ := hm.box_join hpk hkf hxx
     have n1 : pk ≠ kf := fun e => by rw [e, hkf] at hpk; cases hpk
     have n2 : key ≠ pk := fun e => by rw [e, hpk] at hkey; cases hkey
     have n3 : key ≠ kf := fun e => by
      rw [e, hkf] at hkey
      simp at hkey
     have n4 : stamp ≠ pk := fun e => by rw [e, hpk] at hn; cases hn
     have n5 : stamp ≠ kf := fun e => by rw [e, hkf] at hn; cases hn
     have hkrs : (kr = kf) ∨ H kr = some (.segs false [.rowI .u8 m]) := by
      rcases hxx with ⟨_, _, e⟩ | ⟨_, _, _, e⟩
      ·exact .inl e
      ·exact .inr e
     have n6 : key ≠ kr := fun e => by
      rcases hkrs with e2 | e2
      ·exact n3 (e.trans e2)
      ·rw [e, e2] at hkey; simp at hkey
     have n7 : stamp ≠ kr := fun e => by
      rcases hkrs with e2 | e2
      ·exact n5 (e.trans e2)
      ·rw [e, e2] at hn; cases hn
     generalize hH1 : updH (updH (updH H kr .gone) pk (.pool (.b .u8 none) (ms ++ [m]))) kf (.alias pk ms.length) = H1 at hm1
     have hdm : ∀ a, dmOf H a → dmOf H1 a := fun a ha => by rw [← hH1]; exact dm_updH _ _ _ a (dm_updH _ _ _ a (dm_updH _ _ _ a ha))
     have hkey1 : H1 key = some (.segs false [.rowP pk ms.length]) := by rw [← hH1, updH_ne n3, updH_ne n2, updH_ne n6]; exact hkey
     have hn1 : H1 stamp = none := by rw [← hH1, updH_ne n5, updH_ne n4, updH_ne n7]; exact hn
     have hs1 : D (dmOf H1) (updP ρ pk (joinP (ρ pk) (ρ kf))) (.sl key 0 1 ⟨true, 0⟩ len) vs := D.mono hdm (fun a _ => hle a) _ _ hs
     have hpkd : dmOf H1 pk := hdm pk (by unfold dmOf; rw [hpk]; rfl)
     simp only [D] at hu
     obtain ⟨_, rfl⟩ := hu
     obtain ⟨v, w', q1, ρ', q2, q3, q4⟩ := app1_core (tyy := tyy) (g1 := .rowP pk (ms.length + 1)) hT ht hte (by rw [hsl]; rfl) hT2 hty hsq hb1 hm1 hn1 rfl hone p3 hs1 hkey1 p1 fun cs hcs => by
      obtain ⟨a1, a2, a3⟩ := hcs
      rw [updP_same] at a2 a3
      have e0 : ptrsV (joinP (ρ pk) (ρ kf)) ms.length = ptrsV (ρ pk) ms.length := ptrsV_le (joinP_le _ _) (by rw [hP.cnt]; exact Nat.le_refl _)
      refine ⟨by rw [a3, ptrsV_len], hpkd, ?_, ?_⟩
      ·rw [updP_same]; show ms.length + 1 ≤ (ρ pk).pn + 1; rw [hP.cnt]; exact Nat.le_refl _
      ·rw [updP_same, a3, ptrs_join hP.cnt, e0]; rfl
     have hH : updsH H ((match Nat.beq kr kf with | true => [] | false => [(kr, .gone)]) ++ [(pk, .pool (.b .u8 none) (ms ++ [m])), (kf, .alias pk ms.length), (stamp, .segs false [.rowP pk (ms.length + 1)]), (key, .gone)]) = updsH H1 [(stamp, .segs false [.rowP pk (ms.length + 1)]), (key, .gone)] := by
      rw [← hH1]
      cases hbq : Nat.beq kr kf with
      | true =>
       have e := Nat.eq_of_beq_eq_true hbq
       subst e
       have : updH (updH (updH H kr .gone) pk (.pool (.b .u8 none) (ms ++ [m]))) kr (.alias pk ms.length) = updH (updH H pk (.pool (.b .u8 none) (ms ++ [m]))) kr (.alias pk ms.length) := by
        funext a
        by_cases e : a = kr
        ·subst e; rw [updH_same, updH_same]
        ·rw [updH_ne e, updH_ne e]
         by_cases e2 : a = pk
         ·subst e2; rw [updH_same, updH_same]
         ·rw [updH_ne e2, updH_ne e2, updH_ne e]
       rw [this]; rfl
      | false => rfl
     refine ⟨v, w', q1, ρ', fun k hk => (hle k).trans (q2 k (hdm k hk)), ?_, ?_⟩
     ·refine Eq.mp ?_ q3
      rw [← hH]; rfl
     ·refine Eq.mp ?_ q4
      rw [← hH]; rfl
    ·simp [RP.run] at h
   ·simp [RP.run] at h
  ·simp [RP.run] at h
 ·simp [RP.run] at h

theorem boxJoin_sound {T T2 tyy : TypeId} {ti ti2 te : TInfo} {ty : List (Nat × TInfo)} (hT : RowOk P T ti) (ht : ti.ty = .slice) (hte : assoc ty ti.elem = some te) (hsl : te.ty = .ptr) (hT2 : RowOk P T2 ti2) (hty : tabB P ty = true) (hsq : ti2.ty = .slice)
  (hm : Mem w0 M ρ H w) {stamp key kx kf : Nat} {len : SI} {vs vx : Value} (hs : D (dmOf H) ρ (.sl key 0 1 ⟨true, 0⟩ len) vs) (hx : D (dmOf H) ρ (.sl kx 0 1 ⟨true, .ofNat 0⟩ ⟨true, .ofNat 1⟩) vx) (hkx : H kx = some (.segs false [.one (.p kf 0)])) {l : List Seg} (hkf : H kf = some (.segs false l))
  {d : Delta} {rs rs' : List Nat} (h : (boxJoin stamp te key kf l len).run H rs = some (d, rs')) (hp : AllP d.pre) :
  ∃ v w', (Builtin.append_ #[T, T2] tyy #[vs, vx]).run P w = .ok v w' ∧ After w0 M ρ H d v w' := by
 unfold boxJoin at h
 split at h
 ·exact boxJoinW_sound hT ht hte hsl hT2 hty hsq hm hs hx hkx hkf (fun _ => .inl ⟨rfl, rfl, rfl⟩) h hp
 ·rename_i kr n
  simp only [RP.run] at h
  split at h
  ·rename_i m hkr
   exact boxJoinW_sound (pre := [n.z = (m.length : Int)]) hT ht hte hsl hT2 hty hsq hm hs hx hkx hkf (fun hp => .inr ⟨n, rfl, hp.1, hkr⟩) h hp
  ·simp [RP.run] at h
 ·simp [RP.run] at h

theorem appendP_sound {T T2 tyy : TypeId} {ti ti2 te : TInfo} {ty : List (Nat × TInfo)} (hT : RowOk P T ti) (ht : ti.ty = .slice) (hte : assoc ty ti.elem = some te) (hsl : te.ty = .ptr) (hT2 : RowOk P T2 ti2) (hty : tabB P ty = true) (hsq : ti2.ty = .slice)
  (hm : Mem w0 M ρ H w) {stamp : Nat} {s x : SV} {vs vx : Value} (hs : D (dmOf H) ρ s vs) (hx : D (dmOf H) ρ x vx) {d : Delta} {rs rs' : List Nat} (h : (appendPOp stamp te s x).run H rs = some (d, rs')) (hp : AllP d.pre) :
  ∃ v w', (Builtin.append_ #[T, T2] tyy #[vs, vx]).run P w = .ok v w' ∧ After w0 M ρ H d v w' := by
 unfold appendPOp at h
 split at h
 ·rename_i key len kx
  simp only [RP.run] at h
  split at h
  ·rename_i kf hkx
   obtain ⟨u, hu, hone⟩ := one_at (P := P) hm hx hkx
   simp only [RP.run] at h
   split at h
   ·rename_i l hkf
    split at h
    ·rename_i ts m hfl
     simp only [RP.run] at h
     split at h
     ·rename_i pk n hkey
      simp only [RP.run] at h
      split at h
      ·rename_i ts' ms hpk
       split at h
       ·rename_i hb
        simp only [Bool.and_eq_true] at hb
        have hts := tysEq_eq hb.1
        subst hts
        have hb1 : 0 < te.bytes := by have := hb.2; simp [Nat.blt] at this; omega
        simp only [RP.run] at h
        split at h
        ·rename_i hn
         have e := run_ret h
         subst e
         obtain ⟨p1, p2, p3, _⟩ := hp
         subst p2
         have hP := hm.pools.pool pk _ ms hpk
         obtain ⟨hm1, hle⟩ := hm.pool_joinG rfl hpk hkf fun dm ρ' cs hd => flatSegs_D l cs ts' m hfl hd
         have n1 : pk ≠ kf := fun e => by rw [e, hkf] at hpk; cases hpk
         have n2 : key ≠ pk := fun e => by rw [e, hpk] at hkey; cases hkey
         have n3 : key ≠ kf := fun e => by
          rw [e, hkf] at hkey
          simp only [Option.some.injEq, SB.segs.injEq, true_and] at hkey
          subst hkey
          simp [flatSegs] at hfl
         have n4 : stamp ≠ pk := fun e => by rw [e, hpk] at hn; cases hn
         have n5 : stamp ≠ kf := fun e => by rw [e, hkf] at hn; cases hn
         generalize hH1 : updH (updH H pk (.pool (.r ts') (ms ++ [m]))) kf (.alias pk ms.length) = H1 at hm1
         have hdm : ∀ a, dmOf H a → dmOf H1 a := fun a ha => by rw [← hH1]; exact dm_updH _ _ _ a (dm_updH _ _ _ a ha)
         have hkey1 : H1 key = some (.segs false [.rowP pk ms.length]) := by rw [← hH1, updH_ne n3, updH_ne n2]; exact hkey
         have hn1 : H1 stamp = none := by rw [← hH1, updH_ne n5, updH_ne n4]; exact hn
         have hs1 : D (dmOf H1) (updP ρ pk (joinP (ρ pk) (ρ kf))) (.sl key 0 1 ⟨true, 0⟩ len) vs := D.mono hdm (fun a _ => hle a) _ _ hs
         have hpkd : dmOf H1 pk := hdm pk (by unfold dmOf; rw [hpk]; rfl)
         simp only [D] at hu
         obtain ⟨_, rfl⟩ := hu
         obtain ⟨v, w', q1, ρ', q2, q3, q4⟩ := app1_core (tyy := tyy) (g1 := .rowP pk (ms.length + 1)) hT ht hte (by rw [hsl]; rfl) hT2 hty hsq hb1 hm1 hn1 rfl hone p3 hs1 hkey1 p1 fun cs hcs => by
          obtain ⟨a1, a2, a3⟩ := hcs
          rw [updP_same] at a2 a3
          have e0 : ptrsV (joinP (ρ pk) (ρ kf)) ms.length = ptrsV (ρ pk) ms.length := ptrsV_le (joinP_le _ _) (by rw [hP.cnt]; exact Nat.le_refl _)
          refine ⟨by rw [a3, ptrsV_len], hpkd, ?_, ?_⟩
          ·rw [updP_same]; show ms.length + 1 ≤ (ρ pk).pn + 1; rw [hP.cnt]; exact Nat.le_refl _
          ·rw [updP_same, a3, ptrs_join hP.cnt, e0]; rfl
         have hH : updsH H [(pk, .pool (.r ts') (ms ++ [m])), (kf, .alias pk ms.length), (stamp, .segs false [.rowP pk (ms.length + 1)]), (key, .gone)] = updsH H1 [(stamp, .segs false [.rowP pk (ms.length + 1)]), (key, .gone)] := by rw [← hH1]; rfl
         refine ⟨v, w', q1, ρ', fun k hk => (hle k).trans (q2 k (hdm k hk)), ?_, ?_⟩
         ·show D (dmOf (updsH H _)) _ _ _
          rw [hH]; exact q3
         ·show Mem w0 M ρ' (updsH H _) w'
          rw [hH]; exact q4
        ·simp [RP.run] at h
       ·simp [RP.run] at h
      ·simp [RP.run] at h
     ·simp [RP.run] at h
    ·obtain ⟨v, w', q1, q2⟩ := boxJoin_sound (tyy := tyy) hT ht hte hsl hT2 hty hsq hm hs hx hkx hkf h hp
     exact ⟨v, w', q1, q2⟩
   ·simp [RP.run] at h
  ·simp [RP.run] at h
 ·simp [RP.run] at h

theorem assign_sound (hm : Mem w0 M ρ H w) {stamp : Nat} {x : SV} {v : Value} (hx : D (dmOf H) ρ x v) {d : Delta} {rs rs' : List Nat} (h : (assignOp stamp x).run H rs = some (d, rs')) : After w0 M ρ H d v w := by
 have same : ∀ {rs0 : List Nat}, (ret x).run H rs0 = some (d, rs') → After w0 M ρ H d v w := fun h => by
  have e := run_ret h
  subst e
  exact ⟨ρ, fun _ _ => .refl _, hx, hm⟩
 unfold assignOp at h
 split at h
 ·rename_i key
  unfold beginP at h
  simp only [RP.run] at h
  split at h
  ·rename_i kf hkey
   simp only [RP.run] at h
   split at h
   ·rename_i l hkf
    split at h
    ·rename_i ts m hfl
     simp only [RP.run] at h
     split at h
     ·rename_i hn
      have e := run_ret h
      subst e
      have n1 : kf ≠ stamp + 500000 := fun e => by rw [e, hn] at hkf; cases hkf
      have n2 : key ≠ stamp + 500000 := fun e => by rw [e, hn] at hkey; cases hkey
      have n3 : key ≠ kf := fun e => by
       rw [e, hkf] at hkey
       simp only [Option.some.injEq, SB.segs.injEq, true_and] at hkey
       subst hkey
       simp [flatSegs] at hfl
      have hm2 := hm.pool_new hn (.r ts) rfl
      have e1 : updH H (stamp + 500000) (.pool (.r ts) []) (stamp + 500000) = some (.pool (.r ts) []) := updH_same _ _ _
      have e2 : updH H (stamp + 500000) (.pool (.r ts) []) kf = some (.segs false l) := by rw [updH_ne n1]; exact hkf
      obtain ⟨hm3, hle⟩ := hm2.pool_joinG rfl e1 e2 fun dm ρ' cs hd => flatSegs_D l cs ts m hfl hd
      rw [updH_over] at hm3
      simp only [List.nil_append, List.length_nil] at hm3
      have hkeep := updP_keeps (ρ := ρ) (p := ({ blk := 0, off := 0, cap := 0 } : Pl)) hn
      generalize hρ2 : updP ρ (stamp + 500000) ({ blk := 0, off := 0, cap := 0 } : Pl) = ρ2 at *
      have hkf2 : ρ2 kf = ρ kf := by rw [← hρ2, updP_ne n1]
      have hst2 : (ρ2 (stamp + 500000)).pn = 0 := by rw [← hρ2, updP_same]
      generalize hρ3 : updP ρ2 (stamp + 500000) (joinP (ρ2 (stamp + 500000)) (ρ2 kf)) = ρ3 at *
      generalize hH3 : updH (updH H (stamp + 500000) (.pool (.r ts) [m])) kf (.alias (stamp + 500000) 0) = H3 at *
      have hext : ∀ k, dmOf H k → PlLe (ρ k) (ρ3 k) := fun k hk => (hkeep k hk).trans (hle k)
      have hdm : ∀ a, dmOf H a → dmOf H3 a := fun a ha => by rw [← hH3]; exact dm_updH _ _ _ a (dm_updH _ _ _ a ha)
      have hkey3 : H3 key = some (.segs false [.one (.p kf 0)]) := by rw [← hH3, updH_ne n3, updH_ne n2]; exact hkey
      have hpd : dmOf H3 (stamp + 500000) := by rw [← hH3]; exact dm_updH _ _ _ _ (dm_new _ _ _)
      have hrow : ∀ cs, SegsD (dmOf H3) ρ3 [.one (.p kf 0)] cs → SegsD (dmOf H3) ρ3 [.rowP (stamp + 500000) 1] cs := fun cs hcs => by
       obtain ⟨c1, c2, ⟨_, u, hu, rfl⟩, rfl, h3⟩ := hcs
       simp only [D] at hu
       obtain ⟨_, rfl⟩ := hu
       refine ⟨_, c2, ⟨hpd, ?_, ?_⟩, rfl, h3⟩
       ·rw [← hρ3, updP_same]; show 1 ≤ (ρ2 (stamp + 500000)).pn + 1; omega
       ·have hz := hm3.heap.blk kf _ (show H3 kf = some (.alias (stamp + 500000) 0) by rw [← hH3, updH_same])
        obtain ⟨_, _, b3, b4, _⟩ := hz
        show _ = [Value.pointer (some ⟨(ρ3 (stamp + 500000)).pb 0, (ρ3 (stamp + 500000)).po 0, none⟩)]
        rw [← b3, ← b4]; rfl
      have hm4 := hm3.respell hkey3 hrow
      refine ⟨ρ3, hext, ?_, ?_⟩
      ·show D (dmOf (updsH H _)) ρ3 (.sl key 0 1 ⟨true, 0⟩ ⟨false, 1⟩) v
       have e : updsH H [(stamp + 500000, .pool (.r ts) [m]), (kf, .alias (stamp + 500000) 0), (key, .segs false [.rowP (stamp + 500000) 1])] = updH H3 key (.segs false [.rowP (stamp + 500000) 1]) := by rw [← hH3]; rfl
       rw [e]
       exact D.mono (fun k hk => dm_updH _ _ _ k (hdm k hk)) hext _ _ hx
      ·exact (show updsH H [(stamp + 500000, .pool (.r ts) [m]), (kf, .alias (stamp + 500000) 0), (key, .segs false [.rowP (stamp + 500000) 1])] = updH H3 key (.segs false [.rowP (stamp + 500000) 1]) by rw [← hH3]; rfl) ▸ hm4
     ·simp [RP.run] at h
    ·split at h
     ·simp only [RP.run] at h
      split at h
      ·rename_i hn
       have e := run_ret h
       subst e
       have n1 : kf ≠ stamp + 500000 := fun e => by rw [e, hn] at hkf; cases hkf
       have n2 : key ≠ stamp + 500000 := fun e => by rw [e, hn] at hkey; cases hkey
       have n3 : key ≠ kf := fun e => by
        rw [e, hkf] at hkey
        simp at hkey
       have hm2 := hm.pool_new hn (.b .u8 none) rfl
       have e1 : updH H (stamp + 500000) (.pool (.b .u8 none) []) (stamp + 500000) = some (.pool (.b .u8 none) []) := updH_same _ _ _
       have e2 : updH H (stamp + 500000) (.pool (.b .u8 none) []) kf = some (.segs false [.one .nsl]) := by rw [updH_ne n1]; exact hkf
       obtain ⟨hm3, hle⟩ := hm2.box_join (kr := kf) (m := []) e1 e2 (.inl ⟨rfl, rfl, rfl⟩)
       have hover : updH (updH (updH (updH H (stamp + 500000) (.pool (.b .u8 none) [])) kf .gone) (stamp + 500000) (.pool (.b .u8 none) ([] ++ [[]]))) kf (.alias (stamp + 500000) ([] : List (List Int)).length) = updH (updH H (stamp + 500000) (.pool (.b .u8 none) [[]])) kf (.alias (stamp + 500000) 0) := by
        funext a
        by_cases e : a = kf
        ·subst e; rw [updH_same, updH_same]; rfl
        ·rw [updH_ne e, updH_ne e]
         by_cases e2 : a = stamp + 500000
         ·subst e2; rw [updH_same, updH_same]; rfl
         ·rw [updH_ne e2, updH_ne e2, updH_ne e, updH_ne e2]
       rw [hover] at hm3
       have hkeep := updP_keeps (ρ := ρ) (p := ({ blk := 0, off := 0, cap := 0 } : Pl)) hn
       generalize hρ2 : updP ρ (stamp + 500000) ({ blk := 0, off := 0, cap := 0 } : Pl) = ρ2 at *
       have hkf2 : ρ2 kf = ρ kf := by rw [← hρ2, updP_ne n1]
       have hst2 : (ρ2 (stamp + 500000)).pn = 0 := by rw [← hρ2, updP_same]
       generalize hρ3 : updP ρ2 (stamp + 500000) (joinP (ρ2 (stamp + 500000)) (ρ2 kf)) = ρ3 at *
       generalize hH3 : updH (updH H (stamp + 500000) (.pool (.b .u8 none) [[]])) kf (.alias (stamp + 500000) 0) = H3 at *
       have hext : ∀ k, dmOf H k → PlLe (ρ k) (ρ3 k) := fun k hk => (hkeep k hk).trans (hle k)
       have hdm : ∀ a, dmOf H a → dmOf H3 a := fun a ha => by rw [← hH3]; exact dm_updH _ _ _ a (dm_updH _ _ _ a ha)
       have hkey3 : H3 key = some (.segs false [.one (.p kf 0)]) := by rw [← hH3, updH_ne n3, updH_ne n2]; exact hkey
       have hpd : dmOf H3 (stamp + 500000) := by rw [← hH3]; exact dm_updH _ _ _ _ (dm_new _ _ _)
       have hrow : ∀ cs, SegsD (dmOf H3) ρ3 [.one (.p kf 0)] cs → SegsD (dmOf H3) ρ3 [.rowP (stamp + 500000) 1] cs := fun cs hcs => by
        obtain ⟨c1, c2, ⟨_, u, hu, rfl⟩, rfl, h3⟩ := hcs
        simp only [D] at hu
        obtain ⟨_, rfl⟩ := hu
        refine ⟨_, c2, ⟨hpd, ?_, ?_⟩, rfl, h3⟩
        ·rw [← hρ3, updP_same]; show 1 ≤ (ρ2 (stamp + 500000)).pn + 1; omega
        ·have hz := hm3.heap.blk kf _ (show H3 kf = some (.alias (stamp + 500000) 0) by rw [← hH3, updH_same])
         obtain ⟨_, _, b3, b4, _⟩ := hz
         show _ = [Value.pointer (some ⟨(ρ3 (stamp + 500000)).pb 0, (ρ3 (stamp + 500000)).po 0, none⟩)]
         rw [← b3, ← b4]; rfl
       have hm4 := hm3.respell hkey3 hrow
       refine ⟨ρ3, hext, ?_, ?_⟩
       ·show D (dmOf (updsH H _)) ρ3 (.sl key 0 1 ⟨true, 0⟩ ⟨false, 1⟩) v
        have e : updsH H [(stamp + 500000, .pool (.b .u8 none) [[]]), (kf, .alias (stamp + 500000) 0), (key, .segs false [.rowP (stamp + 500000) 1])] = updH H3 key (.segs false [.rowP (stamp + 500000) 1]) := by rw [← hH3]; rfl
        rw [e]
        exact D.mono (fun k hk => dm_updH _ _ _ k (hdm k hk)) hext _ _ hx
       ·exact (show updsH H [(stamp + 500000, .pool (.b .u8 none) [[]]), (kf, .alias (stamp + 500000) 0), (key, .segs false [.rowP (stamp + 500000) 1])] = updH H3 key (.segs false [.rowP (stamp + 500000) 1]) by rw [← hH3]; rfl) ▸ hm4
      ·simp [RP.run] at h
     ·exact same h
   ·exact same h
  ·exact same h
 ·exact same h

end
end Go.Gx

/- append, of records of data. -/
namespace Go.Gx
open Go.RowKit
set_option linter.unusedVariables false

section
variable {P : Program} {w0 : World} {M : Nat → Prop} {ρ : Nat → Pl} {H : Nat → Option SB} {w : World}

structure EltAt (P : Program) (w : World) (vx : Value) (es : Nat) (us : List Value) : Prop where
 len : ∀ w' : World, (Builtin.lenOf vx).run P w' = .ok 1 w'
 cells : ∀ w' : World, (∀ a u, w.cell? a = some u → w'.cell? a = some u) → (Builtin.firstCells es 1 vx).run P w' = .ok us.toArray w'

theorem append_roomN {T T2 ty e : TypeId} {i : TypeInfo} (ht : P.underlying T = some (.slice e)) (hi : P.info? e = some i) (h2 : (∃ e, P.underlying T2 = some (.slice e)) ∨ P.underlying T2 = some .string)
  {a : Addr} {sLen sCap : Nat} {v : Value} {us : List Value} (hq : EltAt P w v i.size us) (hroom : sLen + 1 ≤ sCap) {w' : World}
  (hst : (storeCells (a.add (sLen * i.size)) us).run P w = .ok () w') :
  (Builtin.append_ #[T, T2] ty #[.slice (some a) sLen sCap, v]).run P w = .ok (.slice (some a) (sLen + 1) sCap) w' := by
 have hf := hq.cells w (fun _ _ h => h)
 have hl := hq.len
 rcases h2 with ⟨e2, h2⟩ | h2 <;> simp [Builtin.append_, run_underlying ht, run_underlying h2, sizeOf, typeInfo, hi, hl, hroom, hf, hst]

theorem append_growN {T T2 ty e : TypeId} {i : TypeInfo} {z : Value} (ht : P.underlying T = some (.slice e)) (hi : P.info? e = some i) (hz0 : i.zero = some z) (h2 : (∃ e, P.underlying T2 = some (.slice e)) ∨ P.underlying T2 = some .string)
  {base : Option Addr} {sLen sCap : Nat} {v : Value} {us : List Value} (hq : EltAt P w v i.size us) (hroom : sCap < sLen + 1) {xs : List Value}
  (hold : (Builtin.firstCells i.size sLen (.slice base sLen sCap)).run P w.drew = .ok xs.toArray w.drew) (h63 : ((sLen + 1 : Nat) : Int) ≤ 9223372036854775807) (hfit : Builtin.nextslicecap (sLen + 1) sCap * i.bytes ≤ 281474976710656) :
  (Builtin.append_ #[T, T2] ty #[.slice base sLen sCap, v]).run P w = .ok (.slice (some ⟨w.heap.size, 0, none⟩) (sLen + 1) (grownCap w (sLen + 1) sCap e))
   (w.drew.alloc (.cells (xs.toArray ++ us.toArray ++ Builtin.zeroCells z.cells (grownCap w (sLen + 1) sCap e - (sLen + 1))) e)) := by
 have hf := hq.cells w.drew (fun _ _ h => by simpa using h)
 have hl := hq.len
 have hn : ¬ (sLen + 1 ≤ sCap) := by omega
 have h63'' : ¬ (9223372036854775807 < ((sLen : Int) + 1)) := by omega
 have h48' : ¬ (281474976710656 < Builtin.nextslicecap (sLen + 1) sCap * i.bytes) := by omega
 rcases h2 with ⟨e2, h2⟩ | h2 <;> simp [Builtin.append_, run_underlying ht, run_underlying h2, sizeOf, typeInfo, zeroValue, hi, hz0, hl, hn, h63'', h48', Question.forced, hf, hold, newRow, grownCap] <;>
  (congr 2; apply Array.ext'; simp [List.append_assoc])

theorem appN_core {T T2 tyy : TypeId} {ti ti2 te : TInfo} {ty : List (Nat × TInfo)} (hT : RowOk P T ti) (ht : ti.ty = .slice) (hte : assoc ty ti.elem = some te) {es : Nat} (hes1 : te.ty.size = es) (h0 : 0 < es) (hT2 : RowOk P T2 ti2) (hty : tabB P ty = true) (hsq : ti2.ty = .slice) (hb : 0 < te.bytes)
  (hm : Mem w0 M ρ H w) {stamp : Nat} (hn : H stamp = none) {us : List Value} {vx vs : Value} (hu1 : ∀ u ∈ us, u.oneCell' = true) (hul : us.length = es) (hq : EltAt P w vx es us) {g1 : Seg} {n : Nat}
  (hpre : (((n + 1 : Nat) : Int) * (te.bytes : Int)) ≤ 70368744177664) {gone : List (Nat × SB)}
  (hold : (vs = .slice none 0 0 ∧ n = 0 ∧ gone = [] ∧ SegD (dmOf H) ρ g1 us) ∨ (∃ key len g0, D (dmOf H) ρ (.sl key 0 es ⟨true, 0⟩ len) vs ∧ H key = some (.segs false [g0]) ∧ len.z = (n : Int) ∧ gone = [(key, .gone)] ∧
   ∀ cs, SegD (dmOf H) ρ g0 cs → cs.length = n * es ∧ SegD (dmOf H) ρ g1 (cs ++ us))) :
  ∃ v w', (Builtin.append_ #[T, T2] tyy #[vs, vx]).run P w = .ok v w' ∧
   ∃ ρ', Ext H ρ ρ' ∧ D (dmOf (updsH H ((stamp, .segs false [g1]) :: gone))) ρ' (.sl stamp 0 es ⟨true, 0⟩ ⟨false, ((n + 1 : Nat) : Int)⟩) v ∧ Mem w0 M ρ' (updsH H ((stamp, .segs false [g1]) :: gone)) w' := by
 have hTe := rowB_ok (tabB_row hty hte)
 obtain ⟨ie, z, hi1, hi2, hi3, hi4, hi5⟩ := hTe.info
 have hU := slice_of hT ht
 have hes : ie.size = es := by rw [hi2, hes1]
 have hz1 : z.cells.size = es := by rw [zeroB_size hi5, hes1]
 have h2 := noInt_of hT2 (show (match ti2.ty with | .slice => true | .str => true | _ => false) = true by rw [hsq])
 have hb' : ((n + 1 : Nat) : Int) * (ie.bytes : Int) ≤ 70368744177664 := by rw [hi3]; exact hpre
 have hbn : (n + 1) * ie.bytes ≤ 140737488355328 := by
  have : (((n + 1) * ie.bytes : Nat) : Int) ≤ 70368744177664 := by simpa using hb'
  omega
 have hbb : 0 < ie.bytes := by rw [hi3]; exact hb
 have hsmall : n + 1 ≤ 140737488355328 := by
  have : (n + 1) * 1 ≤ (n + 1) * ie.bytes := Nat.mul_le_mul_left _ (by omega)
  omega
 rw [← hes] at hq
 -- a new block
 have grow : ∀ (c1 : List Value) (cap : Nat), c1.length = n * es → cap < n + 1 → SegD (dmOf H) ρ g1 (c1 ++ us) → (∀ k b, (k, b) ∈ gone → (H k).isSome = true ∧ b = .gone) →
   ∃ ρ', Ext H ρ ρ' ∧ D (dmOf (updsH H ((stamp, .segs false [g1]) :: gone))) ρ' (.sl stamp 0 es ⟨true, 0⟩ ⟨false, ((n + 1 : Nat) : Int)⟩) (.slice (some ⟨w.heap.size, 0, none⟩) (n + 1) (grownCap w (n + 1) cap ti.elem)) ∧
    Mem w0 M ρ' (updsH H ((stamp, .segs false [g1]) :: gone)) (w.drew.alloc (.cells (c1.toArray ++ us.toArray ++ Builtin.zeroCells z.cells (grownCap w (n + 1) cap ti.elem - (n + 1))) ti.elem)) := fun c1 cap hcl hroom hnew hgn => by
  have hge := grownCap_ge w (n + 1) cap ti.elem
  generalize grownCap w (n + 1) cap ti.elem = cp at *
  have hal := (hm.drew (w.drawn + 1)).alloc hn (segs_one (dm := dmOf H) (ρ := ρ) (g := g1) (cs := c1 ++ us) hnew) (cells := c1.toArray ++ us.toArray ++ Builtin.zeroCells z.cells (cp - (n + 1)))
   (T := ti.elem) (fr := (0, 0)) (extra := (Builtin.zeroCells z.cells (cp - (n + 1))).toList) (by simp) (.inl rfl)
  have hsz : (c1.toArray ++ us.toArray ++ Builtin.zeroCells z.cells (cp - (n + 1))).size = es * cp := by
   simp only [Array.size_append, List.size_toArray, Builtin.zeroCells, Array.size_map, Array.size_range, hz1, hcl, hul]
   rw [show n * es + es = (n + 1) * es by rw [Nat.add_mul, Nat.one_mul], ← Nat.add_mul, Nat.add_sub_cancel' hge, Nat.mul_comm]
  have hgo : ∀ (l : List (Nat × SB)) (H1 : Nat → Option SB) (w1 : World) (ρ1 : Nat → Pl), (∀ k b, (k, b) ∈ l → (H1 k).isSome = true ∧ b = .gone) → Mem w0 M ρ1 H1 w1 → Mem w0 M ρ1 (updsH H1 l) w1 ∧ ∀ k, dmOf H1 k → dmOf (updsH H1 l) k := by
   intro l
   induction l with
   | nil => intro H1 w1 ρ1 _ h; exact ⟨h, fun _ h => h⟩
   | cons p r ih =>
    intro H1 w1 ρ1 hp h
    obtain ⟨k, b⟩ := p
    obtain ⟨q1, rfl⟩ := hp k b (by simp)
    have hh := h.gone k q1
    obtain ⟨a, c⟩ := ih (updH H1 k .gone) w1 ρ1 (fun k' b' hk' => by
     obtain ⟨q3, q4⟩ := hp k' b' (by simp [hk'])
     exact ⟨dm_updH H1 k .gone k' q3, q4⟩) hh
    exact ⟨a, fun k' hk' => c k' (dm_updH H1 k .gone k' hk')⟩
  obtain ⟨m1, m2⟩ := hgo gone _ _ _ (fun k b hk => ⟨dm_updH _ _ _ k (hgn k b hk).1, (hgn k b hk).2⟩) hal
  refine ⟨_, updP_keeps hn, ?_, m1⟩
  refine sl_D (m2 _ (dm_new _ _ _)) _ (by omega) hge (.inl ⟨?_, ?_⟩)
  ·rw [updP_same]; rfl
  ·rw [updP_same, hsz]; exact Nat.le_refl _
 rcases hold with ⟨rfl, rfl, rfl, hnew⟩ | ⟨key, len, g0, hD, hkey, hlz, rfl, hg⟩
 ·refine ⟨_, _, append_growN (xs := []) hU hi1 hi4 h2 hq (by omega) (by simp [Builtin.firstCells]) (by omega) (growslice_fits (by omega) hbn), ?_⟩
  exact grow [] 0 (by simp) (by omega) hnew (fun _ _ h => by cases h)
 ·simp only [D] at hD
  obtain ⟨hk, ho, hl, hr0, ad, cap, rfl, hlc, hdis⟩ := hD
  have hlen : len.z.toNat = n := by omega
  rw [hlen] at hlc ⊢
  obtain ⟨vs, h1, h3, h4, h5⟩ := hm.segs hkey
  obtain ⟨c1, c2, e1, rfl, e3⟩ := h1
  have e4 : c2 = [] := e3
  subst e4
  simp only [List.append_nil] at h3 h4
  obtain ⟨hcl, hnew⟩ := hg c1 e1
  rcases Nat.lt_or_ge cap (n + 1) with hroom | hroom
  ·refine ⟨_, _, append_growN (xs := c1) hU hi1 hi4 h2 hq (by omega) ?_ (by omega) (growslice_fits (by omega) hbn), grow c1 cap hcl hroom hnew fun k b hkb => by
    simp only [List.mem_singleton, Prod.mk.injEq] at hkb
    obtain ⟨rfl, rfl⟩ := hkb
    exact ⟨by rw [hkey]; rfl, rfl⟩⟩
   rcases hdis with ⟨rfl, hcap⟩ | ⟨d1, d2⟩
   ·refine firstCells_some _ _ _ _ _ _ (by rw [hcl, hes]) (fun j u hu2 => ?_)
    rw [addr_add]
    have := h4 j u hu2
    simpa [at_] using this
   ·have h0 : n = 0 := by omega
    have : c1 = [] := List.eq_nil_of_length_eq_zero (by rw [hcl, h0]; simp)
    rw [this, h0]
    cases ad <;> simp [Builtin.firstCells, loadCells, loadCellsFrom]
  ·rcases hdis with ⟨rfl, hcap⟩ | ⟨d1, d2⟩
   ·have hcap' : es * cap ≤ (ρ key).cap := by simpa using hcap
    have hth := h5 rfl
    have hfit : n * es + es ≤ (ρ key).cap := by
     have : (n + 1) * es ≤ cap * es := Nat.mul_le_mul_right _ hroom
     rw [Nat.add_mul, Nat.one_mul, Nat.mul_comm cap es] at this
     omega
    have hst := run_storeCells_cells (P := P) (ρ key).blk ((ρ key).off + n * es) us 0 w
     (fun j hj => by have := (hth (n * es + j) (by omega)).1; simpa [Nat.add_assoc] using this)
     (fun j hj => by have := (hth (n * es + j) (by omega)).2; simpa [Nat.add_assoc] using this) hu1
    simp only [Nat.add_zero] at hst
    refine ⟨_, w.setCells (ρ key).blk ((ρ key).off + n * es) us, append_roomN hU hi1 h2 hq hroom ?_, ?_⟩
    ·rw [addr_add, hes]
     simpa [at_] using hst
    ·have hmm := hm.store (nv := us) (o := n * es) (vs' := c1 ++ us) (l' := [g1]) hkey h4 (by omega) (by omega) h3
      (by rw [← hcl, List.take_length, List.drop_eq_nil_of_le (by omega), List.append_nil]) (segs_one hnew)
     have hn' : updH H key (.segs false [g1]) stamp = none := by
      rw [updH_ne]; exact hn
      intro e; rw [e, hkey] at hn; cases hn
     have hne : stamp ≠ key := fun e => by rw [e, hkey] at hn; cases hn
     have hre := hmm.rekey (new := stamp) (updH_same _ _ _) hn'
     rw [updH_over, updH_comm (Ne.symm hne)] at hre
     refine ⟨updP ρ stamp (ρ key), updP_keeps hn, ?_, hre⟩
     refine sl_D (dm_updH _ _ _ _ (dm_new _ _ _)) _ (by omega) hroom (.inl ⟨?_, ?_⟩)
     ·rw [updP_same]; simp
     ·rw [updP_same]; simpa using hcap'
   ·omega

theorem ChainR.append {R : RO → Value → Prop} : ∀ {xs ys : List RO} {cs cs' : List Value}, ChainR R xs cs → ChainR R ys cs' → ChainR R (xs ++ ys) (cs ++ cs')
 | [], ys, cs, cs', h, h' => by rw [show cs = [] from h]; exact h'
 | x :: r, ys, cs, cs', h, h' => by
  obtain ⟨v, c, h1, h2, h3⟩ := h
  exact ⟨v, c ++ cs', h1, by rw [h2, List.append_assoc], ChainR.append h3 h'⟩

theorem appDat_run {stamp : Nat} {te : TInfo} {F : Nat} {fs : List Sh} {ds : List RO} {l : List Seg} {gone : List (Nat × SB)} {pre : List Prop} {d : Delta} {rs rs' : List Nat} (h : (appDat stamp te F fs ds l gone pre).run H rs = some (d, rs')) :
  ∃ xs, datWs F fs l = some xs ∧ 0 < te.bytes ∧ te.ty.size = shSizes fs ∧ 0 < shSizes fs ∧ H stamp = none ∧
   d = ⟨((((ds.length + 1 : Nat) : Int) * (te.bytes : Int)) ≤ 70368744177664) :: pre, .sl stamp 0 (shSizes fs) ⟨true, 0⟩ ⟨false, ((ds.length + 1 : Nat) : Int)⟩, (stamp, .segs false [.rowD F (.r fs) (ds ++ [.r xs])]) :: gone, true⟩ := by
 unfold appDat at h
 split at h
 ·rename_i xs hx hb
  simp only [Bool.and_eq_true] at hb
  obtain ⟨⟨b1, b2⟩, b3⟩ := hb
  simp only [RP.run] at h
  split at h
  ·rename_i hn
   refine ⟨xs, hx, ?_, Nat.eq_of_beq_eq_true b2, ?_, hn, run_ret h⟩
   ·simp [Nat.blt] at b1; omega
   ·simp [Nat.blt] at b3; omega
  ·simp [RP.run] at h
 ·simp [RP.run] at h

theorem elt_at (hm : Mem w0 M ρ H w) {kx es : Nat} {ro : Bool} {l : List Seg} {vx : Value} (hx : D (dmOf H) ρ (.sl kx 0 es ⟨true, .ofNat 0⟩ ⟨true, .ofNat 1⟩) vx) (hk : H kx = some (.segs ro l)) (hl : ∀ cs, SegsD (dmOf H) ρ l cs → cs.length = es) :
  ∃ cs, SegsD (dmOf H) ρ l cs ∧ EltAt P w vx es cs := by
 simp only [D] at hx
 obtain ⟨_, _, _, _, ad, cap, rfl, hlc, hdis⟩ := hx
 obtain ⟨vs, h1, h2, h3, h4⟩ := hm.segs hk
 rcases hdis with ⟨rfl, hcap⟩ | ⟨h0, _⟩
 ·refine ⟨vs, h1, fun w' => rfl, fun w' hw' => ?_⟩
  refine firstCells_some es 1 _ _ _ vs (by rw [hl vs h1]; simp) (fun j v hv => hw' _ _ ?_)
  rw [addr_add]
  have := h3 j v hv
  simpa [at_] using this
 ·exact absurd h0 (by decide)

theorem appendD_sound {T T2 tyy : TypeId} {ti ti2 te : TInfo} {ty : List (Nat × TInfo)} (hT : RowOk P T ti) (ht : ti.ty = .slice) (hte : assoc ty ti.elem = some te) (hT2 : RowOk P T2 ti2) (hty : tabB P ty = true) (hsq : ti2.ty = .slice)
  (hm : Mem w0 M ρ H w) {stamp : Nat} {s x : SV} {vs vx : Value} (hs : D (dmOf H) ρ s vs) (hx : D (dmOf H) ρ x vx) {d : Delta} {rs rs' : List Nat} (h : (appendDOp stamp te s x).run H rs = some (d, rs')) (hp : AllP d.pre) :
  ∃ v w', (Builtin.append_ #[T, T2] tyy #[vs, vx]).run P w = .ok v w' ∧ After w0 M ρ H d v w' := by
 unfold appendDOp at h
 split at h
 ·rename_i kx est
  simp only [RP.run] at h
  split at h
  ·rename_i l hkx
   split at h
   ·rename_i he
    have he := Nat.eq_of_beq_eq_true he
    -- what the two cases share
    have fin : ∀ (F : Nat) (fs : List Sh) (ds : List RO) (gone : List (Nat × SB)) (pre : List Prop) (rs1 : List Nat), (appDat stamp te F fs ds l gone pre).run H rs1 = some (d, rs') → dmOf H F → (∃ wF Out, (ρ F).rel = RoD wF Out) →
      (vs = .slice none 0 0 ∧ ds = [] ∧ gone = [] ∨ ∃ key len, D (dmOf H) ρ (.sl key 0 est ⟨true, 0⟩ len) vs ∧ H key = some (.segs false [.rowD F (.r fs) ds]) ∧ (AllP pre → len.z = (ds.length : Int)) ∧ gone = [(key, .gone)]) →
      ∃ v w', (Builtin.append_ #[T, T2] tyy #[vs, vx]).run P w = .ok v w' ∧ After w0 M ρ H d v w' := fun F fs ds gone pre rs1 hr hdF hF hcase => by
     obtain ⟨xs, hxs, hb, hsz, h0, hn, rfl⟩ := appDat_run hr
     obtain ⟨wF, Out, hF⟩ := hF
     have hlen : ∀ cs, SegsD (dmOf H) ρ l cs → cs.length = est := fun cs hc => by
      rw [(datWs_ok hF xs fs l xs 0 cs hxs rfl hc).2.2, ← hsz, he]
     obtain ⟨us, hus, hq⟩ := elt_at (P := P) hm hx hkx hlen
     obtain ⟨q1, q2, q3⟩ := datWs_ok hF xs fs l xs 0 us hxs rfl hus
     have hesz : est = shSizes fs := by rw [he, hsz]
     have hel : ∀ ds' cs, ChainR ((ρ F).rel (.r fs)) ds' cs → cs.length = shSizes fs * ds'.length → (∀ v ∈ cs, v.oneCell' = true) → (∀ d ∈ ds', RoF (.r fs) d) → SegD (dmOf H) ρ (.rowD F (.r fs) (ds' ++ [.r xs])) (cs ++ us) := fun ds' cs a1 a2 a3 a4 => by
      have hR : RoD wF Out (.r fs) (.r xs) (.agg us.toArray) := by simp only [RoD]; exact ⟨us, q1, rfl⟩
      refine ⟨hdF, ⟨wF, Out, hF⟩, a1.append ⟨.agg us.toArray, [], by rw [hF]; exact hR, by simp [Value.cells], rfl⟩, ?_, fun v hv => ?_, fun d hd => ?_⟩
      ·rw [List.length_append, a2, q3, List.length_append, List.length_singleton, Nat.mul_add, Nat.mul_one]; rfl
      ·rcases List.mem_append.1 hv with hv | hv
       ·exact a3 v hv
       ·exact q2 v hv
      ·rcases List.mem_append.1 hd with hd | hd
       ·exact a4 d hd
       ·simp only [List.mem_singleton] at hd; subst hd; exact RoD.fact _ _ _ hR
     obtain ⟨v, w', r1, ρ', r2, r3, r4⟩ := appN_core (tyy := tyy) (es := shSizes fs) (g1 := .rowD F (.r fs) (ds ++ [.r xs])) (n := ds.length) (gone := gone) hT ht hte hsz h0 hT2 hty hsq hb hm hn q2 q3 (by rw [← hesz]; exact hq) hp.1 (by
      rcases hcase with ⟨c1, rfl, c3⟩ | ⟨key, len, c1, c2, c3, c4⟩
      ·exact .inl ⟨c1, rfl, c3, by simpa using hel [] [] rfl (by simp) (fun v hv => (by cases hv)) (fun d hd => (by cases hd))⟩
      ·refine .inr ⟨key, len, _, by rw [← hesz]; exact c1, c2, c3 hp.2, c4, fun cs hcs => ?_⟩
       obtain ⟨a1, a2, a3, a4, a5, a6⟩ := hcs
       exact ⟨by rw [a4, Nat.mul_comm]; rfl, hel ds cs a3 a4 a5 a6⟩)
     exact ⟨v, w', r1, ρ', r2, r3, r4⟩
    split at h
    ·-- nil
     simp only [D] at hs
     split at h
     ·rename_i F fs _ _
      simp only [RP.run] at h
      split at h
      ·rename_i hF
       exact fin F fs [] [] [] _ h (dm_of hF) ⟨_, _, hm.view F hF⟩ (.inl ⟨hs, rfl, rfl⟩)
      ·rename_i zs hF
       obtain ⟨wF, e1, _⟩ := (hm.pools.pool F _ zs hF).fzD rfl
       exact fin F fs [] [] [] _ h (dm_of hF) ⟨_, _, e1⟩ (.inl ⟨hs, rfl, rfl⟩)
      ·simp [RP.run] at h
     ·simp [RP.run] at h
    ·rename_i key est' len
     simp only [RP.run] at h
     split at h
     ·rename_i F fs ds hkey
      split at h
      ·rename_i hee
       have hee := Nat.eq_of_beq_eq_true hee
       subst hee
       obtain ⟨c, h1, _⟩ := hm.segs hkey
       obtain ⟨c1, c2, e1, _⟩ := h1
       exact fin F fs ds _ _ _ h e1.1 e1.2.1 (.inr ⟨key, len, hs, hkey, fun hp => hp.1, rfl⟩)
      ·simp [RP.run] at h
     ·simp [RP.run] at h
    ·simp [RP.run] at h
   ·simp [RP.run] at h
  ·simp [RP.run] at h
 ·simp [RP.run] at h

end
end Go.Gx
