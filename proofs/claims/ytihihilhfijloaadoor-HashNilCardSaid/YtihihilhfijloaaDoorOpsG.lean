/- Slices, parts of structs, literals, make. -/
import Derived.Test.YtihihilhfijloaaDoorOpsF
namespace Go.Gx
open Go.RowKit
set_option linter.unusedVariables false

section
variable {P : Program} {w0 : World} {M : Nat → Prop} {ρ : Nat → Pl} {H : Nat → Option SB} {w : World}

/-- An optional bound: its value, or what stands in its place. -/
def OptD (dm : Nat → Prop) (ρ : Nat → Pl) (x : Option SV) (v : Option Value) : Prop :=
  (x = none ∧ v = none) ∨ ∃ y u, x = some y ∧ v = some u ∧ D dm ρ y u

theorem optI_sound {dm : Nat → Prop} {d a : SI} {x : Option SV} {v : Option Value} (h : optI d x = some a) (hx : OptD dm ρ x v) : (v = none ∧ a = d) ∨ ∃ k, v = some (.int k a.z) := by
  rcases hx with ⟨rfl, rfl⟩ | ⟨y, u, rfl, rfl, hd⟩
  · simp only [optI, Option.some.injEq] at h; exact .inl ⟨rfl, h.symm⟩
  · cases y <;> simp only [optI, Option.some.injEq, reduceCtorEq] at h
    subst h
    simp only [D] at hd
    exact .inr ⟨_, by rw [hd.1]⟩

theorem AllR.drop_take_ {k : IntKind} {l : List Int} (h : AllR k l) (a b : Nat) : AllR k ((l.drop a).take b) := fun z hz => h z (List.mem_of_mem_drop (List.mem_of_mem_take hz))

theorem ChainR.drop {R : RO → Value → Prop} {n : Nat} (hn : ∀ d v, R d v → v.cells.toList.length = n) : ∀ (a : Nat) (xs : List RO) (cs : List Value), ChainR R xs cs → ChainR R (xs.drop a) (cs.drop (n * a))
  | 0, xs, cs, h => by simpa using h
  | a + 1, [], cs, h => by rw [show cs = [] from h]; simp; rfl
  | a + 1, x :: r, cs, h => by
    obtain ⟨v, c, h1, rfl, h3⟩ := h
    have ih := ChainR.drop hn a r c h3
    have hl := hn x v h1
    have e : (v.cells.toList ++ c).drop (n * (a + 1)) = c.drop (n * a) := by
      rw [Nat.mul_add, Nat.mul_one, List.drop_append, List.drop_eq_nil_of_le (as := v.cells.toList) (by omega), List.nil_append, hl, Nat.add_sub_cancel]
    rw [List.drop_succ_cons, e]
    exact ih
theorem ChainR.take {R : RO → Value → Prop} {n : Nat} (hn : ∀ d v, R d v → v.cells.toList.length = n) : ∀ (a : Nat) (xs : List RO) (cs : List Value), ChainR R xs cs → ChainR R (xs.take a) (cs.take (n * a))
  | 0, xs, cs, h => by simp; rfl
  | a + 1, [], cs, h => by rw [show cs = [] from h]; simp; rfl
  | a + 1, x :: r, cs, h => by
    obtain ⟨v, c, h1, rfl, h3⟩ := h
    have ih := ChainR.take hn a r c h3
    have hl := hn x v h1
    have e : (v.cells.toList ++ c).take (n * (a + 1)) = v.cells.toList ++ c.take (n * a) := by
      rw [Nat.mul_add, Nat.mul_one, List.take_append, List.take_of_length_le (l := v.cells.toList) (by omega), hl, Nat.add_sub_cancel]
    rw [List.take_succ_cons, e]
    exact ⟨v, _, h1, rfl, ih⟩

/-- A part of a slice of data. -/
theorem RoD_sub {w : World} {Out : Nat → Prop} {sh : Sh} {d : RO} {ad : Option Addr} {n cap : Nat} (h : RoD w Out sh d (.slice ad n cap)) (hn : n = roLen sh d) {a z : Nat} (h1 : a + z ≤ n) :
    roLen sh (roSub sh d a z) = z ∧ ∀ ad', (a < cap → ad' = ad.map (·.add (a * shEl sh))) → RoD w Out sh (roSub sh d a z) (.slice ad' z (cap - a)) := by
  have hadd : ∀ (b o m : Nat), (⟨b, o, none⟩ : Addr).add m = ⟨b, o + m, none⟩ := fun b o m => by by_cases h : m = 0 <;> simp [Addr.add, h]
  cases sh with
  | ints k =>
    simp only [RoD] at h
    obtain ⟨a0, cap', q1, q2, q3, q4, q5⟩ := h
    simp only [Value.slice.injEq] at q1
    obtain ⟨rfl, rfl, rfl⟩ := q1
    have hz : (((roL d).drop a).take z).length = z := by rw [List.length_take, List.length_drop]; omega
    refine ⟨hz, fun ad' had => ?_⟩
    have er : ∀ x, roL (.l x) = x := fun x => rfl
    simp only [RoD, roSub, er]
    refine ⟨ad', cap - a, by rw [hz], by rw [hz]; omega, by rw [hz]; omega, q4.drop_take_ _ _, ?_⟩
    rcases q5 with ⟨b, o, rfl, r1, r2⟩ | ⟨r1, r2⟩
    · by_cases hc : a < cap
      · left
        refine ⟨b, o + a, by rw [had hc]; simp [shEl, hadd], r1, ?_⟩
        have := rangeAt_part r2 a z
        rw [← List.map_drop, ← List.map_take] at this
        exact this
      · exact .inr ⟨by rw [hz]; omega, by omega⟩
    · exact .inr ⟨by rw [hz]; omega, by omega⟩
  | l e =>
    simp only [RoD] at h
    obtain ⟨a0, cap', cs, q1, q2, q3, q4, q5⟩ := h
    simp only [Value.slice.injEq] at q1
    obtain ⟨rfl, rfl, rfl⟩ := q1
    have hz : (((roX d).drop a).take z).length = z := by rw [List.length_take, List.length_drop]; omega
    refine ⟨hz, fun ad' had => ?_⟩
    have er : ∀ x, roX (.r x) = x := fun x => rfl
    simp only [RoD, roSub, er]
    refine ⟨ad', cap - a, (cs.drop (shSize e * a)).take (shSize e * z), by rw [hz], by rw [hz]; omega, by rw [hz]; omega, ChainR.take (fun d v h => RoD_cells e d v h) z _ _ (ChainR.drop (fun d v h => RoD_cells e d v h) a _ _ q4), ?_⟩
    rcases q5 with ⟨b, o, rfl, r1, r2⟩ | ⟨r1, r2⟩
    · by_cases hc : a < cap
      · left
        refine ⟨b, o + shSize e * a, by rw [had hc]; simp [shEl, hadd, Nat.mul_comm], r1, rangeAt_part r2 _ _⟩
      · exact .inr ⟨by rw [hz]; omega, by omega⟩
    · exact .inr ⟨by rw [hz]; omega, by omega⟩
  | _ => simp only [RoD] at h <;> simp at h

theorem RoD_D {dm : Nat → Prop} {ρ : Nat → Pl} {key : Nat} (hk : dm key) {w : World} {Out : Nat → Prop} (hr : (ρ key).rel = RoD w Out) {sh : Sh} {d : RO} {ad : Option Addr} {n cap : Nat} (h : RoD w Out sh d (.slice ad n cap)) : D dm ρ (.ro key sh d) (.slice ad n cap) := by
  cases sh with
  | ints k => exact svOf_D hk hr (.ints k) d _ h
  | l e => exact svOf_D hk hr (.l e) d _ h
  | _ => simp only [RoD] at h <;> simp at h

theorem slice_sound {T : TypeId} {ti : TInfo} {ty : List (Nat × TInfo)} (hT : RowOk P T ti) (hm : Mem w0 M ρ H w) {x : SV} {vx : Value} (hx : D (dmOf H) ρ x vx) {lo hi : Option SV} {vlo vhi : Option Value}
    (hlo : OptD (dmOf H) ρ lo vlo) (hhi : OptD (dmOf H) ρ hi vhi) {d : Delta} {rs rs' : List Nat} (hest : ∀ key c est off len, x = .sl key c est off len → ti.ty = .slice → (∀ y, (sizeOf ti.elem).run P y = .ok est y)) (hestR : ∀ key sh d, x = .ro key sh d → ti.ty = .slice → (∀ y, (sizeOf ti.elem).run P y = .ok (shEl sh) y))
    (h : (sliceOp ti x lo hi).run H rs = some (d, rs')) (hp : AllP d.pre) : d.ws = [] ∧ ∃ v, (Instr.sliceAt T vx vlo vhi none).run P w = .ok v w ∧ D (dmOf H) ρ d.v v := by
  have hty' := hT.ty
  unfold sliceOp at h
  split at h
  · rename_i key c n k l ht hl
    simp only [D] at hx
    obtain ⟨hk, rfl⟩ := hx
    simp only [RP.run] at h
    split at h
    · rename_i ro gs hkey
      split at h
      · rename_i k2 m ex y hs
        split at h
        · rename_i hh hb hhh
          simp only [Bool.and_eq_true] at hb
          have hnm := Nat.eq_of_beq_eq_true hb.1
          have hbig := Nat.le_of_ble_eq_true hb.2
          split at h
          · rename_i p hb3
            have e := run_ret h; subst e
            obtain ⟨b1, b2, b3⟩ := bounds3_ok hb3 hp
            simp only at b3
            rw [ht] at hty'
            unfold tyB at hty'
            split at hty'
            · rename_i n' T' hu
              simp only [Bool.and_eq_true] at hty'
              obtain ⟨⟨e1, e2⟩, e3⟩ := hty'
              have hn := Nat.eq_of_beq_eq_true e1
              split at e2
              · rename_i ii hii
                have hsz : ii.size = 1 := Nat.eq_of_beq_eq_true e2
                obtain ⟨vs, g1, g2, g3, _⟩ := hm.segs hkey
                obtain ⟨pre, cs, post, f1, f2, f3, _, _⟩ := segAt_D gs c vs _ 0 g1 hs
                have hcs := segLen_D f2 (n := m) rfl
                have hcap : c + n ≤ (ρ key).cap := by
                  have : vs.length = pre.length + cs.length + post.length := by rw [f1]; simp; omega
                  omega
                have hbnd := sliceBounds_run (P := P) (w := w) false n n l hh vlo vhi
                  (by rcases optI_sound hl hlo with ⟨q1, q2⟩ | q; exact .inl ⟨q1, by rw [q2]⟩; exact .inr q)
                  (by rcases optI_sound hhh hhi with ⟨q1, q2⟩ | q; exact .inl ⟨q1, by rw [q2]⟩; exact .inr q) b1 b2 b3
                have hdif : (hh.z - l.z).toNat = hh.z.toNat - l.z.toNat := by omega
                subst hn
                have hrun : (Instr.sliceAt T (.pointer (some (at_ (ρ key) c))) vlo vhi none).run P w = .ok (.slice (some (if n = l.z.toNat then at_ (ρ key) c else at_ (ρ key) (c + l.z.toNat))) (hh.z.toNat - l.z.toNat) (n - l.z.toNat)) w := by
                  simp [Instr.sliceAt, run_underlying hu, Instr.sureAddr, hbnd, sizeOf, typeInfo, hii, hsz, addr_add]
                refine ⟨rfl, _, hrun, hk, b1, by rw [subI_z]; omega, by rw [subI_z]; simp only [InR]; omega, _, _, by rw [subI_z, hdif], by rw [subI_z, hdif]; omega, ?_⟩
                rw [subI_z]
                by_cases he : n = l.z.toNat
                · exact .inr ⟨by omega, by omega⟩
                · rw [if_neg he, Nat.one_mul, Nat.one_mul]
                  exact .inl ⟨rfl, by omega⟩
              · cases e2
            · cases hty'
          · simp [RP.run] at h
        · simp [RP.run] at h
      · simp [RP.run] at h
    · simp [RP.run] at h
  · rename_i key c est off len l ht hl
    have hestt := hest key c est off len rfl ht
    simp only [D] at hx
    obtain ⟨hk, ho, hl0, hlr, ad, cap, rfl, hlc, hdis⟩ := hx
    split at h
    · rename_i hh hhh
      split at h
      · rename_i p hb3
        have e := run_ret h; subst e
        obtain ⟨b1, b2, b3⟩ := bounds3_ok hb3 hp
        rw [ht] at hty'
        unfold tyB at hty'
        split at hty'
        · rename_i el hu
          have hee := hT.slice el hu
          subst hee
          have hbnd := sliceBounds_run (P := P) (w := w) true len.z.toNat cap l hh vlo vhi
            (by rcases optI_sound hl hlo with ⟨q1, q2⟩ | q; exact .inl ⟨q1, by rw [q2]⟩; exact .inr q)
            (by rcases optI_sound hhh hhi with ⟨q1, q2⟩ | q; exact .inl ⟨q1, by rw [q2]; omega⟩; exact .inr q) b1 b2 (by omega)
          have hdif : (hh.z - l.z).toNat = hh.z.toNat - l.z.toNat := by omega
          have hrun : (Instr.sliceAt T (.slice ad len.z.toNat cap) vlo vhi none).run P w = .ok (.slice (if cap = l.z.toNat then ad else ad.map (·.add (l.z.toNat * est))) (hh.z.toNat - l.z.toNat) (cap - l.z.toNat)) w := by
            simp [Instr.sliceAt, Instr.slice, run_underlying hu, hbnd, hestt]
          have hInR : InR .i64 (hh.z - l.z) := by simp only [InR] at hlr ⊢; omega
          refine ⟨rfl, _, hrun, hk, by rw [addI_z]; omega, by rw [subI_z]; omega, by rw [subI_z]; exact hInR, _, _, by rw [subI_z, hdif], by rw [subI_z, hdif]; omega, ?_⟩
          rw [subI_z, addI_z]
          by_cases he : cap = l.z.toNat
          · exact .inr ⟨by omega, by omega⟩
          · rw [if_neg he]
            rcases hdis with ⟨rfl, hcap⟩ | ⟨q1, q2⟩
            · have e1 : (off.z + l.z).toNat = off.z.toNat + l.z.toNat := Int.toNat_add ho b1
              refine .inl ⟨?_, ?_⟩
              · simp only [Option.map_some, addr_add, e1, Nat.mul_add]
                rw [Nat.mul_comm l.z.toNat est, Nat.add_assoc]
              · rw [e1, Nat.mul_add]
                have : est * cap = est * l.z.toNat + est * (cap - l.z.toNat) := by rw [← Nat.mul_add]; congr 1; omega
                omega
            · exact absurd (by omega) he
        · cases hty'
      · simp [RP.run] at h
    · simp [RP.run] at h
  · rename_i key sh dd l ht hl
    have hestt := hestR key sh dd rfl ht
    simp only [D] at hx
    obtain ⟨hk, hrel, hF, ad, cap, rfl, hlc, hl63, hdis⟩ := hx
    split at h
    · rename_i hh hhh
      simp only [RP.run] at h
      split at h
      · rename_i hkey
        have e := run_ret h; subst e
        obtain ⟨b1, b2, b3⟩ := hp.1
        rw [ht] at hty'
        unfold tyB at hty'
        split at hty'
        · rename_i el hu
          have hee := hT.slice el hu
          subst hee
          have hbnd := sliceBounds_run (P := P) (w := w) true (roLen sh dd) cap l hh vlo vhi
            (by rcases optI_sound hl hlo with ⟨q1, q2⟩ | q; exact .inl ⟨q1, by rw [q2]⟩; exact .inr q)
            (by rcases optI_sound hhh hhi with ⟨q1, q2⟩ | q; exact .inl ⟨q1, by rw [q2]⟩; exact .inr q) b1 b2 (by omega)
          have hdif : (hh.z - l.z).toNat = hh.z.toNat - l.z.toNat := by omega
          have hrun : (Instr.sliceAt T (.slice ad (roLen sh dd) cap) vlo vhi none).run P w = .ok (.slice (if cap = l.z.toNat then ad else ad.map (·.add (l.z.toNat * shEl sh))) (hh.z.toNat - l.z.toNat) (cap - l.z.toNat)) w := by
            simp [Instr.sliceAt, Instr.slice, run_underlying hu, hbnd, hestt]
          have hr := hm.view key hkey
          rw [hr] at hrel
          obtain ⟨s1, s2⟩ := RoD_sub hrel rfl (a := l.z.toNat) (z := (hh.z - l.z).toNat) (by omega)
          refine ⟨rfl, _, hrun, ?_⟩
          rw [← hdif]
          exact RoD_D hk hr (s2 _ fun hc => by rw [if_neg (by omega)])
        · cases hty'
      · simp [RP.run] at h
    · simp [RP.run] at h
  · rename_i v l ht hl
    simp only [D] at hx
    obtain ⟨rfl, hv⟩ := hx
    split at h
    · rename_i hh hhh
      have e := run_ret h; subst e
      obtain ⟨b1, b2, b3⟩ := hp.1
      rw [ht] at hty'
      unfold tyB at hty'
      split at hty'
      · rename_i hu
        have hbnd := sliceBounds_run (P := P) (w := w) false v.size v.size l hh vlo vhi
          (by rcases optI_sound hl hlo with ⟨q1, q2⟩ | q; exact .inl ⟨q1, by rw [q2]⟩; exact .inr q)
          (by rcases optI_sound hhh hhi with ⟨q1, q2⟩ | q; exact .inl ⟨q1, by rw [q2]⟩; exact .inr q) b1 b2 b3
        refine ⟨rfl, .string (v.extract l.z.toNat hh.z.toNat), ?_, rfl, ?_⟩
        · simp [Instr.sliceAt, Instr.slice, run_underlying hu, hbnd]
        · have : (v.extract l.z.toNat hh.z.toNat).size ≤ v.size := by simp [ByteArray.size_extract]; omega
          omega
      · cases hty'
    · simp [RP.run] at h
  · simp [RP.run] at h

/-! ### Parts of structs -/

theorem field_sound {T : TypeId} {ti : TInfo} (hT : RowOk P T ti) {x : SV} {vx : Value} (hx : D (dmOf H) ρ x vx) {f : Nat} {d : Delta} {rs rs' : List Nat}
    (h : (fieldOp ti x f).run H rs = some (d, rs')) : d.ws = [] ∧ ∃ v, (Instr.field T vx f).run P w = .ok v w ∧ D (dmOf H) ρ d.v v := by
  have key : ∀ (fs : List Ty) (fl : List Field) (xs : List SV) (cs pre : List Value) (off f : Nat) (v : SV), fieldsB P fs off fl = true → ofTys fs xs = true → Cs (dmOf H) ρ xs cs → pre.length = off → nth xs f = some v →
      ∃ g u, fl[f]? = some g ∧ D (dmOf H) ρ v u ∧ (part g.type (pre ++ cs).toArray g.offset).run P w = .ok u w := by
    intro fs
    induction fs with
    | nil => intro fl xs cs pre off f v _ ho _ _ hn; cases xs <;> simp [ofTys] at ho; simp [nth] at hn
    | cons t r ih =>
      intro fl xs cs pre off f v hB ho hc hpre hn
      cases fl with
      | nil => simp [fieldsB] at hB
      | cons g gr =>
        cases xs with
        | nil => simp [ofTys] at ho
        | cons y ys =>
          simp only [fieldsB, Bool.and_eq_true] at hB
          obtain ⟨⟨⟨h1, h2⟩, h3⟩, h4⟩ := hB
          simp only [ofTys, Bool.and_eq_true] at ho
          simp only [Cs] at hc
          obtain ⟨u, c, c1, rfl, c3⟩ := hc
          have hsz := ofTy_size t y u ho.1 c1
          have hoff := Nat.eq_of_beq_eq_true h1
          cases f with
          | zero =>
            simp only [nth, Option.some.injEq] at hn; subst hn
            refine ⟨g, u, rfl, c1, ?_⟩
            split at h2
            · rename_i i hi
              simp only [Bool.and_eq_true] at h2
              have hs := Nat.eq_of_beq_eq_true h2.1
              obtain ⟨dd, hdd, hrow⟩ := tyB_row h3
              have hagg := isAgg_run hdd w
              rw [hrow] at hagg
              cases hr : isRow t with
              | true =>
                have : ∃ a, u = .agg a := by
                  cases t <;> simp [isRow] at hr
                  · rename_i n e
                    cases e <;> cases y <;> simp [ofTy, fits] at ho
                    simp only [D] at c1
                    exact ⟨_, c1.2.2⟩
                  · cases y <;> simp [ofTy, fits] at ho
                    simp only [D] at c1
                    obtain ⟨q, _, q2⟩ := c1
                    exact ⟨_, q2⟩
                obtain ⟨a, rfl⟩ := this
                rw [hr] at hagg
                simp only [part, Sem.run_bind, hagg, Result.andThen_ok, sizeOf, typeInfo, if_true]
                simp only [hi, hs, run_program, Result.andThen_ok, Sem.run_pure]
                congr 2
                apply Array.ext'
                simp only [Array.toList_extract, List.extract_eq_take_drop, hoff]
                rw [show off + t.size - off = t.size by omega, ← hpre, List.drop_left, ← hsz, ← Array.length_toList]
                exact List.take_left
              | false =>
                rw [hr] at hagg
                have hcell : u.cells = #[u] := by
                  have hsing : single y = true := by
                    cases t <;> simp [isRow] at hr <;> cases y <;> simp [ofTy, fits] at ho <;> rfl
                  exact (single_cell hsing c1).2
                have : ((pre ++ (u.cells.toList ++ c)).toArray)[g.offset]? = some u := by
                  rw [hcell, hoff, ← hpre]
                  simp
                simp only [part, Sem.run_bind, hagg, Result.andThen_ok, Bool.false_eq_true, if_false, this]
                rfl
            · cases h2
          | succ f =>
            simp only [nth] at hn
            obtain ⟨g', u', a1, a2, a3⟩ := ih gr ys c (pre ++ u.cells.toList) (off + t.size) f v h4 ho.2 c3 (by simp [hpre, hsz]) hn
            exact ⟨g', u', by simpa using a1, a2, by rw [List.append_assoc] at a3; exact a3⟩
  unfold fieldOp at h
  split at h
  · rename_i xs fs ht
    split at h
    · rename_i v ho hn
      have e := run_ret h; subst e
      simp only [D] at hx
      obtain ⟨cs, hc, rfl⟩ := hx
      have hty' := hT.ty
      rw [ht] at hty'
      unfold tyB at hty'
      split at hty'
      · rename_i fl hu
        obtain ⟨g, u, a1, a2, a3⟩ := key fs fl.toList xs cs [] 0 f v hty' ho hc rfl hn
        have a1' : fl[f]? = some g := by rw [← Array.getElem?_toList]; exact a1
        refine ⟨rfl, u, ?_, a2⟩
        simp only [List.nil_append] at a3
        simp [Instr.field, run_underlying hu, a1', asAgg, a3]
      · cases hty'
    · simp [RP.run] at h
  · simp [RP.run] at h

end
end Go.Gx
