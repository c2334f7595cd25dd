/- Part 2 of the proof: the evaluator of the code, its soundness, and what it shows of the functions. -/
import Derived.Test.YthgclfedhgmpiaaDoorM1
import Derived.Great.BuildSlice
import Derived.Laws.MakeOwn
import Derived.Laws.AppendOwn
import Derived.Laws.IdiomStrings
import Derived.Lib.SliceRun
import Derived.BigFrame
import Derived.Orders

/- New variables, addresses, parts. -/
namespace Go.Gx
open Go.RowKit
set_option linter.unusedVariables false

section
variable {P : Program} {w0 : World} {M : Nat → Prop} {ρ : Nat → Pl} {H : Nat → Option SB} {w : World}

theorem fresh_run {H : Nat → Option SB} {stamp : Nat} {l : List Seg} {v : SV} {pre : List Prop} {gen : Bool} {rs rs' : List Nat} {d : Delta} (h : (fresh stamp l v pre gen).run H rs = some (d, rs')) :
    H stamp = none ∧ d = ⟨pre, v, [(stamp, .segs false l)], gen⟩ := by
  simp only [fresh, RP.run] at h
  split at h
  · rename_i e
    exact ⟨e, run_ret h⟩
  · simp [RP.run] at h

/-- A new block, and a value that may point to it. -/
theorem After.alloc (hm : Mem w0 M ρ H w) {stamp : Nat} (hn : H stamp = none) {l : List Seg} {vs : List Value} (hl : SegsD (dmOf H) ρ l vs) {cells : Array Value} {T : TypeId} {fr : Nat × Nat} {extra : List Value}
    (hc : cells.toList = vs ++ extra) (hfr : fr.1 = fr.2 ∨ cells.size ≤ fr.1) {d : Delta} (hd : d.ws = [(stamp, .segs false l)]) {v : Value}
    (hv : D (dmOf (updH H stamp (.segs false l))) (updP ρ stamp ({ blk := w.heap.size, off := 0, cap := cells.size } : Pl)) d.v v) : After w0 M ρ H d v (w.alloc (.cells cells T fr)) :=
  ⟨updP ρ stamp ({ blk := w.heap.size, off := 0, cap := cells.size } : Pl), updP_keeps hn, by rw [hd]; exact hv, by rw [hd]; exact hm.alloc hn hl hc hfr⟩

theorem dm_new (H : Nat → Option SB) (stamp : Nat) (b : SB) : dmOf (updH H stamp b) stamp := by unfold dmOf; rw [updH_same]; rfl

theorem box_sound (hm : Mem w0 M ρ H w) {stamp : Nat} {x : SV} {v : Value} (hx : D (dmOf H) ρ x v) {d : Delta} {rs rs' : List Nat} (h : (boxOp stamp x).run H rs = some (d, rs')) (T : TypeId) :
    After w0 M ρ H d (.pointer (some ⟨w.heap.size, 0, none⟩)) (w.alloc (.cells v.cells T)) := by
  unfold boxOp at h
  split at h
  · rename_i l hl
    obtain ⟨hn, rfl⟩ := fresh_run h
    refine After.alloc hm hn (segsOf_D x l v hl hx) (extra := []) (by simp) (.inl rfl) rfl ?_
    exact ⟨dm_new _ _ _, by rw [updP_same]; rfl⟩
  · simp [RP.run] at h

theorem alloc_run {T : TypeId} {ti : TInfo} (hT : RowOk P T ti) (w : World) : ∃ z, (Instr.alloc T true (.tuple #[])).run P w = .ok (.pointer (some ⟨w.heap.size, 0, none⟩)) (w.alloc (.cells z.cells T)) ∧
    ∀ (dm : Nat → Prop) (ρ : Nat → Pl), D dm ρ (zero ti.ty) z := by
  obtain ⟨i, z, h1, h2, h3, h4, h5⟩ := hT.info
  refine ⟨z, ?_, fun dm ρ => zeroB_D h5⟩
  simp [Instr.alloc, zeroValue, typeInfo, h1, h4, newVar, newRow]

theorem box_run (T : TypeId) (v : Value) (w : World) : (Instr.box T v).run P w = .ok (.pointer (some ⟨w.heap.size, 0, none⟩)) (w.alloc (.cells v.cells T)) := by
  simp [Instr.box, newVar, newRow]

/-! ### Addresses -/

theorem addr_add (p : Pl) (c n : Nat) : (at_ p c).add n = at_ p (c + n) := by
  unfold at_
  rw [Addr.add_mid, Nat.add_assoc]

theorem ptrAt_sound {dm : Nat → Prop} {key c est : Nat} {x : SI} {v : SV} (h : ptrAt key c est x = some v) (hk : dm key) (hx : 0 ≤ x.z) : D dm ρ v (.pointer (some (at_ (ρ key) (c + est * x.z.toNat)))) := by
  unfold ptrAt at h
  split at h
  · simp only [Option.some.injEq] at h; subst h; exact ⟨hk, rfl⟩
  · cases h
  · simp only [Option.some.injEq] at h; subst h
    exact ⟨hk, hx, by simp⟩

theorem addI_z (x y : SI) : (addI x y).z = x.z + y.z := by
  unfold addI
  split
  · simp [litI_eq]
  · simp
  · simp
  · rfl

theorem subI_z (x y : SI) : (subI x y).z = x.z - y.z := by
  unfold subI
  split
  · simp [litI_eq]
  · simp
  · rfl

theorem indexAddr_sound {T : TypeId} {ti : TInfo} {ty : List (Nat × TInfo)} (hT : RowOk P T ti) (hty : tabB P ty = true) {x i : SV} {vx vi : Value} (hx : D (dmOf H) ρ x vx) (hi : D (dmOf H) ρ i vi) {d : Delta} {rs rs' : List Nat}
    (h : (indexAddrOp ty ti x i).run H rs = some (d, rs')) (hp : AllP d.pre) : d.ws = [] ∧ ∃ v, (Instr.indexAt T vx vi).run P w = .ok v w ∧ D (dmOf H) ρ d.v v := by
  unfold indexAddrOp at h
  split at h
  · rename_i key c k a n e ht
    simp only [D] at hx hi
    obtain ⟨hk, rfl⟩ := hx
    obtain ⟨rfl, ha⟩ := hi
    split at h
    · rename_i p v hb hv
      have e' := run_ret h; subst e'
      obtain ⟨b1, b2⟩ := bound_ok hb hp
      refine ⟨rfl, _, ?_, ptrAt_sound hv hk b1⟩
      have hty' := hT.ty
      rw [ht] at hty'
      unfold tyB at hty'
      split at hty'
      · rename_i n' T' hu
        simp only [Bool.and_eq_true] at hty'
        obtain ⟨⟨e1, e2⟩, e3⟩ := hty'
        have hn := Nat.eq_of_beq_eq_true e1
        split at e2
        · rename_i ii hii
          have hs := Nat.eq_of_beq_eq_true e2
          have hlt : 0 ≤ a.z ∧ a.z < (n' : Int) := ⟨b1, by rw [← hn]; exact b2⟩
          simp [Instr.indexAt, asIntOf, run_underlying hu, Instr.sureAddr, sizeOf, typeInfo, hii, hs, hlt, addr_add, Nat.mul_comm]
        · cases e2
      · cases hty'
    · simp [RP.run] at h
  · rename_i key c est z j k a n e ht
    simp only [D] at hx hi
    obtain ⟨hk, hz, rfl⟩ := hx
    obtain ⟨rfl, ha⟩ := hi
    split at h
    · rename_i p m hb
      have e' := run_ret h; subst e'
      obtain ⟨b1, b2⟩ := bound_ok hb hp
      simp only at b1 b2
      refine ⟨rfl, .pointer (some (at_ (ρ key) (c + est * z.toNat + (j + e.size * m)))), ?_, hk, hz, rfl⟩
      have hty' := hT.ty
      rw [ht] at hty'
      unfold tyB at hty'
      split at hty'
      · rename_i n' T' hu
        simp only [Bool.and_eq_true] at hty'
        obtain ⟨⟨e1, e2⟩, e3⟩ := hty'
        have hn := Nat.eq_of_beq_eq_true e1
        split at e2
        · rename_i ii hii
          have hs := Nat.eq_of_beq_eq_true e2
          have hlt : m < n' := by rw [← hn]; exact Int.ofNat_lt.1 b2
          simp [Instr.indexAt, asIntOf, run_underlying hu, Instr.sureAddr, sizeOf, typeInfo, hii, hs, hlt, addr_add, Nat.mul_comm, Nat.add_assoc]
        · cases e2
      · cases hty'
    · simp [RP.run] at h
  · rename_i key c est off len k a ht
    simp only [D] at hx hi
    obtain ⟨hk, ho, hl, _, ad, cap, rfl, hlc, hdis⟩ := hx
    obtain ⟨rfl, ha⟩ := hi
    split at h
    · rename_i te hte
      split at h
      · rename_i p v hest hb hv
        have e' := run_ret h; subst e'
        obtain ⟨b1, b2⟩ := bound_ok hb hp
        have hTe := rowB_ok (tabB_row hty hte)
        have hes := Nat.eq_of_beq_eq_true hest
        rcases hdis with ⟨rfl, hcap⟩ | ⟨h0, _⟩
        · refine ⟨rfl, _, ?_, ptrAt_sound hv hk (by rw [addI_z]; omega)⟩
          have hty' := hT.ty
          rw [ht] at hty'
          unfold tyB at hty'
          split at hty'
          · rename_i e hu
            have hee := hT.slice e hu
            subst hee
            have hlt : 0 ≤ a.z ∧ a.z < len.z := ⟨b1, b2⟩
            have hsz := hTe.sizeOf (w := w)
            have h3 : ∀ y, (sizeOf ti.elem).run P y = .ok est y := fun y => by rw [hTe.sizeOf, hes]
            have hmx : max len.z 0 = len.z := by omega
            simp [Instr.indexAt, asIntOf, run_underlying hu, h3, b1, addr_add, addI_z, hmx, b2]
            congr 1
            rw [Int.toNat_add ho b1, Nat.mul_add, Nat.mul_comm est a.z.toNat, Nat.add_assoc]
          · cases hty'
        · omega
      · simp [RP.run] at h
    · simp [RP.run] at h
  · rename_i key sh dd k a ht
    simp only [D] at hx hi
    obtain ⟨hk, hrel, hF, ad, cap, rfl, hlc, hl63, hdis⟩ := hx
    obtain ⟨rfl, ha⟩ := hi
    split at h
    · rename_i te hte
      split at h
      · rename_i hest
        have e' := run_ret h; subst e'
        obtain ⟨b1, b2⟩ := hp.1
        have hTe := rowB_ok (tabB_row hty hte)
        have hes := Nat.eq_of_beq_eq_true hest
        rcases hdis with ⟨b, o, rfl⟩ | ⟨h0, _⟩
        · refine ⟨rfl, .pointer (some ⟨b, o + (shEl sh * a.z.toNat + 0), none⟩), ?_, hk, b1, b2, b, o, _, _, hrel, rfl⟩
          have hty' := hT.ty
          rw [ht] at hty'
          unfold tyB at hty'
          split at hty'
          · rename_i e hu
            have hee := hT.slice e hu
            subst hee
            have hlt : 0 ≤ a.z ∧ a.z < (roLen sh dd : Int) := ⟨b1, b2⟩
            have h3 : ∀ y, (sizeOf ti.elem).run P y = .ok (shEl sh) y := fun y => by rw [hTe.sizeOf, hes]
            have hadd : ∀ n, (⟨b, o, none⟩ : Addr).add n = ⟨b, o + n, none⟩ := fun n => by by_cases h : n = 0 <;> simp [Addr.add, h]
            simp [Instr.indexAt, asIntOf, run_underlying hu, h3, b1, b2, hadd, Nat.mul_comm]
          · cases hty'
        · omega
      · simp [RP.run] at h
    · simp [RP.run] at h
  · simp [RP.run] at h

theorem fieldAddr_sound {T : TypeId} {ti : TInfo} (hT : RowOk P T ti) {x : SV} {vx : Value} (hx : D (dmOf H) ρ x vx) {f : Nat} {d : Delta} {rs rs' : List Nat}
    (h : (fieldAddrOp ti x f).run H rs = some (d, rs')) : d.ws = [] ∧ ∃ v, (Instr.fieldAt T vx f).run P w = .ok v w ∧ D (dmOf H) ρ d.v v := by
  have key : ∀ (fs : List Ty) (fl : List Field) (off f : Nat), fieldsB P fs off fl = true → f < fs.length → ∃ g i, fl[f]? = some g ∧ g.offset = off + fieldOff fs f ∧ P.info? g.type = some i ∧ i.size ≠ 0 := by
    intro fs
    induction fs with
    | nil => intro fl off f _ hf; simp at hf
    | cons t r ih =>
      intro fl off f hB hf
      cases fl with
      | nil => simp [fieldsB] at hB
      | cons g gr =>
        simp only [fieldsB, Bool.and_eq_true] at hB
        obtain ⟨⟨⟨h1, h2⟩, h3⟩, h4⟩ := hB
        cases f with
        | zero =>
          split at h2
          · rename_i i hi
            simp only [Bool.and_eq_true] at h2
            refine ⟨g, i, rfl, by simp [fieldOff, Nat.eq_of_beq_eq_true h1], hi, ?_⟩
            have e1 := Nat.eq_of_beq_eq_true h2.1
            have e2 := h2.2
            simp [Nat.blt] at e2; omega
          · cases h2
        | succ f =>
          obtain ⟨g', i, a1, a2, a3, a4⟩ := ih gr (off + t.size) f h4 (by simpa using hf)
          exact ⟨g', i, by simpa using a1, by rw [a2]; simp [fieldOff]; omega, a3, a4⟩
  unfold fieldAddrOp at h
  split at h
  · rename_i k c fs ht
    simp only [D] at hx
    obtain ⟨hk, rfl⟩ := hx
    split at h
    · rename_i hlt
      have e := run_ret h; subst e
      have hf : f < fs.length := by simp [Nat.blt] at hlt; omega
      have hty' := hT.ty
      rw [ht] at hty'
      unfold tyB at hty'
      split at hty'
      · rename_i fl hu
        obtain ⟨g, i, a1, a2, a3, a4⟩ := key fs fl.toList 0 f hty' hf
        have a1' : fl[f]? = some g := by rw [← Array.getElem?_toList]; exact a1
        refine ⟨rfl, .pointer (some (at_ (ρ k) (c + fieldOff fs f))), ?_, hk, rfl⟩
        simp [Instr.fieldAt, run_underlying hu, a1', Instr.sureAddr, fieldPlace, sizeOf, typeInfo, a3, a4, a2, addr_add]
      · cases hty'
    · simp [RP.run] at h
  · rename_i k sh dd xx j fs ht
    simp only [D] at hx
    obtain ⟨hk, h0, hlt0, b, o, n, cap, hrel, rfl⟩ := hx
    split at h
    · rename_i hlt
      have e := run_ret h; subst e
      have hf : f < fs.length := by simp [Nat.blt] at hlt; omega
      have hty' := hT.ty
      rw [ht] at hty'
      unfold tyB at hty'
      split at hty'
      · rename_i fl hu
        obtain ⟨g, i, a1, a2, a3, a4⟩ := key fs fl.toList 0 f hty' hf
        have a1' : fl[f]? = some g := by rw [← Array.getElem?_toList]; exact a1
        have hadd : ∀ m n, (⟨b, m, none⟩ : Addr).add n = ⟨b, m + n, none⟩ := fun m n => by by_cases h : n = 0 <;> simp [Addr.add, h]
        refine ⟨rfl, .pointer (some ⟨b, o + (shEl sh * xx.toNat + (j + fieldOff fs f)), none⟩), ?_, hk, h0, hlt0, b, o, n, cap, hrel, rfl⟩
        simp [Instr.fieldAt, run_underlying hu, a1', Instr.sureAddr, fieldPlace, sizeOf, typeInfo, a3, a4, a2, hadd, Nat.add_assoc]
      · cases hty'
    · simp [RP.run] at h
  · simp [RP.run] at h

end
end Go.Gx

/- Parts by value, slices, literals, make, conversions of numbers. -/
namespace Go.Gx
open Go.RowKit
set_option linter.unusedVariables false

section
variable {P : Program} {w0 : World} {M : Nat → Prop} {ρ : Nat → Pl} {H : Nat → Option SB} {w : World}

theorem isAgg_run {P : Program} {T : TypeId} {d : TypeDesc} (h : P.underlying T = some d) (w : World) : (isAgg T).run P w = .ok d.isRow w := by
  unfold isAgg
  rw [Sem.run_bind, run_underlying h w]
  cases d <;> rfl

theorem index_sound {T : TypeId} {ti : TInfo} (hT : RowOk P T ti) {x i : SV} {vx vi : Value} (hx : D (dmOf H) ρ x vx) (hi : D (dmOf H) ρ i vi) {d : Delta} {rs rs' : List Nat}
    (h : (indexOp ti x i).run H rs = some (d, rs')) (hp : AllP d.pre) : d.ws = [] ∧ ∃ v, (Instr.index T vx vi).run P w = .ok v w ∧ D (dmOf H) ρ d.v v := by
  unfold indexOp at h
  split at h
  · rename_i k m ex l k' a n k2 ht
    simp only [D] at hx hi
    obtain ⟨h1, h2, rfl⟩ := hx
    obtain ⟨rfl, ha⟩ := hi
    split at h
    · rename_i p hnm hb
      have hnm' := Nat.eq_of_beq_eq_true hnm
      have hty' := hT.ty
      rw [ht] at hty'
      unfold tyB at hty'
      split at hty'
      · rename_i n' T' hu
        simp only [Bool.and_eq_true] at hty'
        obtain ⟨⟨e1, e2⟩, e3⟩ := hty'
        have hn := Nat.eq_of_beq_eq_true e1
        split at e2
        · rename_i ii hii
          have hs : ii.size = 1 := Nat.eq_of_beq_eq_true e2
          obtain ⟨dd, hdd, hrow⟩ := tyB_row e3
          have hagg : (isAgg T').run P w = .ok false w := by rw [isAgg_run hdd w, hrow]; rfl
          have main : ∀ z : Int, 0 ≤ z → z < (n : Int) → (Instr.index T (.agg (l.map (Value.int k)).toArray) (.int k' z)).run P w = .ok (.int k (l.getD z.toNat 0)) w := fun z h0 h3 => by
            have hz : z.toNat < l.length := by omega
            have hlt : 0 ≤ z ∧ z < (n' : Int) := ⟨h0, by omega⟩
            simp [Instr.index, asIntOf, run_underlying hu, hlt, sizeOf, typeInfo, hii, hs, part, hagg, hz, List.getD]
          have hin : ∀ z : Int, 0 ≤ z → z < (n : Int) → InR k (l.getD z.toNat 0) := fun z h0 h3 => by
            have hz : z.toNat < l.length := by omega
            have : l.getD z.toNat 0 = l[z.toNat] := by simp [List.getD, hz]
            rw [this]; exact h2.at hz
          split at h
          · rename_i j
            split at h
            · rename_i z hz
              have e := run_ret h; subst e
              obtain ⟨b1, b2⟩ := bound_ok hb hp
              simp only at b1 b2
              have hj : j < l.length := by have : (j : Int) < (n : Int) := b2; omega
              have hzz := getI_some hz hj
              refine ⟨rfl, _, main _ b1 b2, ?_⟩
              have : l.getD (Int.toNat (Int.ofNat j)) 0 = z := by simp [List.getD, hj, hzz]
              rw [this]
              exact ⟨rfl, by rw [hzz]; exact h2.at hj⟩
            · simp [RP.run] at h
          · simp [RP.run] at h
          · rename_i z
            have e := run_ret h; subst e
            obtain ⟨b1, b2⟩ := bound_ok hb hp
            exact ⟨rfl, _, main z b1 b2, rfl, hin z b1 b2⟩
        · cases e2
      · cases hty'
    · simp [RP.run] at h
  · rename_i v k a ht
    simp only [D] at hx hi
    obtain ⟨rfl, _⟩ := hx
    obtain ⟨rfl, ha⟩ := hi
    have e := run_ret h; subst e
    obtain ⟨b1, b2⟩ := hp.1
    have hty' := hT.ty
    rw [ht] at hty'
    unfold tyB at hty'
    split at hty'
    · rename_i hu
      have hz : a.z.toNat < v.size := by omega
      have hz' : a.z.toNat < v.data.size := hz
      have hget : v[a.z.toNat]? = some (v.data[a.z.toNat]) := by
        rw [getElem?_pos v a.z.toNat hz]; rfl
      refine ⟨rfl, .int .u8 (v.data[a.z.toNat].toNat), ?_, ?_, ?_⟩
      · simp [Instr.index, asIntOf, run_underlying hu, b1, hget]
      · have : v.data.getD a.z.toNat 0 = v.data[a.z.toNat] := by unfold Array.getD; exact dif_pos hz'
        rw [this]
      · have := UInt8.toNat_lt (v.data.getD a.z.toNat 0)
        show 0 ≤ ((v.data.getD a.z.toNat 0).toNat : Int) ∧ ((v.data.getD a.z.toNat 0).toNat : Int) < 256
        omega
    · cases hty'
  · simp [RP.run] at h

theorem extract_sound {x v : SV} {vx : Value} {n : Nat} {xs : List SV} (hx : D (dmOf H) ρ (.tup xs) vx) (hn : nth xs n = some v) : ∃ u, (Instr.extract vx n).run P w = .ok u w ∧ D (dmOf H) ρ v u := by
  simp only [D] at hx
  obtain ⟨vs, h1, rfl⟩ := hx
  have key : ∀ (xs : List SV) (vs : List Value) (n : Nat), Ds (dmOf H) ρ xs vs → nth xs n = some v → ∃ u, vs[n]? = some u ∧ D (dmOf H) ρ v u := by
    intro xs
    induction xs with
    | nil => intro vs n _ h; simp [nth] at h
    | cons y r ih =>
      intro vs n hd h
      simp only [Ds] at hd
      obtain ⟨u, c, a1, rfl, a3⟩ := hd
      cases n with
      | zero => simp only [nth, Option.some.injEq] at h; subst h; exact ⟨u, rfl, a1⟩
      | succ n =>
        simp only [nth] at h
        obtain ⟨u', b1, b2⟩ := ih c n a3 h
        exact ⟨u', by simpa using b1, b2⟩
  obtain ⟨u, h2, h3⟩ := key xs vs n h1 hn
  exact ⟨u, by simp [Instr.extract, h2], h3⟩

theorem len_sound {T : TypeId} {ti : TInfo} (hT : RowOk P T ti) {x : SV} {vx : Value} (hx : D (dmOf H) ρ x vx) {d : Delta} {rs rs' : List Nat}
    (h : (lenOp ti x).run H rs = some (d, rs')) (ty : TypeId) (ats : Array TypeId) (ha : ats[0]? = some T) : d.ws = [] ∧ ∃ v, (Builtin.len_ ats ty #[vx]).run P w = .ok v w ∧ D (dmOf H) ρ d.v v := by
  unfold lenOp at h
  split at h
  · rename_i a hl
    have e := run_ret h; subst e
    have hty' := hT.ty
    unfold lenOf at hl
    split at hl
    · rename_i len ht
      simp only [Option.some.injEq] at hl; subst hl
      simp only [D] at hx
      obtain ⟨_, _, h2, h3, ad, cap, rfl, _⟩ := hx
      rw [ht] at hty'
      unfold tyB at hty'
      split at hty'
      · rename_i e hu
        refine ⟨rfl, .int .i64 len.z, ?_, rfl, h3⟩
        have : max len.z 0 = len.z := by omega
        simp [Builtin.len_, ha, run_underlying hu, goInt, this]
      · cases hty'
    · rename_i ht
      simp only [Option.some.injEq] at hl; subst hl
      simp only [D] at hx
      subst hx
      rw [ht] at hty'
      unfold tyB at hty'
      split at hty'
      · rename_i e hu
        exact ⟨rfl, .int .i64 0, by simp [Builtin.len_, ha, run_underlying hu, goInt], rfl, by simp [InR]⟩
      · cases hty'
    · rename_i _ sh dd ht
      simp only [Option.some.injEq] at hl; subst hl
      simp only [D] at hx
      obtain ⟨_, _, _, ad, cap, rfl, _, h3, _⟩ := hx
      rw [ht] at hty'
      unfold tyB at hty'
      split at hty'
      · rename_i e hu
        exact ⟨rfl, .int .i64 (roLen sh dd : Int), by simp [Builtin.len_, ha, run_underlying hu, goInt], rfl, by simp only [InR]; omega⟩
      · cases hty'
    · rename_i v ht
      simp only [Option.some.injEq] at hl; subst hl
      simp only [D] at hx
      obtain ⟨rfl, hb⟩ := hx
      rw [ht] at hty'
      unfold tyB at hty'
      split at hty'
      · rename_i hu
        exact ⟨rfl, .int .i64 v.size, by simp [Builtin.len_, ha, run_underlying hu, goInt], rfl, by simp only [InR]; omega⟩
      · cases hty'
    · rename_i n e ht
      split at hl
      · rename_i hn
        simp only [Option.some.injEq] at hl; subst hl
        rw [ht] at hty'
        unfold tyB at hty'
        split at hty'
        · rename_i n' T' hu
          simp only [Bool.and_eq_true] at hty'
          have hnn := Nat.eq_of_beq_eq_true hty'.1.1
          have hlt := Nat.le_of_ble_eq_true hn
          refine ⟨rfl, .int .i64 n, ?_, rfl, by simp only [InR]; omega⟩
          have hval : (Builtin.len_ ats ty #[vx]).run P w = .ok (goInt n') w := by
            cases vx <;> simp [Builtin.len_, ha, run_underlying hu]
          rw [hval, ← hnn]; rfl
        · cases hty'
      · cases hl
    · cases hl
  · simp [RP.run] at h

theorem sliceBounds_run {P : Program} {w : World} (b : Bool) (len cap : Nat) (l h : SI) (lo hi : Option Value) (hl : (lo = none ∧ l.z = 0) ∨ ∃ k, lo = some (.int k l.z)) (hh : (hi = none ∧ h.z = len) ∨ ∃ k, hi = some (.int k h.z))
    (h0 : 0 ≤ l.z) (h1 : l.z ≤ h.z) (h2 : h.z ≤ cap) : (Instr.sliceBounds b len cap lo hi none).run P w = .ok (l.z.toNat, h.z.toNat, cap) w := by
  have hb : ∀ (k : IntKind) (z : Int) (y : Nat) (c : BoundsCode), 0 ≤ z → z ≤ y → (Instr.sliceBound (.int k z) y c).run P w = .ok z.toNat w := fun k z y c a1 a2 => by
    simp [Instr.sliceBound, asIntOf, a1, a2]
  have e1 : l.z ≤ ((h.z.toNat : Nat) : Int) := by omega
  unfold Instr.sliceBounds
  rcases hl with ⟨rfl, e⟩ | ⟨k, rfl⟩ <;> rcases hh with ⟨rfl, e'⟩ | ⟨k', rfl⟩
  · simp [e, e']
  · simp [e, hb k' h.z cap _ (by omega) h2]
  · have := hb k l.z len .sliceB h0 (by omega)
    simp [e', this]
  · simp [hb k' h.z cap _ (by omega) h2, hb k l.z h.z.toNat .sliceB h0 e1]

end
end Go.Gx

/- Slices, parts of structs, literals, make. -/
namespace Go.Gx
open Go.RowKit
set_option linter.unusedVariables false

section
variable {P : Program} {w0 : World} {M : Nat → Prop} {ρ : Nat → Pl} {H : Nat → Option SB} {w : World}

/-- An optional bound: its value, or what stands in its place. -/
def OptD (dm : Nat → Prop) (ρ : Nat → Pl) (x : Option SV) (v : Option Value) : Prop :=
  (x = none ∧ v = none) ∨ ∃ y u, x = some y ∧ v = some u ∧ D dm ρ y u

theorem optI_sound {dm : Nat → Prop} {d a : SI} {x : Option SV} {v : Option Value} (h : optI d x = some a) (hx : OptD dm ρ x v) : (v = none ∧ a = d) ∨ ∃ k, v = some (.int k a.z) := by
  rcases hx with ⟨rfl, rfl⟩ | ⟨y, u, rfl, rfl, hd⟩
  · simp only [optI, Option.some.injEq] at h; exact .inl ⟨rfl, h.symm⟩
  · cases y <;> simp only [optI, Option.some.injEq, reduceCtorEq] at h
    subst h
    simp only [D] at hd
    exact .inr ⟨_, by rw [hd.1]⟩

theorem AllR.drop_take_ {k : IntKind} {l : List Int} (h : AllR k l) (a b : Nat) : AllR k ((l.drop a).take b) := fun z hz => h z (List.mem_of_mem_drop (List.mem_of_mem_take hz))

theorem ChainR.drop {R : RO → Value → Prop} {n : Nat} (hn : ∀ d v, R d v → v.cells.toList.length = n) : ∀ (a : Nat) (xs : List RO) (cs : List Value), ChainR R xs cs → ChainR R (xs.drop a) (cs.drop (n * a))
  | 0, xs, cs, h => by simpa using h
  | a + 1, [], cs, h => by rw [show cs = [] from h]; simp; rfl
  | a + 1, x :: r, cs, h => by
    obtain ⟨v, c, h1, rfl, h3⟩ := h
    have ih := ChainR.drop hn a r c h3
    have hl := hn x v h1
    have e : (v.cells.toList ++ c).drop (n * (a + 1)) = c.drop (n * a) := by
      rw [Nat.mul_add, Nat.mul_one, List.drop_append, List.drop_eq_nil_of_le (as := v.cells.toList) (by omega), List.nil_append, hl, Nat.add_sub_cancel]
    rw [List.drop_succ_cons, e]
    exact ih
theorem ChainR.take {R : RO → Value → Prop} {n : Nat} (hn : ∀ d v, R d v → v.cells.toList.length = n) : ∀ (a : Nat) (xs : List RO) (cs : List Value), ChainR R xs cs → ChainR R (xs.take a) (cs.take (n * a))
  | 0, xs, cs, h => by simp; rfl
  | a + 1, [], cs, h => by rw [show cs = [] from h]; simp; rfl
  | a + 1, x :: r, cs, h => by
    obtain ⟨v, c, h1, rfl, h3⟩ := h
    have ih := ChainR.take hn a r c h3
    have hl := hn x v h1
    have e : (v.cells.toList ++ c).take (n * (a + 1)) = v.cells.toList ++ c.take (n * a) := by
      rw [Nat.mul_add, Nat.mul_one, List.take_append, List.take_of_length_le (l := v.cells.toList) (by omega), hl, Nat.add_sub_cancel]
    rw [List.take_succ_cons, e]
    exact ⟨v, _, h1, rfl, ih⟩

/-- A part of a slice of data. -/
theorem RoD_sub {w : World} {Out : Nat → Prop} {sh : Sh} {d : RO} {ad : Option Addr} {n cap : Nat} (h : RoD w Out sh d (.slice ad n cap)) (hn : n = roLen sh d) {a z : Nat} (h1 : a + z ≤ n) :
    roLen sh (roSub sh d a z) = z ∧ ∀ ad', (a < cap → ad' = ad.map (·.add (a * shEl sh))) → RoD w Out sh (roSub sh d a z) (.slice ad' z (cap - a)) := by
  have hadd : ∀ (b o m : Nat), (⟨b, o, none⟩ : Addr).add m = ⟨b, o + m, none⟩ := fun b o m => by by_cases h : m = 0 <;> simp [Addr.add, h]
  cases sh with
  | ints k =>
    simp only [RoD] at h
    obtain ⟨a0, cap', q1, q2, q3, q4, q5⟩ := h
    simp only [Value.slice.injEq] at q1
    obtain ⟨rfl, rfl, rfl⟩ := q1
    have hz : (((roL d).drop a).take z).length = z := by rw [List.length_take, List.length_drop]; omega
    refine ⟨hz, fun ad' had => ?_⟩
    have er : ∀ x, roL (.l x) = x := fun x => rfl
    simp only [RoD, roSub, er]
    refine ⟨ad', cap - a, by rw [hz], by rw [hz]; omega, by rw [hz]; omega, q4.drop_take_ _ _, ?_⟩
    rcases q5 with ⟨b, o, rfl, r1, r2⟩ | ⟨r1, r2⟩
    · by_cases hc : a < cap
      · left
        refine ⟨b, o + a, by rw [had hc]; simp [shEl, hadd], r1, ?_⟩
        have := rangeAt_part r2 a z
        rw [← List.map_drop, ← List.map_take] at this
        exact this
      · exact .inr ⟨by rw [hz]; omega, by omega⟩
    · exact .inr ⟨by rw [hz]; omega, by omega⟩
  | l e =>
    simp only [RoD] at h
    obtain ⟨a0, cap', cs, q1, q2, q3, q4, q5⟩ := h
    simp only [Value.slice.injEq] at q1
    obtain ⟨rfl, rfl, rfl⟩ := q1
    have hz : (((roX d).drop a).take z).length = z := by rw [List.length_take, List.length_drop]; omega
    refine ⟨hz, fun ad' had => ?_⟩
    have er : ∀ x, roX (.r x) = x := fun x => rfl
    simp only [RoD, roSub, er]
    refine ⟨ad', cap - a, (cs.drop (shSize e * a)).take (shSize e * z), by rw [hz], by rw [hz]; omega, by rw [hz]; omega, ChainR.take (fun d v h => RoD_cells e d v h) z _ _ (ChainR.drop (fun d v h => RoD_cells e d v h) a _ _ q4), ?_⟩
    rcases q5 with ⟨b, o, rfl, r1, r2⟩ | ⟨r1, r2⟩
    · by_cases hc : a < cap
      · left
        refine ⟨b, o + shSize e * a, by rw [had hc]; simp [shEl, hadd, Nat.mul_comm], r1, rangeAt_part r2 _ _⟩
      · exact .inr ⟨by rw [hz]; omega, by omega⟩
    · exact .inr ⟨by rw [hz]; omega, by omega⟩
  | _ => simp only [RoD] at h <;> simp at h

theorem RoD_D {dm : Nat → Prop} {ρ : Nat → Pl} {key : Nat} (hk : dm key) {w : World} {Out : Nat → Prop} (hr : (ρ key).rel = RoD w Out) {sh : Sh} {d : RO} {ad : Option Addr} {n cap : Nat} (h : RoD w Out sh d (.slice ad n cap)) : D dm ρ (.ro key sh d) (.slice ad n cap) := by
  cases sh with
  | ints k => exact svOf_D hk hr (.ints k) d _ h
  | l e => exact svOf_D hk hr (.l e) d _ h
  | _ => simp only [RoD] at h <;> simp at h

theorem slice_sound {T : TypeId} {ti : TInfo} {ty : List (Nat × TInfo)} (hT : RowOk P T ti) (hm : Mem w0 M ρ H w) {x : SV} {vx : Value} (hx : D (dmOf H) ρ x vx) {lo hi : Option SV} {vlo vhi : Option Value}
    (hlo : OptD (dmOf H) ρ lo vlo) (hhi : OptD (dmOf H) ρ hi vhi) {d : Delta} {rs rs' : List Nat} (hest : ∀ key c est off len, x = .sl key c est off len → ti.ty = .slice → (∀ y, (sizeOf ti.elem).run P y = .ok est y)) (hestR : ∀ key sh d, x = .ro key sh d → ti.ty = .slice → (∀ y, (sizeOf ti.elem).run P y = .ok (shEl sh) y)) (hestN : ti.ty = .slice → ∃ es, ∀ y, (sizeOf ti.elem).run P y = .ok es y)
    (h : (sliceOp ti x lo hi).run H rs = some (d, rs')) (hp : AllP d.pre) : d.ws = [] ∧ ∃ v, (Instr.sliceAt T vx vlo vhi none).run P w = .ok v w ∧ D (dmOf H) ρ d.v v := by
  have hty' := hT.ty
  unfold sliceOp at h
  split at h
  · rename_i key c n k l ht hl
    simp only [D] at hx
    obtain ⟨hk, rfl⟩ := hx
    simp only [RP.run] at h
    split at h
    · rename_i ro gs hkey
      split at h
      · rename_i k2 m ex y hs
        split at h
        · rename_i hh hb hhh
          simp only [Bool.and_eq_true] at hb
          have hnm := Nat.eq_of_beq_eq_true hb.1
          have hbig := Nat.le_of_ble_eq_true hb.2
          split at h
          · rename_i p hb3
            have e := run_ret h; subst e
            obtain ⟨b1, b2, b3⟩ := bounds3_ok hb3 hp
            simp only at b3
            rw [ht] at hty'
            unfold tyB at hty'
            split at hty'
            · rename_i n' T' hu
              simp only [Bool.and_eq_true] at hty'
              obtain ⟨⟨e1, e2⟩, e3⟩ := hty'
              have hn := Nat.eq_of_beq_eq_true e1
              split at e2
              · rename_i ii hii
                have hsz : ii.size = 1 := Nat.eq_of_beq_eq_true e2
                obtain ⟨vs, g1, g2, g3, _⟩ := hm.segs hkey
                obtain ⟨pre, cs, post, f1, f2, f3, _, _⟩ := segAt_D gs c vs _ 0 g1 hs
                have hcs := segLen_D f2 (n := m) rfl
                have hcap : c + n ≤ (ρ key).cap := by
                  have : vs.length = pre.length + cs.length + post.length := by rw [f1]; simp; omega
                  omega
                have hbnd := sliceBounds_run (P := P) (w := w) false n n l hh vlo vhi
                  (by rcases optI_sound hl hlo with ⟨q1, q2⟩ | q; exact .inl ⟨q1, by rw [q2]⟩; exact .inr q)
                  (by rcases optI_sound hhh hhi with ⟨q1, q2⟩ | q; exact .inl ⟨q1, by rw [q2]⟩; exact .inr q) b1 b2 b3
                have hdif : (hh.z - l.z).toNat = hh.z.toNat - l.z.toNat := by omega
                subst hn
                have hrun : (Instr.sliceAt T (.pointer (some (at_ (ρ key) c))) vlo vhi none).run P w = .ok (.slice (some (if n = l.z.toNat then at_ (ρ key) c else at_ (ρ key) (c + l.z.toNat))) (hh.z.toNat - l.z.toNat) (n - l.z.toNat)) w := by
                  simp [Instr.sliceAt, run_underlying hu, Instr.sureAddr, hbnd, sizeOf, typeInfo, hii, hsz, addr_add]
                refine ⟨rfl, _, hrun, hk, b1, by rw [subI_z]; omega, by rw [subI_z]; simp only [InR]; omega, _, _, by rw [subI_z, hdif], by rw [subI_z, hdif]; omega, ?_⟩
                rw [subI_z]
                by_cases he : n = l.z.toNat
                · exact .inr ⟨by omega, by omega⟩
                · rw [if_neg he, Nat.one_mul, Nat.one_mul]
                  exact .inl ⟨rfl, by omega⟩
              · cases e2
            · cases hty'
          · simp [RP.run] at h
        · simp [RP.run] at h
      · simp [RP.run] at h
    · simp [RP.run] at h
  · rename_i key c est off len l ht hl
    have hestt := hest key c est off len rfl ht
    simp only [D] at hx
    obtain ⟨hk, ho, hl0, hlr, ad, cap, rfl, hlc, hdis⟩ := hx
    split at h
    · rename_i hh hhh
      split at h
      · rename_i p hb3
        have e := run_ret h; subst e
        obtain ⟨b1, b2, b3⟩ := bounds3_ok hb3 hp
        rw [ht] at hty'
        unfold tyB at hty'
        split at hty'
        · rename_i el hu
          have hee := hT.slice el hu
          subst hee
          have hbnd := sliceBounds_run (P := P) (w := w) true len.z.toNat cap l hh vlo vhi
            (by rcases optI_sound hl hlo with ⟨q1, q2⟩ | q; exact .inl ⟨q1, by rw [q2]⟩; exact .inr q)
            (by rcases optI_sound hhh hhi with ⟨q1, q2⟩ | q; exact .inl ⟨q1, by rw [q2]; omega⟩; exact .inr q) b1 b2 (by omega)
          have hdif : (hh.z - l.z).toNat = hh.z.toNat - l.z.toNat := by omega
          have hrun : (Instr.sliceAt T (.slice ad len.z.toNat cap) vlo vhi none).run P w = .ok (.slice (if cap = l.z.toNat then ad else ad.map (·.add (l.z.toNat * est))) (hh.z.toNat - l.z.toNat) (cap - l.z.toNat)) w := by
            simp [Instr.sliceAt, Instr.slice, run_underlying hu, hbnd, hestt]
          have hInR : InR .i64 (hh.z - l.z) := by simp only [InR] at hlr ⊢; omega
          refine ⟨rfl, _, hrun, hk, by rw [addI_z]; omega, by rw [subI_z]; omega, by rw [subI_z]; exact hInR, _, _, by rw [subI_z, hdif], by rw [subI_z, hdif]; omega, ?_⟩
          rw [subI_z, addI_z]
          by_cases he : cap = l.z.toNat
          · exact .inr ⟨by omega, by omega⟩
          · rw [if_neg he]
            rcases hdis with ⟨rfl, hcap⟩ | ⟨q1, q2⟩
            · have e1 : (off.z + l.z).toNat = off.z.toNat + l.z.toNat := Int.toNat_add ho b1
              refine .inl ⟨?_, ?_⟩
              · simp only [Option.map_some, addr_add, e1, Nat.mul_add]
                rw [Nat.mul_comm l.z.toNat est, Nat.add_assoc]
              · rw [e1, Nat.mul_add]
                have : est * cap = est * l.z.toNat + est * (cap - l.z.toNat) := by rw [← Nat.mul_add]; congr 1; omega
                omega
            · exact absurd (by omega) he
        · cases hty'
      · simp [RP.run] at h
    · simp [RP.run] at h
  · rename_i key sh dd l ht hl
    have hestt := hestR key sh dd rfl ht
    simp only [D] at hx
    obtain ⟨hk, hrel, hF, ad, cap, rfl, hlc, hl63, hdis⟩ := hx
    split at h
    · rename_i hh hhh
      simp only [RP.run] at h
      split at h
      · rename_i hkey
        have e := run_ret h; subst e
        obtain ⟨b1, b2, b3⟩ := hp.1
        rw [ht] at hty'
        unfold tyB at hty'
        split at hty'
        · rename_i el hu
          have hee := hT.slice el hu
          subst hee
          have hbnd := sliceBounds_run (P := P) (w := w) true (roLen sh dd) cap l hh vlo vhi
            (by rcases optI_sound hl hlo with ⟨q1, q2⟩ | q; exact .inl ⟨q1, by rw [q2]⟩; exact .inr q)
            (by rcases optI_sound hhh hhi with ⟨q1, q2⟩ | q; exact .inl ⟨q1, by rw [q2]⟩; exact .inr q) b1 b2 (by omega)
          have hdif : (hh.z - l.z).toNat = hh.z.toNat - l.z.toNat := by omega
          have hrun : (Instr.sliceAt T (.slice ad (roLen sh dd) cap) vlo vhi none).run P w = .ok (.slice (if cap = l.z.toNat then ad else ad.map (·.add (l.z.toNat * shEl sh))) (hh.z.toNat - l.z.toNat) (cap - l.z.toNat)) w := by
            simp [Instr.sliceAt, Instr.slice, run_underlying hu, hbnd, hestt]
          have hr := hm.view key hkey
          rw [hr] at hrel
          obtain ⟨s1, s2⟩ := RoD_sub hrel rfl (a := l.z.toNat) (z := (hh.z - l.z).toNat) (by omega)
          refine ⟨rfl, _, hrun, ?_⟩
          rw [← hdif]
          exact RoD_D hk hr (s2 _ fun hc => by rw [if_neg (by omega)])
        · cases hty'
      · simp [RP.run] at h
    · simp [RP.run] at h
  · rename_i l ht hl
    simp only [D] at hx
    subst hx
    split at h
    · rename_i hh hhh
      have e := run_ret h; subst e
      obtain ⟨b1, b2, b3⟩ := hp.1
      rw [ht] at hty'
      unfold tyB at hty'
      split at hty'
      · rename_i el hu
        have hee := hT.slice el hu
        subst hee
        have hbnd := sliceBounds_run (P := P) (w := w) true 0 0 l hh vlo vhi
          (by rcases optI_sound hl hlo with ⟨q1, q2⟩ | q; exact .inl ⟨q1, by rw [q2]⟩; exact .inr q)
          (by rcases optI_sound hhh hhi with ⟨q1, q2⟩ | q; exact .inl ⟨q1, by rw [q2]; rfl⟩; exact .inr q) b1 b2 b3
        have l0 : l.z.toNat = 0 := by omega
        have h0 : hh.z.toNat = 0 := by omega
        have hestt := hestN ht
        refine ⟨rfl, .slice none 0 0, ?_, rfl⟩
        obtain ⟨es, hes⟩ := hestt
        simp [Instr.sliceAt, Instr.slice, run_underlying hu, hbnd, hes, l0, h0]
      · cases hty'
    · simp [RP.run] at h
  · rename_i v l ht hl
    simp only [D] at hx
    obtain ⟨rfl, hv⟩ := hx
    split at h
    · rename_i hh hhh
      have e := run_ret h; subst e
      obtain ⟨b1, b2, b3⟩ := hp.1
      rw [ht] at hty'
      unfold tyB at hty'
      split at hty'
      · rename_i hu
        have hbnd := sliceBounds_run (P := P) (w := w) false v.size v.size l hh vlo vhi
          (by rcases optI_sound hl hlo with ⟨q1, q2⟩ | q; exact .inl ⟨q1, by rw [q2]⟩; exact .inr q)
          (by rcases optI_sound hhh hhi with ⟨q1, q2⟩ | q; exact .inl ⟨q1, by rw [q2]⟩; exact .inr q) b1 b2 b3
        refine ⟨rfl, .string (v.extract l.z.toNat hh.z.toNat), ?_, rfl, ?_⟩
        · simp [Instr.sliceAt, Instr.slice, run_underlying hu, hbnd]
        · have : (v.extract l.z.toNat hh.z.toNat).size ≤ v.size := by simp [ByteArray.size_extract]; omega
          omega
      · cases hty'
    · simp [RP.run] at h
  · simp [RP.run] at h

/-! ### Parts of structs -/

theorem field_sound {T : TypeId} {ti : TInfo} (hT : RowOk P T ti) {x : SV} {vx : Value} (hx : D (dmOf H) ρ x vx) {f : Nat} {d : Delta} {rs rs' : List Nat}
    (h : (fieldOp ti x f).run H rs = some (d, rs')) : d.ws = [] ∧ ∃ v, (Instr.field T vx f).run P w = .ok v w ∧ D (dmOf H) ρ d.v v := by
  have key : ∀ (fs : List Ty) (fl : List Field) (xs : List SV) (cs pre : List Value) (off f : Nat) (v : SV), fieldsB P fs off fl = true → ofTys fs xs = true → Cs (dmOf H) ρ xs cs → pre.length = off → nth xs f = some v →
      ∃ g u, fl[f]? = some g ∧ D (dmOf H) ρ v u ∧ (part g.type (pre ++ cs).toArray g.offset).run P w = .ok u w := by
    intro fs
    induction fs with
    | nil => intro fl xs cs pre off f v _ ho _ _ hn; cases xs <;> simp [ofTys] at ho; simp [nth] at hn
    | cons t r ih =>
      intro fl xs cs pre off f v hB ho hc hpre hn
      cases fl with
      | nil => simp [fieldsB] at hB
      | cons g gr =>
        cases xs with
        | nil => simp [ofTys] at ho
        | cons y ys =>
          simp only [fieldsB, Bool.and_eq_true] at hB
          obtain ⟨⟨⟨h1, h2⟩, h3⟩, h4⟩ := hB
          simp only [ofTys, Bool.and_eq_true] at ho
          simp only [Cs] at hc
          obtain ⟨u, c, c1, rfl, c3⟩ := hc
          have hsz := ofTy_size t y u ho.1 c1
          have hoff := Nat.eq_of_beq_eq_true h1
          cases f with
          | zero =>
            simp only [nth, Option.some.injEq] at hn; subst hn
            refine ⟨g, u, rfl, c1, ?_⟩
            split at h2
            · rename_i i hi
              simp only [Bool.and_eq_true] at h2
              have hs := Nat.eq_of_beq_eq_true h2.1
              obtain ⟨dd, hdd, hrow⟩ := tyB_row h3
              have hagg := isAgg_run hdd w
              rw [hrow] at hagg
              cases hr : isRow t with
              | true =>
                have : ∃ a, u = .agg a := by
                  cases t <;> simp [isRow] at hr
                  · rename_i n e
                    cases e <;> cases y <;> simp [ofTy, fits] at ho
                    simp only [D] at c1
                    exact ⟨_, c1.2.2⟩
                  · cases y <;> simp [ofTy, fits] at ho
                    simp only [D] at c1
                    obtain ⟨q, _, q2⟩ := c1
                    exact ⟨_, q2⟩
                obtain ⟨a, rfl⟩ := this
                rw [hr] at hagg
                simp only [part, Sem.run_bind, hagg, Result.andThen_ok, sizeOf, typeInfo, if_true]
                simp only [hi, hs, run_program, Result.andThen_ok, Sem.run_pure]
                congr 2
                apply Array.ext'
                simp only [Array.toList_extract, List.extract_eq_take_drop, hoff]
                rw [show off + t.size - off = t.size by omega, ← hpre, List.drop_left, ← hsz, ← Array.length_toList]
                exact List.take_left
              | false =>
                rw [hr] at hagg
                have hcell : u.cells = #[u] := by
                  have hsing : single y = true := by
                    cases t <;> simp [isRow] at hr <;> cases y <;> simp [ofTy, fits] at ho <;> rfl
                  exact (single_cell hsing c1).2
                have : ((pre ++ (u.cells.toList ++ c)).toArray)[g.offset]? = some u := by
                  rw [hcell, hoff, ← hpre]
                  simp
                simp only [part, Sem.run_bind, hagg, Result.andThen_ok, Bool.false_eq_true, if_false, this]
                rfl
            · cases h2
          | succ f =>
            simp only [nth] at hn
            obtain ⟨g', u', a1, a2, a3⟩ := ih gr ys c (pre ++ u.cells.toList) (off + t.size) f v h4 ho.2 c3 (by simp [hpre, hsz]) hn
            exact ⟨g', u', by simpa using a1, a2, by rw [List.append_assoc] at a3; exact a3⟩
  unfold fieldOp at h
  split at h
  · rename_i xs fs ht
    split at h
    · rename_i v ho hn
      have e := run_ret h; subst e
      simp only [D] at hx
      obtain ⟨cs, hc, rfl⟩ := hx
      have hty' := hT.ty
      rw [ht] at hty'
      unfold tyB at hty'
      split at hty'
      · rename_i fl hu
        obtain ⟨g, u, a1, a2, a3⟩ := key fs fl.toList xs cs [] 0 f v hty' ho hc rfl hn
        have a1' : fl[f]? = some g := by rw [← Array.getElem?_toList]; exact a1
        refine ⟨rfl, u, ?_, a2⟩
        simp only [List.nil_append] at a3
        simp [Instr.field, run_underlying hu, a1', asAgg, a3]
      · cases hty'
    · simp [RP.run] at h
  · simp [RP.run] at h

theorem sliceBounds_run3 {P : Program} {w : World} (len cap : Nat) (l : SI) (h m : Int) (kh km : IntKind) (lo : Option Value) (hl : (lo = none ∧ l.z = 0) ∨ ∃ k, lo = some (.int k l.z))
    (h0 : 0 ≤ l.z) (h1 : l.z ≤ h) (h2 : h ≤ m) (h3 : m ≤ cap) : (Instr.sliceBounds true len cap lo (some (.int kh h)) (some (.int km m))).run P w = .ok (l.z.toNat, h.toNat, m.toNat) w := by
  have hb : ∀ (k : IntKind) (z : Int) (y : Nat) (c : BoundsCode), 0 ≤ z → z ≤ y → (Instr.sliceBound (.int k z) y c).run P w = .ok z.toNat w := fun k z y c a1 a2 => by
    simp [Instr.sliceBound, asIntOf, a1, a2]
  unfold Instr.sliceBounds
  rcases hl with ⟨rfl, e⟩ | ⟨k, rfl⟩
  · simp [hb km m cap _ (by omega) h3, hb kh h m.toNat _ (by omega) (by omega), e]
  · simp [hb km m cap _ (by omega) h3, hb kh h m.toNat _ (by omega) (by omega), hb k l.z h.toNat _ h0 (by omega)]

theorem slice3_sound {T : TypeId} {ti : TInfo} (hT : RowOk P T ti) {x : SV} {vx : Value} (hx : D (dmOf H) ρ x vx) {lo : Option SV} {hi mx : SV} {vlo : Option Value} {vhi vmx : Value}
    (hlo : OptD (dmOf H) ρ lo vlo) (hhi : D (dmOf H) ρ hi vhi) (hmx : D (dmOf H) ρ mx vmx) {d : Delta} {rs rs' : List Nat} (hest : ∀ key c est off len, x = .sl key c est off len → ti.ty = .slice → (∀ y, (sizeOf ti.elem).run P y = .ok est y)) (hestN : ti.ty = .slice → ∃ es, ∀ y, (sizeOf ti.elem).run P y = .ok es y)
    (h : (sliceOp3 ti x lo hi mx).run H rs = some (d, rs')) (hp : AllP d.pre) : d.ws = [] ∧ ∃ v, (Instr.sliceAt T vx vlo (some vhi) (some vmx)).run P w = .ok v w ∧ D (dmOf H) ρ d.v v := by
  have hty' := hT.ty
  unfold sliceOp3 at h
  split at h
  · rename_i key c est off len l kh hh km m ht hl
    have hestt := hest key c est off len rfl ht
    simp only [D] at hx hhi hmx
    obtain ⟨hk, ho, hl0, hlr, ad, cap, rfl, hlc, hdis⟩ := hx
    obtain ⟨rfl, _⟩ := hhi
    obtain ⟨rfl, _⟩ := hmx
    have e := run_ret h; subst e
    obtain ⟨b1, b2, b3, b4⟩ := hp.1
    rw [ht] at hty'
    unfold tyB at hty'
    split at hty'
    · rename_i el hu
      have hee := hT.slice el hu
      subst hee
      have hbnd := sliceBounds_run3 (P := P) (w := w) len.z.toNat cap l hh.z m.z kh km vlo
        (by rcases optI_sound hl hlo with ⟨q1, q2⟩ | q; exact .inl ⟨q1, by rw [q2]⟩; exact .inr q) b1 b2 b3 (by omega)
      have hdif : (hh.z - l.z).toNat = hh.z.toNat - l.z.toNat := by omega
      have hrun : (Instr.sliceAt T (.slice ad len.z.toNat cap) vlo (some (.int kh hh.z)) (some (.int km m.z))).run P w = .ok (.slice (if m.z.toNat = l.z.toNat then ad else ad.map (·.add (l.z.toNat * est))) (hh.z.toNat - l.z.toNat) (m.z.toNat - l.z.toNat)) w := by
        simp [Instr.sliceAt, Instr.slice, run_underlying hu, hbnd, hestt]
      have hInR : InR .i64 (hh.z - l.z) := by simp only [InR] at hlr ⊢; omega
      refine ⟨rfl, _, hrun, hk, by rw [addI_z]; omega, by rw [subI_z]; omega, by rw [subI_z]; exact hInR, _, _, by rw [subI_z, hdif], by rw [subI_z, hdif]; omega, ?_⟩
      rw [subI_z, addI_z]
      by_cases he : m.z.toNat = l.z.toNat
      · exact .inr ⟨by omega, by omega⟩
      · rw [if_neg he]
        rcases hdis with ⟨rfl, hcap⟩ | ⟨q1, q2⟩
        · have e1 : (off.z + l.z).toNat = off.z.toNat + l.z.toNat := Int.toNat_add ho b1
          refine .inl ⟨?_, ?_⟩
          · simp only [Option.map_some, addr_add, e1, Nat.mul_add]
            rw [Nat.mul_comm l.z.toNat est, Nat.add_assoc]
          · rw [e1, Nat.mul_add]
            have h5 : est * l.z.toNat + est * (m.z.toNat - l.z.toNat) ≤ est * cap := by rw [← Nat.mul_add]; exact Nat.mul_le_mul_left _ (by omega)
            omega
        · exact absurd (by omega) he
    · cases hty'
  · rename_i l kh hh km m ht hl
    simp only [D] at hx hhi hmx
    subst hx
    obtain ⟨rfl, _⟩ := hhi
    obtain ⟨rfl, _⟩ := hmx
    have e := run_ret h; subst e
    obtain ⟨b1, b2, b3, b4⟩ := hp.1
    rw [ht] at hty'
    unfold tyB at hty'
    split at hty'
    · rename_i el hu
      have hee := hT.slice el hu
      subst hee
      have hbnd := sliceBounds_run3 (P := P) (w := w) 0 0 l hh.z m.z kh km vlo
        (by rcases optI_sound hl hlo with ⟨q1, q2⟩ | q; exact .inl ⟨q1, by rw [q2]⟩; exact .inr q) b1 b2 b3 b4
      obtain ⟨es, hes⟩ := hestN ht
      have l0 : l.z.toNat = 0 := by omega
      have h0 : hh.z.toNat = 0 := by omega
      have m0 : m.z.toNat = 0 := by omega
      refine ⟨rfl, .slice none 0 0, ?_, rfl⟩
      simp [Instr.sliceAt, Instr.slice, run_underlying hu, hbnd, hes, l0, h0, m0]
    · cases hty'
  · simp [RP.run] at h

end
end Go.Gx

/- Literals, make, conversions. -/
namespace Go.Gx
open Go.RowKit
set_option linter.unusedVariables false

section
variable {P : Program} {w0 : World} {M : Nat → Prop} {ρ : Nat → Pl} {H : Nat → Option SB} {w : World}

/-- The parts of a literal, as values. -/
def PartsD (dm : Nat → Prop) (ρ : Nat → Pl) : List (Nat × SV) → List (Nat × Value) → Prop
  | [], vs => vs = []
  | (i, x) :: r, vs => ∃ u c, vs = (i, u) :: c ∧ D dm ρ x u ∧ PartsD dm ρ r c

theorem toArray_toList {α : Type} (a : Array α) : a.toList.toArray = a := rfl

theorem fillI_sound {dm : Nat → Prop} {k : IntKind} {n : Nat} (place : Nat → Option (Nat × Nat)) (hpl : ∀ i, place i = some (i * 1, 1)) : ∀ (parts : List (Nat × SV)) (vs : List (Nat × Value)) (l l' : List Int), PartsD dm ρ parts vs → fillI k parts l = some l' → l.length = n → AllR k l →
    Instr.fill place (l.map (Value.int k)).toArray vs = some (l'.map (Value.int k)).toArray ∧ l'.length = n ∧ AllR k l'
  | [], vs, l, l', hd, h, hl, hr => by
    simp only [fillI, Option.some.injEq] at h; subst h
    rw [show vs = [] from hd]
    exact ⟨rfl, hl, hr⟩
  | (i, x) :: r, vs, l, l', hd, h, hl, hr => by
    obtain ⟨u, c, rfl, h1, h2⟩ := hd
    cases x <;> simp only [fillI, reduceCtorEq] at h
    rename_i k' a
    split at h
    · rename_i l1 hk hs
      have hkk := keq_eq hk; subst hkk
      obtain ⟨e1, e2⟩ := setn_some hs
      simp only [D] at h1
      obtain ⟨rfl, ha⟩ := h1
      have hl1 : l1.length = n := by rw [e1, List.length_set]; exact hl
      have ih := fillI_sound (n := n) place hpl r c l1 l' h2 h hl1 (by rw [e1]; exact hr.set ha)
      refine ⟨?_, ih.2⟩
      rw [← ih.1]
      have hsz : (Value.int k a.z).cells.size = 1 := rfl
      simp only [Instr.fill, hpl]
      rw [if_neg (by simp [Value.cells]; omega)]
      congr 1
      simp only [Value.cells]
      rw [e1]
      apply Array.ext'
      simp [List.map_set]
    · cases h

theorem fields_places {fs : List Ty} : ∀ {fl : List Field} {off : Nat}, fieldsB P fs off fl = true → ∃ places, fl.mapM (fun f => (P.info? f.type).map fun i => (f.offset, i.size)) = some places ∧
    ∀ i t, nth fs i = some t → places[i]? = some (off + fieldOff fs i, t.size) := by
  induction fs with
  | nil =>
    intro fl off h
    cases fl with
    | nil => exact ⟨[], by simp, fun i t h => by simp [nth] at h⟩
    | cons g gr => simp [fieldsB] at h
  | cons t r ih =>
    intro fl off h
    cases fl with
    | nil => simp [fieldsB] at h
    | cons g gr =>
      simp only [fieldsB, Bool.and_eq_true] at h
      obtain ⟨⟨⟨h1, h2⟩, h3⟩, h4⟩ := h
      obtain ⟨pl, p1, p2⟩ := ih h4
      split at h2
      · rename_i i hi
        simp only [Bool.and_eq_true] at h2
        have e1 := Nat.eq_of_beq_eq_true h1
        have e2 := Nat.eq_of_beq_eq_true h2.1
        refine ⟨(off, t.size) :: pl, by simp [hi, p1, e1, e2], fun j u hj => ?_⟩
        cases j with
        | zero => simp only [nth, Option.some.injEq] at hj; subst hj; simp [fieldOff]
        | succ j =>
          simp only [nth] at hj
          have := p2 j u hj
          simp only [List.getElem?_cons_succ, this, fieldOff]
          congr 2; omega
      · cases h2

theorem Cs_set {dm : Nat → Prop} : ∀ (fs : List Ty) (xs xs' : List SV) (cs : List Value) (i : Nat) (t : Ty) (x : SV) (u : Value), Cs dm ρ xs cs → ofTys fs xs = true → nth fs i = some t → setn xs i x = some xs' → ofTy t x = true → D dm ρ x u →
    Cs dm ρ xs' (over cs (fieldOff fs i) u.cells.toList) ∧ fieldOff fs i + t.size ≤ cs.length ∧ ofTys fs xs' = true
  | fs, [], xs', cs, i, t, x, u, hc, ho, hn, hs, ht, hd => by simp [setn] at hs
  | [], y :: ys, xs', cs, i, t, x, u, hc, ho, hn, hs, ht, hd => by simp [nth] at hn
  | t0 :: fs, y :: ys, xs', cs, 0, t, x, u, hc, ho, hn, hs, ht, hd => by
    simp only [nth, Option.some.injEq] at hn; subst hn
    simp only [setn, Option.some.injEq] at hs; subst hs
    simp only [Cs] at hc
    obtain ⟨v, c, c1, rfl, c3⟩ := hc
    simp only [ofTys, Bool.and_eq_true] at ho
    have e1 := ofTy_size t0 y v ho.1 c1
    have e2 := ofTy_size t0 x u ht hd
    refine ⟨⟨u, c, hd, ?_, c3⟩, by simp [fieldOff, e1], by simp [ofTys, ht, ho.2]⟩
    unfold over
    simp only [fieldOff, List.take_zero, List.nil_append, Nat.zero_add]
    congr 1
    rw [show u.cells.toList.length = v.cells.toList.length by simp [e1, e2], List.drop_left]
  | t0 :: fs, y :: ys, xs', cs, i + 1, t, x, u, hc, ho, hn, hs, ht, hd => by
    simp only [nth] at hn
    simp only [setn] at hs
    split at hs
    · rename_i r' hr
      simp only [Option.some.injEq] at hs; subst hs
      simp only [Cs] at hc
      obtain ⟨v, c, c1, rfl, c3⟩ := hc
      simp only [ofTys, Bool.and_eq_true] at ho
      have e1 := ofTy_size t0 y v ho.1 c1
      have e2 := ofTy_size t x u ht hd
      obtain ⟨q1, q2, q3⟩ := Cs_set fs ys r' c i t x u c3 ho.2 hn hr ht hd
      refine ⟨⟨v, over c (fieldOff fs i) u.cells.toList, c1, ?_, q1⟩, by simp [fieldOff, e1]; omega, by simp [ofTys, ho.1, q3]⟩
      have := over_mid v.cells.toList c [] u.cells.toList (fieldOff fs i) (by simp [e2]; omega)
      simp only [List.append_nil] at this
      rw [← this]
      congr 1
      simp [fieldOff, e1]
    · cases hs

theorem fold_over (off : Nat) (l : List Value) (cs : Array Value) (h : off + l.length ≤ cs.size) : ((l.zipIdx).foldl (fun cs (x : Value × Nat) => cs.setIfInBounds (off + x.2) x.1) cs) = (over cs.toList off l).toArray := by
  obtain ⟨h1, h2⟩ := Go.Great.foldl_set off l 0 cs
  have hlen : (over cs.toList off l).length = cs.size := by rw [over_length (by simpa using h)]; simp
  apply Array.ext_getElem?
  intro k
  rw [h2 k]
  simp only [Nat.add_zero, List.getElem?_toArray]
  unfold over
  by_cases c1 : k < off
  · rw [if_neg (by omega), List.append_assoc, List.getElem?_append_left (by simp; omega), List.getElem?_take, if_pos c1]; simp
  · by_cases c2 : k < off + l.length
    · rw [if_pos ⟨by omega, c2, by omega⟩, List.append_assoc, List.getElem?_append_right (by simp; omega)]
      have hmin : (cs.toList.take off).length = off := by simp; omega
      rw [hmin, List.getElem?_append_left (by omega)]
    · rw [if_neg (by omega), List.append_assoc, List.getElem?_append_right (by simp; omega)]
      have hmin : (cs.toList.take off).length = off := by simp; omega
      rw [hmin, List.getElem?_append_right (by omega), List.getElem?_drop]
      rw [show off + l.length + (k - off - l.length) = k by omega]; simp

theorem fillS_sound {dm : Nat → Prop} {fs : List Ty} (place : Nat → Option (Nat × Nat)) (hpl : ∀ i t, nth fs i = some t → place i = some (fieldOff fs i, t.size)) : ∀ (parts : List (Nat × SV)) (vs : List (Nat × Value)) (xs xs' : List SV) (cs : List Value),
    PartsD dm ρ parts vs → fillS fs parts xs = some xs' → Cs dm ρ xs cs → ofTys fs xs = true → ∃ cs', Instr.fill place cs.toArray vs = some cs'.toArray ∧ Cs dm ρ xs' cs'
  | [], vs, xs, xs', cs, hd, h, hc, ho => by
    simp only [fillS, Option.some.injEq] at h; subst h
    rw [show vs = [] from hd]
    exact ⟨cs, rfl, hc⟩
  | (i, x) :: r, vs, xs, xs', cs, hd, h, hc, ho => by
    obtain ⟨u, c, rfl, h1, h2⟩ := hd
    simp only [fillS] at h
    split at h
    · rename_i t l1 ht hs
      split at h
      · rename_i hty
        obtain ⟨q1, q2, q3⟩ := Cs_set fs xs l1 cs i t x u hc ho ht hs hty h1
        have e := ofTy_size t x u hty h1
        obtain ⟨cs', a1, a2⟩ := fillS_sound place hpl r c l1 xs' _ h2 h q1 q3
        refine ⟨cs', ?_, a2⟩
        simp only [Instr.fill, hpl i t ht]
        rw [if_neg (by simp [e]; omega)]
        rw [← a1]
        congr 1
        have hfo := fold_over (fieldOff fs i) u.cells.toList cs.toArray (by simp [e]; omega)
        rw [← hfo, ← Array.foldl_toList]
        simp
      · cases h
    · cases h

theorem build_sound {T : TypeId} {ti : TInfo} (hT : RowOk P T ti) {parts : List (Nat × SV)} {vs : Array (Nat × Value)} (hd : PartsD (dmOf H) ρ parts vs.toList) {d : Delta} {rs rs' : List Nat}
    (h : (buildOp ti parts).run H rs = some (d, rs')) : d.ws = [] ∧ ∃ v, (Instr.build T vs).run P w = .ok v w ∧ D (dmOf H) ρ d.v v := by
  have hty' := hT.ty
  obtain ⟨i, z, hi1, hi2, hi3, hi4, hi5⟩ := hT.info
  have hz := zeroB_D (dm := dmOf H) (ρ := ρ) hi5
  unfold buildOp at h
  split at h
  · rename_i n k ht
    rw [ht] at hty' hz
    split at h
    · rename_i hbn
      split at h
      · rename_i l hl
        have e := run_ret h; subst e
        unfold tyB at hty'
        split at hty'
        · rename_i n' T' hu
          simp only [Bool.and_eq_true] at hty'
          obtain ⟨⟨e1, e2⟩, e3⟩ := hty'
          split at e2
          · rename_i ii hii
            have hs : ii.size = 1 := Nat.eq_of_beq_eq_true e2
            have hzc : z.cells = ((List.replicate n (0 : Int)).map (Value.int k)).toArray := by
              simp only [zero] at hz
              split at hz
              · rw [reps_eq] at hz
                simp only [D] at hz; rw [hz.2.2]; rfl
              · simp only [D] at hz; rw [hz.2.2]; rfl
            rw [reps_eq] at hl
            have hf := fillI_sound (ρ := ρ) (n := n) (fun i => some (i * 1, 1)) (fun _ => rfl) parts vs.toList _ l hd hl (by simp) (allR_rep k n)
            refine ⟨rfl, .agg (l.map (Value.int k)).toArray, ?_, hf.2.1, hf.2.2, rfl⟩
            have hfi := hf.1
            simp [Instr.build, zeroValue, typeInfo, hi1, hi4, run_underlying hu, sizeOf, hii, hs, hzc]
            simp only [List.map_replicate, Nat.mul_one, List.toArray_replicate] at hfi
            rw [hfi]
            simp
          · cases e2
        · cases hty'
      · simp [RP.run] at h
    · simp [RP.run] at h
  · rename_i fs ht
    rw [ht] at hty' hz
    split at h
    · rename_i l hl ho
      have e := run_ret h; subst e
      unfold tyB at hty'
      split at hty'
      · rename_i fl hu
        obtain ⟨places, p1, p2⟩ := fields_places hty'
        simp only [zero, D] at hz
        obtain ⟨cs, c1, rfl⟩ := hz
        obtain ⟨cs', f1, f2⟩ := fillS_sound (ρ := ρ) (places.toArray[·]?) (fun i t hi => by simpa using p2 i t hi) parts vs.toList _ l cs hd hl c1 ho
        refine ⟨rfl, .agg cs'.toArray, run_build w T vs cs'.toArray ?_, cs', f2, rfl⟩
        unfold Program.built
        simp only [hi1, hu, hi4, p1]
        exact f1
      · cases hty'
    · simp [RP.run] at h
  · simp [RP.run] at h

/-! ### A slice that is written out -/

theorem partsI_sound {dm : Nat → Prop} {k : IntKind} : ∀ (parts : List (Nat × SV)) (vs : List (Nat × Value)) (i : Nat) (l : List Int), PartsD dm ρ parts vs → partsI k i parts = some l →
    vs = ((l.map (Value.int k)).zipIdx i).map (fun x => (x.2, x.1)) ∧ AllR k l ∧ l.length = parts.length
  | [], vs, i, l, hd, h => by
    simp only [partsI, Option.some.injEq] at h; subst h
    rw [show vs = [] from hd]; exact ⟨rfl, (fun z hz => by cases hz), rfl⟩
  | (j, x) :: r, vs, i, l, hd, h => by
    obtain ⟨u, c, rfl, h1, h2⟩ := hd
    cases x <;> simp only [partsI, reduceCtorEq] at h
    rename_i k' a
    split at h
    · rename_i l1 hb hr
      simp only [Bool.and_eq_true] at hb
      have e1 := Nat.eq_of_beq_eq_true hb.1
      have e2 := keq_eq hb.2
      subst e1 e2
      simp only [Option.some.injEq] at h; subst h
      simp only [D] at h1
      obtain ⟨rfl, ha⟩ := h1
      obtain ⟨q1, q2, q3⟩ := partsI_sound r c (i + 1) l1 h2 hr
      refine ⟨by rw [q1]; simp, fun z hz => ?_, by simp [q3]⟩
      rcases List.mem_cons.1 hz with rfl | hz
      · exact ha
      · exact q2 z hz
    · cases h

theorem partsA_sound {dm : Nat → Prop} {k : IntKind} {n : Nat} : ∀ (parts : List (Nat × SV)) (vs : List (Nat × Value)) (i : Nat) (l : List (List Int)), PartsD dm ρ parts vs → partsA k n i parts = some l →
    ∃ us : List Value, vs = (us.zipIdx i).map (fun x => (x.2, x.1)) ∧ AllA k n l ∧ us = l.map (fun y => Value.agg (y.map (Value.int k)).toArray) ∧ l.length = parts.length
  | [], vs, i, l, hd, h => by
    simp only [partsA, Option.some.injEq] at h; subst h
    rw [show vs = [] from hd]; exact ⟨[], rfl, (fun z hz => by cases hz), rfl, rfl⟩
  | (j, x) :: r, vs, i, l, hd, h => by
    obtain ⟨u, c, rfl, h1, h2⟩ := hd
    cases x <;> simp only [partsA, reduceCtorEq] at h
    rename_i k' m ex y
    split at h
    · rename_i l1 hb hr
      simp only [Bool.and_eq_true] at hb
      have e1 := Nat.eq_of_beq_eq_true hb.1.1
      have e2 := keq_eq hb.1.2
      have e3 := Nat.eq_of_beq_eq_true hb.2
      subst e1 e2 e3
      simp only [Option.some.injEq] at h; subst h
      simp only [D] at h1
      obtain ⟨a1, a2, rfl⟩ := h1
      obtain ⟨us, q1, q2, q3, q4⟩ := partsA_sound r c (i + 1) l1 h2 hr
      refine ⟨.agg (y.map (Value.int k)).toArray :: us, by rw [q1]; simp, fun z hz => ?_, by rw [q3]; simp, by simp [q4]⟩
      rcases List.mem_cons.1 hz with rfl | hz
      · exact ⟨a1, a2⟩
      · exact q2 z hz
    · cases h

theorem fits_single {t : Ty} {x : SV} (h : fits t x = true) : single x = true := by
  cases t <;> cases x <;> simp [fits] at h <;> rfl

theorem partsS_sound {dm : Nat → Prop} {t : Ty} : ∀ (parts : List (Nat × SV)) (vs : List (Nat × Value)) (i : Nat) (l : List Seg), PartsD dm ρ parts vs → partsS t i parts = some l →
    ∃ us : List Value, vs = (us.zipIdx i).map (fun x => (x.2, x.1)) ∧ SegsD dm ρ l us ∧ (∀ u ∈ us, u.cells = #[u]) ∧ us.length = parts.length
  | [], vs, i, l, hd, h => by
    simp only [partsS, Option.some.injEq] at h; subst h
    rw [show vs = [] from hd]; exact ⟨[], rfl, rfl, (fun z hz => by cases hz), rfl⟩
  | (j, x) :: r, vs, i, l, hd, h => by
    obtain ⟨u, c, rfl, h1, h2⟩ := hd
    simp only [partsS] at h
    split at h
    · rename_i l1 hb hr
      simp only [Bool.and_eq_true] at hb
      have e1 := Nat.eq_of_beq_eq_true hb.1
      subst e1
      simp only [Option.some.injEq] at h; subst h
      obtain ⟨us, q1, q2, q3, q4⟩ := partsS_sound r c (i + 1) l1 h2 hr
      have hs := fits_single hb.2
      refine ⟨u :: us, by rw [q1]; simp, ⟨[u], us, ⟨hs, u, h1, rfl⟩, rfl, q2⟩, fun z hz => ?_, by simp [q4]⟩
      rcases List.mem_cons.1 hz with rfl | hz
      · exact (single_cell hs h1).2
      · exact q3 z hz
    · cases h

theorem PartsD.length {dm : Nat → Prop} : ∀ {parts : List (Nat × SV)} {vs : List (Nat × Value)}, PartsD dm ρ parts vs → vs.length = parts.length
  | [], vs, h => by rw [show vs = [] from h]; rfl
  | (j, x) :: r, vs, h => by obtain ⟨u, c, rfl, _, h2⟩ := h; simp [PartsD.length h2]

theorem buildSlice_zero {T e : TypeId} {ie : TypeInfo} (hu : P.underlying T = some (.slice e)) (hie : P.info? e = some ie) (w : World) :
    (Instr.buildSlice T 0 #[]).run P w = .ok (.slice (some ⟨w.heap.size, 0, none⟩) 0 0) (w.alloc (.cells #[] e)) := by
  have : (Array.range 0 : Array Nat) = #[] := rfl
  simp [Instr.buildSlice, run_underlying hu, sizeOf, typeInfo, hie, newRow, Instr.fill, this]

theorem buildSlice_sound {T : TypeId} {ti : TInfo} {ty : List (Nat × TInfo)} (hT : RowOk P T ti) (hty : tabB P ty = true) (hm : Mem w0 M ρ H w) {stamp n : Nat} {parts : List (Nat × SV)} {vs : Array (Nat × Value)} (hd : PartsD (dmOf H) ρ parts vs.toList)
    {d : Delta} {rs rs' : List Nat} (h : (buildSliceOp ty stamp ti n parts).run H rs = some (d, rs')) :
    ∃ v w', (Instr.buildSlice T n vs).run P w = .ok v w' ∧ After w0 M ρ H d v w' := by
  unfold buildSliceOp at h
  split at h
  · rename_i te ht hte hb
    simp only [Bool.and_eq_true] at hb
    have hlen := Nat.eq_of_beq_eq_true hb.1
    have hsm := Nat.le_of_ble_eq_true hb.2
    have hTe := rowB_ok (tabB_row hty hte)
    obtain ⟨ie, z, hi1, hi2, hi3, hi4, hi5⟩ := hTe.info
    have hu : P.underlying T = some (.slice ti.elem) := by
      have hty' := hT.ty
      rw [ht] at hty'
      unfold tyB at hty'
      split at hty'
      · rename_i e hu; rw [hu, hT.slice e hu]
      · cases hty'
    have hvl := hd.length
    have finish : ∀ (l : List Seg) (cells : List Value) (es : Nat), es = ie.size → SegsD (dmOf H) ρ l cells → 0 < es → es ≤ 1000 → cells.length = n * es →
        (Instr.fill (fun i => some (i * es, es)) ((Array.range (n * es)).map (z.cells[· % z.cells.size]!)) vs.toList = some cells.toArray) →
        (fresh stamp l (.sl stamp 0 es ⟨true, 0⟩ ⟨true, n⟩) [] false).run H rs = some (d, rs') →
        ∃ v w', (Instr.buildSlice T n vs).run P w = .ok v w' ∧ After w0 M ρ H d v w' := fun l cells es he hl hes hes2 hcl hf hfr => by
      subst he
      obtain ⟨hn, rfl⟩ := fresh_run hfr
      have hle : n * ie.size ≤ 1000 * 1000 := Nat.mul_le_mul hsm hes2
      have hrun : (Instr.buildSlice T n vs).run P w = .ok (.slice (some ⟨w.heap.size, 0, none⟩) n n) (w.alloc (.cells cells.toArray ti.elem)) := by
        rcases Nat.eq_zero_or_pos n with rfl | hnpos
        · have hv0 : vs = #[] := by
            have : vs.toList = [] := List.eq_nil_of_length_eq_zero (by omega)
            cases vs; simp_all
          have hc0 : cells = [] := List.eq_nil_of_length_eq_zero (by omega)
          rw [hv0, hc0]; exact buildSlice_zero hu hi1 w
        · have hpos : 0 < n * ie.size := Nat.mul_pos hnpos hes
          exact run_buildSlice (P := P) w T ti.elem n vs cells.toArray ie z hu hi1 hi4 (by omega) (by omega) hf
      refine ⟨_, _, hrun, After.alloc hm hn hl (extra := []) (by simp) (.inl rfl) rfl ?_⟩
      refine ⟨dm_new _ _ _, by simp, by simp, by simp only [InR]; omega, _, n, rfl, by simp, .inl ⟨?_, ?_⟩⟩
      · rw [updP_same]; simp [at_]
      · rw [updP_same]; simp [hcl, Nat.mul_comm]
    split at h
    · rename_i k hk
      split at h
      · rename_i l hl
        obtain ⟨q1, q2, q3⟩ := partsI_sound parts vs.toList 0 l hd hl
        have hie : ie.size = 1 := by rw [hi2, hk]; rfl
        refine finish [.rowI k l] (l.map (Value.int k)) 1 hie.symm ⟨l.map (Value.int k), [], ⟨q2, rfl⟩, by simp, rfl⟩ (by omega) (by omega) (by simp; omega) ?_ h
        rw [q1]
        exact Go.Great.fill_flat (l.map (Value.int k)) _ (fun v hv => by simp at hv; obtain ⟨a, _, rfl⟩ := hv; rfl) (by simp; omega)
      · simp [RP.run] at h
    · rename_i m k hk
      split at h
      · rename_i l hl hmm
        obtain ⟨us, q1, q2, q3, q4⟩ := partsA_sound parts vs.toList 0 l hd hl
        have hie : ie.size = m := by rw [hi2, hk]; simp [Ty.size]
        simp only [Bool.and_eq_true] at hmm
        have hm1 : 0 < m := by have := hmm.1; simp [Nat.blt] at this; omega
        have hm2 := Nat.le_of_ble_eq_true hmm.2
        have hcells : (us.flatMap fun v => v.cells.toList) = l.flatten.map (Value.int k) := by
          rw [q3]
          clear q1 q2 q3 q4 hl h hd
          induction l with
          | nil => rfl
          | cons y r ih => simp only [List.map_cons, List.flatMap_cons, List.flatten_cons, List.map_append, ih]; rfl
        refine finish [.rowA k m l] (l.flatten.map (Value.int k)) m hie.symm ⟨l.flatten.map (Value.int k), [], ⟨q2, rfl⟩, by simp, rfl⟩ hm1 hm2 (by rw [List.length_map, flatten_len q2, q4, hlen, Nat.mul_comm]) ?_ h
        rw [q1, ← hcells]
        exact Go.Great.fill_whole hm1 us _ (fun v hv => by rw [q3] at hv; simp only [List.mem_map] at hv; obtain ⟨y, hy, rfl⟩ := hv; simp [Value.cells, (q2 y hy).1]) (by rw [q3]; simp [q4, hlen])
      · simp [RP.run] at h
    · split at h
      · rename_i l hl hs1
        obtain ⟨us, q1, q2, q3, q4⟩ := partsS_sound parts vs.toList 0 l hd hl
        have hie : ie.size = 1 := by rw [hi2]; exact Nat.eq_of_beq_eq_true hs1
        refine finish l us 1 hie.symm q2 (by omega) (by omega) (by omega) ?_ h
        rw [q1]
        exact Go.Great.fill_flat us _ q3 (by simp; omega)
      · simp [RP.run] at h
  · simp [RP.run] at h

/-! ### make -/

theorem madeCells_zero {dm : Nat → Prop} {t : Ty} {z : Value} (h : zeroB t z = true) (hr : isRow t = false) (n : Nat) : ∃ u, z.cells = #[u] ∧ (madeCells z.cells n).toList = List.replicate n u := by
  obtain ⟨u, hu⟩ : ∃ u, z.cells = #[u] := by
    unfold zeroB at h
    split at h
    · simp [hr] at h
    · cases z <;> first | exact ⟨_, rfl⟩ | (rename_i hne; exact absurd rfl (hne _))
  refine ⟨u, hu, ?_⟩
  rw [hu]
  unfold madeCells
  apply List.ext_getElem
  · simp
  · intro i h1 h2
    simp [Nat.mod_one]

theorem make_sound {T : TypeId} {ti : TInfo} {ty : List (Nat × TInfo)} (hT : RowOk P T ti) (hty : tabB P ty = true) (hm : Mem w0 M ρ H w) {stamp : Nat} {n m : SV} {vn vm : Value} (hn : D (dmOf H) ρ n vn) (hmm : D (dmOf H) ρ m vm)
    {d : Delta} {rs rs' : List Nat} (h : (makeOp ty stamp ti n m).run H rs = some (d, rs')) (hp : AllP d.pre) :
    ∃ v w', (Instr.makeSlice T vn vm).run P w = .ok v w' ∧ After w0 M ρ H d v w' := by
  unfold makeOp at h
  split at h
  · rename_i te a c ht hte
    simp only [D] at hn hmm
    obtain ⟨rfl, ha⟩ := hn
    obtain ⟨rfl, hc⟩ := hmm
    have hTe := rowB_ok (tabB_row hty hte)
    obtain ⟨ie, z, hi1, hi2, hi3, hi4, hi5⟩ := hTe.info
    have hu : P.underlying T = some (.slice ti.elem) := by
      have hty' := hT.ty
      rw [ht] at hty'
      unfold tyB at hty'
      split at hty'
      · rename_i e hu; rw [hu, hT.slice e hu]
      · cases hty'
    have finish : ∀ (l : List Seg) (es : Nat) (zs extra : List Value), es = ie.size → SegsD (dmOf H) ρ l zs → (madeCells z.cells (c.z.toNat * es)).toList = zs ++ extra → 
        (fresh stamp l (.sl stamp 0 es ⟨true, 0⟩ a) [0 ≤ a.z ∧ a.z ≤ c.z ∧ c.z * te.bytes ≤ 70368744177664] true).run H rs = some (d, rs') →
        ∃ v w', (Instr.makeSlice T (.int .i64 a.z) (.int .i64 c.z)).run P w = .ok v w' ∧ After w0 M ρ H d v w' := fun l es zs extra he hl hc' hfr => by
      subst he
      obtain ⟨hn, rfl⟩ := fresh_run hfr
      obtain ⟨p1, p2, p3⟩ := hp.1
      have hrun := run_make (P := P) w T ti.elem ie z hu hi1 hi4 .i64 .i64 a.z c.z p1 p2 (by rw [hi3, Int.mul_comm]; omega) (by simp only [InR] at hc; omega)
      refine ⟨_, _, hrun, After.alloc hm hn hl hc' (.inl rfl) rfl ?_⟩
      refine ⟨dm_new _ _ _, by simp, p1, ha, _, c.z.toNat, rfl, by omega, .inl ⟨?_, ?_⟩⟩
      · rw [updP_same]; simp [at_]
      · rw [updP_same]; simp [size_madeCells, Nat.mul_comm]
    split at h
    · rename_i k hk
      have hie : ie.size = 1 := by rw [hi2, hk]; rfl
      rw [hk] at hi5
      obtain ⟨u, hu1, hu2⟩ := madeCells_zero (dm := dmOf H) hi5 rfl (c.z.toNat * 1)
      have hu3 : u = .int k 0 := by
        have := zeroB_D (dm := dmOf H) (ρ := ρ) hi5
        simp only [zero, D] at this
        rw [this.1] at hu1
        simp [Value.cells] at hu1
        exact hu1.symm
      have hle : a.z.toNat ≤ c.z.toNat := by
        obtain ⟨_, rfl⟩ := fresh_run h
        obtain ⟨p1, p2, p3⟩ := hp.1
        omega
      refine finish [.rowI k (List.replicate a.z.toNat 0)] 1 ((List.replicate a.z.toNat (0 : Int)).map (Value.int k)) (List.replicate (c.z.toNat - a.z.toNat) (.int k 0)) hie.symm ⟨_, [], ⟨allR_rep _ _, rfl⟩, by simp, rfl⟩ ?_ h
      rw [hu2, hu3]
      simp only [List.map_replicate, Nat.mul_one, List.replicate_append_replicate]
      congr 1; omega
    · rename_i n' k hk
      have hie : ie.size = n' := by rw [hi2, hk]; simp [Ty.size]
      rw [hk] at hi5
      have hz : z.cells = ((List.replicate n' (0 : Int)).map (Value.int k)).toArray := by
        have := zeroB_D (dm := dmOf H) (ρ := ρ) hi5
        simp only [zero] at this
        split at this
        · rw [reps_eq] at this; simp only [D] at this; rw [this.2.2]; rfl
        · simp only [D] at this; rw [this.2.2]; rfl
      have hle : a.z.toNat ≤ c.z.toNat := by
        obtain ⟨_, rfl⟩ := fresh_run h
        obtain ⟨p1, p2, p3⟩ := hp.1
        omega
      have hall : AllA k n' (List.replicate a.z.toNat (List.replicate n' 0)) := fun y hy => by
        rw [List.eq_of_mem_replicate hy]; exact ⟨by simp, allR_rep _ _⟩
      have hflat : ∀ q : Nat, (List.replicate q (List.replicate n' (0 : Int))).flatten = List.replicate (q * n') 0 := fun q => by
        simp [List.flatten_replicate_replicate]
      refine finish [.rowA k n' (List.replicate a.z.toNat (List.replicate n' 0))] n' ((List.replicate a.z.toNat (List.replicate n' (0 : Int))).flatten.map (Value.int k)) (List.replicate ((c.z.toNat - a.z.toNat) * n') (.int k 0)) hie.symm ⟨_, [], ⟨hall, rfl⟩, by simp, rfl⟩ ?_ h
      rw [hflat, List.map_replicate, List.replicate_append_replicate, ← Nat.add_mul, show a.z.toNat + (c.z.toNat - a.z.toNat) = c.z.toNat by omega]
      rw [hz]
      unfold madeCells
      apply List.ext_getElem
      · simp
      · intro i h1 h2
        simp at h1
        have hn' : 0 < n' := by
          rcases Nat.eq_zero_or_pos n' with rfl | h
          · simp at h1
          · exact h
        have : i % n' < n' := Nat.mod_lt _ hn'
        simp [this]
    · simp [RP.run] at h
  · simp [RP.run] at h

/-! ### Numbers turned -/

theorem convInt_sound {Ts Td : TypeId} {k k' : IntKind} {ks : IntKind} {a : Int} (hs : P.underlying Ts = some (.int ks)) (hd : P.underlying Td = some (.int k)) : (convert Ts Td (.int k' a)).run P w = .ok (.int k (k.wrap a)) w := by
  simp [convert, run_underlying hs, run_underlying hd, Conv.intToInt]

theorem wrap_of_InR {k : IntKind} {z : Int} (h : InR k z) : k.wrap z = z := by
  cases k <;> simp [InR] at h <;> simp [IntKind.wrap, IntKind.signed, IntKind.bits] <;> (try split) <;> omega

end
end Go.Gx

/- append, copy, clear; bytes and texts. -/
namespace Go.Gx
open Go.RowKit
set_option linter.unusedVariables false

def conCells : Con → List Value
  | .ints k l => l.map (Value.int k)
  | .arrs k n l => l.flatten.map (Value.int k)

def conOk : Con → Prop
  | .ints k l => AllR k l
  | .arrs k n l => AllA k n l

theorem conCells_length {q : Con} (h : conOk q) : (conCells q).length = conLen q * conSize q := by
  cases q with
  | ints k l => simp [conCells, conLen, conSize]
  | arrs k n l => simp only [conCells, conLen, conSize, List.length_map]; rw [flatten_len h, Nat.mul_comm]

theorem conCells_one {q : Con} : ∀ v ∈ conCells q, v.oneCell' = true := by
  cases q <;> (intro v hv; simp only [conCells, List.mem_map] at hv; obtain ⟨z, _, rfl⟩ := hv; rfl)

theorem AllR.drop_take {k : IntKind} {l : List Int} (h : AllR k l) (a b : Nat) : AllR k ((l.drop a).take b) := fun z hz => h z (List.mem_of_mem_drop (List.mem_of_mem_take hz))
theorem AllA.drop_take {k : IntKind} {n : Nat} {l : List (List Int)} (h : AllA k n l) (a b : Nat) : AllA k n ((l.drop a).take b) := fun z hz => h z (List.mem_of_mem_drop (List.mem_of_mem_take hz))

theorem drop_len_add {α : Type} (x y : List α) (m : Nat) : (x ++ y).drop (x.length + m) = y.drop m := by
  induction x with
  | nil => simp
  | cons a r ih => simp only [List.length_cons, List.cons_append]; rw [show r.length + 1 + m = (r.length + m) + 1 by omega, List.drop_succ_cons, ih]
theorem take_len_add {α : Type} (x y : List α) (m : Nat) : (x ++ y).take (x.length + m) = x ++ y.take m := by
  induction x with
  | nil => simp
  | cons a r ih => simp only [List.length_cons, List.cons_append]; rw [show r.length + 1 + m = (r.length + m) + 1 by omega, List.take_succ_cons, ih]

theorem flatten_drop {k : IntKind} {n : Nat} : ∀ {l : List (List Int)} (h : AllA k n l) (a : Nat), (l.drop a).flatten = l.flatten.drop (n * a)
  | [], _, a => by simp
  | x :: r, h, 0 => by simp
  | x :: r, h, a + 1 => by
    have hx := (h x (by simp)).1
    have e : n * (a + 1) = x.length + n * a := by rw [hx, Nat.mul_add]; omega
    simp only [List.drop_succ_cons, List.flatten_cons]
    rw [flatten_drop (fun y hy => h y (by simp [hy])) a, e]
    exact (drop_len_add x _ _).symm
theorem flatten_take {k : IntKind} {n : Nat} : ∀ {l : List (List Int)} (h : AllA k n l) (a : Nat), (l.take a).flatten = l.flatten.take (n * a)
  | [], _, a => by simp
  | x :: r, h, 0 => by simp
  | x :: r, h, a + 1 => by
    have hx := (h x (by simp)).1
    have e : n * (a + 1) = x.length + n * a := by rw [hx, Nat.mul_add]; omega
    simp only [List.take_succ_cons, List.flatten_cons]
    rw [flatten_take (fun y hy => h y (by simp [hy])) a, e]
    exact (take_len_add x _ _).symm

/-- What a slice or text holds, as the model reads it. -/
structure ConAt (P : Program) (w : World) (v : Value) (q : Con) : Prop where
  ok : conOk q
  len : ∀ w' : World, (Builtin.lenOf v).run P w' = .ok (conLen q) w'
  at_ : ∀ ad n cap, v = .slice ad n cap → n = conLen q ∧ n ≤ cap ∧ ((conLen q = 0 ∧ cap = 0) ∨ ∃ b o, ad = some ⟨b, o, none⟩ ∧ (0 < conSize q * cap → b < w.heap.size) ∧ w.rangeAt b o (conCells q))
  cells : ∀ w' : World, (∀ a u, w.cell? a = some u → w'.cell? a = some u) → ∀ m, m ≤ conLen q → (Builtin.firstCells (conSize q) m v).run P w' = .ok ((conCells q).take (m * conSize q)).toArray w'

theorem conSeg_sound {dm : Nat → Prop} {ρ : Nat → Pl} {g : Seg} {est : Nat} {off len : SI} {p : List Prop} {q : Con} {cs : List Value} (h : conSeg g est off len = some (p, q)) (hg : SegD dm ρ g cs) (hp : AllP p) (ho : 0 ≤ off.z) (hl : 0 ≤ len.z) :
    conOk q ∧ conLen q = len.z.toNat ∧ conSize q = est ∧ conCells q = (cs.drop (est * off.z.toNat)).take (est * len.z.toNat) ∧ est * off.z.toNat + est * len.z.toNat ≤ cs.length := by
  cases g with
  | one x => simp [conSeg] at h
  | rowI k l =>
    obtain ⟨h1, h2⟩ := hg
    simp only [conSeg] at h
    split at h
    · rename_i hb
      have e := Nat.eq_of_beq_eq_true hb
      simp only [Option.some.injEq, Prod.mk.injEq] at h
      obtain ⟨rfl, rfl⟩ := h
      subst e
      have hb2 := hp.1
      refine ⟨h1.drop_take _ _, by simp [conLen]; omega, rfl, ?_, by rw [h2]; simp; omega⟩
      simp only [conCells, h2, Nat.one_mul, List.map_take, List.map_drop]
    · cases h
  | arr k n ex l =>
    obtain ⟨h0, h1, h2⟩ := hg
    simp only [conSeg] at h
    split at h
    · rename_i p' hb hpp
      have e := Nat.eq_of_beq_eq_true hb
      simp only [Option.some.injEq, Prod.mk.injEq] at h
      obtain ⟨rfl, rfl⟩ := h
      subst e
      have hb2 : off.z + len.z ≤ (n : Int) := by
        split at hpp
        · have := (tst_some hpp).1; simpa using this
        · simp only [Option.some.injEq] at hpp; subst hpp; exact hp.1
      refine ⟨h1.drop_take _ _, by simp [conLen]; omega, rfl, ?_, by rw [h2]; simp; omega⟩
      simp only [conCells, h2, Nat.one_mul, List.map_take, List.map_drop]
    · cases h
  | rowA k n l =>
    obtain ⟨h1, h2⟩ := hg
    simp only [conSeg] at h
    split at h
    · rename_i hb
      have e := Nat.eq_of_beq_eq_true hb
      simp only [Option.some.injEq, Prod.mk.injEq] at h
      obtain ⟨rfl, rfl⟩ := h
      subst e
      have hb2 := hp.1
      have hle : off.z.toNat + len.z.toNat ≤ l.length := by omega
      refine ⟨h1.drop_take _ _, by simp [conLen]; omega, rfl, ?_, ?_⟩
      · have h1d : AllA k est (l.drop off.z.toNat) := fun y hy => h1 y (List.mem_of_mem_drop hy)
        simp only [conCells, h2]
        rw [flatten_take h1d, flatten_drop h1, List.map_take, List.map_drop]
      · rw [h2, List.length_map, flatten_len h1, ← Nat.mul_add]
        exact Nat.mul_le_mul_left _ hle
    · cases h

theorem bytesI_ok (s : ByteArray) : AllR .u8 (bytesI s) := fun z hz => by
  simp only [bytesI, List.mem_map] at hz
  obtain ⟨b, _, rfl⟩ := hz
  have := UInt8.toNat_lt b
  simp only [InR]; omega

theorem bytesI_length (s : ByteArray) : (bytesI s).length = s.size := by simp [bytesI]

section
variable {P : Program} {w0 : World} {M : Nat → Prop} {ρ : Nat → Pl} {H : Nat → Option SB} {w : World}

theorem firstCells_some {w' : World} (es n : Nat) (a : Addr) (len cap : Nat) (cs : List Value) (hl : cs.length = n * es) (h : ∀ j v, cs[j]? = some v → w'.cell? (a.add j) = some v) :
    (Builtin.firstCells es n (.slice (some a) len cap)).run P w' = .ok cs.toArray w' := by
  have := run_loadCells_list (P := P) w' a cs h
  rw [hl] at this
  exact this

theorem ConAt.all {v : Value} {q : Con} (h : ConAt P w v q) (w' : World) (hw : ∀ a u, w.cell? a = some u → w'.cell? a = some u) : (Builtin.firstCells (conSize q) (conLen q) v).run P w' = .ok (conCells q).toArray w' := by
  have := h.cells w' hw (conLen q) (Nat.le_refl _)
  rwa [← conCells_length h.ok, List.take_length] at this

/-- 'withCon': what it hands on is what the value holds. -/
theorem withCon_sound (hm : Mem w0 M ρ H w) {x : SV} {v : Value} (hx : D (dmOf H) ρ x v) {f : List Prop → Con → RP Delta} {d : Delta} {rs rs' : List Nat} (h : (withCon x f).run H rs = some (d, rs')) :
    ∃ p q rs1, (f p q).run H rs1 = some (d, rs') ∧ (AllP p → ConAt P w v q) := by
  unfold withCon at h
  split at h
  · rename_i key c est off len
    simp only [D] at hx
    obtain ⟨hk, ho, hl, hr, ad, cap, rfl, hlc, hdis⟩ := hx
    simp only [RP.run] at h
    split at h
    · rename_i ro l hkey
      split at h
      · rename_i g hs
        split at h
        · rename_i p q hq
          refine ⟨p, q, _, h, fun hp => ?_⟩
          obtain ⟨vs, h1, h2, h3, _⟩ := hm.segs hkey
          obtain ⟨pre, cs, post, e1, e2, e3, _, _⟩ := segAt_D l c vs g 0 h1 hs
          obtain ⟨a1, a2, a3, a4, a5⟩ := conSeg_sound hq e2 hp ho hl
          refine ⟨a1, fun w' => by rw [a2]; rfl, ?_, fun w' hw' m hm' => ?_⟩
          · rintro ad' n' cap' hv
            cases hv
            refine ⟨a2.symm, hlc, ?_⟩
            rcases hdis with ⟨rfl, hcap⟩ | ⟨q1, q2⟩
            · right
              refine ⟨(ρ key).blk, (ρ key).off + (c + est * off.z.toNat), rfl, fun h0 => hm.heap.lt key ro l hkey ?_, ?_⟩
              · rw [a3] at h0; omega
              · have hra := rangeAt_part h3 (c + est * off.z.toNat) (est * len.z.toNat)
                have heq : conCells q = (vs.drop (c + est * off.z.toNat)).take (est * len.z.toNat) := by
                  rw [a4, e1, show c + est * off.z.toNat = pre.length + est * off.z.toNat by omega, drop_mid _ _ _ _ _ a5]
                rw [heq]; exact hra
            · left
              exact ⟨by rw [a2]; omega, q2⟩
          rw [a3]
          have hcl := conCells_length a1
          rw [a3] at hcl
          have hml : m * est ≤ conLen q * est := Nat.mul_le_mul_right _ hm'
          rcases hdis with ⟨rfl, hcap⟩ | ⟨q1, q2⟩
          · refine firstCells_some est m _ _ _ _ (by rw [List.length_take, hcl]; omega) (fun j u hu => hw' _ _ ?_)
            rw [addr_add]
            have hra := rangeAt_part h3 (c + est * off.z.toNat) (est * len.z.toNat)
            have heq : conCells q = (vs.drop (c + est * off.z.toNat)).take (est * len.z.toNat) := by
              rw [a4, e1, show c + est * off.z.toNat = pre.length + est * off.z.toNat by omega, drop_mid _ _ _ _ _ a5]
            rw [← heq] at hra
            rw [List.getElem?_take] at hu
            split at hu
            · have := hra j u hu
              simpa [at_, Nat.add_assoc] using this
            · cases hu
          · have hz : len.z.toNat = 0 := by omega
            have hm0 : m = 0 := by omega
            rw [hm0]
            cases ad <;> simp [Builtin.firstCells, loadCells, loadCellsFrom]
        · simp [RP.run] at h
      · simp [RP.run] at h
    · simp [RP.run] at h
  · rename_i s
    simp only [D] at hx
    obtain ⟨rfl, hs⟩ := hx
    refine ⟨[], _, _, h, fun _ => ⟨bytesI_ok s, fun w' => by simp [Builtin.lenOf, conLen, bytesI_length], (fun ad n cap hv => by cases hv), fun w' _ m hm' => ?_⟩⟩
    simp only [conLen, bytesI_length] at hm'
    simp only [Builtin.firstCells, conSize, conCells, Nat.mul_one, Sem.run_pure]
    congr 1
    apply Array.ext'
    simp [bytesI, Function.comp_def, ByteArray.extract, ByteArray.copySlice]
  · rename_i key sh dd
    simp only [D] at hx
    obtain ⟨hk, hrel, hF, ad, cap, rfl, hlc, hl63, hdis⟩ := hx
    simp only [RP.run] at h
    split at h
    · rename_i hkey
      split at h
      · rename_i k
        have hr := hm.view key hkey
        rw [hr] at hrel
        have hrel := RoD.mono hm.keeps _ _ _ hrel
        simp only [RoD] at hrel
        obtain ⟨a0, cap', q1, q2, q3, q4, q5⟩ := hrel
        simp only [Value.slice.injEq, roLen] at q1
        obtain ⟨rfl, _, rfl⟩ := q1
        refine ⟨[], _, _, h, fun _ => ⟨q4, fun w' => rfl, ?_, fun w' hw' m hm' => ?_⟩⟩
        · rintro ad' n' cap' hv
          cases hv
          refine ⟨rfl, hlc, ?_⟩
          rcases q5 with ⟨b, o, rfl, r1, r2⟩ | ⟨r1, r2⟩
          · exact .inr ⟨b, o, rfl, fun _ => Nat.lt_of_lt_of_le r1.1 hm.frame.size, r2⟩
          · exact .inl ⟨r1, r2⟩
        · simp only [conLen] at hm'
          simp only [conSize, conCells, Nat.mul_one]
          rcases q5 with ⟨b, o, rfl, r1, r2⟩ | ⟨r1, r2⟩
          · refine firstCells_some 1 m _ _ _ _ (by rw [List.length_take, List.length_map]; omega) (fun j u hu => hw' _ _ ?_)
            have hadd : ∀ m, (⟨b, o, none⟩ : Addr).add m = ⟨b, o + m, none⟩ := fun m => by by_cases h : m = 0 <;> simp [Addr.add, h]
            rw [hadd]
            rw [List.getElem?_take] at hu
            split at hu
            · exact r2 j u hu
            · cases hu
          · have hm0 : m = 0 := by omega
            rw [hm0]
            cases ad <;> simp [Builtin.firstCells, loadCells, loadCellsFrom]
      · simp [RP.run] at h
    · simp [RP.run] at h
  · simp [RP.run] at h

/-- Has a type no zeros to append? -/
def NoInt (P : Program) (T2 : TypeId) : Prop := ∀ w : World, (do pure ((← underlying T2) matches .int _) : Sem Bool).run P w = .ok false w

theorem noInt_of {T2 : TypeId} {ti : TInfo} (hT : RowOk P T2 ti) (h : (match ti.ty with | .slice => true | .str => true | _ => false) = true) : (∃ e, P.underlying T2 = some (.slice e)) ∨ P.underlying T2 = some .string := by
  have h1 := hT.ty
  revert h1 h
  generalize ti.ty = t
  intro h h1
  cases t <;> simp at h <;> unfold tyB at h1 <;> split at h1 <;> first
    | (rename_i hu; exact .inr hu)
    | (rename_i hu; exact .inl ⟨_, hu⟩)
    | cases h1

/-- The model's append, as far as it grows nothing. -/
theorem append_room {T T2 ty e : TypeId} {i : TypeInfo} (ht : P.underlying T = some (.slice e)) (hi : P.info? e = some i) (h2 : (∃ e, P.underlying T2 = some (.slice e)) ∨ P.underlying T2 = some .string)
    {base : Option Addr} {sLen sCap : Nat} {v : Value} {q : Con} (hq : ConAt P w v q) (hes : conSize q = i.size) (hroom : sLen + conLen q ≤ sCap) {w' : World}
    (hst : ∀ a, base = some a → (storeCells (a.add (sLen * i.size)) (conCells q)).run P w = .ok () w') (hst' : base = none → w' = w) :
    (Builtin.append_ #[T, T2] ty #[.slice base sLen sCap, v]).run P w = .ok (.slice base (sLen + conLen q) sCap) w' := by
  have hf := hq.all w (fun _ _ h => h)
  rw [hes] at hf
  have hl := hq.len
  cases base with
  | none =>
    have hw := hst' rfl
    subst hw
    rcases h2 with ⟨e2, h2⟩ | h2 <;> simp [Builtin.append_, run_underlying ht, run_underlying h2, sizeOf, typeInfo, hi, hl, hroom, hf]
  | some a =>
    have hs := hst a rfl
    rcases h2 with ⟨e2, h2⟩ | h2 <;> simp [Builtin.append_, run_underlying ht, run_underlying h2, sizeOf, typeInfo, hi, hl, hroom, hf, hs]

theorem append_grow {T T2 ty e : TypeId} {i : TypeInfo} {z : Value} (ht : P.underlying T = some (.slice e)) (hi : P.info? e = some i) (hz0 : i.zero = some z) (h2 : (∃ e, P.underlying T2 = some (.slice e)) ∨ P.underlying T2 = some .string)
    {base : Option Addr} {sLen sCap : Nat} {v : Value} {q : Con} (hq : ConAt P w v q) (hes : conSize q = i.size) (hroom : sCap < sLen + conLen q) {xs : List Value}
    (hold : (Builtin.firstCells i.size sLen (.slice base sLen sCap)).run P w.drew = .ok xs.toArray w.drew) (h63 : ((sLen + conLen q : Nat) : Int) ≤ 9223372036854775807) (hfit : Builtin.nextslicecap (sLen + conLen q) sCap * i.bytes ≤ 281474976710656) :
    (Builtin.append_ #[T, T2] ty #[.slice base sLen sCap, v]).run P w = .ok (.slice (some ⟨w.heap.size, 0, none⟩) (sLen + conLen q) (grownCap w (sLen + conLen q) sCap e))
      (w.drew.alloc (.cells (xs.toArray ++ (conCells q).toArray ++ Builtin.zeroCells z.cells (grownCap w (sLen + conLen q) sCap e - (sLen + conLen q))) e)) := by
  have hf := hq.all w.drew (fun _ _ h => by simpa using h)
  rw [hes] at hf
  have hl := hq.len
  have hn : ¬ (sLen + conLen q ≤ sCap) := by omega
  have h63' : ¬ (9223372036854775807 < ((sLen : Int) + (conLen q : Int))) := by omega
  have h48' : ¬ (281474976710656 < Builtin.nextslicecap (sLen + conLen q) sCap * i.bytes) := by omega
  rcases h2 with ⟨e2, h2⟩ | h2 <;> simp [Builtin.append_, run_underlying ht, run_underlying h2, sizeOf, typeInfo, zeroValue, hi, hz0, hl, hn, h63', h48', Question.forced, hf, hold, newRow, grownCap] <;>
    (congr 2; apply Array.ext'; simp [List.append_assoc])

/-! ### append -/

theorem conRow_D {dm : Nat → Prop} {q : Con} (h : conOk q) : SegD dm ρ (conRow q) (conCells q) := by
  cases q <;> exact ⟨h, rfl⟩

theorem conJoin_sound {a b r : Con} (h : conJoin a b = some r) (ha : conOk a) (hb : conOk b) :
    conOk r ∧ conCells r = conCells a ++ conCells b ∧ conLen r = conLen a + conLen b ∧ conSize r = conSize a ∧ conSize b = conSize a := by
  cases a with
  | ints k l =>
    cases b with
    | ints k' y =>
      simp only [conJoin] at h
      split at h
      · rename_i e
        have := keq_eq e
        subst this
        simp only [Option.some.injEq] at h; subst h
        exact ⟨fun z hz => (List.mem_append.1 hz).elim (ha z) (hb z), by simp [conCells], by simp [conLen], rfl, rfl⟩
      · cases h
    | arrs => simp [conJoin] at h
  | arrs k n l =>
    cases b with
    | ints => simp [conJoin] at h
    | arrs k' m y =>
      simp only [conJoin] at h
      split at h
      · rename_i e
        simp only [Bool.and_eq_true] at e
        have e1 := keq_eq e.1
        have e2 := Nat.eq_of_beq_eq_true e.2
        subst e1 e2
        simp only [Option.some.injEq] at h; subst h
        exact ⟨fun z hz => (List.mem_append.1 hz).elim (ha z) (hb z), by simp [conCells], by simp [conLen], rfl, rfl⟩
      · cases h

theorem Mem.virtual (h : Mem w0 M ρ H w) {key : Nat} (hn : H key = none) {l : List Seg} (hl : SegsD (dmOf H) ρ l []) : Mem w0 M (updP ρ key ({ blk := 0, off := 0, cap := 0 } : Pl)) (updH H key (.segs false l)) w := by
  have hk := updP_keeps (ρ := ρ) (p := ({ blk := 0, off := 0, cap := 0 } : Pl)) hn
  refine ⟨⟨fun k b hb => ?_, fun k k' ro ro' l1 l2 h1 h2 hkk hr c1 c2 => ?_, fun k ro l1 h1 c1 => ?_⟩, h.frame, fun k l1 h1 c1 => ?_, view_up h.view (by simp), fun k l1 h1 c1 => ?_⟩
  · by_cases e : k = key
    · subst e
      rw [updH_same] at hb
      simp only [Option.some.injEq] at hb; subst hb
      exact ⟨[], SegsD.mono (dm_updH _ _ _) hk l [] hl, by simp, rangeAt_nil _ _ _, fun _ => by rw [updP_same]; exact there_zero _ _ _⟩
    · rw [updH_ne e] at hb
      exact (h.heap.blk k b hb).of_block (dm_updH _ _ _) hk (updP_ne e) (fun _ _ _ _ => rfl)
  · have n1 : k ≠ key := fun e => by subst e; rw [updP_same] at c1; exact absurd c1 (by simp)
    have n2 : k' ≠ key := fun e => by subst e; rw [updP_same] at c2; exact absurd c2 (by simp)
    rw [updH_ne n1] at h1; rw [updH_ne n2] at h2
    rw [updP_ne n1] at c1 ⊢; rw [updP_ne n2] at c2 ⊢
    exact h.heap.sep k k' ro ro' l1 l2 h1 h2 hkk hr c1 c2
  · have n1 : k ≠ key := fun e => by subst e; rw [updP_same] at c1; exact absurd c1 (by simp)
    rw [updH_ne n1] at h1; rw [updP_ne n1] at c1 ⊢
    exact h.heap.lt k ro l1 h1 c1
  · have n1 : k ≠ key := fun e => by subst e; rw [updP_same] at c1; exact absurd c1 (by simp)
    rw [updH_ne n1] at h1; rw [updP_ne n1] at c1 ⊢
    exact h.own k l1 h1 c1
  · have n1 : k ≠ key := fun e => by subst e; rw [updP_same] at c1; exact absurd c1 (by simp)
    rw [updH_ne n1] at h1; rw [updP_ne n1] at c1 ⊢
    exact h.clean k l1 h1 c1

theorem updH_comm {H : Nat → Option SB} {a b : Nat} (hab : a ≠ b) (x y : SB) : updH (updH H a x) b y = updH (updH H b y) a x := by
  funext k
  simp only [updH]
  split <;> split <;> simp_all

theorem updH_over {H : Nat → Option SB} {a : Nat} (x y : SB) : updH (updH H a x) a y = updH H a y := by
  funext k
  simp only [updH]
  split <;> simp_all

theorem zeroB_size {t : Ty} {z : Value} (h : zeroB t z = true) : z.cells.size = t.size := by
  unfold zeroB at h
  split at h
  · rename_i cs
    simp only [Bool.and_eq_true] at h
    obtain ⟨h1, h2⟩ := h
    split at h2
    · rename_i e
      obtain ⟨v, a1, a2, a3, a4, _⟩ := zc_D (dm := fun _ => False) (ρ := fun _ => ({ blk := 0, off := 0, cap := 0 } : Pl)) t cs.toList [] e
      rw [← a3]
      have := congrArg List.length a2
      simpa [Value.cells] using this
    · cases h2
  · simp only [Bool.and_eq_true, Bool.not_eq_true'] at h
    obtain ⟨h1, h2⟩ := h
    split at h2
    · rename_i e
      obtain ⟨v, a1, a2, a3, _, a5⟩ := zc_D (dm := fun _ => False) (ρ := fun _ => ({ blk := 0, off := 0, cap := 0 } : Pl)) t _ [] e
      have := a5 h1
      rw [this] at a2
      simp at a2
      rw [a2]; exact a3
    · cases h2

theorem slice_of {T : TypeId} {ti : TInfo} (hT : RowOk P T ti) (ht : ti.ty = .slice) : P.underlying T = some (.slice ti.elem) := by
  have hty' := hT.ty
  rw [ht] at hty'
  unfold tyB at hty'
  split at hty'
  · rename_i e hu; rw [hu, hT.slice e hu]
  · cases hty'

theorem conJoin_some {a b r : Con} (h : conJoin a b = some r) : conSize r = conSize a ∧ conSize b = conSize a := by
  cases a <;> cases b <;> simp only [conJoin] at h <;> (try cases h) <;> (split at h <;> try cases h)
  · exact ⟨rfl, rfl⟩
  · rename_i e
    simp only [Bool.and_eq_true] at e
    exact ⟨rfl, (Nat.eq_of_beq_eq_true e.2).symm⟩

end
end Go.Gx

/- append, copy, clear; bytes and texts: what they come to. -/
namespace Go.Gx
open Go.RowKit
set_option linter.unusedVariables false

section
variable {P : Program} {w0 : World} {M : Nat → Prop} {ρ : Nat → Pl} {H : Nat → Option SB} {w : World}

theorem appendTo_run {stamp : Nat} {te : TInfo} {old x : Con} {gone : List (Nat × SB)} {pre : List Prop} {d : Delta} {rs rs' : List Nat} (h : (appendTo stamp te old x gone pre).run H rs = some (d, rs')) :
    ∃ r, conJoin old x = some r ∧ 0 < te.bytes ∧ te.ty.size = conSize old ∧ H stamp = none ∧
      d = ⟨(((conLen r : Nat) : Int) * (te.bytes : Int) ≤ 70368744177664) :: pre, .sl stamp 0 (conSize r) ⟨true, 0⟩ ⟨false, ((conLen r : Nat) : Int)⟩, (stamp, .segs false [conRow r]) :: gone, true⟩ := by
  unfold appendTo at h
  split at h
  · rename_i r hr hb
    simp only [Bool.and_eq_true] at hb
    simp only [RP.run] at h
    split at h
    · rename_i hn
      refine ⟨r, hr, ?_, Nat.eq_of_beq_eq_true hb.2, hn, run_ret h⟩
      have := hb.1
      simp [Nat.blt] at this
      omega
    · simp [RP.run] at h
  · simp [RP.run] at h

theorem segs_one {dm : Nat → Prop} {g : Seg} {cs : List Value} (h : SegD dm ρ g cs) : SegsD dm ρ [g] cs := ⟨cs, [], h, by simp, rfl⟩

theorem sl_D {dm : Nat → Prop} {key es : Nat} {a : Option Addr} {cap : Nat} (hk : dm key) (n : Nat) (hn : (n : Int) < 9223372036854775808) (hc : n ≤ cap)
    (h : (a = some (at_ (ρ key) 0) ∧ es * cap ≤ (ρ key).cap) ∨ (n = 0 ∧ cap = 0)) : D dm ρ (.sl key 0 es ⟨true, 0⟩ ⟨false, (n : Int)⟩) (.slice a n cap) := by
  refine ⟨hk, by simp, by simp, by simp only [InR]; omega, a, cap, by simp, by simpa using hc, ?_⟩
  rcases h with ⟨h1, h2⟩ | ⟨h1, h2⟩
  · exact .inl ⟨by simpa using h1, by simpa using h2⟩
  · exact .inr ⟨by simpa using h1, h2⟩

/-- A row that grows: into a new block. -/
theorem grow_after (hm : Mem w0 M ρ H w) {stamp : Nat} (hn : H stamp = none) {te : TInfo} {ie : TypeInfo} {z : Value} (hz1 : z.cells.size = ie.size) {e : TypeId} {old x r : Con} (hr : conJoin old x = some r) (h1 : conOk old) (h2 : conOk x)
    (hes : conSize old = ie.size) {sLen sCap : Nat} (hl : sLen = conLen old) (hg : sCap < sLen + conLen x) (hb : 0 < ie.bytes) (hpre : ((conLen r : Nat) : Int) * (ie.bytes : Int) ≤ 70368744177664)
    {d : Delta} (hdv : d.v = .sl stamp 0 (conSize r) ⟨true, 0⟩ ⟨false, ((conLen r : Nat) : Int)⟩) (hws : d.ws = [(stamp, .segs false [conRow r])] ∨ ∃ key, (H key).isSome = true ∧ d.ws = [(stamp, .segs false [conRow r]), (key, .gone)]) :
    After w0 M ρ H d (.slice (some ⟨w.heap.size, 0, none⟩) (sLen + conLen x) (grownCap w (sLen + conLen x) sCap e))
      (w.drew.alloc (.cells ((conCells old).toArray ++ (conCells x).toArray ++ Builtin.zeroCells z.cells (grownCap w (sLen + conLen x) sCap e - (sLen + conLen x))) e)) := by
  obtain ⟨q1, q2, q3, q4, q5⟩ := conJoin_sound hr h1 h2
  have hge := grownCap_ge w (sLen + conLen x) sCap e
  generalize grownCap w (sLen + conLen x) sCap e = cp at *
  have hd : Mem w0 M ρ H w.drew := hm.drew _
  have hlen : conLen r = sLen + conLen x := by rw [q3, hl]
  have hsmall : (conLen r : Int) < 9223372036854775808 := by
    have : (conLen r : Int) * 1 ≤ (conLen r : Int) * (ie.bytes : Int) := Int.mul_le_mul_of_nonneg_left (by omega) (by omega)
    omega
  have hal := hd.alloc hn (segs_one (conRow_D (ρ := ρ) (dm := dmOf H) q1)) (cells := (conCells old).toArray ++ (conCells x).toArray ++ Builtin.zeroCells z.cells (cp - (sLen + conLen x)))
    (T := e) (fr := (0, 0)) (extra := (Builtin.zeroCells z.cells (cp - (sLen + conLen x))).toList) (by simp [q2]) (.inl rfl)
  have hsz : ((conCells old).toArray ++ (conCells x).toArray ++ Builtin.zeroCells z.cells (cp - (sLen + conLen x))).size = conSize r * cp := by
    have e1 := conCells_length h1
    have e2 := conCells_length h2
    rw [q5, hes] at e2
    rw [hes] at e1
    simp only [Array.size_append, List.size_toArray, Builtin.zeroCells, Array.size_map, Array.size_range, e1, e2, hz1, q4, hes]
    rw [← Nat.add_mul, ← Nat.add_mul, ← hl, Nat.add_sub_cancel' hge, Nat.mul_comm]
  have hD : ∀ (dm : Nat → Prop), dm stamp → D dm (updP ρ stamp ({ blk := w.drew.heap.size, off := 0, cap := ((conCells old).toArray ++ (conCells x).toArray ++ Builtin.zeroCells z.cells (cp - (sLen + conLen x))).size } : Pl)) d.v (.slice (some ⟨w.heap.size, 0, none⟩) (sLen + conLen x) cp) := fun dm hs => by
    rw [hdv, hlen]
    refine sl_D hs _ (by omega) hge (.inl ⟨?_, ?_⟩)
    · rw [updP_same]; rfl
    · rw [updP_same, hsz]; exact Nat.le_refl _
  rcases hws with hws | ⟨key, hk, hws⟩
  · exact ⟨_, updP_keeps hn, hD _ (by rw [hws]; exact dm_new _ _ _), by rw [hws]; exact hal⟩
  · exact ⟨_, updP_keeps hn, hD _ (by rw [hws]; exact dm_updH _ _ _ _ (dm_new _ _ _)), by rw [hws]; exact hal.gone key (dm_updH _ _ _ key hk)⟩

theorem append_sound {T T2 tyy : TypeId} {ti ti2 : TInfo} {ty : List (Nat × TInfo)} (hT : RowOk P T ti) (hT2 : RowOk P T2 ti2) (hty : tabB P ty = true) (hm : Mem w0 M ρ H w) {stamp : Nat} {s x : SV} {vs vx : Value} (hs : D (dmOf H) ρ s vs) (hx : D (dmOf H) ρ x vx)
    {d : Delta} {rs rs' : List Nat} (h : (appendOp ty stamp ti ti2 s x).run H rs = some (d, rs')) (hp : AllP d.pre) :
    ∃ v w', (Builtin.append_ #[T, T2] tyy #[vs, vx]).run P w = .ok v w' ∧ After w0 M ρ H d v w' := by
  unfold appendOp at h
  split at h
  · rename_i te ht hte hsq
    have hTe := rowB_ok (tabB_row hty hte)
    obtain ⟨ie, z, hi1, hi2, hi3, hi4, hi5⟩ := hTe.info
    have hu := slice_of hT ht
    have hz1 : z.cells.size = ie.size := by rw [zeroB_size hi5, hi2]
    have h2 := noInt_of hT2 (show (match ti2.ty with | .slice => true | .str => true | _ => false) = true from hsq)
    split at h
    · -- nil
      simp only [D] at hs
      subst hs
      split at h
      · rename_i old hold
        obtain ⟨p, q, rs1, hw, hq⟩ := withCon_sound (P := P) hm hx h
        obtain ⟨r, hr, hb, hsz, hn, rfl⟩ := appendTo_run hw
        have hq := hq hp.2
        have hok : conOk old ∧ conLen old = 0 ∧ conCells old = [] := by
          unfold emptyCon at hold
          split at hold <;> simp only [Option.some.injEq, reduceCtorEq] at hold <;> subst hold
          · exact ⟨fun z hz => by simp at hz, rfl, rfl⟩
          · exact ⟨fun z hz => by simp at hz, rfl, rfl⟩
        obtain ⟨q1, q2, q3, q4, q5⟩ := conJoin_sound hr hok.1 hq.ok
        have hes : conSize q = ie.size := by rw [q5, ← hsz, hi2]
        rcases Nat.eq_zero_or_pos (conLen q) with h0 | h0
        · have hc0 : conCells q = [] := List.eq_nil_of_length_eq_zero (by rw [conCells_length hq.ok, h0]; simp)
          refine ⟨_, w, append_room hu hi1 h2 hq hes (by omega) (fun a ha => by cases ha) (fun _ => rfl), updP ρ stamp ({ blk := 0, off := 0, cap := 0 } : Pl), updP_keeps hn, ?_, ?_⟩
          · have : conLen r = 0 + conLen q := by rw [q3, hok.2.1]
            rw [this]
            exact sl_D (dm_new _ _ _) _ (by omega) (by omega) (.inr ⟨by omega, rfl⟩)
          · exact hm.virtual hn (by have := segs_one (conRow_D (ρ := ρ) (dm := dmOf H) q1); rwa [q2, hok.2.2, hc0] at this)
        · have hlr : conLen r = 0 + conLen q := by rw [q3, hok.2.1]
          have hb' : ((conLen r : Nat) : Int) * (ie.bytes : Int) ≤ 70368744177664 := by rw [hi3]; exact hp.1
          have hbn : (0 + conLen q) * ie.bytes ≤ 140737488355328 := by
            rw [← hlr]
            have : ((conLen r * ie.bytes : Nat) : Int) ≤ 70368744177664 := by simpa using hb'
            omega
          refine ⟨_, _, append_grow (xs := []) hu hi1 hi4 h2 hq hes (by omega) (by simp [Builtin.firstCells]) ?_ (growslice_fits (by omega) hbn), ?_⟩
          · have : (0 + conLen q) * 1 ≤ (0 + conLen q) * ie.bytes := Nat.mul_le_mul_left _ (by omega)
            omega
          · have := grow_after (e := ti.elem) (te := te) hm hn hz1 hr hok.1 hq.ok (by rw [← hsz, hi2]) (sLen := 0) (sCap := 0) hok.2.1.symm (by omega) (by omega) hb' (d := ⟨(((conLen r : Nat) : Int) * (te.bytes : Int) ≤ 70368744177664) :: p, _, _, true⟩) rfl (.inl rfl)
            rw [hok.2.2] at this
            exact this
      · simp [RP.run] at h
    · -- a row of the call's own
      rename_i key est len
      simp only [D] at hs
      obtain ⟨hk, ho, hl, hr0, ad, cap, rfl, hlc, hdis⟩ := hs
      simp only [RP.run] at h
      split at h
      · rename_i g hkey
        split at h
        · rename_i old hold
          split at h
          · rename_i hest
            have hest := Nat.eq_of_beq_eq_true hest
            obtain ⟨p, q, rs1, hw, hq⟩ := withCon_sound (P := P) hm hx h
            obtain ⟨r, hr, hb, hsz, hn, rfl⟩ := appendTo_run hw
            have hq := hq hp.2.2
            have hlz := hp.2.1
            obtain ⟨vs, h1, h3, h4, h5⟩ := hm.segs hkey
            obtain ⟨c1, c2, e1, e2, e3⟩ := h1
            have e4 : c2 = [] := e3
            subst e4
            simp only [List.append_nil] at e2
            subst e2
            have hok : conOk old ∧ conCells old = vs ∧ conRow old = g := by
              cases g <;> simp only [rowCon, Option.some.injEq, reduceCtorEq] at hold <;> subst hold <;> exact ⟨e1.1, e1.2.symm, rfl⟩
            obtain ⟨q1, q2, q3, q4, q5⟩ := conJoin_sound hr hok.1 hq.ok
            have hes : conSize q = ie.size := by rw [q5, ← hsz, hi2]
            have hlen : len.z.toNat = conLen old := by omega
            have hcl := conCells_length hok.1
            have hlr : conLen r = len.z.toNat + conLen q := by rw [q3, hlen]
            have hb' : ((conLen r : Nat) : Int) * (ie.bytes : Int) ≤ 70368744177664 := by rw [hi3]; exact hp.1
            have hbn : (len.z.toNat + conLen q) * ie.bytes ≤ 140737488355328 := by
              rw [← hlr]; have : ((conLen r * ie.bytes : Nat) : Int) ≤ 70368744177664 := by simpa using hb'
              omega
            have hsmall : len.z.toNat + conLen q ≤ 140737488355328 := by
              have : (len.z.toNat + conLen q) * 1 ≤ (len.z.toNat + conLen q) * ie.bytes := Nat.mul_le_mul_left _ (by omega)
              omega
            rcases Nat.lt_or_ge cap (len.z.toNat + conLen q) with hroom | hroom
            · -- it grows
              refine ⟨_, _, append_grow (xs := conCells old) hu hi1 hi4 h2 hq hes (by omega) ?_ (by omega) (growslice_fits (by omega) hbn), ?_⟩
              · rcases hdis with ⟨rfl, hcap⟩ | ⟨d1, d2⟩
                · refine firstCells_some _ _ _ _ _ _ (by rw [hcl, ← hsz, hi2, hlen]) (fun j u hu2 => ?_)
                  rw [addr_add]
                  rw [hok.2.1] at hu2
                  have := h4 j u hu2
                  simpa [at_] using this
                · have : conCells old = [] := List.eq_nil_of_length_eq_zero (by rw [hcl, ← hlen, d1]; simp)
                  rw [this, d1]
                  cases ad <;> simp [Builtin.firstCells, loadCells, loadCellsFrom]
              · exact grow_after (e := ti.elem) (te := te) hm hn hz1 hr hok.1 hq.ok (by rw [← hsz, hi2]) hlen (by omega) (by omega) hb' (d := ⟨(((conLen r : Nat) : Int) * (te.bytes : Int) ≤ 70368744177664) :: (len.z = ((conLen old : Nat) : Int)) :: p, _, _, true⟩) rfl (.inr ⟨key, by rw [hkey]; rfl, rfl⟩)
            · rcases hdis with ⟨rfl, hcap⟩ | ⟨d1, d2⟩
              · -- there is room
                have hcap' : conSize old * cap ≤ (ρ key).cap := by rw [← hest]; simpa using hcap
                have hfit : (conCells old).length + (conCells q).length ≤ (ρ key).cap := by
                  rw [hcl, conCells_length hq.ok, q5, ← Nat.add_mul, Nat.mul_comm, ← hlen]
                  exact Nat.le_trans (Nat.mul_le_mul_left _ hroom) hcap'
                have hclen : (conCells old).length = len.z.toNat * ie.size := by rw [hcl, ← hsz, hi2, hlen]
                have hth := h5 rfl
                have hst := run_storeCells_cells (P := P) (ρ key).blk ((ρ key).off + len.z.toNat * ie.size) (conCells q) 0 w
                  (fun j hj => by have := (hth (len.z.toNat * ie.size + j) (by omega)).1; simpa [Nat.add_assoc] using this)
                  (fun j hj => by have := (hth (len.z.toNat * ie.size + j) (by omega)).2; simpa [Nat.add_assoc] using this) conCells_one
                simp only [Nat.add_zero] at hst
                refine ⟨_, w.setCells (ρ key).blk ((ρ key).off + len.z.toNat * ie.size) (conCells q), append_room hu hi1 h2 hq hes hroom (fun a ha => ?_) (fun ha => by cases ha), ?_⟩
                · simp only [Option.some.injEq] at ha
                  subst ha
                  rw [addr_add]
                  simpa [at_] using hst
                · have hmm := hm.store (nv := conCells q) (o := len.z.toNat * ie.size) (vs' := conCells r) (l' := [conRow r]) hkey h4 (by rw [← hok.2.1]; omega) (by omega) h3
                    (by rw [← hok.2.1, ← hclen, List.take_length, List.drop_eq_nil_of_le (by omega), List.append_nil, q2]) (segs_one (conRow_D q1))
                  have hn' : updH H key (.segs false [conRow r]) stamp = none := by
                    rw [updH_ne]; exact hn
                    intro e; rw [e, hkey] at hn; cases hn
                  have hne : stamp ≠ key := fun e => by rw [e, hkey] at hn; cases hn
                  have hre := hmm.rekey (new := stamp) (updH_same _ _ _) hn'
                  rw [updH_over, updH_comm (Ne.symm hne)] at hre
                  refine ⟨updP ρ stamp (ρ key), updP_keeps hn, ?_, hre⟩
                  rw [hlr]
                  refine sl_D (dm_updH _ _ _ _ (dm_new _ _ _)) _ (by omega) hroom (.inl ⟨?_, ?_⟩)
                  · rw [updP_same]; simp
                  · rw [updP_same, q4]; exact hcap'
              · -- nothing to nothing
                have hq0 : conLen q = 0 := by omega
                have hc0 : conCells q = [] := List.eq_nil_of_length_eq_zero (by rw [conCells_length hq.ok, hq0]; simp)
                have ho0 : conCells old = [] := List.eq_nil_of_length_eq_zero (by rw [hcl, ← hlen, d1]; simp)
                refine ⟨_, w, append_room hu hi1 h2 hq hes hroom (fun a ha => by rw [hc0]; rfl) (fun _ => rfl), updP ρ stamp ({ blk := 0, off := 0, cap := 0 } : Pl), updP_keeps hn, ?_, ?_⟩
                · rw [hlr]
                  exact sl_D (dm_updH _ _ _ _ (dm_new _ _ _)) _ (by omega) hroom (.inr ⟨by omega, d2⟩)
                · have hv := hm.virtual hn (by have := segs_one (conRow_D (ρ := ρ) (dm := dmOf H) q1); rwa [q2, ho0, hc0] at this)
                  exact hv.gone key (dm_updH _ _ _ key (by rw [dmOf, hkey]; rfl))
          · simp [RP.run] at h
        · simp [RP.run] at h
      · simp [RP.run] at h
    · simp [RP.run] at h
  · simp [RP.run] at h

end
end Go.Gx

/- copy, clear; bytes and texts. -/
namespace Go.Gx
open Go.RowKit
set_option linter.unusedVariables false

section
variable {P : Program} {w0 : World} {M : Nat → Prop} {ρ : Nat → Pl} {H : Nat → Option SB} {w : World}

theorem laySeg_sound {dm : Nat → Prop} {g g' : Seg} {k : IntKind} {off n : Int} {z : List Int} {p : Prop} {cs : List Value} (h : laySeg g k off n z = some (p, g')) (hg : SegD dm ρ g cs) (hp : p) (ho : 0 ≤ off) (hz : (z.length : Int) ≤ n) (hk : AllR k z) :
    SegD dm ρ g' (over cs off.toNat (z.map (Value.int k))) ∧ off.toNat + z.length ≤ cs.length := by
  have hall : ∀ {y : List Int}, AllR k y → AllR k (over y off.toNat z) := fun hy u hu => by
    unfold over at hu
    rcases List.mem_append.1 hu with hu | hu
    · rcases List.mem_append.1 hu with hu | hu
      · exact hy u (List.mem_of_mem_take hu)
      · exact hk u hu
    · exact hy u (List.mem_of_mem_drop hu)
  cases g <;> simp only [laySeg, reduceCtorEq] at h
  · rename_i k' m ex y
    split at h
    · rename_i e
      have e := keq_eq e
      subst e
      simp only [Option.some.injEq, Prod.mk.injEq] at h
      obtain ⟨rfl, rfl⟩ := h
      obtain ⟨h1, h2, h3⟩ := hg
      have hle : off.toNat + z.length ≤ y.length := by omega
      exact ⟨⟨by show (over y off.toNat z).length = m; rw [over_length hle, h1], hall h2, by rw [h3]; exact (map_over _ _ _ _).symm⟩, by rw [h3]; simpa using hle⟩
    · cases h
  · rename_i k' y
    split at h
    · rename_i e
      have e := keq_eq e
      subst e
      simp only [Option.some.injEq, Prod.mk.injEq] at h
      obtain ⟨rfl, rfl⟩ := h
      obtain ⟨h2, h3⟩ := hg
      have hle : off.toNat + z.length ≤ y.length := by omega
      exact ⟨⟨hall h2, by rw [h3]; exact (map_over _ _ _ _).symm⟩, by rw [h3]; simpa using hle⟩
    · cases h

/-- Numbers stored into a slice's elements. -/
theorem lay_sound (hm : Mem w0 M ρ H w) {key c : Nat} {off len : SI} {l l' : List Seg} (hkey : H key = some (.segs false l)) {g g' : Seg} (hs : segAt l c = some (g, 0)) {k : IntKind} {z : List Int} {p : Prop}
    (hlay : laySeg g k off.z len.z z = some (p, g')) (hp : p) (ho : 0 ≤ off.z) (hz : (z.length : Int) ≤ len.z) (hk : AllR k z) (hset : segSet l c g' = some l') :
    (∀ ad cap, ((ad = some (at_ (ρ key) (c + 1 * off.z.toNat)) ∧ c + 1 * off.z.toNat + 1 * cap ≤ (ρ key).cap) ∨ (len.z = 0 ∧ cap = 0)) →
      ∃ w', (∀ a, ad = some a → (storeCells a (z.map (Value.int k))).run P w = .ok () w') ∧ (ad = none → w' = w) ∧ Mem w0 M ρ (updH H key (.segs false l')) w' ∧
        (z = [] → w' = w)) := by
  intro ad cap hdis
  obtain ⟨vs, h1, h2, h3, h4⟩ := hm.segs hkey
  obtain ⟨pre, cs, post, e1, e2, e3, _, e5⟩ := segAt_D l c vs g 0 h1 hs
  obtain ⟨a1, a2⟩ := laySeg_sound hlay e2 hp ho hz hk
  have a3 := e5 g' _ l' hset a1
  rw [← over_mid _ _ _ _ _ (by simpa using a2), ← e1, show pre.length + off.z.toNat = c + off.z.toNat by omega] at a3
  have hle : c + off.z.toNat + z.length ≤ vs.length := by rw [e1]; simp; omega
  have hth := h4 rfl
  rcases hdis with ⟨rfl, hcap⟩ | ⟨d1, d2⟩
  · refine ⟨w.setCells (ρ key).blk ((ρ key).off + (c + off.z.toNat)) (z.map (Value.int k)), fun a ha => ?_, (fun ha => by cases ha), hm.store hkey h3 (by omega) (by simp; omega) h2 rfl a3, (fun hz => by rw [hz]; rfl)⟩
    simp only [Option.some.injEq] at ha
    subst ha
    have hst := run_storeCells_cells (P := P) (ρ key).blk ((ρ key).off + (c + off.z.toNat)) (z.map (Value.int k)) 0 w
      (fun j hj => by simp only [List.length_map] at hj; have := (hth (c + off.z.toNat + j) (by omega)).1; simpa [Nat.add_assoc] using this)
      (fun j hj => by simp only [List.length_map] at hj; have := (hth (c + off.z.toNat + j) (by omega)).2; simpa [Nat.add_assoc] using this)
      (fun v hv => by simp only [List.mem_map] at hv; obtain ⟨q, _, rfl⟩ := hv; rfl)
    simpa [at_] using hst
  · have hz0 : z = [] := List.eq_nil_of_length_eq_zero (by omega)
    subst hz0
    refine ⟨w, fun a _ => rfl, fun _ => rfl, ?_, fun _ => rfl⟩
    rw [List.map_nil, over_nil] at a3
    have := hm.store (nv := []) (o := 0) hkey h3 (by omega) (by simp) h2 rfl (by simpa using a3)
    simpa only [World.setCells] using this

theorem intElem_of {T : TypeId} {ti : TInfo} {ty : List (Nat × TInfo)} (hT : RowOk P T ti) (hty : tabB P ty = true) (h : intElem ty ti = true) : P.underlying T = some (.slice ti.elem) ∧ ∃ ie, P.info? ti.elem = some ie ∧ ie.size = 1 := by
  unfold intElem at h
  split at h
  · rename_i te ht hte
    obtain ⟨ie, z, hi1, hi2, hi3, hi4, hi5⟩ := (rowB_ok (tabB_row hty hte)).info
    refine ⟨slice_of hT ht, ie, hi1, ?_⟩
    split at h
    · rename_i k hk; rw [hi2, hk]; rfl
    · cases h
  · cases h

theorem copy_run {T T2 tyy e : TypeId} {ie : TypeInfo} (hu : P.underlying T = some (.slice e)) (hi : P.info? e = some ie) (h1 : ie.size = 1) {ad : Option Addr} {n cap : Nat} {v : Value} {q : Con} (hq : ConAt P w v q) (hs : conSize q = 1) {w' : World}
    (hst : ∀ a, ad = some a → (storeCells a ((conCells q).take (Nat.min (conLen q) n))).run P w = .ok () w') (hst' : ad = none → w' = w) :
    (Builtin.copy_ #[T, T2] tyy #[.slice ad n cap, v]).run P w = .ok (.int .i64 (Nat.min (conLen q) n)) w' := by
  have hl := hq.len w
  have hc := hq.cells w (fun _ _ h => h) (Nat.min (conLen q) n) (Nat.min_le_left _ _)
  rw [hs] at hc
  simp only [Nat.mul_one] at hc
  cases ad with
  | none =>
    have := hst' rfl
    subst this
    simp [Builtin.copy_, run_underlying hu, hl, sizeOf, typeInfo, hi, h1, hc, goInt]
  | some a =>
    have := hst a rfl
    simp [Builtin.copy_, run_underlying hu, hl, sizeOf, typeInfo, hi, h1, hc, goInt, this]

theorem copy_sound {T T2 tyy : TypeId} {ti : TInfo} {ty : List (Nat × TInfo)} (hT : RowOk P T ti) (hty : tabB P ty = true) (hm : Mem w0 M ρ H w) {x y : SV} {vx vy : Value} (hx : D (dmOf H) ρ x vx) (hy : D (dmOf H) ρ y vy)
    {d : Delta} {rs rs' : List Nat} (h : (copyOp ty ti x y).run H rs = some (d, rs')) (hp : AllP d.pre) :
    ∃ v w', (Builtin.copy_ #[T, T2] tyy #[vx, vy]).run P w = .ok v w' ∧ After w0 M ρ H d v w' := by
  unfold copyOp at h
  split at h
  · rename_i key c est off len hie
    obtain ⟨hu, ie, hi1, hi2⟩ := intElem_of hT hty hie
    obtain ⟨p, q, rs1, hw, hq⟩ := withCon_sound (P := P) hm hy h
    simp only [RP.run] at hw
    split at hw
    · rename_i l hkey
      split at hw
      · rename_i g k z hs hest
        have hest := Nat.eq_of_beq_eq_true hest
        subst hest
        split at hw
        · rename_i p' g' hlay
          split at hw
          · rename_i l' hset
            have e := run_ret hw
            subst e
            have hq := hq hp.2
            simp only [D] at hx
            obtain ⟨hk, ho, hl, hr, ad, cap, rfl, hlc, hdis⟩ := hx
            have htl : ((z.take len.z.toNat).length : Int) ≤ len.z := by simp; omega
            have htk : AllR k (z.take len.z.toNat) := fun u hu => hq.ok u (List.mem_of_mem_take hu)
            obtain ⟨w', f1, f2, f3, _⟩ := lay_sound (P := P) hm hkey hs hlay hp.1 ho htl htk hset ad cap hdis
            have hmin : (conCells (.ints k z)).take (Nat.min (conLen (.ints k z)) len.z.toNat) = (z.take len.z.toNat).map (Value.int k) := by
              simp only [conCells, conLen, ← List.map_take]
              congr 1
              have : Nat.min z.length len.z.toNat = min len.z.toNat z.length := Nat.min_comm _ _
              rw [this, ← List.take_take, List.take_length]
            refine ⟨_, w', copy_run hu hi1 hi2 hq rfl (fun a ha => by rw [hmin]; exact f1 a ha) f2, ρ, .refl _ _, ?_, f3⟩
            simp only [InR] at hr
            refine ⟨?_, by simp only [InR]; omega⟩
            simp only [conLen]
            congr 1
            have : Nat.min z.length len.z.toNat = min z.length len.z.toNat := rfl
            rw [this]; omega
          · simp [RP.run] at hw
        · simp [RP.run] at hw
      · simp [RP.run] at hw
    · simp [RP.run] at hw
  · simp [RP.run] at h

theorem clear_sound {T tyy : TypeId} {ti : TInfo} {ty : List (Nat × TInfo)} (hT : RowOk P T ti) (hty : tabB P ty = true) (hm : Mem w0 M ρ H w) {x : SV} {vx : Value} (hx : D (dmOf H) ρ x vx)
    {d : Delta} {rs rs' : List Nat} (h : (clearOp ty ti x).run H rs = some (d, rs')) (hp : AllP d.pre) :
    ∃ v w', (Builtin.clear_ #[T] tyy #[vx]).run P w = .ok v w' ∧ After w0 M ρ H d v w' := by
  unfold clearOp at h
  split at h
  · rename_i key c est off len te ht hte
    obtain ⟨ie, z, hi1, hi2, hi3, hi4, hi5⟩ := (rowB_ok (tabB_row hty hte)).info
    have hu := slice_of hT ht
    simp only [RP.run] at h
    split at h
    · rename_i l hkey
      split at h
      · rename_i g k hs hk hest
        have hest := Nat.eq_of_beq_eq_true hest
        subst hest
        split at h
        · rename_i p' g' hlay
          split at h
          · rename_i l' hset
            have e := run_ret h
            subst e
            simp only [D] at hx
            obtain ⟨hkk, ho, hl, hr, ad, cap, rfl, hlc, hdis⟩ := hx
            obtain ⟨w', f1, f2, f3, f4⟩ := lay_sound (P := P) hm hkey hs hlay hp.1 ho (by simp; omega) (allR_rep k _) hset ad cap hdis
            refine ⟨.tuple #[], w', ?_, ρ, .refl _ _, trivial, f3⟩
            rw [hk] at hi5
            obtain ⟨u, hu1, hu2⟩ := madeCells_zero (dm := fun _ => False) hi5 rfl 0
            have hu3 : u = .int k 0 := by
              have := zeroB_D (dm := fun _ => False) (ρ := ρ) hi5
              simp only [zero, D] at this
              rw [this.1] at hu1
              simp [Value.cells] at hu1
              exact hu1.symm
            rcases Nat.eq_zero_or_pos len.z.toNat with h0 | h0
            · have := f4 (by rw [h0]; rfl)
              subst this
              rw [h0]
              cases ad <;> simp [Builtin.clear_, run_underlying hu]
            · cases ad with
              | none =>
                rcases hdis with ⟨d1, _⟩ | ⟨d1, _⟩
                · cases d1
                · omega
              | some a =>
                have := f1 a rfl
                have hzc : (Builtin.zeroCells z.cells len.z.toNat).toList = (List.replicate len.z.toNat (0 : Int)).map (Value.int k) := by
                  rw [hu1, hu3]
                  simp [Builtin.zeroCells]
                  apply List.ext_getElem
                  · simp
                  · intro i h1 h2
                    simp [Nat.mod_one]
                obtain ⟨m, hm'⟩ : ∃ m, len.z.toNat = m + 1 := ⟨len.z.toNat - 1, by omega⟩
                rw [hm'] at this hzc ⊢
                simp only [List.map_replicate] at this hzc
                simp [Builtin.clear_, run_underlying hu, zeroValue, typeInfo, hi1, hi4, hzc, this]
          · simp [RP.run] at h
        · simp [RP.run] at h
      · simp [RP.run] at h
    · simp [RP.run] at h
  · simp [RP.run] at h

/-! ### Bytes and texts -/

theorem isBytes_of {ti : TInfo} {ty : List (Nat × TInfo)} (hty : tabB P ty = true) (h : isBytes ty ti = true) : P.underlying ti.elem = some (.int .u8) := by
  unfold isBytes at h
  split at h
  · rename_i te hte
    have hT := rowB_ok (tabB_row hty hte)
    split at h
    · rename_i hk
      have h1 := hT.ty
      rw [hk] at h1
      unfold tyB at h1
      split at h1
      · rename_i k' hu
        rw [hu, keq_eq h1]
      · cases h1
    · cases h
  · cases h

theorem ofBytes_run {a : Option Addr} {n cap : Nat} {l : List Int} (h : ConAt P w (.slice a n cap) (.ints .u8 l)) (hn : n = l.length) : (Conv.bytesToString (.slice a n cap)).run P w = .ok (.string (ofBytesI l)) w := by
  have hc := h.all w (fun _ _ h => h)
  simp only [conSize, conLen] at hc
  have hf : ∀ (l : List Int) (r : ByteArray), l.foldl (fun r n => r.push (UInt8.ofNat n.toNat)) r = ⟨r.data ++ (l.map fun z => UInt8.ofNat z.toNat).toArray⟩ := by
    intro l
    induction l with
    | nil => intro r; simp
    | cons b l ih => intro r; simp only [List.foldl_cons]; rw [ih]; simp [ByteArray.push]
  cases a with
  | none =>
    simp only [Builtin.firstCells, Sem.run_pure] at hc
    have : l = [] := by
      have := congrArg (fun r : Result (Array Value) => match r with | .ok x _ => x.size | _ => 0) hc
      simp [conCells] at this
      exact List.eq_nil_of_length_eq_zero this.symm
    subst this
    simp [Conv.bytesToString, ofBytesI]; rfl
  | some a =>
    simp only [Builtin.firstCells, Nat.mul_one] at hc
    rw [run_bytesToString w a n cap l (by rw [hn]; exact hc), hf]
    have he0 : ByteArray.empty.data = #[] := rfl
    rw [he0]
    simp [ofBytesI]

theorem convert_sound {Ts Td : TypeId} {ti ti2 : TInfo} {ty : List (Nat × TInfo)} (hT : RowOk P Ts ti) (hT2 : RowOk P Td ti2) (hty : tabB P ty = true) (hm : Mem w0 M ρ H w) {stamp : Nat} {x : SV} {vx : Value} (hx : D (dmOf H) ρ x vx)
    {d : Delta} {rs rs' : List Nat} (h : (convertOp ty stamp ti ti2 x).run H rs = some (d, rs')) (hp : AllP d.pre) :
    ∃ v w', (convert Ts Td vx).run P w = .ok v w' ∧ After w0 M ρ H d v w' := by
  have same : ∀ {v : Value}, d.ws = [] → D (dmOf H) ρ d.v v → (convert Ts Td vx).run P w = .ok v w → ∃ v w', (convert Ts Td vx).run P w = .ok v w' ∧ After w0 M ρ H d v w' :=
    fun hw hv hr => ⟨_, w, hr, ρ, .refl _ _, by rw [hw]; exact hv, by rw [hw]; exact hm⟩
  have hint : ∀ {t : TInfo} {T : TypeId} {k : IntKind}, RowOk P T t → t.ty = .int k → P.underlying T = some (.int k) := fun hT ht => by
    have h1 := hT.ty
    rw [ht] at h1
    unfold tyB at h1
    split at h1
    · rename_i k' hu; rw [hu, keq_eq h1]
    · cases h1
  have hstr : ∀ {t : TInfo} {T : TypeId}, RowOk P T t → t.ty = .str → P.underlying T = some .string := fun hT ht => by
    have h1 := hT.ty
    rw [ht] at h1
    unfold tyB at h1
    split at h1
    · rename_i hu; exact hu
    · cases h1
  unfold convertOp at h
  split at h
  · rename_i ks k k' a h1 h2
    have u1 := hint hT h1
    have u2 := hint hT2 h2
    simp only [D] at hx
    obtain ⟨rfl, hr⟩ := hx
    have hrun := convInt_sound (w := w) (k' := k') (a := a.z) u1 u2
    split at h
    · rename_i e
      have e := keq_eq e
      subst e
      have e := run_ret h; subst e
      refine same rfl ⟨rfl, hr⟩ (by rw [hrun, wrap_of_InR hr])
    · split at h
      · split at h
        · rename_i hb
          have e := run_ret h; subst e
          have hb := InRb_iff hb
          refine same rfl ⟨rfl, hb⟩ (by rw [hrun, wrap_of_InR hb])
        · have e := run_ret h; subst e
          exact same rfl ⟨rfl, inR_wrap _ _⟩ hrun
      · have e := run_ret h; subst e
        exact same rfl ⟨rfl, inR_wrap _ _⟩ hrun
  · rename_i s h1 h2
    have u1 := hstr hT h1
    have u2 := hstr hT2 h2
    have e := run_ret h; subst e
    simp only [D] at hx
    obtain ⟨rfl, hs⟩ := hx
    exact same rfl ⟨rfl, hs⟩ (by simp [convert, run_underlying u1, run_underlying u2])
  · rename_i s h1 h2
    have u1 := hstr hT h1
    have u2 := slice_of hT2 h2
    split at h
    · rename_i hb
      have u3 := isBytes_of hty hb
      obtain ⟨hn, rfl⟩ := fresh_run h
      simp only [D] at hx
      obtain ⟨rfl, hs⟩ := hx
      have hrun := run_bytes_of_string (P := P) w Ts Td ti2.elem s u1 u2 u3
      have hge := grownCap_ge w s.size 0 ti2.elem
      generalize grownCap w s.size 0 ti2.elem = cp at *
      refine ⟨_, _, hrun, ?_⟩
      have hsz : (bytesRow s cp).size = cp := by
        have : s.data.size = s.size := rfl
        simp [bytesRow, this]; omega
      have hd : Mem w0 M ρ H w.drew := hm.drew _
      refine After.alloc (hd) hn (segs_one (dm := dmOf H) (g := .rowI .u8 (bytesI s)) (cs := (bytesI s).map (Value.int .u8)) ⟨bytesI_ok s, rfl⟩) (extra := List.replicate (cp - s.size) (.int .u8 0)) (by simp [bytesRow, bytesI, Function.comp_def]) (.inr (Nat.le_refl _)) rfl ?_
      refine sl_D (dm_new _ _ _) _ hs hge (.inl ⟨?_, ?_⟩)
      · rw [updP_same]; rfl
      · rw [updP_same, hsz]; simp
    · simp [RP.run] at h
  · rename_i h1 h2
    have u1 := slice_of hT h1
    have u2 := hstr hT2 h2
    split at h
    · rename_i hb
      have u3 := isBytes_of hty hb
      have e := run_ret h; subst e
      simp only [D] at hx
      subst hx
      refine same (v := .string ByteArray.empty) rfl ⟨rfl, by decide⟩ ?_
      rw [run_convert_bytes_string w Ts Td ti.elem none 0 0 u1 u3 u2]; rfl
    · simp [RP.run] at h
  · rename_i key c est off len h1 h2
    have u1 := slice_of hT h1
    have u2 := hstr hT2 h2
    split at h
    · rename_i hb
      have u3 := isBytes_of hty hb
      obtain ⟨p, q, rs1, hw, hq⟩ := withCon_sound (P := P) hm hx h
      split at hw
      · rename_i l
        have e := run_ret hw; subst e
        have hq := hq hp
        simp only [D] at hx
        obtain ⟨hk, ho, hl, hr, ad, cap, rfl, hlc, hdis⟩ := hx
        have hll : l.length = len.z.toNat := by
          have := hq.len w
          simp [Builtin.lenOf, conLen] at this
          omega
        refine same rfl ⟨rfl, ?_⟩ (by rw [run_convert_bytes_string w Ts Td ti.elem ad len.z.toNat cap u1 u3 u2]; exact ofBytes_run hq hll.symm)
        simp only [InR] at hr
        have : (ofBytesI l).size = l.length := by simp [ofBytesI, ByteArray.size]
        rw [this, hll]; omega
      · simp [RP.run] at hw
    · simp [RP.run] at h
  · rename_i key sh dd h1 h2
    have u1 := slice_of hT h1
    have u2 := hstr hT2 h2
    split at h
    · rename_i hb
      have u3 := isBytes_of hty hb
      obtain ⟨p, q, rs1, hw, hq⟩ := withCon_sound (P := P) hm hx h
      split at hw
      · rename_i l
        have e := run_ret hw; subst e
        have hq := hq hp
        simp only [D] at hx
        obtain ⟨hk, hrel, hF, ad, cap, rfl, hlc, hl63, hdis⟩ := hx
        have hll : l.length = roLen sh dd := by
          have := hq.len w
          simp [Builtin.lenOf, conLen] at this
          omega
        refine same rfl ⟨rfl, ?_⟩ (by rw [run_convert_bytes_string w Ts Td ti.elem ad (roLen sh dd) cap u1 u3 u2]; exact ofBytes_run hq hll.symm)
        have : (ofBytesI l).size = l.length := by simp [ofBytesI, ByteArray.size]
        rw [this, hll]; omega
      · simp [RP.run] at hw
    · simp [RP.run] at h
  · simp [RP.run] at h

/-! ### A literal's slice, turned to its own type -/

theorem freeze_heap (w : World) (b n : Nat) (k : Nat) : (w.freeze ⟨b, n, none⟩ 1).heap[k]? = if k = b then (w.heap[k]?).map (fun o => match o with | .cells c elem (lo, hi) => .cells c elem (if lo == hi then (n, n + 1) else (min lo n, max hi (n + 1))) | o => o) else w.heap[k]? := by
  unfold World.freeze
  rw [if_neg (by decide)]
  simp only [Array.getElem?_modify]
  by_cases e : k = b
  · subst e
    rw [if_pos rfl, if_pos rfl]
    cases w.heap[k]? with
    | none => rfl
    | some o => cases o <;> rfl
  · rw [if_neg (Ne.symm e), if_neg e]

theorem freeze_cell (w : World) (b n : Nat) (a : Addr) : (w.freeze ⟨b, n, none⟩ 1).cell? a = w.cell? a := by
  unfold World.cell?
  rw [freeze_heap]
  by_cases e : a.block = b
  · rw [if_pos e]
    cases h : w.heap[a.block]? with
    | none => rfl
    | some o => cases o <;> rfl
  · rw [if_neg e]

theorem Mem.freeze (hm : Mem w0 M ρ H w) {key : Nat} {l : List Seg} (hk : H key = some (.segs false l)) (hc : 0 < (ρ key).cap) {cs : Array Value} {T : TypeId} {lo hi : Nat} (hb : w.heap[(ρ key).blk]? = some (.cells cs T (lo, hi))) :
    Mem w0 M ρ H (w.freeze ⟨(ρ key).blk, cs.size, none⟩ 1) := by
  have hcl := hm.clean key l hk hc cs T lo hi hb
  have hnew : ∃ hi', (w.freeze ⟨(ρ key).blk, cs.size, none⟩ 1).heap[(ρ key).blk]? = some (.cells cs T (cs.size, hi')) := by
    rw [freeze_heap, if_pos rfl, hb]
    by_cases e : lo = hi
    · subst e; exact ⟨cs.size + 1, by simp⟩
    · have : cs.size ≤ lo := hcl.resolve_left e
      refine ⟨max hi (cs.size + 1), ?_⟩
      have e' : (lo == hi) = false := by simpa using e
      simp [e, Nat.min_eq_right this]
  obtain ⟨hi', hnew⟩ := hnew
  have hsz : (w.freeze ⟨(ρ key).blk, cs.size, none⟩ 1).heap.size = w.heap.size := by
    unfold World.freeze; rw [if_neg (by decide)]; simp
  have hoth : ∀ k, k ≠ (ρ key).blk → (w.freeze ⟨(ρ key).blk, cs.size, none⟩ 1).heap[k]? = w.heap[k]? := fun k hk => by rw [freeze_heap, if_neg hk]
  have hfr : ∀ a, (w.cell? a).isSome = true → w.frozen? a = false → (w.freeze ⟨(ρ key).blk, cs.size, none⟩ 1).frozen? a = false := fun a h1 h2 => by
    by_cases e : a.block = (ρ key).blk
    · unfold World.frozen?
      rw [e, hnew]
      unfold World.cell? at h1
      rw [e, hb] at h1
      simp only at h1
      split at h1
      · cases h1
      · have : a.off < cs.size := by
          rcases Nat.lt_or_ge a.off cs.size with h | h
          · exact h
          · rw [Array.getElem?_eq_none h] at h1; cases h1
        simp; omega
    · unfold World.frozen? at h2 ⊢
      rw [hoth _ e]; exact h2
  refine ⟨⟨fun k b hkb => ?_, hm.heap.sep, fun k ro l1 h1 c1 => by rw [hsz]; exact hm.heap.lt k ro l1 h1 c1⟩, ⟨?_, ?_, ?_, by rw [hsz]; exact hm.frame.size, fun k h1 h2 => ?_⟩, hm.own, hm.view, fun k l1 h1 c1 => ?_⟩
  · cases b with
    | gone => trivial
    | world => trivial
    | segs ro l1 =>
      obtain ⟨vs, s1, s2, s3, s4⟩ := hm.segs hkb
      exact ⟨vs, s1, s2, fun j v hv => by rw [freeze_cell]; exact s3 j v hv, fun hr j hj => ⟨by rw [freeze_cell]; exact (s4 hr j hj).1, hfr _ (s4 hr j hj).1 (s4 hr j hj).2⟩⟩
  · unfold World.freeze; rw [if_neg (by decide)]; exact hm.frame.os
  · unfold World.freeze; rw [if_neg (by decide)]; exact hm.frame.tape
  · unfold World.freeze; rw [if_neg (by decide)]; exact hm.frame.output
  · rw [hoth]
    · exact hm.frame.block k h1 h2
    · intro e
      rcases hm.own key l hk hc with h | h
      · omega
      · exact h2 (e ▸ h)
  · by_cases e : (ρ k).blk = (ρ key).blk
    · intro cs' T' lo' hi2 e2
      rw [e, hnew] at e2
      simp only [Option.some.injEq, Obj.cells.injEq, Prod.mk.injEq] at e2
      obtain ⟨rfl, _, rfl, _⟩ := e2
      exact .inr (Nat.le_refl _)
    · exact (hm.clean k l1 h1 c1).of_block (hoth _ e)

theorem lit_sound {T : TypeId} {ti : TInfo} {ty : List (Nat × TInfo)} (hT : RowOk P T ti) (hty : tabB P ty = true) (hsl : isSl ti.ty = true) (hm : Mem w0 M ρ H w) {x : SV} {vx : Value} (hx : D (dmOf H) ρ x vx)
    {d : Delta} {rs rs' : List Nat} (h : (litOp ty ti x).run H rs = some (d, rs')) (hp : AllP d.pre) : ∃ v w', (convert T T vx).run P w = .ok v w' ∧ After w0 M ρ H d v w' := by
  have hts : ti.ty = .slice := by
    generalize ti.ty = t at hsl
    cases t <;> simp [isSl] at hsl
    rfl
  unfold litOp at h
  split at h
  · rename_i key len
    split at h
    · rename_i p hb hq
      have u3 := isBytes_of hty hb
      have u1 := slice_of hT hts
      simp only [RP.run] at h
      split at h
      · rename_i l hkey
        have e := run_ret h; subst e
        have hx0 := hx
        simp only [D] at hx
        obtain ⟨hk, ho, hl, hr, ad, cap, rfl, hlc, hdis⟩ := hx
        have hne : len.z ≠ 0 := by
          simp only [arithPre] at hq
          split at hq
          · have := (tst_some hq).1; simpa using this
          · simp only [Option.some.injEq] at hq; subst hq; exact hp.1
        rcases hdis with ⟨rfl, hcap⟩ | ⟨h0, _⟩
        · have hcp : 0 < (ρ key).cap := by simp at hcap; omega
          obtain ⟨vs, s1, s2, s3, s4⟩ := hm.segs hkey
          have h0 := (s4 rfl 0 hcp).1
          unfold World.cell? at h0
          have hblk : ∃ cs T' lo hi, w.heap[(ρ key).blk]? = some (.cells cs T' (lo, hi)) := by
            split at h0
            · rename_i c e' fr hh
              obtain ⟨lo, hi⟩ := fr
              exact ⟨c, e', lo, hi, hh⟩
            · cases h0
          obtain ⟨cs, T', lo, hi, hh⟩ := hblk
          refine ⟨.slice (some (at_ (ρ key) (0 + 1 * (Int.ofNat 0).toNat))) len.z.toNat cap, w.freeze ⟨(ρ key).blk, cs.size, none⟩ 1, ?_, ρ, .refl _ _, ?_, ?_⟩
          · have hsh : w.shape? (ρ key).blk = some (T', cs.size) := by unfold World.shape?; rw [hh]
            simp [convert, run_underlying u1, run_underlying u3, markStringish, at_, hsh]
          · exact D.mono (fun k hk => dm_updsH _ _ k hk) (fun _ _ => rfl) _ _ hx0
          · have hu : updsH H [(key, .segs false l)] = H := by
              funext k
              simp only [updsH, updH]
              by_cases e : k = key
              · subst e; rw [if_pos rfl, hkey]
              · rw [if_neg e]
            show Mem w0 M ρ (updsH H [(key, .segs false l)]) _
            rw [hu]
            exact hm.freeze hkey hcp hh
        · omega
      · simp [RP.run] at h
    · simp [RP.run] at h
  · simp [RP.run] at h

end
end Go.Gx

/- Every operation: what it comes to. -/
namespace Go.Gx
open Go.RowKit
set_option linter.unusedVariables false

section
variable {P : Program} {w0 : World} {M : Nat → Prop} {ρ : Nat → Pl} {H : Nat → Option SB} {w : World}

theorem int_of {T : TypeId} {ti : TInfo} {k : IntKind} (hT : RowOk P T ti) (ht : ti.ty = .int k) : P.underlying T = some (.int k) := by
  have h1 := hT.ty
  rw [ht] at h1
  unfold tyB at h1
  split at h1
  · rename_i k' hu; rw [hu, keq_eq h1]
  · cases h1
theorem bool_of {T : TypeId} {ti : TInfo} (hT : RowOk P T ti) (ht : ti.ty = .bool) : P.underlying T = some .bool := by
  have h1 := hT.ty
  rw [ht] at h1
  unfold tyB at h1
  split at h1
  · rename_i hu; exact hu
  · cases h1
theorem ptr_of {T : TypeId} {ti : TInfo} (hT : RowOk P T ti) (ht : ti.ty = .ptr) : ∃ e, P.underlying T = some (.pointer e) := by
  have h1 := hT.ty
  rw [ht] at h1
  unfold tyB at h1
  split at h1
  · rename_i e hu; exact ⟨_, hu⟩
  · cases h1

theorem equalIn_bool {t : TypeId} (hu : P.underlying t = some .bool) (d : Nat) (a c : Bool) : (Op.equalIn (d + 1) t (.bool a) (.bool c)).run P w = .ok (a == c) w := by
  simp [Op.equalIn, run_underlying hu]
theorem equalIn_ptr {t e : TypeId} (hu : P.underlying t = some (.pointer e)) (d : Nat) (a : Option Addr) : (Op.equalIn (d + 1) t (.pointer a) (.pointer none)).run P w = .ok a.isNone w := by
  cases a <;> simp [Op.equalIn, run_underlying hu]

theorem binop_sound {ty : List (Nat × TInfo)} (hty : tabB P ty = true) {op : BinOp} {t : TypeId} {x y : SV} {vx vy : Value} {ox oy : Operand} (hx : D (dmOf H) ρ x vx) (hy : D (dmOf H) ρ y vy)
    {d : Delta} {rs rs' : List Nat} (h : (binop ty op t x y).run H rs = some (d, rs')) (hp : AllP d.pre) :
    d.ws = [] ∧ ∃ v, (do eqGuard op t ox oy vx vy; binOp op t vx vy : Sem Value).run P w = .ok v w ∧ D (dmOf H) ρ d.v v := by
  have both : ∀ {v : Value}, ((∀ c, vx ≠ .agg c) ∨ (∀ c, vy ≠ .agg c)) → (vx ≠ .nilIface ∨ vy ≠ .nilIface) → (binOp op t vx vy).run P w = .ok v w →
      (do eqGuard op t ox oy vx vy; binOp op t vx vy : Sem Value).run P w = .ok v w := fun h1 h2 h3 => by
    rw [Sem.run_bind, eqGuard_other (w := w) ox oy h1 h2]; exact h3
  have eqs : ∀ {b : Bool} {x y : Value}, (∀ op : BinOp, op = .eql ∨ op = .neq → binOp op t x y = (match op with | .eql => (do pure (.bool (← Op.equal t x y))) | _ => (do pure (.bool (!(← Op.equal t x y)))))) →
      (Op.equal t x y).run P w = .ok b w → d.ws = [] ∧ ((op = .eql ∧ D (dmOf H) ρ d.v (.bool b)) ∨ (op = .neq ∧ D (dmOf H) ρ d.v (.bool (!b)))) →
      d.ws = [] ∧ ∃ v, (binOp op t x y).run P w = .ok v w ∧ D (dmOf H) ρ d.v v := fun hb hr hd => by
    refine ⟨hd.1, ?_⟩
    rcases hd.2 with ⟨ho, hd2⟩ | ⟨ho, hd2⟩
    · exact ⟨_, eql_of_equal w hb hr (.inl ho), by rw [if_pos ho]; exact hd2⟩
    · exact ⟨_, eql_of_equal w hb hr (.inr ho), by rw [if_neg (by rw [ho]; decide)]; exact hd2⟩
  unfold binop at h
  split at h
  · rename_i k a k' c
    simp only [D] at hx hy
    obtain ⟨rfl, hr⟩ := hx
    obtain ⟨rfl, _⟩ := hy
    split at h
    · rename_i hk
      simp only [Bool.or_eq_true] at hk
      obtain ⟨h1, v, h2, h3⟩ := numOp_sound (P := P) w t h hp (hk.imp id keq_eq) hr
      exact ⟨h1, v, both (.inl fun c => by simp) (.inl (by simp)) h2, h3⟩
    · simp [RP.run] at h
  · rename_i a _ c
    split at h
    · rename_i ti hti
      have hT := rowB_ok (tabB_row hty hti)
      split at h
      · rename_i hb
        have hu := bool_of hT hb
        simp only [D] at hx hy
        subst hx hy
        obtain ⟨h1, v, h2, h3⟩ := eqs (x := .bool a) (y := .bool c) (fun op ho => by rcases ho with rfl | rfl <;> rfl) (equalIn_bool hu 9999 a c) (eqOp_sound h)
        exact ⟨h1, v, both (.inl fun c => by simp) (.inl (by simp)) h2, h3⟩
      · simp [RP.run] at h
    · simp [RP.run] at h
  · rename_i a c
    simp only [D] at hx hy
    obtain ⟨rfl, _⟩ := hx
    obtain ⟨rfl, _⟩ := hy
    obtain ⟨h1, h2⟩ := eqOp_sound (ρ := ρ) (dm := dmOf H) h
    refine ⟨h1, ?_⟩
    rcases h2 with ⟨rfl, h2⟩ | ⟨rfl, h2⟩
    · exact ⟨_, both (.inl fun c => by simp) (.inl (by simp)) (by simp [binOp, Op.stringOp]), h2⟩
    · exact ⟨_, both (.inl fun c => by simp) (.inl (by simp)) (by simp [binOp, Op.stringOp]), h2⟩
  · rename_i k n ex a k' m ex' c
    split at h
    · rename_i ti hb hti
      simp only [Bool.and_eq_true] at hb
      have e1 := keq_eq hb.1
      have e2 := Nat.eq_of_beq_eq_true hb.2
      subst e1 e2
      have hT := rowB_ok (tabB_row hty hti)
      split at h
      · rename_i n' k2 ht
        split at h
        · rename_i hn
          have hn := Nat.eq_of_beq_eq_true hn
          subst hn
          have h1 := hT.ty
          rw [ht] at h1
          simp only [D] at hx hy
          obtain ⟨a1, a2, rfl⟩ := hx
          obtain ⟨c1, c2, rfl⟩ := hy
          obtain ⟨q1, v, q2, q3⟩ := eqs (x := .agg (a.map (Value.int k)).toArray) (y := .agg (c.map (Value.int k)).toArray) (fun op ho => by rcases ho with rfl | rfl <;> rfl) (equal_arr w h1 a1 c1) (eqOp_sound h)
          refine ⟨q1, v, ?_, q3⟩
          rw [Sem.run_bind, eqGuard_arr w h1]; exact q2
        · simp [RP.run] at h
      · simp [RP.run] at h
    · simp [RP.run] at h
  · rename_i key c
    split at h
    · rename_i ti hti
      have hT := rowB_ok (tabB_row hty hti)
      split at h
      · rename_i hb
        obtain ⟨e, hu⟩ := ptr_of hT hb
        simp only [D] at hx hy
        obtain ⟨_, rfl⟩ := hx
        subst hy
        obtain ⟨h1, v, h2, h3⟩ := eqs (x := .pointer (some (at_ (ρ key) c))) (y := .pointer none) (fun op ho => by rcases ho with rfl | rfl <;> rfl) (equalIn_ptr hu 9999 _) (eqSt_sound h)
        exact ⟨h1, v, both (.inl fun c => by simp) (.inl (by simp)) h2, h3⟩
      · simp [RP.run] at h
    · simp [RP.run] at h
  · split at h
    · rename_i ti hti
      have hT := rowB_ok (tabB_row hty hti)
      split at h
      · rename_i hb
        obtain ⟨e, hu⟩ := ptr_of hT hb
        simp only [D] at hx hy
        subst hx hy
        obtain ⟨h1, v, h2, h3⟩ := eqs (x := .pointer none) (y := .pointer none) (fun op ho => by rcases ho with rfl | rfl <;> rfl) (equalIn_ptr hu 9999 _) (eqSt_sound h)
        exact ⟨h1, v, both (.inl fun c => by simp) (.inl (by simp)) h2, h3⟩
      · simp [RP.run] at h
    · simp [RP.run] at h
  · simp [RP.run] at h

theorem unop_sound {op : UnOp} {x : SV} {vx : Value} (hx : D (dmOf H) ρ x vx) {d : Delta} {rs rs' : List Nat} (h : (unop op x).run H rs = some (d, rs')) (hp : AllP d.pre) :
    d.ws = [] ∧ ∃ v, (Op.unary op vx).run P w = .ok v w ∧ D (dmOf H) ρ d.v v := by
  unfold unop at h
  split at h
  · simp only [D] at hx
    subst hx
    split at h <;> (have e := run_ret h; subst e; exact ⟨rfl, _, rfl, rfl⟩)
  · simp only [D] at hx
    subst hx
    have e := run_ret h; subst e; exact ⟨rfl, _, rfl, rfl⟩
  · rename_i k a
    simp only [D] at hx
    obtain ⟨rfl, hr⟩ := hx
    obtain ⟨h1, v, h2, h3⟩ := numOp_sound (P := P) (ρ := ρ) (dm := dmOf H) w 0 h hp (.inr rfl) (x := ⟨true, 0⟩) (inR_zero k)
    exact ⟨h1, v, by rw [← h2]; simp [Op.unary, binOp], h3⟩
  · rename_i k a
    simp only [D] at hx
    obtain ⟨rfl, hr⟩ := hx
    have e := run_ret h; subst e
    exact ⟨rfl, .int k (notI k a.z), by simp [Op.unary, Op.intBits, notI, xorI], rfl, inR_wrap _ _⟩
  · simp [RP.run] at h

theorem arrPtr_sound {T : TypeId} {ti : TInfo} (hT : RowOk P T ti) {x : SV} {vx : Value} (hx : D (dmOf H) ρ x vx) {d : Delta} {rs rs' : List Nat} (h : (arrPtrOp ti x).run H rs = some (d, rs')) (hp : AllP d.pre) :
    d.ws = [] ∧ ∃ v, (Instr.arrayAt T vx).run P w = .ok v w ∧ D (dmOf H) ρ d.v v := by
  unfold arrPtrOp at h
  split at h
  · rename_i key c est off len n e ht
    split at h
    · rename_i v hb hv
      have e := run_ret h; subst e
      simp only [Bool.and_eq_true] at hb
      have e1 := Nat.eq_of_beq_eq_true hb.1
      have e2 : 0 < n := by have := hb.2; simp [Nat.blt] at this; omega
      have hle := hp.1
      simp only [D] at hx
      obtain ⟨hk, ho, hl, hr, ad, cap, rfl, hlc, hdis⟩ := hx
      have h1 := hT.ty
      rw [ht] at h1
      unfold tyB at h1
      split at h1
      · rename_i n' T' hu
        simp only [Bool.and_eq_true] at h1
        have hn := Nat.eq_of_beq_eq_true h1.1.1
        subst hn
        rcases hdis with ⟨rfl, hcap⟩ | ⟨d1, d2⟩
        · refine ⟨rfl, .pointer (some (at_ (ρ key) (c + est * off.z.toNat))), ?_, ptrAt_sound hv hk ho⟩
          have : ¬ (len.z.toNat < n) := by omega
          simp [Instr.arrayAt, run_underlying hu, this]
        · omega
      · cases h1
    · simp [RP.run] at h
  · simp [RP.run] at h

end
end Go.Gx

/- Every operation of the evaluator against the model's. -/
namespace Go.Gx
open Go.RowKit
set_option linter.unusedVariables false

/-- A function with a body of its own. -/
def GoFn (P : Program) (f : FuncId) : Prop := ∃ fn, P.funcs[f]? = some fn ∧ (fn.name == "runtime.NumGoroutine") = false ∧ fn.body.isNone = false

theorem GoFn.run {P : Program} {f : FuncId} (h : GoFn P f) (args : Array Value) (w : World) : (callFunc f args).run P w = .ok (.enter f args) w := by
  obtain ⟨fn, h1, h2, h3⟩ := h
  simp only [callFunc, Sem.run_bind, run_program, Result.andThen_ok, h1, h2, h3, Bool.false_eq_true, if_false, Sem.run_pure]

/-- The globals that never turn: where they lie, what they hold. -/
def Glob (gh : Heap) (w0 : World) (M : Nat → Prop) : Prop :=
  ∀ g b, (g, b) ∈ gh → ∃ l vs, b = .segs true l ∧ SegsD (fun _ => False) (fun _ => ({ blk := 0, off := 0, cap := 0 } : Pl)) l vs ∧ w0.rangeAt g 0 vs ∧ ¬ M g ∧ g < w0.heap.size

/-- What a contract promises. -/
def CallOk (P : Program) (gh : Heap) (f : FuncId) (c : Ctr) : Prop :=
  ∀ (stamp : Nat) (args : List SV) (H : Nat → Option SB) (rs rs' : List Nat) (d : Delta) (vs : List Value) (w0 : World) (M : Nat → Prop) (ρ : Nat → Pl) (w : World),
    Glob gh w0 M → (c stamp args).run H rs = some (d, rs') → AllP d.pre → Ds (dmOf H) ρ args vs → Mem w0 M ρ H w → Outc P w0 M ρ H d w ((callFunc f vs.toArray).run P w)

structure TabOk (P : Program) (Γ : Tab) : Prop where
  mix : P.follows .mixedOrders = true
  ty : tabB P Γ.ty = true
  ctr : ∀ f c, assoc Γ.ctr f = some c → CallOk P Γ.gh f c

section
variable {P : Program} {w0 : World} {M : Nat → Prop} {ρ : Nat → Pl} {H : Nat → Option SB} {w : World}

theorem Outc.val (hm : Mem w0 M ρ H w) {d : Delta} {s : Sem Value} (h : d.ws = [] ∧ ∃ v, s.run P w = .ok v w ∧ D (dmOf H) ρ d.v v) : Outc P w0 M ρ H d w ((do pure (.value (← s)) : Sem Next).run P w) := by
  obtain ⟨h1, v, h2, h3⟩ := h
  exact Outc.same hm h1 h2 h3

theorem Outc.made {d : Delta} {s : Sem Value} (h : ∃ v w', s.run P w = .ok v w' ∧ After w0 M ρ H d v w') : Outc P w0 M ρ H d w ((do pure (.value (← s)) : Sem Next).run P w) := by
  obtain ⟨v, w', h1, h2⟩ := h
  exact .inl ⟨v, w', .inl (by simp [h1]), h2⟩

theorem PartsD_of {ev : Operand → SV} {ρe : Operand → Value} : ∀ (l : List (Nat × Operand)), (∀ x ∈ l.map (·.2), D (dmOf H) ρ (ev x) (ρe x)) → PartsD (dmOf H) ρ (l.map fun (i, x) => (i, ev x)) (l.map fun (i, x) => (i, ρe x))
  | [], _ => rfl
  | (i, x) :: r, h => ⟨ρe x, _, rfl, h x (by simp), PartsD_of r fun y hy => h y (by simp at hy ⊢; exact .inr hy)⟩

theorem Ds_of {ev : Operand → SV} {ρe : Operand → Value} : ∀ (l : List Operand), (∀ x ∈ l, D (dmOf H) ρ (ev x) (ρe x)) → Ds (dmOf H) ρ (l.map ev) (l.map ρe)
  | [], _ => rfl
  | x :: r, h => ⟨ρe x, _, h x (by simp), rfl, Ds_of r fun y hy => h y (by simp [hy])⟩

theorem OptD_of {ev : Operand → SV} {ρe : Operand → Value} (x : Option Operand) (h : ∀ y, x = some y → D (dmOf H) ρ (ev y) (ρe y)) : OptD (dmOf H) ρ (x.map ev) (x.map ρe) := by
  cases x with
  | none => exact .inl ⟨rfl, rfl⟩
  | some y => exact .inr ⟨_, _, rfl, rfl, h y rfl⟩

theorem builtin_sound {Γ : Tab} (hΓ : TabOk P Γ) (hm : Mem w0 M ρ H w) {stamp : Nat} {b : Builtin} {ts : List TypeId} {xs : List SV} {vs : List Value} (hx : Ds (dmOf H) ρ xs vs) {d : Delta} {rs rs' : List Nat}
    (h : (builtinOp Γ.ty stamp b ts xs).run H rs = some (d, rs')) (hp : AllP d.pre) (type : TypeId) (cs : Array Bool) : Outc P w0 M ρ H d w ((builtin b ts.toArray type cs vs.toArray).run P w) := by
  unfold builtinOp at h
  split at h
  · rename_i t x
    simp only [Ds] at hx
    obtain ⟨v, _, hx, rfl, rfl⟩ := hx
    split at h
    · rename_i ti hti
      exact Outc.val hm (len_sound (rowB_ok (tabB_row hΓ.ty hti)) hx h _ _ rfl)
    · simp [RP.run] at h
  · rename_i t t2 s x
    simp only [Ds] at hx
    obtain ⟨v, _, hx, rfl, v2, _, hx2, rfl, rfl⟩ := hx
    split at h
    · rename_i ti ti2 hti hti2
      exact Outc.made (append_sound (rowB_ok (tabB_row hΓ.ty hti)) (rowB_ok (tabB_row hΓ.ty hti2)) hΓ.ty hm hx hx2 h hp)
    · simp [RP.run] at h
  · rename_i t _ s x
    simp only [Ds] at hx
    obtain ⟨v, _, hx, rfl, v2, _, hx2, rfl, rfl⟩ := hx
    split at h
    · rename_i ti hti
      exact Outc.made (copy_sound (rowB_ok (tabB_row hΓ.ty hti)) hΓ.ty hm hx hx2 h hp)
    · simp [RP.run] at h
  · rename_i t s
    simp only [Ds] at hx
    obtain ⟨v, _, hx, rfl, rfl⟩ := hx
    split at h
    · rename_i ti hti
      exact Outc.made (clear_sound (rowB_ok (tabB_row hΓ.ty hti)) hΓ.ty hm hx h hp)
    · simp [RP.run] at h
  · simp [RP.run] at h

theorem est_any {ty : List (Nat × TInfo)} (hty : tabB P ty = true) {t : TInfo} {x : SV} (hest : estOk ty t x = true) (hsl : t.ty = .slice) : ∃ es, ∀ y, (sizeOf t.elem).run P y = .ok es y := by
  have main : ∀ te, assoc ty t.elem = some te → ∃ es, ∀ y, (sizeOf t.elem).run P y = .ok es y := fun te hte => by
    obtain ⟨ie, z, hi1, hi2, _⟩ := (rowB_ok (tabB_row hty hte)).info
    exact ⟨ie.size, fun y => by simp [sizeOf, typeInfo, hi1]⟩
  unfold estOk at hest
  rw [hsl] at hest
  split at hest
  · split at hest
    · rename_i te hte; exact main te hte
    · cases hest
  · split at hest
    · rename_i te hte; exact main te hte
    · cases hest
  · split at hest
    · rename_i te hte; exact main te hte
    · cases hest
  · simp_all

set_option maxHeartbeats 2000000 in
theorem sop_sound {Γ : Tab} (hΓ : TabOk P Γ) (hG : Glob Γ.gh w0 M) (hm : Mem w0 M ρ H w) {stamp : Nat} {o : Oper} {ev : Operand → SV} {ρe : Operand → Value} (he : ∀ x ∈ o.op.operands, D (dmOf H) ρ (ev x) (ρe x)) {d : Delta} {rs rs' : List Nat}
    (h : (sop Γ stamp o.op o.type ev).run H rs = some (d, rs')) (hp : AllP d.pre) : Outc P w0 M ρ H d w ((execOp ρe o).run P w) := by
  obtain ⟨dst, op, type, pos, after, guard⟩ := o
  simp only at h he
  have row : ∀ {T : TypeId} {t : TInfo}, assoc Γ.ty T = some t → RowOk P T t := fun ht => rowB_ok (tabB_row hΓ.ty ht)
  unfold sop at h
  split at h <;> simp only [execOp]
  · rename_i x
    have hx := he x (by simp [Op.operands])
    have e := run_ret h; subst e
    exact Outc.move hm rfl hx
  · rename_i x
    have hx := he x (by simp [Op.operands])
    have e := run_ret h; subst e
    exact Outc.move hm rfl hx
  · rename_i c a b
    have hc := he c (by simp [Op.operands])
    have ha := he a (by simp [Op.operands])
    have hb := he b (by simp [Op.operands])
    split at h
    · rename_i v e1
      rw [e1] at hc
      simp only [D] at hc
      cases v with
      | true =>
        have e := run_ret h; subst e
        exact .inl ⟨ρe a, w, .inl (by simp [hc, asBool]), ρ, .refl _ _, ha, hm⟩
      | false =>
        have e := run_ret h; subst e
        exact .inl ⟨ρe b, w, .inl (by simp [hc, asBool]), ρ, .refl _ _, hb, hm⟩
    · rename_i v _ x _ y e1 e2 e3
      rw [e1] at hc
      rw [e2] at ha
      rw [e3] at hb
      simp only [D] at hc ha hb
      have e := run_ret h; subst e
      refine .inl ⟨.bool (if v then x else y), w, .inl ?_, ρ, .refl _ _, rfl, hm⟩
      cases v <;> simp [hc, ha, hb, asBool]
    · simp [RP.run] at h
  · rename_i e
    split at h
    · rename_i t ht
      obtain ⟨z, h1, h2⟩ := alloc_run (row ht) w
      exact Outc.made ⟨_, _, h1, box_sound hm (h2 _ _) h _⟩
    · simp [RP.run] at h
  · rename_i e x
    exact Outc.made ⟨_, _, box_run _ _ _, box_sound hm (he x (by simp [Op.operands])) h _⟩
  · rename_i t parts
    split at h
    · rename_i ti ht
      have hpd : PartsD (dmOf H) ρ (parts.toList.map fun (i, x) => (i, ev x)) (parts.map fun (i, x) => (i, ρe x)).toList := by
        rw [Array.toList_map]
        exact PartsD_of (H := H) (ρ := ρ) (ev := ev) (ρe := ρe) parts.toList (fun x hx => he x (by simpa [Op.operands] using hx))
      exact Outc.val hm (build_sound (row ht) hpd h)
    · simp [RP.run] at h
  · rename_i t n parts
    split at h
    · rename_i ti ht
      have hpd : PartsD (dmOf H) ρ (parts.toList.map fun (i, x) => (i, ev x)) (parts.map fun (i, x) => (i, ρe x)).toList := by
        rw [Array.toList_map]
        exact PartsD_of (H := H) (ρ := ρ) (ev := ev) (ρe := ρe) parts.toList (fun x hx => he x (by simpa [Op.operands] using hx))
      exact Outc.made (buildSlice_sound (row ht) hΓ.ty hm hpd h)
    · simp [RP.run] at h
  · rename_i t a
    split at h
    · rename_i ti ht
      exact Outc.val hm (load_sound (row ht) hm (he a (by simp [Op.operands])) h hp)
    · simp [RP.run] at h
  · rename_i t a x
    split at h
    · rename_i ti ht
      split at h
      · rename_i hty
        obtain ⟨h1, w', h2, h3⟩ := store_sound (row ht) hm (he a (by simp [Op.operands])) (he x (by simp [Op.operands])) hty h hp
        exact .inl ⟨undef, w', .inr ⟨by simp [h2], rfl⟩, ρ, .refl _ _, by rw [h1]; trivial, h3⟩
      · simp [RP.run] at h
    · simp [RP.run] at h
  · rename_i x
    have hx := he x (by simp [Op.operands])
    split at h
    · rename_i k c e1
      rw [e1] at hx
      have e := run_ret h; subst e
      have hx' := hx
      simp only [D] at hx
      rw [hx.2]
      exact Outc.move hm rfl (by rw [← hx.2]; exact hx')
    · simp [RP.run] at h
  · rename_i op t x y yt
    exact Outc.val hm (binop_sound hΓ.ty (he x (by simp [Op.operands])) (he y (by simp [Op.operands])) h hp)
  · rename_i op t x
    exact Outc.val hm (unop_sound (he x (by simp [Op.operands])) h hp)
  · rename_i s t x
    split at h
    · rename_i ti ti2 ht ht2
      split at h
      · rename_i hb
        simp only [Bool.and_eq_true] at hb
        have e := Nat.eq_of_beq_eq_true hb.1
        subst e
        exact Outc.made (lit_sound (row ht) hΓ.ty hb.2 hm (he x (by simp [Op.operands])) h hp)
      exact Outc.made (convert_sound (row ht) (row ht2) hΓ.ty hm (he x (by simp [Op.operands])) h hp)
    · simp [RP.run] at h
  · rename_i t x
    split at h
    · rename_i ti ht
      exact Outc.val hm (arrPtr_sound (row ht) (he x (by simp [Op.operands])) h hp)
    · simp [RP.run] at h
  · rename_i t n m
    split at h
    · rename_i ti ht
      exact Outc.made (make_sound (row ht) hΓ.ty hm (he n (by simp [Op.operands])) (he m (by simp [Op.operands])) h hp)
    · simp [RP.run] at h
  · rename_i t x lo hi
    split at h
    · rename_i ti ht
      split at h
      · rename_i hest
        refine Outc.val hm (slice_sound (ty := Γ.ty) (row ht) hm (he x (by simp [Op.operands])) (OptD_of lo fun y hy => he y (by simp [Op.operands, hy])) (OptD_of hi fun y hy => he y (by simp [Op.operands, hy])) ?_ ?_ ?_ h hp)
        intro key c est off len hx ht2 y
        unfold estOk at hest
        rw [hx, ht2] at hest
        simp only at hest
        split at hest
        · rename_i te hte
          have := Nat.eq_of_beq_eq_true hest
          obtain ⟨ie, z, hi1, hi2, _⟩ := (row hte).info
          simp [sizeOf, typeInfo, hi1, hi2, this]
        · cases hest
        intro key sh d hx ht2 y
        unfold estOk at hest
        rw [hx, ht2] at hest
        simp only at hest
        split at hest
        · rename_i te hte
          have := Nat.eq_of_beq_eq_true hest
          obtain ⟨ie, z, hi1, hi2, _⟩ := (row hte).info
          simp [sizeOf, typeInfo, hi1, hi2, this]
        · cases hest
        exact fun hsl => est_any hΓ.ty hest hsl
      · simp [RP.run] at h
    · simp [RP.run] at h
  · rename_i t x lo hi mx
    split at h
    · rename_i ti ht
      split at h
      · rename_i hest
        refine Outc.val hm (slice3_sound (row ht) (he x (by simp [Op.operands])) (OptD_of lo fun y hy => he y (by simp [Op.operands, hy])) (he hi (by simp [Op.operands])) (he mx (by simp [Op.operands])) ?_ ?_ h hp)
        intro key c est off len hx ht2 y
        unfold estOk at hest
        rw [hx, ht2] at hest
        simp only at hest
        split at hest
        · rename_i te hte
          have := Nat.eq_of_beq_eq_true hest
          obtain ⟨ie, z, hi1, hi2, _⟩ := (row hte).info
          simp [sizeOf, typeInfo, hi1, hi2, this]
        · cases hest
        exact fun hsl => est_any hΓ.ty hest hsl
      · simp [RP.run] at h
    · simp [RP.run] at h
  · rename_i t x f
    split at h
    · rename_i ti ht
      exact Outc.val hm (fieldAddr_sound (row ht) (he x (by simp [Op.operands])) h)
    · simp [RP.run] at h
  · rename_i t x f
    split at h
    · rename_i ti ht
      exact Outc.val hm (field_sound (row ht) (he x (by simp [Op.operands])) h)
    · simp [RP.run] at h
  · rename_i t x i
    split at h
    · rename_i ti ht
      exact Outc.val hm (indexAddr_sound (row ht) hΓ.ty (he x (by simp [Op.operands])) (he i (by simp [Op.operands])) h hp)
    · simp [RP.run] at h
  · rename_i t x i
    split at h
    · rename_i ti ht
      exact Outc.val hm (index_sound (row ht) (he x (by simp [Op.operands])) (he i (by simp [Op.operands])) h hp)
    · simp [RP.run] at h
  · rename_i x n
    have hx := he x (by simp [Op.operands])
    split at h
    · rename_i xs e1
      rw [e1] at hx
      split at h
      · rename_i v hv
        have e := run_ret h; subst e
        exact Outc.val hm ⟨rfl, extract_sound (x := .any) hx hv⟩
      · simp [RP.run] at h
    · simp [RP.run] at h
  · rename_i c
    split at h
    · rename_i f hf
      have hargs := Ds_of (H := H) (ρ := ρ) (ev := ev) (ρe := ρe) c.args.toList (fun x hx => he x (by simp only [Op.operands, Call.operands, Array.mem_append]; exact .inr (by simpa using hx)))
      have hfv := he f (by simp [Op.operands, Call.operands, hf])
      split at h
      · rename_i fn e1
        rw [e1] at hfv
        simp only [D] at hfv
        split at h
        · rename_i g hg
          have hok := hΓ.ctr fn g hg _ _ _ _ _ _ _ _ _ _ _ hG h hp hargs hm
          have e2 : (#[] ++ c.args.map ρe ++ #[] : Array Value) = (c.args.toList.map ρe).toArray := by
            apply Array.ext'
            simp
          simp only [resolve, hf, hfv, Deferred.ofValue, invoke, Sem.run_bind, Sem.run_pure, Result.andThen_ok]
          rw [e2]
          exact hok
        · simp [RP.run] at h
      · simp [RP.run] at h
    · rename_i b hb
      have hargs := Ds_of (H := H) (ρ := ρ) (ev := ev) (ρe := ρe) c.args.toList (fun x hx => he x (by simp only [Op.operands, Call.operands, Array.mem_append]; exact .inr (by simpa using hx)))
      have := builtin_sound hΓ hm hargs h hp type (c.args.map fun | .const _ => true | _ => false)
      have e1 : (c.args.toList.map ρe).toArray = c.args.map ρe := by
        apply Array.ext'
        simp
      have e2 : c.argTypes.toList.toArray = c.argTypes := rfl
      rw [e1, e2] at this
      unfold resolve
      simp only [hb]
      exact this
    · simp [RP.run] at h
  · simp [RP.run] at h

end
end Go.Gx

/- What an evaluation reads; names for numbers. -/
namespace Go.Gx
open Go.RowKit
set_option linter.unusedVariables false

/-! ### What is read -/

theorem RP.reads {α : Type} {H : Nat → Option SB} : ∀ (p : RP α) (rs rs' : List Nat) (x : α), p.run H rs = some (x, rs') → ∀ k ∈ rs, k ∈ rs'
  | .ret a, rs, rs', x, h => by simp only [RP.run, Option.some.injEq, Prod.mk.injEq] at h; rw [h.2]; exact fun k hk => hk
  | .fail, rs, rs', x, h => by simp [RP.run] at h
  | .get k f, rs, rs', x, h => by
    simp only [RP.run] at h
    exact fun j hj => RP.reads (f (H k)) _ _ _ h j (by simp [hj])

theorem RP.local {α : Type} {H H' : Nat → Option SB} : ∀ (p : RP α) (rs rs' : List Nat) (x : α), p.run H rs = some (x, rs') → (∀ k ∈ rs', H' k = H k) → p.run H' rs = some (x, rs')
  | .ret a, rs, rs', x, h, _ => h
  | .fail, rs, rs', x, h, _ => by simp [RP.run] at h
  | .get k f, rs, rs', x, h, hk => by
    simp only [RP.run] at h ⊢
    have := RP.reads (f (H k)) _ _ _ h k (by simp)
    rw [hk k this]
    exact RP.local (f (H k)) _ _ _ h hk

/-- The evaluator on a state that is a function. -/
def evalF (gl : List Nat) (T : Nat → SV) : Operand → SV
  | .tmp t => T t
  | .const v => constSV v
  | .global g => (match memN g gl with | true => .p g 0 | false => .any)
  | .func f => .fn f

theorem evalS_eq (gl : List Nat) (l : List SV) : evalS gl l = evalF gl (tget l) := by
  funext x
  cases x <;> rfl

def wantF (all : List Oper) (o : Oper) (T : Nat → SV) : Option Bool :=
  match o.guard with
  | none => some true
  | some (j, want) => match nth all j with
    | some oj => (match oj.dst with
      | some t => (match T t with
        | .b true v => (match v, want with | true, true => some true | false, false => some true | _, _ => some false)
        | .val (.bool _) => none
        | .val _ => some false
        | _ => none)
      | none => none)
    | none => none

theorem wantS_eq (all : List Oper) (o : Oper) (l : List SV) : wantS all o l = wantF all o (tget l) := rfl

theorem sop_congr {Γ : Tab} {stamp : Nat} {op : Op} {t : TypeId} {ev ev' : Operand → SV} (h : ∀ x ∈ op.operands, ev x = ev' x) : sop Γ stamp op t ev = sop Γ stamp op t ev' := by
  have pairs : ∀ ps : List (Nat × Operand), (∀ x ∈ ps.map (·.2), ev x = ev' x) → (ps.map fun (i, x) => (i, ev x)) = (ps.map fun (i, x) => (i, ev' x)) := fun ps hp =>
    List.map_congr_left fun p hm => by
      obtain ⟨i, x⟩ := p
      simp only [hp x (List.mem_map.2 ⟨(i, x), hm, rfl⟩)]
  cases op <;> simp only [Op.operands] at h <;> simp only [sop]
  case build t ps => rw [pairs ps.toList fun x hx => h x (by simpa using hx)]
  case buildSlice t n ps => rw [pairs ps.toList fun x hx => h x (by simpa using hx)]
  case call c =>
    have hargs : c.args.toList.map ev = c.args.toList.map ev' := List.map_congr_left fun x hx => h x (by simp only [Call.operands, Array.mem_append]; exact .inr (by simpa using hx))
    rw [hargs]
    cases hc : c.callee with
    | value f =>
      have hf : ev f = ev' f := h f (by simp [Call.operands, hc])
      simp only [hf]
    | _ => rfl
  case slice t x lo hi mx =>
    have h1 : ev x = ev' x := h x (by simp)
    have h2 : lo.map ev = lo.map ev' := by cases lo <;> simp_all
    have h3 : hi.map ev = hi.map ev' := by cases hi <;> simp_all
    cases mx with
    | none => simp only [h1, h2, h3]
    | some m =>
      have h4 : ev m = ev' m := h m (by simp)
      cases hi with
      | none => rfl
      | some y =>
        have h5 : ev y = ev' y := h y (by simp)
        simp only [h1, h2, h4, h5]
  all_goals (first | rfl | (simp_all; done))

/-! ### Names -/

mutual
def FactV : SV → Prop
  | .i k a => InR k a.z
  | .arr k n _ l => l.length = n ∧ AllR k l
  | .sl _ _ _ _ len => 0 ≤ len.z ∧ InR .i64 len.z
  | .agg xs => FactVs xs
  | .tup xs => FactVs xs
  | .ro _ sh d => RoF sh d
  | .s x => (x.size : Int) < 9223372036854775808
  | _ => True
def FactVs : List SV → Prop
  | [] => True
  | x :: r => FactV x ∧ FactVs r
end

mutual
theorem D.fact {dm : Nat → Prop} {ρ : Nat → Pl} : ∀ (x : SV) (v : Value), D dm ρ x v → FactV x
  | .i k a, v, h => h.2
  | .b _ x, v, h => trivial
  | .s x, v, h => h.2
  | .np, v, h => trivial
  | .nsl, v, h => trivial
  | .p key c, v, h => trivial
  | .pd key c est x j, v, h => trivial
  | .sl key c est off len, v, h => ⟨h.2.2.1, h.2.2.2.1⟩
  | .arr k n _ l, v, h => ⟨h.1, h.2.1⟩
  | .agg xs, v, h => by
    simp only [D] at h
    obtain ⟨cs, h1, h2⟩ := h
    exact Cs.fact xs cs h1
  | .tup xs, v, h => by
    simp only [D] at h
    obtain ⟨cs, h1, h2⟩ := h
    exact Ds.fact xs cs h1
  | .fn f, v, h => trivial
  | .ro key sh d, v, h => h.2.2.1
  | .rop .., v, h => trivial
  | .val x, v, h => trivial
  | .any, _, h => trivial
theorem Cs.fact {dm : Nat → Prop} {ρ : Nat → Pl} : ∀ (xs : List SV) (cs : List Value), Cs dm ρ xs cs → FactVs xs
  | [], cs, h => trivial
  | x :: r, cs, h => by
    simp only [Cs] at h
    obtain ⟨v, c, h1, h2, h3⟩ := h
    exact ⟨D.fact x v h1, Cs.fact r c h3⟩
theorem Ds.fact {dm : Nat → Prop} {ρ : Nat → Pl} : ∀ (xs : List SV) (cs : List Value), Ds dm ρ xs cs → FactVs xs
  | [], cs, h => trivial
  | x :: r, cs, h => by
    simp only [Ds] at h
    obtain ⟨v, c, h1, h2, h3⟩ := h
    exact ⟨D.fact x v h1, Ds.fact r c h3⟩
end

theorem genL_of {k : IntKind} : ∀ (l : List Int) (K : List Int → Prop), genL k l K → AllR k l → K l
  | [], K, h, _ => h
  | z :: r, K, h, ha => genL_of r (fun r' => K (z :: r')) (h z rfl (ha z (by simp))) fun y hy => ha y (by simp [hy])

mutual
theorem genV_of : ∀ (v : SV) (K : SV → Prop), genV v K → FactV v → K v
  | .i k ⟨true, z⟩, K, h, f => h
  | .i k ⟨false, z⟩, K, h, f => h z rfl f
  | .b true x, K, h, f => h
  | .b false x, K, h, f => h x rfl
  | .s x, K, h, f => h
  | .np, K, h, f => h
  | .nsl, K, h, f => h
  | .p key c, K, h, f => h
  | .pd key c est x j, K, h, f => h
  | .sl key c est off ⟨true, z⟩, K, h, f => h
  | .sl key c est off ⟨false, z⟩, K, h, f => h z rfl f.1 f.2
  | .arr k n true l, K, h, f => genL_of l (fun l' => K (.arr k n true l')) h f.2
  | .arr k n false l, K, h, f => h l rfl f.1 f.2
  | .agg xs, K, h, f => genVs_of xs (fun ys => K (.agg ys)) h f
  | .tup xs, K, h, f => genVs_of xs (fun ys => K (.tup ys)) h f
  | .fn g, K, h, f => h
  | .ro .., K, h, f => h
  | .rop .., K, h, f => h
  | .val x, K, h, f => h
  | .any, K, h, f => h
theorem genVs_of : ∀ (xs : List SV) (K : List SV → Prop), genVs xs K → FactVs xs → K xs
  | [], K, h, f => h
  | x :: r, K, h, f => genVs_of r (fun ys => K (x :: ys)) (genV_of x (fun y => genVs r fun ys => K (y :: ys)) h f.1) f.2
end

theorem genSeg_of {dm : Nat → Prop} {ρ : Nat → Pl} {g : Seg} {cs : List Value} {K : Seg → Prop} (h : genSeg g K) (hg : SegD dm ρ g cs) : K g := by
  cases g with
  | one x =>
    obtain ⟨h0, v, h1, h2⟩ := hg
    cases x with
    | i k a =>
      obtain ⟨st, z⟩ := a
      cases st with
      | true => exact h
      | false => exact h z rfl h1.2
    | _ => exact h
  | arr k n ex l =>
    cases ex with
    | true => exact genL_of l (fun l' => K (.arr k n true l')) h hg.2.1
    | false => exact h l rfl hg.1 hg.2.1
  | rowI k l => exact h l rfl hg.1
  | rowA k n l => exact h l rfl hg.1

theorem genSegs_of {dm : Nat → Prop} {ρ : Nat → Pl} : ∀ (l : List Seg) (cs : List Value) (K : List Seg → Prop), genSegs l K → SegsD dm ρ l cs → K l
  | [], cs, K, h, _ => h
  | g :: r, cs, K, h, hg => by
    obtain ⟨c1, c2, h1, h2, h3⟩ := hg
    exact genSegs_of r c2 (fun r' => K (g :: r')) (genSeg_of (K := fun g' => genSegs r fun r' => K (g' :: r')) h h1) h3

theorem genWs_of {dm : Nat → Prop} {ρ : Nat → Pl} : ∀ (ws : List (Nat × SB)) (K : List (Nat × SB) → Prop), genWs ws K → (∀ k ro l, (k, SB.segs ro l) ∈ ws → ∃ cs, SegsD dm ρ l cs) → K ws
  | [], K, h, _ => h
  | (k, .segs ro l) :: r, K, h, hw => by
    obtain ⟨cs, hcs⟩ := hw k ro l (by simp)
    have := genSegs_of l cs (fun l' => genWs r fun r' => K ((k, .segs ro l') :: r')) h hcs
    exact genWs_of r (fun r' => K ((k, .segs ro l) :: r')) this fun k' ro' l' hm => hw k' ro' l' (by simp [hm])
  | (k, .world) :: r, K, h, hw => genWs_of r (fun r' => K ((k, .world) :: r')) h fun k' ro' l' hm => hw k' ro' l' (by simp [hm])
  | (k, .gone) :: r, K, h, hw => genWs_of r (fun r' => K ((k, .gone) :: r')) h fun k' ro' l' hm => hw k' ro' l' (by simp [hm])

theorem preK_of : ∀ (p : List Prop) (K : Prop), preK p K → AllP p ∧ K
  | [], K, h => ⟨trivial, h⟩
  | x :: r, K, h => ⟨⟨h.1, (preK_of r K h.2).1⟩, (preK_of r K h.2).2⟩

theorem memN_iff {x : Nat} : ∀ {l : List Nat}, memN x l = true ↔ x ∈ l
  | [] => by simp [memN]
  | y :: r => by
    simp only [memN]
    split
    · rename_i h; simp [Nat.eq_of_beq_eq_true h]
    · rename_i h
      have : x ≠ y := fun e => by subst e; rw [Nat.beq_refl] at h; cases h
      simp [memN_iff, this]

theorem updsH_mem : ∀ (ws : List (Nat × SB)) (H : Nat → Option SB) (k : Nat) (b : SB), nodupN (keysOf ws) = true → (k, b) ∈ ws → updsH H ws k = some b
  | (k', b') :: r, H, k, b, hn, hm => by
    simp only [keysOf, nodupN] at hn
    split at hn
    · cases hn
    · rename_i hk
      rcases List.mem_cons.1 hm with hm | hm
      · obtain ⟨rfl, rfl⟩ := Prod.mk.inj hm
        have : ∀ (r : List (Nat × SB)) (H : Nat → Option SB), memN k (keysOf r) = false → updsH H r k = H k := by
          intro r
          induction r with
          | nil => intros; rfl
          | cons x r ih =>
            obtain ⟨k2, b2⟩ := x
            intro H hk
            simp only [keysOf, memN] at hk
            split at hk
            · cases hk
            · rename_i hne
              simp only [updsH]
              rw [ih _ hk, updH_ne]
              intro e; subst e; rw [Nat.beq_refl] at hne; cases hne
        simp only [updsH]
        rw [this r _ hk, updH_same]
      · exact updsH_mem r _ k b hn hm

/-- A delta's conditions and names, where the delta has come to be. -/
theorem deltaK_of {w0 : World} {M : Nat → Prop} {ρ ρ' : Nat → Pl} {H : Nat → Option SB} {w' : World} {d : Delta} {K : SV → List (Nat × SB) → Prop} (h : deltaK d K) :
    AllP d.pre ∧ (∀ v, D (dmOf (updsH H d.ws)) ρ' d.v v → Mem w0 M ρ' (updsH H d.ws) w' → K d.v d.ws) := by
  obtain ⟨pre, v, ws, gen⟩ := d
  simp only [deltaK] at h
  obtain ⟨h1, h2⟩ := preK_of _ _ h
  refine ⟨h1, fun u hu hm => ?_⟩
  cases gen with
  | false => exact h2
  | true =>
    simp only at h2
    split at h2
    · rename_i hn
      have h3 := genWs_of (dm := dmOf (updsH H ws)) (ρ := ρ') ws _ h2 fun k ro l hk => by
        have := updsH_mem ws H k _ hn hk
        obtain ⟨vs, q1, _⟩ := hm.segs this
        exact ⟨vs, q1⟩
      exact genV_of v _ h3 (D.fact v u hu)
    · exact h2.elim

end Go.Gx

/- A region's operations: one behind the other, and in every order. -/
namespace Go.Gx
open Go.RowKit
set_option linter.unusedVariables false

/-- What an operation has come to: its value, the blocks that it wrote, those that it read. -/
structure Res where
  v : SV
  ws : List (Nat × SB)
  rs : List Nat

def Res.foot (x : Res) : Foot := (x.rs, keysOf x.ws)

def putT (T : Nat → SV) (d : Option Nat) (v : SV) : Nat → SV :=
  match d with
  | none => T
  | some t => fun k => if k = t then v else T k

def OpRes (Γ : Tab) (all : List Oper) (o : Oper) (stamp : Nat) (T : Nat → SV) (H : Nat → Option SB) (x : Res) : Prop :=
  (wantF all o T = some false ∧ x = ⟨.val undef, [], []⟩) ∨
  (wantF all o T = some true ∧ ∃ d, (sop Γ stamp o.op o.type (evalF Γ.gl T)).run H [] = some (d, x.rs) ∧ AllP d.pre ∧ x.ws = d.ws ∧ (x.v = d.v ∨ ∃ b, d.v = .b false b ∧ x.v = .b true b))

def ChainOk (Γ : Tab) (all : List Oper) (n : Nat) : List Oper → Nat → (Nat → SV) → (Nat → Option SB) → List Res → Prop
  | [], _, _, _, rl => rl = []
  | o :: r, stamp, T, H, rl => ∃ x rl', rl = x :: rl' ∧ OpRes Γ all o stamp T H x ∧ (∀ t, o.dst = some t → t < n) ∧ ChainOk Γ all n r (stamp + 1) (putT T o.dst x.v) (updsH H x.ws) rl'

def finT : List Oper → List Res → (Nat → SV) → Nat → SV
  | o :: r, x :: l, T => finT r l (putT T o.dst x.v)
  | _, _, T => T

def finH : List Res → (Nat → Option SB) → Nat → Option SB
  | x :: l, H => finH l (updsH H x.ws)
  | [], H => H

/-- The state of a call, as the evaluator sees it. -/
structure Inv (w0 : World) (M : Nat → Prop) (ρ0 : Nat → Pl) (H0 : Nat → Option SB) (ρ : Nat → Pl) (T : Nat → SV) (H : Nat → Option SB) (n : Nat) (a : Act) (w : World) : Prop where
  tmps : ∀ t, D (dmOf H) ρ (T t) (a.tmps.getD t undef)
  mem : Mem w0 M ρ H w
  size : a.tmps.size = n
  base : ∀ k, dmOf H0 k → dmOf H k ∧ ρ k = ρ0 k
  defers : a.defers = []

/-- The globals lie where the program's do. -/
structure GlOk (Γ : Tab) (w0 : World) (M : Nat → Prop) (ρ0 : Nat → Pl) (H0 : Nat → Option SB) : Prop where
  at_ : ∀ g ∈ Γ.gl, dmOf H0 g ∧ (ρ0 g).blk = g ∧ (ρ0 g).off = 0
  glob : Glob Γ.gh w0 M

section
variable {P : Program} {Γ : Tab} {w0 : World} {M : Nat → Prop} {ρ0 ρ : Nat → Pl} {H0 H : Nat → Option SB} {T : Nat → SV} {n : Nat} {a : Act} {w : World}

theorem constSV_D {dm : Nat → Prop} (v : Value) : D dm ρ (constSV v) v := by
  unfold constSV
  split
  · split
    · rename_i h; exact ⟨rfl, InRb_iff h⟩
    · rfl
  · rfl
  · split
    · rename_i h
      have := Nat.le_of_ble_eq_true h
      exact ⟨rfl, by omega⟩
    · rfl
  · rfl
  · rfl
  · rfl

theorem Inv.eval (hi : Inv w0 M ρ0 H0 ρ T H n a w) (hg : GlOk Γ w0 M ρ0 H0) (x : Operand) : D (dmOf H) ρ (evalF Γ.gl T x) (a.eval x) := by
  cases x with
  | tmp t => exact hi.tmps t
  | const v => exact constSV_D v
  | global g =>
    simp only [evalF, Act.eval]
    split
    · rename_i h
      obtain ⟨h1, h2, h3⟩ := hg.at_ g (memN_iff.1 h)
      obtain ⟨h4, h5⟩ := hi.base g h1
      exact ⟨h4, by rw [h5]; simp [at_, h2, h3]⟩
    · trivial
  | func f => rfl

theorem Act.getD_put (a : Act) (dst : Option Tmp) (v : Value) (h : ∀ t, dst = some t → t < a.tmps.size) (t : Nat) : (a.put dst v).tmps.getD t undef = if dst = some t then v else a.tmps.getD t undef := by
  cases dst with
  | none => simp [Act.put]
  | some d =>
    have hd := h d rfl
    simp only [Act.put]
    by_cases e : d = t
    · subst e; simp [Array.getD, hd]
    · simp only [Option.some.injEq, e, if_false, Array.getD_eq_getD_getElem?]
      rw [Array.getElem?_setIfInBounds_ne e]

theorem Inv.put {d : Delta} {dst : Option Tmp} {v : Value} {w' : World} {u : SV} (hi : Inv w0 M ρ0 H0 ρ T H n a w) (ha : After w0 M ρ H d v w') (hd : ∀ t, dst = some t → t < n) (hu : u = d.v ∨ ∃ b, d.v = .b false b ∧ u = .b true b) :
    ∃ ρ', Inv w0 M ρ0 H0 ρ' (putT T dst u) (updsH H d.ws) n (a.put dst v) w' := by
  obtain ⟨ρ', h1, h2, h3⟩ := ha
  have hdu : D (dmOf (updsH H d.ws)) ρ' u v := by
    rcases hu with rfl | ⟨b, e1, e2⟩
    · exact h2
    · rw [e1] at h2; rw [e2]; exact h2
  refine ⟨ρ', fun t => ?_, h3, by cases dst <;> simp [Act.put, hi.size], fun k hk => ?_, by cases dst <;> simp [Act.put, hi.defers]⟩
  · rw [Act.getD_put a dst v (by rw [hi.size]; exact hd)]
    cases dst with
    | none => exact D.mono (dm_updsH _ _) h1 _ _ (hi.tmps t)
    | some d' =>
      simp only [putT, Option.some.injEq]
      by_cases e : t = d'
      · subst e; simp only [if_true]; exact hdu
      · rw [if_neg e, if_neg (Ne.symm e)]
        exact D.mono (dm_updsH _ _) h1 _ _ (hi.tmps t)
  · obtain ⟨q1, q2⟩ := hi.base k hk
    exact ⟨dm_updsH _ _ _ q1, by rw [h1 k q1, q2]⟩

theorem Inv.skip {dst : Option Tmp} (hi : Inv w0 M ρ0 H0 ρ T H n a w) (hd : ∀ t, dst = some t → t < n) : Inv w0 M ρ0 H0 ρ (putT T dst (.val undef)) H n (a.put dst undef) w := by
  refine ⟨fun t => ?_, hi.mem, by cases dst <;> simp [Act.put, hi.size], hi.base, by cases dst <;> simp [Act.put, hi.defers]⟩
  rw [Act.getD_put a dst undef (by rw [hi.size]; exact hd)]
  cases dst with
  | none => exact hi.tmps t
  | some d' =>
    simp only [putT, Option.some.injEq]
    by_cases e : t = d'
    · subst e; simp only [if_true]; rfl
    · rw [if_neg e, if_neg (Ne.symm e)]
      exact hi.tmps t

theorem nth_get {α : Type} : ∀ (l : List α) (j : Nat), nth l j = l[j]?
  | [], j => by simp [nth]
  | x :: r, 0 => rfl
  | x :: r, j + 1 => by simp only [nth, List.getElem?_cons_succ]; exact nth_get r j

theorem want_sound {all : List Oper} {o : Oper} {b : Bool} (hi : Inv w0 M ρ0 H0 ρ T H n a w) (h : wantF all o T = some b) : Region.wanted o (yielded all.toArray a.tmps) = b := by
  unfold wantF at h
  unfold Region.wanted
  cases hg : o.guard with
  | none => simp only [hg] at h ⊢; simpa using h
  | some p =>
    obtain ⟨j, want⟩ := p
    simp only [hg] at h ⊢
    split at h
    · rename_i oj hj
      rw [nth_get] at hj
      split at h
      · rename_i t ht
        have hy : ∀ u, a.tmps.getD t undef = u → yielded all.toArray a.tmps j = (match (some u : Option Value) with | some (.bool b) => some b | _ => none) := fun u hu => by
          have e1 : all.toArray[j]? = some oj := by simpa using hj
          simp only [yielded, e1, Option.bind_some, ht]
          by_cases hs : t < a.tmps.size
          · have : a.tmps[t]? = some u := by rw [← hu]; simp [Array.getD, hs]
            rw [this]
            cases u <;> rfl
          · have h1 : a.tmps[t]? = none := Array.getElem?_eq_none (Nat.le_of_not_lt hs)
            have h2 : u = undef := by rw [← hu]; simp [Array.getD, hs]
            rw [h1, h2]; rfl
        have hD := hi.tmps t
        split at h
        · rename_i v e
          rw [e] at hD
          simp only [D] at hD
          rw [hy _ hD]
          cases v <;> cases want <;> simp at h <;> subst h <;> rfl
        · cases h
        · rename_i u hu e
          rw [e] at hD
          simp only [D] at hD
          rw [hy _ hD]
          simp only [Option.some.injEq] at h
          subst h
          cases u <;> first | rfl | (rename_i b; exact absurd rfl (hu b))
        · cases h
      · cases h
    · cases h

/-- One operation of a region. -/
theorem op_step {all : List Oper} {o : Oper} {stamp : Nat} {x : Res} (hΓ : TabOk P Γ) (hg : GlOk Γ w0 M ρ0 H0) (hi : Inv w0 M ρ0 H0 ρ T H n a w) (hx : OpRes Γ all o stamp T H x) (hd : ∀ t, o.dst = some t → t < n)
    {Q : Exit → Act → World → Prop} {K : Act → World → Prop} (hK : ∀ ρ' a' w', Inv w0 M ρ0 H0 ρ' (putT T o.dst x.v) (updsH H x.ws) n a' w' → K a' w') :
    if Region.wanted o (yielded all.toArray a.tmps) then o.wp P a w K Q ∨ (o.asks P a w ∧ LetsOut Q) else K (a.put o.dst undef) w := by
  rcases hx with ⟨h1, rfl⟩ | ⟨h1, d, h2, h3, h4, h5⟩
  · rw [want_sound hi h1]
    exact hK _ _ _ (hi.skip hd)
  · rw [want_sound hi h1]
    simp only [if_true]
    left
    have ho := sop_sound hΓ hg.glob hi.mem (ρe := a.eval) (fun x _ => hi.eval hg x) h2 h3
    unfold Oper.wp
    rcases ho with ⟨v, w', hr, ha⟩ | ⟨f, args, hr, hc⟩
    · obtain ⟨ρ', hi'⟩ := hi.put ha hd h5
      rw [← h4] at hi'
      rcases hr with hr | ⟨hr, rfl⟩
      · rw [hr]; exact hK _ _ _ hi'
      · rw [hr]; exact hK _ _ _ hi'
    · rw [hr]
      refine hc.mono fun e w' he => ?_
      obtain ⟨v, rfl, ha⟩ := he
      obtain ⟨ρ', hi'⟩ := hi.put ha hd h5
      rw [← h4] at hi'
      exact hK _ _ _ hi'

theorem Outc.ex {d : Delta} {r : Result Next} (h : Outc P w0 M ρ H d w r) : ∃ v w', After w0 M ρ H d v w' := by
  rcases h with ⟨v, w', _, h⟩ | ⟨f, args, _, h⟩
  · exact ⟨v, w', h⟩
  · obtain ⟨e, w', fr, ⟨v, _, hv⟩, _⟩ := h []
    exact ⟨v, w', hv⟩

theorem tget_set : ∀ {l l' : List SV} {t : Nat} {v : SV}, setn l t v = some l' → tget l' = (fun k => if k = t then v else tget l k) ∧ l'.length = l.length ∧ t < l.length
  | [], l', t, v, h => by simp [setn] at h
  | x :: r, l', 0, v, h => by
    simp only [setn, Option.some.injEq] at h; subst h
    refine ⟨funext fun k => ?_, rfl, by simp⟩
    cases k <;> simp [tget]
  | x :: r, l', t + 1, v, h => by
    simp only [setn] at h
    split at h
    · rename_i r' hr'
      simp only [Option.some.injEq] at h; subst h
      obtain ⟨h1, h2, h3⟩ := tget_set hr'
      refine ⟨funext fun k => ?_, by simp [h2], by simp; exact h3⟩
      cases k with
      | zero => simp [tget]
      | succ k => simp only [tget, h1]; simp
    · cases h

theorem dstSet_put {l l' : List SV} {d : Option Nat} {v : SV} (h : dstSet l d v = some l') : tget l' = putT (tget l) d v ∧ l'.length = l.length ∧ ∀ t, d = some t → t < l.length := by
  cases d with
  | none => simp only [dstSet, Option.some.injEq] at h; subst h; exact ⟨rfl, rfl, fun t ht => by cases ht⟩
  | some t =>
    obtain ⟨h1, h2, h3⟩ := tget_set h
    exact ⟨h1, h2, fun t' ht => by simp only [Option.some.injEq] at ht; subst ht; exact h3⟩

/-- The evaluator's way through a region, as a chain. -/
theorem opsK_chain (hΓ : TabOk P Γ) (hg : GlOk Γ w0 M ρ0 H0) {all : List Oper} {gs : List Nat} {K : List Foot → List SV → Heap → Prop} : ∀ (l : List Oper) (i stamp : Nat) (fs : List Foot) (tmps : List SV) (h : Heap) (ρ : Nat → Pl) (a : Act) (w : World),
    opsK Γ all gs l i stamp fs tmps h K → Inv w0 M ρ0 H0 ρ (tget tmps) (assoc h) tmps.length a w →
    ∃ rl tmps' h', ChainOk Γ all tmps.length l stamp (tget tmps) (assoc h) rl ∧ K ((rl.map Res.foot).reverse ++ fs) tmps' h' ∧ tget tmps' = finT l rl (tget tmps) ∧ assoc h' = finH rl (assoc h) ∧ tmps'.length = tmps.length ∧ rl.length = l.length
  | [], i, stamp, fs, tmps, h, ρ, a, w, ho, hi => ⟨[], tmps, h, rfl, ho, rfl, rfl, rfl, rfl⟩
  | o :: r, i, stamp, fs, tmps, h, ρ, a, w, ho, hi => by
    simp only [opsK] at ho
    split at ho
    · exact ho.elim
    · rename_i hw
      rw [wantS_eq] at hw
      split at ho
      · rename_i tmps' hd
        obtain ⟨e1, e2, e3⟩ := dstSet_put hd
        have hi' := hi.skip (dst := o.dst) e3
        rw [← e1, ← e2] at hi'
        obtain ⟨rl, t2, h2, q1, q2, q3, q4, q5, q6⟩ := opsK_chain hΓ hg r (i + 1) (stamp + 1) _ tmps' h ρ _ w ho hi'
        refine ⟨⟨.val undef, [], []⟩ :: rl, t2, h2, ⟨_, rl, rfl, .inl ⟨hw, rfl⟩, e3, ?_⟩, ?_, ?_, q4, by rw [q5, e2], by simp [q6]⟩
        · rw [← e1, ← e2]; exact q1
        · simpa [Res.foot, keysOf] using q2
        · rw [q3, e1]; rfl
      · exact ho.elim
    · rename_i hw
      rw [wantS_eq] at hw
      split at ho
      · rename_i d rs hrun
        rw [evalS_eq] at hrun
        have hex : AllP d.pre → ∃ v w', After w0 M ρ (assoc h) d v w' := fun hp => (sop_sound (o := o) hΓ hg.glob hi.mem (ρe := a.eval) (fun x _ => hi.eval hg x) hrun hp).ex
        have hpre := (deltaK_of (w0 := w0) (M := M) (ρ := ρ) (ρ' := ρ) (H := assoc h) (w' := w) ho).1
        obtain ⟨v, w', ha⟩ := hex hpre
        obtain ⟨ρ', a1, a2, a3⟩ := id ha
        have hk := (deltaK_of (w0 := w0) (M := M) (ρ := ρ) (ρ' := ρ') (H := assoc h) (w' := w') ho).2 v a2 a3
        split at hk
        · rename_i h' hh
          have eh := assoc_hsets _ _ _ hh
          have fin : ∀ u tmps', dstSet tmps o.dst u = some tmps' → (u = d.v ∨ ∃ b, d.v = .b false b ∧ u = .b true b) → opsK Γ all gs r (i + 1) (stamp + 1) ((rs, keysOf d.ws) :: fs) tmps' h' K →
              ∃ rl tmps' h', ChainOk Γ all tmps.length (o :: r) stamp (tget tmps) (assoc h) rl ∧ K ((rl.map Res.foot).reverse ++ fs) tmps' h' ∧ tget tmps' = finT (o :: r) rl (tget tmps) ∧ assoc h' = finH rl (assoc h) ∧ tmps'.length = tmps.length ∧ rl.length = (o :: r).length := by
            intro u tmps' hd hu hk
            obtain ⟨e1, e2, e3⟩ := dstSet_put hd
            obtain ⟨ρ2, hi'⟩ := hi.put ha e3 hu
            rw [← e1, ← e2, ← eh] at hi'
            obtain ⟨rl, t2, h2, q1, q2, q3, q4, q5, q6⟩ := opsK_chain hΓ hg r (i + 1) (stamp + 1) _ tmps' h' ρ2 _ w' hk hi'
            refine ⟨⟨u, d.ws, rs⟩ :: rl, t2, h2, ⟨_, rl, rfl, .inr ⟨hw, d, hrun, hpre, rfl, hu⟩, e3, ?_⟩, ?_, ?_, ?_, by rw [q5, e2], by simp [q6]⟩
            · rw [← e1, ← e2, ← eh]; exact q1
            · simpa [Res.foot] using q2
            · rw [q3, e1]; rfl
            · rw [q4, eh]; rfl
          unfold splitK at hk
          split at hk
          · split at hk
            · rename_i tmps' hd; exact fin _ tmps' hd (.inl rfl) hk
            · exact hk.elim
          · split at hk
            · rename_i b hb
              cases b with
              | true =>
                have hk := hk.1 rfl
                dsimp only at hk
                split at hk
                · rename_i tmps' hd; exact fin _ tmps' hd (.inr ⟨true, hb, rfl⟩) hk
                · exact hk.elim
              | false =>
                have hk := hk.2 rfl
                dsimp only at hk
                split at hk
                · rename_i tmps' hd; exact fin _ tmps' hd (.inr ⟨false, hb, rfl⟩) hk
                · exact hk.elim
            · split at hk
              · rename_i tmps' hd; exact fin _ tmps' hd (.inl rfl) hk
              · exact hk.elim
        · exact hk.elim
      · exact ho.elim

/-- The operations in the order in which they stand. -/
theorem chain_seq (hΓ : TabOk P Γ) (hg : GlOk Γ w0 M ρ0 H0) {all : List Oper} {Q : Exit → Act → World → Prop} : ∀ (l : List Oper) (i stamp : Nat) (T : Nat → SV) (H : Nat → Option SB) (rl : List Res) (ρ : Nat → Pl) (a : Act) (w : World),
    (∀ j, l[j]? = all[i + j]?) → ChainOk Γ all n l stamp T H rl → Inv w0 M ρ0 H0 ρ T H n a w → (∀ ρ' a' w', Inv w0 M ρ0 H0 ρ' (finT l rl T) (finH rl H) n a' w' → Q .normal a' w') →
    wpOps P all.toArray Q (List.range' i l.length) a w
  | [], i, stamp, T, H, rl, ρ, a, w, hl, hc, hi, hQ => by
    simp only [ChainOk] at hc
    subst hc
    exact hQ ρ a w hi
  | o :: r, i, stamp, T, H, rl, ρ, a, w, hl, hc, hi, hQ => by
    obtain ⟨x, rl', rfl, h1, h2, h3⟩ := hc
    have ho : all.toArray[i]? = some o := by have := hl 0; simpa using this.symm
    simp only [List.length_cons, List.range'_succ, wpOps, ho]
    exact op_step hΓ hg hi h1 h2 fun ρ' a' w' hi' => chain_seq hΓ hg r (i + 1) (stamp + 1) _ _ rl' ρ' a' w' (fun j => by have := hl (j + 1); simp only [List.getElem?_cons_succ] at this; rw [this]; congr 1; omega) h3 hi' hQ

end
end Go.Gx
