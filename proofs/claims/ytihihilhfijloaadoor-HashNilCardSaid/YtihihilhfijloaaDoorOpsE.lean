/- New variables, addresses, parts. -/
import Derived.Test.YtihihilhfijloaaDoorOpsD
namespace Go.Gx
open Go.RowKit
set_option linter.unusedVariables false

section
variable {P : Program} {w0 : World} {M : Nat → Prop} {ρ : Nat → Pl} {H : Nat → Option SB} {w : World}

theorem fresh_run {H : Nat → Option SB} {stamp : Nat} {l : List Seg} {v : SV} {pre : List Prop} {gen : Bool} {rs rs' : List Nat} {d : Delta} (h : (fresh stamp l v pre gen).run H rs = some (d, rs')) :
    H stamp = none ∧ d = ⟨pre, v, [(stamp, .segs false l)], gen⟩ := by
  simp only [fresh, RP.run] at h
  split at h
  · rename_i e
    exact ⟨e, run_ret h⟩
  · simp [RP.run] at h

/-- A new block, and a value that may point to it. -/
theorem After.alloc (hm : Mem w0 M ρ H w) {stamp : Nat} (hn : H stamp = none) {l : List Seg} {vs : List Value} (hl : SegsD (dmOf H) ρ l vs) {cells : Array Value} {T : TypeId} {fr : Nat × Nat} {extra : List Value}
    (hc : cells.toList = vs ++ extra) (hfr : ∀ j, j < cells.size → ¬ (fr.1 ≤ j ∧ j < fr.2)) {d : Delta} (hd : d.ws = [(stamp, .segs false l)]) {v : Value}
    (hv : D (dmOf (updH H stamp (.segs false l))) (updP ρ stamp ({ blk := w.heap.size, off := 0, cap := cells.size } : Pl)) d.v v) : After w0 M ρ H d v (w.alloc (.cells cells T fr)) :=
  ⟨updP ρ stamp ({ blk := w.heap.size, off := 0, cap := cells.size } : Pl), updP_keeps hn, by rw [hd]; exact hv, by rw [hd]; exact hm.alloc hn hl hc hfr⟩

theorem dm_new (H : Nat → Option SB) (stamp : Nat) (b : SB) : dmOf (updH H stamp b) stamp := by unfold dmOf; rw [updH_same]; rfl

theorem box_sound (hm : Mem w0 M ρ H w) {stamp : Nat} {x : SV} {v : Value} (hx : D (dmOf H) ρ x v) {d : Delta} {rs rs' : List Nat} (h : (boxOp stamp x).run H rs = some (d, rs')) (T : TypeId) :
    After w0 M ρ H d (.pointer (some ⟨w.heap.size, 0, none⟩)) (w.alloc (.cells v.cells T)) := by
  unfold boxOp at h
  split at h
  · rename_i l hl
    obtain ⟨hn, rfl⟩ := fresh_run h
    refine After.alloc hm hn (segsOf_D x l v hl hx) (extra := []) (by simp) (fun j hj => by omega) rfl ?_
    exact ⟨dm_new _ _ _, by rw [updP_same]; rfl⟩
  · simp [RP.run] at h

theorem alloc_run {T : TypeId} {ti : TInfo} (hT : RowOk P T ti) (w : World) : ∃ z, (Instr.alloc T true (.tuple #[])).run P w = .ok (.pointer (some ⟨w.heap.size, 0, none⟩)) (w.alloc (.cells z.cells T)) ∧
    ∀ (dm : Nat → Prop) (ρ : Nat → Pl), D dm ρ (zero ti.ty) z := by
  obtain ⟨i, z, h1, h2, h3, h4, h5⟩ := hT.info
  refine ⟨z, ?_, fun dm ρ => zeroB_D h5⟩
  simp [Instr.alloc, zeroValue, typeInfo, h1, h4, newVar, newRow]

theorem box_run (T : TypeId) (v : Value) (w : World) : (Instr.box T v).run P w = .ok (.pointer (some ⟨w.heap.size, 0, none⟩)) (w.alloc (.cells v.cells T)) := by
  simp [Instr.box, newVar, newRow]

/-! ### Addresses -/

theorem addr_add (p : Pl) (c n : Nat) : (at_ p c).add n = at_ p (c + n) := by
  unfold at_
  rw [Addr.add_mid, Nat.add_assoc]

theorem ptrAt_sound {dm : Nat → Prop} {key c est : Nat} {x : SI} {v : SV} (h : ptrAt key c est x = some v) (hk : dm key) (hx : 0 ≤ x.z) : D dm ρ v (.pointer (some (at_ (ρ key) (c + est * x.z.toNat)))) := by
  unfold ptrAt at h
  split at h
  · simp only [Option.some.injEq] at h; subst h; exact ⟨hk, rfl⟩
  · cases h
  · simp only [Option.some.injEq] at h; subst h
    exact ⟨hk, hx, by simp⟩

theorem addI_z (x y : SI) : (addI x y).z = x.z + y.z := by
  unfold addI
  split
  · simp [litI_eq]
  · simp
  · simp
  · rfl

theorem subI_z (x y : SI) : (subI x y).z = x.z - y.z := by
  unfold subI
  split
  · simp [litI_eq]
  · simp
  · rfl

theorem indexAddr_sound {T : TypeId} {ti : TInfo} {ty : List (Nat × TInfo)} (hT : RowOk P T ti) (hty : tabB P ty = true) {x i : SV} {vx vi : Value} (hx : D (dmOf H) ρ x vx) (hi : D (dmOf H) ρ i vi) {d : Delta} {rs rs' : List Nat}
    (h : (indexAddrOp ty ti x i).run H rs = some (d, rs')) (hp : AllP d.pre) : d.ws = [] ∧ ∃ v, (Instr.indexAt T vx vi).run P w = .ok v w ∧ D (dmOf H) ρ d.v v := by
  unfold indexAddrOp at h
  split at h
  · rename_i key c k a n e ht
    simp only [D] at hx hi
    obtain ⟨hk, rfl⟩ := hx
    obtain ⟨rfl, ha⟩ := hi
    split at h
    · rename_i p v hb hv
      have e' := run_ret h; subst e'
      obtain ⟨b1, b2⟩ := bound_ok hb hp
      refine ⟨rfl, _, ?_, ptrAt_sound hv hk b1⟩
      have hty' := hT.ty
      rw [ht] at hty'
      unfold tyB at hty'
      split at hty'
      · rename_i n' T' hu
        simp only [Bool.and_eq_true] at hty'
        obtain ⟨⟨e1, e2⟩, e3⟩ := hty'
        have hn := Nat.eq_of_beq_eq_true e1
        split at e2
        · rename_i ii hii
          have hs := Nat.eq_of_beq_eq_true e2
          have hlt : 0 ≤ a.z ∧ a.z < (n' : Int) := ⟨b1, by rw [← hn]; exact b2⟩
          simp [Instr.indexAt, asIntOf, run_underlying hu, Instr.sureAddr, sizeOf, typeInfo, hii, hs, hlt, addr_add, Nat.mul_comm]
        · cases e2
      · cases hty'
    · simp [RP.run] at h
  · rename_i key c est z j k a n e ht
    simp only [D] at hx hi
    obtain ⟨hk, hz, rfl⟩ := hx
    obtain ⟨rfl, ha⟩ := hi
    split at h
    · rename_i p m hb
      have e' := run_ret h; subst e'
      obtain ⟨b1, b2⟩ := bound_ok hb hp
      simp only at b1 b2
      refine ⟨rfl, .pointer (some (at_ (ρ key) (c + est * z.toNat + (j + e.size * m)))), ?_, hk, hz, rfl⟩
      have hty' := hT.ty
      rw [ht] at hty'
      unfold tyB at hty'
      split at hty'
      · rename_i n' T' hu
        simp only [Bool.and_eq_true] at hty'
        obtain ⟨⟨e1, e2⟩, e3⟩ := hty'
        have hn := Nat.eq_of_beq_eq_true e1
        split at e2
        · rename_i ii hii
          have hs := Nat.eq_of_beq_eq_true e2
          have hlt : m < n' := by rw [← hn]; exact Int.ofNat_lt.1 b2
          simp [Instr.indexAt, asIntOf, run_underlying hu, Instr.sureAddr, sizeOf, typeInfo, hii, hs, hlt, addr_add, Nat.mul_comm, Nat.add_assoc]
        · cases e2
      · cases hty'
    · simp [RP.run] at h
  · rename_i key c est off len k a ht
    simp only [D] at hx hi
    obtain ⟨hk, ho, hl, _, ad, cap, rfl, hlc, hdis⟩ := hx
    obtain ⟨rfl, ha⟩ := hi
    split at h
    · rename_i te hte
      split at h
      · rename_i p v hest hb hv
        have e' := run_ret h; subst e'
        obtain ⟨b1, b2⟩ := bound_ok hb hp
        have hTe := rowB_ok (tabB_row hty hte)
        have hes := Nat.eq_of_beq_eq_true hest
        rcases hdis with ⟨rfl, hcap⟩ | ⟨h0, _⟩
        · refine ⟨rfl, _, ?_, ptrAt_sound hv hk (by rw [addI_z]; omega)⟩
          have hty' := hT.ty
          rw [ht] at hty'
          unfold tyB at hty'
          split at hty'
          · rename_i e hu
            have hee := hT.slice e hu
            subst hee
            have hlt : 0 ≤ a.z ∧ a.z < len.z := ⟨b1, b2⟩
            have hsz := hTe.sizeOf (w := w)
            have h3 : ∀ y, (sizeOf ti.elem).run P y = .ok est y := fun y => by rw [hTe.sizeOf, hes]
            have hmx : max len.z 0 = len.z := by omega
            simp [Instr.indexAt, asIntOf, run_underlying hu, h3, b1, addr_add, addI_z, hmx, b2]
            congr 1
            rw [Int.toNat_add ho b1, Nat.mul_add, Nat.mul_comm est a.z.toNat, Nat.add_assoc]
          · cases hty'
        · omega
      · simp [RP.run] at h
    · simp [RP.run] at h
  · rename_i key sh dd k a ht
    simp only [D] at hx hi
    obtain ⟨hk, hrel, hF, ad, cap, rfl, hlc, hl63, hdis⟩ := hx
    obtain ⟨rfl, ha⟩ := hi
    split at h
    · rename_i te hte
      split at h
      · rename_i hest
        have e' := run_ret h; subst e'
        obtain ⟨b1, b2⟩ := hp.1
        have hTe := rowB_ok (tabB_row hty hte)
        have hes := Nat.eq_of_beq_eq_true hest
        rcases hdis with ⟨b, o, rfl⟩ | ⟨h0, _⟩
        · refine ⟨rfl, .pointer (some ⟨b, o + (shEl sh * a.z.toNat + 0), none⟩), ?_, hk, b1, b2, b, o, _, _, hrel, rfl⟩
          have hty' := hT.ty
          rw [ht] at hty'
          unfold tyB at hty'
          split at hty'
          · rename_i e hu
            have hee := hT.slice e hu
            subst hee
            have hlt : 0 ≤ a.z ∧ a.z < (roLen sh dd : Int) := ⟨b1, b2⟩
            have h3 : ∀ y, (sizeOf ti.elem).run P y = .ok (shEl sh) y := fun y => by rw [hTe.sizeOf, hes]
            have hadd : ∀ n, (⟨b, o, none⟩ : Addr).add n = ⟨b, o + n, none⟩ := fun n => by by_cases h : n = 0 <;> simp [Addr.add, h]
            simp [Instr.indexAt, asIntOf, run_underlying hu, h3, b1, b2, hadd, Nat.mul_comm]
          · cases hty'
        · omega
      · simp [RP.run] at h
    · simp [RP.run] at h
  · simp [RP.run] at h

theorem fieldAddr_sound {T : TypeId} {ti : TInfo} (hT : RowOk P T ti) {x : SV} {vx : Value} (hx : D (dmOf H) ρ x vx) {f : Nat} {d : Delta} {rs rs' : List Nat}
    (h : (fieldAddrOp ti x f).run H rs = some (d, rs')) : d.ws = [] ∧ ∃ v, (Instr.fieldAt T vx f).run P w = .ok v w ∧ D (dmOf H) ρ d.v v := by
  have key : ∀ (fs : List Ty) (fl : List Field) (off f : Nat), fieldsB P fs off fl = true → f < fs.length → ∃ g i, fl[f]? = some g ∧ g.offset = off + fieldOff fs f ∧ P.info? g.type = some i ∧ i.size ≠ 0 := by
    intro fs
    induction fs with
    | nil => intro fl off f _ hf; simp at hf
    | cons t r ih =>
      intro fl off f hB hf
      cases fl with
      | nil => simp [fieldsB] at hB
      | cons g gr =>
        simp only [fieldsB, Bool.and_eq_true] at hB
        obtain ⟨⟨⟨h1, h2⟩, h3⟩, h4⟩ := hB
        cases f with
        | zero =>
          split at h2
          · rename_i i hi
            simp only [Bool.and_eq_true] at h2
            refine ⟨g, i, rfl, by simp [fieldOff, Nat.eq_of_beq_eq_true h1], hi, ?_⟩
            have e1 := Nat.eq_of_beq_eq_true h2.1
            have e2 := h2.2
            simp [Nat.blt] at e2; omega
          · cases h2
        | succ f =>
          obtain ⟨g', i, a1, a2, a3, a4⟩ := ih gr (off + t.size) f h4 (by simpa using hf)
          exact ⟨g', i, by simpa using a1, by rw [a2]; simp [fieldOff]; omega, a3, a4⟩
  unfold fieldAddrOp at h
  split at h
  · rename_i k c fs ht
    simp only [D] at hx
    obtain ⟨hk, rfl⟩ := hx
    split at h
    · rename_i hlt
      have e := run_ret h; subst e
      have hf : f < fs.length := by simp [Nat.blt] at hlt; omega
      have hty' := hT.ty
      rw [ht] at hty'
      unfold tyB at hty'
      split at hty'
      · rename_i fl hu
        obtain ⟨g, i, a1, a2, a3, a4⟩ := key fs fl.toList 0 f hty' hf
        have a1' : fl[f]? = some g := by rw [← Array.getElem?_toList]; exact a1
        refine ⟨rfl, .pointer (some (at_ (ρ k) (c + fieldOff fs f))), ?_, hk, rfl⟩
        simp [Instr.fieldAt, run_underlying hu, a1', Instr.sureAddr, fieldPlace, sizeOf, typeInfo, a3, a4, a2, addr_add]
      · cases hty'
    · simp [RP.run] at h
  · rename_i k sh dd xx j fs ht
    simp only [D] at hx
    obtain ⟨hk, h0, hlt0, b, o, n, cap, hrel, rfl⟩ := hx
    split at h
    · rename_i hlt
      have e := run_ret h; subst e
      have hf : f < fs.length := by simp [Nat.blt] at hlt; omega
      have hty' := hT.ty
      rw [ht] at hty'
      unfold tyB at hty'
      split at hty'
      · rename_i fl hu
        obtain ⟨g, i, a1, a2, a3, a4⟩ := key fs fl.toList 0 f hty' hf
        have a1' : fl[f]? = some g := by rw [← Array.getElem?_toList]; exact a1
        have hadd : ∀ m n, (⟨b, m, none⟩ : Addr).add n = ⟨b, m + n, none⟩ := fun m n => by by_cases h : n = 0 <;> simp [Addr.add, h]
        refine ⟨rfl, .pointer (some ⟨b, o + (shEl sh * xx.toNat + (j + fieldOff fs f)), none⟩), ?_, hk, h0, hlt0, b, o, n, cap, hrel, rfl⟩
        simp [Instr.fieldAt, run_underlying hu, a1', Instr.sureAddr, fieldPlace, sizeOf, typeInfo, a3, a4, a2, hadd, Nat.add_assoc]
      · cases hty'
    · simp [RP.run] at h
  · simp [RP.run] at h

end
end Go.Gx
