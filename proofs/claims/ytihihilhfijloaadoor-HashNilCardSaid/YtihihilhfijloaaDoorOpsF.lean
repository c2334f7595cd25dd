/- Parts by value, slices, literals, make, conversions of numbers. -/
import Derived.Test.YtihihilhfijloaaDoorOpsE
import Derived.Great.BuildSlice
import Derived.Laws.MakeOwn
namespace Go.Gx
open Go.RowKit
set_option linter.unusedVariables false

section
variable {P : Program} {w0 : World} {M : Nat → Prop} {ρ : Nat → Pl} {H : Nat → Option SB} {w : World}

theorem isAgg_run {P : Program} {T : TypeId} {d : TypeDesc} (h : P.underlying T = some d) (w : World) : (isAgg T).run P w = .ok d.isRow w := by
  unfold isAgg
  rw [Sem.run_bind, run_underlying h w]
  cases d <;> rfl

theorem index_sound {T : TypeId} {ti : TInfo} (hT : RowOk P T ti) {x i : SV} {vx vi : Value} (hx : D (dmOf H) ρ x vx) (hi : D (dmOf H) ρ i vi) {d : Delta} {rs rs' : List Nat}
    (h : (indexOp ti x i).run H rs = some (d, rs')) (hp : AllP d.pre) : d.ws = [] ∧ ∃ v, (Instr.index T vx vi).run P w = .ok v w ∧ D (dmOf H) ρ d.v v := by
  unfold indexOp at h
  split at h
  · rename_i k m ex l k' a n k2 ht
    simp only [D] at hx hi
    obtain ⟨h1, h2, rfl⟩ := hx
    obtain ⟨rfl, ha⟩ := hi
    split at h
    · rename_i p hnm hb
      have hnm' := Nat.eq_of_beq_eq_true hnm
      have hty' := hT.ty
      rw [ht] at hty'
      unfold tyB at hty'
      split at hty'
      · rename_i n' T' hu
        simp only [Bool.and_eq_true] at hty'
        obtain ⟨⟨e1, e2⟩, e3⟩ := hty'
        have hn := Nat.eq_of_beq_eq_true e1
        split at e2
        · rename_i ii hii
          have hs : ii.size = 1 := Nat.eq_of_beq_eq_true e2
          obtain ⟨dd, hdd, hrow⟩ := tyB_row e3
          have hagg : (isAgg T').run P w = .ok false w := by rw [isAgg_run hdd w, hrow]; rfl
          have main : ∀ z : Int, 0 ≤ z → z < (n : Int) → (Instr.index T (.agg (l.map (Value.int k)).toArray) (.int k' z)).run P w = .ok (.int k (l.getD z.toNat 0)) w := fun z h0 h3 => by
            have hz : z.toNat < l.length := by omega
            have hlt : 0 ≤ z ∧ z < (n' : Int) := ⟨h0, by omega⟩
            simp [Instr.index, asIntOf, run_underlying hu, hlt, sizeOf, typeInfo, hii, hs, part, hagg, hz, List.getD]
          have hin : ∀ z : Int, 0 ≤ z → z < (n : Int) → InR k (l.getD z.toNat 0) := fun z h0 h3 => by
            have hz : z.toNat < l.length := by omega
            have : l.getD z.toNat 0 = l[z.toNat] := by simp [List.getD, hz]
            rw [this]; exact h2.at hz
          split at h
          · rename_i j
            split at h
            · rename_i z hz
              have e := run_ret h; subst e
              obtain ⟨b1, b2⟩ := bound_ok hb hp
              simp only at b1 b2
              have hj : j < l.length := by have : (j : Int) < (n : Int) := b2; omega
              have hzz := getI_some hz hj
              refine ⟨rfl, _, main _ b1 b2, ?_⟩
              have : l.getD (Int.toNat (Int.ofNat j)) 0 = z := by simp [List.getD, hj, hzz]
              rw [this]
              exact ⟨rfl, by rw [hzz]; exact h2.at hj⟩
            · simp [RP.run] at h
          · simp [RP.run] at h
          · rename_i z
            have e := run_ret h; subst e
            obtain ⟨b1, b2⟩ := bound_ok hb hp
            exact ⟨rfl, _, main z b1 b2, rfl, hin z b1 b2⟩
        · cases e2
      · cases hty'
    · simp [RP.run] at h
  · rename_i v k a ht
    simp only [D] at hx hi
    obtain ⟨rfl, _⟩ := hx
    obtain ⟨rfl, ha⟩ := hi
    have e := run_ret h; subst e
    obtain ⟨b1, b2⟩ := hp.1
    have hty' := hT.ty
    rw [ht] at hty'
    unfold tyB at hty'
    split at hty'
    · rename_i hu
      have hz : a.z.toNat < v.size := by omega
      have hz' : a.z.toNat < v.data.size := hz
      have hget : v[a.z.toNat]? = some (v.data[a.z.toNat]) := by
        rw [getElem?_pos v a.z.toNat hz]; rfl
      refine ⟨rfl, .int .u8 (v.data[a.z.toNat].toNat), ?_, ?_, ?_⟩
      · simp [Instr.index, asIntOf, run_underlying hu, b1, hget]
      · have : v.data.getD a.z.toNat 0 = v.data[a.z.toNat] := by unfold Array.getD; exact dif_pos hz'
        rw [this]
      · have := UInt8.toNat_lt (v.data.getD a.z.toNat 0)
        show 0 ≤ ((v.data.getD a.z.toNat 0).toNat : Int) ∧ ((v.data.getD a.z.toNat 0).toNat : Int) < 256
        omega
    · cases hty'
  · simp [RP.run] at h

theorem extract_sound {x v : SV} {vx : Value} {n : Nat} {xs : List SV} (hx : D (dmOf H) ρ (.tup xs) vx) (hn : nth xs n = some v) : ∃ u, (Instr.extract vx n).run P w = .ok u w ∧ D (dmOf H) ρ v u := by
  simp only [D] at hx
  obtain ⟨vs, h1, rfl⟩ := hx
  have key : ∀ (xs : List SV) (vs : List Value) (n : Nat), Ds (dmOf H) ρ xs vs → nth xs n = some v → ∃ u, vs[n]? = some u ∧ D (dmOf H) ρ v u := by
    intro xs
    induction xs with
    | nil => intro vs n _ h; simp [nth] at h
    | cons y r ih =>
      intro vs n hd h
      simp only [Ds] at hd
      obtain ⟨u, c, a1, rfl, a3⟩ := hd
      cases n with
      | zero => simp only [nth, Option.some.injEq] at h; subst h; exact ⟨u, rfl, a1⟩
      | succ n =>
        simp only [nth] at h
        obtain ⟨u', b1, b2⟩ := ih c n a3 h
        exact ⟨u', by simpa using b1, b2⟩
  obtain ⟨u, h2, h3⟩ := key xs vs n h1 hn
  exact ⟨u, by simp [Instr.extract, h2], h3⟩

theorem len_sound {T : TypeId} {ti : TInfo} (hT : RowOk P T ti) {x : SV} {vx : Value} (hx : D (dmOf H) ρ x vx) {d : Delta} {rs rs' : List Nat}
    (h : (lenOp ti x).run H rs = some (d, rs')) (ty : TypeId) (ats : Array TypeId) (ha : ats[0]? = some T) : d.ws = [] ∧ ∃ v, (Builtin.len_ ats ty #[vx]).run P w = .ok v w ∧ D (dmOf H) ρ d.v v := by
  unfold lenOp at h
  split at h
  · rename_i a hl
    have e := run_ret h; subst e
    have hty' := hT.ty
    unfold lenOf at hl
    split at hl
    · rename_i len ht
      simp only [Option.some.injEq] at hl; subst hl
      simp only [D] at hx
      obtain ⟨_, _, h2, h3, ad, cap, rfl, _⟩ := hx
      rw [ht] at hty'
      unfold tyB at hty'
      split at hty'
      · rename_i e hu
        refine ⟨rfl, .int .i64 len.z, ?_, rfl, h3⟩
        have : max len.z 0 = len.z := by omega
        simp [Builtin.len_, ha, run_underlying hu, goInt, this]
      · cases hty'
    · rename_i ht
      simp only [Option.some.injEq] at hl; subst hl
      simp only [D] at hx
      subst hx
      rw [ht] at hty'
      unfold tyB at hty'
      split at hty'
      · rename_i e hu
        exact ⟨rfl, .int .i64 0, by simp [Builtin.len_, ha, run_underlying hu, goInt], rfl, by simp [InR]⟩
      · cases hty'
    · rename_i _ sh dd ht
      simp only [Option.some.injEq] at hl; subst hl
      simp only [D] at hx
      obtain ⟨_, _, _, ad, cap, rfl, _, h3, _⟩ := hx
      rw [ht] at hty'
      unfold tyB at hty'
      split at hty'
      · rename_i e hu
        exact ⟨rfl, .int .i64 (roLen sh dd : Int), by simp [Builtin.len_, ha, run_underlying hu, goInt], rfl, by simp only [InR]; omega⟩
      · cases hty'
    · rename_i v ht
      simp only [Option.some.injEq] at hl; subst hl
      simp only [D] at hx
      obtain ⟨rfl, hb⟩ := hx
      rw [ht] at hty'
      unfold tyB at hty'
      split at hty'
      · rename_i hu
        exact ⟨rfl, .int .i64 v.size, by simp [Builtin.len_, ha, run_underlying hu, goInt], rfl, by simp only [InR]; omega⟩
      · cases hty'
    · rename_i n e ht
      split at hl
      · rename_i hn
        simp only [Option.some.injEq] at hl; subst hl
        rw [ht] at hty'
        unfold tyB at hty'
        split at hty'
        · rename_i n' T' hu
          simp only [Bool.and_eq_true] at hty'
          have hnn := Nat.eq_of_beq_eq_true hty'.1.1
          have hlt := Nat.le_of_ble_eq_true hn
          refine ⟨rfl, .int .i64 n, ?_, rfl, by simp only [InR]; omega⟩
          have hval : (Builtin.len_ ats ty #[vx]).run P w = .ok (goInt n') w := by
            cases vx <;> simp [Builtin.len_, ha, run_underlying hu]
          rw [hval, ← hnn]; rfl
        · cases hty'
      · cases hl
    · cases hl
  · simp [RP.run] at h

theorem sliceBounds_run {P : Program} {w : World} (b : Bool) (len cap : Nat) (l h : SI) (lo hi : Option Value) (hl : (lo = none ∧ l.z = 0) ∨ ∃ k, lo = some (.int k l.z)) (hh : (hi = none ∧ h.z = len) ∨ ∃ k, hi = some (.int k h.z))
    (h0 : 0 ≤ l.z) (h1 : l.z ≤ h.z) (h2 : h.z ≤ cap) : (Instr.sliceBounds b len cap lo hi none).run P w = .ok (l.z.toNat, h.z.toNat, cap) w := by
  have hb : ∀ (k : IntKind) (z : Int) (y : Nat) (c : BoundsCode), 0 ≤ z → z ≤ y → (Instr.sliceBound (.int k z) y c).run P w = .ok z.toNat w := fun k z y c a1 a2 => by
    simp [Instr.sliceBound, asIntOf, a1, a2]
  have e1 : l.z ≤ ((h.z.toNat : Nat) : Int) := by omega
  unfold Instr.sliceBounds
  rcases hl with ⟨rfl, e⟩ | ⟨k, rfl⟩ <;> rcases hh with ⟨rfl, e'⟩ | ⟨k', rfl⟩
  · simp [e, e']
  · simp [e, hb k' h.z cap _ (by omega) h2]
  · have := hb k l.z len .sliceB h0 (by omega)
    simp [e', this]
  · simp [hb k' h.z cap _ (by omega) h2, hb k l.z h.z.toNat .sliceB h0 e1]

end
end Go.Gx
