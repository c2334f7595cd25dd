/- Every operation: what it comes to. -/
import Derived.Test.YtihihilhfijloaaDoorOpsK
import Derived.BigFrame
namespace Go.Gx
open Go.RowKit
set_option linter.unusedVariables false

section
variable {P : Program} {w0 : World} {M : Nat → Prop} {ρ : Nat → Pl} {H : Nat → Option SB} {w : World}

theorem int_of {T : TypeId} {ti : TInfo} {k : IntKind} (hT : RowOk P T ti) (ht : ti.ty = .int k) : P.underlying T = some (.int k) := by
  have h1 := hT.ty
  rw [ht] at h1
  unfold tyB at h1
  split at h1
  · rename_i k' hu; rw [hu, keq_eq h1]
  · cases h1
theorem bool_of {T : TypeId} {ti : TInfo} (hT : RowOk P T ti) (ht : ti.ty = .bool) : P.underlying T = some .bool := by
  have h1 := hT.ty
  rw [ht] at h1
  unfold tyB at h1
  split at h1
  · rename_i hu; exact hu
  · cases h1
theorem ptr_of {T : TypeId} {ti : TInfo} (hT : RowOk P T ti) (ht : ti.ty = .ptr) : ∃ e, P.underlying T = some (.pointer e) := by
  have h1 := hT.ty
  rw [ht] at h1
  unfold tyB at h1
  split at h1
  · rename_i e hu; exact ⟨_, hu⟩
  · cases h1

theorem equalIn_bool {t : TypeId} (hu : P.underlying t = some .bool) (d : Nat) (a c : Bool) : (Op.equalIn (d + 1) t (.bool a) (.bool c)).run P w = .ok (a == c) w := by
  simp [Op.equalIn, run_underlying hu]
theorem equalIn_ptr {t e : TypeId} (hu : P.underlying t = some (.pointer e)) (d : Nat) (a : Option Addr) : (Op.equalIn (d + 1) t (.pointer a) (.pointer none)).run P w = .ok a.isNone w := by
  cases a <;> simp [Op.equalIn, run_underlying hu]

theorem binop_sound {ty : List (Nat × TInfo)} (hty : tabB P ty = true) {op : BinOp} {t : TypeId} {x y : SV} {vx vy : Value} {ox oy : Operand} (hx : D (dmOf H) ρ x vx) (hy : D (dmOf H) ρ y vy)
    {d : Delta} {rs rs' : List Nat} (h : (binop ty op t x y).run H rs = some (d, rs')) (hp : AllP d.pre) :
    d.ws = [] ∧ ∃ v, (do eqGuard op t ox oy vx vy; binOp op t vx vy : Sem Value).run P w = .ok v w ∧ D (dmOf H) ρ d.v v := by
  have both : ∀ {v : Value}, ((∀ c, vx ≠ .agg c) ∨ (∀ c, vy ≠ .agg c)) → (vx ≠ .nilIface ∨ vy ≠ .nilIface) → (binOp op t vx vy).run P w = .ok v w →
      (do eqGuard op t ox oy vx vy; binOp op t vx vy : Sem Value).run P w = .ok v w := fun h1 h2 h3 => by
    rw [Sem.run_bind, eqGuard_other (w := w) ox oy h1 h2]; exact h3
  have eqs : ∀ {b : Bool} {x y : Value}, (∀ op : BinOp, op = .eql ∨ op = .neq → binOp op t x y = (match op with | .eql => (do pure (.bool (← Op.equal t x y))) | _ => (do pure (.bool (!(← Op.equal t x y)))))) →
      (Op.equal t x y).run P w = .ok b w → d.ws = [] ∧ ((op = .eql ∧ D (dmOf H) ρ d.v (.bool b)) ∨ (op = .neq ∧ D (dmOf H) ρ d.v (.bool (!b)))) →
      d.ws = [] ∧ ∃ v, (binOp op t x y).run P w = .ok v w ∧ D (dmOf H) ρ d.v v := fun hb hr hd => by
    refine ⟨hd.1, ?_⟩
    rcases hd.2 with ⟨ho, hd2⟩ | ⟨ho, hd2⟩
    · exact ⟨_, eql_of_equal w hb hr (.inl ho), by rw [if_pos ho]; exact hd2⟩
    · exact ⟨_, eql_of_equal w hb hr (.inr ho), by rw [if_neg (by rw [ho]; decide)]; exact hd2⟩
  unfold binop at h
  split at h
  · rename_i k a k' c
    simp only [D] at hx hy
    obtain ⟨rfl, hr⟩ := hx
    obtain ⟨rfl, _⟩ := hy
    split at h
    · rename_i hk
      simp only [Bool.or_eq_true] at hk
      obtain ⟨h1, v, h2, h3⟩ := numOp_sound (P := P) w t h hp (hk.imp id keq_eq) hr
      exact ⟨h1, v, both (.inl fun c => by simp) (.inl (by simp)) h2, h3⟩
    · simp [RP.run] at h
  · rename_i a _ c
    split at h
    · rename_i ti hti
      have hT := rowB_ok (tabB_row hty hti)
      split at h
      · rename_i hb
        have hu := bool_of hT hb
        simp only [D] at hx hy
        subst hx hy
        obtain ⟨h1, v, h2, h3⟩ := eqs (x := .bool a) (y := .bool c) (fun op ho => by rcases ho with rfl | rfl <;> rfl) (equalIn_bool hu 9999 a c) (eqOp_sound h)
        exact ⟨h1, v, both (.inl fun c => by simp) (.inl (by simp)) h2, h3⟩
      · simp [RP.run] at h
    · simp [RP.run] at h
  · rename_i a c
    simp only [D] at hx hy
    obtain ⟨rfl, _⟩ := hx
    obtain ⟨rfl, _⟩ := hy
    obtain ⟨h1, h2⟩ := eqOp_sound (ρ := ρ) (dm := dmOf H) h
    refine ⟨h1, ?_⟩
    rcases h2 with ⟨rfl, h2⟩ | ⟨rfl, h2⟩
    · exact ⟨_, both (.inl fun c => by simp) (.inl (by simp)) (by simp [binOp, Op.stringOp]), h2⟩
    · exact ⟨_, both (.inl fun c => by simp) (.inl (by simp)) (by simp [binOp, Op.stringOp]), h2⟩
  · rename_i k n ex a k' m ex' c
    split at h
    · rename_i ti hb hti
      simp only [Bool.and_eq_true] at hb
      have e1 := keq_eq hb.1
      have e2 := Nat.eq_of_beq_eq_true hb.2
      subst e1 e2
      have hT := rowB_ok (tabB_row hty hti)
      split at h
      · rename_i n' k2 ht
        split at h
        · rename_i hn
          have hn := Nat.eq_of_beq_eq_true hn
          subst hn
          have h1 := hT.ty
          rw [ht] at h1
          simp only [D] at hx hy
          obtain ⟨a1, a2, rfl⟩ := hx
          obtain ⟨c1, c2, rfl⟩ := hy
          obtain ⟨q1, v, q2, q3⟩ := eqs (x := .agg (a.map (Value.int k)).toArray) (y := .agg (c.map (Value.int k)).toArray) (fun op ho => by rcases ho with rfl | rfl <;> rfl) (equal_arr w h1 a1 c1) (eqOp_sound h)
          refine ⟨q1, v, ?_, q3⟩
          rw [Sem.run_bind, eqGuard_arr w h1]; exact q2
        · simp [RP.run] at h
      · simp [RP.run] at h
    · simp [RP.run] at h
  · rename_i key c
    split at h
    · rename_i ti hti
      have hT := rowB_ok (tabB_row hty hti)
      split at h
      · rename_i hb
        obtain ⟨e, hu⟩ := ptr_of hT hb
        simp only [D] at hx hy
        obtain ⟨_, rfl⟩ := hx
        subst hy
        obtain ⟨h1, v, h2, h3⟩ := eqs (x := .pointer (some (at_ (ρ key) c))) (y := .pointer none) (fun op ho => by rcases ho with rfl | rfl <;> rfl) (equalIn_ptr hu 9999 _) (eqSt_sound h)
        exact ⟨h1, v, both (.inl fun c => by simp) (.inl (by simp)) h2, h3⟩
      · simp [RP.run] at h
    · simp [RP.run] at h
  · split at h
    · rename_i ti hti
      have hT := rowB_ok (tabB_row hty hti)
      split at h
      · rename_i hb
        obtain ⟨e, hu⟩ := ptr_of hT hb
        simp only [D] at hx hy
        subst hx hy
        obtain ⟨h1, v, h2, h3⟩ := eqs (x := .pointer none) (y := .pointer none) (fun op ho => by rcases ho with rfl | rfl <;> rfl) (equalIn_ptr hu 9999 _) (eqSt_sound h)
        exact ⟨h1, v, both (.inl fun c => by simp) (.inl (by simp)) h2, h3⟩
      · simp [RP.run] at h
    · simp [RP.run] at h
  · simp [RP.run] at h

theorem unop_sound {op : UnOp} {x : SV} {vx : Value} (hx : D (dmOf H) ρ x vx) {d : Delta} {rs rs' : List Nat} (h : (unop op x).run H rs = some (d, rs')) (hp : AllP d.pre) :
    d.ws = [] ∧ ∃ v, (Op.unary op vx).run P w = .ok v w ∧ D (dmOf H) ρ d.v v := by
  unfold unop at h
  split at h
  · simp only [D] at hx
    subst hx
    split at h <;> (have e := run_ret h; subst e; exact ⟨rfl, _, rfl, rfl⟩)
  · simp only [D] at hx
    subst hx
    have e := run_ret h; subst e; exact ⟨rfl, _, rfl, rfl⟩
  · rename_i k a
    simp only [D] at hx
    obtain ⟨rfl, hr⟩ := hx
    obtain ⟨h1, v, h2, h3⟩ := numOp_sound (P := P) (ρ := ρ) (dm := dmOf H) w 0 h hp (.inr rfl) (x := ⟨true, 0⟩) (inR_zero k)
    exact ⟨h1, v, by rw [← h2]; simp [Op.unary, binOp], h3⟩
  · rename_i k a
    simp only [D] at hx
    obtain ⟨rfl, hr⟩ := hx
    have e := run_ret h; subst e
    exact ⟨rfl, .int k (notI k a.z), by simp [Op.unary, Op.intBits, notI, xorI], rfl, inR_wrap _ _⟩
  · simp [RP.run] at h

theorem arrPtr_sound {T : TypeId} {ti : TInfo} (hT : RowOk P T ti) {x : SV} {vx : Value} (hx : D (dmOf H) ρ x vx) {d : Delta} {rs rs' : List Nat} (h : (arrPtrOp ti x).run H rs = some (d, rs')) (hp : AllP d.pre) :
    d.ws = [] ∧ ∃ v, (Instr.arrayAt T vx).run P w = .ok v w ∧ D (dmOf H) ρ d.v v := by
  unfold arrPtrOp at h
  split at h
  · rename_i key c est off len n e ht
    split at h
    · rename_i v hb hv
      have e := run_ret h; subst e
      simp only [Bool.and_eq_true] at hb
      have e1 := Nat.eq_of_beq_eq_true hb.1
      have e2 : 0 < n := by have := hb.2; simp [Nat.blt] at this; omega
      have hle := hp.1
      simp only [D] at hx
      obtain ⟨hk, ho, hl, hr, ad, cap, rfl, hlc, hdis⟩ := hx
      have h1 := hT.ty
      rw [ht] at h1
      unfold tyB at h1
      split at h1
      · rename_i n' T' hu
        simp only [Bool.and_eq_true] at h1
        have hn := Nat.eq_of_beq_eq_true h1.1.1
        subst hn
        rcases hdis with ⟨rfl, hcap⟩ | ⟨d1, d2⟩
        · refine ⟨rfl, .pointer (some (at_ (ρ key) (c + est * off.z.toNat))), ?_, ptrAt_sound hv hk ho⟩
          have : ¬ (len.z.toNat < n) := by omega
          simp [Instr.arrayAt, run_underlying hu, this]
        · omega
      · cases h1
    · simp [RP.run] at h
  · simp [RP.run] at h

end
end Go.Gx
