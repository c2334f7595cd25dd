/- Operations on numbers, bools and texts: the model's answer is what the evaluator says. -/
import Derived.Test.YtihihilhfijloaaDoorTyOk
namespace Go.Gx
open Go.RowKit
set_option linter.unusedVariables false

def AllP : List Prop → Prop
  | [] => True
  | p :: r => p ∧ AllP r

theorem AllP.append : ∀ {l r : List Prop}, AllP (l ++ r) → AllP l ∧ AllP r
  | [], r, h => ⟨trivial, h⟩
  | p :: l, r, h => ⟨⟨h.1, (AllP.append h.2).1⟩, (AllP.append h.2).2⟩

theorem inR_wrap (k : IntKind) (x : Int) : InR k (k.wrap x) := by
  cases k <;> simp [InR, IntKind.wrap, IntKind.signed, IntKind.bits] <;> (try split) <;> omega

theorem inR_tmod {k : IntKind} {x y : Int} (h : InR k x) : InR k (x.tmod y) := by
  have h1 : (x.tmod y).natAbs ≤ x.natAbs := by rw [Int.natAbs_tmod]; exact Nat.mod_le _ _
  rcases Int.le_total 0 x with hx | hx
  · have h2 : 0 ≤ x.tmod y := Int.tmod_nonneg y hx
    cases k <;> simp only [InR] at h ⊢ <;> omega
  · have h2 : x.tmod y ≤ 0 := by
      have := Int.tmod_nonneg y (a := -x) (by omega)
      rw [Int.neg_tmod] at this; omega
    cases k <;> simp only [InR] at h ⊢ <;> omega

theorem fdiv_bounds {x d : Int} (hd : 1 ≤ d) : (0 ≤ x → 0 ≤ x.fdiv d ∧ x.fdiv d ≤ x) ∧ (x < 0 → x ≤ x.fdiv d ∧ x.fdiv d < 0) := by
  rw [Int.fdiv_eq_ediv_of_nonneg x (by omega)]
  refine ⟨fun h => ⟨Int.ediv_nonneg h (by omega), ?_⟩, fun h => ⟨?_, Int.ediv_neg_of_neg_of_pos h (by omega)⟩⟩
  · exact Int.ediv_le_self d h
  · have := Int.mul_ediv_self_le (x := x) (k := d) (by omega)
    have h3 : x < d * (x / d) + d := Int.lt_mul_ediv_self_add (by omega)
    rcases Int.lt_or_le (x / d) x with h4 | h4
    · exfalso
      have h5 : x / d + 1 ≤ x := by omega
      have h6 : d * (x / d + 1) ≤ d * x := Int.mul_le_mul_of_nonneg_left h5 (by omega)
      have h7 : d * x ≤ 1 * x := Int.mul_le_mul_of_nonpos_right hd (by omega)
      rw [Int.mul_add, Int.mul_one] at h6
      omega
    · exact h4

theorem inR_shr {k : IntKind} {x : Int} (n : Nat) (h : InR k x) : InR k (x.fdiv (2 ^ n)) := by
  have h1 : (1 : Int) ≤ 2 ^ n := by
    have : (0 : Int) < 2 ^ n := Int.pow_pos (by omega)
    omega
  have h2 := (fdiv_bounds (x := x) h1).1
  have h3 := (fdiv_bounds (x := x) h1).2
  generalize x.fdiv (2 ^ n) = q at *
  rcases Int.lt_or_le x 0 with hx | hx
  · have := h3 hx; cases k <;> simp only [InR] at h ⊢ <;> omega
  · have := h2 hx; cases k <;> simp only [InR] at h ⊢ <;> omega

theorem litI_eq (z : Int) : litI z = z := by
  unfold litI
  split <;> rfl

theorem InRb_iff {k : IntKind} {z : Int} (h : numOp.InRb k z = true) : InR k z := by
  cases k <;> simp [numOp.InRb] at h <;> simp [InR] <;> omega

theorem tst_some {b : Bool} {l : List Prop} (h : tst b = some l) : b = true ∧ l = [] := by
  cases b <;> simp [tst] at h
  exact ⟨rfl, h⟩

theorem bound_ok {a n : SI} {l : List Prop} (h : bound a n = some l) (hp : AllP l) : 0 ≤ a.z ∧ a.z < n.z := by
  unfold bound at h
  split at h
  · have := (tst_some h).1
    simpa using this
  · simp only [Option.some.injEq] at h; subst h; exact hp.1

theorem bounds3_ok {a b n : SI} {l : List Prop} (h : bounds3 a b n = some l) (hp : AllP l) : 0 ≤ a.z ∧ a.z ≤ b.z ∧ b.z ≤ n.z := by
  unfold bounds3 at h
  split at h
  · have := (tst_some h).1
    simp at this; omega
  · simp only [Option.some.injEq] at h; subst h; exact hp.1

theorem run_ret {H : Nat → Option SB} {x : Delta} {rs rs' : List Nat} {d : Delta} (h : (RP.ret x).run H rs = some (d, rs')) : d = x := by
  simp only [RP.run, Option.some.injEq, Prod.mk.injEq] at h; exact h.1.symm

/-- The model's arithmetic. -/
theorem arith_run {P : Program} (w : World) {op : BinOp} {k : IntKind} {x y z : Int} {yk : IntKind} (t : TypeId) (hk : isShift op = true ∨ k = yk) (hc : cmp op x y = none) (h : arith op k x y = some z)
    (hq : op = .quo ∨ op = .rem → y ≠ 0) (hs : isShift op = true → 0 ≤ y) (hx : InR k x) : (binOp op t (.int k x) (.int yk y)).run P w = .ok (.int k z) w ∧ InR k z := by
  cases op <;> simp only [arith, Option.some.injEq, reduceCtorEq] at h <;> simp only [isShift, Bool.false_eq_true, false_or, true_or] at hk <;> (try subst hk) <;> subst h
  case add => exact ⟨by simp [binOp, Op.intArith], inR_wrap _ _⟩
  case sub => exact ⟨by simp [binOp, Op.intArith], inR_wrap _ _⟩
  case mul => exact ⟨by simp [binOp, Op.intArith], inR_wrap _ _⟩
  case quo => exact ⟨by simp [binOp, Op.intDiv, hq (.inl rfl)], inR_wrap _ _⟩
  case rem => exact ⟨by simp [binOp, Op.intDiv, hq (.inr rfl)], inR_tmod hx⟩
  case and => exact ⟨by simp [binOp, Op.intBits, andI], inR_wrap _ _⟩
  case or => exact ⟨by simp [binOp, Op.intBits, orI], inR_wrap _ _⟩
  case xor => exact ⟨by simp [binOp, Op.intBits, xorI], inR_wrap _ _⟩
  case andNot => exact ⟨by simp [binOp, Op.intBits, andNotI], inR_wrap _ _⟩
  case shl => exact ⟨by have := hs rfl; simp [binOp, Op.shift, shlI, Int.not_lt.2 this], inR_wrap _ _⟩
  case shr => exact ⟨by have := hs rfl; simp [binOp, Op.shift, shrI, Int.not_lt.2 this], inR_shr _ hx⟩

theorem cmp_run {P : Program} (w : World) {op : BinOp} {k : IntKind} {x y : Int} {b : Bool} (t : TypeId) (h : cmp op x y = some b) : (binOp op t (.int k x) (.int k y)).run P w = .ok (.bool b) w := by
  cases op <;> simp only [cmp, Option.some.injEq, reduceCtorEq] at h <;> subst h <;> simp [binOp, Op.intCmp]

theorem isShift_cmp {op : BinOp} {x y : Int} (h : isShift op = true) : cmp op x y = none := by cases op <;> simp [isShift] at h <;> rfl

theorem numOp_sound {P : Program} (w : World) {H : Nat → Option SB} {dm : Nat → Prop} {ρ : Nat → Pl} {op : BinOp} {k yk : IntKind} {x y : SI} {rs rs' : List Nat} {d : Delta} (t : TypeId)
    (hr : (numOp op k x y).run H rs = some (d, rs')) (hp : AllP d.pre) (hk : isShift op = true ∨ k = yk) (hx : InR k x.z) :
    d.ws = [] ∧ ∃ v, (binOp op t (.int k x.z) (.int yk y.z)).run P w = .ok v w ∧ D dm ρ d.v v := by
  unfold numOp at hr
  cases hc : cmp op x.z y.z with
  | some b =>
    have hk' : k = yk := by
      rcases hk with h | h
      · rw [isShift_cmp h] at hc; cases hc
      · exact h
    subst hk'
    simp only [hc] at hr
    have hrun := cmp_run (P := P) w (k := k) t hc
    split at hr
    · split at hr <;> (have e := run_ret hr; subst e; exact ⟨rfl, _, hrun, rfl⟩)
    · have e := run_ret hr; subst e; exact ⟨rfl, _, hrun, rfl⟩
  | none =>
    simp only [hc] at hr
    cases ha : arithPre op y with
    | none => simp [ha, RP.run] at hr
    | some pre =>
      cases hz : arith op k x.z y.z with
      | none => simp [ha, hz, RP.run] at hr
      | some z =>
        simp only [ha, hz] at hr
        have main : AllP pre → (binOp op t (.int k x.z) (.int yk y.z)).run P w = .ok (.int k z) w ∧ InR k z := fun hpre => by
          refine arith_run w t hk hc hz (fun ho => ?_) (fun ho => ?_) hx
          · have : arithPre op y = (match y.st with | true => tst (y.z != 0) | false => some [y.z ≠ 0]) := by rcases ho with rfl | rfl <;> rfl
            rw [this] at ha
            split at ha
            · have := (tst_some ha).1; simpa using this
            · simp only [Option.some.injEq] at ha; subst ha; exact hpre.1
          · have : arithPre op y = (match y.st with | true => tst (decide (0 ≤ y.z)) | false => some [0 ≤ y.z]) := by cases op <;> simp [isShift] at ho <;> rfl
            rw [this] at ha
            split at ha
            · have := (tst_some ha).1; simpa using this
            · simp only [Option.some.injEq] at ha; subst ha; exact hpre.1
        split at hr
        · split at hr
          · rename_i hb
            have e := run_ret hr; subst e
            obtain ⟨h1, h2⟩ := main hp
            exact ⟨rfl, _, h1, by simp only [D, litI_eq]; exact ⟨trivial, InRb_iff hb⟩⟩
          · simp [RP.run] at hr
        · have e := run_ret hr; subst e
          obtain ⟨h1, h2⟩ := main hp
          exact ⟨rfl, _, h1, rfl, h2⟩

theorem eqOp_sound {H : Nat → Option SB} {dm : Nat → Prop} {ρ : Nat → Pl} {op : BinOp} {b : Bool} {rs rs' : List Nat} {d : Delta} (hr : (eqOp op b).run H rs = some (d, rs')) :
    d.ws = [] ∧ ((op = .eql ∧ D dm ρ d.v (.bool b)) ∨ (op = .neq ∧ D dm ρ d.v (.bool (!b)))) := by
  unfold eqOp at hr
  split at hr
  · have e := run_ret hr; subst e; exact ⟨rfl, .inl ⟨rfl, rfl⟩⟩
  · have e := run_ret hr; subst e; exact ⟨rfl, .inr ⟨rfl, rfl⟩⟩
  · simp [RP.run] at hr

theorem eqSt_sound {H : Nat → Option SB} {dm : Nat → Prop} {ρ : Nat → Pl} {op : BinOp} {b : Bool} {rs rs' : List Nat} {d : Delta} (hr : (eqSt op b).run H rs = some (d, rs')) :
    d.ws = [] ∧ ((op = .eql ∧ D dm ρ d.v (.bool b)) ∨ (op = .neq ∧ D dm ρ d.v (.bool (!b)))) := by
  unfold eqSt at hr
  split at hr <;> first
    | (have e := run_ret hr; subst e; exact ⟨rfl, .inl ⟨rfl, rfl⟩⟩)
    | (have e := run_ret hr; subst e; exact ⟨rfl, .inr ⟨rfl, rfl⟩⟩)
    | (simp [RP.run] at hr)

/-- '==' and '!=' off 'equal'. -/
theorem eql_of_equal {P : Program} (w : World) {t : TypeId} {x y : Value} {b : Bool} (hb : ∀ op : BinOp, op = .eql ∨ op = .neq → binOp op t x y = (match op with | .eql => (do pure (.bool (← Op.equal t x y))) | _ => (do pure (.bool (!(← Op.equal t x y))))))
    (h : (Op.equal t x y).run P w = .ok b w) {op : BinOp} (ho : (op = .eql) ∨ (op = .neq)) : (binOp op t x y).run P w = .ok (.bool (if op = .eql then b else !b)) w := by
  rw [hb op ho]
  rcases ho with rfl | rfl <;> simp [h]

theorem eqItems_run {P : Program} (w : World) {d : Nat} {e : TypeId} {k k2 : IntKind} (hu : P.underlying e = some (.int k2)) (hpk : P.cellsOf e = 1) (xs ys : List Int) : ∀ (is : List Nat), (∀ i ∈ is, i < xs.length ∧ i < ys.length) →
    (Op.eqItems (d + 1) e 1 (xs.map (Value.int k)).toArray (ys.map (Value.int k)).toArray is).run P w = .ok (is.all fun i => xs.getD i 0 == ys.getD i 0) w
  | [], _ => rfl
  | i :: is, h => by
    have ih := eqItems_run w (d := d) (k := k) hu hpk xs ys is (fun j hj => h j (by simp [hj]))
    obtain ⟨h1, h2⟩ := h i (by simp)
    have hp : ∀ (l : List Int), i < l.length → (part e (l.map (Value.int k)).toArray (i * 1)).run P w = .ok (.int k (l.getD i 0)) w := fun l hl => by
      have ha : (isAgg e).run P w = .ok false w := by simp [isAgg, run_underlying hu]
      simp [part, ha, hl, List.getD]
    simp only [Op.eqItems, Sem.run_bind, hp xs h1, hp ys h2, Result.andThen_ok, run_equalIn_int w d e k k2 _ _ hu, List.all_cons]
    by_cases hh : (xs.getD i 0 == ys.getD i 0) = true
    · simp only [hh, Bool.true_and]; simpa using ih
    · simp only [Bool.not_eq_true] at hh; simp only [hh, Bool.false_and]; simp

theorem all_getD (xs ys : List Int) (n : Nat) (hx : xs.length = n) (hy : ys.length = n) : ((List.range n).all fun i => xs.getD i 0 == ys.getD i 0) = (xs == ys) := by
  rw [Bool.eq_iff_iff]
  simp only [List.all_eq_true, List.mem_range, beq_iff_eq]
  constructor
  · intro h
    apply List.ext_getElem (by omega)
    intro i h1 h2
    have := h i (by omega)
    simpa [List.getD, h1, h2] using this
  · rintro rfl i hi; rfl

theorem equal_arr {P : Program} (w : World) {t : TypeId} {n : Nat} {k k2 : IntKind} {a c : List Int} (ht : tyB P (.arr n (.int k2)) t = true) (ha : a.length = n) (hc : c.length = n) :
    (Op.equal t (.agg (a.map (Value.int k)).toArray) (.agg (c.map (Value.int k)).toArray)).run P w = .ok (a == c) w := by
  unfold tyB at ht
  split at ht
  · rename_i n' T' hu
    simp only [Bool.and_eq_true] at ht
    obtain ⟨⟨e1, e2⟩, e3⟩ := ht
    have hn := Nat.eq_of_beq_eq_true e1
    split at e2
    · rename_i i hi
      have hs : i.size = 1 := Nat.eq_of_beq_eq_true e2
      unfold tyB at e3
      split at e3
      · rename_i k' hu'
        have hk' := keq_eq e3
        show (Op.equalIn (9999 + 1) t _ _).run P w = _
        rw [run_equalIn_array w 9999 _ _ hu hi]
        have hpc : P.cellsOf T' = 1 := by simp [Program.cellsOf, hi, hs]
        rw [hpc, ← hn]
        rw [show (9999 : Nat) = 9998 + 1 from rfl, eqItems_run w hu' hpc a c (List.range n) (fun j hj => by simp at hj; omega), all_getD a c n ha hc]
      · cases e3
    · cases e2
  · cases ht

/-- Nothing stands in the way of a comparison of arrays of numbers. -/
theorem eqGuard_arr {P : Program} (w : World) {op : BinOp} {t : TypeId} {n : Nat} {k : IntKind} (ht : tyB P (.arr n (.int k)) t = true) (x y : Operand) (a b : Array Value) :
    (eqGuard op t x y (.agg a) (.agg b)).run P w = .ok () w := by
  have hg : P.eqGuardType P.depth t = false := by
    have hd : P.depth = (2 * (P.types.size + Made.depth)) + 1 + 1 := rfl
    unfold tyB at ht
    split at ht
    · rename_i n' T' hu
      simp only [Bool.and_eq_true] at ht
      have e3 := ht.2
      unfold tyB at e3
      split at e3
      · rename_i k' hu'
        rw [hd]
        simp [Program.eqGuardType, hu, hu']
      · cases e3
    · cases ht
  unfold eqGuard
  cases op <;> simp [hg]

theorem eqGuard_other {P : Program} (w : World) {op : BinOp} {t : TypeId} (x y : Operand) {a b : Value} (h : (∀ c, a ≠ .agg c) ∨ (∀ c, b ≠ .agg c)) (h2 : a ≠ .nilIface ∨ b ≠ .nilIface) :
    (eqGuard op t x y a b).run P w = .ok () w := by
  unfold eqGuard
  split <;> simp only [Bool.not_true, Bool.false_eq_true, if_false, Bool.not_false, if_true]
  · split
    · exact absurd rfl (by rcases h2 with h2 | h2 <;> exact h2)
    · rcases h with h | h <;> exact absurd rfl (h _)
    · rfl
  · split
    · exact absurd rfl (by rcases h2 with h2 | h2 <;> exact h2)
    · rcases h with h | h <;> exact absurd rfl (h _)
    · rfl
  · rfl

end Go.Gx
