/- Of ScalarSees, for every input and in every world that holds the program's table as its text lays it: the call returns true, its arguments read as before and nothing else old has turned. No condition besides. -/
import Derived.Test.YtnjcbedjhokfhaaDoorScN
namespace Go.Gx
open Go.Proofs Go.Sp Go.RowKit
set_option linter.unusedVariables false

def vc3 (a0 a1 a2 a3 b0 b1 b2 b3 i c : Int) (K : SV → Prop) (Q : Nat → List Pv → Prop) : Prop := fnVc Γ8 Tryd.f3 [] [.arr .u64 4 true [a0, a1, a2, a3], .arr .u64 4 true [b0, b1, b2, b3], .i .i64 ⟨false, i⟩, .i .i64 ⟨false, c⟩] gh K Q
theorem vc3_eq : ∀ (a0 a1 a2 a3 b0 b1 b2 b3 i c : Int) (K : SV → Prop) (Q : Nat → List Pv → Prop), vc3 a0 a1 a2 a3 b0 b1 b2 b3 i c K Q = ∀ (x1 : Int), x1 = w0 (val4 [a0, a1, a2, a3] % (7237005577332262213973186563042994240857116359379907606001950938285454250989 : Int)) → InR IntKind.u64 x1 → ∀ (x2 : Int), x2 = w1 (val4 [a0, a1, a2, a3] % (7237005577332262213973186563042994240857116359379907606001950938285454250989 : Int)) → InR IntKind.u64 x2 → ∀ (x3 : Int), x3 = w2 (val4 [a0, a1, a2, a3] % (7237005577332262213973186563042994240857116359379907606001950938285454250989 : Int)) → InR IntKind.u64 x3 → ∀ (x4 : Int), x4 = w3 (val4 [a0, a1, a2, a3] % (7237005577332262213973186563042994240857116359379907606001950938285454250989 : Int)) → InR IntKind.u64 x4 → ∀ (x5 : Int), x5 = w0 (val4 [b0, b1, b2, b3] % (7237005577332262213973186563042994240857116359379907606001950938285454250989 : Int)) → InR IntKind.u64 x5 → ∀ (x6 : Int), x6 = w1 (val4 [b0, b1, b2, b3] % (7237005577332262213973186563042994240857116359379907606001950938285454250989 : Int)) → InR IntKind.u64 x6 → ∀ (x7 : Int), x7 = w2 (val4 [b0, b1, b2, b3] % (7237005577332262213973186563042994240857116359379907606001950938285454250989 : Int)) → InR IntKind.u64 x7 → ∀ (x8 : Int), x8 = w3 (val4 [b0, b1, b2, b3] % (7237005577332262213973186563042994240857116359379907606001950938285454250989 : Int)) → InR IntKind.u64 x8 → ∀ (x9 : Bool), x9 = decide (val4 [a0, a1, a2, a3] % (7237005577332262213973186563042994240857116359379907606001950938285454250989 : Int) = val4 [b0, b1, b2, b3] % (7237005577332262213973186563042994240857116359379907606001950938285454250989 : Int)) → ∀ (x10 : Bool), x10 = ([x1, x2, x3, x4] == [x5, x6, x7, x8]) → ((!x9 == x10) = true → K (SV.b true false)) ∧ ((!x9 == x10) = false → ∀ (x11 : Bool), x11 = decide (val4 [a0, a1, a2, a3] % (7237005577332262213973186563042994240857116359379907606001950938285454250989 : Int) = (0 : Int)) → ∀ (x12 : Bool), x12 = ([x1, x2, x3, x4] == [(0 : Int), (0 : Int), (0 : Int), (0 : Int)]) → ((!x11 == x12) = true → K (SV.b true false)) ∧ ((!x11 == x12) = false → ∀ (x13 : Int), x13 = bitI (val4 [a0, a1, a2, a3] % (7237005577332262213973186563042994240857116359379907606001950938285454250989 : Int)) i → InR IntKind.i64 x13 → ∀ (x14 : Int), x14 = bitI (val4 [x1, x2, x3, x4]) i → InR IntKind.i64 x14 → ((x13 != x14) = true → K (SV.b true false)) ∧ ((x13 != x14) = false → ∀ (x15 : Bool), x15 = decide (val4 [a0, a1, a2, a3] % (7237005577332262213973186563042994240857116359379907606001950938285454250989 : Int) = val4 [a0, a1, a2, a3] % (7237005577332262213973186563042994240857116359379907606001950938285454250989 : Int)) → (x15 = true → ∀ (x16 : Int), x16 = w0 ((if c % (2 : Int) = (0 : Int) then val4 [b0, b1, b2, b3] else val4 [a0, a1, a2, a3]) % (7237005577332262213973186563042994240857116359379907606001950938285454250989 : Int)) → InR IntKind.u64 x16 → ∀ (x17 : Int), x17 = w1 ((if c % (2 : Int) = (0 : Int) then val4 [b0, b1, b2, b3] else val4 [a0, a1, a2, a3]) % (7237005577332262213973186563042994240857116359379907606001950938285454250989 : Int)) → InR IntKind.u64 x17 → ∀ (x18 : Int), x18 = w2 ((if c % (2 : Int) = (0 : Int) then val4 [b0, b1, b2, b3] else val4 [a0, a1, a2, a3]) % (7237005577332262213973186563042994240857116359379907606001950938285454250989 : Int)) → InR IntKind.u64 x18 → ∀ (x19 : Int), x19 = w3 ((if c % (2 : Int) = (0 : Int) then val4 [b0, b1, b2, b3] else val4 [a0, a1, a2, a3]) % (7237005577332262213973186563042994240857116359379907606001950938285454250989 : Int)) → InR IntKind.u64 x19 → ∀ (x20 : Int), x20 = selI c x1 x5 → InR IntKind.u64 x20 → ∀ (x21 : Int), x21 = selI c x2 x6 → InR IntKind.u64 x21 → ∀ (x22 : Int), x22 = selI c x3 x7 → InR IntKind.u64 x22 → ∀ (x23 : Int), x23 = selI c x4 x8 → InR IntKind.u64 x23 → ∀ (x24 : Bool), x24 = ([x16, x17, x18, x19] == [x20, x21, x22, x23]) → K (SV.b false x24)) ∧ (x15 = false → K (SV.b true false))))) := by
  intros
  kernel_rfl

theorem words_beq (m n : Int) (hm : 0 ≤ m ∧ m < ell) (hn : 0 ≤ n ∧ n < ell) : ([w0 m, w1 m, w2 m, w3 m] == [w0 n, w1 n, w2 n, w3 n]) = decide (m = n) := by
  rw [ell_lit] at hm hn
  have key : ([w0 m, w1 m, w2 m, w3 m] = [w0 n, w1 n, w2 n, w3 n]) ↔ m = n := by
    constructor
    · intro h
      simp only [List.cons.injEq, and_true, w0, w1, w2, w3] at h
      omega
    · rintro rfl; rfl
  rw [Bool.eq_iff_iff, beq_iff_eq, decide_eq_true_eq, key]

theorem zero_beq (m : Int) (hm : 0 ≤ m ∧ m < ell) : ([w0 m, w1 m, w2 m, w3 m] == [0, 0, 0, 0]) = decide (m = 0) :=
  words_beq m 0 hm (by decide)

namespace ScalarSees
theorem law (W : World) (hG : Glob gh W fun _ => False) (l0 : List Int) (hl0 : l0.length = 4) (hr0 : AllR .u64 l0) (l1 : List Int) (hl1 : l1.length = 4) (hr1 : AllR .u64 l1) (z2 : Int) (hr2 : InR .i64 z2) (z3 : Int) (hr3 : InR .i64 z3) :
    Calls Tryd.prog 3 #[.agg (l0.map (Value.int .u64)).toArray, .agg (l1.map (Value.int .u64)).toArray, .int .i64 z2, .int .i64 z3] W fun e w' => e = .returned (.bool true) ∧ Below W.heap.size W w' := by
  obtain ⟨a0, a1, a2, a3, rfl⟩ := len4 hl0
  obtain ⟨b0, b1, b2, b3, rfl⟩ := len4 hl1
  refine law_calls (f := 3) (fn := Tryd.f3) (args := [.arr .u64 4 true [a0, a1, a2, a3], .arr .u64 4 true [b0, b1, b2, b3], .i .i64 ⟨false, z2⟩, .i .i64 ⟨false, z3⟩]) (vs := [.agg ([a0, a1, a2, a3].map (Value.int .u64)).toArray, .agg ([b0, b1, b2, b3].map (Value.int .u64)).toArray, .int .i64 z2, .int .i64 z3]) (K := fun x => ∃ e, x = .b e true)
    Γ8_ok rfl rfl (vc_noloops ?_) (Nat.le_of_ble_eq_true (by kernel_rfl)) hG ⟨_, _, ⟨rfl, hr0, rfl⟩, rfl, _, _, ⟨rfl, hr1, rfl⟩, rfl, _, _, ⟨rfl, hr2⟩, rfl, _, _, ⟨rfl, hr3⟩, rfl, rfl⟩ (fun _ h => h)
  show vc3 a0 a1 a2 a3 b0 b1 b2 b3 z2 z3 _ _
  rw [vc3_eq]
  have hm := mod_bd (val4 [a0, a1, a2, a3])
  have hn := mod_bd (val4 [b0, b1, b2, b3])
  have vm := (val_mod (val4 [a0, a1, a2, a3])).1
  have sel : ∀ x y : Int, selI z3 x y = if z3 % 2 = 0 then y else x := fun _ _ => rfl
  have hx : (if z3 % 2 = 0 then val4 [b0, b1, b2, b3] else val4 [a0, a1, a2, a3]) % ell = selI z3 (val4 [a0, a1, a2, a3] % ell) (val4 [b0, b1, b2, b3] % ell) := by
    rw [sel]; split <;> rfl
  rw [← ell_lit]
  rw [hx]
  generalize val4 [a0, a1, a2, a3] % ell = m at *
  generalize val4 [b0, b1, b2, b3] % ell = n at *
  rintro x1 rfl _ x2 rfl _ x3 rfl _ x4 rfl _ x5 rfl _ x6 rfl _ x7 rfl _ x8 rfl _ x9 rfl x10 rfl
  refine ⟨fun h => ?_, fun _ => ?_⟩
  · exfalso
    rw [words_beq m n hm hn] at h
    simp at h
  rintro x11 rfl x12 rfl
  refine ⟨fun h => ?_, fun _ => ?_⟩
  · exfalso
    rw [zero_beq m hm] at h
    simp at h
  rintro x13 rfl _ x14 rfl _
  refine ⟨fun h => ?_, fun _ => ?_⟩
  · exfalso
    rw [show val4 [w0 m, w1 m, w2 m, w3 m] = m from vm] at h
    simp at h
  rintro x15 rfl
  refine ⟨fun _ => ?_, fun h => by simp at h⟩
  rintro x16 rfl _ x17 rfl _ x18 rfl _ x19 rfl _ x20 rfl _ x21 rfl _ x22 rfl _ x23 rfl _ x24 rfl
  refine ⟨false, ?_⟩
  congr 1
  simp only [sel]
  split <;> simp
end ScalarSees

namespace ScalarSees
open Go.Proofs.YtnjcbedjhokfhaaDoor
open Go.ChangeShapes Go.WideShapes Go.ChangeAt Go.RowKit
theorem reads (t : Nat) (h : t ∈ Tryd.f3.params.toList) : Tryd.prog.readableRec t = true ∧ t < Tryd.prog.types.size := by
  have hp : Tryd.f3.params.toList = [24, 24, 3, 3] := by kernel_rfl
  rw [hp] at h
  simp only [List.mem_cons, List.not_mem_nil, or_false] at h
  rcases h with rfl | rfl | rfl | rfl <;> exact ⟨by kernel_rfl, Nat.le_of_ble_eq_true (by kernel_rfl)⟩

set_option maxRecDepth 100000 in
/-- What the call gives, for every argument and every world that holds the table. -/
theorem contract (H : Type) (enc : TypeId × Value → H) (W : World) (base : Nat) (args : Array Value) (ds gs : List (DataW H)) (before : List MemPlace)
    (hval : ∀ (j : Nat) t v, Tryd.f3.params[j]? = some t → args[j]? = some v → Value.okWide Tryd.prog W .any base t v)
    (hW : DataW.Whole enc Tryd.prog Tryd.f3.params.toList Rows.scalarSeesSpec.vars false W args.toList ds gs before) (hL : laidMetH Tryd.prog Rows.scalarSeesRow.laid W) :
    Calls Tryd.prog 3 args W fun e W' => ∃ v, e = .returned v ∧ Rows.scalarSeesSpec.post enc Tryd.prog Tryd.f3 false true false false W args v W' := by
  have hA : DataW.TrodAll enc Tryd.prog W 0 (fun _ => true) true [24, 24, 3, 3] args.toList ds _ := hW.choose_spec.choose_spec.1
  obtain ⟨v0, vs0, d0, ds0, p0, q0, hargs, _, _, h0, r0⟩ := trodAll_cons hA
  obtain ⟨v1, vs1, d1, ds1, p1, q1, rfl, _, _, h1, r1⟩ := trodAll_cons r0
  obtain ⟨v2, vs2, d2, ds2, p2, q2, rfl, _, _, h2, r2⟩ := trodAll_cons r1
  obtain ⟨v3, vs3, d3, ds3, p3, q3, rfl, _, _, h3, r3⟩ := trodAll_cons r2
  obtain ⟨rfl, _, _⟩ := trodAll_nil r3
  obtain rfl : args = #[v0, v1, v2, v3] := by cases args; simp_all
  have hp : Tryd.f3.params = #[24, 24, 3, 3] := by kernel_rfl
  rw [hp] at hval
  obtain ⟨l0, hl0, hr0, rfl⟩ := arr_arg (n := 4) (e := 22) (k := .u64) (by kernel_rfl) (by kernel_rfl) (by kernel_rfl) (by kernel_rfl) (hval 0 24 v0 rfl rfl)
  obtain ⟨l1, hl1, hr1, rfl⟩ := arr_arg (n := 4) (e := 22) (k := .u64) (by kernel_rfl) (by kernel_rfl) (by kernel_rfl) (by kernel_rfl) (hval 1 24 v1 rfl rfl)
  obtain ⟨z2, rfl, hr2⟩ := int_arg (k := .i64) (by kernel_rfl) (hval 2 3 v2 rfl rfl)
  obtain ⟨z3, rfl, hr3⟩ := int_arg (k := .i64) (by kernel_rfl) (hval 3 3 v3 rfl rfl)
  refine (law W (tab_glob hL) l0 hl0 hr0 l1 hl1 hr1 z2 hr2 z3 hr3).mono fun e W' ⟨he, hB⟩ => ?_
  subst he
  refine ⟨_, rfl, post_true (tb := 4) laidOut rfl (by kernel_rfl) (by kernel_rfl) reads ?_ hW hB⟩
  intro ds hds
  have hds : ds.length = 4 := hds
  match ds, hds with
  | [a0, a1, a2, a3], _ => exact ⟨rfl, rfl, rfl⟩

def wargs : Array Value := #[.agg #[.int .u64 0, .int .u64 0, .int .u64 0, .int .u64 0], .agg #[.int .u64 0, .int .u64 0, .int .u64 0, .int .u64 0], .int .i64 0, .int .i64 0]
theorem laid_met (os : Os) : laidMet Tryd.prog Rows.scalarSeesRow.laid ((laidWorld os).forCall (fun _ _ => 0) ⟨#[], wargs, []⟩).memory :=
  laidMet_of_run' 8 (by kernel_rfl) (by kernel_rfl)
theorem reads0 (os : Os) {H : Type} (enc : TypeId × Value → H) : ∃ places, DataW.whole enc Tryd.prog ((laidWorld os).forCall (fun _ _ => 0) ⟨#[], wargs, []⟩).memory Tryd.f3.params.toList Rows.scalarSeesSpec.vars false wargs.toList 8 = some ([.agg [.lit (.int .u64 0), .lit (.int .u64 0), .lit (.int .u64 0), .lit (.int .u64 0)], .agg [.lit (.int .u64 0), .lit (.int .u64 0), .lit (.int .u64 0), .lit (.int .u64 0)], .lit (.int .i64 0), .lit (.int .i64 0)], [], places) :=
  ⟨[], by kernel_rfl⟩

set_option maxRecDepth 100000 in
theorem lifted (os : Os) (started : os.Started) (H : Type) (enc : TypeId × Value → H) (F : Stop.Interp) :
    ReturnsInHanded {} Tryd.checked os 3 .any ((OpenSpec.ofChange Rows.scalarSeesSpec).preRow enc Tryd.prog Tryd.f3 Rows.scalarSeesRow.domain false Rows.scalarSeesRow.laid) (((OpenSpec.ofChange Rows.scalarSeesSpec).at F).post enc Tryd.prog Tryd.f3 false true false false) := by
  obtain ⟨places, hx⟩ := reads0 os enc
  refine returnsInHanded_of_row (C := Tryd.checked) (s := OpenSpec.ofChange Rows.scalarSeesSpec) own started (by kernel_rfl) Tryd.func3
    (witness_row_at (enc := enc) (C := Tryd.checked) false (laidWorld os) wargs rfl (by kernel_rfl) (by kernel_rfl) (by kernel_rfl)
      (OpenSpec.preRow_of_cond 8 hx (by kernel_rfl) (fun k hk => by cases hk) (by kernel_rfl) (laid_met os))) ?_
  intro W base args ds gs before hval hW _ _ _ hL _ _
  exact contract H enc W base args ds gs before hval hW hL

theorem said : Rows.ScalarSeesSaid :=
  OpenClaim.holds_of_cond 3 Tryd.f3 rfl rfl rfl rfl rfl rfl rfl ⟨rfl, rfl, rfl, rfl, rfl⟩ rfl rfl rfl rfl rfl (by kernel_rfl) Tryd.func3 (by kernel_rfl)
    (of_decide_eq_true (by kernel_rfl)) (by unfold Func.isWrapper; first | (rw [if_pos (by decide +kernel)]; kernel_rfl) | (rw [if_neg (by decide +kernel)]; exact ⟨rfl, rfl⟩))
    (fun os started H enc _ F => by rw [OpenClaim.pre_eq_preRow]; exact lifted os started H enc F)

theorem plain (f : FuncId) (fn : Func) (hf : Tryd.pinned.checked.prog.funcNamed "veil/veillaw02.ScalarSees" = some f) (hfn : Tryd.pinned.checked.prog.funcs[f]? = some fn) :
    false = Tryd.pinned.checked.prog.looks [] ∧ ∀ (j : Nat) t, fn.params[j]? = some t → Tryd.pinned.checked.prog.wantsStandIn t = false := by
  obtain rfl : f = 3 := Option.some.inj ((show Tryd.prog.funcNamed "veil/veillaw02.ScalarSees" = some 3 by kernel_rfl).symm.trans hf) |>.symm
  obtain rfl : fn = Tryd.f3 := (Option.some.inj (Tryd.func3.symm.trans hfn)).symm
  refine ⟨by kernel_rfl, fun j t ht => ?_⟩
  have hp : Tryd.f3.params = #[24, 24, 3, 3] := by kernel_rfl
  rw [hp] at ht
  have := Array.mem_of_getElem? ht
  simp only [List.mem_toArray, List.mem_cons, List.not_mem_nil, or_false] at this
  rcases this with rfl | rfl | rfl | rfl <;> exact (show Tryd.prog.wantsStandIn _ = false by kernel_rfl)

theorem card : Rows.ScalarSeesCardSaid :=
  Claim7.holds_tied_plain_at .later [] _ _ _ _ said (fun _ h => by cases h) (by kernel_rfl) (fun _ h => by cases h) scalarSees_row_tie rfl ⟨rfl, rfl⟩ (by kernel_rfl) rfl plain (by kernel_rfl)
end ScalarSees


end Go.Gx

namespace Go.Proofs.YtnjcbedjhokfhaaDoor
theorem scalarSeesProved : Rows.ScalarSeesCardSaid := Go.Gx.ScalarSees.card
end Go.Proofs.YtnjcbedjhokfhaaDoor
#print axioms Go.Proofs.YtnjcbedjhokfhaaDoor.scalarSeesProved
