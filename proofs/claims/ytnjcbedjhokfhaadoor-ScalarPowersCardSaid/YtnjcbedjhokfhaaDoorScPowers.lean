/- Of ScalarPowers, for every input and in every world that holds the program's table as its text lays it: the call returns true, its arguments read as before and nothing else old has turned. No condition besides. -/
import Derived.Test.YtnjcbedjhokfhaaDoorScU
namespace Go.Gx
open Go.Proofs Go.Sp Go.RowKit
open Go.Sp (prI mlL adL sbL pwL halfI invL)
set_option linter.unusedVariables false

def vc7 (a0 a1 a2 a3 x : Int) (K : SV → Prop) (Q : Nat → List Pv → Prop) : Prop := fnVc Γ14 Tryd.f7 [] [.arr .u64 4 true [a0, a1, a2, a3], .i .u64 ⟨false, x⟩] gh K Q
theorem vc7_eq : ∀ (a0 a1 a2 a3 x : Int) (K : SV → Prop) (Q : Nat → List Pv → Prop), vc7 a0 a1 a2 a3 x K Q = ∀ (x1 : Int), x1 = w0 (pwL (val4 [a0, a1, a2, a3]) x) → InR IntKind.u64 x1 → ∀ (x2 : Int), x2 = w1 (pwL (val4 [a0, a1, a2, a3]) x) → InR IntKind.u64 x2 → ∀ (x3 : Int), x3 = w2 (pwL (val4 [a0, a1, a2, a3]) x) → InR IntKind.u64 x3 → ∀ (x4 : Int), x4 = w3 (pwL (val4 [a0, a1, a2, a3]) x) → InR IntKind.u64 x4 → ∀ (x5 : Int), x5 = w0 (val4 [a0, a1, a2, a3] % (7237005577332262213973186563042994240857116359379907606001950938285454250989 : Int)) → InR IntKind.u64 x5 → ∀ (x6 : Int), x6 = w1 (val4 [a0, a1, a2, a3] % (7237005577332262213973186563042994240857116359379907606001950938285454250989 : Int)) → InR IntKind.u64 x6 → ∀ (x7 : Int), x7 = w2 (val4 [a0, a1, a2, a3] % (7237005577332262213973186563042994240857116359379907606001950938285454250989 : Int)) → InR IntKind.u64 x7 → ∀ (x8 : Int), x8 = w3 (val4 [a0, a1, a2, a3] % (7237005577332262213973186563042994240857116359379907606001950938285454250989 : Int)) → InR IntKind.u64 x8 → ∀ (x9 : Int), x9 = w0 (pwL (val4 [x5, x6, x7, x8]) x) → InR IntKind.u64 x9 → ∀ (x10 : Int), x10 = w1 (pwL (val4 [x5, x6, x7, x8]) x) → InR IntKind.u64 x10 → ∀ (x11 : Int), x11 = w2 (pwL (val4 [x5, x6, x7, x8]) x) → InR IntKind.u64 x11 → ∀ (x12 : Int), x12 = w3 (pwL (val4 [x5, x6, x7, x8]) x) → InR IntKind.u64 x12 → ∀ (x13 : Bool), x13 = ([x1, x2, x3, x4] == [x9, x10, x11, x12]) → (x13 = true → ∀ (x14 : Int), x14 = w0 (invL (val4 [a0, a1, a2, a3])) → InR IntKind.u64 x14 → ∀ (x15 : Int), x15 = w1 (invL (val4 [a0, a1, a2, a3])) → InR IntKind.u64 x15 → ∀ (x16 : Int), x16 = w2 (invL (val4 [a0, a1, a2, a3])) → InR IntKind.u64 x16 → ∀ (x17 : Int), x17 = w3 (invL (val4 [a0, a1, a2, a3])) → InR IntKind.u64 x17 → ∀ (x18 : Int), x18 = w0 (val4 [a0, a1, a2, a3] % (7237005577332262213973186563042994240857116359379907606001950938285454250989 : Int)) → InR IntKind.u64 x18 → ∀ (x19 : Int), x19 = w1 (val4 [a0, a1, a2, a3] % (7237005577332262213973186563042994240857116359379907606001950938285454250989 : Int)) → InR IntKind.u64 x19 → ∀ (x20 : Int), x20 = w2 (val4 [a0, a1, a2, a3] % (7237005577332262213973186563042994240857116359379907606001950938285454250989 : Int)) → InR IntKind.u64 x20 → ∀ (x21 : Int), x21 = w3 (val4 [a0, a1, a2, a3] % (7237005577332262213973186563042994240857116359379907606001950938285454250989 : Int)) → InR IntKind.u64 x21 → Need (val4 [x18, x19, x20, x21] < (7237005577332262213973186563042994240857116359379907606001950938285454250989 : Int)) ∧ ∀ (x22 : Int), x22 = w0 (invL (val4 [x18, x19, x20, x21])) → InR IntKind.u64 x22 → ∀ (x23 : Int), x23 = w1 (invL (val4 [x18, x19, x20, x21])) → InR IntKind.u64 x23 → ∀ (x24 : Int), x24 = w2 (invL (val4 [x18, x19, x20, x21])) → InR IntKind.u64 x24 → ∀ (x25 : Int), x25 = w3 (invL (val4 [x18, x19, x20, x21])) → InR IntKind.u64 x25 → ∀ (x26 : Bool), x26 = ([x14, x15, x16, x17] == [x22, x23, x24, x25]) → K (SV.b false x26)) ∧ (x13 = false → K (SV.b true false)) := by
  intros
  kernel_rfl


namespace ScalarPowers
theorem law (W : World) (hG : Glob gh W fun _ => False) (l0 : List Int) (hl0 : l0.length = 4) (hr0 : AllR .u64 l0) (x : Int) (hr1 : InR .u64 x) :
    Calls Tryd.prog 7 #[.agg (l0.map (Value.int .u64)).toArray, .int .u64 x] W fun e w' => e = .returned (.bool true) ∧ Below W.heap.size W w' := by
  obtain ⟨a0, a1, a2, a3, rfl⟩ := len4 hl0
  have ia0 := hr0 a0 (by simp); have ia1 := hr0 a1 (by simp); have ia2 := hr0 a2 (by simp); have ia3 := hr0 a3 (by simp)
  refine law_calls (f := 7) (fn := Tryd.f7) (args := [.arr .u64 4 true [a0, a1, a2, a3], .i .u64 ⟨false, x⟩]) (vs := [.agg ([a0, a1, a2, a3].map (Value.int .u64)).toArray, .int .u64 x]) (K := fun x => ∃ e, x = .b e true)
    Γ14_ok rfl rfl (vc_noloops ?_) (Nat.le_of_ble_eq_true (by kernel_rfl)) hG ⟨_, _, ⟨rfl, hr0, rfl⟩, rfl, _, _, ⟨rfl, hr1⟩, rfl, rfl⟩ (fun _ h => h)
  show vc7 a0 a1 a2 a3 x _ _
  rw [vc7_eq]
  rw [← ell_lit]
  intro x1 e1 r1 x2 e2 r2 x3 e3 r3 x4 e4 r4 x5 e5 r5 x6 e6 r6 x7 e7 r7 x8 e8 r8
  have hA := val_ell e5 e6 e7 e8
  rw [hA]
  have hp : ∀ e, pwL (val4 [a0, a1, a2, a3] % ell) e = pwL (val4 [a0, a1, a2, a3]) e := fun e => pow_mod _ _
  have hi : invL (val4 [a0, a1, a2, a3] % ell) = invL (val4 [a0, a1, a2, a3]) := hp _
  rw [hp]
  intro x9 e9 r9 x10 e10 r10 x11 e11 r11 x12 e12 r12 x13 e13
  refine ⟨fun _ => ?_, fun h => ?_⟩
  · intro x14 e14 r14 x15 e15 r15 x16 e16 r16 x17 e17 r17 x18 e18 r18 x19 e19 r19 x20 e20 r20 x21 e21 r21
    have hA' := val_ell e18 e19 e20 e21
    rw [hA', hi]
    refine ⟨(mod_bd _).2, fun x22 e22 r22 x23 e23 r23 x24 e24 r24 x25 e25 r25 x26 e26 => ⟨false, ?_⟩⟩
    rw [e26, e14, e15, e16, e17, e22, e23, e24, e25, beq_self_eq_true]
  · exfalso
    rw [e13, e1, e2, e3, e4, e9, e10, e11, e12, beq_self_eq_true] at h; cases h
end ScalarPowers

namespace ScalarPowers
open Go.Proofs.YtnjcbedjhokfhaaDoor
open Go.ChangeShapes Go.WideShapes Go.ChangeAt Go.RowKit
theorem reads (t : Nat) (h : t ∈ Tryd.f7.params.toList) : Tryd.prog.readableRec t = true ∧ t < Tryd.prog.types.size := by
  have hp : Tryd.f7.params.toList = [24, 22] := by kernel_rfl
  rw [hp] at h
  simp only [List.mem_cons, List.not_mem_nil, or_false] at h
  rcases h with rfl | rfl <;> exact ⟨by kernel_rfl, Nat.le_of_ble_eq_true (by kernel_rfl)⟩

set_option maxRecDepth 100000 in
/-- What the call gives, for every argument and every world that holds the table. -/
theorem contract (H : Type) (enc : TypeId × Value → H) (W : World) (base : Nat) (args : Array Value) (ds gs : List (DataW H)) (before : List MemPlace)
    (hval : ∀ (j : Nat) t v, Tryd.f7.params[j]? = some t → args[j]? = some v → Value.okWide Tryd.prog W .any base t v)
    (hW : DataW.Whole enc Tryd.prog Tryd.f7.params.toList Rows.scalarPowersSpec.vars false W args.toList ds gs before) (hL : laidMetH Tryd.prog Rows.scalarPowersRow.laid W) :
    Calls Tryd.prog 7 args W fun e W' => ∃ v, e = .returned v ∧ Rows.scalarPowersSpec.post enc Tryd.prog Tryd.f7 false true false false W args v W' := by
  have hA : DataW.TrodAll enc Tryd.prog W 0 (fun _ => true) true [24, 22] args.toList ds _ := hW.choose_spec.choose_spec.1
  obtain ⟨v0, vs0, d0, ds0, p0, q0, hargs, _, _, h0, r0⟩ := trodAll_cons hA
  obtain ⟨v1, vs1, d1, ds1, p1, q1, rfl, _, _, h1, r1⟩ := trodAll_cons r0
  obtain ⟨rfl, _, _⟩ := trodAll_nil r1
  obtain rfl : args = #[v0, v1] := by cases args; simp_all
  have hp : Tryd.f7.params = #[24, 22] := by kernel_rfl
  rw [hp] at hval
  obtain ⟨l0, hl0, hr0, rfl⟩ := arr_arg (n := 4) (e := 22) (k := .u64) (by kernel_rfl) (by kernel_rfl) (by kernel_rfl) (by kernel_rfl) (hval 0 24 v0 rfl rfl)
  obtain ⟨z1, rfl, hr1⟩ := int_arg (k := .u64) (by kernel_rfl) (hval 1 22 v1 rfl rfl)
  refine (law W (tab_glob hL) l0 hl0 hr0 z1 hr1).mono fun e W' ⟨he, hB⟩ => ?_
  subst he
  refine ⟨_, rfl, post_true (tb := 4) laidOut rfl (by kernel_rfl) (by kernel_rfl) reads ?_ hW hB⟩
  intro ds hds
  have hds : ds.length = 2 := hds
  match ds, hds with
  | [a0, a1], _ => exact ⟨rfl, rfl, rfl⟩

def wargs : Array Value := #[.agg #[.int .u64 0, .int .u64 0, .int .u64 0, .int .u64 0], .int .u64 0]
theorem laid_met (os : Os) : laidMet Tryd.prog Rows.scalarPowersRow.laid ((laidWorld os).forCall (fun _ _ => 0) ⟨#[], wargs, []⟩).memory :=
  laidMet_of_run' 8 (by kernel_rfl) (by kernel_rfl)
theorem reads0 (os : Os) {H : Type} (enc : TypeId × Value → H) : ∃ places, DataW.whole enc Tryd.prog ((laidWorld os).forCall (fun _ _ => 0) ⟨#[], wargs, []⟩).memory Tryd.f7.params.toList Rows.scalarPowersSpec.vars false wargs.toList 8 = some ([.agg [.lit (.int .u64 0), .lit (.int .u64 0), .lit (.int .u64 0), .lit (.int .u64 0)], .lit (.int .u64 0)], [], places) :=
  ⟨[], by kernel_rfl⟩

set_option maxRecDepth 100000 in
theorem lifted (os : Os) (started : os.Started) (H : Type) (enc : TypeId × Value → H) (F : Stop.Interp) :
    ReturnsInHanded {} Tryd.checked os 7 .any ((OpenSpec.ofChange Rows.scalarPowersSpec).preRow enc Tryd.prog Tryd.f7 Rows.scalarPowersRow.domain false Rows.scalarPowersRow.laid) (((OpenSpec.ofChange Rows.scalarPowersSpec).at F).post enc Tryd.prog Tryd.f7 false true false false) := by
  obtain ⟨places, hx⟩ := reads0 os enc
  refine returnsInHanded_of_row (C := Tryd.checked) (s := OpenSpec.ofChange Rows.scalarPowersSpec) own started (by kernel_rfl) Tryd.func7
    (witness_row_at (enc := enc) (C := Tryd.checked) false (laidWorld os) wargs rfl (by kernel_rfl) (by kernel_rfl) (by kernel_rfl)
      (OpenSpec.preRow_of_cond 8 hx (by kernel_rfl) (fun k hk => by cases hk) (by kernel_rfl) (laid_met os))) ?_
  intro W base args ds gs before hval hW _ _ _ hL _ _
  exact contract H enc W base args ds gs before hval hW hL

theorem said : Rows.ScalarPowersSaid :=
  OpenClaim.holds_of_cond 7 Tryd.f7 rfl rfl rfl rfl rfl rfl rfl ⟨rfl, rfl, rfl, rfl, rfl⟩ rfl rfl rfl rfl rfl (by kernel_rfl) Tryd.func7 (by kernel_rfl)
    (of_decide_eq_true (by kernel_rfl)) (by unfold Func.isWrapper; first | (rw [if_pos (by decide +kernel)]; kernel_rfl) | (rw [if_neg (by decide +kernel)]; exact ⟨rfl, rfl⟩))
    (fun os started H enc _ F => by rw [OpenClaim.pre_eq_preRow]; exact lifted os started H enc F)

theorem plain (f : FuncId) (fn : Func) (hf : Tryd.pinned.checked.prog.funcNamed "veil/veillaw02.ScalarPowers" = some f) (hfn : Tryd.pinned.checked.prog.funcs[f]? = some fn) :
    false = Tryd.pinned.checked.prog.looks [] ∧ ∀ (j : Nat) t, fn.params[j]? = some t → Tryd.pinned.checked.prog.wantsStandIn t = false := by
  obtain rfl : f = 7 := Option.some.inj ((show Tryd.prog.funcNamed "veil/veillaw02.ScalarPowers" = some 7 by kernel_rfl).symm.trans hf) |>.symm
  obtain rfl : fn = Tryd.f7 := (Option.some.inj (Tryd.func7.symm.trans hfn)).symm
  refine ⟨by kernel_rfl, fun j t ht => ?_⟩
  have hp : Tryd.f7.params = #[24, 22] := by kernel_rfl
  rw [hp] at ht
  have := Array.mem_of_getElem? ht
  simp only [List.mem_toArray, List.mem_cons, List.not_mem_nil, or_false] at this
  rcases this with rfl | rfl <;> exact (show Tryd.prog.wantsStandIn _ = false by kernel_rfl)

theorem card : Rows.ScalarPowersCardSaid :=
  Claim7.holds_tied_plain_at .later [] _ _ _ _ said (fun _ h => by cases h) (by kernel_rfl) (fun _ h => by cases h) scalarPowers_row_tie rfl ⟨rfl, rfl⟩ (by kernel_rfl) rfl plain (by kernel_rfl)
end ScalarPowers

end Go.Gx

namespace Go.Proofs.YtnjcbedjhokfhaaDoor
theorem scalarPowersProved : Rows.ScalarPowersCardSaid := Go.Gx.ScalarPowers.card
end Go.Proofs.YtnjcbedjhokfhaaDoor
#print axioms Go.Proofs.YtnjcbedjhokfhaaDoor.scalarPowersProved
