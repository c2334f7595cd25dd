/- HashNil: a nil State, and one that no call made, take and tell nothing; one that is there takes. For every slice of bytes; the tables lie as the program's text lays them. -/
import Derived.Test.YtihihilhfijloaaDoorHaI
import Derived.Test.YtihihilhfijloaaDoorHaT
namespace Go.Gx
open Go.Proofs Go.Sp Go.RowKit
set_option linter.unusedVariables false
set_option maxRecDepth 100000
namespace HashNil
def vc6 (b : List Int) (K : SV → Prop) (Q : Nat → List Pv → Prop) : Prop := fnVc Γ7 Tryd.f6 [] [.sl 500 0 1 ⟨true, 0⟩ ⟨false, ((b.length : Nat) : Int)⟩] (gh ++ [(500, .segs true [.rowI .u8 b])]) K Q
def vc6z (K : SV → Prop) (Q : Nat → List Pv → Prop) : Prop := fnVc Γ7 Tryd.f6 [] [.nsl] gh K Q
theorem vc6_eq : ∀ (b : List Int) (K : SV → Prop) (Q : Nat → List Pv → Prop), vc6 b K Q = ∀ (x1 : Int), x1 = (7640891576956012808 : Int) → InR IntKind.u64 x1 → ∀ (x2 : Int), x2 = (13503953896175478587 : Int) → InR IntKind.u64 x2 → ∀ (x3 : Int), x3 = (4354685564936845355 : Int) → InR IntKind.u64 x3 → ∀ (x4 : Int), x4 = (11912009170470909681 : Int) → InR IntKind.u64 x4 → ∀ (x5 : Int), x5 = (5840696475078001361 : Int) → InR IntKind.u64 x5 → ∀ (x6 : Int), x6 = (11170449401992604703 : Int) → InR IntKind.u64 x6 → ∀ (x7 : Int), x7 = (2270897969802886507 : Int) → InR IntKind.u64 x7 → ∀ (x8 : Int), x8 = (6620516959819538809 : Int) → InR IntKind.u64 x8 → ∀ (x9 : List Int), x9 = List.replicate (128 : Nat) (0 : Int) → x9.length = (128 : Nat) → AllR IntKind.u8 x9 → Need ((0 : Int) + (b.length : Int) ≤ (b.length : Int)) ∧ Need (true = true → (0 : Int) ≤ (0 : Int) ∧ (0 : Int) ≤ (1152921504606846976 : Int)) ∧ ∀ (x10 : List Int), x10 = (wr true { ws := [x1, x2, x3, x4, x5, x6, x7, x8], bl := x9, n := (0 : Int) } (List.take ((b.length : Int)).toNat (List.drop (0 : Nat) b))).ws → x10.length = (8 : Nat) → AllR IntKind.u64 x10 → ∀ (x11 : List Int), x11 = (wr true { ws := [x1, x2, x3, x4, x5, x6, x7, x8], bl := x9, n := (0 : Int) } (List.take ((b.length : Int)).toNat (List.drop (0 : Nat) b))).bl → x11.length = (128 : Nat) → AllR IntKind.u8 x11 → ∀ (x12 : Int), x12 = (wr true { ws := [x1, x2, x3, x4, x5, x6, x7, x8], bl := x9, n := (0 : Int) } (List.take ((b.length : Int)).toNat (List.drop (0 : Nat) b))).n → InR IntKind.i64 x12 → ∀ (x13 : List Int), x13 = x10 → x13.length = (8 : Nat) → AllR IntKind.u64 x13 → ∀ (x14 : List Int), x14 = x11 → x14.length = (128 : Nat) → AllR IntKind.u8 x14 → ∀ (x15 : Int), x15 = x12 → InR IntKind.i64 x15 → ∀ (x16 : Int), x16 = sizeL x12 true → InR IntKind.i64 x16 → ((x16 != (b.length : Int)) = true → K (SV.b true false)) ∧ ((x16 != (b.length : Int)) = false → Need ((0 : Int) + (b.length : Int) ≤ (b.length : Int)) ∧ Need ((0 : Int) + (b.length : Int) ≤ (b.length : Int)) ∧ Need ((0 : Int) ≤ (0 : Int)) ∧ ∀ (x17 : List Int), x17 = [(0 : Int), (0 : Int), (0 : Int), (0 : Int), (0 : Int), (0 : Int), (0 : Int), (0 : Int)] → x17.length = (8 : Nat) → AllR IntKind.u64 x17 → ∀ (x18 : List Int), x18 = List.replicate (128 : Nat) (0 : Int) → x18.length = (128 : Nat) → AllR IntKind.u8 x18 → ∀ (x19 : Int), x19 = (0 : Int) → InR IntKind.i64 x19 → K (SV.b true true)) := by
  intros
  kernel_rfl
theorem vc6z_eq : ∀ (K : SV → Prop) (Q : Nat → List Pv → Prop), vc6z K Q = ∀ (x1 : Int), x1 = (7640891576956012808 : Int) → InR IntKind.u64 x1 → ∀ (x2 : Int), x2 = (13503953896175478587 : Int) → InR IntKind.u64 x2 → ∀ (x3 : Int), x3 = (4354685564936845355 : Int) → InR IntKind.u64 x3 → ∀ (x4 : Int), x4 = (11912009170470909681 : Int) → InR IntKind.u64 x4 → ∀ (x5 : Int), x5 = (5840696475078001361 : Int) → InR IntKind.u64 x5 → ∀ (x6 : Int), x6 = (11170449401992604703 : Int) → InR IntKind.u64 x6 → ∀ (x7 : Int), x7 = (2270897969802886507 : Int) → InR IntKind.u64 x7 → ∀ (x8 : Int), x8 = (6620516959819538809 : Int) → InR IntKind.u64 x8 → ∀ (x9 : List Int), x9 = List.replicate (128 : Nat) (0 : Int) → x9.length = (128 : Nat) → AllR IntKind.u8 x9 → ∀ (x10 : List Int), x10 = [x1, x2, x3, x4, x5, x6, x7, x8] → x10.length = (8 : Nat) → AllR IntKind.u64 x10 → ∀ (x11 : List Int), x11 = x9 → x11.length = (128 : Nat) → AllR IntKind.u8 x11 → ∀ (x12 : Int), x12 = (0 : Int) → InR IntKind.i64 x12 → ∀ (x13 : List Int), x13 = x10 → x13.length = (8 : Nat) → AllR IntKind.u64 x13 → ∀ (x14 : List Int), x14 = x11 → x14.length = (128 : Nat) → AllR IntKind.u8 x14 → ∀ (x15 : Int), x15 = x12 → InR IntKind.i64 x15 → ∀ (x16 : Int), x16 = sizeL x12 true → InR IntKind.i64 x16 → ((x16 != (0 : Int)) = true → K (SV.b true false)) ∧ ((x16 != (0 : Int)) = false → Need ((0 : Int) ≤ (0 : Int)) ∧ ∀ (x17 : List Int), x17 = [(0 : Int), (0 : Int), (0 : Int), (0 : Int), (0 : Int), (0 : Int), (0 : Int), (0 : Int)] → x17.length = (8 : Nat) → AllR IntKind.u64 x17 → ∀ (x18 : List Int), x18 = List.replicate (128 : Nat) (0 : Int) → x18.length = (128 : Nat) → AllR IntKind.u8 x18 → ∀ (x19 : Int), x19 = (0 : Int) → InR IntKind.i64 x19 → K (SV.b true true)) := by
  intros
  kernel_rfl

theorem law (W : World) (hG : Glob gh W fun _ => False) (v : Value) (hv : (v = .slice none 0 0) ∨ ∃ zs : List Int, AllR .u8 zs ∧ zs.length < 140737488355328 ∧ ConAt Tryd.prog W v (.ints .u8 zs) ∧ ∃ ad n cap, v = .slice ad n cap) :
    Calls Tryd.prog 6 #[v] W fun e w' => e = .returned (.bool true) ∧ Below W.heap.size W w' := by
  rcases hv with rfl | ⟨zs, hz, hl, hc, hs⟩
  · refine law_views Γ7_ok rfl (fun g hg => by have hg : g ∈ [0, 2] := hg; simp at hg; omega) rfl (fn := Tryd.f6) (L := []) (ras := [.n]) (args' := [.nsl]) (K := fun x => ∃ e, x = .b e true) ⟨rfl, trivial⟩ (vc_noloops ?_) (Nat.le_of_ble_eq_true (by kernel_rfl)) hG ⟨_, [], rfl, rfl, rfl⟩ (fun x h => h)
    show vc6z _ _
    rw [vc6z_eq]
    rintro x1 rfl _ x2 rfl _ x3 rfl _ x4 rfl _ x5 rfl _ x6 rfl _ x7 rfl _ x8 rfl _ x9 rfl _ _ x10 rfl _ _ x11 rfl _ _ x12 rfl _ x13 rfl _ _ x14 rfl _ _ x15 rfl _ x16 rfl _
    refine ⟨fun h => absurd h (by simp [sizeL]), fun _ => ⟨need_of (by omega), ?_⟩⟩
    intro _ _ _ _ _ _ _ _ _ _ _
    exact ⟨_, rfl⟩
  · refine law_views Γ7_ok rfl (fun g hg => by have hg : g ∈ [0, 2] := hg; simp at hg; omega) rfl (fn := Tryd.f6) (L := []) (ras := [.c (.ints .u8 zs)]) (args' := [.sl 500 0 1 ⟨true, 0⟩ ⟨false, ((zs.length : Nat) : Int)⟩]) (K := fun x => ∃ e, x = .b e true) ⟨rfl, trivial⟩ (vc_noloops ?_) (Nat.le_of_ble_eq_true (by kernel_rfl)) hG ⟨v, [], rfl, ⟨hc, by show ((zs.length : Nat) : Int) < _; omega, hs⟩, rfl⟩ (fun x h => h)
    show vc6 zs _ _
    rw [vc6_eq]
    rintro x1 rfl _ x2 rfl _ x3 rfl _ x4 rfl _ x5 rfl _ x6 rfl _ x7 rfl _ x8 rfl _ x9 rfl _ _
    refine ⟨need_of (by omega), need_of (fun _ => by omega), ?_⟩
    intro x10 _ _ _ x11 _ _ _ x12 e12 _ x13 _ _ _ x14 _ _ _ x15 _ _ x16 e16 _
    have ht : List.take ((zs.length : Int)).toNat (List.drop 0 zs) = zs := by rw [List.drop_zero, Int.toNat_natCast, List.take_length]
    have hn : x12 = (zs.length : Int) := by
      rw [e12, ht]
      unfold wr
      rw [if_pos ⟨rfl, by dsimp only; omega⟩, feed_n]
      dsimp only; omega
    have h16 : x16 = (zs.length : Int) := by rw [e16, hn]; rfl
    refine ⟨fun h => absurd h (by rw [h16]; simp), fun _ => ⟨need_of (by omega), need_of (by omega), need_of (by omega), ?_⟩⟩
    intro _ _ _ _ _ _ _ _ _ _ _
    exact ⟨_, rfl⟩
end HashNil

namespace HashNil
open Go.Proofs.YtihihilhfijloaaDoor
open Go.ChangeShapes Go.WideShapes Go.ChangeAt Go.RowKit
theorem reads (t : Nat) (h : t ∈ Tryd.f6.params.toList) : Tryd.prog.readableRec t = true ∧ t < Tryd.prog.types.size := by
  have hp : Tryd.f6.params.toList = [25] := by kernel_rfl
  rw [hp] at h
  simp only [List.mem_cons, List.not_mem_nil, or_false] at h
  subst h
  exact ⟨by kernel_rfl, Nat.le_of_ble_eq_true (by kernel_rfl)⟩

set_option maxRecDepth 100000 in
/-- What the call gives, for every argument and every world that holds the tables. -/
theorem contract (H : Type) (enc : TypeId × Value → H) (W : World) (base : Nat) (args : Array Value) (ds gs : List (DataW H)) (before : List MemPlace)
    (hval : ∀ (j : Nat) t v, Tryd.f6.params[j]? = some t → args[j]? = some v → Value.okWide Tryd.prog W .any base t v)
    (hW : DataW.Whole enc Tryd.prog Tryd.f6.params.toList Rows.hashNilSpec.vars false W args.toList ds gs before)
    (hw : (DataW.weightsEach Tryd.prog (Tryd.f6.params.toList ++ (OpenSpec.ofChange Rows.hashNilSpec).bare.plain.varTypes Tryd.prog) (ds ++ gs)).all (· ≤ reachBytes) = true) (hL : laidMetH Tryd.prog Rows.hashNilRow.laid W) :
    Calls Tryd.prog 6 args W fun e W' => ∃ v, e = .returned v ∧ Rows.hashNilSpec.post enc Tryd.prog Tryd.f6 false true false false W args v W' := by
  have hA : DataW.TrodAll enc Tryd.prog W 0 (fun _ => true) true [25] args.toList ds _ := hW.choose_spec.choose_spec.1
  obtain ⟨v0, vs0, d0, ds0, p0, q0, hargs, hds, _, h0, r0⟩ := trodAll_cons hA
  obtain ⟨rfl, hdsn, _⟩ := trodAll_nil r0
  obtain rfl : args = #[v0] := by cases args; simp_all
  have hds : ds = [d0] := by rw [hds, hdsn]
  have hp : Tryd.f6.params = #[25] := by kernel_rfl
  rw [hp] at hval
  have hp2 : Tryd.f6.params.toList = [25] := by kernel_rfl
  rw [hds, hp2] at hw
  have hs0 : (v0 = .slice none 0 0) ∨ ∃ zs : List Int, AllR .u8 zs ∧ zs.length < 140737488355328 ∧ ConAt Tryd.prog W v0 (.ints .u8 zs) ∧ ∃ ad n cap, v0 = .slice ad n cap := by
    obtain ⟨a, len, cap, e⟩ := okWide_slice (e := 5) (by kernel_rfl) (hval 0 25 v0 rfl rfl)
    exact slice_arg (e := 5) (by rw [e]; rfl) (by kernel_rfl) (by kernel_rfl) (by kernel_rfl) h0 (j := 0) rfl rfl hw (Nat.le_of_ble_eq_true (by kernel_rfl))
  refine (law W (tab_glob hL) _ hs0).mono fun e W' ⟨he, hB⟩ => ?_
  subst he
  refine ⟨_, rfl, post_true (tb := 4) laidOut rfl (by kernel_rfl) (by kernel_rfl) reads ?_ hW hB⟩
  intro ds hds
  have hds : ds.length = 1 := hds
  match ds, hds with
  | [a0], _ => exact ⟨rfl, rfl, rfl⟩

def wargs : Array Value := #[.slice none 0 0]
theorem laid_met (os : Os) : laidMet Tryd.prog Rows.hashNilRow.laid ((laidWorld os).forCall (fun _ _ => 0) ⟨#[], wargs, []⟩).memory :=
  laidMet_of_run' 8 (by kernel_rfl) (by kernel_rfl)
theorem reads0 (os : Os) {H : Type} (enc : TypeId × Value → H) : ∃ places, DataW.whole enc Tryd.prog ((laidWorld os).forCall (fun _ _ => 0) ⟨#[], wargs, []⟩).memory Tryd.f6.params.toList Rows.hashNilSpec.vars false wargs.toList 8 = some ([.nil], [], places) :=
  ⟨[], by kernel_rfl⟩

set_option maxRecDepth 100000 in
theorem lifted (os : Os) (started : os.Started) (H : Type) (enc : TypeId × Value → H) (F : Stop.Interp) :
    ReturnsInHanded {} Tryd.checked os 6 .any ((OpenSpec.ofChange Rows.hashNilSpec).preRow enc Tryd.prog Tryd.f6 Rows.hashNilRow.domain false Rows.hashNilRow.laid) (((OpenSpec.ofChange Rows.hashNilSpec).at F).post enc Tryd.prog Tryd.f6 false true false false) := by
  obtain ⟨places, hx⟩ := reads0 os enc
  refine returnsInHanded_of_row (C := Tryd.checked) (s := OpenSpec.ofChange Rows.hashNilSpec) own started (by kernel_rfl) Tryd.func6
    (witness_row_at (enc := enc) (C := Tryd.checked) false (laidWorld os) wargs rfl (by kernel_rfl) (by kernel_rfl) (by kernel_rfl)
      (OpenSpec.preRow_of_cond 8 hx (by kernel_rfl) (fun k hk => by cases hk) (by kernel_rfl) (laid_met os))) ?_
  intro W base args ds gs before hval hW _ _ hw hL _ _
  exact contract H enc W base args ds gs before hval hW hw hL

theorem said : Rows.HashNilSaid :=
  OpenClaim.holds_of_cond 6 Tryd.f6 rfl rfl rfl rfl rfl rfl rfl ⟨rfl, rfl, rfl, rfl, rfl⟩ rfl rfl rfl rfl rfl (by kernel_rfl) Tryd.func6 (by kernel_rfl)
    (of_decide_eq_true (by kernel_rfl)) (by unfold Func.isWrapper; first | (rw [if_pos (by decide +kernel)]; kernel_rfl) | (rw [if_neg (by decide +kernel)]; exact ⟨rfl, rfl⟩))
    (fun os started H enc _ F => by rw [OpenClaim.pre_eq_preRow]; exact lifted os started H enc F)

theorem plain (f : FuncId) (fn : Func) (hf : Tryd.pinned.checked.prog.funcNamed "veil/veillaw03.HashNil" = some f) (hfn : Tryd.pinned.checked.prog.funcs[f]? = some fn) :
    false = Tryd.pinned.checked.prog.looks [] ∧ ∀ (j : Nat) t, fn.params[j]? = some t → Tryd.pinned.checked.prog.wantsStandIn t = false := by
  obtain rfl : f = 6 := Option.some.inj ((show Tryd.prog.funcNamed "veil/veillaw03.HashNil" = some 6 by kernel_rfl).symm.trans hf) |>.symm
  obtain rfl : fn = Tryd.f6 := (Option.some.inj (Tryd.func6.symm.trans hfn)).symm
  refine ⟨by kernel_rfl, fun j t ht => ?_⟩
  have hp : Tryd.f6.params = #[25] := by kernel_rfl
  rw [hp] at ht
  have := Array.mem_of_getElem? ht
  simp only [List.mem_toArray, List.mem_cons, List.not_mem_nil, or_false] at this
  subst this
  exact (show Tryd.prog.wantsStandIn _ = false by kernel_rfl)

theorem card : Rows.HashNilCardSaid :=
  Claim7.holds_tied_plain_at .later [] _ _ _ _ said (fun _ h => by cases h) (by kernel_rfl) (fun _ h => by cases h) hashNil_row_tie rfl ⟨rfl, rfl⟩ (by kernel_rfl) rfl plain (by kernel_rfl)
end HashNil
end Go.Gx

namespace Go.Proofs.YtihihilhfijloaaDoor
theorem hashNilProved : Rows.HashNilCardSaid := Go.Gx.HashNil.card
end Go.Proofs.YtihihilhfijloaaDoor
#print axioms Go.Proofs.YtihihilhfijloaaDoor.hashNilProved
