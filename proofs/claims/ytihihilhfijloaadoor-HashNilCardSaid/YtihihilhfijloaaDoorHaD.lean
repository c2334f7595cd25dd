/- New, none. -/
import Derived.Test.YtihihilhfijloaaDoorHaC
import Derived.Test.YtihihilhfijloaaDoorPtr
namespace Go.Gx
open Go.Proofs Go.Sp
set_option linter.unusedVariables false

/-- A method of a pointer that may be nil. -/
def nilCtr (cN cP : Ctr) : Ctr := fun stamp args =>
  match args with
  | .np :: _ => cN stamp args
  | _ => cP stamp args
theorem nil_ok {P : Program} {gh : Heap} {f : FuncId} {cN cP : Ctr} (h1 : CallOk P gh f cN) (h2 : CallOk P gh f cP) : CallOk P gh f (nilCtr cN cP) := by
  intro stamp args H rs rs' d vs w0 M ρ w hG hc hp hD hm
  unfold nilCtr at hc
  split at hc
  · exact h1 stamp _ H rs rs' d vs w0 M ρ w hG hc hp hD hm
  · exact h2 stamp _ H rs rs' d vs w0 M ρ w hG hc hp hD hm

def rec8 (ws bl : List Int) (n : Int) (m : Bool) : Heap := gh ++ [(600, .segs false [.arr .u64 8 false ws, .arr .u8 128 false bl, .one (.i .i64 ⟨false, n⟩), .one (.b false m)])]
def vc22 (K : List Seg → Prop) (Q : Nat → List Pv → Prop) : Prop := fnVcP Γ2 Tryd.f22 [] [] gh K Q
def vc40n (K : SV → Prop) (Q : Nat → List Pv → Prop) : Prop := fnVc Γ2 Tryd.f40 [] [.np] gh K Q
def vc40 (ws bl : List Int) (n : Int) (m : Bool) (K : SV → List Seg → Prop) (Q : Nat → List Pv → Prop) : Prop := fnVcM Γ2 Tryd.f40 [] [.p 600 0] (rec8 ws bl n m) K Q
theorem vc22_eq : ∀ (K : List Seg → Prop) (Q : Nat → List Pv → Prop), vc22 K Q = K [Seg.arr IntKind.u64 (8 : Nat) true [(7640891576956012808 : Int), (13503953896175478587 : Int), (4354685564936845355 : Int), (11912009170470909681 : Int), (5840696475078001361 : Int), (11170449401992604703 : Int), (2270897969802886507 : Int), (6620516959819538809 : Int)], Seg.arr IntKind.u8 (128 : Nat) false (List.replicate (128 : Nat) (0 : Int)), Seg.one (SV.i IntKind.i64 { st := true, z := (0 : Int) }), Seg.one (SV.b true true)] := by
  intros
  kernel_rfl
theorem vc40n_eq : ∀ (K : SV → Prop) (Q : Nat → List Pv → Prop), vc40n K Q = K (SV.b true true) := by
  intros
  kernel_rfl
theorem vc40_eq : ∀ (ws bl : List Int) (n : Int) (m : Bool) (K : SV → List Seg → Prop) (Q : Nat → List Pv → Prop), vc40 ws bl n m K Q = K (SV.b false !m) [Seg.arr IntKind.u64 (8 : Nat) false ws, Seg.arr IntKind.u8 (128 : Nat) false bl, Seg.one (SV.i IntKind.i64 { st := false, z := n }), Seg.one (SV.b false m)] := by
  intros
  kernel_rfl

def newS : List SV → Option (List Prop × List Seg)
  | [] => some ([], [.arr .u64 8 true start8, .arr .u8 128 false (List.replicate 128 0), .one (.i .i64 ⟨true, 0⟩), .one (.b true true)])
  | _ => none
theorem new_ok : CallOk Tryd.prog gh 22 (ptrCtr newS) := by
  refine call_ptr (fn := Tryd.f22) Γ2_ok rfl (by kernel_rfl) (by kernel_rfl) (by kernel_rfl) newS fun args p l hs hp hf => ?_
  unfold newS at hs
  split at hs
  · simp only [Option.some.injEq, Prod.mk.injEq] at hs
    obtain ⟨rfl, rfl⟩ := hs
    refine ⟨fun dm ρ cs hcs => ?_, [], trivial, Nat.le_of_ble_eq_true (by kernel_rfl), ?_⟩
    · obtain ⟨c1, c2, h1, rfl, _⟩ := hcs
      rw [List.length_append, h1.2.2, List.length_map, h1.1]; omega
    · show vc22 _ _
      rw [vc22_eq]
      exact ⟨⟨rfl, rfl, rfl⟩, ⟨rfl, rfl, rfl⟩, ⟨rfl, rfl⟩, ⟨rfl, rfl⟩, trivial⟩
  · cases hs

def noneN : List SV → Option (List Prop × SV)
  | [.np] => some ([], .b true true)
  | _ => none
def noneS : List Seg → List SV → Option (List Prop × SV × List Seg)
  | [.arr .u64 8 _ ws, .arr .u8 128 _ bl, .one (.i .i64 n), .one (.b _ m)], [] => some ([], .b false !m, [.arr .u64 8 false ws, .arr .u8 128 false bl, .one (.i .i64 ⟨false, n.z⟩), .one (.b false m)])
  | _, _ => none
theorem noneN_ok : CallOk Tryd.prog gh 40 (pureCtr noneN) := by
  refine call_pure (fn := Tryd.f40) Γ2_ok rfl (by kernel_rfl) (by kernel_rfl) (by kernel_rfl) noneN fun args P0 Y0 hs hp hf => ?_
  unfold noneN at hs
  split at hs
  · simp only [Option.some.injEq, Prod.mk.injEq] at hs
    obtain ⟨rfl, rfl⟩ := hs
    refine ⟨[.np], [], _, ⟨trivial, trivial⟩, Nat.le_of_ble_eq_true (by kernel_rfl), vc_noloops ?_⟩
    show vc40n _ _
    rw [vc40n_eq]
    exact rfl
  · cases hs

theorem vcM_noloops {Γ : Tab} {fn : Func} {h : Heap} {args : List SV} {K : SV → List Seg → Prop} (hv : fnVcM Γ fn [] args h K fun _ _ => False) : VcM Γ fn [] h args K fun _ _ _ => False :=
  ⟨fun k t ht => by simp at ht, fun vk t ps m ht => by simp at ht, by simpa using hv⟩
theorem rec_pos {k k' : IntKind} {e e' : Bool} {ws bl : List Int} {r : List Seg} (dm : Nat → Prop) (ρ : Nat → Pl) (cs : List Value) (hcs : SegsD dm ρ (.arr k 8 e ws :: r) cs) : 0 < cs.length := by
  obtain ⟨c1, c2, h1, rfl, _⟩ := hcs
  rw [List.length_append, h1.2.2, List.length_map, h1.1]; omega
theorem noneP_ok : CallOk Tryd.prog gh 40 (methCtr noneS) := by
  refine call_meth (fn := Tryd.f40) Γ2_ok rfl (fun g hg => by have hg : g ∈ [0, 2] := hg; simp at hg; omega) (by kernel_rfl) (by kernel_rfl) (by kernel_rfl) noneS fun l rest p v l' hs hp hf hr => ?_
  unfold noneS at hs
  split at hs
  · rename_i e1 ws e2 bl n e3 m
    simp only [Option.some.injEq, Prod.mk.injEq] at hs
    obtain ⟨rfl, rfl, rfl⟩ := hs
    obtain ⟨nT, n⟩ := n
    dsimp only at *
    refine ⟨fun dm ρ cs hcs => rec_pos (k' := .u64) (e' := true) (bl := []) dm ρ cs hcs, [.arr .u64 8 false ws, .arr .u8 128 false bl, .one (.i .i64 ⟨false, n⟩), .one (.b false m)], [], [], _, ⟨⟨rfl, rfl, rfl⟩, ⟨rfl, rfl, rfl⟩, ⟨rfl, rfl⟩, ⟨rfl, rfl⟩, trivial⟩, trivial, Nat.le_of_ble_eq_true (by kernel_rfl), vcM_noloops ?_⟩
    show vc40 ws bl n m _ _
    rw [vc40_eq]
    exact ⟨rfl, ⟨rfl, rfl, rfl⟩, ⟨rfl, rfl, rfl⟩, ⟨rfl, rfl⟩, ⟨rfl, rfl⟩, trivial⟩
  · cases hs
theorem none_ok : CallOk Tryd.prog gh 40 (nilCtr (pureCtr noneN) (methCtr noneS)) := nil_ok noneN_ok noneP_ok
def Γ3 : Tab := ⟨tys, [(22, ptrCtr newS), (40, nilCtr (pureCtr noneN) (methCtr noneS))] ++ Γ2.ctr, [0, 2], gh⟩
theorem Γ3_ok : TabOk Tryd.prog Γ3 := (Γ2_ok.cons none_ok).cons new_ok
end Go.Gx
