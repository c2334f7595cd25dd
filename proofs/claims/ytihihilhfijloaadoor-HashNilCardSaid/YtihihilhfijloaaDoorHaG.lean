/- Size and Sum of nil; the table so far. -/
import Derived.Test.YtihihilhfijloaaDoorHaF
namespace Go.Gx
open Go.Proofs Go.Sp
set_option linter.unusedVariables false

def sizeN : List SV → Option (List Prop × SV)
  | [.np] => some ([], .i .i64 ⟨true, 0⟩)
  | _ => none
theorem sizeN_ok : CallOk Tryd.prog gh 24 (pureCtr sizeN) := by
  refine call_pure (fn := Tryd.f24) Γ4_ok rfl (by kernel_rfl) (by kernel_rfl) (by kernel_rfl) sizeN fun args P0 Y0 hs hp hf => ?_
  unfold sizeN at hs
  split at hs
  · simp only [Option.some.injEq, Prod.mk.injEq] at hs
    obtain ⟨rfl, rfl⟩ := hs
    refine ⟨[.np], [], _, ⟨trivial, trivial⟩, Nat.le_of_ble_eq_true (by kernel_rfl), vc_noloops ?_⟩
    show vc24n _ _
    rw [vc24n_eq]
    exact rfl
  · cases hs
def sumN : List SV → Option (List Prop × SV)
  | [.np] => some ([], .arr .u8 64 false (List.replicate 64 0))
  | _ => none
theorem sumN_ok : CallOk Tryd.prog gh 27 (pureCtr sumN) := by
  refine call_pure (fn := Tryd.f27) Γ4_ok rfl (by kernel_rfl) (by kernel_rfl) (by kernel_rfl) sumN fun args P0 Y0 hs hp hf => ?_
  unfold sumN at hs
  split at hs
  · simp only [Option.some.injEq, Prod.mk.injEq] at hs
    obtain ⟨rfl, rfl⟩ := hs
    refine ⟨[.np], [], _, ⟨trivial, trivial⟩, Nat.le_of_ble_eq_true (by kernel_rfl), vc_noloops ?_⟩
    show vc27n _ _
    rw [vc27n_eq]
    exact rfl
  · cases hs
def Γ5 : Tab := ⟨tys, [(24, nilCtr (pureCtr sizeN) (methCtr sizeS)), (27, nilCtr (pureCtr sumN) (methCtr sumS))] ++ Γ4.ctr, [0, 2], gh⟩
theorem Γ5_ok : TabOk Tryd.prog Γ5 := (Γ4_ok.cons (nil_ok sumN_ok sumP_ok)).cons (nil_ok sizeN_ok sizeP_ok)
end Go.Gx
