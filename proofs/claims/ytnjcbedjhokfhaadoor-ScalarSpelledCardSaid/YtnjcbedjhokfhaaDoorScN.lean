/- The table of the program, and its cells in a row's world; what all rows of this seat ask. -/
import Derived.Test.YtnjcbedjhokfhaaDoorScM
import Derived.Test.YtnjcbedjhokfhaaDoorLift
namespace Go.Gx
open Go.Proofs Go.Sp Go.Proofs.YtnjcbedjhokfhaaDoor
open Go.ChangeShapes Go.WideShapes Go.ChangeAt Go.RowKit
set_option linter.unusedVariables false

theorem gTab : Tryd.prog.globalNamed "veil/scalar.table" = some 0 := by kernel_rfl
theorem gTabType : (Tryd.prog.globals[0]?).map (·.type) = some 100 := by kernel_rfl
theorem und (t : Nat) (u) (h : Tryd.prog.underlying t = u) : Tryd.prog.underlying t = u := h

def tabRows : List (List Int) := [[6346243789798364141, 1503914060200516822, 0, 1152921504606846976], [15486807595281847581, 14334777244411350896, 18446744073709551614, 1152921504606846975], [11819153939886771969, 14991950615390032711, 14910419812499177061, 259310039853996605], [6346243789798364139, 1503914060200516822, 0, 1152921504606846976]]

theorem tab_glob {W : World} (h : laidMetH Tryd.prog [("veil/scalar.table", Rows.laid_veil_scalar_table)] W) : Glob gh W fun _ => False := by
  have h' : laidMet Tryd.prog (("veil/scalar.table", .agg (tabRows.map (Lib.tabData .u64))) :: []) W := h
  obtain ⟨h1, h2⟩ := tab2_of_head (m := 4) (n := 4) gTab gTabType (e1 := 25) (e := 22) (by kernel_rfl) (by kernel_rfl) (by kernel_rfl) (by kernel_rfl) (by kernel_rfl) (by kernel_rfl) h'
  intro g b hb
  simp only [gh, List.mem_singleton, Prod.mk.injEq] at hb
  obtain ⟨rfl, rfl⟩ := hb
  refine ⟨_, _, rfl, ?_, h1, fun x => x, h2⟩
  have ok : ∀ r ∈ tabRows, r.length = 4 ∧ AllR .u64 r := by
    intro r hr
    simp only [tabRows, List.mem_cons, List.not_mem_nil, or_false] at hr
    rcases hr with rfl | rfl | rfl | rfl <;> refine ⟨rfl, fun z hz => ?_⟩ <;> simp only [List.mem_cons, List.not_mem_nil, or_false] at hz <;> rcases hz with rfl | rfl | rfl | rfl <;> exact ⟨by decide, by decide⟩
  have o0 := ok _ (List.mem_of_getElem? (show tabRows[0]? = some _ from rfl))
  have o1 := ok _ (List.mem_of_getElem? (show tabRows[1]? = some _ from rfl))
  have o2 := ok _ (List.mem_of_getElem? (show tabRows[2]? = some _ from rfl))
  have o3 := ok _ (List.mem_of_getElem? (show tabRows[3]? = some _ from rfl))
  exact ⟨_, _, ⟨o0.1, o0.2, rfl⟩, rfl, _, _, ⟨o1.1, o1.2, rfl⟩, rfl, _, _, ⟨o2.1, o2.2, rfl⟩, rfl, _, _, ⟨o3.1, o3.2, rfl⟩, rfl, rfl⟩

/-- A world for the witness: the settled one, the table laid. -/
noncomputable def laidWorld (os : Os) : World :=
  { World.holding Tryd.prog os ⟨#[], #[], []⟩ with heap := (World.holding Tryd.prog os ⟨#[], #[], []⟩).heap.modify 0 fun
      | .cells _ t frozen => .cells #[.int .u64 6346243789798364141, .int .u64 1503914060200516822, .int .u64 0, .int .u64 1152921504606846976, .int .u64 15486807595281847581, .int .u64 14334777244411350896, .int .u64 18446744073709551614, .int .u64 1152921504606846975, .int .u64 11819153939886771969, .int .u64 14991950615390032711, .int .u64 14910419812499177061, .int .u64 259310039853996605, .int .u64 6346243789798364139, .int .u64 1503914060200516822, .int .u64 0, .int .u64 1152921504606846976] t frozen
      | o => o }

theorem own : ownKnob Tryd.prog.godebug = none := by kernel_rfl
theorem laidOut : laidOutB Tryd.prog = true := by kernel_rfl

end Go.Gx
