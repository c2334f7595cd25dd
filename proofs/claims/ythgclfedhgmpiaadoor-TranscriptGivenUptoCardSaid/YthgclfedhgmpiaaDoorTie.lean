/-
  DERIVED. GIVEN WITH THE SEED: THE PROGRAM's TIES (one call each: nine closed facts by the kernel) AND EACH ROW's TIE, after the 31st guide's Derived/Test/Toyas{Tie, Card}.lean. No idea stands in it: it is a product of the set-up. Laid BY PROGRAM, IN A SANDBOX (cutbox-door.mjs). By AI agents, Wed Nov 11 2026. No macro, syntax, notation, axiom, sorry.
-/
import Derived.Test.YthgclfedhgmpiaaDoorRows
import Derived.LaidByTextLater
import Derived.SevenTiedAt
import Derived.LaidSub
import Derived.LaidOnce
namespace Go.Proofs.YthgclfedhgmpiaaDoor
open Go
set_option maxRecDepth 100000
theorem seatTie1 : Tryd.prog.laidByTextLater [("veil/scalar.table", Rows.laid_veil_scalar_table)] [.data] true :=
  Program.laidByTextLater_by_one 38 8 81 (by kernel_rfl) (by kernel_rfl) (by kernel_rfl) (by kernel_rfl) (by kernel_rfl) (by kernel_rfl) (fun _ _ => by kernel_rfl)
theorem seatTie2 : Tryd.prog.laidByTextLater [("veil/veilref03.round", Rows.laid_veil_veilref03_round), ("veil/veilref03.first", Rows.laid_veil_veilref03_first), ("veil/hash.rounds", Rows.laid_veil_hash_rounds), ("veil/hash.start", Rows.laid_veil_hash_start)] [.data, .data, .data, .data] true :=
  Program.laidByTextLater_by_one 38 8 81 (by kernel_rfl) (by kernel_rfl) (by kernel_rfl) (by kernel_rfl) (by kernel_rfl) (by kernel_rfl) (fun _ _ => by kernel_rfl)
theorem seatTie3 : Tryd.prog.laidByTextLater [("veil/veilref03.round", Rows.laid_veil_veilref03_round), ("veil/veilref03.first", Rows.laid_veil_veilref03_first), ("veil/hash.rounds", Rows.laid_veil_hash_rounds), ("veil/hash.start", Rows.laid_veil_hash_start), ("veil/scalar.table", Rows.laid_veil_scalar_table)] [.data, .data, .data, .data, .data] true :=
  Program.laidByTextLater_by_one 38 8 81 (by kernel_rfl) (by kernel_rfl) (by kernel_rfl) (by kernel_rfl) (by kernel_rfl) (by kernel_rfl) (fun _ _ => by kernel_rfl)
theorem noOwnUnsafe : Tryd.pinned.checked.prog.headLifts.contains "ownunsafe" = false := by kernel_rfl
theorem tie : Tryd.prog.laidByTextLater [("veil/scalar.table", Rows.laid_veil_scalar_table)] [.data] true :=
  Program.laidByTextLater.sub seatTie1 ["veil/scalar.table"] (by kernel_rfl) (by kernel_rfl)
theorem transcriptGiven_row_tie : Rows.transcriptGivenRow.laidByTextAt .later Tryd.pinned [.data] true :=
  OpenClaim.laidByTextAt_later rfl rfl tie noOwnUnsafe
theorem tie2 : Tryd.prog.laidByTextLater [("veil/veilref03.round", Rows.laid_veil_veilref03_round), ("veil/veilref03.first", Rows.laid_veil_veilref03_first), ("veil/hash.rounds", Rows.laid_veil_hash_rounds), ("veil/hash.start", Rows.laid_veil_hash_start)] [.data, .data, .data, .data] true :=
  Program.laidByTextLater.sub seatTie2 ["veil/veilref03.round", "veil/veilref03.first", "veil/hash.rounds", "veil/hash.start"] (by kernel_rfl) (by kernel_rfl)
theorem transcriptNames_row_tie : Rows.transcriptNamesRow.laidByTextAt .later Tryd.pinned [.data, .data, .data, .data] true :=
  OpenClaim.laidByTextAt_later rfl rfl tie2 noOwnUnsafe
theorem tie3 : Tryd.prog.laidByTextLater [("veil/veilref03.round", Rows.laid_veil_veilref03_round), ("veil/veilref03.first", Rows.laid_veil_veilref03_first), ("veil/hash.rounds", Rows.laid_veil_hash_rounds), ("veil/hash.start", Rows.laid_veil_hash_start), ("veil/scalar.table", Rows.laid_veil_scalar_table)] [.data, .data, .data, .data, .data] true :=
  Program.laidByTextLater.sub seatTie3 ["veil/veilref03.round", "veil/veilref03.first", "veil/hash.rounds", "veil/hash.start", "veil/scalar.table"] (by kernel_rfl) (by kernel_rfl)
theorem transcriptPlays_row_tie : Rows.transcriptPlaysRow.laidByTextAt .later Tryd.pinned [.data, .data, .data, .data, .data] true :=
  OpenClaim.laidByTextAt_later rfl rfl tie3 noOwnUnsafe
theorem transcriptSame_row_tie : Rows.transcriptSameRow.laidByTextAt .later Tryd.pinned [.data, .data, .data, .data, .data] true :=
  OpenClaim.laidByTextAt_later rfl rfl tie3 noOwnUnsafe
theorem transcriptScripted_row_tie : Rows.transcriptScriptedRow.laidByTextAt .later Tryd.pinned [.data, .data, .data, .data, .data] true :=
  OpenClaim.laidByTextAt_later rfl rfl tie3 noOwnUnsafe
theorem transcriptNil_row_tie : Rows.transcriptNilRow.laidByTextAt .later Tryd.pinned [.data, .data, .data, .data, .data] true :=
  OpenClaim.laidByTextAt_later rfl rfl tie3 noOwnUnsafe
theorem transcriptGivenUpto_row_tie : Rows.transcriptGivenUptoRow.laidByTextAt .later Tryd.pinned [.data] true :=
  OpenClaim.laidByTextAt_later rfl rfl tie noOwnUnsafe
theorem transcriptNamesUpto_row_tie : Rows.transcriptNamesUptoRow.laidByTextAt .later Tryd.pinned [.data, .data, .data, .data] true :=
  OpenClaim.laidByTextAt_later rfl rfl tie2 noOwnUnsafe
theorem transcriptPlaysUpto_row_tie : Rows.transcriptPlaysUptoRow.laidByTextAt .later Tryd.pinned [.data, .data, .data, .data, .data] true :=
  OpenClaim.laidByTextAt_later rfl rfl tie3 noOwnUnsafe
theorem transcriptSameUpto_row_tie : Rows.transcriptSameUptoRow.laidByTextAt .later Tryd.pinned [.data, .data, .data, .data, .data] true :=
  OpenClaim.laidByTextAt_later rfl rfl tie3 noOwnUnsafe
theorem transcriptScriptedUpto_row_tie : Rows.transcriptScriptedUptoRow.laidByTextAt .later Tryd.pinned [.data, .data, .data, .data, .data] true :=
  OpenClaim.laidByTextAt_later rfl rfl tie3 noOwnUnsafe
theorem transcriptNilUpto_row_tie : Rows.transcriptNilUptoRow.laidByTextAt .later Tryd.pinned [.data, .data, .data, .data, .data] true :=
  OpenClaim.laidByTextAt_later rfl rfl tie3 noOwnUnsafe
end Go.Proofs.YthgclfedhgmpiaaDoor
