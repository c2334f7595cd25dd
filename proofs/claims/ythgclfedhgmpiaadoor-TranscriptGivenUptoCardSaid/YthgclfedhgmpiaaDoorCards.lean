/-
  DERIVED. GIVEN WITH THE SEED: THE CARDS: each row of YthgclfedhgmpiaaDoorRows.lean that lists a variable, with what it lists TIED to the program's text (the seventh form; the later family's looks); each row that meets fmt, with fmt's text TOLD by the authors' own Lean function (tested against real Go, not proved from fmt's source: count such statements apart). THE CARD IS WHAT COUNTS. Prove the row's statement (the work); the ties are given (YthgclfedhgmpiaaDoorTie.lean); close each card by the builder's one call (the guide's Derived/Test/ToyasCard.lean, 'card_holds'). Laid BY PROGRAM, IN A SANDBOX (cutbox-door.mjs). By AI agents, Wed Nov 11 2026. No macro, syntax, notation, axiom, sorry.
-/
import Derived.Test.YthgclfedhgmpiaaDoorRows
import GoSem.ClaimSeven
namespace Go.Proofs.YthgclfedhgmpiaaDoor
namespace Rows

/-- THE TIED CARD OF 'veillaw08.TranscriptGiven'. -/
def transcriptGivenCard : Claim7 := { stood := { row := transcriptGivenRow, standIns := [], harness := (true, "ab3790ee55a806005cfc735a6d5150f8d40b546dbdb2899d7b00debe09d83a09"), looks := false }, kinds := [], alts := [], laidByText := true, laidKinds := [.data], laidTests := true, laidLooks := .later }
def TranscriptGivenCardSaid : Prop := Claim7.holds Tryd.pinned (.plain (OpenSpec.ofChange transcriptGivenSpec)) transcriptGivenCard

/-- THE TIED CARD OF 'veillaw08.TranscriptNames'. -/
def transcriptNamesCard : Claim7 := { stood := { row := transcriptNamesRow, standIns := [], harness := (true, "ab3790ee55a806005cfc735a6d5150f8d40b546dbdb2899d7b00debe09d83a09"), looks := false }, kinds := [], alts := [], laidByText := true, laidKinds := [.data, .data, .data, .data], laidTests := true, laidLooks := .later }
def TranscriptNamesCardSaid : Prop := Claim7.holds Tryd.pinned (.plain (OpenSpec.ofChange transcriptNamesSpec)) transcriptNamesCard

/-- THE TIED CARD OF 'veillaw08.TranscriptPlays'. -/
def transcriptPlaysCard : Claim7 := { stood := { row := transcriptPlaysRow, standIns := [], harness := (true, "ab3790ee55a806005cfc735a6d5150f8d40b546dbdb2899d7b00debe09d83a09"), looks := false }, kinds := [], alts := [], laidByText := true, laidKinds := [.data, .data, .data, .data, .data], laidTests := true, laidLooks := .later }
def TranscriptPlaysCardSaid : Prop := Claim7.holds Tryd.pinned (.plain (OpenSpec.ofChange transcriptPlaysSpec)) transcriptPlaysCard

/-- THE TIED CARD OF 'veillaw08.TranscriptSame'. -/
def transcriptSameCard : Claim7 := { stood := { row := transcriptSameRow, standIns := [], harness := (true, "ab3790ee55a806005cfc735a6d5150f8d40b546dbdb2899d7b00debe09d83a09"), looks := false }, kinds := [], alts := [], laidByText := true, laidKinds := [.data, .data, .data, .data, .data], laidTests := true, laidLooks := .later }
def TranscriptSameCardSaid : Prop := Claim7.holds Tryd.pinned (.plain (OpenSpec.ofChange transcriptSameSpec)) transcriptSameCard

/-- THE TIED CARD OF 'veillaw08.TranscriptScripted'. -/
def transcriptScriptedCard : Claim7 := { stood := { row := transcriptScriptedRow, standIns := [], harness := (true, "ab3790ee55a806005cfc735a6d5150f8d40b546dbdb2899d7b00debe09d83a09"), looks := false }, kinds := [], alts := [], laidByText := true, laidKinds := [.data, .data, .data, .data, .data], laidTests := true, laidLooks := .later }
def TranscriptScriptedCardSaid : Prop := Claim7.holds Tryd.pinned (.plain (OpenSpec.ofChange transcriptScriptedSpec)) transcriptScriptedCard

/-- THE TIED CARD OF 'veillaw08.TranscriptNil'. -/
def transcriptNilCard : Claim7 := { stood := { row := transcriptNilRow, standIns := [], harness := (true, "ab3790ee55a806005cfc735a6d5150f8d40b546dbdb2899d7b00debe09d83a09"), looks := false }, kinds := [], alts := [], laidByText := true, laidKinds := [.data, .data, .data, .data, .data], laidTests := true, laidLooks := .later }
def TranscriptNilCardSaid : Prop := Claim7.holds Tryd.pinned (.plain (OpenSpec.ofChange transcriptNilSpec)) transcriptNilCard

/-- THE SECOND FORM's CARD OF 'veillaw08.TranscriptGiven'. -/
def transcriptGivenUptoCard : Claim7 := { stood := { row := transcriptGivenUptoRow, standIns := [], harness := (true, "ab3790ee55a806005cfc735a6d5150f8d40b546dbdb2899d7b00debe09d83a09"), looks := false }, kinds := [], alts := [], laidByText := true, laidKinds := [.data], laidTests := true, laidLooks := .later }
def TranscriptGivenUptoCardSaid : Prop := Claim7.holds Tryd.pinned (.plain (OpenSpec.upto transcriptGivenSpec)) transcriptGivenUptoCard

/-- THE SECOND FORM's CARD OF 'veillaw08.TranscriptNames'. -/
def transcriptNamesUptoCard : Claim7 := { stood := { row := transcriptNamesUptoRow, standIns := [], harness := (true, "ab3790ee55a806005cfc735a6d5150f8d40b546dbdb2899d7b00debe09d83a09"), looks := false }, kinds := [], alts := [], laidByText := true, laidKinds := [.data, .data, .data, .data], laidTests := true, laidLooks := .later }
def TranscriptNamesUptoCardSaid : Prop := Claim7.holds Tryd.pinned (.plain (OpenSpec.upto transcriptNamesSpec)) transcriptNamesUptoCard

/-- THE SECOND FORM's CARD OF 'veillaw08.TranscriptPlays'. -/
def transcriptPlaysUptoCard : Claim7 := { stood := { row := transcriptPlaysUptoRow, standIns := [], harness := (true, "ab3790ee55a806005cfc735a6d5150f8d40b546dbdb2899d7b00debe09d83a09"), looks := false }, kinds := [], alts := [], laidByText := true, laidKinds := [.data, .data, .data, .data, .data], laidTests := true, laidLooks := .later }
def TranscriptPlaysUptoCardSaid : Prop := Claim7.holds Tryd.pinned (.plain (OpenSpec.upto transcriptPlaysSpec)) transcriptPlaysUptoCard

/-- THE SECOND FORM's CARD OF 'veillaw08.TranscriptSame'. -/
def transcriptSameUptoCard : Claim7 := { stood := { row := transcriptSameUptoRow, standIns := [], harness := (true, "ab3790ee55a806005cfc735a6d5150f8d40b546dbdb2899d7b00debe09d83a09"), looks := false }, kinds := [], alts := [], laidByText := true, laidKinds := [.data, .data, .data, .data, .data], laidTests := true, laidLooks := .later }
def TranscriptSameUptoCardSaid : Prop := Claim7.holds Tryd.pinned (.plain (OpenSpec.upto transcriptSameSpec)) transcriptSameUptoCard

/-- THE SECOND FORM's CARD OF 'veillaw08.TranscriptScripted'. -/
def transcriptScriptedUptoCard : Claim7 := { stood := { row := transcriptScriptedUptoRow, standIns := [], harness := (true, "ab3790ee55a806005cfc735a6d5150f8d40b546dbdb2899d7b00debe09d83a09"), looks := false }, kinds := [], alts := [], laidByText := true, laidKinds := [.data, .data, .data, .data, .data], laidTests := true, laidLooks := .later }
def TranscriptScriptedUptoCardSaid : Prop := Claim7.holds Tryd.pinned (.plain (OpenSpec.upto transcriptScriptedSpec)) transcriptScriptedUptoCard

/-- THE SECOND FORM's CARD OF 'veillaw08.TranscriptNil'. -/
def transcriptNilUptoCard : Claim7 := { stood := { row := transcriptNilUptoRow, standIns := [], harness := (true, "ab3790ee55a806005cfc735a6d5150f8d40b546dbdb2899d7b00debe09d83a09"), looks := false }, kinds := [], alts := [], laidByText := true, laidKinds := [.data, .data, .data, .data, .data], laidTests := true, laidLooks := .later }
def TranscriptNilUptoCardSaid : Prop := Claim7.holds Tryd.pinned (.plain (OpenSpec.upto transcriptNilSpec)) transcriptNilUptoCard
end Rows
end Go.Proofs.YthgclfedhgmpiaaDoor
