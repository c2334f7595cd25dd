/-
  DERIVED. GIVEN WITH THE SEED: THE CARDS: each row of YtihihilhfijloaaDoorRows.lean that lists a variable, with what it lists TIED to the program's text (the seventh form; the later family's looks); each row that meets fmt, with fmt's text TOLD by the authors' own Lean function (tested against real Go, not proved from fmt's source: count such statements apart). THE CARD IS WHAT COUNTS. Prove the row's statement (the work); the ties are given (YtihihilhfijloaaDoorTie.lean); close each card by the builder's one call (the guide's Derived/Test/ToyasCard.lean, 'card_holds'). Laid BY PROGRAM, IN A SANDBOX (cutbox-door.mjs). By AI agents, Wed Nov 11 2026. No macro, syntax, notation, axiom, sorry.
-/
import Derived.Test.YtihihilhfijloaaDoorRows
import GoSem.ClaimSeven
namespace Go.Proofs.YtihihilhfijloaaDoor
namespace Rows

/-- THE TIED CARD OF 'veillaw03.HashNames'. -/
def hashNamesCard : Claim7 := { stood := { row := hashNamesRow, standIns := [], harness := (true, "e83c55bf6b44c55a30eb8c6460e5591b1e2baa82bbee034914f4f0d9312358a1"), looks := false }, kinds := [], alts := [], laidByText := true, laidKinds := [.data, .data], laidTests := true, laidLooks := .later }
def HashNamesCardSaid : Prop := Claim7.holds Tryd.pinned (.plain (OpenSpec.ofChange hashNamesSpec)) hashNamesCard

/-- THE TIED CARD OF 'veillaw03.HashSum'. -/
def hashSumCard : Claim7 := { stood := { row := hashSumRow, standIns := [], harness := (true, "e83c55bf6b44c55a30eb8c6460e5591b1e2baa82bbee034914f4f0d9312358a1"), looks := false }, kinds := [], alts := [], laidByText := true, laidKinds := [.data, .data, .data, .data], laidTests := true, laidLooks := .later }
def HashSumCardSaid : Prop := Claim7.holds Tryd.pinned (.plain (OpenSpec.ofChange hashSumSpec)) hashSumCard

/-- THE TIED CARD OF 'veillaw03.HashWrites'. -/
def hashWritesCard : Claim7 := { stood := { row := hashWritesRow, standIns := [], harness := (true, "e83c55bf6b44c55a30eb8c6460e5591b1e2baa82bbee034914f4f0d9312358a1"), looks := false }, kinds := [], alts := [], laidByText := true, laidKinds := [.data, .data, .data, .data], laidTests := true, laidLooks := .later }
def HashWritesCardSaid : Prop := Claim7.holds Tryd.pinned (.plain (OpenSpec.ofChange hashWritesSpec)) hashWritesCard

/-- THE TIED CARD OF 'veillaw03.HashNil'. -/
def hashNilCard : Claim7 := { stood := { row := hashNilRow, standIns := [], harness := (true, "e83c55bf6b44c55a30eb8c6460e5591b1e2baa82bbee034914f4f0d9312358a1"), looks := false }, kinds := [], alts := [], laidByText := true, laidKinds := [.data, .data], laidTests := true, laidLooks := .later }
def HashNilCardSaid : Prop := Claim7.holds Tryd.pinned (.plain (OpenSpec.ofChange hashNilSpec)) hashNilCard

/-- THE TIED CARD OF 'veillaw03.HashOnce'. -/
def hashOnceCard : Claim7 := { stood := { row := hashOnceRow, standIns := [], harness := (true, "e83c55bf6b44c55a30eb8c6460e5591b1e2baa82bbee034914f4f0d9312358a1"), looks := false }, kinds := [], alts := [], laidByText := true, laidKinds := [.data, .data], laidTests := true, laidLooks := .later }
def HashOnceCardSaid : Prop := Claim7.holds Tryd.pinned (.plain (OpenSpec.ofChange hashOnceSpec)) hashOnceCard

/-- THE TIED CARD OF 'veillaw03.HashMac'. -/
def hashMacCard : Claim7 := { stood := { row := hashMacRow, standIns := [], harness := (true, "e83c55bf6b44c55a30eb8c6460e5591b1e2baa82bbee034914f4f0d9312358a1"), looks := false }, kinds := [], alts := [], laidByText := true, laidKinds := [.data, .data, .data, .data], laidTests := true, laidLooks := .later }
def HashMacCardSaid : Prop := Claim7.holds Tryd.pinned (.plain (OpenSpec.ofChange hashMacSpec)) hashMacCard

/-- THE TIED CARD OF 'veillaw03.HashKeys'. -/
def hashKeysCard : Claim7 := { stood := { row := hashKeysRow, standIns := [], harness := (true, "e83c55bf6b44c55a30eb8c6460e5591b1e2baa82bbee034914f4f0d9312358a1"), looks := false }, kinds := [], alts := [], laidByText := true, laidKinds := [.data, .data], laidTests := true, laidLooks := .later }
def HashKeysCardSaid : Prop := Claim7.holds Tryd.pinned (.plain (OpenSpec.ofChange hashKeysSpec)) hashKeysCard

/-- THE TIED CARD OF 'veillaw03.HashStretch'. -/
def hashStretchCard : Claim7 := { stood := { row := hashStretchRow, standIns := [], harness := (true, "e83c55bf6b44c55a30eb8c6460e5591b1e2baa82bbee034914f4f0d9312358a1"), looks := false }, kinds := [], alts := [], laidByText := true, laidKinds := [.data, .data, .data, .data], laidTests := true, laidLooks := .later }
def HashStretchCardSaid : Prop := Claim7.holds Tryd.pinned (.plain (OpenSpec.ofChange hashStretchSpec)) hashStretchCard

/-- THE TIED CARD OF 'veillaw03.HashLonger'. -/
def hashLongerCard : Claim7 := { stood := { row := hashLongerRow, standIns := [], harness := (true, "e83c55bf6b44c55a30eb8c6460e5591b1e2baa82bbee034914f4f0d9312358a1"), looks := false }, kinds := [], alts := [], laidByText := true, laidKinds := [.data, .data], laidTests := true, laidLooks := .later }
def HashLongerCardSaid : Prop := Claim7.holds Tryd.pinned (.plain (OpenSpec.ofChange hashLongerSpec)) hashLongerCard

/-- THE TIED CARD OF 'veillaw03.HashRoot'. -/
def hashRootCard : Claim7 := { stood := { row := hashRootRow, standIns := [], harness := (true, "e83c55bf6b44c55a30eb8c6460e5591b1e2baa82bbee034914f4f0d9312358a1"), looks := false }, kinds := [], alts := [], laidByText := true, laidKinds := [.data, .data, .data, .data], laidTests := true, laidLooks := .later }
def HashRootCardSaid : Prop := Claim7.holds Tryd.pinned (.plain (OpenSpec.ofChange hashRootSpec)) hashRootCard

/-- THE TIED CARD OF 'veillaw03.HashTree'. -/
def hashTreeCard : Claim7 := { stood := { row := hashTreeRow, standIns := [], harness := (true, "e83c55bf6b44c55a30eb8c6460e5591b1e2baa82bbee034914f4f0d9312358a1"), looks := false }, kinds := [], alts := [], laidByText := true, laidKinds := [.data, .data], laidTests := true, laidLooks := .later }
def HashTreeCardSaid : Prop := Claim7.holds Tryd.pinned (.plain (OpenSpec.ofChange hashTreeSpec)) hashTreeCard

/-- THE SECOND FORM's CARD OF 'veillaw03.HashNames'. -/
def hashNamesUptoCard : Claim7 := { stood := { row := hashNamesUptoRow, standIns := [], harness := (true, "e83c55bf6b44c55a30eb8c6460e5591b1e2baa82bbee034914f4f0d9312358a1"), looks := false }, kinds := [], alts := [], laidByText := true, laidKinds := [.data, .data], laidTests := true, laidLooks := .later }
def HashNamesUptoCardSaid : Prop := Claim7.holds Tryd.pinned (.plain (OpenSpec.upto hashNamesSpec)) hashNamesUptoCard

/-- THE SECOND FORM's CARD OF 'veillaw03.HashSum'. -/
def hashSumUptoCard : Claim7 := { stood := { row := hashSumUptoRow, standIns := [], harness := (true, "e83c55bf6b44c55a30eb8c6460e5591b1e2baa82bbee034914f4f0d9312358a1"), looks := false }, kinds := [], alts := [], laidByText := true, laidKinds := [.data, .data, .data, .data], laidTests := true, laidLooks := .later }
def HashSumUptoCardSaid : Prop := Claim7.holds Tryd.pinned (.plain (OpenSpec.upto hashSumSpec)) hashSumUptoCard

/-- THE SECOND FORM's CARD OF 'veillaw03.HashWrites'. -/
def hashWritesUptoCard : Claim7 := { stood := { row := hashWritesUptoRow, standIns := [], harness := (true, "e83c55bf6b44c55a30eb8c6460e5591b1e2baa82bbee034914f4f0d9312358a1"), looks := false }, kinds := [], alts := [], laidByText := true, laidKinds := [.data, .data, .data, .data], laidTests := true, laidLooks := .later }
def HashWritesUptoCardSaid : Prop := Claim7.holds Tryd.pinned (.plain (OpenSpec.upto hashWritesSpec)) hashWritesUptoCard

/-- THE SECOND FORM's CARD OF 'veillaw03.HashNil'. -/
def hashNilUptoCard : Claim7 := { stood := { row := hashNilUptoRow, standIns := [], harness := (true, "e83c55bf6b44c55a30eb8c6460e5591b1e2baa82bbee034914f4f0d9312358a1"), looks := false }, kinds := [], alts := [], laidByText := true, laidKinds := [.data, .data], laidTests := true, laidLooks := .later }
def HashNilUptoCardSaid : Prop := Claim7.holds Tryd.pinned (.plain (OpenSpec.upto hashNilSpec)) hashNilUptoCard

/-- THE SECOND FORM's CARD OF 'veillaw03.HashOnce'. -/
def hashOnceUptoCard : Claim7 := { stood := { row := hashOnceUptoRow, standIns := [], harness := (true, "e83c55bf6b44c55a30eb8c6460e5591b1e2baa82bbee034914f4f0d9312358a1"), looks := false }, kinds := [], alts := [], laidByText := true, laidKinds := [.data, .data], laidTests := true, laidLooks := .later }
def HashOnceUptoCardSaid : Prop := Claim7.holds Tryd.pinned (.plain (OpenSpec.upto hashOnceSpec)) hashOnceUptoCard

/-- THE SECOND FORM's CARD OF 'veillaw03.HashMac'. -/
def hashMacUptoCard : Claim7 := { stood := { row := hashMacUptoRow, standIns := [], harness := (true, "e83c55bf6b44c55a30eb8c6460e5591b1e2baa82bbee034914f4f0d9312358a1"), looks := false }, kinds := [], alts := [], laidByText := true, laidKinds := [.data, .data, .data, .data], laidTests := true, laidLooks := .later }
def HashMacUptoCardSaid : Prop := Claim7.holds Tryd.pinned (.plain (OpenSpec.upto hashMacSpec)) hashMacUptoCard

/-- THE SECOND FORM's CARD OF 'veillaw03.HashKeys'. -/
def hashKeysUptoCard : Claim7 := { stood := { row := hashKeysUptoRow, standIns := [], harness := (true, "e83c55bf6b44c55a30eb8c6460e5591b1e2baa82bbee034914f4f0d9312358a1"), looks := false }, kinds := [], alts := [], laidByText := true, laidKinds := [.data, .data], laidTests := true, laidLooks := .later }
def HashKeysUptoCardSaid : Prop := Claim7.holds Tryd.pinned (.plain (OpenSpec.upto hashKeysSpec)) hashKeysUptoCard

/-- THE SECOND FORM's CARD OF 'veillaw03.HashStretch'. -/
def hashStretchUptoCard : Claim7 := { stood := { row := hashStretchUptoRow, standIns := [], harness := (true, "e83c55bf6b44c55a30eb8c6460e5591b1e2baa82bbee034914f4f0d9312358a1"), looks := false }, kinds := [], alts := [], laidByText := true, laidKinds := [.data, .data, .data, .data], laidTests := true, laidLooks := .later }
def HashStretchUptoCardSaid : Prop := Claim7.holds Tryd.pinned (.plain (OpenSpec.upto hashStretchSpec)) hashStretchUptoCard

/-- THE SECOND FORM's CARD OF 'veillaw03.HashLonger'. -/
def hashLongerUptoCard : Claim7 := { stood := { row := hashLongerUptoRow, standIns := [], harness := (true, "e83c55bf6b44c55a30eb8c6460e5591b1e2baa82bbee034914f4f0d9312358a1"), looks := false }, kinds := [], alts := [], laidByText := true, laidKinds := [.data, .data], laidTests := true, laidLooks := .later }
def HashLongerUptoCardSaid : Prop := Claim7.holds Tryd.pinned (.plain (OpenSpec.upto hashLongerSpec)) hashLongerUptoCard

/-- THE SECOND FORM's CARD OF 'veillaw03.HashRoot'. -/
def hashRootUptoCard : Claim7 := { stood := { row := hashRootUptoRow, standIns := [], harness := (true, "e83c55bf6b44c55a30eb8c6460e5591b1e2baa82bbee034914f4f0d9312358a1"), looks := false }, kinds := [], alts := [], laidByText := true, laidKinds := [.data, .data, .data, .data], laidTests := true, laidLooks := .later }
def HashRootUptoCardSaid : Prop := Claim7.holds Tryd.pinned (.plain (OpenSpec.upto hashRootSpec)) hashRootUptoCard

/-- THE SECOND FORM's CARD OF 'veillaw03.HashTree'. -/
def hashTreeUptoCard : Claim7 := { stood := { row := hashTreeUptoRow, standIns := [], harness := (true, "e83c55bf6b44c55a30eb8c6460e5591b1e2baa82bbee034914f4f0d9312358a1"), looks := false }, kinds := [], alts := [], laidByText := true, laidKinds := [.data, .data], laidTests := true, laidLooks := .later }
def HashTreeUptoCardSaid : Prop := Claim7.holds Tryd.pinned (.plain (OpenSpec.upto hashTreeSpec)) hashTreeUptoCard
end Rows
end Go.Proofs.YtihihilhfijloaaDoor
