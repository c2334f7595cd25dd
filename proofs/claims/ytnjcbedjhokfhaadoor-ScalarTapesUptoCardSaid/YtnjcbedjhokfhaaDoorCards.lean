/-
  DERIVED. GIVEN WITH THE SEED: THE CARDS: each row of YtnjcbedjhokfhaaDoorRows.lean that lists a variable, with what it lists TIED to the program's text (the seventh form; the later family's looks); each row that meets fmt, with fmt's text TOLD by the authors' own Lean function (tested against real Go, not proved from fmt's source: count such statements apart). THE CARD IS WHAT COUNTS. Prove the row's statement (the work); the ties are given (YtnjcbedjhokfhaaDoorTie.lean); close each card by the builder's one call (the guide's Derived/Test/ToyasCard.lean, 'card_holds'). Laid BY PROGRAM, IN A SANDBOX (cutbox-door.mjs). By AI agents, Wed Nov 11 2026. No macro, syntax, notation, axiom, sorry.
-/
import Derived.Test.YtnjcbedjhokfhaaDoorRows
import GoSem.ClaimSeven
namespace Go.Proofs.YtnjcbedjhokfhaaDoor
namespace Rows

/-- THE TIED CARD OF 'veillaw02.ScalarSees'. -/
def scalarSeesCard : Claim7 := { stood := { row := scalarSeesRow, standIns := [], harness := (true, "0d7c21551c084753e7e8dc5be3f189ff8357e15a6fe1cb00a44d1a82e8f65c93"), looks := false }, kinds := [], alts := [], laidByText := true, laidKinds := [.data], laidTests := true, laidLooks := .later }
def ScalarSeesCardSaid : Prop := Claim7.holds Tryd.pinned (.plain (OpenSpec.ofChange scalarSeesSpec)) scalarSeesCard

/-- THE TIED CARD OF 'veillaw02.ScalarDigits'. -/
def scalarDigitsCard : Claim7 := { stood := { row := scalarDigitsRow, standIns := [], harness := (true, "0d7c21551c084753e7e8dc5be3f189ff8357e15a6fe1cb00a44d1a82e8f65c93"), looks := false }, kinds := [], alts := [], laidByText := true, laidKinds := [.data], laidTests := true, laidLooks := .later }
def ScalarDigitsCardSaid : Prop := Claim7.holds Tryd.pinned (.plain (OpenSpec.ofChange scalarDigitsSpec)) scalarDigitsCard

/-- THE TIED CARD OF 'veillaw02.ScalarRing'. -/
def scalarRingCard : Claim7 := { stood := { row := scalarRingRow, standIns := [], harness := (true, "0d7c21551c084753e7e8dc5be3f189ff8357e15a6fe1cb00a44d1a82e8f65c93"), looks := false }, kinds := [], alts := [], laidByText := true, laidKinds := [.data], laidTests := true, laidLooks := .later }
def ScalarRingCardSaid : Prop := Claim7.holds Tryd.pinned (.plain (OpenSpec.ofChange scalarRingSpec)) scalarRingCard

/-- THE TIED CARD OF 'veillaw02.ScalarNafs'. -/
def scalarNafsCard : Claim7 := { stood := { row := scalarNafsRow, standIns := [], harness := (true, "0d7c21551c084753e7e8dc5be3f189ff8357e15a6fe1cb00a44d1a82e8f65c93"), looks := false }, kinds := [], alts := [], laidByText := true, laidKinds := [.data], laidTests := true, laidLooks := .later }
def ScalarNafsCardSaid : Prop := Claim7.holds Tryd.pinned (.plain (OpenSpec.ofChange scalarNafsSpec)) scalarNafsCard

/-- THE TIED CARD OF 'veillaw02.ScalarPowers'. -/
def scalarPowersCard : Claim7 := { stood := { row := scalarPowersRow, standIns := [], harness := (true, "0d7c21551c084753e7e8dc5be3f189ff8357e15a6fe1cb00a44d1a82e8f65c93"), looks := false }, kinds := [], alts := [], laidByText := true, laidKinds := [.data], laidTests := true, laidLooks := .later }
def ScalarPowersCardSaid : Prop := Claim7.holds Tryd.pinned (.plain (OpenSpec.ofChange scalarPowersSpec)) scalarPowersCard

/-- THE TIED CARD OF 'veillaw02.ScalarFermat'. -/
def scalarFermatCard : Claim7 := { stood := { row := scalarFermatRow, standIns := [], harness := (true, "0d7c21551c084753e7e8dc5be3f189ff8357e15a6fe1cb00a44d1a82e8f65c93"), looks := false }, kinds := [], alts := [], laidByText := true, laidKinds := [.data], laidTests := true, laidLooks := .later }
def ScalarFermatCardSaid : Prop := Claim7.holds Tryd.pinned (.plain (OpenSpec.ofChange scalarFermatSpec)) scalarFermatCard

/-- THE TIED CARD OF 'veillaw02.ScalarTapes'. -/
def scalarTapesCard : Claim7 := { stood := { row := scalarTapesRow, standIns := [], harness := (true, "0d7c21551c084753e7e8dc5be3f189ff8357e15a6fe1cb00a44d1a82e8f65c93"), looks := false }, kinds := [], alts := [], laidByText := true, laidKinds := [.data], laidTests := true, laidLooks := .later }
def ScalarTapesCardSaid : Prop := Claim7.holds Tryd.pinned (.plain (OpenSpec.ofChange scalarTapesSpec)) scalarTapesCard

/-- THE TIED CARD OF 'veillaw02.ScalarField'. -/
def scalarFieldCard : Claim7 := { stood := { row := scalarFieldRow, standIns := [], harness := (true, "0d7c21551c084753e7e8dc5be3f189ff8357e15a6fe1cb00a44d1a82e8f65c93"), looks := false }, kinds := [], alts := [], laidByText := true, laidKinds := [.data], laidTests := true, laidLooks := .later }
def ScalarFieldCardSaid : Prop := Claim7.holds Tryd.pinned (.plain (OpenSpec.ofChange scalarFieldSpec)) scalarFieldCard

/-- THE TIED CARD OF 'veillaw02.ScalarCodec'. -/
def scalarCodecCard : Claim7 := { stood := { row := scalarCodecRow, standIns := [], harness := (true, "0d7c21551c084753e7e8dc5be3f189ff8357e15a6fe1cb00a44d1a82e8f65c93"), looks := false }, kinds := [], alts := [], laidByText := true, laidKinds := [.data], laidTests := true, laidLooks := .later }
def ScalarCodecCardSaid : Prop := Claim7.holds Tryd.pinned (.plain (OpenSpec.ofChange scalarCodecSpec)) scalarCodecCard

/-- THE TIED CARD OF 'veillaw02.ScalarWhole'. -/
def scalarWholeCard : Claim7 := { stood := { row := scalarWholeRow, standIns := [], harness := (true, "0d7c21551c084753e7e8dc5be3f189ff8357e15a6fe1cb00a44d1a82e8f65c93"), looks := false }, kinds := [], alts := [], laidByText := true, laidKinds := [.data], laidTests := true, laidLooks := .later }
def ScalarWholeCardSaid : Prop := Claim7.holds Tryd.pinned (.plain (OpenSpec.ofChange scalarWholeSpec)) scalarWholeCard

/-- THE TIED CARD OF 'veillaw02.ScalarInverts'. -/
def scalarInvertsCard : Claim7 := { stood := { row := scalarInvertsRow, standIns := [], harness := (true, "0d7c21551c084753e7e8dc5be3f189ff8357e15a6fe1cb00a44d1a82e8f65c93"), looks := false }, kinds := [], alts := [], laidByText := true, laidKinds := [.data], laidTests := true, laidLooks := .later }
def ScalarInvertsCardSaid : Prop := Claim7.holds Tryd.pinned (.plain (OpenSpec.ofChange scalarInvertsSpec)) scalarInvertsCard

/-- THE TIED CARD OF 'veillaw02.ScalarOneCode'. -/
def scalarOneCodeCard : Claim7 := { stood := { row := scalarOneCodeRow, standIns := [], harness := (true, "0d7c21551c084753e7e8dc5be3f189ff8357e15a6fe1cb00a44d1a82e8f65c93"), looks := false }, kinds := [], alts := [], laidByText := true, laidKinds := [.data], laidTests := true, laidLooks := .later }
def ScalarOneCodeCardSaid : Prop := Claim7.holds Tryd.pinned (.plain (OpenSpec.ofChange scalarOneCodeSpec)) scalarOneCodeCard

/-- THE TIED CARD OF 'veillaw02.ScalarSpelled'. -/
def scalarSpelledCard : Claim7 := { stood := { row := scalarSpelledRow, standIns := [], harness := (true, "0d7c21551c084753e7e8dc5be3f189ff8357e15a6fe1cb00a44d1a82e8f65c93"), looks := false }, kinds := [], alts := [], laidByText := true, laidKinds := [.data], laidTests := true, laidLooks := .later }
def ScalarSpelledCardSaid : Prop := Claim7.holds Tryd.pinned (.plain (OpenSpec.ofChange scalarSpelledSpec)) scalarSpelledCard

/-- THE TIED CARD OF 'veillaw02.ScalarAny'. -/
def scalarAnyCard : Claim7 := { stood := { row := scalarAnyRow, standIns := [], harness := (true, "0d7c21551c084753e7e8dc5be3f189ff8357e15a6fe1cb00a44d1a82e8f65c93"), looks := false }, kinds := [], alts := [], laidByText := true, laidKinds := [.data], laidTests := true, laidLooks := .later }
def ScalarAnyCardSaid : Prop := Claim7.holds Tryd.pinned (.plain (OpenSpec.ofChange scalarAnySpec)) scalarAnyCard

/-- THE SECOND FORM's CARD OF 'veillaw02.ScalarSees'. -/
def scalarSeesUptoCard : Claim7 := { stood := { row := scalarSeesUptoRow, standIns := [], harness := (true, "0d7c21551c084753e7e8dc5be3f189ff8357e15a6fe1cb00a44d1a82e8f65c93"), looks := false }, kinds := [], alts := [], laidByText := true, laidKinds := [.data], laidTests := true, laidLooks := .later }
def ScalarSeesUptoCardSaid : Prop := Claim7.holds Tryd.pinned (.plain (OpenSpec.upto scalarSeesSpec)) scalarSeesUptoCard

/-- THE SECOND FORM's CARD OF 'veillaw02.ScalarDigits'. -/
def scalarDigitsUptoCard : Claim7 := { stood := { row := scalarDigitsUptoRow, standIns := [], harness := (true, "0d7c21551c084753e7e8dc5be3f189ff8357e15a6fe1cb00a44d1a82e8f65c93"), looks := false }, kinds := [], alts := [], laidByText := true, laidKinds := [.data], laidTests := true, laidLooks := .later }
def ScalarDigitsUptoCardSaid : Prop := Claim7.holds Tryd.pinned (.plain (OpenSpec.upto scalarDigitsSpec)) scalarDigitsUptoCard

/-- THE SECOND FORM's CARD OF 'veillaw02.ScalarRing'. -/
def scalarRingUptoCard : Claim7 := { stood := { row := scalarRingUptoRow, standIns := [], harness := (true, "0d7c21551c084753e7e8dc5be3f189ff8357e15a6fe1cb00a44d1a82e8f65c93"), looks := false }, kinds := [], alts := [], laidByText := true, laidKinds := [.data], laidTests := true, laidLooks := .later }
def ScalarRingUptoCardSaid : Prop := Claim7.holds Tryd.pinned (.plain (OpenSpec.upto scalarRingSpec)) scalarRingUptoCard

/-- THE SECOND FORM's CARD OF 'veillaw02.ScalarNafs'. -/
def scalarNafsUptoCard : Claim7 := { stood := { row := scalarNafsUptoRow, standIns := [], harness := (true, "0d7c21551c084753e7e8dc5be3f189ff8357e15a6fe1cb00a44d1a82e8f65c93"), looks := false }, kinds := [], alts := [], laidByText := true, laidKinds := [.data], laidTests := true, laidLooks := .later }
def ScalarNafsUptoCardSaid : Prop := Claim7.holds Tryd.pinned (.plain (OpenSpec.upto scalarNafsSpec)) scalarNafsUptoCard

/-- THE SECOND FORM's CARD OF 'veillaw02.ScalarPowers'. -/
def scalarPowersUptoCard : Claim7 := { stood := { row := scalarPowersUptoRow, standIns := [], harness := (true, "0d7c21551c084753e7e8dc5be3f189ff8357e15a6fe1cb00a44d1a82e8f65c93"), looks := false }, kinds := [], alts := [], laidByText := true, laidKinds := [.data], laidTests := true, laidLooks := .later }
def ScalarPowersUptoCardSaid : Prop := Claim7.holds Tryd.pinned (.plain (OpenSpec.upto scalarPowersSpec)) scalarPowersUptoCard

/-- THE SECOND FORM's CARD OF 'veillaw02.ScalarFermat'. -/
def scalarFermatUptoCard : Claim7 := { stood := { row := scalarFermatUptoRow, standIns := [], harness := (true, "0d7c21551c084753e7e8dc5be3f189ff8357e15a6fe1cb00a44d1a82e8f65c93"), looks := false }, kinds := [], alts := [], laidByText := true, laidKinds := [.data], laidTests := true, laidLooks := .later }
def ScalarFermatUptoCardSaid : Prop := Claim7.holds Tryd.pinned (.plain (OpenSpec.upto scalarFermatSpec)) scalarFermatUptoCard

/-- THE SECOND FORM's CARD OF 'veillaw02.ScalarTapes'. -/
def scalarTapesUptoCard : Claim7 := { stood := { row := scalarTapesUptoRow, standIns := [], harness := (true, "0d7c21551c084753e7e8dc5be3f189ff8357e15a6fe1cb00a44d1a82e8f65c93"), looks := false }, kinds := [], alts := [], laidByText := true, laidKinds := [.data], laidTests := true, laidLooks := .later }
def ScalarTapesUptoCardSaid : Prop := Claim7.holds Tryd.pinned (.plain (OpenSpec.upto scalarTapesSpec)) scalarTapesUptoCard

/-- THE SECOND FORM's CARD OF 'veillaw02.ScalarField'. -/
def scalarFieldUptoCard : Claim7 := { stood := { row := scalarFieldUptoRow, standIns := [], harness := (true, "0d7c21551c084753e7e8dc5be3f189ff8357e15a6fe1cb00a44d1a82e8f65c93"), looks := false }, kinds := [], alts := [], laidByText := true, laidKinds := [.data], laidTests := true, laidLooks := .later }
def ScalarFieldUptoCardSaid : Prop := Claim7.holds Tryd.pinned (.plain (OpenSpec.upto scalarFieldSpec)) scalarFieldUptoCard

/-- THE SECOND FORM's CARD OF 'veillaw02.ScalarCodec'. -/
def scalarCodecUptoCard : Claim7 := { stood := { row := scalarCodecUptoRow, standIns := [], harness := (true, "0d7c21551c084753e7e8dc5be3f189ff8357e15a6fe1cb00a44d1a82e8f65c93"), looks := false }, kinds := [], alts := [], laidByText := true, laidKinds := [.data], laidTests := true, laidLooks := .later }
def ScalarCodecUptoCardSaid : Prop := Claim7.holds Tryd.pinned (.plain (OpenSpec.upto scalarCodecSpec)) scalarCodecUptoCard

/-- THE SECOND FORM's CARD OF 'veillaw02.ScalarWhole'. -/
def scalarWholeUptoCard : Claim7 := { stood := { row := scalarWholeUptoRow, standIns := [], harness := (true, "0d7c21551c084753e7e8dc5be3f189ff8357e15a6fe1cb00a44d1a82e8f65c93"), looks := false }, kinds := [], alts := [], laidByText := true, laidKinds := [.data], laidTests := true, laidLooks := .later }
def ScalarWholeUptoCardSaid : Prop := Claim7.holds Tryd.pinned (.plain (OpenSpec.upto scalarWholeSpec)) scalarWholeUptoCard

/-- THE SECOND FORM's CARD OF 'veillaw02.ScalarInverts'. -/
def scalarInvertsUptoCard : Claim7 := { stood := { row := scalarInvertsUptoRow, standIns := [], harness := (true, "0d7c21551c084753e7e8dc5be3f189ff8357e15a6fe1cb00a44d1a82e8f65c93"), looks := false }, kinds := [], alts := [], laidByText := true, laidKinds := [.data], laidTests := true, laidLooks := .later }
def ScalarInvertsUptoCardSaid : Prop := Claim7.holds Tryd.pinned (.plain (OpenSpec.upto scalarInvertsSpec)) scalarInvertsUptoCard

/-- THE SECOND FORM's CARD OF 'veillaw02.ScalarOneCode'. -/
def scalarOneCodeUptoCard : Claim7 := { stood := { row := scalarOneCodeUptoRow, standIns := [], harness := (true, "0d7c21551c084753e7e8dc5be3f189ff8357e15a6fe1cb00a44d1a82e8f65c93"), looks := false }, kinds := [], alts := [], laidByText := true, laidKinds := [.data], laidTests := true, laidLooks := .later }
def ScalarOneCodeUptoCardSaid : Prop := Claim7.holds Tryd.pinned (.plain (OpenSpec.upto scalarOneCodeSpec)) scalarOneCodeUptoCard

/-- THE SECOND FORM's CARD OF 'veillaw02.ScalarSpelled'. -/
def scalarSpelledUptoCard : Claim7 := { stood := { row := scalarSpelledUptoRow, standIns := [], harness := (true, "0d7c21551c084753e7e8dc5be3f189ff8357e15a6fe1cb00a44d1a82e8f65c93"), looks := false }, kinds := [], alts := [], laidByText := true, laidKinds := [.data], laidTests := true, laidLooks := .later }
def ScalarSpelledUptoCardSaid : Prop := Claim7.holds Tryd.pinned (.plain (OpenSpec.upto scalarSpelledSpec)) scalarSpelledUptoCard

/-- THE SECOND FORM's CARD OF 'veillaw02.ScalarAny'. -/
def scalarAnyUptoCard : Claim7 := { stood := { row := scalarAnyUptoRow, standIns := [], harness := (true, "0d7c21551c084753e7e8dc5be3f189ff8357e15a6fe1cb00a44d1a82e8f65c93"), looks := false }, kinds := [], alts := [], laidByText := true, laidKinds := [.data], laidTests := true, laidLooks := .later }
def ScalarAnyUptoCardSaid : Prop := Claim7.holds Tryd.pinned (.plain (OpenSpec.upto scalarAnySpec)) scalarAnyUptoCard
end Rows
end Go.Proofs.YtnjcbedjhokfhaaDoor
