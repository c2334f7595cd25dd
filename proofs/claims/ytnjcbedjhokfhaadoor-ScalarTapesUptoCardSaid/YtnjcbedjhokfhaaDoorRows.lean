/-
  NARROWER THAN 'FOR EVERY INPUT', by the rows' own cells (each row's printed sentence says how): ScalarSees: laid · ScalarDigits: laid · ScalarRing: laid · ScalarNafs: laid · ScalarPowers: laid · ScalarFermat: laid · ScalarTapes: laid · ScalarField: laid · ScalarCodec: laid · ScalarWhole: laid · ScalarInverts: laid · ScalarOneCode: laid · ScalarSpelled: laid · ScalarAny: laid.
  DERIVED. THE GIVEN ROWS OF THIS SEAT. 14 by the template 'for every input the law returns true; each argument reads behind the call as it read before'; 0 by the template 'total and deterministic' (their statements: YtnjcbedjhokfhaaDoorTotals.lean).
  GIVEN WITH THE SEED: the statements are not yours to turn. If you find one false, say at which input.
  Laid BY PROGRAM, IN A SANDBOX (cutbox-rows.mjs): the forced cells as the released guide's own fill.sh prints them over the translation ba07df65641dc80c… (all of the seat's roots in one cut). By AI agents, Wed Nov 11 2026. No macro, syntax, notation, axiom, sorry.
-/
import Derived.Test.YtnjcbedjhokfhaaDoorChecked
import GoSem.Claim
import GoSem.ClaimJoined
import GoSem.ClaimMapViews
import Derived.JoinedTies
import Derived.KernelRfl
namespace Go.Proofs.YtnjcbedjhokfhaaDoor
/- THE CELL 'sum', in the pinned program and in every row, IS THE sha256 OF THE DUMP (.gsa) THAT YtnjcbedjhokfhaaDoorProg.lean LOADS. Nothing in Lean hashes anything: it is a label: what it is worth is what the hold of that sum in a sandbox is worth. -/
noncomputable def Tryd.pinned : Pinned := { name := "ytnjcbedjhokfhaadoor", sum := "ba07df65641dc80c166a32dba8d2dd38c7b94fe36fc4d691f43a67d7ed2f1759", checked := Tryd.checked }
namespace Rows
def none {H : Type} : Left H := { results := [], args := [] }

/- WHAT THE LISTED PACKAGE-LEVEL VARIABLES READ AS WHEN THE CALL BEGINS. Each datum BY PROGRAM (the guide's laid-datum.mjs) off the statement by which the dump's own 'gosem.cut.vars' lays the variable. In a bare row this is a premise. The card (YtnjcbedjhokfhaaDoorCards.lean) ties it to the program's text. -/
def laid_veil_scalar_table {H : Type} : DataW H := .agg [.agg [.lit (.int .u64 6346243789798364141), .lit (.int .u64 1503914060200516822), .lit (.int .u64 0), .lit (.int .u64 1152921504606846976)], .agg [.lit (.int .u64 15486807595281847581), .lit (.int .u64 14334777244411350896), .lit (.int .u64 18446744073709551614), .lit (.int .u64 1152921504606846975)], .agg [.lit (.int .u64 11819153939886771969), .lit (.int .u64 14991950615390032711), .lit (.int .u64 14910419812499177061), .lit (.int .u64 259310039853996605)], .agg [.lit (.int .u64 6346243789798364139), .lit (.int .u64 1503914060200516822), .lit (.int .u64 0), .lit (.int .u64 1152921504606846976)]]

/-- 'veillaw02.ScalarSees': WHATEVER THE INPUT: true; the input reads as it did. -/
def scalarSeesSpec : ChangeSpec := { name := "scalarSees", fn := fun _ => fun
  | [d1, d2, d3, d4] => { results := [.lit (.bool true)], args := [d1, d2, d3, d4] }
  | _ => none }
def scalarSeesRow : OpenClaim := { program := "ytnjcbedjhokfhaadoor", sum := "ba07df65641dc80c166a32dba8d2dd38c7b94fe36fc4d691f43a67d7ed2f1759", func := "veil/veillaw02.ScalarSees", spec := "scalarSees", inPlace := ["math/bits.Add64", "math/bits.Sub64"], named := ["veil/scalar.table"], apart := false, laid := [("veil/scalar.table", laid_veil_scalar_table)] }
def ScalarSeesSaid : Prop := scalarSeesRow.holds Tryd.pinned (OpenSpec.ofChange scalarSeesSpec)

/-- ITS FALSE NEIGHBOUR: 'it returns false'. Refute it at one input. -/
def scalarSeesWrong : ChangeSpec := { name := "scalarSees", fn := fun _ => fun
  | [d1, d2, d3, d4] => { results := [.lit (.bool false)], args := [d1, d2, d3, d4] }
  | _ => none }
def ScalarSeesWrongFalsely : Prop := scalarSeesRow.holds Tryd.pinned (OpenSpec.ofChange scalarSeesWrong)

/-- 'veillaw02.ScalarDigits': WHATEVER THE INPUT: true; the input reads as it did. -/
def scalarDigitsSpec : ChangeSpec := { name := "scalarDigits", fn := fun _ => fun
  | [d1, d2] => { results := [.lit (.bool true)], args := [d1, d2] }
  | _ => none }
def scalarDigitsRow : OpenClaim := { program := "ytnjcbedjhokfhaadoor", sum := "ba07df65641dc80c166a32dba8d2dd38c7b94fe36fc4d691f43a67d7ed2f1759", func := "veil/veillaw02.ScalarDigits", spec := "scalarDigits", inPlace := ["math/bits.Add64", "math/bits.Sub64"], named := ["veil/scalar.table"], apart := false, laid := [("veil/scalar.table", laid_veil_scalar_table)] }
def ScalarDigitsSaid : Prop := scalarDigitsRow.holds Tryd.pinned (OpenSpec.ofChange scalarDigitsSpec)

/-- ITS FALSE NEIGHBOUR: 'it returns false'. Refute it at one input. -/
def scalarDigitsWrong : ChangeSpec := { name := "scalarDigits", fn := fun _ => fun
  | [d1, d2] => { results := [.lit (.bool false)], args := [d1, d2] }
  | _ => none }
def ScalarDigitsWrongFalsely : Prop := scalarDigitsRow.holds Tryd.pinned (OpenSpec.ofChange scalarDigitsWrong)

/-- 'veillaw02.ScalarRing': WHATEVER THE INPUT: true; the input reads as it did. -/
def scalarRingSpec : ChangeSpec := { name := "scalarRing", fn := fun _ => fun
  | [d1, d2] => { results := [.lit (.bool true)], args := [d1, d2] }
  | _ => none }
def scalarRingRow : OpenClaim := { program := "ytnjcbedjhokfhaadoor", sum := "ba07df65641dc80c166a32dba8d2dd38c7b94fe36fc4d691f43a67d7ed2f1759", func := "veil/veillaw02.ScalarRing", spec := "scalarRing", inPlace := ["math/bits.Add64", "math/bits.Sub64"], named := ["veil/scalar.table"], apart := false, laid := [("veil/scalar.table", laid_veil_scalar_table)] }
def ScalarRingSaid : Prop := scalarRingRow.holds Tryd.pinned (OpenSpec.ofChange scalarRingSpec)

/-- ITS FALSE NEIGHBOUR: 'it returns false'. Refute it at one input. -/
def scalarRingWrong : ChangeSpec := { name := "scalarRing", fn := fun _ => fun
  | [d1, d2] => { results := [.lit (.bool false)], args := [d1, d2] }
  | _ => none }
def ScalarRingWrongFalsely : Prop := scalarRingRow.holds Tryd.pinned (OpenSpec.ofChange scalarRingWrong)

/-- 'veillaw02.ScalarNafs': WHATEVER THE INPUT: true; the input reads as it did. -/
def scalarNafsSpec : ChangeSpec := { name := "scalarNafs", fn := fun _ => fun
  | [d1, d2] => { results := [.lit (.bool true)], args := [d1, d2] }
  | _ => none }
def scalarNafsRow : OpenClaim := { program := "ytnjcbedjhokfhaadoor", sum := "ba07df65641dc80c166a32dba8d2dd38c7b94fe36fc4d691f43a67d7ed2f1759", func := "veil/veillaw02.ScalarNafs", spec := "scalarNafs", inPlace := ["math/bits.Add64", "math/bits.Sub64"], named := ["veil/scalar.table"], apart := false, laid := [("veil/scalar.table", laid_veil_scalar_table)] }
def ScalarNafsSaid : Prop := scalarNafsRow.holds Tryd.pinned (OpenSpec.ofChange scalarNafsSpec)

/-- ITS FALSE NEIGHBOUR: 'it returns false'. Refute it at one input. -/
def scalarNafsWrong : ChangeSpec := { name := "scalarNafs", fn := fun _ => fun
  | [d1, d2] => { results := [.lit (.bool false)], args := [d1, d2] }
  | _ => none }
def ScalarNafsWrongFalsely : Prop := scalarNafsRow.holds Tryd.pinned (OpenSpec.ofChange scalarNafsWrong)

/-- 'veillaw02.ScalarPowers': WHATEVER THE INPUT: true; the input reads as it did. -/
def scalarPowersSpec : ChangeSpec := { name := "scalarPowers", fn := fun _ => fun
  | [d1, d2] => { results := [.lit (.bool true)], args := [d1, d2] }
  | _ => none }
def scalarPowersRow : OpenClaim := { program := "ytnjcbedjhokfhaadoor", sum := "ba07df65641dc80c166a32dba8d2dd38c7b94fe36fc4d691f43a67d7ed2f1759", func := "veil/veillaw02.ScalarPowers", spec := "scalarPowers", inPlace := ["math/bits.Add64", "math/bits.Sub64"], named := ["veil/scalar.table"], apart := false, laid := [("veil/scalar.table", laid_veil_scalar_table)] }
def ScalarPowersSaid : Prop := scalarPowersRow.holds Tryd.pinned (OpenSpec.ofChange scalarPowersSpec)

/-- ITS FALSE NEIGHBOUR: 'it returns false'. Refute it at one input. -/
def scalarPowersWrong : ChangeSpec := { name := "scalarPowers", fn := fun _ => fun
  | [d1, d2] => { results := [.lit (.bool false)], args := [d1, d2] }
  | _ => none }
def ScalarPowersWrongFalsely : Prop := scalarPowersRow.holds Tryd.pinned (OpenSpec.ofChange scalarPowersWrong)

/-- 'veillaw02.ScalarFermat': WHATEVER THE INPUT: true; the input reads as it did. -/
def scalarFermatSpec : ChangeSpec := { name := "scalarFermat", fn := fun _ => fun
  | [d1, d2, d3] => { results := [.lit (.bool true)], args := [d1, d2, d3] }
  | _ => none }
def scalarFermatRow : OpenClaim := { program := "ytnjcbedjhokfhaadoor", sum := "ba07df65641dc80c166a32dba8d2dd38c7b94fe36fc4d691f43a67d7ed2f1759", func := "veil/veillaw02.ScalarFermat", spec := "scalarFermat", inPlace := ["math/bits.Add64", "math/bits.Sub64"], named := ["veil/scalar.table"], apart := false, laid := [("veil/scalar.table", laid_veil_scalar_table)] }
def ScalarFermatSaid : Prop := scalarFermatRow.holds Tryd.pinned (OpenSpec.ofChange scalarFermatSpec)

/-- ITS FALSE NEIGHBOUR: 'it returns false'. Refute it at one input. -/
def scalarFermatWrong : ChangeSpec := { name := "scalarFermat", fn := fun _ => fun
  | [d1, d2, d3] => { results := [.lit (.bool false)], args := [d1, d2, d3] }
  | _ => none }
def ScalarFermatWrongFalsely : Prop := scalarFermatRow.holds Tryd.pinned (OpenSpec.ofChange scalarFermatWrong)

/-- 'veillaw02.ScalarTapes': WHATEVER THE INPUT: true; the input reads as it did. -/
def scalarTapesSpec : ChangeSpec := { name := "scalarTapes", fn := fun _ => fun
  | [d1, d2] => { results := [.lit (.bool true)], args := [d1, d2] }
  | _ => none }
def scalarTapesRow : OpenClaim := { program := "ytnjcbedjhokfhaadoor", sum := "ba07df65641dc80c166a32dba8d2dd38c7b94fe36fc4d691f43a67d7ed2f1759", func := "veil/veillaw02.ScalarTapes", spec := "scalarTapes", inPlace := ["math/bits.Add64", "math/bits.Sub64"], named := ["veil/scalar.table"], apart := false, laid := [("veil/scalar.table", laid_veil_scalar_table)] }
def ScalarTapesSaid : Prop := scalarTapesRow.holds Tryd.pinned (OpenSpec.ofChange scalarTapesSpec)

/-- ITS FALSE NEIGHBOUR: 'it returns false'. Refute it at one input. -/
def scalarTapesWrong : ChangeSpec := { name := "scalarTapes", fn := fun _ => fun
  | [d1, d2] => { results := [.lit (.bool false)], args := [d1, d2] }
  | _ => none }
def ScalarTapesWrongFalsely : Prop := scalarTapesRow.holds Tryd.pinned (OpenSpec.ofChange scalarTapesWrong)

/-- 'veillaw02.ScalarField': WHATEVER THE INPUT: true; the input reads as it did. -/
def scalarFieldSpec : ChangeSpec := { name := "scalarField", fn := fun _ => fun
  | [d1, d2, d3] => { results := [.lit (.bool true)], args := [d1, d2, d3] }
  | _ => none }
def scalarFieldRow : OpenClaim := { program := "ytnjcbedjhokfhaadoor", sum := "ba07df65641dc80c166a32dba8d2dd38c7b94fe36fc4d691f43a67d7ed2f1759", func := "veil/veillaw02.ScalarField", spec := "scalarField", inPlace := ["math/bits.Add64", "math/bits.Sub64"], named := ["veil/scalar.table"], apart := false, laid := [("veil/scalar.table", laid_veil_scalar_table)] }
def ScalarFieldSaid : Prop := scalarFieldRow.holds Tryd.pinned (OpenSpec.ofChange scalarFieldSpec)

/-- ITS FALSE NEIGHBOUR: 'it returns false'. Refute it at one input. -/
def scalarFieldWrong : ChangeSpec := { name := "scalarField", fn := fun _ => fun
  | [d1, d2, d3] => { results := [.lit (.bool false)], args := [d1, d2, d3] }
  | _ => none }
def ScalarFieldWrongFalsely : Prop := scalarFieldRow.holds Tryd.pinned (OpenSpec.ofChange scalarFieldWrong)

/-- 'veillaw02.ScalarCodec': WHATEVER THE INPUT: true; the input reads as it did. -/
def scalarCodecSpec : ChangeSpec := { name := "scalarCodec", fn := fun _ => fun
  | [d1, d2, d3, d4] => { results := [.lit (.bool true)], args := [d1, d2, d3, d4] }
  | _ => none }
def scalarCodecRow : OpenClaim := { program := "ytnjcbedjhokfhaadoor", sum := "ba07df65641dc80c166a32dba8d2dd38c7b94fe36fc4d691f43a67d7ed2f1759", func := "veil/veillaw02.ScalarCodec", spec := "scalarCodec", inPlace := ["math/bits.Add64", "math/bits.Sub64"], named := ["veil/scalar.table"], apart := false, laid := [("veil/scalar.table", laid_veil_scalar_table)] }
def ScalarCodecSaid : Prop := scalarCodecRow.holds Tryd.pinned (OpenSpec.ofChange scalarCodecSpec)

/-- ITS FALSE NEIGHBOUR: 'it returns false'. Refute it at one input. -/
def scalarCodecWrong : ChangeSpec := { name := "scalarCodec", fn := fun _ => fun
  | [d1, d2, d3, d4] => { results := [.lit (.bool false)], args := [d1, d2, d3, d4] }
  | _ => none }
def ScalarCodecWrongFalsely : Prop := scalarCodecRow.holds Tryd.pinned (OpenSpec.ofChange scalarCodecWrong)

/-- 'veillaw02.ScalarWhole': WHATEVER THE INPUT: true; the input reads as it did. -/
def scalarWholeSpec : ChangeSpec := { name := "scalarWhole", fn := fun _ => fun
  | [d] => { results := [.lit (.bool true)], args := [d] }
  | _ => none }
def scalarWholeRow : OpenClaim := { program := "ytnjcbedjhokfhaadoor", sum := "ba07df65641dc80c166a32dba8d2dd38c7b94fe36fc4d691f43a67d7ed2f1759", func := "veil/veillaw02.ScalarWhole", spec := "scalarWhole", inPlace := ["math/bits.Add64", "math/bits.Sub64"], named := ["veil/scalar.table"], apart := false, laid := [("veil/scalar.table", laid_veil_scalar_table)] }
def ScalarWholeSaid : Prop := scalarWholeRow.holds Tryd.pinned (OpenSpec.ofChange scalarWholeSpec)

/-- ITS FALSE NEIGHBOUR: 'it returns false'. Refute it at one input. -/
def scalarWholeWrong : ChangeSpec := { name := "scalarWhole", fn := fun _ => fun
  | [d] => { results := [.lit (.bool false)], args := [d] }
  | _ => none }
def ScalarWholeWrongFalsely : Prop := scalarWholeRow.holds Tryd.pinned (OpenSpec.ofChange scalarWholeWrong)

/-- 'veillaw02.ScalarInverts': WHATEVER THE INPUT: true; the input reads as it did. -/
def scalarInvertsSpec : ChangeSpec := { name := "scalarInverts", fn := fun _ => fun
  | [d] => { results := [.lit (.bool true)], args := [d] }
  | _ => none }
def scalarInvertsRow : OpenClaim := { program := "ytnjcbedjhokfhaadoor", sum := "ba07df65641dc80c166a32dba8d2dd38c7b94fe36fc4d691f43a67d7ed2f1759", func := "veil/veillaw02.ScalarInverts", spec := "scalarInverts", inPlace := ["math/bits.Add64", "math/bits.Sub64"], named := ["veil/scalar.table"], apart := false, laid := [("veil/scalar.table", laid_veil_scalar_table)] }
def ScalarInvertsSaid : Prop := scalarInvertsRow.holds Tryd.pinned (OpenSpec.ofChange scalarInvertsSpec)

/-- ITS FALSE NEIGHBOUR: 'it returns false'. Refute it at one input. -/
def scalarInvertsWrong : ChangeSpec := { name := "scalarInverts", fn := fun _ => fun
  | [d] => { results := [.lit (.bool false)], args := [d] }
  | _ => none }
def ScalarInvertsWrongFalsely : Prop := scalarInvertsRow.holds Tryd.pinned (OpenSpec.ofChange scalarInvertsWrong)

/-- 'veillaw02.ScalarOneCode': WHATEVER THE INPUT: true; the input reads as it did. -/
def scalarOneCodeSpec : ChangeSpec := { name := "scalarOneCode", fn := fun _ => fun
  | [d1, d2] => { results := [.lit (.bool true)], args := [d1, d2] }
  | _ => none }
def scalarOneCodeRow : OpenClaim := { program := "ytnjcbedjhokfhaadoor", sum := "ba07df65641dc80c166a32dba8d2dd38c7b94fe36fc4d691f43a67d7ed2f1759", func := "veil/veillaw02.ScalarOneCode", spec := "scalarOneCode", inPlace := ["math/bits.Add64", "math/bits.Sub64"], named := ["veil/scalar.table"], apart := false, laid := [("veil/scalar.table", laid_veil_scalar_table)] }
def ScalarOneCodeSaid : Prop := scalarOneCodeRow.holds Tryd.pinned (OpenSpec.ofChange scalarOneCodeSpec)

/-- ITS FALSE NEIGHBOUR: 'it returns false'. Refute it at one input. -/
def scalarOneCodeWrong : ChangeSpec := { name := "scalarOneCode", fn := fun _ => fun
  | [d1, d2] => { results := [.lit (.bool false)], args := [d1, d2] }
  | _ => none }
def ScalarOneCodeWrongFalsely : Prop := scalarOneCodeRow.holds Tryd.pinned (OpenSpec.ofChange scalarOneCodeWrong)

/-- 'veillaw02.ScalarSpelled': WHATEVER THE INPUT: true; the input reads as it did. -/
def scalarSpelledSpec : ChangeSpec := { name := "scalarSpelled", fn := fun _ => fun
  | [d1, d2] => { results := [.lit (.bool true)], args := [d1, d2] }
  | _ => none }
def scalarSpelledRow : OpenClaim := { program := "ytnjcbedjhokfhaadoor", sum := "ba07df65641dc80c166a32dba8d2dd38c7b94fe36fc4d691f43a67d7ed2f1759", func := "veil/veillaw02.ScalarSpelled", spec := "scalarSpelled", inPlace := ["math/bits.Add64", "math/bits.Sub64"], named := ["veil/scalar.table"], apart := false, laid := [("veil/scalar.table", laid_veil_scalar_table)] }
def ScalarSpelledSaid : Prop := scalarSpelledRow.holds Tryd.pinned (OpenSpec.ofChange scalarSpelledSpec)

/-- ITS FALSE NEIGHBOUR: 'it returns false'. Refute it at one input. -/
def scalarSpelledWrong : ChangeSpec := { name := "scalarSpelled", fn := fun _ => fun
  | [d1, d2] => { results := [.lit (.bool false)], args := [d1, d2] }
  | _ => none }
def ScalarSpelledWrongFalsely : Prop := scalarSpelledRow.holds Tryd.pinned (OpenSpec.ofChange scalarSpelledWrong)

/-- 'veillaw02.ScalarAny': WHATEVER THE INPUT: true; the input reads as it did. -/
def scalarAnySpec : ChangeSpec := { name := "scalarAny", fn := fun _ => fun
  | [d1, d2, d3] => { results := [.lit (.bool true)], args := [d1, d2, d3] }
  | _ => none }
def scalarAnyRow : OpenClaim := { program := "ytnjcbedjhokfhaadoor", sum := "ba07df65641dc80c166a32dba8d2dd38c7b94fe36fc4d691f43a67d7ed2f1759", func := "veil/veillaw02.ScalarAny", spec := "scalarAny", inPlace := ["math/bits.Add64", "math/bits.Sub64"], named := ["veil/scalar.table"], apart := false, laid := [("veil/scalar.table", laid_veil_scalar_table)] }
def ScalarAnySaid : Prop := scalarAnyRow.holds Tryd.pinned (OpenSpec.ofChange scalarAnySpec)

/-- ITS FALSE NEIGHBOUR: 'it returns false'. Refute it at one input. -/
def scalarAnyWrong : ChangeSpec := { name := "scalarAny", fn := fun _ => fun
  | [d1, d2, d3] => { results := [.lit (.bool false)], args := [d1, d2, d3] }
  | _ => none }
def ScalarAnyWrongFalsely : Prop := scalarAnyRow.holds Tryd.pinned (OpenSpec.ofChange scalarAnyWrong)

/- THE SECOND FORM. 'bulk': how many values and letters a reading holds, each counted each time it is reached (what is shared counts as often as it is met; a slice's spare places count too). A statement '..UptoSaid' is the law's where the arguments, and the package variables that the reading takes, are together of bulk at most 1048576: NARROWER than '..Said'. Prove '..Said' where nothing that the law and all that it calls make is longer than what came in: it says more and counts as full. Else prove '..UptoSaid'. A law counts once. -/
mutual
def uptoBulk {H : Type} : DataW H → Nat
  | .lit (.string bytes) => bytes.length + 1
  | .lit _ => 1
  | .nil => 1
  | .ptr d => uptoBulk d + 1
  | .slice elems spare => uptoBulkAll elems + uptoBulkAll spare + 1
  | .agg parts => uptoBulkAll parts + 1
  | .iface _ d => uptoBulk d + 1
  | .map entries => uptoBulkEntries entries + 1
  | .held _ => 1
def uptoBulkAll {H : Type} : List (DataW H) → Nat
  | [] => 0
  | d :: r => uptoBulk d + uptoBulkAll r
def uptoBulkEntries {H : Type} : List (Lit × DataW H) → Nat
  | [] => 0
  | x :: r => uptoBulkEntry x + uptoBulkEntries r
def uptoBulkEntry {H : Type} : Lit × DataW H → Nat
  | (.string bytes, d) => bytes.length + uptoBulk d + 1
  | (_, d) => uptoBulk d + 1
 end
def uptoSmall : (H : Type) → List (DataW H) → Bool := fun _ ds => decide (uptoBulkAll ds ≤ 1048576)
def OpenSpec.upto (s : _root_.Go.ChangeSpec) : _root_.Go.OpenSpec := { _root_.Go.OpenSpec.ofChange s with cond := some uptoSmall }

/-- 'veillaw02.ScalarSees', WHERE WHAT IT READS IS OF BULK AT MOST 1048576: true; the input reads as it did. -/
def scalarSeesUptoRow : OpenClaim := { program := "ytnjcbedjhokfhaadoor", sum := "ba07df65641dc80c166a32dba8d2dd38c7b94fe36fc4d691f43a67d7ed2f1759", func := "veil/veillaw02.ScalarSees", spec := "scalarSees", inPlace := ["math/bits.Add64", "math/bits.Sub64"], named := ["veil/scalar.table"], apart := false, laid := [("veil/scalar.table", laid_veil_scalar_table)], narrowed := true }
def ScalarSeesUptoSaid : Prop := scalarSeesUptoRow.holds Tryd.pinned (OpenSpec.upto scalarSeesSpec)

/-- 'veillaw02.ScalarDigits', WHERE WHAT IT READS IS OF BULK AT MOST 1048576: true; the input reads as it did. -/
def scalarDigitsUptoRow : OpenClaim := { program := "ytnjcbedjhokfhaadoor", sum := "ba07df65641dc80c166a32dba8d2dd38c7b94fe36fc4d691f43a67d7ed2f1759", func := "veil/veillaw02.ScalarDigits", spec := "scalarDigits", inPlace := ["math/bits.Add64", "math/bits.Sub64"], named := ["veil/scalar.table"], apart := false, laid := [("veil/scalar.table", laid_veil_scalar_table)], narrowed := true }
def ScalarDigitsUptoSaid : Prop := scalarDigitsUptoRow.holds Tryd.pinned (OpenSpec.upto scalarDigitsSpec)

/-- 'veillaw02.ScalarRing', WHERE WHAT IT READS IS OF BULK AT MOST 1048576: true; the input reads as it did. -/
def scalarRingUptoRow : OpenClaim := { program := "ytnjcbedjhokfhaadoor", sum := "ba07df65641dc80c166a32dba8d2dd38c7b94fe36fc4d691f43a67d7ed2f1759", func := "veil/veillaw02.ScalarRing", spec := "scalarRing", inPlace := ["math/bits.Add64", "math/bits.Sub64"], named := ["veil/scalar.table"], apart := false, laid := [("veil/scalar.table", laid_veil_scalar_table)], narrowed := true }
def ScalarRingUptoSaid : Prop := scalarRingUptoRow.holds Tryd.pinned (OpenSpec.upto scalarRingSpec)

/-- 'veillaw02.ScalarNafs', WHERE WHAT IT READS IS OF BULK AT MOST 1048576: true; the input reads as it did. -/
def scalarNafsUptoRow : OpenClaim := { program := "ytnjcbedjhokfhaadoor", sum := "ba07df65641dc80c166a32dba8d2dd38c7b94fe36fc4d691f43a67d7ed2f1759", func := "veil/veillaw02.ScalarNafs", spec := "scalarNafs", inPlace := ["math/bits.Add64", "math/bits.Sub64"], named := ["veil/scalar.table"], apart := false, laid := [("veil/scalar.table", laid_veil_scalar_table)], narrowed := true }
def ScalarNafsUptoSaid : Prop := scalarNafsUptoRow.holds Tryd.pinned (OpenSpec.upto scalarNafsSpec)

/-- 'veillaw02.ScalarPowers', WHERE WHAT IT READS IS OF BULK AT MOST 1048576: true; the input reads as it did. -/
def scalarPowersUptoRow : OpenClaim := { program := "ytnjcbedjhokfhaadoor", sum := "ba07df65641dc80c166a32dba8d2dd38c7b94fe36fc4d691f43a67d7ed2f1759", func := "veil/veillaw02.ScalarPowers", spec := "scalarPowers", inPlace := ["math/bits.Add64", "math/bits.Sub64"], named := ["veil/scalar.table"], apart := false, laid := [("veil/scalar.table", laid_veil_scalar_table)], narrowed := true }
def ScalarPowersUptoSaid : Prop := scalarPowersUptoRow.holds Tryd.pinned (OpenSpec.upto scalarPowersSpec)

/-- 'veillaw02.ScalarFermat', WHERE WHAT IT READS IS OF BULK AT MOST 1048576: true; the input reads as it did. -/
def scalarFermatUptoRow : OpenClaim := { program := "ytnjcbedjhokfhaadoor", sum := "ba07df65641dc80c166a32dba8d2dd38c7b94fe36fc4d691f43a67d7ed2f1759", func := "veil/veillaw02.ScalarFermat", spec := "scalarFermat", inPlace := ["math/bits.Add64", "math/bits.Sub64"], named := ["veil/scalar.table"], apart := false, laid := [("veil/scalar.table", laid_veil_scalar_table)], narrowed := true }
def ScalarFermatUptoSaid : Prop := scalarFermatUptoRow.holds Tryd.pinned (OpenSpec.upto scalarFermatSpec)

/-- 'veillaw02.ScalarTapes', WHERE WHAT IT READS IS OF BULK AT MOST 1048576: true; the input reads as it did. -/
def scalarTapesUptoRow : OpenClaim := { program := "ytnjcbedjhokfhaadoor", sum := "ba07df65641dc80c166a32dba8d2dd38c7b94fe36fc4d691f43a67d7ed2f1759", func := "veil/veillaw02.ScalarTapes", spec := "scalarTapes", inPlace := ["math/bits.Add64", "math/bits.Sub64"], named := ["veil/scalar.table"], apart := false, laid := [("veil/scalar.table", laid_veil_scalar_table)], narrowed := true }
def ScalarTapesUptoSaid : Prop := scalarTapesUptoRow.holds Tryd.pinned (OpenSpec.upto scalarTapesSpec)

/-- 'veillaw02.ScalarField', WHERE WHAT IT READS IS OF BULK AT MOST 1048576: true; the input reads as it did. -/
def scalarFieldUptoRow : OpenClaim := { program := "ytnjcbedjhokfhaadoor", sum := "ba07df65641dc80c166a32dba8d2dd38c7b94fe36fc4d691f43a67d7ed2f1759", func := "veil/veillaw02.ScalarField", spec := "scalarField", inPlace := ["math/bits.Add64", "math/bits.Sub64"], named := ["veil/scalar.table"], apart := false, laid := [("veil/scalar.table", laid_veil_scalar_table)], narrowed := true }
def ScalarFieldUptoSaid : Prop := scalarFieldUptoRow.holds Tryd.pinned (OpenSpec.upto scalarFieldSpec)

/-- 'veillaw02.ScalarCodec', WHERE WHAT IT READS IS OF BULK AT MOST 1048576: true; the input reads as it did. -/
def scalarCodecUptoRow : OpenClaim := { program := "ytnjcbedjhokfhaadoor", sum := "ba07df65641dc80c166a32dba8d2dd38c7b94fe36fc4d691f43a67d7ed2f1759", func := "veil/veillaw02.ScalarCodec", spec := "scalarCodec", inPlace := ["math/bits.Add64", "math/bits.Sub64"], named := ["veil/scalar.table"], apart := false, laid := [("veil/scalar.table", laid_veil_scalar_table)], narrowed := true }
def ScalarCodecUptoSaid : Prop := scalarCodecUptoRow.holds Tryd.pinned (OpenSpec.upto scalarCodecSpec)

/-- 'veillaw02.ScalarWhole', WHERE WHAT IT READS IS OF BULK AT MOST 1048576: true; the input reads as it did. -/
def scalarWholeUptoRow : OpenClaim := { program := "ytnjcbedjhokfhaadoor", sum := "ba07df65641dc80c166a32dba8d2dd38c7b94fe36fc4d691f43a67d7ed2f1759", func := "veil/veillaw02.ScalarWhole", spec := "scalarWhole", inPlace := ["math/bits.Add64", "math/bits.Sub64"], named := ["veil/scalar.table"], apart := false, laid := [("veil/scalar.table", laid_veil_scalar_table)], narrowed := true }
def ScalarWholeUptoSaid : Prop := scalarWholeUptoRow.holds Tryd.pinned (OpenSpec.upto scalarWholeSpec)

/-- 'veillaw02.ScalarInverts', WHERE WHAT IT READS IS OF BULK AT MOST 1048576: true; the input reads as it did. -/
def scalarInvertsUptoRow : OpenClaim := { program := "ytnjcbedjhokfhaadoor", sum := "ba07df65641dc80c166a32dba8d2dd38c7b94fe36fc4d691f43a67d7ed2f1759", func := "veil/veillaw02.ScalarInverts", spec := "scalarInverts", inPlace := ["math/bits.Add64", "math/bits.Sub64"], named := ["veil/scalar.table"], apart := false, laid := [("veil/scalar.table", laid_veil_scalar_table)], narrowed := true }
def ScalarInvertsUptoSaid : Prop := scalarInvertsUptoRow.holds Tryd.pinned (OpenSpec.upto scalarInvertsSpec)

/-- 'veillaw02.ScalarOneCode', WHERE WHAT IT READS IS OF BULK AT MOST 1048576: true; the input reads as it did. -/
def scalarOneCodeUptoRow : OpenClaim := { program := "ytnjcbedjhokfhaadoor", sum := "ba07df65641dc80c166a32dba8d2dd38c7b94fe36fc4d691f43a67d7ed2f1759", func := "veil/veillaw02.ScalarOneCode", spec := "scalarOneCode", inPlace := ["math/bits.Add64", "math/bits.Sub64"], named := ["veil/scalar.table"], apart := false, laid := [("veil/scalar.table", laid_veil_scalar_table)], narrowed := true }
def ScalarOneCodeUptoSaid : Prop := scalarOneCodeUptoRow.holds Tryd.pinned (OpenSpec.upto scalarOneCodeSpec)

/-- 'veillaw02.ScalarSpelled', WHERE WHAT IT READS IS OF BULK AT MOST 1048576: true; the input reads as it did. -/
def scalarSpelledUptoRow : OpenClaim := { program := "ytnjcbedjhokfhaadoor", sum := "ba07df65641dc80c166a32dba8d2dd38c7b94fe36fc4d691f43a67d7ed2f1759", func := "veil/veillaw02.ScalarSpelled", spec := "scalarSpelled", inPlace := ["math/bits.Add64", "math/bits.Sub64"], named := ["veil/scalar.table"], apart := false, laid := [("veil/scalar.table", laid_veil_scalar_table)], narrowed := true }
def ScalarSpelledUptoSaid : Prop := scalarSpelledUptoRow.holds Tryd.pinned (OpenSpec.upto scalarSpelledSpec)

/-- 'veillaw02.ScalarAny', WHERE WHAT IT READS IS OF BULK AT MOST 1048576: true; the input reads as it did. -/
def scalarAnyUptoRow : OpenClaim := { program := "ytnjcbedjhokfhaadoor", sum := "ba07df65641dc80c166a32dba8d2dd38c7b94fe36fc4d691f43a67d7ed2f1759", func := "veil/veillaw02.ScalarAny", spec := "scalarAny", inPlace := ["math/bits.Add64", "math/bits.Sub64"], named := ["veil/scalar.table"], apart := false, laid := [("veil/scalar.table", laid_veil_scalar_table)], narrowed := true }
def ScalarAnyUptoSaid : Prop := scalarAnyUptoRow.holds Tryd.pinned (OpenSpec.upto scalarAnySpec)

end Rows
end Go.Proofs.YtnjcbedjhokfhaaDoor
