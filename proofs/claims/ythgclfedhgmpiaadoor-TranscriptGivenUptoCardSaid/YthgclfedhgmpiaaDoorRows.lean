/-
  NARROWER THAN 'FOR EVERY INPUT', by the rows' own cells (each row's printed sentence says how): TranscriptGiven: laid · TranscriptNames: laid · TranscriptPlays: laid · TranscriptSame: laid · TranscriptScripted: laid · TranscriptNil: laid.
  DERIVED. THE GIVEN ROWS OF THIS SEAT. 6 by the template 'for every input the law returns true; each argument reads behind the call as it read before'; 0 by the template 'total and deterministic' (their statements: YthgclfedhgmpiaaDoorTotals.lean).
  GIVEN WITH THE SEED: the statements are not yours to turn. If you find one false, say at which input.
  Laid BY PROGRAM, IN A SANDBOX (cutbox-rows.mjs): the forced cells as the released guide's own fill.sh prints them over the translation 8935bc481dab7eb2… (all of the seat's roots in one cut). By AI agents, Wed Nov 11 2026. No macro, syntax, notation, axiom, sorry.
-/
import Derived.Test.YthgclfedhgmpiaaDoorChecked
import GoSem.Claim
import GoSem.ClaimJoined
import GoSem.ClaimMapViews
import Derived.JoinedTies
import Derived.KernelRfl
namespace Go.Proofs.YthgclfedhgmpiaaDoor
/- THE CELL 'sum', in the pinned program and in every row, IS THE sha256 OF THE DUMP (.gsa) THAT YthgclfedhgmpiaaDoorProg.lean LOADS. Nothing in Lean hashes anything: it is a label: what it is worth is what the hold of that sum in a sandbox is worth. -/
noncomputable def Tryd.pinned : Pinned := { name := "ythgclfedhgmpiaadoor", sum := "8935bc481dab7eb2df1f5784f72a2cc7ee04c0d332a18281c87fdeeac0d2d0a3", checked := Tryd.checked }
namespace Rows
def none {H : Type} : Left H := { results := [], args := [] }

/- WHAT THE LISTED PACKAGE-LEVEL VARIABLES READ AS WHEN THE CALL BEGINS. Each datum BY PROGRAM (the guide's laid-datum.mjs) off the statement by which the dump's own 'gosem.cut.vars' lays the variable. In a bare row this is a premise. The card (YthgclfedhgmpiaaDoorCards.lean) ties it to the program's text. -/
def laid_veil_scalar_table {H : Type} : DataW H := .agg [.agg [.lit (.int .u64 6346243789798364141), .lit (.int .u64 1503914060200516822), .lit (.int .u64 0), .lit (.int .u64 1152921504606846976)], .agg [.lit (.int .u64 15486807595281847581), .lit (.int .u64 14334777244411350896), .lit (.int .u64 18446744073709551614), .lit (.int .u64 1152921504606846975)], .agg [.lit (.int .u64 11819153939886771969), .lit (.int .u64 14991950615390032711), .lit (.int .u64 14910419812499177061), .lit (.int .u64 259310039853996605)], .agg [.lit (.int .u64 6346243789798364139), .lit (.int .u64 1503914060200516822), .lit (.int .u64 0), .lit (.int .u64 1152921504606846976)]]
def laid_veil_veilref03_round {H : Type} : DataW H := .agg [.lit (.int .u64 4794697086780616226), .lit (.int .u64 8158064640168781261), .lit (.int .u64 13096744586834688815), .lit (.int .u64 16840607885511220156), .lit (.int .u64 4131703408338449720), .lit (.int .u64 6480981068601479193), .lit (.int .u64 10538285296894168987), .lit (.int .u64 12329834152419229976), .lit (.int .u64 15566598209576043074), .lit (.int .u64 1334009975649890238), .lit (.int .u64 2608012711638119052), .lit (.int .u64 6128411473006802146), .lit (.int .u64 8268148722764581231), .lit (.int .u64 9286055187155687089), .lit (.int .u64 11230858885718282805), .lit (.int .u64 13951009754708518548), .lit (.int .u64 16472876342353939154), .lit (.int .u64 17275323862435702243), .lit (.int .u64 1135362057144423861), .lit (.int .u64 2597628984639134821), .lit (.int .u64 3308224258029322869), .lit (.int .u64 5365058923640841347), .lit (.int .u64 6679025012923562964), .lit (.int .u64 8573033837759648693), .lit (.int .u64 10970295158949994411), .lit (.int .u64 12119686244451234320), .lit (.int .u64 12683024718118986047), .lit (.int .u64 13788192230050041572), .lit (.int .u64 14330467153632333762), .lit (.int .u64 15395433587784984357), .lit (.int .u64 489312712824947311), .lit (.int .u64 1452737877330783856), .lit (.int .u64 2861767655752347644), .lit (.int .u64 3322285676063803686), .lit (.int .u64 5560940570517711597), .lit (.int .u64 5996557281743188959), .lit (.int .u64 7280758554555802590), .lit (.int .u64 8532644243296465576), .lit (.int .u64 9350256976987008742), .lit (.int .u64 10552545826968843579), .lit (.int .u64 11727347734174303076), .lit (.int .u64 12113106623233404929), .lit (.int .u64 14000437183269869457), .lit (.int .u64 14369950271660146224), .lit (.int .u64 15101387698204529176), .lit (.int .u64 15463397548674623760), .lit (.int .u64 17586052441742319658), .lit (.int .u64 1182934255886127544), .lit (.int .u64 1847814050463011016), .lit (.int .u64 2177327727835720531), .lit (.int .u64 2830643537854262169), .lit (.int .u64 3796741975233480872), .lit (.int .u64 4115178125766777443), .lit (.int .u64 5681478168544905931), .lit (.int .u64 6601373596472566643), .lit (.int .u64 7507060721942968483), .lit (.int .u64 8399075790359081724), .lit (.int .u64 8693463985226723168), .lit (.int .u64 9568029438360202098), .lit (.int .u64 10144078919501101548), .lit (.int .u64 10430055236837252648), .lit (.int .u64 11840083180663258601), .lit (.int .u64 13761210420658862357), .lit (.int .u64 14299343276471374635), .lit (.int .u64 14566680578165727644), .lit (.int .u64 15097957966210449927), .lit (.int .u64 16922976911328602910), .lit (.int .u64 17689382322260857208), .lit (.int .u64 500013540394364858), .lit (.int .u64 748580250866718886), .lit (.int .u64 1242879168328830382), .lit (.int .u64 1977374033974150939), .lit (.int .u64 2944078676154940804), .lit (.int .u64 3659926193048069267), .lit (.int .u64 4368137639120453308), .lit (.int .u64 4836135668995329356), .lit (.int .u64 5532061633213252278), .lit (.int .u64 6448918945643986474), .lit (.int .u64 6902733635092675308), .lit (.int .u64 7801388544844847127)]
def laid_veil_veilref03_first {H : Type} : DataW H := .agg [.lit (.int .u64 7640891576956012808), .lit (.int .u64 13503953896175478587), .lit (.int .u64 4354685564936845355), .lit (.int .u64 11912009170470909681), .lit (.int .u64 5840696475078001361), .lit (.int .u64 11170449401992604703), .lit (.int .u64 2270897969802886507), .lit (.int .u64 6620516959819538809)]
def laid_veil_hash_rounds {H : Type} : DataW H := .agg [.lit (.int .u64 4794697086780616226), .lit (.int .u64 8158064640168781261), .lit (.int .u64 13096744586834688815), .lit (.int .u64 16840607885511220156), .lit (.int .u64 4131703408338449720), .lit (.int .u64 6480981068601479193), .lit (.int .u64 10538285296894168987), .lit (.int .u64 12329834152419229976), .lit (.int .u64 15566598209576043074), .lit (.int .u64 1334009975649890238), .lit (.int .u64 2608012711638119052), .lit (.int .u64 6128411473006802146), .lit (.int .u64 8268148722764581231), .lit (.int .u64 9286055187155687089), .lit (.int .u64 11230858885718282805), .lit (.int .u64 13951009754708518548), .lit (.int .u64 16472876342353939154), .lit (.int .u64 17275323862435702243), .lit (.int .u64 1135362057144423861), .lit (.int .u64 2597628984639134821), .lit (.int .u64 3308224258029322869), .lit (.int .u64 5365058923640841347), .lit (.int .u64 6679025012923562964), .lit (.int .u64 8573033837759648693), .lit (.int .u64 10970295158949994411), .lit (.int .u64 12119686244451234320), .lit (.int .u64 12683024718118986047), .lit (.int .u64 13788192230050041572), .lit (.int .u64 14330467153632333762), .lit (.int .u64 15395433587784984357), .lit (.int .u64 489312712824947311), .lit (.int .u64 1452737877330783856), .lit (.int .u64 2861767655752347644), .lit (.int .u64 3322285676063803686), .lit (.int .u64 5560940570517711597), .lit (.int .u64 5996557281743188959), .lit (.int .u64 7280758554555802590), .lit (.int .u64 8532644243296465576), .lit (.int .u64 9350256976987008742), .lit (.int .u64 10552545826968843579), .lit (.int .u64 11727347734174303076), .lit (.int .u64 12113106623233404929), .lit (.int .u64 14000437183269869457), .lit (.int .u64 14369950271660146224), .lit (.int .u64 15101387698204529176), .lit (.int .u64 15463397548674623760), .lit (.int .u64 17586052441742319658), .lit (.int .u64 1182934255886127544), .lit (.int .u64 1847814050463011016), .lit (.int .u64 2177327727835720531), .lit (.int .u64 2830643537854262169), .lit (.int .u64 3796741975233480872), .lit (.int .u64 4115178125766777443), .lit (.int .u64 5681478168544905931), .lit (.int .u64 6601373596472566643), .lit (.int .u64 7507060721942968483), .lit (.int .u64 8399075790359081724), .lit (.int .u64 8693463985226723168), .lit (.int .u64 9568029438360202098), .lit (.int .u64 10144078919501101548), .lit (.int .u64 10430055236837252648), .lit (.int .u64 11840083180663258601), .lit (.int .u64 13761210420658862357), .lit (.int .u64 14299343276471374635), .lit (.int .u64 14566680578165727644), .lit (.int .u64 15097957966210449927), .lit (.int .u64 16922976911328602910), .lit (.int .u64 17689382322260857208), .lit (.int .u64 500013540394364858), .lit (.int .u64 748580250866718886), .lit (.int .u64 1242879168328830382), .lit (.int .u64 1977374033974150939), .lit (.int .u64 2944078676154940804), .lit (.int .u64 3659926193048069267), .lit (.int .u64 4368137639120453308), .lit (.int .u64 4836135668995329356), .lit (.int .u64 5532061633213252278), .lit (.int .u64 6448918945643986474), .lit (.int .u64 6902733635092675308), .lit (.int .u64 7801388544844847127)]
def laid_veil_hash_start {H : Type} : DataW H := .agg [.lit (.int .u64 7640891576956012808), .lit (.int .u64 13503953896175478587), .lit (.int .u64 4354685564936845355), .lit (.int .u64 11912009170470909681), .lit (.int .u64 5840696475078001361), .lit (.int .u64 11170449401992604703), .lit (.int .u64 2270897969802886507), .lit (.int .u64 6620516959819538809)]

/-- 'veillaw08.TranscriptGiven': WHATEVER THE INPUT: true; the input reads as it did. -/
def transcriptGivenSpec : ChangeSpec := { name := "transcriptGiven", fn := fun _ => fun
  | [d1, d2] => { results := [.lit (.bool true)], args := [d1, d2] }
  | _ => none }
def transcriptGivenRow : OpenClaim := { program := "ythgclfedhgmpiaadoor", sum := "8935bc481dab7eb2df1f5784f72a2cc7ee04c0d332a18281c87fdeeac0d2d0a3", func := "veil/veillaw08.TranscriptGiven", spec := "transcriptGiven", inPlace := ["math/bits.Add64", "math/bits.Sub64"], named := ["veil/scalar.table"], apart := false, laid := [("veil/scalar.table", laid_veil_scalar_table)] }
def TranscriptGivenSaid : Prop := transcriptGivenRow.holds Tryd.pinned (OpenSpec.ofChange transcriptGivenSpec)

/-- ITS FALSE NEIGHBOUR: 'it returns false'. Refute it at one input. -/
def transcriptGivenWrong : ChangeSpec := { name := "transcriptGiven", fn := fun _ => fun
  | [d1, d2] => { results := [.lit (.bool false)], args := [d1, d2] }
  | _ => none }
def TranscriptGivenWrongFalsely : Prop := transcriptGivenRow.holds Tryd.pinned (OpenSpec.ofChange transcriptGivenWrong)

/-- 'veillaw08.TranscriptNames': WHATEVER THE INPUT: true; the input reads as it did. -/
def transcriptNamesSpec : ChangeSpec := { name := "transcriptNames", fn := fun _ => fun
  | [] => { results := [.lit (.bool true)], args := [] }
  | _ => none }
def transcriptNamesRow : OpenClaim := { program := "ythgclfedhgmpiaadoor", sum := "8935bc481dab7eb2df1f5784f72a2cc7ee04c0d332a18281c87fdeeac0d2d0a3", func := "veil/veillaw08.TranscriptNames", spec := "transcriptNames", named := ["veil/veilref03.first", "veil/veilref03.round", "veil/hash.start", "veil/hash.rounds"], apart := false, laid := [("veil/veilref03.round", laid_veil_veilref03_round), ("veil/veilref03.first", laid_veil_veilref03_first), ("veil/hash.rounds", laid_veil_hash_rounds), ("veil/hash.start", laid_veil_hash_start)] }
def TranscriptNamesSaid : Prop := transcriptNamesRow.holds Tryd.pinned (OpenSpec.ofChange transcriptNamesSpec)

/-- ITS FALSE NEIGHBOUR: 'it returns false'. Refute it at one input. -/
def transcriptNamesWrong : ChangeSpec := { name := "transcriptNames", fn := fun _ => fun
  | [] => { results := [.lit (.bool false)], args := [] }
  | _ => none }
def TranscriptNamesWrongFalsely : Prop := transcriptNamesRow.holds Tryd.pinned (OpenSpec.ofChange transcriptNamesWrong)

/-- 'veillaw08.TranscriptPlays': WHATEVER THE INPUT: true; the input reads as it did. -/
def transcriptPlaysSpec : ChangeSpec := { name := "transcriptPlays", fn := fun _ => fun
  | [d1, d2] => { results := [.lit (.bool true)], args := [d1, d2] }
  | _ => none }
def transcriptPlaysRow : OpenClaim := { program := "ythgclfedhgmpiaadoor", sum := "8935bc481dab7eb2df1f5784f72a2cc7ee04c0d332a18281c87fdeeac0d2d0a3", func := "veil/veillaw08.TranscriptPlays", spec := "transcriptPlays", inPlace := ["math/bits.Add64", "math/bits.Sub64"], named := ["veil/hash.start", "veil/hash.rounds", "veil/veilref03.first", "veil/veilref03.round", "veil/scalar.table"], apart := false, laid := [("veil/veilref03.round", laid_veil_veilref03_round), ("veil/veilref03.first", laid_veil_veilref03_first), ("veil/hash.rounds", laid_veil_hash_rounds), ("veil/hash.start", laid_veil_hash_start), ("veil/scalar.table", laid_veil_scalar_table)] }
def TranscriptPlaysSaid : Prop := transcriptPlaysRow.holds Tryd.pinned (OpenSpec.ofChange transcriptPlaysSpec)

/-- ITS FALSE NEIGHBOUR: 'it returns false'. Refute it at one input. -/
def transcriptPlaysWrong : ChangeSpec := { name := "transcriptPlays", fn := fun _ => fun
  | [d1, d2] => { results := [.lit (.bool false)], args := [d1, d2] }
  | _ => none }
def TranscriptPlaysWrongFalsely : Prop := transcriptPlaysRow.holds Tryd.pinned (OpenSpec.ofChange transcriptPlaysWrong)

/-- 'veillaw08.TranscriptSame': WHATEVER THE INPUT: true; the input reads as it did. -/
def transcriptSameSpec : ChangeSpec := { name := "transcriptSame", fn := fun _ => fun
  | [d1, d2, d3] => { results := [.lit (.bool true)], args := [d1, d2, d3] }
  | _ => none }
def transcriptSameRow : OpenClaim := { program := "ythgclfedhgmpiaadoor", sum := "8935bc481dab7eb2df1f5784f72a2cc7ee04c0d332a18281c87fdeeac0d2d0a3", func := "veil/veillaw08.TranscriptSame", spec := "transcriptSame", inPlace := ["math/bits.Add64", "math/bits.Sub64"], named := ["veil/hash.start", "veil/hash.rounds", "veil/veilref03.first", "veil/veilref03.round", "veil/scalar.table"], apart := false, laid := [("veil/veilref03.round", laid_veil_veilref03_round), ("veil/veilref03.first", laid_veil_veilref03_first), ("veil/hash.rounds", laid_veil_hash_rounds), ("veil/hash.start", laid_veil_hash_start), ("veil/scalar.table", laid_veil_scalar_table)] }
def TranscriptSameSaid : Prop := transcriptSameRow.holds Tryd.pinned (OpenSpec.ofChange transcriptSameSpec)

/-- ITS FALSE NEIGHBOUR: 'it returns false'. Refute it at one input. -/
def transcriptSameWrong : ChangeSpec := { name := "transcriptSame", fn := fun _ => fun
  | [d1, d2, d3] => { results := [.lit (.bool false)], args := [d1, d2, d3] }
  | _ => none }
def TranscriptSameWrongFalsely : Prop := transcriptSameRow.holds Tryd.pinned (OpenSpec.ofChange transcriptSameWrong)

/-- 'veillaw08.TranscriptScripted': WHATEVER THE INPUT: true; the input reads as it did. -/
def transcriptScriptedSpec : ChangeSpec := { name := "transcriptScripted", fn := fun _ => fun
  | [d1, d2] => { results := [.lit (.bool true)], args := [d1, d2] }
  | _ => none }
def transcriptScriptedRow : OpenClaim := { program := "ythgclfedhgmpiaadoor", sum := "8935bc481dab7eb2df1f5784f72a2cc7ee04c0d332a18281c87fdeeac0d2d0a3", func := "veil/veillaw08.TranscriptScripted", spec := "transcriptScripted", inPlace := ["math/bits.Add64", "math/bits.Sub64"], unfollowed := true, recurses := true, named := ["veil/hash.start", "veil/hash.rounds", "veil/scalar.table", "veil/veilref03.first", "veil/veilref03.round"], apart := false, laid := [("veil/veilref03.round", laid_veil_veilref03_round), ("veil/veilref03.first", laid_veil_veilref03_first), ("veil/hash.rounds", laid_veil_hash_rounds), ("veil/hash.start", laid_veil_hash_start), ("veil/scalar.table", laid_veil_scalar_table)] }
def TranscriptScriptedSaid : Prop := transcriptScriptedRow.holds Tryd.pinned (OpenSpec.ofChange transcriptScriptedSpec)

/-- ITS FALSE NEIGHBOUR: 'it returns false'. Refute it at one input. -/
def transcriptScriptedWrong : ChangeSpec := { name := "transcriptScripted", fn := fun _ => fun
  | [d1, d2] => { results := [.lit (.bool false)], args := [d1, d2] }
  | _ => none }
def TranscriptScriptedWrongFalsely : Prop := transcriptScriptedRow.holds Tryd.pinned (OpenSpec.ofChange transcriptScriptedWrong)

/-- 'veillaw08.TranscriptNil': WHATEVER THE INPUT: true; the input reads as it did. -/
def transcriptNilSpec : ChangeSpec := { name := "transcriptNil", fn := fun _ => fun
  | [d1, d2] => { results := [.lit (.bool true)], args := [d1, d2] }
  | _ => none }
def transcriptNilRow : OpenClaim := { program := "ythgclfedhgmpiaadoor", sum := "8935bc481dab7eb2df1f5784f72a2cc7ee04c0d332a18281c87fdeeac0d2d0a3", func := "veil/veillaw08.TranscriptNil", spec := "transcriptNil", inPlace := ["math/bits.Add64", "math/bits.Sub64"], named := ["veil/hash.start", "veil/hash.rounds", "veil/veilref03.first", "veil/veilref03.round", "veil/scalar.table"], apart := false, laid := [("veil/veilref03.round", laid_veil_veilref03_round), ("veil/veilref03.first", laid_veil_veilref03_first), ("veil/hash.rounds", laid_veil_hash_rounds), ("veil/hash.start", laid_veil_hash_start), ("veil/scalar.table", laid_veil_scalar_table)] }
def TranscriptNilSaid : Prop := transcriptNilRow.holds Tryd.pinned (OpenSpec.ofChange transcriptNilSpec)

/-- ITS FALSE NEIGHBOUR: 'it returns false'. Refute it at one input. -/
def transcriptNilWrong : ChangeSpec := { name := "transcriptNil", fn := fun _ => fun
  | [d1, d2] => { results := [.lit (.bool false)], args := [d1, d2] }
  | _ => none }
def TranscriptNilWrongFalsely : Prop := transcriptNilRow.holds Tryd.pinned (OpenSpec.ofChange transcriptNilWrong)

/- THE SECOND FORM. 'bulk': how many values and letters a reading holds, each counted each time it is reached (what is shared counts as often as it is met; a slice's spare places count too). A statement '..UptoSaid' is the law's where the arguments, and the package variables that the reading takes, are together of bulk at most 1048576: NARROWER than '..Said'. Prove '..Said' where nothing that the law and all that it calls make is longer than what came in: it says more and counts as full. Else prove '..UptoSaid'. A law counts once. -/
mutual
def uptoBulk {H : Type} : DataW H → Nat
  | .lit (.string bytes) => bytes.length + 1
  | .lit _ => 1
  | .nil => 1
  | .ptr d => uptoBulk d + 1
  | .slice elems spare => uptoBulkAll elems + uptoBulkAll spare + 1
  | .agg parts => uptoBulkAll parts + 1
  | .iface _ d => uptoBulk d + 1
  | .map entries => uptoBulkEntries entries + 1
  | .held _ => 1
def uptoBulkAll {H : Type} : List (DataW H) → Nat
  | [] => 0
  | d :: r => uptoBulk d + uptoBulkAll r
def uptoBulkEntries {H : Type} : List (Lit × DataW H) → Nat
  | [] => 0
  | x :: r => uptoBulkEntry x + uptoBulkEntries r
def uptoBulkEntry {H : Type} : Lit × DataW H → Nat
  | (.string bytes, d) => bytes.length + uptoBulk d + 1
  | (_, d) => uptoBulk d + 1
 end
def uptoSmall : (H : Type) → List (DataW H) → Bool := fun _ ds => decide (uptoBulkAll ds ≤ 1048576)
def OpenSpec.upto (s : _root_.Go.ChangeSpec) : _root_.Go.OpenSpec := { _root_.Go.OpenSpec.ofChange s with cond := some uptoSmall }

/-- 'veillaw08.TranscriptGiven', WHERE WHAT IT READS IS OF BULK AT MOST 1048576: true; the input reads as it did. -/
def transcriptGivenUptoRow : OpenClaim := { program := "ythgclfedhgmpiaadoor", sum := "8935bc481dab7eb2df1f5784f72a2cc7ee04c0d332a18281c87fdeeac0d2d0a3", func := "veil/veillaw08.TranscriptGiven", spec := "transcriptGiven", inPlace := ["math/bits.Add64", "math/bits.Sub64"], named := ["veil/scalar.table"], apart := false, laid := [("veil/scalar.table", laid_veil_scalar_table)], narrowed := true }
def TranscriptGivenUptoSaid : Prop := transcriptGivenUptoRow.holds Tryd.pinned (OpenSpec.upto transcriptGivenSpec)

/-- 'veillaw08.TranscriptNames', WHERE WHAT IT READS IS OF BULK AT MOST 1048576: true; the input reads as it did. -/
def transcriptNamesUptoRow : OpenClaim := { program := "ythgclfedhgmpiaadoor", sum := "8935bc481dab7eb2df1f5784f72a2cc7ee04c0d332a18281c87fdeeac0d2d0a3", func := "veil/veillaw08.TranscriptNames", spec := "transcriptNames", named := ["veil/veilref03.first", "veil/veilref03.round", "veil/hash.start", "veil/hash.rounds"], apart := false, laid := [("veil/veilref03.round", laid_veil_veilref03_round), ("veil/veilref03.first", laid_veil_veilref03_first), ("veil/hash.rounds", laid_veil_hash_rounds), ("veil/hash.start", laid_veil_hash_start)], narrowed := true }
def TranscriptNamesUptoSaid : Prop := transcriptNamesUptoRow.holds Tryd.pinned (OpenSpec.upto transcriptNamesSpec)

/-- 'veillaw08.TranscriptPlays', WHERE WHAT IT READS IS OF BULK AT MOST 1048576: true; the input reads as it did. -/
def transcriptPlaysUptoRow : OpenClaim := { program := "ythgclfedhgmpiaadoor", sum := "8935bc481dab7eb2df1f5784f72a2cc7ee04c0d332a18281c87fdeeac0d2d0a3", func := "veil/veillaw08.TranscriptPlays", spec := "transcriptPlays", inPlace := ["math/bits.Add64", "math/bits.Sub64"], named := ["veil/hash.start", "veil/hash.rounds", "veil/veilref03.first", "veil/veilref03.round", "veil/scalar.table"], apart := false, laid := [("veil/veilref03.round", laid_veil_veilref03_round), ("veil/veilref03.first", laid_veil_veilref03_first), ("veil/hash.rounds", laid_veil_hash_rounds), ("veil/hash.start", laid_veil_hash_start), ("veil/scalar.table", laid_veil_scalar_table)], narrowed := true }
def TranscriptPlaysUptoSaid : Prop := transcriptPlaysUptoRow.holds Tryd.pinned (OpenSpec.upto transcriptPlaysSpec)

/-- 'veillaw08.TranscriptSame', WHERE WHAT IT READS IS OF BULK AT MOST 1048576: true; the input reads as it did. -/
def transcriptSameUptoRow : OpenClaim := { program := "ythgclfedhgmpiaadoor", sum := "8935bc481dab7eb2df1f5784f72a2cc7ee04c0d332a18281c87fdeeac0d2d0a3", func := "veil/veillaw08.TranscriptSame", spec := "transcriptSame", inPlace := ["math/bits.Add64", "math/bits.Sub64"], named := ["veil/hash.start", "veil/hash.rounds", "veil/veilref03.first", "veil/veilref03.round", "veil/scalar.table"], apart := false, laid := [("veil/veilref03.round", laid_veil_veilref03_round), ("veil/veilref03.first", laid_veil_veilref03_first), ("veil/hash.rounds", laid_veil_hash_rounds), ("veil/hash.start", laid_veil_hash_start), ("veil/scalar.table", laid_veil_scalar_table)], narrowed := true }
def TranscriptSameUptoSaid : Prop := transcriptSameUptoRow.holds Tryd.pinned (OpenSpec.upto transcriptSameSpec)

/-- 'veillaw08.TranscriptScripted', WHERE WHAT IT READS IS OF BULK AT MOST 1048576: true; the input reads as it did. -/
def transcriptScriptedUptoRow : OpenClaim := { program := "ythgclfedhgmpiaadoor", sum := "8935bc481dab7eb2df1f5784f72a2cc7ee04c0d332a18281c87fdeeac0d2d0a3", func := "veil/veillaw08.TranscriptScripted", spec := "transcriptScripted", inPlace := ["math/bits.Add64", "math/bits.Sub64"], unfollowed := true, recurses := true, named := ["veil/hash.start", "veil/hash.rounds", "veil/scalar.table", "veil/veilref03.first", "veil/veilref03.round"], apart := false, laid := [("veil/veilref03.round", laid_veil_veilref03_round), ("veil/veilref03.first", laid_veil_veilref03_first), ("veil/hash.rounds", laid_veil_hash_rounds), ("veil/hash.start", laid_veil_hash_start), ("veil/scalar.table", laid_veil_scalar_table)], narrowed := true }
def TranscriptScriptedUptoSaid : Prop := transcriptScriptedUptoRow.holds Tryd.pinned (OpenSpec.upto transcriptScriptedSpec)

/-- 'veillaw08.TranscriptNil', WHERE WHAT IT READS IS OF BULK AT MOST 1048576: true; the input reads as it did. -/
def transcriptNilUptoRow : OpenClaim := { program := "ythgclfedhgmpiaadoor", sum := "8935bc481dab7eb2df1f5784f72a2cc7ee04c0d332a18281c87fdeeac0d2d0a3", func := "veil/veillaw08.TranscriptNil", spec := "transcriptNil", inPlace := ["math/bits.Add64", "math/bits.Sub64"], named := ["veil/hash.start", "veil/hash.rounds", "veil/veilref03.first", "veil/veilref03.round", "veil/scalar.table"], apart := false, laid := [("veil/veilref03.round", laid_veil_veilref03_round), ("veil/veilref03.first", laid_veil_veilref03_first), ("veil/hash.rounds", laid_veil_hash_rounds), ("veil/hash.start", laid_veil_hash_start), ("veil/scalar.table", laid_veil_scalar_table)], narrowed := true }
def TranscriptNilUptoSaid : Prop := transcriptNilUptoRow.holds Tryd.pinned (OpenSpec.upto transcriptNilSpec)

end Rows
end Go.Proofs.YthgclfedhgmpiaaDoor
