/-
  NARROWER THAN 'FOR EVERY INPUT', by the rows' own cells (each row's printed sentence says how): HashNames: laid · HashSum: laid · HashWrites: laid · HashNil: laid · HashOnce: laid · HashMac: laid · HashKeys: laid · HashStretch: laid · HashLonger: laid · HashRoot: laid · HashTree: laid.
  DERIVED. THE GIVEN ROWS OF THIS SEAT. 11 by the template 'for every input the law returns true; each argument reads behind the call as it read before'; 0 by the template 'total and deterministic' (their statements: YtihihilhfijloaaDoorTotals.lean).
  GIVEN WITH THE SEED: the statements are not yours to turn. If you find one false, say at which input.
  Laid BY PROGRAM, IN A SANDBOX (cutbox-rows.mjs): the forced cells as the released guide's own fill.sh prints them over the translation 943270a6c8d48476… (all of the seat's roots in one cut). By AI agents, Wed Nov 11 2026. No macro, syntax, notation, axiom, sorry.
-/
import Derived.Test.YtihihilhfijloaaDoorChecked
import GoSem.Claim
import GoSem.ClaimJoined
import GoSem.ClaimMapViews
import Derived.JoinedTies
import Derived.KernelRfl
namespace Go.Proofs.YtihihilhfijloaaDoor
/- THE CELL 'sum', in the pinned program and in every row, IS THE sha256 OF THE DUMP (.gsa) THAT YtihihilhfijloaaDoorProg.lean LOADS. Nothing in Lean hashes anything: it is a label: what it is worth is what the hold of that sum in a sandbox is worth. -/
noncomputable def Tryd.pinned : Pinned := { name := "ytihihilhfijloaadoor", sum := "943270a6c8d48476c9e60c901a1ffd3a787d6b2386d9feeaa0d54ebf7baa7482", checked := Tryd.checked }
namespace Rows
def none {H : Type} : Left H := { results := [], args := [] }

/- WHAT THE LISTED PACKAGE-LEVEL VARIABLES READ AS WHEN THE CALL BEGINS. Each datum BY PROGRAM (the guide's laid-datum.mjs) off the statement by which the dump's own 'gosem.cut.vars' lays the variable. In a bare row this is a premise. The card (YtihihilhfijloaaDoorCards.lean) ties it to the program's text. -/
def laid_veil_hash_rounds {H : Type} : DataW H := .agg [.lit (.int .u64 4794697086780616226), .lit (.int .u64 8158064640168781261), .lit (.int .u64 13096744586834688815), .lit (.int .u64 16840607885511220156), .lit (.int .u64 4131703408338449720), .lit (.int .u64 6480981068601479193), .lit (.int .u64 10538285296894168987), .lit (.int .u64 12329834152419229976), .lit (.int .u64 15566598209576043074), .lit (.int .u64 1334009975649890238), .lit (.int .u64 2608012711638119052), .lit (.int .u64 6128411473006802146), .lit (.int .u64 8268148722764581231), .lit (.int .u64 9286055187155687089), .lit (.int .u64 11230858885718282805), .lit (.int .u64 13951009754708518548), .lit (.int .u64 16472876342353939154), .lit (.int .u64 17275323862435702243), .lit (.int .u64 1135362057144423861), .lit (.int .u64 2597628984639134821), .lit (.int .u64 3308224258029322869), .lit (.int .u64 5365058923640841347), .lit (.int .u64 6679025012923562964), .lit (.int .u64 8573033837759648693), .lit (.int .u64 10970295158949994411), .lit (.int .u64 12119686244451234320), .lit (.int .u64 12683024718118986047), .lit (.int .u64 13788192230050041572), .lit (.int .u64 14330467153632333762), .lit (.int .u64 15395433587784984357), .lit (.int .u64 489312712824947311), .lit (.int .u64 1452737877330783856), .lit (.int .u64 2861767655752347644), .lit (.int .u64 3322285676063803686), .lit (.int .u64 5560940570517711597), .lit (.int .u64 5996557281743188959), .lit (.int .u64 7280758554555802590), .lit (.int .u64 8532644243296465576), .lit (.int .u64 9350256976987008742), .lit (.int .u64 10552545826968843579), .lit (.int .u64 11727347734174303076), .lit (.int .u64 12113106623233404929), .lit (.int .u64 14000437183269869457), .lit (.int .u64 14369950271660146224), .lit (.int .u64 15101387698204529176), .lit (.int .u64 15463397548674623760), .lit (.int .u64 17586052441742319658), .lit (.int .u64 1182934255886127544), .lit (.int .u64 1847814050463011016), .lit (.int .u64 2177327727835720531), .lit (.int .u64 2830643537854262169), .lit (.int .u64 3796741975233480872), .lit (.int .u64 4115178125766777443), .lit (.int .u64 5681478168544905931), .lit (.int .u64 6601373596472566643), .lit (.int .u64 7507060721942968483), .lit (.int .u64 8399075790359081724), .lit (.int .u64 8693463985226723168), .lit (.int .u64 9568029438360202098), .lit (.int .u64 10144078919501101548), .lit (.int .u64 10430055236837252648), .lit (.int .u64 11840083180663258601), .lit (.int .u64 13761210420658862357), .lit (.int .u64 14299343276471374635), .lit (.int .u64 14566680578165727644), .lit (.int .u64 15097957966210449927), .lit (.int .u64 16922976911328602910), .lit (.int .u64 17689382322260857208), .lit (.int .u64 500013540394364858), .lit (.int .u64 748580250866718886), .lit (.int .u64 1242879168328830382), .lit (.int .u64 1977374033974150939), .lit (.int .u64 2944078676154940804), .lit (.int .u64 3659926193048069267), .lit (.int .u64 4368137639120453308), .lit (.int .u64 4836135668995329356), .lit (.int .u64 5532061633213252278), .lit (.int .u64 6448918945643986474), .lit (.int .u64 6902733635092675308), .lit (.int .u64 7801388544844847127)]
def laid_veil_hash_start {H : Type} : DataW H := .agg [.lit (.int .u64 7640891576956012808), .lit (.int .u64 13503953896175478587), .lit (.int .u64 4354685564936845355), .lit (.int .u64 11912009170470909681), .lit (.int .u64 5840696475078001361), .lit (.int .u64 11170449401992604703), .lit (.int .u64 2270897969802886507), .lit (.int .u64 6620516959819538809)]
def laid_veil_veilref03_round {H : Type} : DataW H := .agg [.lit (.int .u64 4794697086780616226), .lit (.int .u64 8158064640168781261), .lit (.int .u64 13096744586834688815), .lit (.int .u64 16840607885511220156), .lit (.int .u64 4131703408338449720), .lit (.int .u64 6480981068601479193), .lit (.int .u64 10538285296894168987), .lit (.int .u64 12329834152419229976), .lit (.int .u64 15566598209576043074), .lit (.int .u64 1334009975649890238), .lit (.int .u64 2608012711638119052), .lit (.int .u64 6128411473006802146), .lit (.int .u64 8268148722764581231), .lit (.int .u64 9286055187155687089), .lit (.int .u64 11230858885718282805), .lit (.int .u64 13951009754708518548), .lit (.int .u64 16472876342353939154), .lit (.int .u64 17275323862435702243), .lit (.int .u64 1135362057144423861), .lit (.int .u64 2597628984639134821), .lit (.int .u64 3308224258029322869), .lit (.int .u64 5365058923640841347), .lit (.int .u64 6679025012923562964), .lit (.int .u64 8573033837759648693), .lit (.int .u64 10970295158949994411), .lit (.int .u64 12119686244451234320), .lit (.int .u64 12683024718118986047), .lit (.int .u64 13788192230050041572), .lit (.int .u64 14330467153632333762), .lit (.int .u64 15395433587784984357), .lit (.int .u64 489312712824947311), .lit (.int .u64 1452737877330783856), .lit (.int .u64 2861767655752347644), .lit (.int .u64 3322285676063803686), .lit (.int .u64 5560940570517711597), .lit (.int .u64 5996557281743188959), .lit (.int .u64 7280758554555802590), .lit (.int .u64 8532644243296465576), .lit (.int .u64 9350256976987008742), .lit (.int .u64 10552545826968843579), .lit (.int .u64 11727347734174303076), .lit (.int .u64 12113106623233404929), .lit (.int .u64 14000437183269869457), .lit (.int .u64 14369950271660146224), .lit (.int .u64 15101387698204529176), .lit (.int .u64 15463397548674623760), .lit (.int .u64 17586052441742319658), .lit (.int .u64 1182934255886127544), .lit (.int .u64 1847814050463011016), .lit (.int .u64 2177327727835720531), .lit (.int .u64 2830643537854262169), .lit (.int .u64 3796741975233480872), .lit (.int .u64 4115178125766777443), .lit (.int .u64 5681478168544905931), .lit (.int .u64 6601373596472566643), .lit (.int .u64 7507060721942968483), .lit (.int .u64 8399075790359081724), .lit (.int .u64 8693463985226723168), .lit (.int .u64 9568029438360202098), .lit (.int .u64 10144078919501101548), .lit (.int .u64 10430055236837252648), .lit (.int .u64 11840083180663258601), .lit (.int .u64 13761210420658862357), .lit (.int .u64 14299343276471374635), .lit (.int .u64 14566680578165727644), .lit (.int .u64 15097957966210449927), .lit (.int .u64 16922976911328602910), .lit (.int .u64 17689382322260857208), .lit (.int .u64 500013540394364858), .lit (.int .u64 748580250866718886), .lit (.int .u64 1242879168328830382), .lit (.int .u64 1977374033974150939), .lit (.int .u64 2944078676154940804), .lit (.int .u64 3659926193048069267), .lit (.int .u64 4368137639120453308), .lit (.int .u64 4836135668995329356), .lit (.int .u64 5532061633213252278), .lit (.int .u64 6448918945643986474), .lit (.int .u64 6902733635092675308), .lit (.int .u64 7801388544844847127)]
def laid_veil_veilref03_first {H : Type} : DataW H := .agg [.lit (.int .u64 7640891576956012808), .lit (.int .u64 13503953896175478587), .lit (.int .u64 4354685564936845355), .lit (.int .u64 11912009170470909681), .lit (.int .u64 5840696475078001361), .lit (.int .u64 11170449401992604703), .lit (.int .u64 2270897969802886507), .lit (.int .u64 6620516959819538809)]

/-- 'veillaw03.HashNames': WHATEVER THE INPUT: true; the input reads as it did. -/
def hashNamesSpec : ChangeSpec := { name := "hashNames", fn := fun _ => fun
  | [] => { results := [.lit (.bool true)], args := [] }
  | _ => none }
def hashNamesRow : OpenClaim := { program := "ytihihilhfijloaadoor", sum := "943270a6c8d48476c9e60c901a1ffd3a787d6b2386d9feeaa0d54ebf7baa7482", func := "veil/veillaw03.HashNames", spec := "hashNames", named := ["veil/hash.start", "veil/hash.rounds"], apart := false, laid := [("veil/hash.rounds", laid_veil_hash_rounds), ("veil/hash.start", laid_veil_hash_start)] }
def HashNamesSaid : Prop := hashNamesRow.holds Tryd.pinned (OpenSpec.ofChange hashNamesSpec)

/-- ITS FALSE NEIGHBOUR: 'it returns false'. Refute it at one input. -/
def hashNamesWrong : ChangeSpec := { name := "hashNames", fn := fun _ => fun
  | [] => { results := [.lit (.bool false)], args := [] }
  | _ => none }
def HashNamesWrongFalsely : Prop := hashNamesRow.holds Tryd.pinned (OpenSpec.ofChange hashNamesWrong)

/-- 'veillaw03.HashSum': WHATEVER THE INPUT: true; the input reads as it did. -/
def hashSumSpec : ChangeSpec := { name := "hashSum", fn := fun _ => fun
  | [d] => { results := [.lit (.bool true)], args := [d] }
  | _ => none }
def hashSumRow : OpenClaim := { program := "ytihihilhfijloaadoor", sum := "943270a6c8d48476c9e60c901a1ffd3a787d6b2386d9feeaa0d54ebf7baa7482", func := "veil/veillaw03.HashSum", spec := "hashSum", named := ["veil/hash.start", "veil/hash.rounds", "veil/veilref03.first", "veil/veilref03.round"], apart := false, laid := [("veil/veilref03.round", laid_veil_veilref03_round), ("veil/veilref03.first", laid_veil_veilref03_first), ("veil/hash.rounds", laid_veil_hash_rounds), ("veil/hash.start", laid_veil_hash_start)] }
def HashSumSaid : Prop := hashSumRow.holds Tryd.pinned (OpenSpec.ofChange hashSumSpec)

/-- ITS FALSE NEIGHBOUR: 'it returns false'. Refute it at one input. -/
def hashSumWrong : ChangeSpec := { name := "hashSum", fn := fun _ => fun
  | [d] => { results := [.lit (.bool false)], args := [d] }
  | _ => none }
def HashSumWrongFalsely : Prop := hashSumRow.holds Tryd.pinned (OpenSpec.ofChange hashSumWrong)

/-- 'veillaw03.HashWrites': WHATEVER THE INPUT: true; the input reads as it did. -/
def hashWritesSpec : ChangeSpec := { name := "hashWrites", fn := fun _ => fun
  | [d] => { results := [.lit (.bool true)], args := [d] }
  | _ => none }
def hashWritesRow : OpenClaim := { program := "ytihihilhfijloaadoor", sum := "943270a6c8d48476c9e60c901a1ffd3a787d6b2386d9feeaa0d54ebf7baa7482", func := "veil/veillaw03.HashWrites", spec := "hashWrites", named := ["veil/hash.start", "veil/hash.rounds", "veil/veilref03.first", "veil/veilref03.round"], apart := false, laid := [("veil/veilref03.round", laid_veil_veilref03_round), ("veil/veilref03.first", laid_veil_veilref03_first), ("veil/hash.rounds", laid_veil_hash_rounds), ("veil/hash.start", laid_veil_hash_start)] }
def HashWritesSaid : Prop := hashWritesRow.holds Tryd.pinned (OpenSpec.ofChange hashWritesSpec)

/-- ITS FALSE NEIGHBOUR: 'it returns false'. Refute it at one input. -/
def hashWritesWrong : ChangeSpec := { name := "hashWrites", fn := fun _ => fun
  | [d] => { results := [.lit (.bool false)], args := [d] }
  | _ => none }
def HashWritesWrongFalsely : Prop := hashWritesRow.holds Tryd.pinned (OpenSpec.ofChange hashWritesWrong)

/-- 'veillaw03.HashNil': WHATEVER THE INPUT: true; the input reads as it did. -/
def hashNilSpec : ChangeSpec := { name := "hashNil", fn := fun _ => fun
  | [d] => { results := [.lit (.bool true)], args := [d] }
  | _ => none }
def hashNilRow : OpenClaim := { program := "ytihihilhfijloaadoor", sum := "943270a6c8d48476c9e60c901a1ffd3a787d6b2386d9feeaa0d54ebf7baa7482", func := "veil/veillaw03.HashNil", spec := "hashNil", named := ["veil/hash.start", "veil/hash.rounds"], apart := false, laid := [("veil/hash.rounds", laid_veil_hash_rounds), ("veil/hash.start", laid_veil_hash_start)] }
def HashNilSaid : Prop := hashNilRow.holds Tryd.pinned (OpenSpec.ofChange hashNilSpec)

/-- ITS FALSE NEIGHBOUR: 'it returns false'. Refute it at one input. -/
def hashNilWrong : ChangeSpec := { name := "hashNil", fn := fun _ => fun
  | [d] => { results := [.lit (.bool false)], args := [d] }
  | _ => none }
def HashNilWrongFalsely : Prop := hashNilRow.holds Tryd.pinned (OpenSpec.ofChange hashNilWrong)

/-- 'veillaw03.HashOnce': WHATEVER THE INPUT: true; the input reads as it did. -/
def hashOnceSpec : ChangeSpec := { name := "hashOnce", fn := fun _ => fun
  | [d1, d2, d3] => { results := [.lit (.bool true)], args := [d1, d2, d3] }
  | _ => none }
def hashOnceRow : OpenClaim := { program := "ytihihilhfijloaadoor", sum := "943270a6c8d48476c9e60c901a1ffd3a787d6b2386d9feeaa0d54ebf7baa7482", func := "veil/veillaw03.HashOnce", spec := "hashOnce", named := ["veil/hash.start", "veil/hash.rounds"], apart := false, laid := [("veil/hash.rounds", laid_veil_hash_rounds), ("veil/hash.start", laid_veil_hash_start)] }
def HashOnceSaid : Prop := hashOnceRow.holds Tryd.pinned (OpenSpec.ofChange hashOnceSpec)

/-- ITS FALSE NEIGHBOUR: 'it returns false'. Refute it at one input. -/
def hashOnceWrong : ChangeSpec := { name := "hashOnce", fn := fun _ => fun
  | [d1, d2, d3] => { results := [.lit (.bool false)], args := [d1, d2, d3] }
  | _ => none }
def HashOnceWrongFalsely : Prop := hashOnceRow.holds Tryd.pinned (OpenSpec.ofChange hashOnceWrong)

/-- 'veillaw03.HashMac': WHATEVER THE INPUT: true; the input reads as it did. -/
def hashMacSpec : ChangeSpec := { name := "hashMac", fn := fun _ => fun
  | [d1, d2] => { results := [.lit (.bool true)], args := [d1, d2] }
  | _ => none }
def hashMacRow : OpenClaim := { program := "ytihihilhfijloaadoor", sum := "943270a6c8d48476c9e60c901a1ffd3a787d6b2386d9feeaa0d54ebf7baa7482", func := "veil/veillaw03.HashMac", spec := "hashMac", named := ["veil/hash.start", "veil/hash.rounds", "veil/veilref03.first", "veil/veilref03.round"], apart := false, laid := [("veil/veilref03.round", laid_veil_veilref03_round), ("veil/veilref03.first", laid_veil_veilref03_first), ("veil/hash.rounds", laid_veil_hash_rounds), ("veil/hash.start", laid_veil_hash_start)] }
def HashMacSaid : Prop := hashMacRow.holds Tryd.pinned (OpenSpec.ofChange hashMacSpec)

/-- ITS FALSE NEIGHBOUR: 'it returns false'. Refute it at one input. -/
def hashMacWrong : ChangeSpec := { name := "hashMac", fn := fun _ => fun
  | [d1, d2] => { results := [.lit (.bool false)], args := [d1, d2] }
  | _ => none }
def HashMacWrongFalsely : Prop := hashMacRow.holds Tryd.pinned (OpenSpec.ofChange hashMacWrong)

/-- 'veillaw03.HashKeys': WHATEVER THE INPUT: true; the input reads as it did. -/
def hashKeysSpec : ChangeSpec := { name := "hashKeys", fn := fun _ => fun
  | [d1, d2] => { results := [.lit (.bool true)], args := [d1, d2] }
  | _ => none }
def hashKeysRow : OpenClaim := { program := "ytihihilhfijloaadoor", sum := "943270a6c8d48476c9e60c901a1ffd3a787d6b2386d9feeaa0d54ebf7baa7482", func := "veil/veillaw03.HashKeys", spec := "hashKeys", named := ["veil/hash.start", "veil/hash.rounds"], apart := false, laid := [("veil/hash.rounds", laid_veil_hash_rounds), ("veil/hash.start", laid_veil_hash_start)] }
def HashKeysSaid : Prop := hashKeysRow.holds Tryd.pinned (OpenSpec.ofChange hashKeysSpec)

/-- ITS FALSE NEIGHBOUR: 'it returns false'. Refute it at one input. -/
def hashKeysWrong : ChangeSpec := { name := "hashKeys", fn := fun _ => fun
  | [d1, d2] => { results := [.lit (.bool false)], args := [d1, d2] }
  | _ => none }
def HashKeysWrongFalsely : Prop := hashKeysRow.holds Tryd.pinned (OpenSpec.ofChange hashKeysWrong)

/-- 'veillaw03.HashStretch': WHATEVER THE INPUT: true; the input reads as it did. -/
def hashStretchSpec : ChangeSpec := { name := "hashStretch", fn := fun _ => fun
  | [d1, d2] => { results := [.lit (.bool true)], args := [d1, d2] }
  | _ => none }
def hashStretchRow : OpenClaim := { program := "ytihihilhfijloaadoor", sum := "943270a6c8d48476c9e60c901a1ffd3a787d6b2386d9feeaa0d54ebf7baa7482", func := "veil/veillaw03.HashStretch", spec := "hashStretch", named := ["veil/hash.start", "veil/hash.rounds", "veil/veilref03.first", "veil/veilref03.round"], apart := false, laid := [("veil/veilref03.round", laid_veil_veilref03_round), ("veil/veilref03.first", laid_veil_veilref03_first), ("veil/hash.rounds", laid_veil_hash_rounds), ("veil/hash.start", laid_veil_hash_start)] }
def HashStretchSaid : Prop := hashStretchRow.holds Tryd.pinned (OpenSpec.ofChange hashStretchSpec)

/-- ITS FALSE NEIGHBOUR: 'it returns false'. Refute it at one input. -/
def hashStretchWrong : ChangeSpec := { name := "hashStretch", fn := fun _ => fun
  | [d1, d2] => { results := [.lit (.bool false)], args := [d1, d2] }
  | _ => none }
def HashStretchWrongFalsely : Prop := hashStretchRow.holds Tryd.pinned (OpenSpec.ofChange hashStretchWrong)

/-- 'veillaw03.HashLonger': WHATEVER THE INPUT: true; the input reads as it did. -/
def hashLongerSpec : ChangeSpec := { name := "hashLonger", fn := fun _ => fun
  | [d1, d2, d3] => { results := [.lit (.bool true)], args := [d1, d2, d3] }
  | _ => none }
def hashLongerRow : OpenClaim := { program := "ytihihilhfijloaadoor", sum := "943270a6c8d48476c9e60c901a1ffd3a787d6b2386d9feeaa0d54ebf7baa7482", func := "veil/veillaw03.HashLonger", spec := "hashLonger", named := ["veil/hash.start", "veil/hash.rounds"], apart := false, laid := [("veil/hash.rounds", laid_veil_hash_rounds), ("veil/hash.start", laid_veil_hash_start)] }
def HashLongerSaid : Prop := hashLongerRow.holds Tryd.pinned (OpenSpec.ofChange hashLongerSpec)

/-- ITS FALSE NEIGHBOUR: 'it returns false'. Refute it at one input. -/
def hashLongerWrong : ChangeSpec := { name := "hashLonger", fn := fun _ => fun
  | [d1, d2, d3] => { results := [.lit (.bool false)], args := [d1, d2, d3] }
  | _ => none }
def HashLongerWrongFalsely : Prop := hashLongerRow.holds Tryd.pinned (OpenSpec.ofChange hashLongerWrong)

/-- 'veillaw03.HashRoot': WHATEVER THE INPUT: true; the input reads as it did. -/
def hashRootSpec : ChangeSpec := { name := "hashRoot", fn := fun _ => fun
  | [d] => { results := [.lit (.bool true)], args := [d] }
  | _ => none }
def hashRootRow : OpenClaim := { program := "ytihihilhfijloaadoor", sum := "943270a6c8d48476c9e60c901a1ffd3a787d6b2386d9feeaa0d54ebf7baa7482", func := "veil/veillaw03.HashRoot", spec := "hashRoot", recurses := true, named := ["veil/hash.start", "veil/hash.rounds", "veil/veilref03.first", "veil/veilref03.round"], apart := false, laid := [("veil/veilref03.round", laid_veil_veilref03_round), ("veil/veilref03.first", laid_veil_veilref03_first), ("veil/hash.rounds", laid_veil_hash_rounds), ("veil/hash.start", laid_veil_hash_start)] }
def HashRootSaid : Prop := hashRootRow.holds Tryd.pinned (OpenSpec.ofChange hashRootSpec)

/-- ITS FALSE NEIGHBOUR: 'it returns false'. Refute it at one input. -/
def hashRootWrong : ChangeSpec := { name := "hashRoot", fn := fun _ => fun
  | [d] => { results := [.lit (.bool false)], args := [d] }
  | _ => none }
def HashRootWrongFalsely : Prop := hashRootRow.holds Tryd.pinned (OpenSpec.ofChange hashRootWrong)

/-- 'veillaw03.HashTree': WHATEVER THE INPUT: true; the input reads as it did. -/
def hashTreeSpec : ChangeSpec := { name := "hashTree", fn := fun _ => fun
  | [d] => { results := [.lit (.bool true)], args := [d] }
  | _ => none }
def hashTreeRow : OpenClaim := { program := "ytihihilhfijloaadoor", sum := "943270a6c8d48476c9e60c901a1ffd3a787d6b2386d9feeaa0d54ebf7baa7482", func := "veil/veillaw03.HashTree", spec := "hashTree", recurses := true, named := ["veil/hash.start", "veil/hash.rounds"], apart := false, laid := [("veil/hash.rounds", laid_veil_hash_rounds), ("veil/hash.start", laid_veil_hash_start)] }
def HashTreeSaid : Prop := hashTreeRow.holds Tryd.pinned (OpenSpec.ofChange hashTreeSpec)

/-- ITS FALSE NEIGHBOUR: 'it returns false'. Refute it at one input. -/
def hashTreeWrong : ChangeSpec := { name := "hashTree", fn := fun _ => fun
  | [d] => { results := [.lit (.bool false)], args := [d] }
  | _ => none }
def HashTreeWrongFalsely : Prop := hashTreeRow.holds Tryd.pinned (OpenSpec.ofChange hashTreeWrong)

/- THE SECOND FORM. 'bulk': how many values and letters a reading holds, each counted each time it is reached (what is shared counts as often as it is met; a slice's spare places count too). A statement '..UptoSaid' is the law's where the arguments, and the package variables that the reading takes, are together of bulk at most 1048576: NARROWER than '..Said'. Prove '..Said' where nothing that the law and all that it calls make is longer than what came in: it says more and counts as full. Else prove '..UptoSaid'. A law counts once. -/
mutual
def uptoBulk {H : Type} : DataW H → Nat
  | .lit (.string bytes) => bytes.length + 1
  | .lit _ => 1
  | .nil => 1
  | .ptr d => uptoBulk d + 1
  | .slice elems spare => uptoBulkAll elems + uptoBulkAll spare + 1
  | .agg parts => uptoBulkAll parts + 1
  | .iface _ d => uptoBulk d + 1
  | .map entries => uptoBulkEntries entries + 1
  | .held _ => 1
def uptoBulkAll {H : Type} : List (DataW H) → Nat
  | [] => 0
  | d :: r => uptoBulk d + uptoBulkAll r
def uptoBulkEntries {H : Type} : List (Lit × DataW H) → Nat
  | [] => 0
  | x :: r => uptoBulkEntry x + uptoBulkEntries r
def uptoBulkEntry {H : Type} : Lit × DataW H → Nat
  | (.string bytes, d) => bytes.length + uptoBulk d + 1
  | (_, d) => uptoBulk d + 1
 end
def uptoSmall : (H : Type) → List (DataW H) → Bool := fun _ ds => decide (uptoBulkAll ds ≤ 1048576)
def OpenSpec.upto (s : _root_.Go.ChangeSpec) : _root_.Go.OpenSpec := { _root_.Go.OpenSpec.ofChange s with cond := some uptoSmall }

/-- 'veillaw03.HashNames', WHERE WHAT IT READS IS OF BULK AT MOST 1048576: true; the input reads as it did. -/
def hashNamesUptoRow : OpenClaim := { program := "ytihihilhfijloaadoor", sum := "943270a6c8d48476c9e60c901a1ffd3a787d6b2386d9feeaa0d54ebf7baa7482", func := "veil/veillaw03.HashNames", spec := "hashNames", named := ["veil/hash.start", "veil/hash.rounds"], apart := false, laid := [("veil/hash.rounds", laid_veil_hash_rounds), ("veil/hash.start", laid_veil_hash_start)], narrowed := true }
def HashNamesUptoSaid : Prop := hashNamesUptoRow.holds Tryd.pinned (OpenSpec.upto hashNamesSpec)

/-- 'veillaw03.HashSum', WHERE WHAT IT READS IS OF BULK AT MOST 1048576: true; the input reads as it did. -/
def hashSumUptoRow : OpenClaim := { program := "ytihihilhfijloaadoor", sum := "943270a6c8d48476c9e60c901a1ffd3a787d6b2386d9feeaa0d54ebf7baa7482", func := "veil/veillaw03.HashSum", spec := "hashSum", named := ["veil/hash.start", "veil/hash.rounds", "veil/veilref03.first", "veil/veilref03.round"], apart := false, laid := [("veil/veilref03.round", laid_veil_veilref03_round), ("veil/veilref03.first", laid_veil_veilref03_first), ("veil/hash.rounds", laid_veil_hash_rounds), ("veil/hash.start", laid_veil_hash_start)], narrowed := true }
def HashSumUptoSaid : Prop := hashSumUptoRow.holds Tryd.pinned (OpenSpec.upto hashSumSpec)

/-- 'veillaw03.HashWrites', WHERE WHAT IT READS IS OF BULK AT MOST 1048576: true; the input reads as it did. -/
def hashWritesUptoRow : OpenClaim := { program := "ytihihilhfijloaadoor", sum := "943270a6c8d48476c9e60c901a1ffd3a787d6b2386d9feeaa0d54ebf7baa7482", func := "veil/veillaw03.HashWrites", spec := "hashWrites", named := ["veil/hash.start", "veil/hash.rounds", "veil/veilref03.first", "veil/veilref03.round"], apart := false, laid := [("veil/veilref03.round", laid_veil_veilref03_round), ("veil/veilref03.first", laid_veil_veilref03_first), ("veil/hash.rounds", laid_veil_hash_rounds), ("veil/hash.start", laid_veil_hash_start)], narrowed := true }
def HashWritesUptoSaid : Prop := hashWritesUptoRow.holds Tryd.pinned (OpenSpec.upto hashWritesSpec)

/-- 'veillaw03.HashNil', WHERE WHAT IT READS IS OF BULK AT MOST 1048576: true; the input reads as it did. -/
def hashNilUptoRow : OpenClaim := { program := "ytihihilhfijloaadoor", sum := "943270a6c8d48476c9e60c901a1ffd3a787d6b2386d9feeaa0d54ebf7baa7482", func := "veil/veillaw03.HashNil", spec := "hashNil", named := ["veil/hash.start", "veil/hash.rounds"], apart := false, laid := [("veil/hash.rounds", laid_veil_hash_rounds), ("veil/hash.start", laid_veil_hash_start)], narrowed := true }
def HashNilUptoSaid : Prop := hashNilUptoRow.holds Tryd.pinned (OpenSpec.upto hashNilSpec)

/-- 'veillaw03.HashOnce', WHERE WHAT IT READS IS OF BULK AT MOST 1048576: true; the input reads as it did. -/
def hashOnceUptoRow : OpenClaim := { program := "ytihihilhfijloaadoor", sum := "943270a6c8d48476c9e60c901a1ffd3a787d6b2386d9feeaa0d54ebf7baa7482", func := "veil/veillaw03.HashOnce", spec := "hashOnce", named := ["veil/hash.start", "veil/hash.rounds"], apart := false, laid := [("veil/hash.rounds", laid_veil_hash_rounds), ("veil/hash.start", laid_veil_hash_start)], narrowed := true }
def HashOnceUptoSaid : Prop := hashOnceUptoRow.holds Tryd.pinned (OpenSpec.upto hashOnceSpec)

/-- 'veillaw03.HashMac', WHERE WHAT IT READS IS OF BULK AT MOST 1048576: true; the input reads as it did. -/
def hashMacUptoRow : OpenClaim := { program := "ytihihilhfijloaadoor", sum := "943270a6c8d48476c9e60c901a1ffd3a787d6b2386d9feeaa0d54ebf7baa7482", func := "veil/veillaw03.HashMac", spec := "hashMac", named := ["veil/hash.start", "veil/hash.rounds", "veil/veilref03.first", "veil/veilref03.round"], apart := false, laid := [("veil/veilref03.round", laid_veil_veilref03_round), ("veil/veilref03.first", laid_veil_veilref03_first), ("veil/hash.rounds", laid_veil_hash_rounds), ("veil/hash.start", laid_veil_hash_start)], narrowed := true }
def HashMacUptoSaid : Prop := hashMacUptoRow.holds Tryd.pinned (OpenSpec.upto hashMacSpec)

/-- 'veillaw03.HashKeys', WHERE WHAT IT READS IS OF BULK AT MOST 1048576: true; the input reads as it did. -/
def hashKeysUptoRow : OpenClaim := { program := "ytihihilhfijloaadoor", sum := "943270a6c8d48476c9e60c901a1ffd3a787d6b2386d9feeaa0d54ebf7baa7482", func := "veil/veillaw03.HashKeys", spec := "hashKeys", named := ["veil/hash.start", "veil/hash.rounds"], apart := false, laid := [("veil/hash.rounds", laid_veil_hash_rounds), ("veil/hash.start", laid_veil_hash_start)], narrowed := true }
def HashKeysUptoSaid : Prop := hashKeysUptoRow.holds Tryd.pinned (OpenSpec.upto hashKeysSpec)

/-- 'veillaw03.HashStretch', WHERE WHAT IT READS IS OF BULK AT MOST 1048576: true; the input reads as it did. -/
def hashStretchUptoRow : OpenClaim := { program := "ytihihilhfijloaadoor", sum := "943270a6c8d48476c9e60c901a1ffd3a787d6b2386d9feeaa0d54ebf7baa7482", func := "veil/veillaw03.HashStretch", spec := "hashStretch", named := ["veil/hash.start", "veil/hash.rounds", "veil/veilref03.first", "veil/veilref03.round"], apart := false, laid := [("veil/veilref03.round", laid_veil_veilref03_round), ("veil/veilref03.first", laid_veil_veilref03_first), ("veil/hash.rounds", laid_veil_hash_rounds), ("veil/hash.start", laid_veil_hash_start)], narrowed := true }
def HashStretchUptoSaid : Prop := hashStretchUptoRow.holds Tryd.pinned (OpenSpec.upto hashStretchSpec)

/-- 'veillaw03.HashLonger', WHERE WHAT IT READS IS OF BULK AT MOST 1048576: true; the input reads as it did. -/
def hashLongerUptoRow : OpenClaim := { program := "ytihihilhfijloaadoor", sum := "943270a6c8d48476c9e60c901a1ffd3a787d6b2386d9feeaa0d54ebf7baa7482", func := "veil/veillaw03.HashLonger", spec := "hashLonger", named := ["veil/hash.start", "veil/hash.rounds"], apart := false, laid := [("veil/hash.rounds", laid_veil_hash_rounds), ("veil/hash.start", laid_veil_hash_start)], narrowed := true }
def HashLongerUptoSaid : Prop := hashLongerUptoRow.holds Tryd.pinned (OpenSpec.upto hashLongerSpec)

/-- 'veillaw03.HashRoot', WHERE WHAT IT READS IS OF BULK AT MOST 1048576: true; the input reads as it did. -/
def hashRootUptoRow : OpenClaim := { program := "ytihihilhfijloaadoor", sum := "943270a6c8d48476c9e60c901a1ffd3a787d6b2386d9feeaa0d54ebf7baa7482", func := "veil/veillaw03.HashRoot", spec := "hashRoot", recurses := true, named := ["veil/hash.start", "veil/hash.rounds", "veil/veilref03.first", "veil/veilref03.round"], apart := false, laid := [("veil/veilref03.round", laid_veil_veilref03_round), ("veil/veilref03.first", laid_veil_veilref03_first), ("veil/hash.rounds", laid_veil_hash_rounds), ("veil/hash.start", laid_veil_hash_start)], narrowed := true }
def HashRootUptoSaid : Prop := hashRootUptoRow.holds Tryd.pinned (OpenSpec.upto hashRootSpec)

/-- 'veillaw03.HashTree', WHERE WHAT IT READS IS OF BULK AT MOST 1048576: true; the input reads as it did. -/
def hashTreeUptoRow : OpenClaim := { program := "ytihihilhfijloaadoor", sum := "943270a6c8d48476c9e60c901a1ffd3a787d6b2386d9feeaa0d54ebf7baa7482", func := "veil/veillaw03.HashTree", spec := "hashTree", recurses := true, named := ["veil/hash.start", "veil/hash.rounds"], apart := false, laid := [("veil/hash.rounds", laid_veil_hash_rounds), ("veil/hash.start", laid_veil_hash_start)], narrowed := true }
def HashTreeUptoSaid : Prop := hashTreeUptoRow.holds Tryd.pinned (OpenSpec.upto hashTreeSpec)

end Rows
end Go.Proofs.YtihihilhfijloaaDoor
