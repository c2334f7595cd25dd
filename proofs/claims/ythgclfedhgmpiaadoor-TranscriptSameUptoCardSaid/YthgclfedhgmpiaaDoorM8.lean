/- TranscriptSame: two transcripts of one label to which the same is said draw the same, whatever is said to others and to a fork of the first in between. For labels, parts and sayings that are not more than the second form's bound. The tables lie as the program's text lays them. -/
import Derived.Test.YthgclfedhgmpiaaDoorM6
import Derived.Test.YthgclfedhgmpiaaDoorM7
import Derived.Stop.LaidErr
import Derived.Test.YthgclfedhgmpiaaDoorM5
import Derived.Test.YthgclfedhgmpiaaDoorRows

/- The tables of both packages, and their cells in a row's world. -/
namespace Go.Gx
open Go.Proofs Go.Sp Go.Proofs.YthgclfedhgmpiaaDoor
open Go.ChangeShapes Go.WideShapes Go.ChangeAt Go.RowKit
set_option linter.unusedVariables false

theorem glob_of {W : World} {name : String} {k : IntKind} {zs : List Int} {g : Nat} (hg : Tryd.prog.globalNamed name = some g) (h : Lib.TabIs Tryd.prog W name k zs) : W.rangeAt g 0 (zs.map (Value.int k)) ∧ g < W.heap.size := by
  have hv : W.var? Tryd.prog name = some (zs.map fun z => Value.int k z).toArray := h
  constructor
  · intro j v hj
    have := World.var?_cell hg hv j
    rw [Nat.zero_add, this]
    simpa using hj
  · unfold World.var? at hv
    rw [hg] at hv
    simp only [Option.bind_some] at hv
    split at hv
    · rename_i hh
      exact (Array.getElem?_eq_some_iff.1 hh).1
    · cases hv

theorem all_u64 {l : List Int} (h : (l.all fun z => decide (0 ≤ z) && decide (z < 18446744073709551616)) = true) : AllR .u64 l := fun z hz => by
  have := List.all_eq_true.1 h z hz
  simpa [InR] using this
theorem start_ok : start8.length = 8 ∧ AllR .u64 start8 := ⟨rfl, all_u64 (by decide +kernel)⟩
theorem rounds_ok : K80.length = 80 ∧ AllR .u64 K80 := ⟨by decide +kernel, all_u64 (by decide +kernel)⟩

def layC (cs : Array Value) : Obj → Obj
  | .cells _ t frozen => .cells cs t frozen
  | o => o
theorem own : ownKnob Tryd.prog.godebug = none := by kernel_rfl
theorem laidOut : laidOutB Tryd.prog = true := by kernel_rfl


theorem tab_glob4 {W : World} (h : laidMetH Tryd.prog [("veil/veilref03.round", Rows.laid_veil_veilref03_round), ("veil/veilref03.first", Rows.laid_veil_veilref03_first), ("veil/hash.rounds", Rows.laid_veil_hash_rounds), ("veil/hash.start", Rows.laid_veil_hash_start)] W) : Glob gh4 W fun _ => False := by
  have h' : laidMet Tryd.prog (("veil/veilref03.round", Lib.tabData .u64 K80) :: ("veil/veilref03.first", Lib.tabData .u64 start8) :: ("veil/hash.rounds", Lib.tabData .u64 K80) :: ("veil/hash.start", Lib.tabData .u64 start8) :: []) W := h
  obtain ⟨c1, c2⟩ := glob_of (g := 2) (by kernel_rfl) (Lib.tabIs_of_head (n := 80) (g := 2) (t := 109) (e := 25) (by kernel_rfl) (by kernel_rfl) (by kernel_rfl) (by kernel_rfl) (by kernel_rfl) (by kernel_rfl) h')
  have h' := laidMet.tail h'
  obtain ⟨d1, d2⟩ := glob_of (g := 0) (by kernel_rfl) (Lib.tabIs_of_head (n := 8) (g := 0) (t := 90) (e := 25) (by kernel_rfl) (by kernel_rfl) (by kernel_rfl) (by kernel_rfl) (by kernel_rfl) (by kernel_rfl) h')
  have h' := laidMet.tail h'
  obtain ⟨a1, a2⟩ := glob_of (g := 4) (by kernel_rfl) (Lib.tabIs_of_head (n := 80) (g := 4) (t := 109) (e := 25) (by kernel_rfl) (by kernel_rfl) (by kernel_rfl) (by kernel_rfl) (by kernel_rfl) (by kernel_rfl) h')
  obtain ⟨b1, b2⟩ := glob_of (g := 3) (by kernel_rfl) (Lib.tabIs_of_head (n := 8) (g := 3) (t := 90) (e := 25) (by kernel_rfl) (by kernel_rfl) (by kernel_rfl) (by kernel_rfl) (by kernel_rfl) (by kernel_rfl) (laidMet.tail h'))
  intro g b hb
  have hb : (g, b) ∈ [(3, SB.segs true [.arr .u64 8 true start8]), (0, .segs true [.arr .u64 8 true start8]), (4, .segs true [.arr .u64 80 false K80]), (2, .segs true [.arr .u64 80 false K80])] := hb
  simp only [List.mem_cons, List.not_mem_nil, or_false, Prod.mk.injEq] at hb
  rcases hb with ⟨rfl, rfl⟩ | ⟨rfl, rfl⟩ | ⟨rfl, rfl⟩ | ⟨rfl, rfl⟩
  · exact ⟨_, _, rfl, ⟨_, _, ⟨start_ok.1, start_ok.2, rfl⟩, (List.append_nil _).symm, rfl⟩, b1, fun x => x, b2⟩
  · exact ⟨_, _, rfl, ⟨_, _, ⟨start_ok.1, start_ok.2, rfl⟩, (List.append_nil _).symm, rfl⟩, d1, fun x => x, d2⟩
  · exact ⟨_, _, rfl, ⟨_, _, ⟨rounds_ok.1, rounds_ok.2, rfl⟩, (List.append_nil _).symm, rfl⟩, a1, fun x => x, a2⟩
  · exact ⟨_, _, rfl, ⟨_, _, ⟨rounds_ok.1, rounds_ok.2, rfl⟩, (List.append_nil _).symm, rfl⟩, c1, fun x => x, c2⟩

theorem tab_glob5 {W : World} (h : laidMetH Tryd.prog [("veil/veilref03.round", Rows.laid_veil_veilref03_round), ("veil/veilref03.first", Rows.laid_veil_veilref03_first), ("veil/hash.rounds", Rows.laid_veil_hash_rounds), ("veil/hash.start", Rows.laid_veil_hash_start), ("veil/scalar.table", Rows.laid_veil_scalar_table)] W) : Glob gh4 W fun _ => False := by
  have h' : laidMet Tryd.prog (("veil/veilref03.round", Lib.tabData .u64 K80) :: ("veil/veilref03.first", Lib.tabData .u64 start8) :: ("veil/hash.rounds", Lib.tabData .u64 K80) :: ("veil/hash.start", Lib.tabData .u64 start8) :: [("veil/scalar.table", Rows.laid_veil_scalar_table)]) W := h
  obtain ⟨c1, c2⟩ := glob_of (g := 2) (by kernel_rfl) (Lib.tabIs_of_head (n := 80) (g := 2) (t := 109) (e := 25) (by kernel_rfl) (by kernel_rfl) (by kernel_rfl) (by kernel_rfl) (by kernel_rfl) (by kernel_rfl) h')
  have h' := laidMet.tail h'
  obtain ⟨d1, d2⟩ := glob_of (g := 0) (by kernel_rfl) (Lib.tabIs_of_head (n := 8) (g := 0) (t := 90) (e := 25) (by kernel_rfl) (by kernel_rfl) (by kernel_rfl) (by kernel_rfl) (by kernel_rfl) (by kernel_rfl) h')
  have h' := laidMet.tail h'
  obtain ⟨a1, a2⟩ := glob_of (g := 4) (by kernel_rfl) (Lib.tabIs_of_head (n := 80) (g := 4) (t := 109) (e := 25) (by kernel_rfl) (by kernel_rfl) (by kernel_rfl) (by kernel_rfl) (by kernel_rfl) (by kernel_rfl) h')
  obtain ⟨b1, b2⟩ := glob_of (g := 3) (by kernel_rfl) (Lib.tabIs_of_head (n := 8) (g := 3) (t := 90) (e := 25) (by kernel_rfl) (by kernel_rfl) (by kernel_rfl) (by kernel_rfl) (by kernel_rfl) (by kernel_rfl) (laidMet.tail h'))
  intro g b hb
  have hb : (g, b) ∈ [(3, SB.segs true [.arr .u64 8 true start8]), (0, .segs true [.arr .u64 8 true start8]), (4, .segs true [.arr .u64 80 false K80]), (2, .segs true [.arr .u64 80 false K80])] := hb
  simp only [List.mem_cons, List.not_mem_nil, or_false, Prod.mk.injEq] at hb
  rcases hb with ⟨rfl, rfl⟩ | ⟨rfl, rfl⟩ | ⟨rfl, rfl⟩ | ⟨rfl, rfl⟩
  · exact ⟨_, _, rfl, ⟨_, _, ⟨start_ok.1, start_ok.2, rfl⟩, (List.append_nil _).symm, rfl⟩, b1, fun x => x, b2⟩
  · exact ⟨_, _, rfl, ⟨_, _, ⟨start_ok.1, start_ok.2, rfl⟩, (List.append_nil _).symm, rfl⟩, d1, fun x => x, d2⟩
  · exact ⟨_, _, rfl, ⟨_, _, ⟨rounds_ok.1, rounds_ok.2, rfl⟩, (List.append_nil _).symm, rfl⟩, a1, fun x => x, a2⟩
  · exact ⟨_, _, rfl, ⟨_, _, ⟨rounds_ok.1, rounds_ok.2, rfl⟩, (List.append_nil _).symm, rfl⟩, c1, fun x => x, c2⟩

/-- A world for the witness: the settled one, the tables laid. -/
noncomputable def laidWorld4 (os : Os) : World :=
  { World.holding Tryd.prog os ⟨#[], #[], []⟩ with heap := ((((World.holding Tryd.prog os ⟨#[], #[], []⟩).heap.modify 3 (layC #[.int .u64 7640891576956012808, .int .u64 13503953896175478587, .int .u64 4354685564936845355, .int .u64 11912009170470909681, .int .u64 5840696475078001361, .int .u64 11170449401992604703, .int .u64 2270897969802886507, .int .u64 6620516959819538809])).modify 0 (layC #[.int .u64 7640891576956012808, .int .u64 13503953896175478587, .int .u64 4354685564936845355, .int .u64 11912009170470909681, .int .u64 5840696475078001361, .int .u64 11170449401992604703, .int .u64 2270897969802886507, .int .u64 6620516959819538809])).modify 4 (layC #[.int .u64 4794697086780616226, .int .u64 8158064640168781261, .int .u64 13096744586834688815, .int .u64 16840607885511220156, .int .u64 4131703408338449720, .int .u64 6480981068601479193, .int .u64 10538285296894168987, .int .u64 12329834152419229976, .int .u64 15566598209576043074, .int .u64 1334009975649890238, .int .u64 2608012711638119052, .int .u64 6128411473006802146, .int .u64 8268148722764581231, .int .u64 9286055187155687089, .int .u64 11230858885718282805, .int .u64 13951009754708518548, .int .u64 16472876342353939154, .int .u64 17275323862435702243, .int .u64 1135362057144423861, .int .u64 2597628984639134821, .int .u64 3308224258029322869, .int .u64 5365058923640841347, .int .u64 6679025012923562964, .int .u64 8573033837759648693, .int .u64 10970295158949994411, .int .u64 12119686244451234320, .int .u64 12683024718118986047, .int .u64 13788192230050041572, .int .u64 14330467153632333762, .int .u64 15395433587784984357, .int .u64 489312712824947311, .int .u64 1452737877330783856, .int .u64 2861767655752347644, .int .u64 3322285676063803686, .int .u64 5560940570517711597, .int .u64 5996557281743188959, .int .u64 7280758554555802590, .int .u64 8532644243296465576, .int .u64 9350256976987008742, .int .u64 10552545826968843579, .int .u64 11727347734174303076, .int .u64 12113106623233404929, .int .u64 14000437183269869457, .int .u64 14369950271660146224, .int .u64 15101387698204529176, .int .u64 15463397548674623760, .int .u64 17586052441742319658, .int .u64 1182934255886127544, .int .u64 1847814050463011016, .int .u64 2177327727835720531, .int .u64 2830643537854262169, .int .u64 3796741975233480872, .int .u64 4115178125766777443, .int .u64 5681478168544905931, .int .u64 6601373596472566643, .int .u64 7507060721942968483, .int .u64 8399075790359081724, .int .u64 8693463985226723168, .int .u64 9568029438360202098, .int .u64 10144078919501101548, .int .u64 10430055236837252648, .int .u64 11840083180663258601, .int .u64 13761210420658862357, .int .u64 14299343276471374635, .int .u64 14566680578165727644, .int .u64 15097957966210449927, .int .u64 16922976911328602910, .int .u64 17689382322260857208, .int .u64 500013540394364858, .int .u64 748580250866718886, .int .u64 1242879168328830382, .int .u64 1977374033974150939, .int .u64 2944078676154940804, .int .u64 3659926193048069267, .int .u64 4368137639120453308, .int .u64 4836135668995329356, .int .u64 5532061633213252278, .int .u64 6448918945643986474, .int .u64 6902733635092675308, .int .u64 7801388544844847127])).modify 2 (layC #[.int .u64 4794697086780616226, .int .u64 8158064640168781261, .int .u64 13096744586834688815, .int .u64 16840607885511220156, .int .u64 4131703408338449720, .int .u64 6480981068601479193, .int .u64 10538285296894168987, .int .u64 12329834152419229976, .int .u64 15566598209576043074, .int .u64 1334009975649890238, .int .u64 2608012711638119052, .int .u64 6128411473006802146, .int .u64 8268148722764581231, .int .u64 9286055187155687089, .int .u64 11230858885718282805, .int .u64 13951009754708518548, .int .u64 16472876342353939154, .int .u64 17275323862435702243, .int .u64 1135362057144423861, .int .u64 2597628984639134821, .int .u64 3308224258029322869, .int .u64 5365058923640841347, .int .u64 6679025012923562964, .int .u64 8573033837759648693, .int .u64 10970295158949994411, .int .u64 12119686244451234320, .int .u64 12683024718118986047, .int .u64 13788192230050041572, .int .u64 14330467153632333762, .int .u64 15395433587784984357, .int .u64 489312712824947311, .int .u64 1452737877330783856, .int .u64 2861767655752347644, .int .u64 3322285676063803686, .int .u64 5560940570517711597, .int .u64 5996557281743188959, .int .u64 7280758554555802590, .int .u64 8532644243296465576, .int .u64 9350256976987008742, .int .u64 10552545826968843579, .int .u64 11727347734174303076, .int .u64 12113106623233404929, .int .u64 14000437183269869457, .int .u64 14369950271660146224, .int .u64 15101387698204529176, .int .u64 15463397548674623760, .int .u64 17586052441742319658, .int .u64 1182934255886127544, .int .u64 1847814050463011016, .int .u64 2177327727835720531, .int .u64 2830643537854262169, .int .u64 3796741975233480872, .int .u64 4115178125766777443, .int .u64 5681478168544905931, .int .u64 6601373596472566643, .int .u64 7507060721942968483, .int .u64 8399075790359081724, .int .u64 8693463985226723168, .int .u64 9568029438360202098, .int .u64 10144078919501101548, .int .u64 10430055236837252648, .int .u64 11840083180663258601, .int .u64 13761210420658862357, .int .u64 14299343276471374635, .int .u64 14566680578165727644, .int .u64 15097957966210449927, .int .u64 16922976911328602910, .int .u64 17689382322260857208, .int .u64 500013540394364858, .int .u64 748580250866718886, .int .u64 1242879168328830382, .int .u64 1977374033974150939, .int .u64 2944078676154940804, .int .u64 3659926193048069267, .int .u64 4368137639120453308, .int .u64 4836135668995329356, .int .u64 5532061633213252278, .int .u64 6448918945643986474, .int .u64 6902733635092675308, .int .u64 7801388544844847127]) }
noncomputable def laidWorld5 (os : Os) : World :=
  { laidWorld4 os with heap := (laidWorld4 os).heap.modify 1 (layC #[.int .u64 6346243789798364141, .int .u64 1503914060200516822, .int .u64 0, .int .u64 1152921504606846976, .int .u64 15486807595281847581, .int .u64 14334777244411350896, .int .u64 18446744073709551614, .int .u64 1152921504606846975, .int .u64 11819153939886771969, .int .u64 14991950615390032711, .int .u64 14910419812499177061, .int .u64 259310039853996605, .int .u64 6346243789798364139, .int .u64 1503914060200516822, .int .u64 0, .int .u64 1152921504606846976]) }
end Go.Gx

/- The tables of all, and their cells in a row's world. -/
namespace Go.Gx
open Go.Proofs Go.Sp Go.Proofs.YthgclfedhgmpiaaDoor
open Go.ChangeShapes Go.WideShapes Go.ChangeAt Go.RowKit
set_option linter.unusedVariables false

theorem gTab : Tryd.prog.globalNamed "veil/scalar.table" = some 1 := by kernel_rfl
theorem gTabType : (Tryd.prog.globals[1]?).map (·.type) = some 102 := by kernel_rfl
def tabRows : List (List Int) := [[6346243789798364141, 1503914060200516822, 0, 1152921504606846976], [15486807595281847581, 14334777244411350896, 18446744073709551614, 1152921504606846975], [11819153939886771969, 14991950615390032711, 14910419812499177061, 259310039853996605], [6346243789798364139, 1503914060200516822, 0, 1152921504606846976]]

theorem tab_glob6 {W : World} (h : laidMetH Tryd.prog [("veil/veilref03.round", Rows.laid_veil_veilref03_round), ("veil/veilref03.first", Rows.laid_veil_veilref03_first), ("veil/hash.rounds", Rows.laid_veil_hash_rounds), ("veil/hash.start", Rows.laid_veil_hash_start), ("veil/scalar.table", Rows.laid_veil_scalar_table)] W) : Glob gh5 W fun _ => False := by
  intro g b hb
  rcases List.mem_append.1 hb with hb | hb
  · exact tab_glob5 h g b hb
  have h' : laidMet Tryd.prog (("veil/veilref03.round", Lib.tabData .u64 K80) :: ("veil/veilref03.first", Lib.tabData .u64 start8) :: ("veil/hash.rounds", Lib.tabData .u64 K80) :: ("veil/hash.start", Lib.tabData .u64 start8) :: ("veil/scalar.table", .agg (tabRows.map (Lib.tabData .u64))) :: []) W := h
  have h' := laidMet.tail (laidMet.tail (laidMet.tail (laidMet.tail h')))
  obtain ⟨h1, h2⟩ := tab2_of_head (m := 4) (n := 4) gTab gTabType (e1 := 27) (e := 25) (by kernel_rfl) (by kernel_rfl) (by kernel_rfl) (by kernel_rfl) (by kernel_rfl) (by kernel_rfl) h'
  simp only [Sc.gh, List.mem_singleton, Prod.mk.injEq] at hb
  obtain ⟨rfl, rfl⟩ := hb
  refine ⟨_, _, rfl, ?_, h1, fun x => x, h2⟩
  have ok : ∀ r ∈ tabRows, r.length = 4 ∧ AllR .u64 r := by
    intro r hr
    simp only [tabRows, List.mem_cons, List.not_mem_nil, or_false] at hr
    rcases hr with rfl | rfl | rfl | rfl <;> refine ⟨rfl, fun z hz => ?_⟩ <;> simp only [List.mem_cons, List.not_mem_nil, or_false] at hz <;> rcases hz with rfl | rfl | rfl | rfl <;> exact ⟨by decide, by decide⟩
  have o0 := ok _ (List.mem_of_getElem? (show tabRows[0]? = some _ from rfl))
  have o1 := ok _ (List.mem_of_getElem? (show tabRows[1]? = some _ from rfl))
  have o2 := ok _ (List.mem_of_getElem? (show tabRows[2]? = some _ from rfl))
  have o3 := ok _ (List.mem_of_getElem? (show tabRows[3]? = some _ from rfl))
  exact ⟨_, _, ⟨o0.1, o0.2, rfl⟩, rfl, _, _, ⟨o1.1, o1.2, rfl⟩, rfl, _, _, ⟨o2.1, o2.2, rfl⟩, rfl, _, _, ⟨o3.1, o3.2, rfl⟩, rfl, rfl⟩

end Go.Gx

/- A law off a world that holds the globals: its arguments as data that is only read. -/
namespace Go.Gx
open Go.RowKit Go.ChangeShapes Go.WideShapes Go.ChangeAt
open Go.Proofs.YthgclfedhgmpiaaDoor.Rows (uptoBulk uptoBulkAll uptoSmall)
set_option linter.unusedVariables false

mutual
def shTyB (P : Program) : Sh → TypeId → Bool
  | .i k, t => (match P.underlying t with | some (.int k') => keq k k' | _ => false)
  | .tb, t => (match P.underlying t with | some .bool => true | _ => false)
  | .ts, t => (match P.underlying t with | some .string => true | _ => false)
  | .ints k, t => (match P.underlying t with
    | some (.slice e) => (match P.underlying e with | some (.int k') => keq k k' && (Nat.beq (P.cellsOf e) 1 && Nat.blt 0 (P.bytesOf e)) | _ => false)
    | _ => false)
  | .l sh, t => (match P.underlying t with
    | some (.slice e) => shTyB P sh e && (Nat.beq (P.cellsOf e) (shSize sh) && (Nat.blt 0 (shSize sh) && Nat.blt 0 (P.bytesOf e)))
    | _ => false)
  | .r fs, t => (match P.underlying t with
    | some (.struct ff) => shTysB P fs ff.toList 0 && Nat.beq (P.cellsOf t) (shSizes fs)
    | _ => false)
  | .arr _ _, _ => false
def shTysB (P : Program) : List Sh → List Field → Nat → Bool
  | [], ff, _ => (match ff with | [] => true | _ => false)
  | s :: r, ff, o => (match ff with
    | f :: ff => Nat.beq f.offset o && (shTyB P s f.type && (Nat.beq (P.cellsOf f.type) (shSize s) && shTysB P r ff (o + shSize s)))
    | [] => false)
end

mutual
/-- How much data holds. -/
def roM : Sh → RO → Nat
  | .ts, d => (roS d).size
  | .ints _, d => (roL d).length
  | .l e, d => (roX d).length + ((roX d).map (roM e)).sum
  | .r fs, d => roMs fs d 0
  | .i _, _ => 0
  | .tb, _ => 0
  | .arr _ _, _ => 0
def roMs : List Sh → RO → Nat → Nat
  | [], _, _ => 0
  | s :: r, d, i => roM s (roN d i) + roMs r d (i + 1)
end

mutual
/-- Is each slice and text of data of at most so many parts? -/
def roMx (N : Nat) : Sh → RO → Prop
  | .ts, d => (roS d).size ≤ N
  | .ints _, d => (roL d).length ≤ N
  | .l e, d => (roX d).length ≤ N ∧ ∀ x ∈ roX d, roMx N e x
  | .r fs, d => roMxs N fs d 0
  | .i _, _ => True
  | .tb, _ => True
  | .arr _ _, _ => True
def roMxs (N : Nat) : List Sh → RO → Nat → Prop
  | [], _, _ => True
  | s :: r, d, i => roMx N s (roN d i) ∧ roMxs N r d (i + 1)
end

section
variable {P : Program}

theorem weightsAll_mem {H : Type} {e : TypeId} {d : DataW H} : ∀ {l : List (DataW H)}, d ∈ l → ∀ n ∈ d.weights P e, n ∈ DataW.weightsAll P e l
  | y :: r, h, n, hn => by
    simp only [DataW.weightsAll, List.mem_append]
    rcases List.mem_cons.1 h with rfl | h
    · exact .inl hn
    · exact .inr (weightsAll_mem h n hn)

theorem bulk_pos {H : Type} (d : DataW H) : 1 ≤ uptoBulk d := by unfold uptoBulk; split <;> omega
theorem bulkAll_len {H : Type} : ∀ (l : List (DataW H)), l.length ≤ uptoBulkAll l
  | [] => by simp [uptoBulkAll]
  | d :: r => by have := bulk_pos d; have := bulkAll_len r; simp only [uptoBulkAll, List.length_cons]; omega
theorem bulkAll_app {H : Type} : ∀ (a b : List (DataW H)), uptoBulkAll (a ++ b) = uptoBulkAll a + uptoBulkAll b
  | [], b => by simp [uptoBulkAll]
  | d :: r, b => by simp only [List.cons_append, uptoBulkAll, bulkAll_app r b]; omega

theorem ChainR.snoc {R : RO → Value → Prop} {x : RO} {v : Value} (hx : R x v) : ∀ (xs : List RO) (cs : List Value), ChainR R xs cs → ChainR R (xs ++ [x]) (cs ++ v.cells.toList)
  | [], cs, h => by rw [show cs = [] from h]; exact ⟨v, [], hx, by simp, rfl⟩
  | y :: r, cs, h => by
    obtain ⟨u, c, h1, rfl, h3⟩ := h
    exact ⟨u, c ++ v.cells.toList, h1, by simp [List.append_assoc], ChainR.snoc hx r c h3⟩

theorem rangeAt_app {w : World} {b o : Nat} {x y : List Value} (h1 : w.rangeAt b o x) (h2 : w.rangeAt b (o + x.length) y) : w.rangeAt b o (x ++ y) := fun j v hv => by
  rcases Nat.lt_or_ge j x.length with h | h
  · rw [List.getElem?_append_left h] at hv; exact h1 j v hv
  · rw [List.getElem?_append_right h] at hv
    have := h2 _ v hv
    rwa [show o + x.length + (j - x.length) = o + j by omega] at this

theorem addr_of_cell {W : World} {a : Addr} {v : Value} (h : W.cell? a = some v) : a = ⟨a.block, a.off, none⟩ ∧ a.block < W.heap.size := by
  obtain ⟨bk, of, sp⟩ := a
  unfold World.cell? at h
  split at h
  · rename_i hb
    have hb : W.heap[bk]? = _ := hb
    refine ⟨?_, (Array.getElem?_eq_some_iff.1 hb).1⟩
    split at h
    · cases h
    · rename_i hs
      have hs : ¬ sp.isSome = true := hs
      have : sp = none := by simpa using hs
      rw [this]
  · cases h

theorem add_add_addr (a : Addr) (i j : Nat) : (a.add i).add j = a.add (i + j) := by
  unfold Addr.add
  by_cases h1 : i = 0 <;> by_cases h2 : j = 0 <;> simp [h1, h2, Nat.add_assoc]
theorem add_zero_addr (a : Addr) : a.add 0 = a := by simp [Addr.add]

mutual
/-- An argument's reading, as data. -/
theorem trod_ro {H : Type} {enc : TypeId × Value → H} {W : World} (N : Nat) : ∀ (sh : Sh) (t : TypeId) (fuel : Nat) (cs : List Value) (x : DataW H × List MemPlace), shTyB P sh t = true → DataW.trod enc P W 0 (fun _ => true) true fuel t cs = some x →
    ∃ ro v, cs = v.cells.toList ∧ RoD W (OutB W fun _ => False) sh ro v ∧ roM sh ro + 1 ≤ uptoBulk x.1 ∧ ((∀ n ∈ x.1.weights P t, n ≤ N) → roMx N sh ro)
  | .i k, t, fuel, cs, x, hs, h => by
    simp only [shTyB] at hs
    split at hs
    · rename_i k' hu
      have hk := keq_eq hs
      subst hk
      cases fuel with
      | zero => simp [DataW.trod] at h
      | succ n =>
        unfold DataW.trod at h
        rw [hu] at h
        rcases cs with _ | ⟨c, _ | ⟨c2, r⟩⟩
        · simp at h
        · cases c <;> simp at h
          rename_i k2 z
          obtain ⟨⟨rfl, hz⟩, rfl⟩ := h
          refine ⟨.i z, .int k2 z, rfl, ?_, by simp [roM, uptoBulk], fun _ => trivial⟩
          simp only [RoD, roZ]
          refine ⟨trivial, ?_⟩
          simp only [Lit.wf, Bool.and_eq_true, decide_eq_true_eq] at hz
          cases k2 <;> simp [InR, IntKind.min, IntKind.max, IntKind.bits, IntKind.signed] at hz ⊢ <;> omega
        · simp at h
    · cases hs
  | .tb, t, fuel, cs, x, hs, h => by
    simp only [shTyB] at hs
    split at hs
    · rename_i hu
      cases fuel with
      | zero => simp [DataW.trod] at h
      | succ n =>
        unfold DataW.trod at h
        rw [hu] at h
        rcases cs with _ | ⟨c, _ | ⟨c2, r⟩⟩
        · simp at h
        · cases c <;> simp at h
          rename_i b
          subst h
          exact ⟨.b b, .bool b, rfl, by simp only [RoD, roB], by simp [roM, uptoBulk], fun _ => trivial⟩
        · simp at h
    · cases hs
  | .ts, t, fuel, cs, x, hs, h => by
    simp only [shTyB] at hs
    split at hs
    · rename_i hu
      cases fuel with
      | zero => simp [DataW.trod] at h
      | succ n =>
        unfold DataW.trod at h
        rw [hu] at h
        rcases cs with _ | ⟨c, _ | ⟨c2, r⟩⟩
        · simp at h
        · cases c <;> simp at h
          rename_i s
          obtain ⟨hz, rfl⟩ := h
          refine ⟨.s s, .string s, rfl, ?_, ?_, fun hw => ?_⟩
          · simp only [RoD, roS]
            refine ⟨trivial, ?_⟩
            have : s.size ≤ maxLen := hz
            simp only [maxLen] at this
            omega
          · simp only [roM, roS, uptoBulk]
            have : s.data.toList.length = s.size := by simp
            omega
          · have := hw s.data.toList.length (by simp [DataW.weights])
            have e : s.data.toList.length = s.size := by simp
            simp only [roMx, roS]
            omega
        · simp at h
    · cases hs
  | .ints k, t, fuel, cs, x, hs, h => by
    simp only [shTyB] at hs
    split at hs
    · rename_i e hu
      split at hs
      · rename_i k' hue
        simp only [Bool.and_eq_true] at hs
        have hk := keq_eq hs.1
        subst hk
        have hbs : 0 < P.bytesOf e := by have := hs.2.2; simp [Nat.blt] at this; omega
        rcases open_ints hu hue (Nat.eq_of_beq_eq_true hs.2.1) h with ⟨rfl, rfl⟩ | ⟨a, len, cap, zs, rfl, h2, h3, h4, h5, h6, h7, h8⟩
        · refine ⟨.l [], .slice none 0 0, rfl, ?_, by simp [roM, roL, uptoBulk], fun _ => Nat.zero_le _⟩
          simp only [RoD]
          exact ⟨none, 0, rfl, Nat.le_refl _, by simp [roL], (fun z hz => by cases hz), .inr ⟨rfl, rfl⟩⟩
        · have hzl : zs.length = cap := by simpa using h5
          have hR : AllR k zs := fun z hz => by
            have := h8 z hz
            simp only [Lit.wf, Bool.and_eq_true, decide_eq_true_eq] at this
            cases k <;> simp [InR, IntKind.min, IntKind.max, IntKind.bits, IntKind.signed] at this ⊢ <;> omega
          have hlen : (zs.take len).length = len := by rw [List.length_take]; omega
          have hmax : cap ≤ 140737488355328 ∨ True := .inr trivial
          refine ⟨.l (zs.take len), .slice (some a) len cap, rfl, ?_, ?_, fun hw => ?_⟩
          · simp only [RoD]
            have er : roL (.l (zs.take len)) = zs.take len := rfl
            rw [er]
            refine ⟨some a, cap, by rw [hlen], by omega, ?_, fun z hz => hR z (List.mem_of_mem_take hz), ?_⟩
            · rw [hlen]; simp only [maxLen] at h4; omega
            · rcases Nat.eq_zero_or_pos cap with h0 | h0
              · exact .inr ⟨by omega, h0⟩
              · have h00 := h7 0 (by omega)
                rw [add_zero_addr] at h00
                obtain ⟨ha, hb⟩ := addr_of_cell h00
                refine .inl ⟨a.block, a.off, by rw [← ha], ⟨hb, fun h => h⟩, fun i u hu => ?_⟩
                rw [List.getElem?_map, Option.map_eq_some_iff] at hu
                obtain ⟨z, hz, rfl⟩ := hu
                rw [List.getElem?_take] at hz
                split at hz
                · rename_i hi
                  have := h7 i (by omega)
                  have ea : a.add i = ⟨a.block, a.off + i, none⟩ := by rw [ha]; exact Addr.add_mid _ _ _
                  rw [ea] at this
                  rw [this]
                  simp [List.getD, hz]
                · cases hz
          · rw [h6]
            simp only [roM, roL, uptoBulk]
            have := bulkAll_len (lits (H := H) k (zs.take len))
            have e : (lits (H := H) k (zs.take len)).length = (zs.take len).length := by simp [lits]
            omega
          · rw [h6] at hw
            have elen : ∀ l : List Int, (lits (H := H) k l).length = l.length := fun l => by simp [lits]
            have := hw (((lits (H := H) k (zs.take len)).length + (lits (H := H) k (zs.drop len)).length) * P.bytesOf e) (by simp [DataW.weights, hu])
            rw [elen, elen] at this
            have h9 : ((zs.take len).length + (zs.drop len).length) * 1 ≤ ((zs.take len).length + (zs.drop len).length) * P.bytesOf e := Nat.mul_le_mul_left _ hbs
            show (zs.take len).length ≤ N
            omega
      · cases hs
    · cases hs
  | .l sh, t, fuel, cs, x, hs, h => by
    simp only [shTyB] at hs
    split at hs
    · rename_i e hu
      simp only [Bool.and_eq_true] at hs
      obtain ⟨hs1, hs2, hs3, hs4⟩ := hs
      have hbs : 0 < P.bytesOf e := by simp [Nat.blt] at hs4; omega
      have hc := Nat.eq_of_beq_eq_true hs2
      have hpos : 0 < shSize sh := by simp [Nat.blt] at hs3; omega
      rcases DataW.trod_slice hu h with ⟨rfl, rfl⟩ | ⟨a, len, cap, elems, rest, n, rfl, rfl, rfl, hb, hl, hm, hlen, hel, hsp, hns⟩
      · refine ⟨.r [], .slice none 0 0, rfl, ?_, by simp [roM, roX, uptoBulk], fun _ => ⟨Nat.zero_le _, fun x hx => by cases hx⟩⟩
        simp only [RoD]
        exact ⟨none, 0, [], rfl, Nat.le_refl _, by simp [roX], rfl, .inr ⟨rfl, rfl⟩⟩
      · obtain ⟨hrl, hrest⟩ := hsp rfl
        have hall : ∀ i, i < cap → ∃ ccs y, W.cells? 0 (a.add (i * P.cellsOf e)) (P.cellsOf e) = some ccs ∧ DataW.trod enc P W 0 (fun _ => true) true n e ccs = some y ∧ (i < len → elems[i]? = some y) := fun i hi => by
          by_cases hil : i < len
          · have h1 := hel i hil
            have h2 : elems[i]? = some elems[i] := List.getElem?_eq_getElem (by omega)
            rw [h2, Option.bind_eq_some_iff] at h1
            obtain ⟨ccs, q1, q2⟩ := h1
            exact ⟨ccs, _, q1, q2, fun _ => h2⟩
          · have h1 := hrest (i - len) (by omega)
            have h2 : rest[i - len]? = some rest[i - len] := List.getElem?_eq_getElem (by omega)
            rw [h2, Option.bind_eq_some_iff, show len + (i - len) = i by omega] at h1
            obtain ⟨ccs, q1, q2⟩ := h1
            exact ⟨ccs, _, q1, q2, fun h => absurd h hil⟩
        have hblk : 0 < cap → a = ⟨a.block, a.off, none⟩ ∧ a.block < W.heap.size := fun h0 => by
          obtain ⟨ccs, y, q1, q2, _⟩ := hall 0 h0
          obtain ⟨_, q3, q4⟩ := World.cells?_some q1
          have := q4 0 (by omega)
          rw [Nat.zero_mul, add_zero_addr, add_zero_addr] at this
          obtain ⟨v, hv⟩ : ∃ v, ccs[0]? = some v := ⟨ccs[0]'(by omega), List.getElem?_eq_getElem _⟩
          rw [hv] at this
          exact addr_of_cell this
        have hchain : ∀ m, m ≤ len → ∃ ros cs', ros.length = m ∧ ChainR (RoD W (OutB W fun _ => False) sh) ros cs' ∧ cs'.length = shSize sh * m ∧ (∀ i u, cs'[i]? = some u → W.cell? (a.add i) = some u) ∧ ros.length + (ros.map (roM sh)).sum ≤ uptoBulkAll ((elems.take m).map (·.1)) ∧ ((∀ y ∈ elems, ∀ n ∈ y.1.weights P e, n ≤ N) → ∀ ro ∈ ros, roMx N sh ro) := by
          intro m
          induction m with
          | zero => intro _; exact ⟨[], [], rfl, rfl, by simp, (fun i u h => by simp at h), by simp, fun _ x hx => by cases hx⟩
          | succ m ih =>
            intro hm'
            obtain ⟨ros, cs', r1, r2, r3, r4, r5, r6⟩ := ih (by omega)
            obtain ⟨ccs, y, q1, q2, q3⟩ := hall m (by omega)
            have q3 := q3 (by omega)
            obtain ⟨ro, v, rfl, s2, s3, s4⟩ := trod_ro N sh e n ccs y hs1 q2
            obtain ⟨_, q5, q6⟩ := World.cells?_some q1
            have hvl := RoD_cells sh ro v s2
            refine ⟨ros ++ [ro], cs' ++ v.cells.toList, by simp [r1], ChainR.snoc s2 ros cs' r2, by rw [List.length_append, r3, hvl, Nat.mul_add]; omega, fun i u hu => ?_, ?_, fun hy ro' hr => ?_⟩
            · rcases Nat.lt_or_ge i cs'.length with hi | hi
              · rw [List.getElem?_append_left hi] at hu; exact r4 i u hu
              · rw [List.getElem?_append_right hi] at hu
                have hi2 : i - cs'.length < v.cells.toList.length := (List.getElem?_eq_some_iff.1 hu).1
                have := q6 (i - cs'.length) (by omega)
                rw [hu] at this
                have e1 : m * P.cellsOf e = cs'.length := by rw [hc, r3, Nat.mul_comm]
                rw [← this, add_add_addr, e1, Nat.add_sub_cancel' hi]
            · rw [List.map_append, List.sum_append, List.length_append, List.take_add_one, q3, List.map_append, bulkAll_app]
              simp only [List.map_cons, List.map_nil, List.sum_cons, List.sum_nil, List.length_cons, List.length_nil, Option.toList_some, uptoBulkAll]
              omega
            · rcases List.mem_append.1 hr with hr | hr
              · exact r6 hy ro' hr
              · simp only [List.mem_cons, List.not_mem_nil, or_false] at hr
                subst hr
                exact s4 fun k hk => hy y (List.mem_of_getElem? q3) k hk
        obtain ⟨ros, cs', r1, r2, r3, r4, r5, r6⟩ := hchain len (Nat.le_refl _)
        refine ⟨.r ros, .slice (some a) len cap, rfl, ?_, ?_, fun hw => ⟨?_, ?_⟩⟩
        · simp only [RoD]
          have er : roX (.r ros) = ros := rfl
          rw [er]
          refine ⟨some a, cap, cs', by rw [r1], by omega, ?_, r2, ?_⟩
          · rw [r1]; simp only [maxLen] at hm; omega
          · rcases Nat.eq_zero_or_pos cap with h0 | h0
            · exact .inr ⟨by omega, h0⟩
            · obtain ⟨ha, hb⟩ := hblk h0
              refine .inl ⟨a.block, a.off, by rw [← ha], ⟨hb, fun h => h⟩, fun i u hu => ?_⟩
              have := r4 i u hu
              have ea : a.add i = ⟨a.block, a.off + i, none⟩ := by rw [ha]; exact Addr.add_mid _ _ _
              rwa [ea] at this
        · simp only [roM, roX, uptoBulk]
          rw [List.take_of_length_le (by omega)] at r5
          have := bulkAll_len (elems.map (·.1))
          rw [List.length_map] at this
          omega
        · have := hw (((elems.map (·.1)).length + (rest.map (·.1)).length) * P.bytesOf e) (by simp [DataW.weights, hu])
          rw [List.length_map, List.length_map] at this
          have h9 : (elems.length + rest.length) * 1 ≤ (elems.length + rest.length) * P.bytesOf e := Nat.mul_le_mul_left _ hbs
          show ros.length ≤ N
          omega
        · refine r6 fun y hy k hk => hw k ?_
          simp only [DataW.weights, hu, List.mem_cons, List.mem_append]
          exact .inr (.inl (weightsAll_mem (List.mem_map.2 ⟨y, hy, rfl⟩) k hk))
    · cases hs
  | .arr _ _, t, fuel, cs, x, hs, h => by simp [shTyB] at hs
  | .r fs, t, fuel, cs, x, hs, h => by
    simp only [shTyB] at hs
    split at hs
    · rename_i ff hu
      simp only [Bool.and_eq_true] at hs
      obtain ⟨xs, n, rfl, rfl, hl, hxl, hel⟩ := DataW.trod_struct hu h
      have hsz := Nat.eq_of_beq_eq_true hs.2
      obtain ⟨ros, r1, r2, r3, r4⟩ := trods_ro N fs ff.toList 0 n cs xs hs.1 (by simpa using hxl) (fun i f hf => hel i f (by simpa using hf)) (by omega)
      have r2 := r2 []
      have r3 := r3 []
      rw [List.drop_zero] at r2
      refine ⟨.r ros, .agg cs.toArray, by simp [Value.cells], ?_, ?_, fun hw => ?_⟩
      · simp only [RoD]
        exact ⟨cs, r2, rfl⟩
      · simp only [roM, uptoBulk]
        have : roMs fs (.r ros) 0 + fs.length ≤ uptoBulkAll (xs.map (·.1)) := r3
        omega
      · simp only [roMx]
        refine r4 (fun k hk => hw k ?_) []
        simp only [DataW.weights, hu]
        exact hk
    · cases hs
theorem trods_ro {H : Type} {enc : TypeId × Value → H} {W : World} (N : Nat) : ∀ (fs : List Sh) (ff : List Field) (o n : Nat) (cs : List Value) (xs : List (DataW H × List MemPlace)), shTysB P fs ff o = true → xs.length = ff.length →
    (∀ (i : Nat) (f : Field), ff[i]? = some f → DataW.trod enc P W 0 (fun _ => true) true n f.type ((cs.drop f.offset).take (P.cellsOf f.type)) = xs[i]?) → cs.length = o + shSizes fs →
    ∃ ros : List RO, ros.length = fs.length ∧ (∀ pre : List RO, RoCs W (OutB W fun _ => False) fs (.r (pre ++ ros)) pre.length (cs.drop o)) ∧ (∀ pre : List RO, roMs fs (.r (pre ++ ros)) pre.length + fs.length ≤ uptoBulkAll (xs.map (·.1))) ∧
      ((∀ k ∈ DataW.weightsEach P (ff.map (·.type)) (xs.map (·.1)), k ≤ N) → ∀ pre : List RO, roMxs N fs (.r (pre ++ ros)) pre.length)
  | [], ff, o, n, cs, xs, hs, hx, hel, hl => by
    refine ⟨[], rfl, fun pre => ?_, fun pre => by simp [roMs], fun _ pre => by simp only [roMxs]⟩
    simp only [RoCs]
    exact List.drop_eq_nil_of_le (by simp only [shSizes] at hl; omega)
  | s :: r, ff, o, n, cs, xs, hs, hx, hel, hl => by
    simp only [shTysB] at hs
    split at hs
    · rename_i f ff
      simp only [Bool.and_eq_true] at hs
      obtain ⟨h1, h2, h3, h4⟩ := hs
      have h1 := Nat.eq_of_beq_eq_true h1
      have h3 := Nat.eq_of_beq_eq_true h3
      rcases xs with _ | ⟨x, xt⟩
      · simp at hx
      simp only [shSizes] at hl
      have e0 := hel 0 f rfl
      rw [h1, h3] at e0
      obtain ⟨ro, v, q1, q2, q3, q4⟩ := trod_ro N s f.type n _ x h2 e0
      obtain ⟨ros, r1, r2, r3, r4⟩ := trods_ro N r ff (o + shSize s) n cs xt h4 (by simpa using hx) (fun i f' hf => by have := hel (i + 1) f' (by simpa using hf); simpa using this) (by omega)
      have hro : ∀ pre : List RO, roN (.r (pre ++ ro :: ros)) pre.length = ro := fun pre => by simp [roN, roX, List.getD_eq_getElem?_getD]
      have hpre : ∀ pre : List RO, (pre ++ [ro]) ++ ros = pre ++ ro :: ros := fun pre => by simp
      refine ⟨ro :: ros, by simp [r1], fun pre => ?_, fun pre => ?_, fun hw pre => ?_⟩
      · simp only [RoCs]
        refine ⟨v, cs.drop (o + shSize s), by rw [hro]; exact q2, ?_, ?_⟩
        · rw [← q1, ← List.drop_drop, List.take_append_drop]
        · have := r2 (pre ++ [ro])
          rw [hpre, List.length_append] at this
          exact this
      · have := r3 (pre ++ [ro])
        rw [hpre, List.length_append] at this
        have h5 : roMs r (.r (pre ++ ro :: ros)) (pre.length + 1) + r.length ≤ uptoBulkAll (xt.map (·.1)) := this
        simp only [roMs, hro, List.map_cons, uptoBulkAll, List.length_cons]
        omega
      · simp only [List.map_cons, DataW.weightsEach, List.mem_append] at hw
        have := r4 (fun k hk => hw k (.inr hk)) (pre ++ [ro])
        rw [hpre, List.length_append] at this
        simp only [roMxs, hro]
        exact ⟨q4 fun k hk => hw k (.inl hk), this⟩
    · cases hs
end

def slSh : Sh → Bool
  | .ints _ => true
  | .l _ => true
  | _ => false

/-- An argument that is a slice, as data. -/
theorem arg_ro {H : Type} {enc : TypeId × Value → H} {W : World} (N : Nat) (sh : Sh) {t : TypeId} {v : Value} {d : DataW H} {ps : List MemPlace} (hs : shTyB P sh t = true) (hsl : slSh sh = true) (hv : v.cells.toList = [v]) (h : DataW.Trod enc P W 0 (fun _ => true) true t v d ps) :
    ∃ ro, RoD W (OutB W fun _ => False) sh ro v ∧ (∃ ad n cap, v = .slice ad n cap) ∧ roM sh ro + 1 ≤ uptoBulk d ∧ ((∀ n ∈ d.weights P t, n ≤ N) → roMx N sh ro) := by
  obtain ⟨fuel, h⟩ := h
  obtain ⟨ro, u, e, q1, q2, q3⟩ := trod_ro N sh t fuel _ _ hs h
  have hu : ∃ ad n cap, u = .slice ad n cap := by
    cases sh <;> simp only [slSh, Bool.false_eq_true] at hsl <;> simp only [RoD] at q1
    · obtain ⟨a, cap, rfl, _⟩ := q1; exact ⟨_, _, _, rfl⟩
    · obtain ⟨a, cap, cs, rfl, _⟩ := q1; exact ⟨_, _, _, rfl⟩
  have huv : v = u := by
    obtain ⟨ad, n, cap, rfl⟩ := hu
    rw [hv] at e
    simpa [Value.cells] using e
  subst huv
  exact ⟨ro, q1, hu, q2, q3⟩

/-- A law as a call off a world that holds the globals. -/
theorem law_gen {Γ : Tab} (hΓ : TabOk P Γ) (hgl : Γ.gl = keysOf Γ.gh) (hlow : ∀ g ∈ keysOf Γ.gh, g < 490) {f : FuncId} {fn : Func} (hf : P.funcs[f]? = some fn) {av : List AV} {args' : List SV} {L : Loops} {K : List RV → List (Option (List Seg)) → Prop} {inv : Nat → List Pv → Nat → Prop}
    (k1 : okA 600 av args' []) (k2 : args'.length ≤ fn.ntmps) (k3 : VcG 0 Γ fn L (Γ.gh ++ (490, .world) :: []) args' K inv) (hK : ∀ rvs fin, K rvs fin → ∃ e, rvs = [.v (.b e true)])
    {W : World} {vs : List Value} (hG : Glob Γ.gh W fun _ => False) (hA : AsD W (OutB W fun _ => False) (fun _ => none) (fun _ => { blk := 0, off := 0, cap := 0 }) av vs []) :
    Calls P f vs.toArray W fun e w' => e = .returned (.bool true) ∧ Below W.heap.size W w' := by
  have hm := mem_start W fun _ => { blk := 0, off := 0, cap := 0 }
  obtain ⟨hh1, hh2⟩ := okA_heap av vs [] 600 args' [] hA k1
  obtain ⟨ρ1, m1, m2, m3, m4, m5⟩ := gen_mem hG hgl hlow hm (ks := []) (fun k hk => by cases hk) List.nodup_nil (M' := fun _ => False) (fun b => ⟨fun h => h.elim, fun ⟨k, hk, _⟩ => by cases hk⟩) hh1 hh2
  have hargs := okA_args m3 m4 av vs [] 600 args' [] hA k1 (fun i hi => by simp at hi)
  refine (vcG_calls hΓ hf k3 k2 m2 m1 hargs).mono fun e w' he => ?_
  obtain ⟨x, v, h', ρ', rfl, r1, r2, r3, r4⟩ := he
  obtain ⟨rvs', fin', t1, t3, t4, t5⟩ := kvG_sound r3 r2 r1
  obtain ⟨e, rfl⟩ := hK _ _ t1
  rcases t3 with ⟨r, hr, hd⟩ | ⟨hn, _⟩
  · simp only [List.cons.injEq, and_true] at hr
    subst hr
    simp only [RvD, D] at hd
    exact ⟨by rw [hd], r3.frame.below fun _ h => h⟩
  · exact absurd rfl hn

end
end Go.Gx

/- TranscriptSame: two transcripts of one label to which the same is said draw the same, whatever is said to others and to a fork of the first in between. For labels, parts and sayings that are not more than the second form's bound. The tables lie as the program's text lays them. -/
namespace Go.Gx
open Go.Proofs Go.Sp Go.RowKit
set_option linter.unusedVariables false
set_option maxRecDepth 100000
namespace TranscriptSame
def shL : Sh := .l (.r [.i .i64, .i .i64, .ts, .l (.ints .u8)])
def recT : SB := .segs false [.arr .u8 64 false [], .one (.b false true)]
def L6 : Loops := [(7, ⟨[.any, .ro 490 shL (.r []), .ro 490 shL (.r []), .any, .any, .any, .any, .p 1000 0, .p 1001 0, .p 1002 0, .i .i64 ⟨false, 0⟩] ++ reps .any 94, gh5 ++ [(490, .world), (1000, recT), (1001, recT), (1002, recT)], 2000⟩)]
def vc6 (s : ByteArray) (d c : RO) (K : List RV → List (Option (List Seg)) → Prop) (Q : Nat → List Pv → Prop) : Prop := fnVcG 0 Ψ4 Tryd.f6 L6 [.s s, .ro 490 shL d, .ro 490 shL c] (gh5 ++ (490, .world) :: []) K Q
def lc6 (d c : RO) (i : Int) (g2 g3 s1 s2 s3 : List Int) (b1 b2 b3 : Bool) (K : List RV → List (Option (List Seg)) → Prop) (Q : Nat → List Pv → Prop) : Prop := loopVcG 0 Ψ4 Tryd.f6 L6 7 [.ro d, .ro c, .z i, .l g2, .l g3, .l s1, .b b1, .l s2, .b b2, .l s3, .b b3] K Q
theorem vc6_eq : ∀ (s : ByteArray) (d c : RO) (K : List RV → List (Option (List Seg)) → Prop) (Q : Nat → List Pv → Prop), vc6 s d c K Q = (Need ((((frL tagT [bytesI s]).length : Nat) : Int) ≤ (70368744177664 : Int)) ∧ ∀ (x1 : List Int), x1 = seedL (bytesI s) → x1.length = (64 : Nat) → AllR IntKind.u8 x1 → Need ((((frL tagT [bytesI s]).length : Nat) : Int) ≤ (70368744177664 : Int)) ∧ ∀ (x2 : List Int), x2 = seedL (bytesI s) → x2.length = (64 : Nat) → AllR IntKind.u8 x2 → Need ((((frL tagT [bytesI s]).length : Nat) : Int) ≤ (70368744177664 : Int)) ∧ ∀ (x3 : List Int), x3 = seedL (bytesI s) → x3.length = (64 : Nat) → AllR IntKind.u8 x3 → ∀ (x4 : List Int), x4 = x1 → x4.length = (64 : Nat) → AllR IntKind.u8 x4 → ∀ (x5 : List Int), x5 = stateL true x1 → x5.length = (64 : Nat) → AllR IntKind.u8 x5 → ∀ (x6 : List Int), x6 = x2 → x6.length = (64 : Nat) → AllR IntKind.u8 x6 → ∀ (x7 : List Int), x7 = stateL true x2 → x7.length = (64 : Nat) → AllR IntKind.u8 x7 → ((!x5 == x7) = true → K [RV.v (SV.b true false)] []) ∧ ((!x5 == x7) = false → ∀ (x8 : List Int), x8 = x4 → x8.length = (64 : Nat) → AllR IntKind.u8 x8 → ∀ (x9 : List Int), x9 = stateL true x4 → x9.length = (64 : Nat) → AllR IntKind.u8 x9 → Need ((((frL tagT [bytesI s]).length : Nat) : Int) ≤ (70368744170000 : Int)) ∧ ∀ (x10 : List Int), x10 = seedL (bytesI s) → x10.length = (64 : Nat) → AllR IntKind.u8 x10 → ((!x9 == x10) = true → K [RV.v (SV.b true false)] []) ∧ ((!x9 == x10) = false → Same Tryd.f6 (7 : Nat) (itemsOf Tryd.f6 (7 : Nat)) ∧ Q (7 : Nat) [Pv.ro d, Pv.ro c, Pv.z (0 : Int), Pv.l K80, Pv.l K80, Pv.l x8, Pv.b true, Pv.l x6, Pv.b true, Pv.l x3, Pv.b true]))) := by
  intros
  kernel_rfl
theorem lc6_eq : ∀ (d c : RO) (i : Int) (g2 g3 s1 s2 s3 : List Int) (b1 b2 b3 : Bool) (K : List RV → List (Option (List Seg)) → Prop) (Q : Nat → List Pv → Prop), lc6 d c i g2 g3 s1 s2 s3 b1 b2 b3 K Q = ((decide (i < (((roX d).length : Nat) : Int)) = true → Need (b1 = true) ∧ Need ((1005 : Int) ≤ (70368744177664 : Int)) ∧ ∀ (x1 : List Int), x1 = nextL tagF s1 (bytesI { data := #[(97 : UInt8), (115 : UInt8), (105 : UInt8), (100 : UInt8), (101 : UInt8)] }) → x1.length = (64 : Nat) → AllR IntKind.u8 x1 → ∀ (x2 : List Int), x2 = s1 → x2.length = (64 : Nat) → AllR IntKind.u8 x2 → Need ((0 : Int) ≤ i ∧ i < (((roX d).length : Nat) : Int)) ∧ ∀ (x3 : Int), x3 = roZ (roN (roN d i.toNat) (0 : Nat)) → InR IntKind.i64 x3 → ∀ (x4 : Int), x4 = roZ (roN (roN d i.toNat) (1 : Nat)) → InR IntKind.i64 x4 → Need (b1 = true) ∧ Need ((((frL (bytesI (roS (roN (RO.r [RO.i x3, RO.i x4, RO.s (roS (roN (roN d i.toNat) (2 : Nat))), roN (roN d i.toNat) (3 : Nat)]) (2 : Nat)))) (List.map roL (roX (roN (RO.r [RO.i x3, RO.i x4, RO.s (roS (roN (roN d i.toNat) (2 : Nat))), roN (roN d i.toNat) (3 : Nat)]) (3 : Nat))))).length : Nat) : Int) + (1000 : Int) ≤ (70368744177664 : Int)) ∧ ∀ (x5 : List Int), x5 = saysL x2 (roZ (roN (RO.r [RO.i x3, RO.i x4, RO.s (roS (roN (roN d i.toNat) (2 : Nat))), roN (roN d i.toNat) (3 : Nat)]) (0 : Nat))) (bytesI (roS (roN (RO.r [RO.i x3, RO.i x4, RO.s (roS (roN (roN d i.toNat) (2 : Nat))), roN (roN d i.toNat) (3 : Nat)]) (2 : Nat)))) (List.map roL (roX (roN (RO.r [RO.i x3, RO.i x4, RO.s (roS (roN (roN d i.toNat) (2 : Nat))), roN (roN d i.toNat) (3 : Nat)]) (3 : Nat)))) → x5.length = (64 : Nat) → AllR IntKind.u8 x5 → ∀ (x6 : Int), x6 = Sc.w0 (saysN x2 (roZ (roN (RO.r [RO.i x3, RO.i x4, RO.s (roS (roN (roN d i.toNat) (2 : Nat))), roN (roN d i.toNat) (3 : Nat)]) (0 : Nat))) (bytesI (roS (roN (RO.r [RO.i x3, RO.i x4, RO.s (roS (roN (roN d i.toNat) (2 : Nat))), roN (roN d i.toNat) (3 : Nat)]) (2 : Nat))))) → InR IntKind.u64 x6 → ∀ (x7 : Int), x7 = Sc.w1 (saysN x2 (roZ (roN (RO.r [RO.i x3, RO.i x4, RO.s (roS (roN (roN d i.toNat) (2 : Nat))), roN (roN d i.toNat) (3 : Nat)]) (0 : Nat))) (bytesI (roS (roN (RO.r [RO.i x3, RO.i x4, RO.s (roS (roN (roN d i.toNat) (2 : Nat))), roN (roN d i.toNat) (3 : Nat)]) (2 : Nat))))) → InR IntKind.u64 x7 → ∀ (x8 : Int), x8 = Sc.w2 (saysN x2 (roZ (roN (RO.r [RO.i x3, RO.i x4, RO.s (roS (roN (roN d i.toNat) (2 : Nat))), roN (roN d i.toNat) (3 : Nat)]) (0 : Nat))) (bytesI (roS (roN (RO.r [RO.i x3, RO.i x4, RO.s (roS (roN (roN d i.toNat) (2 : Nat))), roN (roN d i.toNat) (3 : Nat)]) (2 : Nat))))) → InR IntKind.u64 x8 → ∀ (x9 : Int), x9 = Sc.w3 (saysN x2 (roZ (roN (RO.r [RO.i x3, RO.i x4, RO.s (roS (roN (roN d i.toNat) (2 : Nat))), roN (roN d i.toNat) (3 : Nat)]) (0 : Nat))) (bytesI (roS (roN (RO.r [RO.i x3, RO.i x4, RO.s (roS (roN (roN d i.toNat) (2 : Nat))), roN (roN d i.toNat) (3 : Nat)]) (2 : Nat))))) → InR IntKind.u64 x9 → ∀ (x10 : Int), x10 = saysE x2 (roZ (roN (RO.r [RO.i x3, RO.i x4, RO.s (roS (roN (roN d i.toNat) (2 : Nat))), roN (roN d i.toNat) (3 : Nat)]) (0 : Nat))) (bytesI (roS (roN (RO.r [RO.i x3, RO.i x4, RO.s (roS (roN (roN d i.toNat) (2 : Nat))), roN (roN d i.toNat) (3 : Nat)]) (2 : Nat)))) → InR IntKind.i64 x10 → (decide (i < (((roX c).length : Nat) : Int)) = true → Need ((0 : Int) ≤ i ∧ i < (((roX c).length : Nat) : Int)) ∧ ∀ (x11 : Int), x11 = roZ (roN (roN c i.toNat) (0 : Nat)) → InR IntKind.i64 x11 → ∀ (x12 : Int), x12 = roZ (roN (roN c i.toNat) (1 : Nat)) → InR IntKind.i64 x12 → Need (true = true) ∧ Need ((((frL (bytesI (roS (roN (RO.r [RO.i x11, RO.i x12, RO.s (roS (roN (roN c i.toNat) (2 : Nat))), roN (roN c i.toNat) (3 : Nat)]) (2 : Nat)))) (List.map roL (roX (roN (RO.r [RO.i x11, RO.i x12, RO.s (roS (roN (roN c i.toNat) (2 : Nat))), roN (roN c i.toNat) (3 : Nat)]) (3 : Nat))))).length : Nat) : Int) + (1000 : Int) ≤ (70368744177664 : Int)) ∧ ∀ (x13 : List Int), x13 = saysL x1 (roZ (roN (RO.r [RO.i x11, RO.i x12, RO.s (roS (roN (roN c i.toNat) (2 : Nat))), roN (roN c i.toNat) (3 : Nat)]) (0 : Nat))) (bytesI (roS (roN (RO.r [RO.i x11, RO.i x12, RO.s (roS (roN (roN c i.toNat) (2 : Nat))), roN (roN c i.toNat) (3 : Nat)]) (2 : Nat)))) (List.map roL (roX (roN (RO.r [RO.i x11, RO.i x12, RO.s (roS (roN (roN c i.toNat) (2 : Nat))), roN (roN c i.toNat) (3 : Nat)]) (3 : Nat)))) → x13.length = (64 : Nat) → AllR IntKind.u8 x13 → ∀ (x14 : Int), x14 = Sc.w0 (saysN x1 (roZ (roN (RO.r [RO.i x11, RO.i x12, RO.s (roS (roN (roN c i.toNat) (2 : Nat))), roN (roN c i.toNat) (3 : Nat)]) (0 : Nat))) (bytesI (roS (roN (RO.r [RO.i x11, RO.i x12, RO.s (roS (roN (roN c i.toNat) (2 : Nat))), roN (roN c i.toNat) (3 : Nat)]) (2 : Nat))))) → InR IntKind.u64 x14 → ∀ (x15 : Int), x15 = Sc.w1 (saysN x1 (roZ (roN (RO.r [RO.i x11, RO.i x12, RO.s (roS (roN (roN c i.toNat) (2 : Nat))), roN (roN c i.toNat) (3 : Nat)]) (0 : Nat))) (bytesI (roS (roN (RO.r [RO.i x11, RO.i x12, RO.s (roS (roN (roN c i.toNat) (2 : Nat))), roN (roN c i.toNat) (3 : Nat)]) (2 : Nat))))) → InR IntKind.u64 x15 → ∀ (x16 : Int), x16 = Sc.w2 (saysN x1 (roZ (roN (RO.r [RO.i x11, RO.i x12, RO.s (roS (roN (roN c i.toNat) (2 : Nat))), roN (roN c i.toNat) (3 : Nat)]) (0 : Nat))) (bytesI (roS (roN (RO.r [RO.i x11, RO.i x12, RO.s (roS (roN (roN c i.toNat) (2 : Nat))), roN (roN c i.toNat) (3 : Nat)]) (2 : Nat))))) → InR IntKind.u64 x16 → ∀ (x17 : Int), x17 = Sc.w3 (saysN x1 (roZ (roN (RO.r [RO.i x11, RO.i x12, RO.s (roS (roN (roN c i.toNat) (2 : Nat))), roN (roN c i.toNat) (3 : Nat)]) (0 : Nat))) (bytesI (roS (roN (RO.r [RO.i x11, RO.i x12, RO.s (roS (roN (roN c i.toNat) (2 : Nat))), roN (roN c i.toNat) (3 : Nat)]) (2 : Nat))))) → InR IntKind.u64 x17 → ∀ (x18 : Int), x18 = saysE x1 (roZ (roN (RO.r [RO.i x11, RO.i x12, RO.s (roS (roN (roN c i.toNat) (2 : Nat))), roN (roN c i.toNat) (3 : Nat)]) (0 : Nat))) (bytesI (roS (roN (RO.r [RO.i x11, RO.i x12, RO.s (roS (roN (roN c i.toNat) (2 : Nat))), roN (roN c i.toNat) (3 : Nat)]) (2 : Nat)))) → InR IntKind.i64 x18 → Need ((0 : Int) ≤ i ∧ i < (((roX c).length : Nat) : Int)) ∧ ∀ (x19 : Int), x19 = roZ (roN (roN c i.toNat) (0 : Nat)) → InR IntKind.i64 x19 → ∀ (x20 : Int), x20 = roZ (roN (roN c i.toNat) (1 : Nat)) → InR IntKind.i64 x20 → Need (b3 = true) ∧ Need ((((frL (bytesI (roS (roN (RO.r [RO.i x19, RO.i x20, RO.s (roS (roN (roN c i.toNat) (2 : Nat))), roN (roN c i.toNat) (3 : Nat)]) (2 : Nat)))) (List.map roL (roX (roN (RO.r [RO.i x19, RO.i x20, RO.s (roS (roN (roN c i.toNat) (2 : Nat))), roN (roN c i.toNat) (3 : Nat)]) (3 : Nat))))).length : Nat) : Int) + (1000 : Int) ≤ (70368744177664 : Int)) ∧ ∀ (x21 : List Int), x21 = saysL s3 (roZ (roN (RO.r [RO.i x19, RO.i x20, RO.s (roS (roN (roN c i.toNat) (2 : Nat))), roN (roN c i.toNat) (3 : Nat)]) (0 : Nat))) (bytesI (roS (roN (RO.r [RO.i x19, RO.i x20, RO.s (roS (roN (roN c i.toNat) (2 : Nat))), roN (roN c i.toNat) (3 : Nat)]) (2 : Nat)))) (List.map roL (roX (roN (RO.r [RO.i x19, RO.i x20, RO.s (roS (roN (roN c i.toNat) (2 : Nat))), roN (roN c i.toNat) (3 : Nat)]) (3 : Nat)))) → x21.length = (64 : Nat) → AllR IntKind.u8 x21 → ∀ (x22 : Int), x22 = Sc.w0 (saysN s3 (roZ (roN (RO.r [RO.i x19, RO.i x20, RO.s (roS (roN (roN c i.toNat) (2 : Nat))), roN (roN c i.toNat) (3 : Nat)]) (0 : Nat))) (bytesI (roS (roN (RO.r [RO.i x19, RO.i x20, RO.s (roS (roN (roN c i.toNat) (2 : Nat))), roN (roN c i.toNat) (3 : Nat)]) (2 : Nat))))) → InR IntKind.u64 x22 → ∀ (x23 : Int), x23 = Sc.w1 (saysN s3 (roZ (roN (RO.r [RO.i x19, RO.i x20, RO.s (roS (roN (roN c i.toNat) (2 : Nat))), roN (roN c i.toNat) (3 : Nat)]) (0 : Nat))) (bytesI (roS (roN (RO.r [RO.i x19, RO.i x20, RO.s (roS (roN (roN c i.toNat) (2 : Nat))), roN (roN c i.toNat) (3 : Nat)]) (2 : Nat))))) → InR IntKind.u64 x23 → ∀ (x24 : Int), x24 = Sc.w2 (saysN s3 (roZ (roN (RO.r [RO.i x19, RO.i x20, RO.s (roS (roN (roN c i.toNat) (2 : Nat))), roN (roN c i.toNat) (3 : Nat)]) (0 : Nat))) (bytesI (roS (roN (RO.r [RO.i x19, RO.i x20, RO.s (roS (roN (roN c i.toNat) (2 : Nat))), roN (roN c i.toNat) (3 : Nat)]) (2 : Nat))))) → InR IntKind.u64 x24 → ∀ (x25 : Int), x25 = Sc.w3 (saysN s3 (roZ (roN (RO.r [RO.i x19, RO.i x20, RO.s (roS (roN (roN c i.toNat) (2 : Nat))), roN (roN c i.toNat) (3 : Nat)]) (0 : Nat))) (bytesI (roS (roN (RO.r [RO.i x19, RO.i x20, RO.s (roS (roN (roN c i.toNat) (2 : Nat))), roN (roN c i.toNat) (3 : Nat)]) (2 : Nat))))) → InR IntKind.u64 x25 → ∀ (x26 : Int), x26 = saysE s3 (roZ (roN (RO.r [RO.i x19, RO.i x20, RO.s (roS (roN (roN c i.toNat) (2 : Nat))), roN (roN c i.toNat) (3 : Nat)]) (0 : Nat))) (bytesI (roS (roN (RO.r [RO.i x19, RO.i x20, RO.s (roS (roN (roN c i.toNat) (2 : Nat))), roN (roN c i.toNat) (3 : Nat)]) (2 : Nat)))) → InR IntKind.i64 x26 → Need ((0 : Int) ≤ i ∧ i < (((roX d).length : Nat) : Int)) ∧ ∀ (x27 : Int), x27 = roZ (roN (roN d i.toNat) (0 : Nat)) → InR IntKind.i64 x27 → ∀ (x28 : Int), x28 = roZ (roN (roN d i.toNat) (1 : Nat)) → InR IntKind.i64 x28 → Need (b2 = true) ∧ Need ((((frL (bytesI (roS (roN (RO.r [RO.i x27, RO.i x28, RO.s (roS (roN (roN d i.toNat) (2 : Nat))), roN (roN d i.toNat) (3 : Nat)]) (2 : Nat)))) (List.map roL (roX (roN (RO.r [RO.i x27, RO.i x28, RO.s (roS (roN (roN d i.toNat) (2 : Nat))), roN (roN d i.toNat) (3 : Nat)]) (3 : Nat))))).length : Nat) : Int) + (1000 : Int) ≤ (70368744177664 : Int)) ∧ ∀ (x29 : List Int), x29 = saysL s2 (roZ (roN (RO.r [RO.i x27, RO.i x28, RO.s (roS (roN (roN d i.toNat) (2 : Nat))), roN (roN d i.toNat) (3 : Nat)]) (0 : Nat))) (bytesI (roS (roN (RO.r [RO.i x27, RO.i x28, RO.s (roS (roN (roN d i.toNat) (2 : Nat))), roN (roN d i.toNat) (3 : Nat)]) (2 : Nat)))) (List.map roL (roX (roN (RO.r [RO.i x27, RO.i x28, RO.s (roS (roN (roN d i.toNat) (2 : Nat))), roN (roN d i.toNat) (3 : Nat)]) (3 : Nat)))) → x29.length = (64 : Nat) → AllR IntKind.u8 x29 → ∀ (x30 : Int), x30 = Sc.w0 (saysN s2 (roZ (roN (RO.r [RO.i x27, RO.i x28, RO.s (roS (roN (roN d i.toNat) (2 : Nat))), roN (roN d i.toNat) (3 : Nat)]) (0 : Nat))) (bytesI (roS (roN (RO.r [RO.i x27, RO.i x28, RO.s (roS (roN (roN d i.toNat) (2 : Nat))), roN (roN d i.toNat) (3 : Nat)]) (2 : Nat))))) → InR IntKind.u64 x30 → ∀ (x31 : Int), x31 = Sc.w1 (saysN s2 (roZ (roN (RO.r [RO.i x27, RO.i x28, RO.s (roS (roN (roN d i.toNat) (2 : Nat))), roN (roN d i.toNat) (3 : Nat)]) (0 : Nat))) (bytesI (roS (roN (RO.r [RO.i x27, RO.i x28, RO.s (roS (roN (roN d i.toNat) (2 : Nat))), roN (roN d i.toNat) (3 : Nat)]) (2 : Nat))))) → InR IntKind.u64 x31 → ∀ (x32 : Int), x32 = Sc.w2 (saysN s2 (roZ (roN (RO.r [RO.i x27, RO.i x28, RO.s (roS (roN (roN d i.toNat) (2 : Nat))), roN (roN d i.toNat) (3 : Nat)]) (0 : Nat))) (bytesI (roS (roN (RO.r [RO.i x27, RO.i x28, RO.s (roS (roN (roN d i.toNat) (2 : Nat))), roN (roN d i.toNat) (3 : Nat)]) (2 : Nat))))) → InR IntKind.u64 x32 → ∀ (x33 : Int), x33 = Sc.w3 (saysN s2 (roZ (roN (RO.r [RO.i x27, RO.i x28, RO.s (roS (roN (roN d i.toNat) (2 : Nat))), roN (roN d i.toNat) (3 : Nat)]) (0 : Nat))) (bytesI (roS (roN (RO.r [RO.i x27, RO.i x28, RO.s (roS (roN (roN d i.toNat) (2 : Nat))), roN (roN d i.toNat) (3 : Nat)]) (2 : Nat))))) → InR IntKind.u64 x33 → ∀ (x34 : Int), x34 = saysE s2 (roZ (roN (RO.r [RO.i x27, RO.i x28, RO.s (roS (roN (roN d i.toNat) (2 : Nat))), roN (roN d i.toNat) (3 : Nat)]) (0 : Nat))) (bytesI (roS (roN (RO.r [RO.i x27, RO.i x28, RO.s (roS (roN (roN d i.toNat) (2 : Nat))), roN (roN d i.toNat) (3 : Nat)]) (2 : Nat)))) → InR IntKind.i64 x34 → ((![x6, x7, x8, x9] == [x30, x31, x32, x33]) = true → K [RV.v (SV.b true false)] []) ∧ ((![x6, x7, x8, x9] == [x30, x31, x32, x33]) = false → ((x10 != x34) = true → K [RV.v (SV.b true false)] []) ∧ ((x10 != x34) = false → ∀ (x35 : List Int), x35 = x5 → x35.length = (64 : Nat) → AllR IntKind.u8 x35 → ∀ (x36 : List Int), x36 = stateL b1 x5 → x36.length = (64 : Nat) → AllR IntKind.u8 x36 → ∀ (x37 : List Int), x37 = x29 → x37.length = (64 : Nat) → AllR IntKind.u8 x37 → ∀ (x38 : List Int), x38 = stateL b2 x29 → x38.length = (64 : Nat) → AllR IntKind.u8 x38 → ((!x36 == x38) = true → K [RV.v (SV.b true false)] []) ∧ ((!x36 == x38) = false → ∀ (x39 : Int), x39 = IntKind.i64.wrap (i + (1 : Int)) → InR IntKind.i64 x39 → Same Tryd.f6 (7 : Nat) (itemsOf Tryd.f6 (7 : Nat)) ∧ Q (7 : Nat) [Pv.ro d, Pv.ro c, Pv.z x39, Pv.l g2, Pv.l g3, Pv.l x35, Pv.b b1, Pv.l x37, Pv.b b2, Pv.l x21, Pv.b b3])))) ∧ (decide (i < (((roX c).length : Nat) : Int)) = false → Need ((0 : Int) ≤ i ∧ i < (((roX d).length : Nat) : Int)) ∧ ∀ (x40 : Int), x40 = roZ (roN (roN d i.toNat) (0 : Nat)) → InR IntKind.i64 x40 → ∀ (x41 : Int), x41 = roZ (roN (roN d i.toNat) (1 : Nat)) → InR IntKind.i64 x41 → Need (b2 = true) ∧ Need ((((frL (bytesI (roS (roN (RO.r [RO.i x40, RO.i x41, RO.s (roS (roN (roN d i.toNat) (2 : Nat))), roN (roN d i.toNat) (3 : Nat)]) (2 : Nat)))) (List.map roL (roX (roN (RO.r [RO.i x40, RO.i x41, RO.s (roS (roN (roN d i.toNat) (2 : Nat))), roN (roN d i.toNat) (3 : Nat)]) (3 : Nat))))).length : Nat) : Int) + (1000 : Int) ≤ (70368744177664 : Int)) ∧ ∀ (x42 : List Int), x42 = saysL s2 (roZ (roN (RO.r [RO.i x40, RO.i x41, RO.s (roS (roN (roN d i.toNat) (2 : Nat))), roN (roN d i.toNat) (3 : Nat)]) (0 : Nat))) (bytesI (roS (roN (RO.r [RO.i x40, RO.i x41, RO.s (roS (roN (roN d i.toNat) (2 : Nat))), roN (roN d i.toNat) (3 : Nat)]) (2 : Nat)))) (List.map roL (roX (roN (RO.r [RO.i x40, RO.i x41, RO.s (roS (roN (roN d i.toNat) (2 : Nat))), roN (roN d i.toNat) (3 : Nat)]) (3 : Nat)))) → x42.length = (64 : Nat) → AllR IntKind.u8 x42 → ∀ (x43 : Int), x43 = Sc.w0 (saysN s2 (roZ (roN (RO.r [RO.i x40, RO.i x41, RO.s (roS (roN (roN d i.toNat) (2 : Nat))), roN (roN d i.toNat) (3 : Nat)]) (0 : Nat))) (bytesI (roS (roN (RO.r [RO.i x40, RO.i x41, RO.s (roS (roN (roN d i.toNat) (2 : Nat))), roN (roN d i.toNat) (3 : Nat)]) (2 : Nat))))) → InR IntKind.u64 x43 → ∀ (x44 : Int), x44 = Sc.w1 (saysN s2 (roZ (roN (RO.r [RO.i x40, RO.i x41, RO.s (roS (roN (roN d i.toNat) (2 : Nat))), roN (roN d i.toNat) (3 : Nat)]) (0 : Nat))) (bytesI (roS (roN (RO.r [RO.i x40, RO.i x41, RO.s (roS (roN (roN d i.toNat) (2 : Nat))), roN (roN d i.toNat) (3 : Nat)]) (2 : Nat))))) → InR IntKind.u64 x44 → ∀ (x45 : Int), x45 = Sc.w2 (saysN s2 (roZ (roN (RO.r [RO.i x40, RO.i x41, RO.s (roS (roN (roN d i.toNat) (2 : Nat))), roN (roN d i.toNat) (3 : Nat)]) (0 : Nat))) (bytesI (roS (roN (RO.r [RO.i x40, RO.i x41, RO.s (roS (roN (roN d i.toNat) (2 : Nat))), roN (roN d i.toNat) (3 : Nat)]) (2 : Nat))))) → InR IntKind.u64 x45 → ∀ (x46 : Int), x46 = Sc.w3 (saysN s2 (roZ (roN (RO.r [RO.i x40, RO.i x41, RO.s (roS (roN (roN d i.toNat) (2 : Nat))), roN (roN d i.toNat) (3 : Nat)]) (0 : Nat))) (bytesI (roS (roN (RO.r [RO.i x40, RO.i x41, RO.s (roS (roN (roN d i.toNat) (2 : Nat))), roN (roN d i.toNat) (3 : Nat)]) (2 : Nat))))) → InR IntKind.u64 x46 → ∀ (x47 : Int), x47 = saysE s2 (roZ (roN (RO.r [RO.i x40, RO.i x41, RO.s (roS (roN (roN d i.toNat) (2 : Nat))), roN (roN d i.toNat) (3 : Nat)]) (0 : Nat))) (bytesI (roS (roN (RO.r [RO.i x40, RO.i x41, RO.s (roS (roN (roN d i.toNat) (2 : Nat))), roN (roN d i.toNat) (3 : Nat)]) (2 : Nat)))) → InR IntKind.i64 x47 → ((![x6, x7, x8, x9] == [x43, x44, x45, x46]) = true → K [RV.v (SV.b true false)] []) ∧ ((![x6, x7, x8, x9] == [x43, x44, x45, x46]) = false → ((x10 != x47) = true → K [RV.v (SV.b true false)] []) ∧ ((x10 != x47) = false → ∀ (x48 : List Int), x48 = x5 → x48.length = (64 : Nat) → AllR IntKind.u8 x48 → ∀ (x49 : List Int), x49 = stateL b1 x5 → x49.length = (64 : Nat) → AllR IntKind.u8 x49 → ∀ (x50 : List Int), x50 = x42 → x50.length = (64 : Nat) → AllR IntKind.u8 x50 → ∀ (x51 : List Int), x51 = stateL b2 x42 → x51.length = (64 : Nat) → AllR IntKind.u8 x51 → ((!x49 == x51) = true → K [RV.v (SV.b true false)] []) ∧ ((!x49 == x51) = false → ∀ (x52 : Int), x52 = IntKind.i64.wrap (i + (1 : Int)) → InR IntKind.i64 x52 → Same Tryd.f6 (7 : Nat) (itemsOf Tryd.f6 (7 : Nat)) ∧ Q (7 : Nat) [Pv.ro d, Pv.ro c, Pv.z x52, Pv.l g2, Pv.l g3, Pv.l x48, Pv.b b1, Pv.l x50, Pv.b b2, Pv.l s3, Pv.b b3]))))) ∧ (decide (i < (((roX d).length : Nat) : Int)) = false → K [RV.v (SV.b true true)] [])) := by
  intros
  kernel_rfl

theorem r0 (a b c d : RO) : roN (.r [a, b, c, d]) 0 = a := rfl
theorem r2 (a b c d : RO) : roN (.r [a, b, c, d]) 2 = c := rfl
theorem r3 (a b c d : RO) : roN (.r [a, b, c, d]) 3 = d := rfl
theorem rs (s : ByteArray) : roS (.s s) = s := rfl
theorem rz (z : Int) : roZ (.i z) = z := rfl
/-- Is a saying short enough? -/
def szD (d : RO) : Prop := ∀ j, j < (roX d).length → ((frL (bytesI (roS (roN (roN d j) 2))) ((roX (roN (roN d j) 3)).map roL)).length : Int) + 1000 ≤ 70368744177664
theorem step6 {d c : RO} {j : Nat} {S S3 : List Int} {Q : Nat → List Pv → Prop} (hd : szD d) (hcs : szD c) (hL : ((roX d).length : Int) ≤ 1048576)
    (h : ∀ S' S3', j < (roX d).length → Q 7 [.ro d, .ro c, .z ((j + 1 : Nat) : Int), .l K80, .l K80, .l S', .b true, .l S', .b true, .l S3', .b true]) :
    lc6 d c (j : Int) K80 K80 S S S3 true true true (fun rvs fin => ∃ e, rvs = [.v (.b e true)]) Q := by
  rw [lc6_eq]
  simp only [r0, r2, r3, rs, rz, Int.toNat_natCast]
  refine ⟨fun hlt => ?_, fun _ => ⟨true, rfl⟩⟩
  have hlt := of_decide_eq_true hlt
  have hdj := hd j (by omega)
  refine ⟨need_of trivial, need_of (by omega), ?_⟩
  intro x1 e1 _ _ x2 e2 l2 _
  refine ⟨need_of (by omega), ?_⟩
  intro x3 e3 _ x4 e4 _
  refine ⟨need_of trivial, need_of hdj, ?_⟩
  intro x5 e5 _ _ x6 e6 _ x7 e7 _ x8 e8 _ x9 e9 _ x10 e10 _
  refine ⟨fun hlc => ?_, fun _ => ?_⟩
  · have hlc := of_decide_eq_true hlc
    have hcj := hcs j (by omega)
    refine ⟨need_of (by omega), ?_⟩
    intro x11 e11 _ x12 e12 _
    refine ⟨need_of trivial, need_of hcj, ?_⟩
    intro x13 _ _ _ x14 e14 _ x15 e15 _ x16 e16 _ x17 e17 _ x18 e18 _
    refine ⟨need_of (by omega), ?_⟩
    intro x19 e19 _ x20 e20 _
    refine ⟨need_of trivial, need_of hcj, ?_⟩
    intro x21 _ _ _ x22 e22 _ x23 e23 _ x24 e24 _ x25 e25 _ x26 e26 _
    refine ⟨need_of (by omega), ?_⟩
    intro x27 e27 _ x28 e28 _
    refine ⟨need_of trivial, need_of hdj, ?_⟩
    intro x29 e29 _ _ x30 e30 _ x31 e31 _ x32 e32 _ x33 e33 _ x34 e34 _
    have h5 : x5 = x29 := by rw [e5, e29, e2, e3, e27]
    have hw : [x6, x7, x8, x9] = [x30, x31, x32, x33] := by rw [e6, e7, e8, e9, e30, e31, e32, e33, e2, e3, e27]
    have hE : x10 = x34 := by rw [e10, e34, e2, e3, e27]
    refine ⟨fun h => (by rw [hw] at h; simp at h), fun _ => ⟨fun h => (by rw [hE] at h; simp at h), fun _ => ?_⟩⟩
    intro x35 e35 _ _ x36 e36 _ _ x37 e37 _ _ x38 e38 _ _
    have h38 : x36 = x38 := by rw [e36, e38, h5]
    refine ⟨fun h => (by rw [h38] at h; simp at h), fun _ => ?_⟩
    intro x39 e39 _
    rw [wrap_i64 (by omega)] at e39
    refine ⟨rfl, ?_⟩
    rw [e39, e35, e37, ← h5, show (j : Int) + 1 = ((j + 1 : Nat) : Int) by omega]
    exact h x5 x21 (by omega)
  · refine ⟨need_of (by omega), ?_⟩
    intro x40 e40 _ x41 e41 _
    refine ⟨need_of trivial, need_of hdj, ?_⟩
    intro x42 e42 _ _ x43 e43 _ x44 e44 _ x45 e45 _ x46 e46 _ x47 e47 _
    have h5 : x5 = x42 := by rw [e5, e42, e2, e3, e40]
    have hw : [x6, x7, x8, x9] = [x43, x44, x45, x46] := by rw [e6, e7, e8, e9, e43, e44, e45, e46, e2, e3, e40]
    have hE : x10 = x47 := by rw [e10, e47, e2, e3, e40]
    refine ⟨fun h => (by rw [hw] at h; simp at h), fun _ => ⟨fun h => (by rw [hE] at h; simp at h), fun _ => ?_⟩⟩
    intro x48 e48 _ _ x49 e49 _ _ x50 e50 _ _ x51 e51 _ _
    have h38 : x49 = x51 := by rw [e49, e51, h5]
    refine ⟨fun h => (by rw [h38] at h; simp at h), fun _ => ?_⟩
    intro x52 e52 _
    rw [wrap_i64 (by omega)] at e52
    refine ⟨rfl, ?_⟩
    rw [e52, e48, e50, ← h5, show (j : Int) + 1 = ((j + 1 : Nat) : Int) by omega]
    exact h x5 S3 (by omega)

def inv6 (d c : RO) (key : Nat) (ps : List Pv) (m : Nat) : Prop :=
  key = 7 ∧ ∃ (j : Nat) (S S3 : List Int), j ≤ (roX d).length ∧ ps = [.ro d, .ro c, .z (j : Int), .l K80, .l K80, .l S, .b true, .l S, .b true, .l S3, .b true] ∧ m = (roX d).length - j

theorem flat_sum : ∀ xs : List RO, ((xs.map roL).flatten).length ≤ (xs.map (roM (.ints .u8))).sum
  | [] => by simp
  | x :: xs => by
      have := flat_sum xs
      have h : roM (.ints .u8) x = (roL x).length := rfl
      simp only [List.map_cons, List.flatten_cons, List.length_append, List.sum_cons]
      omega
theorem parts_len : ∀ ps : List (List Int), ((ps.map fun p => le8 (p.length : Int) ++ p).flatten).length = 8 * ps.length + ps.flatten.length
  | [] => rfl
  | p :: ps => by
      have := parts_len ps
      simp only [List.map_cons, List.flatten_cons, List.length_append, List.length_cons, le8_len]
      omega
theorem mem_sum : ∀ {l : List Nat} {x : Nat}, x ∈ l → x ≤ l.sum
  | y :: r, x, h => by
    rw [List.sum_cons]
    rcases List.mem_cons.1 h with rfl | h
    · omega
    · have := mem_sum h; omega
theorem szD_of {d : RO} (h : roM (.l (.r [.i .i64, .i .i64, .ts, .l (.ints .u8)])) d ≤ 1048576) : szD d := fun j hj => by
  have h : (roX d).length + ((roX d).map (roM (.r [.i .i64, .i .i64, .ts, .l (.ints .u8)]))).sum ≤ 1048576 := h
  have hm : roM (.r [.i .i64, .i .i64, .ts, .l (.ints .u8)]) (roN d j) ∈ (roX d).map (roM (.r [.i .i64, .i .i64, .ts, .l (.ints .u8)])) :=
    List.mem_map.2 ⟨roN d j, by rw [show roN d j = (roX d)[j] by simp [roN, List.getD_eq_getElem?_getD, hj]]; exact List.getElem_mem hj, rfl⟩
  have hle := mem_sum hm
  have e : roM (.r [.i .i64, .i .i64, .ts, .l (.ints .u8)]) (roN d j) = 0 + (0 + ((roS (roN (roN d j) 2)).size + ((roX (roN (roN d j) 3)).length + ((roX (roN (roN d j) 3)).map (roM (.ints .u8))).sum + 0))) := rfl
  have hf := flat_sum (roX (roN (roN d j) 3))
  have hp : (frL (bytesI (roS (roN (roN d j) 2))) ((roX (roN (roN d j) 3)).map roL)).length = 8 + (roS (roN (roN d j) 2)).size + 8 + (8 * (roX (roN (roN d j) 3)).length + ((roX (roN (roN d j) 3)).map roL).flatten.length) := by
    unfold frL partsL
    simp only [List.length_append, le8_len, bytesI_len]
    rw [parts_len, List.length_map]
  omega

theorem str_arg {P : Program} {H : Type} {enc : TypeId × Value → H} {W : World} (N : Nat) {t : TypeId} {s : ByteArray} {d : DataW H} {ps : List MemPlace} (hs : shTyB P .ts t = true) (h : DataW.Trod enc P W 0 (fun _ => true) true t (.string s) d ps) :
    s.size + 1 ≤ Go.Proofs.YthgclfedhgmpiaaDoor.Rows.uptoBulk d ∧ ((∀ n ∈ d.weights P t, n ≤ N) → s.size ≤ N) := by
  obtain ⟨fuel, h⟩ := h
  obtain ⟨ro, u, e, q1, q2, q3⟩ := trod_ro N .ts t fuel _ _ hs h
  simp only [RoD] at q1
  obtain ⟨rfl, _⟩ := q1
  have e : s = roS ro := by simpa [Value.cells] using e
  rw [e]
  exact ⟨q2, q3⟩

theorem law (W : World) (hG : Glob gh5 W fun _ => False) (s : ByteArray) (hx : s.size ≤ reachBytes)
    (d : RO) (v : Value) (hv : RoD W (OutB W fun _ => False) (.l (.r [.i .i64, .i .i64, .ts, .l (.ints .u8)])) d v) (hs : ∃ ad n cap, v = .slice ad n cap) (hx1 : roMx reachBytes (.l (.r [.i .i64, .i .i64, .ts, .l (.ints .u8)])) d)
    (c : RO) (v1 : Value) (hv1 : RoD W (OutB W fun _ => False) (.l (.r [.i .i64, .i .i64, .ts, .l (.ints .u8)])) c v1) (hs1 : ∃ ad n cap, v1 = .slice ad n cap) (hx2 : roMx reachBytes (.l (.r [.i .i64, .i .i64, .ts, .l (.ints .u8)])) c)
    (hM : s.size + roM (.l (.r [.i .i64, .i .i64, .ts, .l (.ints .u8)])) d + roM (.l (.r [.i .i64, .i .i64, .ts, .l (.ints .u8)])) c ≤ 1048576) :
    Calls Tryd.prog 6 #[.string s, v, v1] W fun e w' => e = .returned (.bool true) ∧ Below W.heap.size W w' := by
  have hd : szD d := szD_of (by omega)
  have hc : szD c := szD_of (by omega)
  have hL : ((roX d).length : Int) ≤ 1048576 := by
    have : roM (.l (.r [.i .i64, .i .i64, .ts, .l (.ints .u8)])) d = (roX d).length + ((roX d).map (roM (.r [.i .i64, .i .i64, .ts, .l (.ints .u8)]))).sum := rfl
    omega
  refine law_gen Ψ4_ok rfl glow5 rfl (fn := Tryd.f6) (L := L6) (inv := inv6 d c) (av := [.v (.s s), .d (.l (.r [.i .i64, .i .i64, .ts, .l (.ints .u8)])) d, .d (.l (.r [.i .i64, .i .i64, .ts, .l (.ints .u8)])) c]) (args' := [.s s, .ro 490 shL d, .ro 490 shL c]) (K := fun rvs fin => ∃ e, rvs = [.v (.b e true)]) ⟨rfl, rfl, rfl, trivial⟩ (Nat.le_of_ble_eq_true (by kernel_rfl)) ⟨?_, ?_, ?_⟩ (fun _ _ h => h) hG
    ⟨_, _, rfl, ⟨rfl, by omega⟩, v, _, rfl, hv, v1, _, rfl, hv1, rfl, rfl⟩
  · intro kk t ht g hg
    have hg : g ∈ [3, 0, 4, 2, 1, 490] := hg
    simp only [List.mem_cons, List.not_mem_nil, or_false] at hg
    simp only [L6, List.mem_cons, List.not_mem_nil, or_false, Prod.mk.injEq] at ht
    obtain ⟨rfl, rfl⟩ := ht
    rcases hg with rfl | rfl | rfl | rfl | rfl | rfl <;> exact ⟨by omega, rfl⟩
  · rintro vk t ps mm ht ⟨rfl, j, S, S3, hj, rfl, rfl⟩
    simp only [L6, List.mem_cons, List.not_mem_nil, or_false, Prod.mk.injEq] at ht
    obtain ⟨_, rfl⟩ := ht
    show lc6 d c (j : Int) K80 K80 S S S3 true true true _ _
    exact step6 hd hc hL fun S' S3' hlt => ⟨(roX d).length - (j + 1), by omega, rfl, j + 1, S', S3', by omega, rfl, rfl⟩
  · show vc6 s d c _ _
    rw [vc6_eq]
    have hl : (frL tagT [bytesI s]).length = 39 + s.size := by
      rw [frL_len1, bytesI_len, show tagT.length = 15 from rfl]
      omega
    refine ⟨need_of (by omega), ?_⟩
    intro x1 e1 _ _
    refine ⟨need_of (by omega), ?_⟩
    intro x2 e2 _ _
    refine ⟨need_of (by omega), ?_⟩
    intro x3 e3 _ _ x4 e4 _ _ x5 e5 _ _ x6 e6 _ _ x7 e7 _ _
    have h57 : x5 = x7 := by rw [e5, e7, e1, e2]
    refine ⟨fun h => (by rw [h57] at h; simp at h), fun _ => ?_⟩
    intro x8 e8 _ _ x9 e9 _ _
    refine ⟨need_of (by omega), ?_⟩
    intro x10 e10 _ _
    have h910 : x9 = x10 := by rw [e9, e10, e4, e1]; unfold stateL; rw [if_pos rfl]
    refine ⟨fun h => (by rw [h910] at h; simp at h), fun _ => ⟨rfl, (roX d).length - 0, rfl, 0, x8, x3, Nat.zero_le _, ?_, rfl⟩⟩
    rw [show x6 = x8 by rw [e6, e8, e4, e2, e1]]
    rfl
end TranscriptSame

namespace TranscriptSame
open Go.Proofs.YthgclfedhgmpiaaDoor
open Go.ChangeShapes Go.WideShapes Go.ChangeAt Go.RowKit
theorem reads (t : Nat) (h : t ∈ Tryd.f6.params.toList) : Tryd.prog.readableRec t = true ∧ t < Tryd.prog.types.size := by
  have hp : Tryd.f6.params.toList = [9, 23, 23] := by kernel_rfl
  rw [hp] at h
  simp only [List.mem_cons, List.not_mem_nil, or_false] at h
  rcases h with rfl | rfl | rfl <;> exact ⟨by kernel_rfl, Nat.le_of_ble_eq_true (by kernel_rfl)⟩

set_option maxRecDepth 100000 in
/-- What the call gives, for every argument and every world that holds the tables. -/
theorem contract (H : Type) (enc : TypeId × Value → H) (W : World) (base : Nat) (args : Array Value) (ds gs : List (DataW H)) (before : List MemPlace)
    (hval : ∀ (j : Nat) t v, Tryd.f6.params[j]? = some t → args[j]? = some v → Value.okWide Tryd.prog W .any base t v)
    (hW : DataW.Whole enc Tryd.prog Tryd.f6.params.toList Rows.transcriptSameSpec.vars false W args.toList ds gs before)
    (hw : (DataW.weightsEach Tryd.prog (Tryd.f6.params.toList ++ (Rows.OpenSpec.upto Rows.transcriptSameSpec).bare.plain.varTypes Tryd.prog) (ds ++ gs)).all (· ≤ reachBytes) = true) (hL : laidMetH Tryd.prog Rows.transcriptSameUptoRow.laid W) (hC : Rows.uptoSmall H (ds ++ gs) = true) :
    Calls Tryd.prog 6 args W fun e W' => ∃ v, e = .returned v ∧ Rows.transcriptSameSpec.post enc Tryd.prog Tryd.f6 false true false false W args v W' := by
  have hA : DataW.TrodAll enc Tryd.prog W 0 (fun _ => true) true [9, 23, 23] args.toList ds _ := hW.choose_spec.choose_spec.1
  obtain ⟨v0, vs0, d0, ds0, p0, q0, hargs, hds, _, h0, r0⟩ := trodAll_cons hA
  obtain ⟨v1, vs1, d1, ds1, p1, q1, rfl, hds1, _, h1, r1⟩ := trodAll_cons r0
  obtain ⟨v2, vs2, d2, ds2, p2, q2, rfl, hds2, _, h2, r2⟩ := trodAll_cons r1
  obtain ⟨rfl, hdsn, _⟩ := trodAll_nil r2
  obtain rfl : args = #[v0, v1, v2] := by cases args; simp_all
  have hds : ds = [d0, d1, d2] := by rw [hds, hds1, hds2, hdsn]
  have hp : Tryd.f6.params = #[9, 23, 23] := by kernel_rfl
  rw [hp] at hval
  have hp2 : Tryd.f6.params.toList = [9, 23, 23] := by kernel_rfl
  rw [hds, hp2] at hw
  have hC : Rows.uptoBulkAll (ds ++ gs) ≤ 1048576 := of_decide_eq_true hC
  rw [hds, bulkAll_app] at hC
  simp only [Rows.uptoBulkAll] at hC
  obtain ⟨s0, rfl⟩ := okWide_string (by kernel_rfl) (hval 0 9 v0 rfl rfl)
  obtain ⟨b0, x0⟩ := str_arg reachBytes (by kernel_rfl) h0
  have x0 := x0 fun n hn => by simpa using List.all_eq_true.1 hw n (DataW.weights_mem_each (j := 0) rfl rfl n hn)
  have hc1 : v1.cells.toList = [v1] := by
    obtain ⟨a, len, cap, e⟩ := okWide_slice (e := 32) (by kernel_rfl) (hval 1 23 v1 rfl rfl)
    rw [e]; rfl
  obtain ⟨o1, e1, s1, b1, x1⟩ := arg_ro reachBytes (.l (.r [.i .i64, .i .i64, .ts, .l (.ints .u8)])) (by kernel_rfl) rfl hc1 h1
  have x1 := x1 fun n hn => by simpa using List.all_eq_true.1 hw n (DataW.weights_mem_each (j := 1) rfl rfl n hn)
  have hc2 : v2.cells.toList = [v2] := by
    obtain ⟨a, len, cap, e⟩ := okWide_slice (e := 32) (by kernel_rfl) (hval 2 23 v2 rfl rfl)
    rw [e]; rfl
  obtain ⟨o2, e2, s2, b2, x2⟩ := arg_ro reachBytes (.l (.r [.i .i64, .i .i64, .ts, .l (.ints .u8)])) (by kernel_rfl) rfl hc2 h2
  have x2 := x2 fun n hn => by simpa using List.all_eq_true.1 hw n (DataW.weights_mem_each (j := 2) rfl rfl n hn)
  refine (law W (tab_glob6 hL) s0 x0 o1 v1 e1 s1 x1 o2 v2 e2 s2 x2 (by omega)).mono fun e W' ⟨he, hB⟩ => ?_
  subst he
  refine ⟨_, rfl, post_true (tb := 4) laidOut rfl (by kernel_rfl) (by kernel_rfl) reads ?_ hW hB⟩
  intro ds hds
  have hds : ds.length = 3 := hds
  match ds, hds with
  | [a0, a1, a2], _ => exact ⟨rfl, rfl, rfl⟩

def wargs : Array Value := #[.string ByteArray.empty, .slice none 0 0, .slice none 0 0]
theorem laid_met (os : Os) : laidMet Tryd.prog Rows.transcriptSameUptoRow.laid ((laidWorld5 os).forCall (fun _ _ => 0) ⟨#[], wargs, []⟩).memory :=
  laidMet_of_run' 8 (by kernel_rfl) (by kernel_rfl)
theorem reads0 (os : Os) {H : Type} (enc : TypeId × Value → H) : ∃ places, DataW.whole enc Tryd.prog ((laidWorld5 os).forCall (fun _ _ => 0) ⟨#[], wargs, []⟩).memory Tryd.f6.params.toList Rows.transcriptSameSpec.vars false wargs.toList 8 = some ([.lit (.string []), .nil, .nil], [], places) :=
  ⟨[], by kernel_rfl⟩

set_option maxRecDepth 100000 in
theorem lifted (os : Os) (started : os.Started) (H : Type) (enc : TypeId × Value → H) (F : Stop.Interp) :
    ReturnsInHanded {} Tryd.checked os 6 .any ((Rows.OpenSpec.upto Rows.transcriptSameSpec).preRow enc Tryd.prog Tryd.f6 Rows.transcriptSameUptoRow.domain false Rows.transcriptSameUptoRow.laid) (((Rows.OpenSpec.upto Rows.transcriptSameSpec).at F).post enc Tryd.prog Tryd.f6 false true false false) := by
  obtain ⟨places, hx⟩ := reads0 os enc
  refine returnsInHanded_of_row (C := Tryd.checked) (s := (Rows.OpenSpec.upto Rows.transcriptSameSpec)) own started (by kernel_rfl) Tryd.func6
    (witness_row_at (enc := enc) (C := Tryd.checked) false (laidWorld5 os) wargs rfl (by kernel_rfl) (by kernel_rfl) (by kernel_rfl)
      (OpenSpec.preRow_of_cond 8 hx (by kernel_rfl) (fun k hk => by cases hk; kernel_rfl) (by kernel_rfl) (laid_met os))) ?_
  intro W base args ds gs before hval hW _ hcond hw hL _ _
  exact contract H enc W base args ds gs before hval hW hw hL (hcond _ rfl)

theorem said : Rows.TranscriptSameUptoSaid :=
  OpenClaim.holds_of_cond 6 Tryd.f6 rfl rfl rfl rfl rfl rfl rfl ⟨rfl, rfl, rfl, rfl, rfl⟩ rfl rfl rfl rfl rfl (by kernel_rfl) Tryd.func6 (by kernel_rfl)
    (of_decide_eq_true (by kernel_rfl)) (by unfold Func.isWrapper; first | (rw [if_pos (by decide +kernel)]; kernel_rfl) | (rw [if_neg (by decide +kernel)]; exact ⟨rfl, rfl⟩))
    (fun os started H enc _ F => by rw [OpenClaim.pre_eq_preRow]; exact lifted os started H enc F)

theorem plain (f : FuncId) (fn : Func) (hf : Tryd.pinned.checked.prog.funcNamed "veil/veillaw08.TranscriptSame" = some f) (hfn : Tryd.pinned.checked.prog.funcs[f]? = some fn) :
    false = Tryd.pinned.checked.prog.looks [] ∧ ∀ (j : Nat) t, fn.params[j]? = some t → Tryd.pinned.checked.prog.wantsStandIn t = false := by
  obtain rfl : f = 6 := Option.some.inj ((show Tryd.prog.funcNamed "veil/veillaw08.TranscriptSame" = some 6 by kernel_rfl).symm.trans hf) |>.symm
  obtain rfl : fn = Tryd.f6 := (Option.some.inj (Tryd.func6.symm.trans hfn)).symm
  refine ⟨by kernel_rfl, fun j t ht => ?_⟩
  have hp : Tryd.f6.params = #[9, 23, 23] := by kernel_rfl
  rw [hp] at ht
  have := Array.mem_of_getElem? ht
  simp only [List.mem_toArray, List.mem_cons, List.not_mem_nil, or_false] at this
  rcases this with rfl | rfl | rfl <;> exact (show Tryd.prog.wantsStandIn _ = false by kernel_rfl)

theorem card : Rows.TranscriptSameUptoCardSaid :=
  Claim7.holds_tied_plain_at .later [] _ _ _ _ said (fun _ h => by cases h) (by kernel_rfl) (fun _ h => by cases h) transcriptSameUpto_row_tie rfl ⟨rfl, rfl⟩ (by kernel_rfl) rfl plain (by kernel_rfl)
end TranscriptSame
end Go.Gx

namespace Go.Proofs.YthgclfedhgmpiaaDoor
theorem transcriptSameProved : Rows.TranscriptSameUptoCardSaid := Go.Gx.TranscriptSame.card
end Go.Proofs.YthgclfedhgmpiaaDoor
#print axioms Go.Proofs.YthgclfedhgmpiaaDoor.transcriptSameProved
