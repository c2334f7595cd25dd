/- The tables of the program, and their cells in a row's world; what all rows of this seat ask. -/
import Derived.Test.YtihihilhfijloaaDoorHaA
import Derived.Test.YtihihilhfijloaaDoorLiftV
import Derived.Stop.LaidErr
namespace Go.Gx
open Go.Proofs Go.Sp Go.Proofs.YtihihilhfijloaaDoor
open Go.ChangeShapes Go.WideShapes Go.ChangeAt Go.RowKit
set_option linter.unusedVariables false

theorem glob_of {W : World} {name : String} {k : IntKind} {zs : List Int} {g : Nat} (hg : Tryd.prog.globalNamed name = some g) (h : Lib.TabIs Tryd.prog W name k zs) : W.rangeAt g 0 (zs.map (Value.int k)) ∧ g < W.heap.size := by
  have hv : W.var? Tryd.prog name = some (zs.map fun z => Value.int k z).toArray := h
  constructor
  · intro j v hj
    have := World.var?_cell hg hv j
    rw [Nat.zero_add, this]
    simpa using hj
  · unfold World.var? at hv
    rw [hg] at hv
    simp only [Option.bind_some] at hv
    split at hv
    · rename_i hh
      exact (Array.getElem?_eq_some_iff.1 hh).1
    · cases hv

theorem all_u64 {l : List Int} (h : (l.all fun z => decide (0 ≤ z) && decide (z < 18446744073709551616)) = true) : AllR .u64 l := fun z hz => by
  have := List.all_eq_true.1 h z hz
  simpa [InR] using this
theorem start_ok : start8.length = 8 ∧ AllR .u64 start8 := ⟨rfl, all_u64 (by decide +kernel)⟩
theorem rounds_ok : K80.length = 80 ∧ AllR .u64 K80 := ⟨by decide +kernel, all_u64 (by decide +kernel)⟩

theorem tab_glob {W : World} (h : laidMetH Tryd.prog [("veil/hash.rounds", Rows.laid_veil_hash_rounds), ("veil/hash.start", Rows.laid_veil_hash_start)] W) : Glob gh W fun _ => False := by
  have h' : laidMet Tryd.prog (("veil/hash.rounds", Lib.tabData .u64 K80) :: ("veil/hash.start", Lib.tabData .u64 start8) :: []) W := h
  obtain ⟨a1, a2⟩ := glob_of (g := 2) (by kernel_rfl) (Lib.tabIs_of_head (n := 80) (g := 2) (t := 78) (e := 43) (by kernel_rfl) (by kernel_rfl) (by kernel_rfl) (by kernel_rfl) (by kernel_rfl) (by kernel_rfl) h')
  obtain ⟨b1, b2⟩ := glob_of (g := 0) (by kernel_rfl) (Lib.tabIs_of_head (n := 8) (g := 0) (t := 44) (e := 43) (by kernel_rfl) (by kernel_rfl) (by kernel_rfl) (by kernel_rfl) (by kernel_rfl) (by kernel_rfl) (laidMet.tail h'))
  intro g b hb
  have hb : (g, b) ∈ [(0, SB.segs true [.arr .u64 8 true start8]), (2, .segs true [.arr .u64 80 false K80])] := hb
  simp only [List.mem_cons, List.not_mem_nil, or_false, Prod.mk.injEq] at hb
  rcases hb with ⟨rfl, rfl⟩ | ⟨rfl, rfl⟩
  · exact ⟨_, _, rfl, ⟨_, _, ⟨start_ok.1, start_ok.2, rfl⟩, (List.append_nil _).symm, rfl⟩, b1, fun x => x, b2⟩
  · exact ⟨_, _, rfl, ⟨_, _, ⟨rounds_ok.1, rounds_ok.2, rfl⟩, (List.append_nil _).symm, rfl⟩, a1, fun x => x, a2⟩

def layC (cs : Array Value) : Obj → Obj
  | .cells _ t frozen => .cells cs t frozen
  | o => o
/-- A world for the witness: the settled one, the tables laid. -/
noncomputable def laidWorld (os : Os) : World :=
  { World.holding Tryd.prog os ⟨#[], #[], []⟩ with heap := ((World.holding Tryd.prog os ⟨#[], #[], []⟩).heap.modify 0 (layC #[.int .u64 7640891576956012808, .int .u64 13503953896175478587, .int .u64 4354685564936845355, .int .u64 11912009170470909681, .int .u64 5840696475078001361, .int .u64 11170449401992604703, .int .u64 2270897969802886507, .int .u64 6620516959819538809])).modify 2 (layC #[.int .u64 4794697086780616226, .int .u64 8158064640168781261, .int .u64 13096744586834688815, .int .u64 16840607885511220156, .int .u64 4131703408338449720, .int .u64 6480981068601479193, .int .u64 10538285296894168987, .int .u64 12329834152419229976, .int .u64 15566598209576043074, .int .u64 1334009975649890238, .int .u64 2608012711638119052, .int .u64 6128411473006802146, .int .u64 8268148722764581231, .int .u64 9286055187155687089, .int .u64 11230858885718282805, .int .u64 13951009754708518548, .int .u64 16472876342353939154, .int .u64 17275323862435702243, .int .u64 1135362057144423861, .int .u64 2597628984639134821, .int .u64 3308224258029322869, .int .u64 5365058923640841347, .int .u64 6679025012923562964, .int .u64 8573033837759648693, .int .u64 10970295158949994411, .int .u64 12119686244451234320, .int .u64 12683024718118986047, .int .u64 13788192230050041572, .int .u64 14330467153632333762, .int .u64 15395433587784984357, .int .u64 489312712824947311, .int .u64 1452737877330783856, .int .u64 2861767655752347644, .int .u64 3322285676063803686, .int .u64 5560940570517711597, .int .u64 5996557281743188959, .int .u64 7280758554555802590, .int .u64 8532644243296465576, .int .u64 9350256976987008742, .int .u64 10552545826968843579, .int .u64 11727347734174303076, .int .u64 12113106623233404929, .int .u64 14000437183269869457, .int .u64 14369950271660146224, .int .u64 15101387698204529176, .int .u64 15463397548674623760, .int .u64 17586052441742319658, .int .u64 1182934255886127544, .int .u64 1847814050463011016, .int .u64 2177327727835720531, .int .u64 2830643537854262169, .int .u64 3796741975233480872, .int .u64 4115178125766777443, .int .u64 5681478168544905931, .int .u64 6601373596472566643, .int .u64 7507060721942968483, .int .u64 8399075790359081724, .int .u64 8693463985226723168, .int .u64 9568029438360202098, .int .u64 10144078919501101548, .int .u64 10430055236837252648, .int .u64 11840083180663258601, .int .u64 13761210420658862357, .int .u64 14299343276471374635, .int .u64 14566680578165727644, .int .u64 15097957966210449927, .int .u64 16922976911328602910, .int .u64 17689382322260857208, .int .u64 500013540394364858, .int .u64 748580250866718886, .int .u64 1242879168328830382, .int .u64 1977374033974150939, .int .u64 2944078676154940804, .int .u64 3659926193048069267, .int .u64 4368137639120453308, .int .u64 4836135668995329356, .int .u64 5532061633213252278, .int .u64 6448918945643986474, .int .u64 6902733635092675308, .int .u64 7801388544844847127]) }

theorem own : ownKnob Tryd.prog.godebug = none := by kernel_rfl
theorem laidOut : laidOutB Tryd.prog = true := by kernel_rfl

end Go.Gx
