/- The scalar functions: types, globals. -/
import Derived.Test.YtnjcbedjhokfhaaDoorWeak
import Derived.Test.YtnjcbedjhokfhaaDoorProg
namespace Go.Gx
set_option linter.unusedVariables false

def tys : List (Nat × TInfo) := [
  (2, ⟨(.int .i64), 0, 8⟩),
  (3, ⟨(.int .i64), 0, 8⟩),
  (4, ⟨.bool, 0, 1⟩),
  (5, ⟨(.int .u8), 0, 1⟩),
  (9, ⟨.str, 0, 16⟩),
  (12, ⟨(.int .u64), 0, 8⟩),
  (13, ⟨(.struct [.str, (.int .u64)]), 0, 24⟩),
  (20, ⟨.iface, 0, 16⟩),
  (21, ⟨(.int .i32), 0, 4⟩),
  (22, ⟨(.int .u64), 0, 8⟩),
  (23, ⟨(.arr 4 (.int .u64)), 0, 32⟩),
  (24, ⟨(.arr 4 (.int .u64)), 0, 32⟩),
  (25, ⟨(.arr 4 (.int .u64)), 0, 32⟩),
  (26, ⟨(.arr 4 (.int .u64)), 0, 32⟩),
  (36, ⟨.slice, 3, 24⟩),
  (37, ⟨(.int .i64), 0, 8⟩),
  (43, ⟨.slice, 36, 24⟩),
  (54, ⟨.slice, 5, 24⟩),
  (55, ⟨.slice, 25, 24⟩),
  (58, ⟨.slice, 26, 24⟩),
  (62, ⟨.slice, 55, 24⟩),
  (65, ⟨(.arr 32 (.int .u8)), 0, 32⟩),
  (66, ⟨(.arr 32 (.int .u8)), 0, 32⟩),
  (67, ⟨(.arr 64 (.int .u8)), 0, 64⟩),
  (68, ⟨(.arr 64 (.int .u8)), 0, 64⟩),
  (80, ⟨.slice, 24, 24⟩),
  (86, ⟨(.arr 20 (.int .i64)), 0, 160⟩),
  (100, ⟨(.arr 4 (.arr 4 (.int .u64))), 0, 128⟩),
  (102, ⟨(.arr 8 (.int .u64)), 0, 64⟩),
  (104, ⟨(.arr 16 (.int .u64)), 0, 128⟩),
  (105, ⟨(.int .u64), 0, 8⟩),
  (111, ⟨.slice, 22, 24⟩),
  (113, ⟨(.arr 5 (.int .u64)), 0, 40⟩),
  (122, ⟨(.int .u32), 0, 4⟩),
  (126, ⟨.ptr, 5, 8⟩)]
def gh : Heap := [(0, .segs true [.arr .u64 4 true [6346243789798364141, 1503914060200516822, 0, 1152921504606846976], .arr .u64 4 true [15486807595281847581, 14334777244411350896, 18446744073709551614, 1152921504606846975], .arr .u64 4 true [11819153939886771969, 14991950615390032711, 14910419812499177061, 259310039853996605], .arr .u64 4 true [6346243789798364139, 1503914060200516822, 0, 1152921504606846976]])]
def Γ0 : Tab := ⟨tys, [], [0], gh⟩

theorem mixed : Go.Proofs.Tryd.prog.follows .mixedOrders = true := by kernel_rfl
theorem tys_ok : tabB Go.Proofs.Tryd.prog tys = true := by kernel_rfl
theorem Γ0_ok : TabOk Go.Proofs.Tryd.prog Γ0 := .nil mixed tys_ok

def c88 : Ctr := pureCtr sub64S
theorem c88_ok : CallOk Go.Proofs.Tryd.prog gh 88 c88 := sub64_ok (fn := Go.Proofs.Tryd.f88) (by kernel_rfl) (by kernel_rfl) (by kernel_rfl) (by kernel_rfl) (by kernel_rfl)
def c84 : Ctr := pureCtr add64S
theorem c84_ok : CallOk Go.Proofs.Tryd.prog gh 84 c84 := add64_ok (fn := Go.Proofs.Tryd.f84) (by kernel_rfl) (by kernel_rfl) (by kernel_rfl) (by kernel_rfl) (by kernel_rfl)
def Γ1 : Tab := ⟨tys, [(84, c84), (88, c88)], [0], gh⟩
theorem Γ1_ok : TabOk Go.Proofs.Tryd.prog Γ1 := (Γ0_ok.cons c88_ok).cons c84_ok

end Go.Gx
