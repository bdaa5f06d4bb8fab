/-
  The table of the types of this program (printed by a program), and that it is true.
-/
import Derived.Test.YtidhgdipnfhoeaaDoorAe6
import Derived.Test.YtidhgdipnfhoeaaDoorChecked
import Derived.KernelRfl
namespace Go.Proofs.YtidhgdipnfhoeaaDoor
open Go Go.Ab
set_option maxRecDepth 100000
def tab : Tab := [
  (2, ⟨1, .int .i64, [.int .i64], true, 8⟩),
  (3, ⟨1, .int .i64, [.int .i64], true, 8⟩),
  (4, ⟨1, .bool, [.bool], true, 1⟩),
  (5, ⟨1, .int .u8, [.int .u8], true, 1⟩),
  (9, ⟨1, .str, [.str], true, 16⟩),
  (12, ⟨1, .int .u64, [.int .u64], true, 8⟩),
  (13, ⟨2, .struct [(0, 9), (1, 12)], [.str, .int .u64], true, 24⟩),
  (20, ⟨1, .ifc, [.nilI], false, 16⟩),
  (21, ⟨1, .int .i32, [.int .i32], true, 4⟩),
  (22, ⟨1, .ptr 28, [.nilP], true, 8⟩),
  (26, ⟨1, .slice 3, [.nilSl], true, 24⟩),
  (27, ⟨3, .struct [(0, 3), (1, 3), (2, 26)], [.int .i64, .int .i64, .nilSl], true, 40⟩),
  (28, ⟨3, .struct [(0, 3), (1, 3), (2, 26)], [.int .i64, .int .i64, .nilSl], true, 40⟩),
  (29, ⟨1, .ifc, [.nilI], false, 16⟩),
  (30, ⟨1, .ifc, [.nilI], false, 16⟩),
  (43, ⟨1, .slice 5, [.nilSl], true, 24⟩),
  (60, ⟨1, .int .u64, [.int .u64], true, 8⟩),
  (64, ⟨1, .slice 28, [.nilSl], true, 24⟩),
  (65, ⟨1, .ptr 69, [.nilP], true, 8⟩),
  (67, ⟨1, .ptr 65, [.nilP], true, 8⟩),
  (68, ⟨2, .struct [(0, 3), (1, 30)], [.int .i64, .nilI], true, 24⟩),
  (69, ⟨2, .struct [(0, 3), (1, 30)], [.int .i64, .nilI], true, 24⟩),
  (70, ⟨1, .slice 30, [.nilSl], true, 24⟩),
  (92, ⟨1, .ifc, [.nilI], false, 16⟩),
  (95, ⟨1, .ifc, [.nilI], false, 16⟩),
  (97, ⟨1, .ifc, [.nilI], false, 16⟩),
  (99, ⟨1, .ifc, [.nilI], false, 16⟩),
  (102, ⟨1, .ptr 126, [.nilP], true, 8⟩),
  (113, ⟨1, .int .u32, [.int .u32], true, 4⟩),
  (116, ⟨1, .ptr 5, [.nilP], true, 8⟩),
  (125, ⟨1, .struct [(0, 9)], [.str], true, 16⟩),
  (126, ⟨1, .struct [(0, 9)], [.str], true, 16⟩),
  (127, ⟨2, .struct [(0, 9), (1, 30)], [.str, .nilI], true, 32⟩),
  (129, ⟨2, .struct [(0, 9), (1, 70)], [.str, .nilSl], true, 40⟩),
  (133, ⟨1, .int .u16, [.int .u16], true, 2⟩),
  (141, ⟨1, .ptr 30, [.nilP], true, 8⟩)]
theorem tabOk : TabOk Tryd.prog tab := by unfold TabOk; kernel_rfl
theorem mixOk : Tryd.prog.follows .mixedOrders = true := by kernel_rfl
noncomputable def envAt (G : List (Nat × Value)) (N n0 : Nat) : Env := ⟨Tryd.prog, tab, G, N, n0, []⟩
theorem envOk (G : List (Nat × Value)) (N n0 : Nat) : EnvOk (envAt G N n0) := ⟨tabOk, mixOk⟩
noncomputable def envCut (G : List (Nat × Value)) (N n0 : Nat) (cuts : List Nat) : Env := ⟨Tryd.prog, tab, G, N, n0, cuts⟩
theorem envCutOk (G : List (Nat × Value)) (N n0 : Nat) (cuts : List Nat) : EnvOk (envCut G N n0 cuts) := ⟨tabOk, mixOk⟩
end Go.Proofs.YtidhgdipnfhoeaaDoor
