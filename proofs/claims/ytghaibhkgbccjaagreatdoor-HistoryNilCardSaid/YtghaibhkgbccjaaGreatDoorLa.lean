/- A part of the proof that the law HistoryNil answers true at every input. No conditions of its own. -/
import Derived.Test.YtghaibhkgbccjaaGreatDoorRows
import Derived.KernelRfl
import Derived.Test.YtghaibhkgbccjaaGreatDoorXx
namespace Go.Proofs.YtghaibhkgbccjaaGreatDoor
open Go Go.X
set_option maxRecDepth 1000000
def eqList : List TypeId := [7, 8, 24, 25, 27, 28, 39, 40, 45, 46, 54, 55, 56, 57, 58, 59, 66, 67, 78, 79, 80, 81, 90, 91, 107, 108, 116, 177, 178, 180, 181, 198, 199, 200, 203, 204, 223, 224, 238, 239, 253, 254, 263, 264, 301]
noncomputable def EE : Env := Env.of Tryz.prog [] eqList
theorem b1 : namedB Tryz.prog = true := by kernel_rfl
theorem b2 : numB Tryz.prog = true := by kernel_rfl
theorem b3 : Tryz.prog.types.size < 2 ^ 20 := of_decide_eq_true (by kernel_rfl)
theorem b4 : Tryz.prog.funcs.size < 2 ^ 20 := of_decide_eq_true (by kernel_rfl)
theorem b6 : Tryz.prog.follows .mixedOrders = true := Tryz.checked.mixed
theorem b5 : eqsB Tryz.prog eqList = true := by kernel_rfl
theorem envOk : EnvOk Tryz.prog EE := envOk_of _ _ _ b3 b4 b1 b2 b6 b5
end Go.Proofs.YtghaibhkgbccjaaGreatDoor
