/- The functions of the program that the law reaches, printed as predicates, with the proofs that they are the code. No conditions of its own. -/
import Derived.Test.YthbmhdlbphkljaaGreatDoorRows
import Derived.KernelRfl
import Derived.Test.YthbmhdlbphkljaaGreatDoorYf
namespace Go.Proofs.YthbmhdlbphkljaaGreatDoor
open Go Go.X
set_option maxRecDepth 1000000
def eqList : List TypeId := [7, 8, 23, 24, 25, 26, 27, 28, 29, 30, 43, 44, 45, 46, 83, 84, 86, 87, 92, 93, 94, 95, 113, 114, 123, 124, 140, 141, 217, 218, 226, 227]
noncomputable abbrev PP : Program := Tryz.prog
noncomputable def EE : Env := Env.of Tryz.prog [] eqList
theorem b1 : namedB Tryz.prog = true := by kernel_rfl
theorem b2 : numB Tryz.prog = true := by kernel_rfl
theorem b3 : Tryz.prog.types.size < 2 ^ 20 := of_decide_eq_true (by kernel_rfl)
theorem b4 : Tryz.prog.funcs.size < 2 ^ 20 := of_decide_eq_true (by kernel_rfl)
theorem b6 : Tryz.prog.follows .mixedOrders = true := Tryz.checked.mixed
theorem b5 : eqsB Tryz.prog eqList = true := by kernel_rfl
theorem envOk : EnvOk PP EE := envOk_of _ _ _ b3 b4 b1 b2 b6 b5 (fun f k h => by cases h)
noncomputable abbrev CP (f : FuncId) (args : List Value) (h : H) (K : Value → H → Prop) : Prop := callP PP f args h K
noncomputable abbrev DP (v : Value) (args : List Value) (h : H) (K : Value → H → Prop) : Prop := dynP PP EE v args h K
noncomputable def scArm (l l' : Nat) (X : Prop) : Prop := Bool.rec (motive := fun _ => Prop) False X (Nat.beq l l')
end Go.Proofs.YthbmhdlbphkljaaGreatDoor
