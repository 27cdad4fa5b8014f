/- Proved: whatever entries and cells come in, GridEntries and GridOrders answer true, and the arguments read as they did. Conditions: none beyond those that the given statements state themselves. -/
import Derived.Test.YthbmhdlbphkljaaGreatDoorLp
import Derived.Test.YthbmhdlbphkljaaGreatDoorTie
import Derived.Test.YthbmhdlbphkljaaGreatDoorCards
import Derived.SevenTiedAt
namespace Go.Proofs.YthbmhdlbphkljaaGreatDoor
open Go
set_option maxRecDepth 1000000
theorem d2 : Tryz.pinned.checked.prog.mainIs = some (true, "b2a60c287e48e267b894b863aef7fda1adac92383c7fa7a5b0fab315d4dadef4".toList) := by kernel_rfl
theorem d4 : false = Tryz.pinned.checked.prog.looks [] := by kernel_rfl
theorem w22 : Tryz.prog.wantsStandIn 22 = false := by kernel_rfl
theorem w30 : Tryz.prog.wantsStandIn 30 = false := by kernel_rfl
theorem w24 : Tryz.prog.wantsStandIn 24 = false := by kernel_rfl
theorem w39 : Tryz.prog.wantsStandIn 39 = false := by kernel_rfl
theorem ed1 : Rows.gridEntriesRow.wfByText (OpenSpec.ofChange Rows.gridEntriesSpec) = true := by kernel_rfl
theorem ed3 : Tryz.prog.funcNamed "abacist/abacistlaw25.GridEntries" = some 3 := by kernel_rfl
theorem ed6 : false = Rows.gridEntriesRow.goesBy Tryz.pinned.checked.prog := by kernel_rfl
theorem ed7 (f : FuncId) (fn : Func) (hf : Tryz.pinned.checked.prog.funcNamed Rows.gridEntriesRow.func = some f) (hfn : Tryz.pinned.checked.prog.funcs[f]? = some fn) :
    false = Tryz.pinned.checked.prog.looks [] ∧ ∀ (j : Nat) t, fn.params[j]? = some t → Tryz.pinned.checked.prog.wantsStandIn t = false := by
  obtain rfl : f = 3 := Option.some.inj (ed3.symm.trans hf) |>.symm
  obtain rfl : fn = Tryz.f3 := (Option.some.inj (Tryz.func3.symm.trans hfn)).symm
  refine ⟨d4, fun j t ht => ?_⟩
  rw [Tryz.params3] at ht
  rcases j with _ | j
  · obtain rfl : t = 22 := by simpa using ht.symm
    exact w22
  rcases j with _ | j
  · obtain rfl : t = 30 := by simpa using ht.symm
    exact w30
  rcases j with _ | j
  · obtain rfl : t = 24 := by simpa using ht.symm
    exact w24
  simp at ht
theorem gridEntries_holds : Rows.GridEntriesCardSaid :=
  Claim7.holds_tied_plain_at .later [] [.data, .data, .data, .data, .pinned] true (true, "b2a60c287e48e267b894b863aef7fda1adac92383c7fa7a5b0fab315d4dadef4") false
    esaid (fun _ h => by cases h) ed1 (fun _ h => by cases h) gridEntries_row_tie rfl ⟨rfl, rfl⟩ d2 rfl ed7 ed6
theorem od1 : Rows.gridOrdersRow.wfByText (OpenSpec.ofChange Rows.gridOrdersSpec) = true := by kernel_rfl
theorem od3 : Tryz.prog.funcNamed "abacist/abacistlaw25.GridOrders" = some 4 := by kernel_rfl
theorem od6 : false = Rows.gridOrdersRow.goesBy Tryz.pinned.checked.prog := by kernel_rfl
theorem od7 (f : FuncId) (fn : Func) (hf : Tryz.pinned.checked.prog.funcNamed Rows.gridOrdersRow.func = some f) (hfn : Tryz.pinned.checked.prog.funcs[f]? = some fn) :
    false = Tryz.pinned.checked.prog.looks [] ∧ ∀ (j : Nat) t, fn.params[j]? = some t → Tryz.pinned.checked.prog.wantsStandIn t = false := by
  obtain rfl : f = 4 := Option.some.inj (od3.symm.trans hf) |>.symm
  obtain rfl : fn = Tryz.f4 := (Option.some.inj (Tryz.func4.symm.trans hfn)).symm
  refine ⟨d4, fun j t ht => ?_⟩
  rw [Tryz.params4] at ht
  rcases j with _ | j
  · obtain rfl : t = 22 := by simpa using ht.symm
    exact w22
  rcases j with _ | j
  · obtain rfl : t = 39 := by simpa using ht.symm
    exact w39
  simp at ht
theorem gridOrders_holds : Rows.GridOrdersCardSaid :=
  Claim7.holds_tied_plain_at .later [] [.data, .data, .data, .data, .pinned] true (true, "b2a60c287e48e267b894b863aef7fda1adac92383c7fa7a5b0fab315d4dadef4") false
    osaid (fun _ h => by cases h) od1 (fun _ h => by cases h) gridOrders_row_tie rfl ⟨rfl, rfl⟩ d2 rfl od7 od6
#print axioms gridEntries_holds
#print axioms gridOrders_holds
end Go.Proofs.YthbmhdlbphkljaaGreatDoor
