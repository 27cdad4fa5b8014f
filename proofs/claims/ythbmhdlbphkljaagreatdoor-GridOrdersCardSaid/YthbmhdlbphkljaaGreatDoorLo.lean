/- Proved: whatever entries and cells come in, GridEntries and GridOrders answer true, and the arguments read as they did. Conditions: none beyond those that the given statements state themselves. -/
import Derived.Test.YthbmhdlbphkljaaGreatDoorLn
import Derived.Test.YthbmhdlbphkljaaGreatDoorTie
import Derived.Test.YthbmhdlbphkljaaGreatDoorCards
import Derived.SevenTiedAt
namespace Go.Proofs.YthbmhdlbphkljaaGreatDoor
open Go
set_option maxRecDepth 1000000
theorem ec1 : Tryz.pinned.checked.prog.funcNamed Rows.gridEntriesRow.func = some 3 := by kernel_rfl
theorem ec2 : joinedFacts Tryz.pinned.checked.prog 3 Tryz.f3 Rows.gridEntriesSpec Rows.gridEntriesRow = true := by kernel_rfl
theorem ec3 : Tryz.f3.isInstance Tryz.pinned.checked.prog Rows.gridEntriesRow.origin Rows.gridEntriesRow.targs := of_decide_eq_true (by kernel_rfl)
theorem ec4 : Tryz.f3.isWrapper Tryz.pinned.checked.prog Rows.gridEntriesRow.wrapper Rows.gridEntriesRow.mainSum := by unfold Func.isWrapper; rw [if_neg (of_decide_eq_false (by kernel_rfl))]; exact ⟨rfl, rfl⟩
theorem oc1 : Tryz.pinned.checked.prog.funcNamed Rows.gridOrdersRow.func = some 4 := by kernel_rfl
theorem oc2 : joinedFacts Tryz.pinned.checked.prog 4 Tryz.f4 Rows.gridOrdersSpec Rows.gridOrdersRow = true := by kernel_rfl
theorem oc3 : Tryz.f4.isInstance Tryz.pinned.checked.prog Rows.gridOrdersRow.origin Rows.gridOrdersRow.targs := of_decide_eq_true (by kernel_rfl)
theorem oc4 : Tryz.f4.isWrapper Tryz.pinned.checked.prog Rows.gridOrdersRow.wrapper Rows.gridOrdersRow.mainSum := by unfold Func.isWrapper; rw [if_neg (of_decide_eq_false (by kernel_rfl))]; exact ⟨rfl, rfl⟩
end Go.Proofs.YthbmhdlbphkljaaGreatDoor
