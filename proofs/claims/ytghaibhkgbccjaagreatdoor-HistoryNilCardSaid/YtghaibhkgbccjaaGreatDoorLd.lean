/- A part of the proof that the law HistoryNil answers true at every input. No conditions of its own. -/
import Derived.Test.YtghaibhkgbccjaaGreatDoorLc
import Derived.Test.YtghaibhkgbccjaaGreatDoorTie
import Derived.Test.YtghaibhkgbccjaaGreatDoorCards
import Derived.SevenTiedAt
namespace Go.Proofs.YtghaibhkgbccjaaGreatDoor
open Go
set_option maxRecDepth 1000000
theorem c1 : Tryz.pinned.checked.prog.funcNamed Rows.historyNilRow.func = some 3 := by kernel_rfl
theorem c2 : joinedFacts Tryz.pinned.checked.prog 3 Tryz.f3 Rows.historyNilSpec Rows.historyNilRow = true := by kernel_rfl
theorem c3 : Tryz.f3.isInstance Tryz.pinned.checked.prog Rows.historyNilRow.origin Rows.historyNilRow.targs := of_decide_eq_true (by kernel_rfl)
theorem c4 : Tryz.f3.isWrapper Tryz.pinned.checked.prog Rows.historyNilRow.wrapper Rows.historyNilRow.mainSum := by unfold Func.isWrapper; rw [if_neg (of_decide_eq_false (by kernel_rfl))]; exact ⟨rfl, rfl⟩
end Go.Proofs.YtghaibhkgbccjaaGreatDoor
