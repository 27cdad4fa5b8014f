/- Proved: whatever entries and cells come in, GridEntries and GridOrders answer true, and the arguments read as they did. Conditions: none beyond those that the given statements state themselves. -/
import Derived.Test.YthbmhdlbphkljaaGreatDoorLj
namespace Go.Proofs.YthbmhdlbphkljaaGreatDoor
open Go Go.X
set_option maxRecDepth 1000000
theorem known_true : isT (run EX 3000 (.call n_law25_known [] ⟨.e, 0⟩)) = true := by kernel_rfl
end Go.Proofs.YthbmhdlbphkljaaGreatDoor
