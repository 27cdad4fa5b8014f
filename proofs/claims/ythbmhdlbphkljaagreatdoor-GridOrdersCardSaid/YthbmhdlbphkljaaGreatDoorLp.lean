/- Proved: whatever entries and cells come in, GridEntries and GridOrders answer true, and the arguments read as they did. Conditions: none beyond those that the given statements state themselves. -/
import Derived.Test.YthbmhdlbphkljaaGreatDoorLo
namespace Go.Proofs.YthbmhdlbphkljaaGreatDoor
open Go
set_option maxRecDepth 1000000
theorem erow (os : Os) (started : os.Started) (H : Type) (enc : TypeId × Value → H) : ReturnsInHanded Rows.gridEntriesRow.assume Tryz.pinned.checked os 3 .any (Rows.gridEntriesRow.pre enc Tryz.pinned.checked.prog Tryz.f3 (OpenSpec.ofChange Rows.gridEntriesSpec))
    (Rows.gridEntriesSpec.post enc Tryz.pinned.checked.prog Tryz.f3 Rows.gridEntriesRow.apart Rows.gridEntriesRow.fresh Rows.gridEntriesRow.handsOn Rows.gridEntriesRow.again) := lifted_E os started H enc
theorem esaid : Rows.GridEntriesSaid :=
  OpenClaim.holds_of_wide 3 Tryz.f3 rfl rfl rfl rfl rfl rfl rfl ⟨rfl, rfl, rfl, rfl, rfl⟩ rfl rfl rfl rfl rfl ec1 Tryz.func3 ec2 ec3 ec4
    (fun os started H enc _ => erow os started H enc)
theorem orow (os : Os) (started : os.Started) (H : Type) (enc : TypeId × Value → H) : ReturnsInHanded Rows.gridOrdersRow.assume Tryz.pinned.checked os 4 .any (Rows.gridOrdersRow.pre enc Tryz.pinned.checked.prog Tryz.f4 (OpenSpec.ofChange Rows.gridOrdersSpec))
    (Rows.gridOrdersSpec.post enc Tryz.pinned.checked.prog Tryz.f4 Rows.gridOrdersRow.apart Rows.gridOrdersRow.fresh Rows.gridOrdersRow.handsOn Rows.gridOrdersRow.again) := lifted_O os started H enc
theorem osaid : Rows.GridOrdersSaid :=
  OpenClaim.holds_of_wide 4 Tryz.f4 rfl rfl rfl rfl rfl rfl rfl ⟨rfl, rfl, rfl, rfl, rfl⟩ rfl rfl rfl rfl rfl oc1 Tryz.func4 oc2 oc3 oc4
    (fun os started H enc _ => orow os started H enc)
end Go.Proofs.YthbmhdlbphkljaaGreatDoor
