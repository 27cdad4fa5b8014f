/- A part of the proof that the law HistoryNil answers true at every input. No conditions of its own. -/
import Derived.Test.YtghaibhkgbccjaaGreatDoorLd
namespace Go.Proofs.YtghaibhkgbccjaaGreatDoor
open Go
set_option maxRecDepth 1000000
theorem law_row (os : Os) (started : os.Started) (H : Type) (enc : TypeId × Value → H) : ReturnsInHanded Rows.historyNilRow.assume Tryz.pinned.checked os 3 .any (Rows.historyNilRow.pre enc Tryz.pinned.checked.prog Tryz.f3 (OpenSpec.ofChange Rows.historyNilSpec))
    (Rows.historyNilSpec.post enc Tryz.pinned.checked.prog Tryz.f3 Rows.historyNilRow.apart Rows.historyNilRow.fresh Rows.historyNilRow.handsOn Rows.historyNilRow.again) := law_lifted os started H enc
theorem historyNil_said : Rows.HistoryNilSaid :=
  OpenClaim.holds_of_wide 3 Tryz.f3 rfl rfl rfl rfl rfl rfl rfl ⟨rfl, rfl, rfl, rfl, rfl⟩ rfl rfl rfl rfl rfl c1 Tryz.func3 c2 c3 c4
    (fun os started H enc _ => law_row os started H enc)
end Go.Proofs.YtghaibhkgbccjaaGreatDoor
