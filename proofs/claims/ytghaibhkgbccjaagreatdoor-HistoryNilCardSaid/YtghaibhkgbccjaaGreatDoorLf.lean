/- A part of the proof that the law HistoryNil answers true at every input. No conditions of its own. -/
import Derived.Test.YtghaibhkgbccjaaGreatDoorLe
import Derived.Test.YtghaibhkgbccjaaGreatDoorTie
import Derived.Test.YtghaibhkgbccjaaGreatDoorCards
import Derived.SevenTiedAt
namespace Go.Proofs.YtghaibhkgbccjaaGreatDoor
open Go
set_option maxRecDepth 1000000
theorem d1 : Rows.historyNilRow.wfByText (OpenSpec.ofChange Rows.historyNilSpec) = true := by kernel_rfl
theorem d2 : Tryz.pinned.checked.prog.mainIs = some (true, "c66a6f975fc8fd56ea9e933c102075f55e1e4817d7e797f501978924a1f0b130".toList) := by kernel_rfl
theorem d3 : Tryz.prog.funcNamed "abacist/abacistlaw41.HistoryNil" = some 3 := by kernel_rfl
theorem d4 : false = Tryz.pinned.checked.prog.looks [] := by kernel_rfl
theorem d5 : Tryz.prog.wantsStandIn 28 = false := by kernel_rfl
theorem d6 : false = Rows.historyNilRow.goesBy Tryz.pinned.checked.prog := by kernel_rfl
theorem d7 (f : FuncId) (fn : Func) (hf : Tryz.pinned.checked.prog.funcNamed Rows.historyNilRow.func = some f) (hfn : Tryz.pinned.checked.prog.funcs[f]? = some fn) :
    false = Tryz.pinned.checked.prog.looks [] ∧ ∀ (j : Nat) t, fn.params[j]? = some t → Tryz.pinned.checked.prog.wantsStandIn t = false := by
  obtain rfl : f = 3 := Option.some.inj (d3.symm.trans hf) |>.symm
  obtain rfl : fn = Tryz.f3 := (Option.some.inj (Tryz.func3.symm.trans hfn)).symm
  refine ⟨d4, fun j t ht => ?_⟩
  rw [Tryz.params3] at ht
  have h3 : t = 28 := by
    rcases j with _ | j
    · simpa using ht.symm
    · simp at ht
  subst h3
  exact d5
theorem historyNil_holds : Rows.HistoryNilCardSaid :=
  Claim7.holds_tied_plain_at .later [] [.data, .data, .data, .data, .pinned] true (true, "c66a6f975fc8fd56ea9e933c102075f55e1e4817d7e797f501978924a1f0b130") false
    historyNil_said (fun _ h => by cases h) d1 (fun _ h => by cases h) historyNil_row_tie rfl ⟨rfl, rfl⟩ d2 rfl d7 d6
#print axioms historyNil_holds
end Go.Proofs.YtghaibhkgbccjaaGreatDoor
