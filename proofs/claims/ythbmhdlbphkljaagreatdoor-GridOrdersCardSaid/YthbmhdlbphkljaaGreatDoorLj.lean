/- Proved: whatever entries and cells come in, GridEntries and GridOrders answer true, and the arguments read as they did. Conditions: none beyond those that the given statements state themselves. -/
import Derived.Test.YthbmhdlbphkljaaGreatDoorZb
import Derived.KernelRfl
namespace Go.Proofs.YthbmhdlbphkljaaGreatDoor
open Go Go.X
set_option maxRecDepth 1000000
noncomputable def EX : Env := Env.of Tryz.prog [(n_internal_abi_NoEscape, 0), (n_internal_bytealg_IndexByteString, 2)] eqList
theorem extX : ∀ f k, findX f [(n_internal_abi_NoEscape, 0), (n_internal_bytealg_IndexByteString, 2)] = some k → k ≠ 3 → ExtOk PP f k := by
  intro f k h _
  have h' : (Bool.rec (motive := fun _ => Option Nat) (Bool.rec (motive := fun _ => Option Nat) none (some 2) (Nat.beq n_internal_bytealg_IndexByteString f)) (some 0) (Nat.beq n_internal_abi_NoEscape f)) = some k := h
  rw [natBeq_eq, natBeq_eq] at h'
  by_cases e1 : n_internal_abi_NoEscape = f
  · simp only [e1, decide_true] at h'
    cases h'
    subst e1
    exact ⟨Tryz.f156, _, by kernel_rfl, by kernel_rfl, by kernel_rfl, by kernel_rfl, fun _ => rfl, fun q => by cases q⟩
  · simp only [e1, decide_false] at h'
    by_cases e2 : n_internal_bytealg_IndexByteString = f
    · simp only [e2, decide_true] at h'
      cases h'
      subst e2
      exact ⟨Tryz.f164, _, by kernel_rfl, by kernel_rfl, by kernel_rfl, by kernel_rfl, (fun q => by cases q), fun _ => rfl⟩
    · simp only [e2, decide_false] at h'
      cases h'
def isT : Option Ans → Bool
  | some (.v (.bool true) _) => true
  | _ => false
theorem isT_ok {x : Option Ans} (h : isT x = true) : ∃ h', x = some (.v (.bool true) h') := by
  unfold isT at h
  split at h
  · exact ⟨_, rfl⟩
  · cases h
end Go.Proofs.YthbmhdlbphkljaaGreatDoor
