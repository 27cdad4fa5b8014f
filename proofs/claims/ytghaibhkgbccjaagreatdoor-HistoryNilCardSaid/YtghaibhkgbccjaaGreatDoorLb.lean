/- A part of the proof that the law HistoryNil answers true at every input. No conditions of its own. -/
import Derived.Test.YtghaibhkgbccjaaGreatDoorLa
import Derived.Carry
import Derived.ChangeSame
import Derived.ChangeVars
import Derived.JoinedOf
import Derived.RowKit
import Derived.LaidLaws
import Derived.Stop.Joined
import Derived.WideShapes
namespace Go.Proofs.YtghaibhkgbccjaaGreatDoor
open Go Go.X Go.ChangeShapes Go.WideShapes Go.RowKit
set_option maxRecDepth 1000000

def isT : Option Ans → Bool
  | some (.v (.bool true) _) => true
  | _ => false
theorem isT_ok {x : Option Ans} (h : isT x = true) : ∃ h', x = some (.v (.bool true) h') := by
  unfold isT at h
  split at h
  · exact ⟨_, rfl⟩
  · cases h
theorem known_true : isT (run EE 3000 (.call 3 [.agg ⟨List.replicate 8 unk⟩] ⟨.e, 0⟩)) = true := by kernel_rfl
theorem unks_rel (ρ : Rho) : ∀ (n : Nat) (L : List Value), L.length = n → VRels ρ (List.replicate n unk) L := by
  intro n
  induction n with
  | zero => intro L h; have : L = [] := List.eq_nil_of_length_eq_zero h
            subst this; exact .nil
  | succ n ih =>
    intro L h
    cases L with
    | nil => cases h
    | cons V L => exact .cons _ _ _ _ (.unk V) (ih L (by simpa using h))
theorem walk (cs : Array Value) (hcs : cs.size = 8) (W : World) : Calls Tryz.prog 3 #[.agg cs] W fun e W' => e = .returned (.bool true) ∧ Below W.heap.size W W' := by
  obtain ⟨h', hr⟩ := isT_ok known_true
  have hH : HRel (fun _ => none) ⟨.e, 0⟩ W := ⟨fun b x r h => (by cases h), fun b b' x x' r r' h => (by cases h), fun b r h => (by cases h), fun b _ => rfl⟩
  have hA : VRels (fun _ => none) [.agg ⟨List.replicate 8 unk⟩] [.agg cs] := .cons _ _ _ _ (.agg _ _ (unks_rel _ 8 _ (by simpa using hcs))) .nil
  refine (sound envOk (fun f h => by cases h) hr hA hH).mono ?_
  intro e W' hp
  cases e with
  | returned V =>
    obtain ⟨ρ', hv, _, hx⟩ := hp
    cases hv
    exact ⟨rfl, hx.os, hx.tape, hx.output, hx.size, fun k hk => hx.kept k hk fun b x r h => (by cases h)⟩
  | panicked _ => exact hp.elim
  | outgrown => exact hp.elim

/-- the cells that a datum lays -/
def laidCells1 : DataW Unit → List Value
  | .lit (.int k n) => [.int k n]
  | _ => []
def laidCells2 : DataW Unit → List Value
  | .agg l => l.flatMap laidCells1
  | d => laidCells1 d
def laidCells : DataW Unit → List Value
  | .agg l => l.flatMap laidCells2
  | d => laidCells1 d
noncomputable def laidWorld (os : Os) : World :=
  let w0 := World.holding Tryz.prog os ⟨#[], #[], []⟩
  let put (h : Array Obj) (g : Nat) (d : DataW Unit) : Array Obj := h.modify g fun
    | .cells _ t frozen => .cells (laidCells d).toArray t frozen
    | o => o
  { w0 with heap := put (put (put (put (put w0.heap 1 Rows.laid_unicode_utf8_first) 2 Rows.laid_unicode_utf8_acceptRanges) 3 Rows.laid_internal_strconv_uint64pow10) 4 Rows.laid_math_bits_deBruijn32tab) 5 Rows.laid_math_bits_deBruijn64tab }
theorem laid_met (os : Os) (args : Array Value) : laidMetH Tryz.prog Rows.historyNilRow.laid ((laidWorld os).forCall (fun _ _ => 0) ⟨#[], args, []⟩).memory := by
  have h : laidMet Tryz.prog Rows.historyNilRow.laid ((laidWorld os).forCall (fun _ _ => 0) ⟨#[], args, []⟩).memory := laidMet_of_run' 20 (by kernel_rfl) (by kernel_rfl)
  exact h

theorem Tryz.own : ownKnob Tryz.prog.godebug = none := by kernel_rfl
theorem Tryz.laidOut : laidOutB Tryz.prog = true := by kernel_rfl
theorem cells28 : Tryz.prog.cellsOf 28 = 8 := by kernel_rfl
end Go.Proofs.YtghaibhkgbccjaaGreatDoor
