/- Proved: whatever entries and cells come in, GridEntries and GridOrders answer true, and the arguments read as they did. Conditions: none beyond those that the given statements state themselves. -/
import Derived.Test.YthbmhdlbphkljaaGreatDoorLk
import Derived.Test.YthbmhdlbphkljaaGreatDoorLl
import Derived.Carry
import Derived.ChangeSame
import Derived.ChangeVars
import Derived.JoinedOf
import Derived.RowKit
import Derived.LaidLaws
import Derived.Stop.Joined
import Derived.WideShapes
namespace Go.Proofs.YthbmhdlbphkljaaGreatDoor
open Go Go.X Go.ChangeShapes Go.WideShapes Go.RowKit
set_option maxRecDepth 1000000
theorem envX : EnvOk PP EX := envOk_of _ _ _ b3 b4 b1 b2 b6 b5 extX
theorem noX3 : ∀ f, findX f EX.xs ≠ some 3 := by
  intro f h
  have h' : (Bool.rec (motive := fun _ => Option Nat) (Bool.rec (motive := fun _ => Option Nat) none (some 2) (Nat.beq n_internal_bytealg_IndexByteString f)) (some 0) (Nat.beq n_internal_abi_NoEscape f)) = some 3 := h
  revert h'
  cases Nat.beq n_internal_abi_NoEscape f <;> cases Nat.beq n_internal_bytealg_IndexByteString f <;> (intro q; cases q)
theorem hkn (h : H) : SoundCall PP n_law25_known [] h (.v (.bool true) h) := by
  obtain ⟨h', hr⟩ := isT_ok known_true
  exact frame0 ((below envX noX3 3000).call _ _ _ _ hr) (by simp [flat]) h
section
variable {HH : Type} {enc : TypeId × Value → HH}
theorem walkE (W : World) {base : Nat} {v0 v1 v2 : Value} {d0 d1 d2 : DataW HH} {p0 p1 p2 : List MemPlace} (o0 : Value.okWide PP W .any base 22 v0) (o1 : Value.okWide PP W .any base 30 v1) (o2 : Value.okWide PP W .any base 24 v2)
    (h0 : DataW.Trod enc PP W 0 (fun _ => true) true 22 v0 d0 p0) (h1 : DataW.Trod enc PP W 0 (fun _ => true) true 30 v1 d1 p1) (h2 : DataW.Trod enc PP W 0 (fun _ => true) true 24 v2 d2 p2) :
    Calls PP n_law25_GridEntries #[v0, v1, v2] W fun e W' => e = .returned (.bool true) ∧ RowKit.Below W.heap.size W W' := by
  obtain ⟨c1, rfl, _⟩ := okWide_struct Tryz.underlying30 o1
  obtain ⟨c2, rfl, _⟩ := okWide_struct Tryz.underlying24 o2
  obtain ⟨f1, x1⟩ := h1
  obtain ⟨f2, x2⟩ := h2
  obtain ⟨e, he⟩ := ent_of (leaves_sound 5 f1 30 _ _ entLs leaves30 x1)
  obtain ⟨k, hk⟩ := cellK_of (leaves_sound 5 f2 24 _ _ cellLs leaves24 x2)
  have hc1 : c1 = ⟨e.cells⟩ := by rw [← he]; rfl
  have hc2 : c2 = ⟨[.int .i64 k.1, .int .i64 k.2.1, .int .i64 k.2.2]⟩ := by rw [← hk]; rfl
  obtain ⟨ρ, h, av, g1, g2, _, _, g5, g6⟩ := open_arg (hrel0 W) ro0 (n := 5) Tryz.underlying22 leaves30 (cells30.trans rfl) (by decide) o0 h0
  obtain ⟨es, hes⟩ : ∃ es, ReadSl h av es := by
    rcases g6 with rfl | ⟨b, o, len, cap, rows, rfl, a⟩
    · exact ⟨[], .nil⟩
    · exact readSl_of a
  have hA : VRels ρ [av, e.val, vCell k.1 k.2.1 k.2.2] [v0, .agg c1, .agg c2] := by
    refine .cons _ _ _ _ g5 (.cons _ _ _ _ ?_ (.cons _ _ _ _ ?_ .nil))
    · rw [hc1]; exact .agg _ _ (Leaves.rel ρ (ls := entLs) (by rw [← he]; exact leaves_sound 5 f1 30 _ _ entLs leaves30 x1))
    · rw [hc2]; exact .agg _ _ (Leaves.rel ρ (ls := cellLs) (by rw [← hk]; exact leaves_sound 5 f2 24 _ _ cellLs leaves24 x2))
  exact walk_of (GridEntries_res hkn hes e k.1 k.2.1 k.2.2) g1 g2 hA
theorem walkO (W : World) {base : Nat} {v0 v1 : Value} {d0 d1 : DataW HH} {p0 p1 : List MemPlace} (o0 : Value.okWide PP W .any base 22 v0) (o1 : Value.okWide PP W .any base 39 v1)
    (h0 : DataW.Trod enc PP W 0 (fun _ => true) true 22 v0 d0 p0) (h1 : DataW.Trod enc PP W 0 (fun _ => true) true 39 v1 d1 p1) :
    Calls PP n_law25_GridOrders #[v0, v1] W fun e W' => e = .returned (.bool true) ∧ RowKit.Below W.heap.size W W' := by
  obtain ⟨ρ, h, av, g1, g2, _, _, g5, g6⟩ := open_arg (hrel0 W) ro0 (n := 5) Tryz.underlying22 leaves30 (cells30.trans rfl) (by decide) o0 h0
  obtain ⟨es, hes⟩ : ∃ es, ReadSl h av es := by
    rcases g6 with rfl | ⟨b, o, len, cap, rows, rfl, a⟩
    · exact ⟨[], .nil⟩
    · exact readSl_of a
  obtain ⟨ρ2, h2, av2, k1, k2, k3, k4, k5, k6⟩ := open_arg g1 g2 (n := 5) Tryz.underlying39 leaves24 (cells24.trans rfl) (by decide) o1 h1
  obtain ⟨cs, hcs⟩ : ∃ cs, ReadC h2 av2 cs := by
    rcases k6 with rfl | ⟨b, o, len, cap, rows, rfl, a⟩
    · exact ⟨[], .nil⟩
    · exact readC_of a
  have hA : VRels ρ2 [av, av2] [v0, v1] := .cons _ _ _ _ (g5.mono k3) (.cons _ _ _ _ k5 .nil)
  exact walk_of (GridOrders_res hkn (hes.fr k4) hcs) k1 k2 hA
end

/-- the cells that a datum lays -/
def laidCells1 : DataW Unit → List Value
  | .lit (.int k n) => [.int k n]
  | _ => []
def laidCells2 : DataW Unit → List Value
  | .agg l => l.flatMap laidCells1
  | d => laidCells1 d
def laidCells : DataW Unit → List Value
  | .agg l => l.flatMap laidCells2
  | d => laidCells1 d
noncomputable def laidWorld (os : Os) : World :=
  let w0 := World.holding Tryz.prog os ⟨#[], #[], []⟩
  let put (h : Array Obj) (g : Nat) (d : DataW Unit) : Array Obj := h.modify g fun
    | .cells _ t frozen => .cells (laidCells d).toArray t frozen
    | o => o
  { w0 with heap := put (put (put (put (put w0.heap 1 Rows.laid_unicode_utf8_first) 2 Rows.laid_unicode_utf8_acceptRanges) 3 Rows.laid_internal_strconv_uint64pow10) 4 Rows.laid_math_bits_deBruijn32tab) 5 Rows.laid_math_bits_deBruijn64tab }
theorem laid_metE (os : Os) (args : Array Value) : laidMetH Tryz.prog Rows.gridEntriesRow.laid ((laidWorld os).forCall (fun _ _ => 0) ⟨#[], args, []⟩).memory := by
  have h : laidMet Tryz.prog Rows.gridEntriesRow.laid ((laidWorld os).forCall (fun _ _ => 0) ⟨#[], args, []⟩).memory := laidMet_of_run' 20 (by kernel_rfl) (by kernel_rfl)
  exact h
theorem laid_metO (os : Os) (args : Array Value) : laidMetH Tryz.prog Rows.gridOrdersRow.laid ((laidWorld os).forCall (fun _ _ => 0) ⟨#[], args, []⟩).memory := by
  have h : laidMet Tryz.prog Rows.gridOrdersRow.laid ((laidWorld os).forCall (fun _ _ => 0) ⟨#[], args, []⟩).memory := laidMet_of_run' 20 (by kernel_rfl) (by kernel_rfl)
  exact h
theorem ownK : ownKnob Tryz.prog.godebug = none := by kernel_rfl
theorem laidOutK : laidOutB Tryz.prog = true := by kernel_rfl
end Go.Proofs.YthbmhdlbphkljaaGreatDoor
