/- Proved: whatever entries and cells come in, GridEntries and GridOrders answer true, and the arguments read as they did. Conditions: none beyond those that the given statements state themselves. -/
import Derived.Test.YthbmhdlbphkljaaGreatDoorLi
import Derived.Test.YthbmhdlbphkljaaGreatDoorYi
namespace Go.Proofs.YthbmhdlbphkljaaGreatDoor
open Go Go.X
set_option maxRecDepth 1000000
/-! the arguments of the two statements -/
def entLs : List Leaf := [.int .i64, .int .i64, .int .i64, .str, .int .i64, .bool, .str, .str, .str, .bool, .int .i64]
def cellLs : List Leaf := [.int .i64, .int .i64, .int .i64]
theorem leaves30 : leaves PP 5 30 = some entLs := by kernel_rfl
theorem leaves24 : leaves PP 5 24 = some cellLs := by kernel_rfl
theorem cells30 : PP.cellsOf 30 = 11 := by kernel_rfl
theorem cells24 : PP.cellsOf 24 = 3 := by kernel_rfl
theorem ent_of {cs : List Value} (h : X.Leaves entLs cs) : ∃ e : Ent, cs = e.cells := by
  cases h with | cons h1 h => cases h with | cons h2 h => cases h with | cons h3 h => cases h with | cons h4 h => cases h with | cons h5 h => cases h with | cons h6 h => cases h with | cons h7 h => cases h with | cons h8 h => cases h with | cons h9 h => cases h with | cons h10 h => cases h with | cons h11 h => cases h with | nil =>
  obtain ⟨a1, rfl⟩ := h1
  obtain ⟨a2, rfl⟩ := h2
  obtain ⟨a3, rfl⟩ := h3
  obtain ⟨⟨⟨a4⟩⟩, rfl⟩ := h4
  obtain ⟨a5, rfl⟩ := h5
  obtain ⟨a6, rfl⟩ := h6
  obtain ⟨⟨⟨a7⟩⟩, rfl⟩ := h7
  obtain ⟨⟨⟨a8⟩⟩, rfl⟩ := h8
  obtain ⟨⟨⟨a9⟩⟩, rfl⟩ := h9
  obtain ⟨a10, rfl⟩ := h10
  obtain ⟨a11, rfl⟩ := h11
  exact ⟨⟨a1, a2, a3, a4, a5, a6, a7, a8, a9, a10, a11⟩, rfl⟩
theorem cellK_of {cs : List Value} (h : X.Leaves cellLs cs) : ∃ k : K3, cs = [.int .i64 k.1, .int .i64 k.2.1, .int .i64 k.2.2] := by
  cases h with | cons h1 h => cases h with | cons h2 h => cases h with | cons h3 h => cases h with | nil =>
  obtain ⟨a1, rfl⟩ := h1
  obtain ⟨a2, rfl⟩ := h2
  obtain ⟨a3, rfl⟩ := h3
  exact ⟨(a1, a2, a3), rfl⟩
theorem ents_of : ∀ (rows : List (List Value)), (∀ r ∈ rows, X.Leaves entLs r) → ∃ es : List Ent, es.length = rows.length ∧ rows.flatten = flatE es := by
  intro rows
  induction rows with
  | nil => intro _; exact ⟨[], rfl, rfl⟩
  | cons r rows ih =>
    intro h
    obtain ⟨e, he⟩ := ent_of (h r (.head _))
    obtain ⟨es, h1, h2⟩ := ih fun r hr => h r (.tail _ hr)
    exact ⟨e :: es, by simp [h1], by rw [List.flatten_cons, h2, he]; rfl⟩
theorem cells_of : ∀ (rows : List (List Value)), (∀ r ∈ rows, X.Leaves cellLs r) → ∃ es : List K3, es.length = rows.length ∧ rows.flatten = flatC es := by
  intro rows
  induction rows with
  | nil => intro _; exact ⟨[], rfl, rfl⟩
  | cons r rows ih =>
    intro h
    obtain ⟨e, he⟩ := cellK_of (h r (.head _))
    obtain ⟨es, h1, h2⟩ := ih fun r hr => h r (.tail _ hr)
    exact ⟨e :: es, by simp [h1], by rw [List.flatten_cons, h2, he]; rfl⟩
theorem readSl_of {h : H} {b o len cap : Nat} {rows : List (List Value)} (a : ArgSl h entLs b o len cap rows) : ∃ es, ReadSl h (.slice (some ⟨b, o, none⟩) len cap) es := by
  obtain ⟨es, h1, h2⟩ := ents_of rows a.fits
  obtain ⟨x, k1, k2, k3⟩ := a.row
  have hl : es.length = len := h1.trans a.hlen
  refine ⟨es, ?_⟩
  have := ReadSl.at (h := h) b o cap es ⟨a.lt, x, k1, k2, by rw [hl, ← h2]; exact k3⟩ (by rw [hl]; exact a.hcap)
  rw [hl] at this; exact this
theorem readC_of {h : H} {b o len cap : Nat} {rows : List (List Value)} (a : ArgSl h cellLs b o len cap rows) : ∃ es, ReadC h (.slice (some ⟨b, o, none⟩) len cap) es := by
  obtain ⟨es, h1, h2⟩ := cells_of rows a.fits
  obtain ⟨x, k1, k2, k3⟩ := a.row
  have hl : es.length = len := h1.trans a.hlen
  refine ⟨es, ?_⟩
  have := ReadC.at (h := h) b o cap es a.lt ⟨x, k1, by rw [hl, ← h2]; exact k3⟩
  rw [hl] at this; exact this
end Go.Proofs.YthbmhdlbphkljaaGreatDoor
