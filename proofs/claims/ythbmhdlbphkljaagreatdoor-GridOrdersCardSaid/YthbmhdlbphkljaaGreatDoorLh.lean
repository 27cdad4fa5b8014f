/- Proved: whatever entries and cells come in, GridEntries and GridOrders answer true, and the arguments read as they did. Conditions: none beyond those that the given statements state themselves. -/
import Derived.Test.YthbmhdlbphkljaaGreatDoorLg
namespace Go.Proofs.YthbmhdlbphkljaaGreatDoor
open Go Go.X
/-- a call without arguments from nothing: from any heap -/
theorem frame0 {P : Program} {f : FuncId} {v : Value} {h' : H} (x : SoundCall P f [] ⟨.e, 0⟩ (.v v h')) (hv : flat v = true) (h : H) : SoundCall P f [] h (.v v h) := by
  obtain ⟨x1, v', h2, e, hc⟩ := x
  cases e
  refine ⟨x1, v, h, rfl, fun ρ ARGS W hA hH => ?_⟩
  cases hA
  have h0 : HRel (fun _ => none) ⟨.e, 0⟩ W := ⟨fun b x r h => (by cases h), fun b b' x x' r r' h => (by cases h), fun b r h => (by cases h), fun b _ => rfl⟩
  refine (hc _ [] W .nil h0).mono ?_
  intro e W' hp
  cases e with
  | returned V =>
    obtain ⟨ρ', k1, k2, k3⟩ := hp
    have hk : ∀ B, B < W.heap.size → W'.heap[B]? = W.heap[B]? := fun B hB => k3.kept B hB fun b x r q => (by cases q)
    refine ⟨ρ, flat_rel hv k1, ⟨fun b x r e1 e2 => (hH.obj b x r e1 e2).mono ρ.le_refl (hk _ (hH.dom b r e2).2), hH.inj, fun b r e => ⟨(hH.dom b r e).1, Nat.lt_of_lt_of_le (hH.dom b r e).2 k3.size⟩, hH.fresh⟩, ?_⟩
    exact ⟨ρ.le_refl, k3.size, k3.os, k3.tape, k3.output, fun B hB _ => hk B hB, fun b x r e1 e2 e3 _ => ⟨b, x, r, e1, e2, e3, rfl⟩, Nat.le_refl _, fun _ _ => rfl⟩
  | panicked _ => exact hp.elim
  | outgrown => exact hp.elim
theorem GridEntries_res (hkn : ∀ h, SoundCall PP n_law25_known [] h (.v (.bool true) h)) {h : H} {v : Value} {es : List Ent} (r : ReadSl h v es) (e : Ent) (s c r' : Int) :
    SoundCall PP n_law25_GridEntries [v, e.val, vCell s c r'] h (.v (.bool true) h) := by
  have hbb : big = 10000000000 := rfl
  refine CallW.pure (law25_GridEntries_ok ?_) (by simp [flat])
  unfold law25_GridEntries
  simp only [boxP_agg]
  have fr3 : Fr h (X.newRow (X.newRow h 30 e.cells 0) 24 [.int .i64 s, .int .i64 c, .int .i64 r'] 0) := ((Fr.refl h).newRow _ _ _).newRow _ _ _
  have n3 : (X.newRow (X.newRow h 30 e.cells 0) 24 [.int .i64 s, .int .i64 c, .int .i64 r'] 0).next = h.next + 1 + 1 := rfl
  have n1 : (X.newRow h 30 e.cells 0).next = h.next + 1 := rfl
  have ra : (X.newRow (X.newRow h 30 e.cells 0) 24 [.int .i64 s, .int .i64 c, .int .i64 r'] 0).row h.next = some ⟨e.cells, 30, 0, 0, false⟩ := by rw [row_newRow, if_neg (by rw [n1]; omega), row_newRow, if_pos rfl]
  have rb : (X.newRow (X.newRow h 30 e.cells 0) 24 [.int .i64 s, .int .i64 c, .int .i64 r'] 0).row (h.next + 1) = some ⟨[.int .i64 s, .int .i64 c, .int .i64 r'], 24, 0, 0, false⟩ := by rw [row_newRow, if_pos n1.symm]
  rw [n1]
  generalize X.newRow (X.newRow h 30 e.cells 0) 24 [.int .i64 s, .int .i64 c, .int .i64 r'] 0 = h3 at *
  have R := r.fr fr3
  have hE : ∀ h', Fr h3 h' → aggV 11 h' (.pointer (some ⟨h.next, 0, none⟩)) = some e.val ∧ aggV 3 h' (.pointer (some ⟨h.next, 0, none⟩)) = some e.at ∧ aggV 3 h' (.pointer (some ⟨h.next + 1, 0, none⟩)) = some (vCell s c r') := by
    intro h' f
    have a := row_fr f (b := h.next) (by omega)
    have b := row_fr f (b := h.next + 1) (by omega)
    refine ⟨(box_ent (by rw [a]; exact ra)).1, (box_ent (by rw [a]; exact ra)).2, ?_⟩
    simp [b, rb]
  obtain ⟨E1, E2, E3⟩ := hE h3 (Fr.refl h3)
  rw [R.len, Go.X.binOp_gtr, bindO_some, condP_bool]
  by_cases hbig : 100 < es.length
  · rw [if_pos (by simp; omega)]
    exact CP_of (hkn h3) ⟨rfl, fr3⟩
  · have hb : es.length < big := by omega
    rw [if_neg (by simp; omega)]
    rw [E3, bindO_some]
    refine CP_of (grid_Find_res R (by omega) s c r') ?_
    simp only [extractV_tuple, nth_zero, nth_succ, bindO_some]
    rw [E3, bindO_some]
    refine CP_of (ref25_Find_res R (by omega) s c r') ?_
    simp only [extractV_tuple, nth_zero, nth_succ, bindO_some, Go.X.binOp_ieql, decide_true, boolP_bool, if_true]
    have eqb : ∀ b : Bool, X.binOp EE .eql 4 (.bool b) (.bool b) = some (.bool true) := fun b => by cases b <;> kernel_rfl
    rw [eqb, bindO_some, boolP_bool, if_pos rfl]
    rw [offA_ptr, bindO_some, E2, bindO_some, E3, bindO_some]
    refine CP_of (grid_Less_res _ _ _ _ _ _ _) ?_
    rw [bindO_some, E2, bindO_some]
    refine ⟨rfl, ?_⟩
    rw [E3, bindO_some]
    refine ⟨rfl, ?_⟩
    refine CP_of (ref25_Less_res _ _ _ _ _ _ _) ?_
    rw [eqb, bindO_some, boolP_bool, if_pos rfl, E1, bindO_some]
    refine (grid_Put_res (Fr.refl h3) R hb e).mono ?_
    rintro v37 h38 ⟨f38, _, o37⟩
    rw [(hE h38 f38).1, bindO_some]
    refine ⟨rfl, ?_⟩
    refine (ref25_Put_res f38 (R.fr f38) hb e).mono ?_
    rintro v40 h41 ⟨f41, f41', o40⟩
    have hp : (putE es e).length ≤ big := by
      unfold putE
      have := findE_le es e.s e.c e.r
      revert this
      generalize findE es e.s e.c e.r = fd
      intro this
      obtain ⟨i, is⟩ := fd
      cases is with
      | true => simp at this ⊢; omega
      | false => simp [insE] at this ⊢; omega
    refine CP_of (ref25_Entries_res (o37.fr f41').read o40.read hp hp) ?_
    rw [decide_eq_true rfl, boolP_bool, if_pos rfl, (hE h41 f41).2.2, bindO_some]
    refine (grid_Drop_res f41 (R.fr f41) hb s c r').mono ?_
    rintro v45 h46 ⟨f46, _, o45⟩
    rw [(hE h46 f46).2.2, bindO_some]
    refine ⟨rfl, ?_⟩
    refine (ref25_Drop_res f46 (R.fr f46) hb s c r').mono ?_
    rintro v48 h49 ⟨f49, f49', o48⟩
    have hd : (dropE es s c r').length ≤ big := by
      unfold dropE
      generalize findE es s c r' = fd
      obtain ⟨i, is⟩ := fd
      cases is with
      | true => simp [delE]; omega
      | false => simp; omega
    refine CP_of (ref25_Entries_res (o45.fr f49').read o48.read hd hd) ?_
    rw [decide_eq_true rfl, boolP_bool, if_pos rfl]
    refine CP_of (hkn h49) ?_
    exact ⟨rfl, fr3.trans f49⟩
end Go.Proofs.YthbmhdlbphkljaaGreatDoor
