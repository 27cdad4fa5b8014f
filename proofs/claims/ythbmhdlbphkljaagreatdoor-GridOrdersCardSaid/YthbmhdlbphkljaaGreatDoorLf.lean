/- Proved: whatever entries and cells come in, GridEntries and GridOrders answer true, and the arguments read as they did. Conditions: none beyond those that the given statements state themselves. -/
import Derived.Test.YthbmhdlbphkljaaGreatDoorLe
namespace Go.Proofs.YthbmhdlbphkljaaGreatDoor
open Go Go.X
theorem _root_.Go.X.callP.mono {P : Program} {f : FuncId} {args : List Value} {h : H} {K K' : Value → H → Prop} (x : callP P f args h K) (hq : ∀ v h, K v h → K' v h) : callP P f args h K' := by
  cases x with
  | call w => exact .call (w.mono hq)
  | ext w => exact .ext (w.mono hq)
theorem box_ent {h : H} {e : Ent} {b : Nat} (hr : h.row b = some ⟨e.cells, 30, 0, 0, false⟩) : aggV 11 h (.pointer (some ⟨b, 0, none⟩)) = some e.val ∧ aggV 3 h (.pointer (some ⟨b, 0, none⟩)) = some e.at := by
  constructor <;> simp [hr, Ent.cells]
theorem findE_le (es : List Ent) (s c r : Int) : (findE es s c r).1 ≤ es.length ∧ ((findE es s c r).2 = true → (findE es s c r).1 < es.length) := by
  unfold findE
  cases h1 : es.findIdx? (isAt s c r) with
  | some i =>
    have := (List.findIdx?_eq_some_iff_getElem.1 h1).1
    exact ⟨by simp; omega, fun _ => this⟩
  | none =>
    cases h2 : es.findIdx? (notLess s c r) with
    | some i =>
      have := (List.findIdx?_eq_some_iff_getElem.1 h2).1
      exact ⟨by simp; omega, fun q => by simp at q⟩
    | none => exact ⟨by simp, fun q => by simp at q⟩
def putE (es : List Ent) (e : Ent) : List Ent := match findE es e.s e.c e.r with
  | (i, true) => es.take i ++ e :: es.drop (i + 1)
  | (i, false) => insE es i e
def dropE (es : List Ent) (s c r : Int) : List Ent := match findE es s c r with
  | (i, true) => delE es i
  | (_, false) => es
theorem grid_Put_res {h0 h : H} {v : Value} {es : List Ent} (hf : Fr h0 h) (r : ReadSl h v es) (hb : es.length < big) (e : Ent) :
    CP n_grid_Put [v, e.val] h (fun w h' => Fr h0 h' ∧ Fr h h' ∧ OwnSl h h' w (putE es e)) := by
  refine .call (grid_Put_ok ?_)
  unfold grid_Put
  simp
  have r0 : (X.newRow h 30 e.cells 0).row h.next = some ⟨e.cells, 30, 0, 0, false⟩ := by rw [row_newRow, if_pos rfl]
  have f0 : Fr h (X.newRow h 30 e.cells 0) := (Fr.refl h).newRow _ _ _
  have x0 : (X.newRow h 30 e.cells 0).next = h.next + 1 := rfl
  generalize X.newRow h 30 e.cells 0 = h1 at *
  have t3 : takeN 3 e.cells = some [.int .i64 e.s, .int .i64 e.c, .int .i64 e.r] := by simp [Ent.cells]
  have t11 : takeN 11 e.cells = some e.cells := by simp [Ent.cells]
  rw [t3]
  simp only [Option.bind_some, bindO_some]
  have hfr := findE_le es e.s e.c e.r
  refine CP_of (grid_Find_res (r.fr f0) (by omega) e.s e.c e.r) ?_
  have hput : putE es e = match findE es e.s e.c e.r with | (i, true) => es.take i ++ e :: es.drop (i + 1) | (i, false) => insE es i e := rfl
  generalize findE es e.s e.c e.r = fd at *
  obtain ⟨i, is⟩ := fd
  simp only [extractV_tuple, nth_zero, nth_succ, bindO_some] at hfr ⊢
  refine (slices_Clone_res (Fr.refl h1) (r.fr f0) (by omega)).mono ?_
  rintro v8 h9 ⟨f1, _, o⟩
  have r9 : h9.row h.next = some ⟨e.cells, 30, 0, 0, false⟩ := by rw [row_fr f1 (by omega)]; exact r0
  rw [r9]
  simp only [Option.bind_some, t11, bindO_some]
  have o' : OwnSl h h9 v8 es := o.up f0
  have f9 : Fr h h9 := f0.trans f1
  cases is with
  | true =>
    have hi := hfr.2 rfl
    rw [condP_t, hput]
    cases o with
    | nil => cases hi
    | «at» b n L k0 k1 k2 k3 =>
      have hn : (L.take n).length = n := by simp; omega
      rw [hn] at hi
      rw [ixA_slice, if_pos ⟨by omega, by simpa using hi⟩, bindO_some]
      have hcell : e.cells = flatE [e] := by simp [flatE]
      rw [stV_agg, if_pos e.len, Int.toNat_natCast, Nat.zero_add, hcell, store_flat k2 i [e] (by simp; omega), bindO_some]
      have hb : h.next ≤ b := by have := f0.next; omega
      refine ⟨hf.trans (f9.put _ hb), f9.put _ hb, ?_⟩
      have s1 := setE_len L i [e] (by simp; omega)
      have := OwnSl.at (h0 := h) (h := h9.put b (.row ⟨flatE (setE L i [e]), 30, 0, 0, false⟩)) b n _ hb k1 (by rw [row_put, if_pos rfl]) (by rw [s1]; exact k3)
      rw [s1] at this
      have e1 : (setE L i [e]).take n = (L.take n).take i ++ e :: (L.take n).drop (i + 1) := by
        unfold setE
        have a1 : (L.take i).length = i := by simp; omega
        rw [List.take_append, List.take_append, List.take_of_length_le (l := L.take i) (by omega), a1, List.take_of_length_le (l := [e]) (by simp; omega), List.take_take, show min i n = i by omega, List.drop_take]
        simp
        congr 1; omega
      rw [e1] at this
      exact this
  | false =>
    rw [condP_f, hput]
    unfold bldS
    rw [bld1, bindO_some]
    have fN : Fr h9 (X.newRow h9 30 e.cells 0) := (Fr.refl _).newRow _ _ _
    have hne : ∀ b n c, v8 = .slice (some ⟨b, 0, none⟩) n c → h9.next ≠ b := by
      intro b n c q
      cases o with
      | nil => cases q
      | «at» b' n' L k0 k1 k2 k3 => cases q; omega
    refine (slices_Insert_res (h0 := h) (f9.trans fN) (o'.fr fN) (by omega) hfr.1 (e := e) (q := h9.next) (by rw [row_newRow, if_pos rfl]) (by simp) hne).mono ?_
    rintro v18 h19 ⟨f19, o19⟩
    exact ⟨hf.trans f19, f19, o19⟩
theorem grid_Drop_res {h0 h : H} {v : Value} {es : List Ent} (hf : Fr h0 h) (r : ReadSl h v es) (hb : es.length < big) (s c r' : Int) :
    CP n_grid_Drop [v, vCell s c r'] h (fun w h' => Fr h0 h' ∧ Fr h h' ∧ OwnSl h h' w (dropE es s c r')) := by
  have hbb : big = 10000000000 := rfl
  refine .call (grid_Drop_ok ?_)
  unfold grid_Drop
  simp
  have f0 : Fr h (X.newRow h 24 [.int .i64 s, .int .i64 c, .int .i64 r'] 0) := (Fr.refl h).newRow _ _ _
  generalize X.newRow h 24 [.int .i64 s, .int .i64 c, .int .i64 r'] 0 = h1 at *
  have hfr := findE_le es s c r'
  refine CP_of (grid_Find_res (r.fr f0) (by omega) s c r') ?_
  have hput : dropE es s c r' = match findE es s c r' with | (i, true) => delE es i | (_, false) => es := rfl
  generalize findE es s c r' = fd at *
  obtain ⟨i, is⟩ := fd
  simp only [extractV_tuple, nth_zero, nth_succ, bindO_some, unOp_not] at hfr ⊢
  refine (slices_Clone_res (Fr.refl h1) (r.fr f0) (by omega)).mono ?_
  rintro v8 h9 ⟨f1, _, o⟩
  have o' : OwnSl h h9 v8 es := o.up f0
  have f9 : Fr h h9 := f0.trans f1
  cases is with
  | true =>
    have hi := hfr.2 rfl
    rw [hput]
    simp only [Bool.not_true, condP_f, Go.X.binOp_add, bindO_some]
    rw [wrap64 (by omega) (by omega)]
    refine (slices_Delete_res f9 o' (by omega) hi).mono ?_
    rintro w h' ⟨g1, g2⟩
    exact ⟨hf.trans g1, g1, g2⟩
  | false =>
    rw [hput]
    simp only [Bool.not_false, condP_t]
    exact ⟨hf.trans f9, f9, o'⟩
end Go.Proofs.YthbmhdlbphkljaaGreatDoor
