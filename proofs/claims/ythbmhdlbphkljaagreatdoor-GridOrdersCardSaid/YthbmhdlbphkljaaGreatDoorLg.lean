/- Proved: whatever entries and cells come in, GridEntries and GridOrders answer true, and the arguments read as they did. Conditions: none beyond those that the given statements state themselves. -/
import Derived.Test.YthbmhdlbphkljaaGreatDoorLf
namespace Go.Proofs.YthbmhdlbphkljaaGreatDoor
open Go Go.X
theorem ref25_Put_res {h0 h : H} {v : Value} {es : List Ent} (hf : Fr h0 h) (r : ReadSl h v es) (hb : es.length < big) (e : Ent) :
    CP n_ref25_Put [v, e.val] h (fun w h' => Fr h0 h' ∧ Fr h h' ∧ OwnSl h h' w (putE es e)) := by
  have hbb : big = 10000000000 := rfl
  refine .call (ref25_Put_ok ?_)
  unfold ref25_Put
  simp
  have r0 : (X.newRow h 30 e.cells 0).row h.next = some ⟨e.cells, 30, 0, 0, false⟩ := by rw [row_newRow, if_pos rfl]
  have f0 : Fr h (X.newRow h 30 e.cells 0) := (Fr.refl h).newRow _ _ _
  have x0 : (X.newRow h 30 e.cells 0).next = h.next + 1 := rfl
  generalize X.newRow h 30 e.cells 0 = h1 at *
  have t3 : takeN 3 e.cells = some [.int .i64 e.s, .int .i64 e.c, .int .i64 e.r] := by simp [Ent.cells]
  have t11 : takeN 11 e.cells = some e.cells := by simp [Ent.cells]
  rw [t3]
  simp only [Option.bind_some, bindO_some]
  have hfr := findE_le es e.s e.c e.r
  refine CP_of (ref25_Find_res (r.fr f0) (by omega) e.s e.c e.r) ?_
  have hput : putE es e = match findE es e.s e.c e.r with | (i, true) => es.take i ++ e :: es.drop (i + 1) | (i, false) => insE es i e := rfl
  generalize findE es e.s e.c e.r = fd at *
  obtain ⟨i, is⟩ := fd
  simp only [extractV_tuple, nth_zero, nth_succ, bindO_some] at hfr ⊢
  obtain ⟨w1, e1, R1⟩ := slice_hi (r.fr f0) hfr.1
  rw [e1, bindO_some]
  have hl1 : (es.take i).length = i := by simp; omega
  refine app_own (Fr.refl h1) (.nil) R1 (Nat.zero_le _) (by omega) ?_
  intro v9 h10 f10 o10
  simp only [List.nil_append] at o10
  have r10 : h10.row h.next = some ⟨e.cells, 30, 0, 0, false⟩ := by rw [row_fr f10 (by omega)]; exact r0
  rw [r10]
  simp only [Option.bind_some, t11, bindO_some]
  unfold bldS
  rw [bld1, bindO_some]
  have f13 : Fr h1 (X.newRow h10 30 e.cells 0) := f10.newRow _ _ _
  have o13 : OwnSl h1 (X.newRow h10 30 e.cells 0) v9 (es.take i) := o10.fr ((Fr.refl _).newRow _ _ _)
  have R13 : ReadSl (X.newRow h10 30 e.cells 0) (.slice (some ⟨h10.next, 0, none⟩) 1 1) [e] := .at h10.next 0 1 [e] ⟨by simp, _, by rw [row_newRow, if_pos rfl], rfl, by simp [flatE, Ent.cells]⟩ (Nat.le_refl _)
  refine app_own f13 o13 R13 (by omega) (by simp; omega) ?_
  intro v14 h15 f15 o15
  have rr : ReadSl h15 v es := (r.fr f0).fr f15
  have fin : ∀ k : Nat, k ≤ es.length → putE es e = es.take i ++ [e] ++ es.drop k → ref25_Put_j16 (fun w h' => Fr h0 h' ∧ Fr h h' ∧ OwnSl h h' w (putE es e)) v (vInt k) v14 h15 := by
    intro k hk hp
    unfold ref25_Put_j16
    obtain ⟨w2, e2, R2⟩ := slice_lo rr hk
    rw [e2, bindO_some]
    refine app_own f15 o15 R2 (by simp; omega) (by simp; omega) ?_
    intro w h' f' o'
    refine ⟨hf.trans (f0.trans f'), f0.trans f', ?_⟩
    rw [hp]; exact o'.up f0
  cases is with
  | true =>
    have hi := hfr.2 rfl
    simp only [condP_t, Go.X.binOp_add, bindO_some]
    rw [wrap64 (by omega) (by omega)]
    exact fin (i + 1) hi (by rw [hput]; simp)
  | false =>
    simp only [condP_f]
    exact fin i hfr.1 (by rw [hput]; simp [insE])
theorem ref25_Drop_res {h0 h : H} {v : Value} {es : List Ent} (hf : Fr h0 h) (r : ReadSl h v es) (hb : es.length < big) (s c r' : Int) :
    CP n_ref25_Drop [v, vCell s c r'] h (fun w h' => Fr h0 h' ∧ Fr h h' ∧ OwnSl h h' w (dropE es s c r')) := by
  have hbb : big = 10000000000 := rfl
  refine .call (ref25_Drop_ok ?_)
  unfold ref25_Drop
  simp
  have f0 : Fr h (X.newRow h 24 [.int .i64 s, .int .i64 c, .int .i64 r'] 0) := (Fr.refl h).newRow _ _ _
  generalize X.newRow h 24 [.int .i64 s, .int .i64 c, .int .i64 r'] 0 = h1 at *
  have hfr := findE_le es s c r'
  refine CP_of (ref25_Find_res (r.fr f0) (by omega) s c r') ?_
  have hput : dropE es s c r' = match findE es s c r' with | (i, true) => delE es i | (_, false) => es := rfl
  generalize findE es s c r' = fd at *
  obtain ⟨i, is⟩ := fd
  simp only [extractV_tuple, nth_zero, nth_succ, bindO_some, unOp_not] at hfr ⊢
  cases is with
  | true =>
    have hi := hfr.2 rfl
    rw [hput]
    simp only [Bool.not_true, condP_f, Go.X.binOp_add, bindO_some]
    rw [wrap64 (by omega) (by omega)]
    obtain ⟨w1, e1, R1⟩ := slice_hi (r.fr f0) hfr.1
    rw [e1, bindO_some]
    refine app_own (Fr.refl h1) (.nil) R1 (Nat.zero_le _) (by simp; omega) ?_
    intro v9 h10 f10 o10
    simp only [List.nil_append] at o10
    obtain ⟨w2, e2, R2⟩ := slice_lo ((r.fr f0).fr f10) (i := i + 1) hi
    rw [show (Value.int .i64 ((i : Int) + 1)) = vInt ((i + 1 : Nat) : Int) from rfl, e2, bindO_some]
    refine app_own f10 o10 R2 (by simp; omega) (by simp; omega) ?_
    intro w h' f' o'
    exact ⟨hf.trans (f0.trans f'), f0.trans f', o'.up f0⟩
  | false =>
    rw [hput]
    simp only [Bool.not_false, condP_t]
    refine app_own (Fr.refl h1) (.nil) (r.fr f0) (Nat.zero_le _) (by omega) ?_
    intro w h' f' o'
    simp only [List.nil_append] at o'
    exact ⟨hf.trans (f0.trans f'), f0.trans f', o'.up f0⟩
theorem ref25_Entries_res {h : H} {v w : Value} {es fs : List Ent} (r1 : ReadSl h v es) (r2 : ReadSl h w fs) (h1 : es.length ≤ big) (h2 : fs.length ≤ big) :
    SoundCall PP n_ref25_Entries [v, w] h (.v (.bool (decide (es = fs))) h) := by
  have hbb : big = 10000000000 := rfl
  refine CallW.pure (ref25_Entries_ok ?_) (by simp [flat])
  unfold ref25_Entries
  rw [r1.len, r2.len]
  simp
  by_cases hl : es.length = fs.length
  · rw [if_pos (by omega)]
    refine LoopG.ind (fun s h' => h' = h ∧ ∃ i : Nat, s = [v, w, vInt i] ∧ i ≤ es.length ∧ es.take i = fs.take i)
      (fun s _ => match nthD s 2 with | .int _ i => es.length - i.toNat | _ => 0) ?_ ⟨rfl, 0, rfl, Nat.zero_le _, rfl⟩
    rintro s h' ⟨rfl, i, rfl, hi, htk⟩
    show ref25_Entries_l9 _ _ v w (vInt i) h'
    unfold ref25_Entries_l9
    rw [r1.len]
    simp
    by_cases hlt : i < es.length
    · rw [if_pos hlt]
      obtain ⟨b, o, e1, e2, _⟩ := r1.ix hlt
      obtain ⟨b', o', g1, g2, _⟩ := r2.ix (by omega : i < fs.length)
      rw [e1, bindO_some, e2, bindO_some, g1, bindO_some, g2, bindO_some]
      have hne : X.binOp EE .neq 30 es[i].val fs[i].val = some (.bool (!decide (es[i] = fs[i]))) := by
        show X.binOp EE .neq 30 (.agg ⟨es[i].cells⟩) (.agg ⟨fs[i].cells⟩) = _
        unfold Ent.cells
        rw [ne30]
        congr 3
        generalize es[i] = a
        generalize fs[i] = c
        cases a; cases c
        simp
      rw [hne, bindO_some, condP_bool]
      by_cases hq : es[i] = fs[i]
      · rw [if_neg (by simp [hq])]
        rw [wrap64 (by omega) (by omega)]
        refine ⟨⟨i + 1, rfl, by omega, ?_⟩, by omega⟩
        · rw [List.take_succ_eq_append_getElem hlt, List.take_succ_eq_append_getElem (by omega), htk, hq]
      · rw [if_pos (by simp [hq])]
        have : es ≠ fs := fun q => hq (by subst q; rfl)
        simp [this]
    · rw [if_neg hlt]
      have : es = fs := by
        rw [List.take_of_length_le (by omega), List.take_of_length_le (by omega)] at htk
        exact htk
      simp [this]
  · rw [if_neg (by omega)]
    have : es ≠ fs := fun q => hl (by rw [q])
    simp [this]
end Go.Proofs.YthbmhdlbphkljaaGreatDoor
