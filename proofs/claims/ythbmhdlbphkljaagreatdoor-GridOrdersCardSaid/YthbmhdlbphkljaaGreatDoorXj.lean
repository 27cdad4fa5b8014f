/- A part of the evaluator of the model, and of the proof that what it answers is what a call comes to. No conditions of its own. -/
import Derived.Test.YthbmhdlbphkljaaGreatDoorXi
import Derived.Laws.MakeOwn
import Derived.Great.BuildSlice
import Derived.Laws.BytesString
namespace Go.X
open Go
variable {P : Program} {E : Env}

theorem bif_some {α : Type} {b : Bool} {x : Option α} {y : α} (h : (bif b then x else none) = some y) : b = true ∧ x = some y := by
  cases b with
  | true => exact ⟨rfl, h⟩
  | false => cases h
theorem rec_some {α : Type} {b : Bool} {x : Option α} {y : α} (h : Bool.rec (motive := fun _ => Option α) none x b = some y) : b = true ∧ x = some y := by
  cases b with
  | true => exact ⟨rfl, h⟩
  | false => cases h
/-- a value's cells, written over a row -/
theorem foldl_set (VC : List Value) : ∀ (off : Nat) (k : Nat) (C : Array Value), off + k + VC.length ≤ C.size →
    ((VC.zipIdx k).foldl (fun cs x => cs.setIfInBounds (off + x.2) x.1) C).size = C.size ∧ ∀ j : Nat, ((VC.zipIdx k).foldl (fun cs x => cs.setIfInBounds (off + x.2) x.1) C)[j]? = if off + k ≤ j ∧ j < off + k + VC.length then VC[j - (off + k)]? else C[j]? := by
  induction VC with
  | nil => intro off k C _; exact ⟨rfl, fun j => by simp; intro h1 h2; omega⟩
  | cons V VC ih =>
    intro off k C hlen
    simp only [List.length_cons] at hlen
    simp only [List.zipIdx_cons, List.foldl_cons]
    obtain ⟨h1, h2⟩ := ih off (k + 1) (C.setIfInBounds (off + k) V) (by simp; omega)
    refine ⟨by rw [h1]; simp, fun j => ?_⟩
    rw [h2]
    by_cases hj : j = off + k
    · subst hj
      rw [if_neg (by omega), if_pos (by simp)]
      have : off + k < C.size := by omega
      simp [this]
    · by_cases hj2 : off + (k + 1) ≤ j ∧ j < off + (k + 1) + VC.length
      · rw [if_pos hj2, if_pos (by simp; omega)]
        have : j - (off + k) = (j - (off + (k + 1))) + 1 := by omega
        rw [this]; simp
      · rw [if_neg hj2, if_neg (by simp; omega)]
        simp [Ne.symm hj]
theorem fold_rel {ρ : Rho} {c : List Value} {C : Array Value} {cs : List Value} {V : Value} {off : Nat} (hc : VRels ρ c C.toList) (hv : VRels ρ cs V.cells.toList) (hle : off + cs.length ≤ c.length) :
    VRels ρ (spliceAt c off cs) (V.cells.zipIdx.foldl (fun C x => C.setIfInBounds (off + x.2) x.1) C).toList := by
  have hl1 : c.length = C.size := by have := hc.length; simpa using this
  have hl2 : cs.length = V.cells.size := by have := hv.length; simpa using this
  have e : V.cells.zipIdx.foldl (fun C x => C.setIfInBounds (off + x.2) x.1) C = (V.cells.toList.zipIdx 0).foldl (fun C x => C.setIfInBounds (off + x.2) x.1) C := by
    rw [← Array.foldl_toList, Array.toList_zipIdx]
  rw [e]
  obtain ⟨h1, h2⟩ := foldl_set V.cells.toList off 0 C (by rw [Array.length_toList]; omega)
  refine VRels.of_get ?_ ?_
  · rw [spliceAt_length _ _ _ hle]
    show c.length = (Array.toList _).length
    rw [Array.length_toList]; exact hl1.trans h1.symm
  · intro i v hi
    rw [spliceAt_eq _ _ _ hle] at hi
    rw [Array.getElem?_toList, h2]
    rw [Array.length_toList]
    by_cases q : off ≤ i ∧ i < off + cs.length
    · rw [if_pos (by omega)]
      have : cs[i - off]? = some v := by
        rw [List.append_assoc, List.getElem?_append_right (by rw [List.length_take]; omega), List.length_take, Nat.min_eq_left (by omega), List.getElem?_append_left (by omega)] at hi
        exact hi
      exact hv.get _ _ this
    · rw [if_neg (by omega)]
      have : c[i]? = some v := by
        by_cases q1 : i < off
        · rw [List.append_assoc, List.getElem?_append_left (by rw [List.length_take]; omega), List.getElem?_take, if_pos q1] at hi
          exact hi
        · rw [List.getElem?_append_right (by rw [List.length_append, List.length_take]; omega), List.length_append, List.length_take, Nat.min_eq_left (by omega), List.getElem?_drop] at hi
          rw [← hi]; congr 1; omega
      obtain ⟨V', hV', hr⟩ := hc.get _ _ this
      exact ⟨V', by rw [← Array.getElem?_toList]; exact hV', hr⟩

/-- parts of a literal -/
inductive PRels (ρ : Rho) : List (Nat × Value) → List (Nat × Value) → Prop
  | nil : PRels ρ [] []
  | cons (i : Nat) (v V : Value) (l L : List (Nat × Value)) (h : VRel ρ v V) (hl : PRels ρ l L) : PRels ρ ((i, v) :: l) ((i, V) :: L)
theorem prels {ρ : Rho} {a c : Operand → Value} (l : List (Nat × Operand)) (h : ∀ x ∈ l, VRel ρ (a x.2) (c x.2)) : PRels ρ (mapP a l) (l.map fun x => (x.1, c x.2)) := by
  rw [mapP_eq]
  induction l with
  | nil => exact .nil
  | cons x l ih => exact .cons _ _ _ _ _ (h x (.head _)) (ih fun y hy => h y (.tail _ hy))
theorem fill_step {ρ : Rho} {place : Nat → Option (Nat × Nat)} {i off s : Nat} {v V : Value} {cs c : List Value} {C : Array Value} {L : List (Nat × Value)} (hp : place i = some (off, s)) (hcs : cells v = some cs) (hv : VRel ρ v V) (h1 : cs.length = s) (hC : VRels ρ c C.toList) (h2 : off + cs.length ≤ c.length) :
    Instr.fill place C ((i, V) :: L) = Instr.fill place (V.cells.zipIdx.foldl (fun C x => C.setIfInBounds (off + x.2) x.1) C) L := by
  have hr := cells_rel hcs hv
  have hl : cs.length = V.cells.size := by have := hr.length; simpa using this
  have hl2 : c.length = C.size := by have := hC.length; simpa using this
  have e1 : ¬ (V.cells.size ≠ s ∨ off + V.cells.size > C.size) := by omega
  simp only [Instr.fill, hp]
  rw [if_neg (by simpa using e1)]
theorem fillA_rel {ρ : Rho} (s : Nat) : ∀ (ps PS : List (Nat × Value)) (c : List Value) (C : Array Value) (c' : List Value), PRels ρ ps PS → VRels ρ c C.toList → fillA s c ps = some c' →
    ∃ C', Instr.fill (fun i => some (i * s, s)) C PS = some C' ∧ VRels ρ c' C'.toList := by
  intro ps
  induction ps with
  | nil => intro PS c C c' hp hc h; cases hp; cases h; exact ⟨C, rfl, hc⟩
  | cons p ps ih =>
    intro PS c C c' hp hc h
    cases hp with
    | cons i v V l L hv hl =>
      obtain ⟨cs, hcs, h⟩ := bind_some h
      obtain ⟨h1, h⟩ := bif_some h
      obtain ⟨h2, h⟩ := bif_some h
      rw [len_eq, natBeq_eq, decide_eq_true_eq] at h1
      rw [len_eq, len_eq, natBle_eq, decide_eq_true_eq] at h2
      rw [fill_step (off := i * s) (s := s) rfl hcs hv h1 hc h2]
      exact ih L _ _ c' hl (fold_rel hc (cells_rel hcs hv) h2) h
theorem fillS_rel (hE : EnvOk P E) {ρ : Rho} (fields : Array Field) (place : Nat → Option (Nat × Nat)) (hplace : ∀ (i : Nat) (f : Field) (s : Nat), fields.toList[i]? = some f → E.size f.type = some s → place i = some (f.offset, s)) : ∀ (ps PS : List (Nat × Value)) (c : List Value) (C : Array Value) (c' : List Value), PRels ρ ps PS → VRels ρ c C.toList → fillS E fields c ps = some c' →
    ∃ C', Instr.fill place C PS = some C' ∧ VRels ρ c' C'.toList := by
  intro ps
  induction ps with
  | nil => intro PS c C c' hp hc h; cases hp; cases h; exact ⟨C, rfl, hc⟩
  | cons p ps ih =>
    intro PS c C c' hp hc h
    cases hp with
    | cons i v V l L hv hl =>
      obtain ⟨f, hf, h⟩ := bind_some h
      obtain ⟨s, hs, h⟩ := bind_some h
      obtain ⟨cs, hcs, h⟩ := bind_some h
      rw [nthA_eq] at hf
      obtain ⟨h1, h⟩ := bif_some h
      obtain ⟨h2, h⟩ := bif_some h
      rw [len_eq, natBeq_eq, decide_eq_true_eq] at h1
      rw [len_eq, len_eq, natBle_eq, decide_eq_true_eq] at h2
      rw [fill_step (hplace i f s hf hs) hcs hv h1 hc h2]
      exact ih L _ _ c' hl (fold_rel hc (cells_rel hcs hv) h2) h
theorem sized_places (hE : EnvOk P E) (fs : List Field) : sizedF E fs = some () → ∃ places, fs.mapM (fun f => (P.info? f.type).map fun i => (f.offset, i.size)) = some places ∧ ∀ (i : Nat) (f : Field) (s : Nat), fs[i]? = some f → E.size f.type = some s → places[i]? = some (f.offset, s) := by
  induction fs with
  | nil => intro _; exact ⟨[], rfl, fun i f s h => by simp at h⟩
  | cons f fs ih =>
    intro h
    obtain ⟨s, hs, h⟩ := bind_some h
    obtain ⟨pl, h1, h2⟩ := ih h
    obtain ⟨ti, hti, hs'⟩ := bind_some hs
    cases hs'
    obtain ⟨j, hj, hjs, _⟩ := hE.info _ _ hti
    refine ⟨(f.offset, j.size) :: pl, by simp [List.mapM_cons, hj, h1], ?_⟩
    intro i g s' hg hs'
    cases i with
    | zero =>
      simp at hg; subst hg
      rw [hs] at hs'; cases hs'
      simp [hjs]
    | succ i => simpa using h2 i g s' (by simpa using hg) hs'

variable {ρ : Rho} {h : H} {W : World} {a c : Operand → Value} {o : Oper}
theorem op_build_sound (hE : EnvOk P E) (hH : HRel ρ h W) (t : TypeId) (parts : Array (Nat × Operand)) (ho : o.op = .build t parts) (hx : ∀ x ∈ parts.toList, VRel ρ (a x.2) (c x.2)) {v : Value} {h' : H} (hr : op_build E h a t parts = some (.val v h')) : OpOk P ρ h W v h' (execOp c o) := by
  obtain ⟨z, hz, hr⟩ := bind_some hr
  obtain ⟨u, hu, hr⟩ := bind_some hr
  have hU := hE.underP hu
  obtain ⟨i, hi, hd⟩ := bind_some hu
  obtain ⟨j, hj, hjs, hjb, hjz, _⟩ := hE.info _ _ hi
  obtain ⟨zv, hzv, hzc⟩ := bind_some hz
  have hzz : E.zero t = some zv := hzv
  obtain ⟨i', hi', hz0⟩ := bind_some hzz
  rw [hi] at hi'; cases hi'
  rw [hjz] at hz0
  obtain ⟨y, hy, hyz⟩ := bind_some hz0
  obtain ⟨rfl, hzr⟩ := zeroOf_rel hyz ρ
  have hzrel : VRels ρ z zv.cells.toList := cells_rel hzc hzr
  have hpr := prels (a := a) (c := c) parts.toList hx
  have hmap : (parts.map fun (x : Nat × Operand) => (x.1, c x.2)).toList = parts.toList.map fun x => (x.1, c x.2) := by simp
  split at hr
  · rename_i fields
    obtain ⟨_, hsz, hr⟩ := bind_some hr
    obtain ⟨cs, hcs, hv⟩ := bind_some hr
    cases hv
    obtain ⟨pl, hp1, hp2⟩ := sized_places hE _ hsz
    obtain ⟨C', hC', hrel⟩ := fillS_rel hE fields (fun k => pl.toArray[k]?) (fun k f s q1 q2 => by simpa using hp2 k f s q1 q2) _ _ _ _ _ hpr hzrel hcs
    refine .pure hH ?_ (.agg _ _ (by simpa using hrel) : VRel ρ (.agg ⟨cs⟩) (.agg C'))
    have hb : P.built t (parts.map fun (x : Nat × Operand) => (x.1, c x.2)).toList = some C' := by
      unfold Program.built
      rw [hj, hU]
      simp only [hy, hp1]
      rw [hmap]; exact hC'
    simp only [execOp, ho, Sem.run_bind, run_build W t _ C' hb, Result.andThen_ok, Sem.run_pure]
  · rename_i n e
    obtain ⟨s, hs, hr⟩ := bind_some hr
    obtain ⟨cs, hcs, hv⟩ := bind_some hr
    cases hv
    obtain ⟨C', hC', hrel⟩ := fillA_rel s _ _ _ _ _ hpr hzrel hcs
    refine .pure hH ?_ (.agg _ _ (by simpa using hrel) : VRel ρ (.agg ⟨cs⟩) (.agg C'))
    obtain ⟨ie, hie, hs'⟩ := bind_some hs
    cases hs'
    obtain ⟨je, hje, hjes, _⟩ := hE.info _ _ hie
    have hb : P.built t (parts.map fun (x : Nat × Operand) => (x.1, c x.2)).toList = some C' := by
      unfold Program.built
      rw [hj, hU]
      simp only [hy, hje, hjes]
      rw [hmap]; exact hC'
    simp only [execOp, ho, Sem.run_bind, run_build W t _ C' hb, Result.andThen_ok, Sem.run_pure]
  · cases hr

theorem zeros_get (z : List Value) (n : Nat) : ∀ i : Nat, (zeros z n)[i]? = if i < n * z.length then z[i % z.length]? else none := by
  induction n with
  | zero => intro i; rw [if_neg (by omega)]; rfl
  | succ n ih =>
    intro i
    show (app z (zeros z n))[i]? = _
    rw [app_eq]
    by_cases hi : i < z.length
    · rw [List.getElem?_append_left hi, Nat.mod_eq_of_lt hi, if_pos (by rw [Nat.succ_mul]; omega)]
    · rw [List.getElem?_append_right (by omega), ih, Nat.succ_mul]
      have : (i - z.length) % z.length = i % z.length := (Nat.mod_eq_sub_mod (by omega)).symm
      rw [this]
      by_cases h2 : i < n * z.length + z.length
      · rw [if_pos h2, if_pos (by omega)]
      · rw [if_neg h2, if_neg (by omega)]
theorem zeros_rel {ρ : Rho} {z : List Value} {Z : Array Value} (hz : VRels ρ z Z.toList) (n k : Nat) (hk : n * z.length = k) : VRels ρ (zeros z n) (madeCells Z k).toList := by
  have hl : z.length = Z.size := by have := hz.length; simpa using this
  refine VRels.of_get ?_ ?_
  · have : (madeCells Z k).toList.length = k := by simp [madeCells]
    exact (zeros_length z n).trans (hk.trans this.symm)
  · intro i v e
    rw [zeros_get] at e
    by_cases hi : i < n * z.length
    · rw [if_pos hi] at e
      obtain ⟨V, hV, hr⟩ := hz.get _ _ e
      refine ⟨V, ?_, hr⟩
      rw [Array.getElem?_toList] at hV ⊢
      have hik : i < k := by omega
      simp only [madeCells, Array.getElem?_map, Array.getElem?_range, hik, if_true, Option.map_some]
      rw [hl] at hV
      rw [Array.getElem!_eq_getD, Array.getD_eq_getD_getElem?, hV]; rfl
    · rw [if_neg hi] at e; cases e
theorem EnvOk.zinfo (hE : EnvOk P E) {t : TypeId} {z : List Value} (h : E.zcells t = some z) : ∃ i j zv, E.info t = some i ∧ P.info? t = some j ∧ j.size = i.size ∧ j.bytes = i.bytes ∧ j.zero = some zv ∧ zv.cells.toList = z ∧ ∀ ρ, VRels ρ z zv.cells.toList := by
  obtain ⟨zv, hzv, hzc⟩ := bind_some h
  obtain ⟨i, hi, hz0⟩ := bind_some hzv
  obtain ⟨j, hj, hjs, hjb, hjz, _⟩ := hE.info _ _ hi
  rw [hjz] at hz0
  obtain ⟨y, hy, hyz⟩ := bind_some hz0
  obtain ⟨rfl, _⟩ := zeroOf_rel hyz (fun _ => none)
  refine ⟨i, j, zv, hi, hj, hjs, hjb, hy, ?_, fun ρ => cells_rel hzc (zeroOf_rel hyz ρ).2⟩
  cases zv <;> first | (cases hzc; rfl) | cases hzc
theorem range0 {α : Type} (f : Nat → α) : (Array.range 0).map f = #[] := Array.eq_empty_of_size_eq_zero (by simp)
theorem run_buildSlice0 (W : World) (t e : TypeId) (len : Nat) (parts : Array (Nat × Value)) (cells : Array Value) (ie : TypeInfo) (z : Value)
    (hu : P.underlying t = some (.slice e)) (hie : P.info? e = some ie) (hz : ie.zero = some z) (hsmall : ¬ len * ie.size > 2 ^ 24)
    (h : Instr.fill (fun i => some (i * ie.size, ie.size)) (madeCells z.cells (len * ie.size)) parts.toList = some cells) :
    (Instr.buildSlice t len parts).run P W = .ok (.slice (some ⟨W.heap.size, 0, none⟩) len len) (W.alloc (.cells cells e)) := by
  by_cases hpos : len * ie.size = 0
  · have h' : Instr.fill (fun i => some (i * ie.size, ie.size)) #[] parts.toList = some cells := by rw [hpos] at h; rw [← range0 (z.cells[· % z.cells.size]!)]; exact h
    simp [Instr.buildSlice, run_underlying hu, sizeOf, typeInfo, hie, hpos, range0, h', Go.newRow]
  · exact run_buildSlice W t e len parts cells ie z hu hie hz hsmall hpos h
/-- a slice of a row of its own -/
theorem slice_fresh {ρ : Rho} {h : H} {n S l : Nat} {B : Nat} {osz : Nat} (c : Nat) (hn : ¬ (osz ≠ 0 ∧ c * osz = n) ∨ c * osz ≤ S) : VRel (ρ.add h.next ⟨B, 0, n, osz, S⟩) (.slice (some ⟨h.next, 0, none⟩) l c) (.slice (some ⟨B, 0, none⟩) l c) := by
  refine .slice _ _ _ _ _ _ _ (Rho.add_same _ _ _) ?_
  unfold SRel
  by_cases q : osz ≠ 0 ∧ 0 + c * osz = n
  · rw [if_pos q]
    refine ⟨Nat.le_refl _, .inl ⟨rfl, ?_⟩⟩
    rcases hn with k | k
    · exact absurd ⟨q.1, by have := q.2; omega⟩ k
    · show 0 + 0 + c * osz ≤ S; omega
  · rw [if_neg q]; exact ⟨rfl, rfl⟩
theorem alloc_heap (W : World) (o : Obj) : (W.alloc o).heap = W.heap.push o := rfl
theorem op_buildSlice_sound (hE : EnvOk P E) (hH : HRel ρ h W) (t : TypeId) (n : Nat) (parts : Array (Nat × Operand)) (ho : o.op = .buildSlice t n parts) (hx : ∀ x ∈ parts.toList, VRel ρ (a x.2) (c x.2)) {v : Value} {h' : H} (hr : op_buildSlice E h a t n parts = some (.val v h')) : OpOk P ρ h W v h' (execOp c o) := by
  obtain ⟨u, hu, hr⟩ := bind_some hr
  have hU := hE.underP hu
  split at hr
  · rename_i e
    obtain ⟨s, hs, hr⟩ := bind_some hr
    obtain ⟨z, hz, hr⟩ := bind_some hr
    obtain ⟨cs, hcs, hr⟩ := bind_some hr
    obtain ⟨hb, hv⟩ := bif_some hr
    cases hv
    rw [natBle_eq, natBeq_eq, len_eq, Bool.and_eq_true, decide_eq_true_eq, decide_eq_true_eq] at hb
    obtain ⟨i, j, zv, hi, hj, hjs, hjb, hjz, _, hzr⟩ := hE.zinfo hz
    have hs2 : i.size = s := by
      obtain ⟨i2, hi2, hs'⟩ := bind_some hs
      rw [show E.types.get e = some i from hi] at hi2; cases hi2; cases hs'; rfl
    have hpr := prels (a := a) (c := c) parts.toList hx
    obtain ⟨C', hC', hrel⟩ := fillA_rel s _ _ _ _ _ hpr (zeros_rel (hzr ρ) n (n * s) (by rw [hb.2])) hcs
    have hrun := run_buildSlice0 (P := P) W t e n (parts.map fun (x : Nat × Operand) => (x.1, c x.2)) C' j zv hU hj hjz (by rw [hjs, hs2]; omega) (by
      rw [hjs, hs2]
      have hmap : (parts.map fun (x : Nat × Operand) => (x.1, c x.2)).toList = parts.toList.map fun x => (x.1, c x.2) := by simp
      rw [hmap]; exact hC')
    obtain ⟨r1, r2⟩ := rels_get hrel
    obtain ⟨k1, k2⟩ := row_new (e := e) (osz := 0) (W' := W.alloc (.cells C' e)) hH r1 r2 (noF _) rfl rfl rfl rfl
    refine ⟨_, _, _, .value _, ?_, .inl rfl, slice_fresh (ρ := ρ) (h := h) (l := n) n (.inl (fun q => q.1 rfl)), k1, k2⟩
    simp only [execOp, ho, Sem.run_bind, hrun, Result.andThen_ok, Sem.run_pure]
  · cases hr
theorem op_makeSlice_sound (hE : EnvOk P E) (hH : HRel ρ h W) (t : TypeId) (x y : Operand) (ho : o.op = .makeSlice t x y) (hx : VRel ρ (a x) (c x)) (hy : VRel ρ (a y) (c y)) {v : Value} {h' : H} (hr : op_makeSlice E h a t x y = some (.val v h')) : OpOk P ρ h W v h' (execOp c o) := by
  obtain ⟨u, hu, hr⟩ := bind_some hr
  have hU := hE.underP hu
  revert hx hy hr
  generalize a x = p
  generalize a y = q
  intro hx hy hr
  split at hr
  · rename_i e kl l kc n
    obtain ⟨i, hi, hr⟩ := bind_some hr
    obtain ⟨z, hz, hr⟩ := bind_some hr
    obtain ⟨hb, hv⟩ := bif_some hr
    cases hv
    rw [natBle_eq, natBle_eq, natBle_eq, natBeq_eq, len_eq] at hb
    simp only [Bool.and_eq_true, decide_eq_true_eq] at hb
    obtain ⟨⟨⟨hb1, hb2⟩, hb3⟩, hb4⟩ := hb
    obtain ⟨i', j, zv, hi', hj, hjs, hjb, hjz, _, hzr⟩ := hE.zinfo hz
    rw [hi] at hi'; cases hi'
    have hcx := hx.int_inv
    have hcy := hy.int_inv
    have hbb : j.bytes * n ≤ 1099511627776 := by rw [hjb]; exact hb2
    have hbb2 : ((j.bytes : Int) * Int.ofNat n) ≤ 281474976710656 := by
      have : ((j.bytes * n : Nat) : Int) ≤ ((1099511627776 : Nat) : Int) := Int.ofNat_le.2 hbb
      have e1 : ((j.bytes : Int) * Int.ofNat n) = ((j.bytes * n : Nat) : Int) := by simp
      rw [e1]; omega
    have hrun := run_make (P := P) W t e j zv hU hj hjz kl kc (Int.ofNat l) (Int.ofNat n) (Int.natCast_nonneg l) (Int.ofNat_le.2 hb1) hbb2 (by
      have : ((n : Nat) : Int) ≤ ((1099511627776 : Nat) : Int) := Int.ofNat_le.2 hb3
      show (n : Int) ≤ _
      omega)
    have hrel := zeros_rel (hzr ρ) n (n * j.size) (by rw [hb4, hjs])
    obtain ⟨r1, r2⟩ := rels_get hrel
    obtain ⟨k1, k2⟩ := row_new (e := e) (osz := 0) (W' := W.alloc (.cells (madeCells zv.cells (n * j.size)) e)) hH r1 r2 (noF _) rfl rfl rfl rfl
    refine ⟨_, _, _, .value _, ?_, .inl rfl, slice_fresh (ρ := ρ) (h := h) (l := l) n (.inl (fun q => q.1 rfl)), k1, k2⟩
    simp only [execOp, ho, Sem.run_bind]
    rw [hcx, hcy, hrun]
    rfl
  · cases hr
end Go.X
