/- A part of the evaluator of the model, and of the proof that what it answers is what a call comes to. No conditions of its own. -/
import Derived.Test.YthbmhdlbphkljaaGreatDoorXg
namespace Go.X
open Go
variable {P : Program} {E : Env}

def OpOk (P : Program) (ρ : Rho) (h : H) (W : World) (v : Value) (h' : H) (s : Sem Next) : Prop :=
  ∃ ρ' W' V nx, s.run P W = .ok nx W' ∧ (nx = .value V ∨ (nx = .skip ∧ V = Go.undef)) ∧ VRel ρ' v V ∧ HRel ρ' h' W' ∧ Ext ρ h W ρ' h' W'
theorem OpOk.pure {ρ : Rho} {h : H} {W : World} {v V : Value} {s : Sem Next} (hH : HRel ρ h W) (hs : s.run P W = .ok (.value V) W) (hv : VRel ρ v V) : OpOk P ρ h W v h s :=
  ⟨ρ, W, V, .value V, hs, .inl rfl, hv, hH, Ext.refl _ _ _⟩

/-- a new row -/
theorem row_new {ρ : Rho} {h : H} {W W' : World} (hH : HRel ρ h W) {c : List Value} {C : Array Value} {e : TypeId} {osz : Nat} (hle : c.length ≤ C.size) (hc : ∀ (i : Nat) (v : Value), c[i]? = some v → ∃ V, C[i]? = some V ∧ VRel ρ v V)
    {F : Nat × Nat} (hF : ∀ j, j < C.size + (if osz = 0 then 1 else 0) → ¬ (F.1 ≤ j ∧ j < F.2))
    (hW : W'.heap = W.heap.push (.cells C e F)) (h1 : W'.os = W.os) (h2 : W'.tape = W.tape) (h3 : W'.output = W.output) :
    HRel (ρ.add h.next ⟨W.heap.size, 0, c.length, osz, C.size⟩) (newRow h e c osz) W' ∧ Ext ρ h W (ρ.add h.next ⟨W.heap.size, 0, c.length, osz, C.size⟩) (newRow h e c osz) W' := by
  have hnone : ρ h.next = none := by
    cases e : ρ h.next with
    | none => rfl
    | some q => have := (hH.dom _ _ e).1; omega
  have ho : ORel (ρ.add h.next ⟨W.heap.size, 0, c.length, osz, C.size⟩) ⟨W.heap.size, 0, c.length, osz, C.size⟩ W' (.row ⟨c, e, osz, 0, false⟩) := by
    refine ⟨C, F, ?_, rfl, rfl, ⟨rfl, fun _ => rfl⟩, by simpa using hle, ?_, ?_⟩
    · rw [hW]; simp
    · intro i v hv
      obtain ⟨V, hV, hr⟩ := hc i v hv
      exact ⟨V, by simpa using hV, hr.mono (ρ.add_le _ _ hnone)⟩
    · intro _ j _ hj; exact hF j hj
  exact ⟨hH.new _ _ _ hW rfl ho, Ext.new hH _ _ _ hW rfl h1 h2 h3⟩
theorem rels_get {ρ : Rho} {c : List Value} {C : Array Value} (h : VRels ρ c C.toList) : c.length ≤ C.size ∧ ∀ (i : Nat) (v : Value), c[i]? = some v → ∃ V, C[i]? = some V ∧ VRel ρ v V := by
  refine ⟨by have := h.length; simpa using Nat.le_of_eq this, fun i v e => ?_⟩
  obtain ⟨V, hV, hv⟩ := h.get i v e
  exact ⟨V, by rw [← Array.getElem?_toList]; exact hV, hv⟩
theorem run_newRow (W : World) (e : TypeId) (C : Array Value) : (Go.newRow e C).run P W = .ok ⟨W.heap.size, 0, none⟩ { W with heap := W.heap.push (.cells C e (0, 0)) } := by
  simp [Go.newRow, newObj, Sem.run]
theorem noF (n : Nat) : ∀ j, j < n → ¬ (((0, 0) : Nat × Nat).1 ≤ j ∧ j < ((0, 0) : Nat × Nat).2) := by
  intro j _ h; exact absurd h.2 (Nat.not_lt_zero _)
theorem rowPtr_rel (ρ : Rho) (h : H) (r : RI) (hb : r.base = 0) : VRel (ρ.add h.next r) (rowPtr h) (.pointer (some ⟨r.blk, 0, none⟩)) := by
  have := VRel.ptr (ρ := ρ.add h.next r) h.next 0 r (Rho.add_same _ _ _)
  rw [hb] at this
  exact this

variable {ρ : Rho} {h : H} {W : World} {a c : Operand → Value} {o : Oper}

theorem op_move_sound (hH : HRel ρ h W) (x : Operand) (ho : o.op = .move x ∨ o.op = .assign x) (hx : VRel ρ (a x) (c x)) : OpOk P ρ h W (a x) h (execOp c o) := by
  refine .pure hH ?_ hx
  rcases ho with ho | ho <;> simp only [execOp, ho] <;> rfl
theorem op_pick_sound (hH : HRel ρ h W) (x y z : Operand) (ho : o.op = .pick x y z) (hx : VRel ρ (a x) (c x)) (hy : VRel ρ (a y) (c y)) (hz : VRel ρ (a z) (c z)) {v : Value} {h' : H} (hr : op_pick E h a x y z = some (.val v h')) : OpOk P ρ h W v h' (execOp c o) := by
  obtain ⟨t, ht, hv⟩ := bind_some hr
  have hb : a x = .bool t := by
    revert ht; cases a x <;> intro ht <;> first | (cases ht; rfl) | cases ht
  rw [hb] at hx
  cases hv
  have hc : c x = .bool t := by
    revert hx; generalize c x = q; intro hx; cases hx; rfl
  cases t with
  | true => exact .pure hH (by simp [execOp, ho, hc, asBool, Sem.run_pure]) hy
  | false => exact .pure hH (by simp [execOp, ho, hc, asBool, Sem.run_pure]) hz
theorem op_alloc_sound (hE : EnvOk P E) (hH : HRel ρ h W) (e : TypeId) (ho : o.op = .alloc e) {v : Value} {h' : H} (hr : op_alloc E h a e = some (.val v h')) : OpOk P ρ h W v h' (execOp c o) := by
  obtain ⟨z, hz, hv⟩ := bind_some hr
  cases hv
  obtain ⟨Z, hZ, _, hrel⟩ := hE.zcells hz W
  obtain ⟨h1, h2⟩ := rels_get (hrel ρ)
  obtain ⟨k1, k2⟩ := row_new (e := e) (osz := 0) hH h1 h2 (noF _) (W' := { W with heap := W.heap.push (.cells Z.cells e (0, 0)) }) rfl rfl rfl rfl
  refine ⟨_, _, .pointer (some ⟨W.heap.size, 0, none⟩), .value _, ?_, .inl rfl, rowPtr_rel _ _ _ rfl, k1, k2⟩
  simp only [execOp, ho, Instr.alloc, newVar, Sem.run_bind, hZ, Result.andThen_ok, run_newRow, Sem.run_pure]
theorem op_box_sound (hH : HRel ρ h W) (e : TypeId) (x : Operand) (ho : o.op = .box e x) (hx : VRel ρ (a x) (c x)) {v : Value} {h' : H} (hr : op_box E h a e x = some (.val v h')) : OpOk P ρ h W v h' (execOp c o) := by
  obtain ⟨cs, hc, hv⟩ := bind_some hr
  cases hv
  obtain ⟨h1, h2⟩ := rels_get (cells_rel hc hx)
  obtain ⟨k1, k2⟩ := row_new (e := e) (osz := 0) hH h1 h2 (noF _) (W' := { W with heap := W.heap.push (.cells (c x).cells e (0, 0)) }) rfl rfl rfl rfl
  refine ⟨_, _, .pointer (some ⟨W.heap.size, 0, none⟩), .value _, ?_, .inl rfl, rowPtr_rel _ _ _ rfl, k1, k2⟩
  simp only [execOp, ho, Instr.box, newVar, Sem.run_bind, Result.andThen_ok, run_newRow, Sem.run_pure]
theorem op_load_sound (hE : EnvOk P E) (hH : HRel ρ h W) (t : TypeId) (x : Operand) (ho : o.op = .load t x) (hx : VRel ρ (a x) (c x)) {v : Value} {h' : H} (hr : op_load E h a t x = some (.val v h')) : OpOk P ρ h W v h' (execOp c o) := by
  obtain ⟨A, hA, hl⟩ := bind_some hr
  obtain ⟨u, hu, hv⟩ := map_some hl
  cases hv
  obtain ⟨b, of, he, rfl⟩ := addrOf_some hA
  rw [he] at hx
  revert hx; generalize hc : c x = q; intro hx
  cases hx with
  | ptr _ _ r hr =>
    obtain ⟨V, hV, hrel⟩ := loadVar_sound hE hH hr hu
    refine .pure hH ?_ hrel
    simp only [execOp, ho, Instr.loadAt, Instr.sureAddr, hc, Sem.run_bind, Sem.run_pure, Result.andThen_ok, hV]

theorem HRel.store {ρ : Rho} {h h' : H} {W : World} (hH : HRel ρ h W) {b of : Nat} {r : RI} {vs VS : List Value} (hr : ρ b = some r) (hs : storeCells h ⟨b, of, none⟩ vs = some h') (hv : VRels ρ vs VS) :
    ∃ W', (Go.storeCells ⟨r.blk, r.base + of, none⟩ VS).run P W = .ok () W' ∧ HRel ρ h' W' ∧ Ext ρ h W ρ h' W' := by
  obtain ⟨x, hx, hs⟩ := bind_some hs
  have hget := H.row_get hx
  have hcond : (x.ro || !(Nat.ble x.frz of) || !(Nat.ble (of + len vs) (len x.cs)) || !(allOne vs)) = false := by
    cases e : (x.ro || !(Nat.ble x.frz of) || !(Nat.ble (of + len vs) (len x.cs)) || !(allOne vs)) with
    | false => rfl
    | true =>
      have hs' : (bif (x.ro || !(Nat.ble x.frz of) || !(Nat.ble (of + len vs) (len x.cs)) || !(allOne vs)) then none else some (h.put b (.row { x with cs := spliceAt x.cs of vs }))) = some h' := hs
      rw [e] at hs'; cases hs'
  have hs' : (bif (x.ro || !(Nat.ble x.frz of) || !(Nat.ble (of + len vs) (len x.cs)) || !(allOne vs)) then none else some (h.put b (.row { x with cs := spliceAt x.cs of vs }))) = some h' := hs
  rw [hcond] at hs'
  cases hs'
  clear hs
  rw [len_eq, len_eq, natBle_eq, natBle_eq] at hcond
  simp only [Bool.or_eq_false_iff, Bool.not_eq_false', decide_eq_true_eq] at hcond
  obtain ⟨⟨⟨hro, h1⟩, h2⟩, h3⟩ := hcond
  · skip
    have hone := allOne_mem vs h3
    have hobj := hH.obj b _ r hget hr
    obtain ⟨C, F, k1, k2, k3, k4, k5, k6, k7⟩ := hobj
    have hVlen := hv.length
    have hOne : ∀ V ∈ VS, oneCell V = true := by
      intro V hV
      obtain ⟨i, hi⟩ := List.getElem?_of_mem hV
      have hlt : i < vs.length := by
        rcases Nat.lt_or_ge i VS.length with q | q
        · omega
        · rw [List.getElem?_eq_none q] at hi; cases hi
      obtain ⟨V', e', hrel⟩ := hv.get i _ (List.getElem?_eq_getElem hlt)
      rw [hi] at e'; cases e'
      exact hrel.oneCell (hone _ (List.getElem_mem hlt))
    obtain ⟨W', C', hrun, ⟨s1, s2, s3, s4, s5, s6, s7⟩, hsz, hidx⟩ := run_storeCells (P := P) r.blk x.elem F (r.base + of) VS 0 W C k1 (by omega) (fun j q1 q2 => k7 hro j (by omega) (by omega)) hOne
    refine ⟨W', hrun, ?_, ?_⟩
    · refine hH.put b _ _ r hget (by show x.ro = false; exact hro) (by show x.ro = false; exact hro) hr s3 s4 ?_
      refine ⟨C', F, s2, by rw [hsz]; exact k2, ?_, k4, k5, ?_, ?_⟩
      · rw [k3]; exact (spliceAt_length _ _ _ h2).symm
      · intro i v e
        have e' : (x.cs.take of ++ vs ++ x.cs.drop (of + vs.length))[i]? = some v := by
          rw [← spliceAt_eq x.cs of vs h2]; exact e
        rw [hidx]
        by_cases q : of ≤ i ∧ i < of + vs.length
        · rw [if_pos (by omega)]
          have : vs[i - of]? = some v := by
            rw [List.append_assoc, List.getElem?_append_right (by rw [List.length_take]; omega), List.length_take, Nat.min_eq_left (by omega), List.getElem?_append_left (by omega)] at e'
            exact e'
          obtain ⟨V, hV, hrel⟩ := hv.get _ _ this
          exact ⟨V, by rw [show r.base + i - (r.base + of + 0) = i - of from by omega]; exact hV, hrel⟩
        · rw [if_neg (by omega)]
          have : x.cs[i]? = some v := by
            by_cases q1 : i < of
            · rw [List.append_assoc, List.getElem?_append_left (by rw [List.length_take]; omega), List.getElem?_take, if_pos q1] at e'
              exact e'
            · rw [List.getElem?_append_right (by rw [List.length_append, List.length_take]; omega), List.length_append, List.length_take, Nat.min_eq_left (by omega), List.getElem?_drop] at e'
              rw [← e']; congr 1; omega
          exact k6 i v this
      · exact k7
    · exact Ext.put b _ _ r hget (by show x.ro = false; exact hro) hr s3 s4 s5 s6 s7
theorem storeVar_sound (hE : EnvOk P E) (hH : HRel ρ h W) {t : TypeId} {b of : Nat} {r : RI} {v V : Value} {h' : H} (hr : ρ b = some r) (hs : storeVar E h t ⟨b, of, none⟩ v = some h') (hv : VRel ρ v V) :
    ∃ W', (Go.storeVar t ⟨r.blk, r.base + of, none⟩ V).run P W = .ok () W' ∧ HRel ρ h' W' ∧ Ext ρ h W ρ h' W' := by
  obtain ⟨n, hn, hs⟩ := bind_some hs
  obtain ⟨cs, hc, hs⟩ := bind_some hs
  rw [len_eq, natBeq_eq] at hs
  by_cases hl : cs.length = n
  · simp only [hl, decide_true, cond_true] at hs
    have hrel := cells_rel hc hv
    obtain ⟨W', h1, h2, h3⟩ := hH.store (P := P) hr hs hrel
    refine ⟨W', ?_, h2, h3⟩
    have hsz : V.cells.size = n := by have := hrel.length; rw [hl, Array.length_toList] at this; exact this.symm
    simp only [Go.storeVar, Sem.run_bind, hE.size hn, Result.andThen_ok, hsz, ne_eq, not_true, if_false]
    exact h1
  · simp [hl] at hs
theorem op_store_sound (hE : EnvOk P E) (hH : HRel ρ h W) (t : TypeId) (x y : Operand) (ho : o.op = .store t x y) (hx : VRel ρ (a x) (c x)) (hy : VRel ρ (a y) (c y)) {v : Value} {h' : H} (hr : op_store E h a t x y = some (.val v h')) : OpOk P ρ h W v h' (execOp c o) := by
  obtain ⟨A, hA, hl⟩ := bind_some hr
  obtain ⟨u, hu, hv⟩ := map_some hl
  cases hv
  obtain ⟨b, of, he, rfl⟩ := addrOf_some hA
  rw [he] at hx
  revert hx; generalize hc : c x = q; intro hx
  cases hx with
  | ptr _ _ r hr =>
    obtain ⟨W', h1, h2, h3⟩ := storeVar_sound hE hH hr hu hy
    refine ⟨ρ, W', Go.undef, .skip, ?_, .inr ⟨rfl, rfl⟩, VRel.undef _, h2, h3⟩
    simp only [execOp, ho, Instr.storeAt, Instr.sureAddr, hc, Sem.run_bind, Sem.run_pure, Result.andThen_ok, h1]
theorem op_nilCheck_sound (hH : HRel ρ h W) (x : Operand) (ho : o.op = .nilCheck x) (hx : VRel ρ (a x) (c x)) {v : Value} {h' : H} (hr : op_nilCheck E h a x = some (.val v h')) : OpOk P ρ h W v h' (execOp c o) := by
  unfold op_nilCheck at hr
  revert hx hr
  generalize a x = p
  generalize hc : c x = q
  intro hx hr
  split at hr
  · cases hr; cases hx with | ptr b o' r e => exact .pure hH (by simp only [execOp, ho, hc]; rfl) (.ptr b o' r e)
  · cases hr; cases hx with | iface _ _ _ e => exact .pure hH (by simp only [execOp, ho, hc]; rfl) (.iface _ _ _ e)
  · cases hr
    cases hx with
    | func f F a A c C hf ha hcc =>
      cases hf
      exact .pure hH (by simp only [execOp, ho, hc]; rfl) (.func _ _ _ _ _ _ (.func _) ha hcc)
  · cases hr
    cases hx with
    | func f F a A c C hf ha hcc =>
      cases hf with
      | yield l r e => exact .pure hH (by simp only [execOp, ho, hc]; rfl) (.func _ _ _ _ _ _ (.yield _ r e) ha hcc)
  · cases hr
end Go.X
