/- A part of the evaluator of the model, and of the proof that what it answers is what a call comes to. No conditions of its own. -/
import Derived.Test.YthbmhdlbphkljaaGreatDoorXj
import Derived.Laws.Strings2
import Derived.Laws.NewFold
namespace Go.X
open Go
variable {P : Program} {E : Env}
variable {ρ : Rho} {h : H} {W : World} {a c : Operand → Value} {o : Oper}

theorem op_makeInterface_sound (hE : EnvOk P E) (hH : HRel ρ h W) (t : TypeId) (x : Operand) (ho : o.op = .makeInterface t x) (hx : VRel ρ (a x) (c x)) {v : Value} {h' : H} (hr : op_makeInterface E h a t x = some (.val v h')) : OpOk P ρ h W v h' (execOp c o) := by
  obtain ⟨u, hu, hr⟩ := bind_some hr
  have hU := hE.underP hu
  have key : (∀ m, u ≠ .interface m) → (execOp c o).run P W = .ok (.value (.iface t (c x))) W := by
    intro hn
    have : (Instr.makeInterface t (c x)).run P W = .ok (.iface t (c x)) W := by
      unfold Instr.makeInterface
      simp only [Sem.run_bind, run_under hU, Result.andThen_ok]
      cases u <;> first | rfl | exact absurd rfl (hn _)
    simp only [execOp, ho, Sem.run_bind, this, Result.andThen_ok, Sem.run_pure]
  split at hr
  · cases hr
  · rename_i hn
    cases hr
    exact .pure hH (key fun m e => hn m e) (.iface _ _ _ hx)
theorem mapV_rel (l : List Operand) (hx : ∀ x ∈ l, VRel ρ (a x) (c x)) : VRels ρ (mapV a l) (l.map c) := by
  rw [mapV_eq]
  induction l with
  | nil => exact .nil
  | cons x l ih => exact .cons _ _ _ _ (hx x (.head _)) (ih fun y hy => hx y (.tail _ hy))
theorem op_makeFunc_sound (hH : HRel ρ h W) (fn : Fn) (first captured : Array Operand) (ho : o.op = .makeFunc fn first captured) (hx : ∀ x ∈ first.toList, VRel ρ (a x) (c x)) (hy : ∀ x ∈ captured.toList, VRel ρ (a x) (c x)) {v : Value} {h' : H} (hr : op_makeFunc E h a fn first captured = some (.val v h')) : OpOk P ρ h W v h' (execOp c o) := by
  obtain ⟨hfn, hr⟩ := bif_some hr
  cases hr
  refine .pure hH (V := .func fn (first.map c) (captured.map c)) ?_ ?_
  · simp only [execOp, ho, Instr.makeFunc, Sem.run_bind, Sem.run_pure, Result.andThen_ok]
  · refine .func _ _ _ _ _ _ ?_ ?_ ?_
    · cases fn with
      | func f => exact .func f
      | method s => exact .method s
      | _ => cases hfn
    · simpa using mapV_rel _ hx
    · simpa using mapV_rel _ hy
theorem op_extract_sound (hH : HRel ρ h W) (t : Operand) (ix : Nat) (ho : o.op = .extract t ix) (hx : VRel ρ (a t) (c t)) {v : Value} {h' : H} (hr : op_extract E h a t ix = some (.val v h')) : OpOk P ρ h W v h' (execOp c o) := by
  unfold op_extract at hr
  revert hx hr
  generalize a t = p
  generalize hc : c t = q
  intro hx hr
  split at hr
  · obtain ⟨u, hu, hv⟩ := map_some hr
    cases hv
    cases hx with
    | tuple A C hrel =>
      rw [nth_eq] at hu
      obtain ⟨V, hV, hvr⟩ := hrel.get _ _ hu
      rw [Array.getElem?_toList] at hV
      refine .pure hH ?_ hvr
      simp only [execOp, ho, hc, Instr.extract, hV, Sem.run_bind, Sem.run_pure, Result.andThen_ok]
  · cases hr
theorem op_field_sound (hE : EnvOk P E) (hH : HRel ρ h W) (t : TypeId) (x : Operand) (f : Nat) (ho : o.op = .field t x f) (hx : VRel ρ (a x) (c x)) {v : Value} {h' : H} (hr : op_field E h a t x f = some (.val v h')) : OpOk P ρ h W v h' (execOp c o) := by
  obtain ⟨u, hu, hr⟩ := bind_some hr
  have hU := hE.underP hu
  revert hx hr
  generalize a x = p
  generalize hc : c x = q
  intro hx hr
  split at hr
  · rename_i fields cs
    obtain ⟨fd, hfd, hr⟩ := bind_some hr
    obtain ⟨w, hw, hv⟩ := map_some hr
    cases hv
    rw [nthA_eq, Array.getElem?_toList] at hfd
    cases hx with
    | agg A C hrel =>
      obtain ⟨V, hV, hvr⟩ := part_sound hE hw hrel W
      refine .pure hH ?_ hvr
      have : (Instr.field t (.agg C) f).run P W = .ok V W := by
        simp only [Instr.field, Sem.run_bind, run_under hU, Result.andThen_ok, hfd, asAgg, Sem.run_pure, hV]
      simp only [execOp, ho, hc, Sem.run_bind, this, Result.andThen_ok, Sem.run_pure]
  · cases hr
theorem op_fieldAddr_sound (hE : EnvOk P E) (hH : HRel ρ h W) (t : TypeId) (x : Operand) (f : Nat) (ho : o.op = .fieldAddr t x f) (hx : VRel ρ (a x) (c x)) {v : Value} {h' : H} (hr : op_fieldAddr E h a t x f = some (.val v h')) : OpOk P ρ h W v h' (execOp c o) := by
  obtain ⟨u, hu, hr⟩ := bind_some hr
  have hU := hE.underP hu
  split at hr
  · rename_i fields
    obtain ⟨fd, hfd, hr⟩ := bind_some hr
    obtain ⟨A, hA, hr⟩ := bind_some hr
    obtain ⟨sz, hsz, hr⟩ := bind_some hr
    obtain ⟨b, of, he, rfl⟩ := addrOf_some hA
    rw [he] at hx
    rw [natBeq_eq] at hr
    by_cases hz : sz = 0
    · simp [hz] at hr
    · simp only [hz, decide_false, cond_false] at hr
      cases hr
      rw [nthA_eq, Array.getElem?_toList] at hfd
      revert hx; generalize hc : c x = q; intro hx
      cases hx with
      | ptr _ _ r hr =>
        refine .pure hH (V := .pointer (some ⟨r.blk, r.base + (of + fd.offset), none⟩)) ?_ (.ptr _ _ r hr)
        have : (Instr.fieldAt t (.pointer (some ⟨r.blk, r.base + of, none⟩)) f).run P W = .ok (.pointer (some ⟨r.blk, r.base + (of + fd.offset), none⟩)) W := by
          simp only [Instr.fieldAt, Sem.run_bind, run_under hU, Result.andThen_ok, hfd, Instr.sureAddr, Sem.run_pure, fieldPlace, hE.size hsz, hz, if_false, addr_add, Nat.add_assoc]
        simp only [execOp, ho, hc, Sem.run_bind, this, Result.andThen_ok, Sem.run_pure]
  · cases hr
theorem natBlt_eq (a b : Nat) : Nat.blt a b = decide (a < b) := by
  show Nat.ble (a + 1) b = _
  rw [natBle_eq]; rfl
theorem op_indexAddr_sound (hE : EnvOk P E) (hH : HRel ρ h W) (t : TypeId) (x ix : Operand) (ho : o.op = .indexAddr t x ix) (hx : VRel ρ (a x) (c x)) (hy : VRel ρ (a ix) (c ix)) {v : Value} {h' : H} (hr : op_indexAddr E h a t x ix = some (.val v h')) : OpOk P ρ h W v h' (execOp c o) := by
  obtain ⟨u, hu, hr⟩ := bind_some hr
  have hU := hE.underP hu
  revert hx hy hr
  generalize a x = p
  generalize hc : c x = q
  generalize a ix = pi
  generalize hci : c ix = qi
  intro hx hy hr
  split at hr
  · rename_i n e A k i
    obtain ⟨s, hs, hr⟩ := bind_some hr
    obtain ⟨hb, hv⟩ := bif_some hr
    cases hv
    rw [natBlt_eq, decide_eq_true_eq] at hb
    have hyi := hy.int_inv
    subst hyi
    cases hx with
    | ptr b of r hrr =>
      refine .pure hH (V := .pointer (some ⟨r.blk, r.base + (of + i * s), none⟩)) ?_ (.ptr _ _ r hrr)
      have hlt : (0 : Int) ≤ Int.ofNat i ∧ Int.ofNat i < (n : Int) := ⟨Int.natCast_nonneg i, Int.ofNat_lt.2 hb⟩
      have : (Instr.indexAt t (.pointer (some ⟨r.blk, r.base + of, none⟩)) (.int k (Int.ofNat i))).run P W = .ok (.pointer (some ⟨r.blk, r.base + (of + i * s), none⟩)) W := by
        simp only [Instr.indexAt, asIntOf, Sem.run_bind, Sem.run_pure, run_under hU, Result.andThen_ok, Instr.sureAddr, hlt, and_self, if_true, hE.size hs, addr_add, Nat.add_assoc]
        rfl
      simp only [execOp, ho, hc, hci, Sem.run_bind, this, Result.andThen_ok, Sem.run_pure]
  · rename_i e A n cap k i
    obtain ⟨s, hs, hr⟩ := bind_some hr
    obtain ⟨hb, hv⟩ := bif_some hr
    cases hv
    rw [natBlt_eq, decide_eq_true_eq] at hb
    have hyi := hy.int_inv
    subst hyi
    cases hx with
    | slice b of _ _ AA CC r hrr hsr =>
      have hA : AA = ⟨r.blk, r.base + of, none⟩ := by
        unfold SRel at hsr
        split at hsr
        · rcases hsr.2 with hh | hh
          · exact hh.1
          · omega
        · exact hsr.1
      subst hA
      refine .pure hH (V := .pointer (some ⟨r.blk, r.base + (of + i * s), none⟩)) ?_ (.ptr _ _ r hrr)
      have hlt : (0 : Int) ≤ Int.ofNat i ∧ Int.ofNat i < (n : Int) := ⟨Int.natCast_nonneg i, Int.ofNat_lt.2 hb⟩
      have : (Instr.indexAt t (.slice (some ⟨r.blk, r.base + of, none⟩) n CC) (.int k (Int.ofNat i))).run P W = .ok (.pointer (some ⟨r.blk, r.base + (of + i * s), none⟩)) W := by
        simp only [Instr.indexAt, asIntOf, Sem.run_bind, Sem.run_pure, run_under hU, Result.andThen_ok, hlt, and_self, if_true, hE.size hs, addr_add, Nat.add_assoc]
        rfl
      simp only [execOp, ho, hc, hci, Sem.run_bind, this, Result.andThen_ok, Sem.run_pure]
  · cases hr
theorem bytes_get {s : ByteArray} {i : Nat} {b : UInt8} (h : s.data.toList[i]? = some b) : s[i]? = some b := by
  rw [Array.getElem?_toList] at h
  have hlt : i < s.data.size := by
    rcases Nat.lt_or_ge i s.data.size with q | q
    · exact q
    · rw [Array.getElem?_eq_none q] at h; cases h
  rw [getElem?_pos s i hlt]
  rw [Array.getElem?_eq_getElem hlt] at h
  exact h
theorem op_index_sound (hE : EnvOk P E) (hH : HRel ρ h W) (t : TypeId) (x ix : Operand) (ho : o.op = .index t x ix) (hx : VRel ρ (a x) (c x)) (hy : VRel ρ (a ix) (c ix)) {v : Value} {h' : H} (hr : op_index E h a t x ix = some (.val v h')) : OpOk P ρ h W v h' (execOp c o) := by
  obtain ⟨u, hu, hr⟩ := bind_some hr
  have hU := hE.underP hu
  revert hx hy hr
  generalize a x = p
  generalize hc : c x = q
  generalize a ix = pi
  generalize hci : c ix = qi
  intro hx hy hr
  split at hr
  · rename_i n e cs k i
    obtain ⟨s, hs, hr⟩ := bind_some hr
    obtain ⟨hb, hv⟩ := bif_some hr
    obtain ⟨w, hw, hv⟩ := map_some hv
    cases hv
    rw [natBlt_eq, decide_eq_true_eq] at hb
    have hyi := hy.int_inv
    subst hyi
    cases hx with
    | agg A C hrel =>
      obtain ⟨V, hV, hvr⟩ := part_sound hE hw hrel W
      refine .pure hH ?_ hvr
      have hlt : (0 : Int) ≤ Int.ofNat i ∧ Int.ofNat i < (n : Int) := ⟨Int.natCast_nonneg i, Int.ofNat_lt.2 hb⟩
      have : (Instr.index t (.agg C) (.int k (Int.ofNat i))).run P W = .ok V W := by
        simp only [Instr.index, asIntOf, Sem.run_bind, Sem.run_pure, run_under hU, Result.andThen_ok, hlt, and_self, if_true, hE.size hs]
        exact hV
      simp only [execOp, ho, hc, hci, Sem.run_bind, this, Result.andThen_ok, Sem.run_pure]
  · rename_i s k i
    obtain ⟨b, hb, hv⟩ := bind_some hr
    cases hv
    have hyi := hy.int_inv
    subst hyi
    cases hx with
    | string _ =>
      rw [nthB_eq] at hb
      refine .pure hH ?_ (.int .u8 b.toNat)
      have hnn : (0 : Int) ≤ Int.ofNat i := Int.natCast_nonneg i
      have : (Instr.index t (.string s) (.int k (Int.ofNat i))).run P W = .ok (.int .u8 b.toNat) W := by
        simp only [Instr.index, asIntOf, Sem.run_bind, Sem.run_pure, run_under hU, Result.andThen_ok, hnn, if_true]
        have e : s[(Int.ofNat i).toNat]? = some b := bytes_get hb
        simp only [e]
        rfl
      simp only [execOp, ho, hc, hci, Sem.run_bind, this, Result.andThen_ok, Sem.run_pure]
  · cases hr
end Go.X
