/- A part of the evaluator of the model, and of the proof that what it answers is what a call comes to. No conditions of its own. -/
import Derived.Test.YthbmhdlbphkljaaGreatDoorXm
import Derived.Laws.AppendOwn
namespace Go.X
open Go
variable {P : Program} {E : Env}
variable {ρ : Rho} {h : H} {W : World} {a c : Operand → Value} {o : Oper}

theorem SRel.addr {r : RI} {o l c : Nat} {A : Addr} {C : Nat} (hs : SRel r o l c A C) (hl : l ≠ 0 ∨ C ≠ 0) : A = ⟨r.blk, r.base + o, none⟩ := by
  unfold SRel at hs
  split at hs
  · rcases hs.2 with q | q
    · exact q.1
    · omega
  · exact hs.1
theorem SRel.cap {r : RI} {o l c : Nat} {A : Addr} {C : Nat} (hs : SRel r o l c A C) : c ≤ C := by
  unfold SRel at hs
  split at hs
  · exact hs.1
  · omega
/-- the same place, longer, within what is known -/
theorem SRel.longer {r : RI} {o l c m : Nat} {A : Addr} {C : Nat} (hs : SRel r o l c A C) (hm : l + m ≤ c) : SRel r o (l + m) c A C := by
  unfold SRel at hs ⊢
  split at hs
  · rename_i q
    rw [if_pos q]
    refine ⟨hs.1, ?_⟩
    rcases hs.2 with k | k
    · exact .inl k
    · right; omega
  · rename_i q
    rw [if_neg q]; exact hs
/-- append in a row's known room -/
theorem appIn_sound (hH : HRel ρ h W) {base : Option Addr} {B : Option Addr} {l sz m cp C : Nat} {new NEW : List Value} {v : Value} {h' : H} (hv : VRel ρ (.slice base l cp) (.slice B l C)) (hnew : VRels ρ new NEW) (hlen : new.length = m * sz) (hroom : l + m ≤ cp) (hr : appIn h base l sz m cp new = some (.val v h')) :
    cp ≤ C ∧ ∃ W', (match B with | some A => Go.storeCells (A.add (l * sz)) NEW 0 | none => pure ()).run P W = .ok () W' ∧ VRel ρ v (.slice B (l + m) C) ∧ HRel ρ h' W' ∧ Ext ρ h W ρ h' W' := by
  cases hv with
  | snil => cases hr; exact ⟨Nat.le_refl _, W, rfl, .snil _ _, hH, Ext.refl _ _ _⟩
  | slice b of _ _ A _ r hrr hsr =>
    refine ⟨hsr.cap, ?_⟩
    have hr' : Bool.rec (motive := fun _ => Option R) ((storeCells h (addO ⟨b, of, none⟩ (l * sz)) new).bind fun h => some (.val (.slice (some ⟨b, of, none⟩) (l + m) cp) h)) (some (.val (.slice (some ⟨b, of, none⟩) (l + m) cp) h)) (Nat.beq (m * sz) 0) = some (.val v h') := hr
    have hrel : VRel ρ (.slice (some ⟨b, of, none⟩) (l + m) cp) (.slice (some A) (l + m) C) := .slice _ _ _ _ _ _ _ hrr (hsr.longer hroom)
    rw [natBeq_eq] at hr'
    by_cases hz : m * sz = 0
    · simp only [hz, decide_true] at hr'
      cases hr'
      have hN : NEW = [] := List.eq_nil_of_length_eq_zero (by rw [← hnew.length, hlen, hz])
      subst hN
      exact ⟨W, storeCells_nil _ _ _, hrel, hH, Ext.refl _ _ _⟩
    · simp only [hz, decide_false] at hr'
      obtain ⟨h2, hh2, hv⟩ := bind_some hr'
      cases hv
      have hm : m ≠ 0 := fun q => hz (by rw [q]; simp)
      have hA := hsr.addr (by right; have := hsr.cap; omega)
      subst hA
      obtain ⟨W', k1, k2, k3⟩ := hH.store (P := P) hrr hh2 hnew
      refine ⟨W', ?_, hrel, k2, k3⟩
      show (Go.storeCells (Addr.add ⟨r.blk, r.base + of, none⟩ (l * sz)) NEW 0).run P W = _
      rw [addr_add, Nat.add_assoc]; exact k1

/-- the words of append -/
theorem run_append_in {ats : Array TypeId} {ty st elem : TypeId} {S X : Value} {sz l m C : Nat} {B : Option Addr} {NEW : List Value} {W' : World} (hst : ats[0]? = some st) (hU : P.underlying st = some (.slice elem)) (hsz : (sizeOf elem).run P W = .ok sz W)
    (hxt : ∀ t, ats[1]? = some t → ∃ d, P.underlying t = some d ∧ isIntD d = false) (hS : S = .slice B l C) (hl : (Builtin.lenOf X).run P W = .ok m W) (hf : (Builtin.firstCells sz m X).run P W = .ok NEW.toArray W) (hroom : l + m ≤ C)
    (hW' : (match B with | some A => Go.storeCells (A.add (l * sz)) NEW 0 | none => pure ()).run P W = .ok () W') :
    (Builtin.append_ ats ty #[S, X]).run P W = .ok (.slice B (l + m) C) W' := by
  subst hS
  have hx : (∃ t d, ats[1]? = some t ∧ P.underlying t = some d ∧ isIntD d = false) ∨ ats[1]? = none := by
    cases hx : ats[1]? with
    | none => exact .inr rfl
    | some t => obtain ⟨d, hd, hi⟩ := hxt t hx; exact .inl ⟨t, d, rfl, hd, hi⟩
  have hW'' : ∀ A, B = some A → (Go.storeCells (A.add (l * sz)) NEW 0).run P W = .ok () W' := by
    intro A e; subst e; exact hW'
  have hWn : B = none → W' = W := by
    intro e; subst e; simp [Sem.run_pure] at hW'; exact hW'.symm
  rcases hx with ⟨t, d, hx, hd, hi⟩ | hx
  · cases d <;> first | (cases hi; done) | skip
    all_goals
      cases B with
      | none => simp [Builtin.append_, hst, hx, run_under hU, run_under hd, hsz, hl, hf, hroom, hWn rfl]
      | some A => simp [Builtin.append_, hst, hx, run_under hU, run_under hd, hsz, hl, hf, hroom, hW'' A rfl]
  · cases B with
    | none => simp [Builtin.append_, hst, hx, run_under hU, hsz, hl, hf, hroom, hWn rfl]
    | some A => simp [Builtin.append_, hst, hx, run_under hU, hsz, hl, hf, hroom, hW'' A rfl]

theorem run_append_out {ats : Array TypeId} {ty st elem : TypeId} {S X : Value} {sz l m C : Nat} {B : Option Addr} {OLD NEW : List Value} {j : TypeInfo} {z : Value} (hst : ats[0]? = some st) (hU : P.underlying st = some (.slice elem)) (hj : P.info? elem = some j) (hjs : j.size = sz) (hz : j.zero = some z)
    (hxt : ∀ t, ats[1]? = some t → ∃ d, P.underlying t = some d ∧ isIntD d = false) (hS : S = .slice B l C) (hl : (Builtin.lenOf X).run P W = .ok m W) (ho : (Builtin.firstCells sz l S).run P W.drew = .ok OLD.toArray W.drew) (hf : (Builtin.firstCells sz m X).run P W.drew = .ok NEW.toArray W.drew) (hroom : ¬ l + m ≤ C)
    (h63 : l + m ≤ 70368744177664) (hfit : Builtin.nextslicecap (l + m) C * j.bytes ≤ 281474976710656) :
    (Builtin.append_ ats ty #[S, X]).run P W = .ok (.slice (some ⟨W.heap.size, 0, none⟩) (l + m) (grownCap W (l + m) C elem)) (W.drew.alloc (.cells (OLD.toArray ++ NEW.toArray ++ Builtin.zeroCells z.cells (grownCap W (l + m) C elem - (l + m))) elem)) := by
  subst hS
  subst hjs
  have hx : (∃ t d, ats[1]? = some t ∧ P.underlying t = some d ∧ isIntD d = false) ∨ ats[1]? = none := by
    cases hx : ats[1]? with
    | none => exact .inr rfl
    | some t => obtain ⟨d, hd, hi⟩ := hxt t hx; exact .inl ⟨t, d, rfl, hd, hi⟩
  have n1 : ¬ (9223372036854775807 < ((l : Int) + (m : Int))) := by omega
  have n2 : ¬ (281474976710656 < Builtin.nextslicecap (l + m) C * j.bytes) := by omega
  rcases hx with ⟨t, d, hx, hd, hi⟩ | hx
  · cases d <;> first | (cases hi; done) | skip
    all_goals
      simp [Builtin.append_, hst, hx, run_under hU, run_under hd, sizeOf, typeInfo, zeroValue, hj, hz, hl, ho, hf, hroom, n1, n2, Question.forced, Go.newRow, grownCap]
      congr 2
      apply Array.ext'
      simp [List.append_assoc]
  · simp [Builtin.append_, hst, hx, run_under hU, sizeOf, typeInfo, zeroValue, hj, hz, hl, ho, hf, hroom, n1, n2, Question.forced, Go.newRow, grownCap]
    congr 2
    apply Array.ext'
    simp [List.append_assoc]
theorem openEnd_some {b of cp : Nat} {r : RI} {o : Bool} (hH : HRel ρ h W) (hr : ρ b = some r) (ho : openEnd h (some ⟨b, of, none⟩) cp = some o) : ∃ x, h.row b = some x ∧ x.osz = r.osz ∧ x.cs.length = r.n ∧ o = decide (r.osz ≠ 0 ∧ of + cp * r.osz = r.n) := by
  obtain ⟨x, hx, he⟩ := map_some ho
  obtain ⟨_, _, _, _, hn, ⟨hosz, _⟩, _⟩ := hH.obj b _ r (H.row_get hx) hr
  refine ⟨x, hx, hosz.symm, hn.symm, ?_⟩
  rw [← he, natBeq_eq, natBeq_eq, len_eq, ← hn, ← hosz]
  show (!decide (r.osz = 0) && decide (of + cp * r.osz = r.n)) = _
  by_cases q : r.osz = 0 <;> simp [q]
theorem appOut_in (hE : EnvOk P E) (hH : HRel ρ h W) {elem : TypeId} {b of l sz m cp C : Nat} {A : Addr} {r : RI} {old new OLD NEW : List Value} {h2 : H} {o : Bool} (hrr : ρ b = some r) (hsr : SRel r of l cp A C)
    (hold : srcCells h sz l (.slice (some ⟨b, of, none⟩) l cp) = some old) (ho : openEnd h (some ⟨b, of, none⟩) cp = some o) (hc : consume h elem sz (some ⟨b, of, none⟩) new o = some h2) (hnew : VRels ρ new NEW) (hlen : new.length = m * sz) (hout : ¬ l + m ≤ cp) (hsz : sz ≠ 0) (hroom : l + m ≤ C) :
    ∃ r' W', (Go.storeCells (A.add (l * sz)) NEW 0).run P W = .ok () W' ∧ VRel (ρ.add h.next r') (.slice (some ⟨h2.next, 0, none⟩) (l + m) (l + m)) (.slice (some A) (l + m) C) ∧ HRel (ρ.add h.next r') (newRow h2 elem (app old new) sz) W' ∧ Ext ρ h W (ρ.add h.next r') (newRow h2 elem (app old new) sz) W' := by
  obtain ⟨x, hx, hxo, hxn, hoe⟩ := openEnd_some hH hrr ho
  have hcC : cp < C := by omega
  have hopen : r.osz ≠ 0 ∧ of + cp * r.osz = r.n := by
    unfold SRel at hsr
    split at hsr
    · assumption
    · omega
  have hA := hsr.addr (.inr (by omega))
  have hbound : r.base + of + C * r.osz ≤ r.S := by
    unfold SRel at hsr
    rw [if_pos hopen] at hsr
    rcases hsr.2 with q | q
    · exact q.2
    · omega
  have ho' : o = true := by rw [hoe]; simp [hopen]
  subst ho'
  obtain ⟨x', hx', hc⟩ := bind_some hc
  have hx2 : h.row b = some x' := hx'
  rw [hx] at hx2; cases hx2
  obtain ⟨hcond, hc⟩ := rec_some hc
  cases hc
  simp only [natBeq_eq, Bool.and_eq_true, Bool.not_eq_true', decide_eq_true_eq] at hcond
  obtain ⟨⟨⟨⟨hro, hfrz⟩, hosz⟩, helem⟩, hall⟩ := hcond
  have hget := H.row_get hx
  have hobj := hH.obj b _ r hget hrr
  obtain ⟨D, F, k1, k2, k3, k4, k5, k6, k7⟩ := hobj
  have hone := allOne_mem new hall
  have hOne : ∀ V ∈ NEW, oneCell V = true := by
    intro V hV
    obtain ⟨i, hi⟩ := List.getElem?_of_mem hV
    have hlt : i < new.length := by
      rcases Nat.lt_or_ge i NEW.length with q | q
      · rw [hnew.length]; exact q
      · rw [List.getElem?_eq_none q] at hi; cases hi
    obtain ⟨V', e', hrel⟩ := hnew.get i _ (List.getElem?_eq_getElem hlt)
    rw [hi] at e'; cases e'
    exact hrel.oneCell (hone _ (List.getElem_mem hlt))
  have hro' : r.osz = sz := by rw [← hxo]; exact hosz
  rw [hro'] at hbound hopen
  have hCl : (l + m) * sz ≤ C * sz := Nat.mul_le_mul_right _ hroom
  rw [Nat.add_mul] at hCl
  have hN : NEW.length = m * sz := by rw [← hnew.length, hlen]
  obtain ⟨W', D', hrun, ⟨s1, s2, s3, s4, s5, s6, s7⟩, hsz2, hidx⟩ := run_storeCells (P := P) r.blk x.elem F (r.base + (of + l * sz)) NEW 0 W D k1 (by rw [k2]; omega) (fun j q1 q2 => k7 hro j (by rw [hfrz]; omega) (by omega)) hOne
  -- the old cells
  have hvv : VRel ρ (.slice (some ⟨b, of, none⟩) l cp) (.slice (some A) l C) := .slice _ _ _ _ _ _ _ hrr hsr
  have holdlen : old.length = l * sz ∧ ∀ (i : Nat) (v : Value), old[i]? = some v → x.cs[of + i]? = some v := by
    have hs' : (bif Nat.beq (l * sz) 0 then some [] else loadCells h ⟨b, of, none⟩ (l * sz)) = some old := hold
    rw [natBeq_eq] at hs'
    by_cases hz : l * sz = 0
    · simp only [hz, decide_true, cond_true] at hs'
      cases hs'
      exact ⟨by simp [hz], fun i v e => by simp at e⟩
    · simp only [hz, decide_false, cond_false] at hs'
      obtain ⟨y, hy, ht⟩ := bind_some hs'
      have hy2 : h.row b = some y := hy
      rw [hx] at hy2; cases hy2
      obtain ⟨t1, t2⟩ := takeN_eq _ _ _ ht
      rw [dropN_eq] at t1 t2
      have hof : (⟨b, of, none⟩ : Addr).off = of := rfl
      rw [hof] at t1 t2
      refine ⟨by rw [t1, List.length_take]; omega, fun i v e => ?_⟩
      rw [t1, List.getElem?_take] at e
      split at e
      · rw [List.getElem?_drop] at e; exact e
      · cases e
  obtain ⟨hol, hog⟩ := holdlen
  have hcs : app old new = old ++ new := app_eq _ _
  have hlen2 : (app old new).length = (l + m) * sz := by rw [hcs, List.length_append, hol, hlen, Nat.add_mul]
  let r' : RI := ⟨r.blk, r.base + of, (app old new).length, sz, r.S⟩
  have hnone : ρ h.next = none := by
    cases e : ρ h.next with
    | none => rfl
    | some q => have := (hH.dom _ _ e).1; omega
  have hle := ρ.add_le h.next r' hnone
  have hobj' : ORel (ρ.add h.next r') r' W' (.row ⟨app old new, elem, sz, 0, false⟩) := by
    refine ⟨D', F, ?_, by rw [hsz2]; exact k2, rfl, ⟨rfl, fun q => absurd q hsz⟩, ?_, ?_, ?_⟩
    · rw [← helem]; exact s2
    · show r.base + of + (app old new).length ≤ r.S
      rw [hlen2, Nat.add_mul]; omega
    · intro i v e
      have e2 : (app old new)[i]? = some v := e
      rw [hcs] at e2
      show ∃ V, D'[r.base + of + i]? = some V ∧ _
      rw [hidx]
      by_cases q : i < old.length
      · rw [List.getElem?_append_left q] at e2
        rw [if_neg (by omega)]
        obtain ⟨V, hV, hvr⟩ := k6 _ _ (hog i v e2)
        exact ⟨V, by rw [Nat.add_assoc]; exact hV, hvr.mono hle⟩
      · rw [List.getElem?_append_right (by omega)] at e2
        obtain ⟨V, hV, hvr⟩ := hnew.get _ _ e2
        have hlt : i - old.length < NEW.length := by
          rcases Nat.lt_or_ge (i - old.length) NEW.length with g | g
          · exact g
          · rw [List.getElem?_eq_none g] at hV; cases hV
        rw [if_pos (by omega)]
        refine ⟨V, ?_, hvr.mono hle⟩
        rw [← hV]; congr 1; omega
    · intro _ j q1 q2
      exact k7 hro j (by rw [hfrz]; simp only [r'] at q1; omega) (by rw [hosz]; exact q2)
  refine ⟨r', W', ?_, ?_, ?_, ?_⟩
  · rw [hA, addr_add, Nat.add_assoc]; exact hrun
  · have hn : (h.del b).next = h.next := rfl
    refine .slice _ _ _ _ _ _ r' (Rho.add_same _ _ _) ?_
    unfold SRel
    rw [if_pos ⟨hsz, by show 0 + (l + m) * sz = (app old new).length; omega⟩]
    refine ⟨hroom, .inl ⟨by rw [hA]; rfl, ?_⟩⟩
    show r.base + of + 0 + C * sz ≤ r.S
    omega
  · exact HRel.adopt hH b _ _ r r' hget (by show x.ro = false; exact hro) rfl hrr rfl s3 s4 hobj'
  · exact Ext.adopt hH b _ _ r r' hget (by show x.ro = false; exact hro) hrr rfl s3 s4 s5 s6 s7
theorem appOut_out (hE : EnvOk P E) (hH : HRel ρ h W) {elem : TypeId} {base : Option Addr} {B : Option Addr} {l sz m cp C : Nat} {old new OLD NEW : List Value} {h2 : H} {o : Bool} {z : List Value} {zv : Value} (hold : VRels ρ old OLD) (hol : old.length = l * sz)
    (hc : consume h elem sz base new o = some h2) (hnew : VRels ρ new NEW) (hlen : new.length = m * sz) (hsz : sz ≠ 0) (hz : zv.cells.size = sz) {G : Nat} (hG : l + m ≤ G) :
    ∃ ρ', VRel ρ' (.slice (some ⟨h2.next, 0, none⟩) (l + m) (l + m)) (.slice (some ⟨W.heap.size, 0, none⟩) (l + m) G) ∧ HRel ρ' (newRow h2 elem (app old new) sz) (W.drew.alloc (.cells (OLD.toArray ++ NEW.toArray ++ Builtin.zeroCells zv.cells (G - (l + m))) elem))
      ∧ Ext ρ h W ρ' (newRow h2 elem (app old new) sz) (W.drew.alloc (.cells (OLD.toArray ++ NEW.toArray ++ Builtin.zeroCells zv.cells (G - (l + m))) elem)) := by
  have h2ok : HRel ρ h2 W ∧ Ext ρ h W ρ h2 W := by
    cases o with
    | false => cases hc; exact ⟨hH, Ext.refl _ _ _⟩
    | true =>
      cases base with
      | none => cases hc
      | some ad =>
        obtain ⟨x', hx', hc⟩ := bind_some hc
        obtain ⟨_, hc⟩ := rec_some hc
        cases hc
        exact ⟨hH.del _, Ext.del hH _⟩
  obtain ⟨hH2, hX2⟩ := h2ok
  have hH3 : HRel ρ h2 W.drew := hH2.drew rfl
  have hX3 : Ext ρ h2 W ρ h2 W.drew := Ext.drew rfl rfl rfl rfl
  have hcs : app old new = old ++ new := app_eq _ _
  have hlen2 : (app old new).length = (l + m) * sz := by rw [hcs, List.length_append, hol, hlen, Nat.add_mul]
  have hzs : (Builtin.zeroCells zv.cells (G - (l + m))).size = (G - (l + m)) * sz := by simp [Builtin.zeroCells, hz]
  have hsize : (OLD.toArray ++ NEW.toArray ++ Builtin.zeroCells zv.cells (G - (l + m))).size = G * sz := by
    rw [Array.size_append, Array.size_append, hzs, List.size_toArray, List.size_toArray, ← hold.length, ← hnew.length, hol, hlen, ← Nat.add_mul, ← Nat.add_mul]
    congr 1; omega
  have hGle : (l + m) * sz ≤ G * sz := Nat.mul_le_mul_right _ hG
  have hrel : VRels ρ (old ++ new) (OLD ++ NEW) := hold.append hnew
  obtain ⟨k1, k2⟩ := row_new (e := elem) (osz := sz) (c := app old new) (C := OLD.toArray ++ NEW.toArray ++ Builtin.zeroCells zv.cells (G - (l + m))) (W' := W.drew.alloc (.cells (OLD.toArray ++ NEW.toArray ++ Builtin.zeroCells zv.cells (G - (l + m))) elem)) hH3 (by rw [hsize, hlen2]; exact hGle) (by
    intro i v e
    rw [hcs] at e
    obtain ⟨V, hV, hvr⟩ := hrel.get i v e
    refine ⟨V, ?_, hvr⟩
    have hlt : i < (OLD ++ NEW).length := by
      rcases Nat.lt_or_ge i (OLD ++ NEW).length with g | g
      · exact g
      · rw [List.getElem?_eq_none g] at hV; cases hV
    rw [Array.getElem?_append_left (by simpa using hlt)]
    simpa using hV) (noF _) rfl rfl rfl rfl
  refine ⟨_, ?_, k1, hX2.trans (hX3.trans k2)⟩
  refine .slice _ _ _ _ _ _ _ (Rho.add_same _ _ _) ?_
  unfold SRel
  rw [if_pos ⟨hsz, by show 0 + (l + m) * sz = (app old new).length; omega⟩]
  refine ⟨hG, .inl ⟨rfl, ?_⟩⟩
  show 0 + 0 + G * sz ≤ (OLD.toArray ++ NEW.toArray ++ Builtin.zeroCells zv.cells (G - (l + m))).size
  rw [hsize]; omega
theorem append_sound (hE : EnvOk P E) (hH : HRel ρ h W) (ats : Array TypeId) (ty st : TypeId) (hst : nthA ats.toList 0 = some st) {s x S X : Value} (hs : VRel ρ s S) (hx : VRel ρ x X) {v : Value} {h' : H} (hr : append E h st (nthA ats.toList 1) s x = some (.val v h')) :
    ∃ ρ' W' V, (Builtin.append_ ats ty #[S, X]).run P W = .ok V W' ∧ VRel ρ' v V ∧ HRel ρ' h' W' ∧ Ext ρ h W ρ' h' W' := by
  rw [nthA_eq, Array.getElem?_toList] at hst
  rw [nthA_eq, Array.getElem?_toList] at hr
  obtain ⟨u, hu, hr⟩ := bind_some hr
  have hU := hE.underP hu
  split at hr
  · rename_i elem base l cp hcp
    obtain ⟨sz, hsz, hr1⟩ := bind_some hr
    obtain ⟨zs, hzs, hr2⟩ := bind_some hr1
    clear hr hr1 hcp
    cases zs with
    | true => cases hr2
    | false =>
      have hr3 : ((lenOf x).bind fun m => (srcCells h sz m x).bind fun new =>
        Bool.rec (motive := fun _ => Option R) (appOut E h elem base l sz m cp (.slice base l cp) new) (appIn h base l sz m cp new) (Nat.ble (l + m) cp)) = some (.val v h') := hr2
      clear hr2
      obtain ⟨m, hm, hr4⟩ := bind_some hr3
      obtain ⟨new, hnw, hr5⟩ := bind_some hr4
      clear hr3 hr4
      have hxt : ∀ t, ats[1]? = some t → ∃ d, P.underlying t = some d ∧ isIntD d = false := by
        intro t ht
        rw [ht] at hzs
        obtain ⟨d, hd, hi⟩ := map_some hzs
        exact ⟨d, hE.underP hd, hi⟩
      have hl := lenOf_sound (P := P) hm hx W
      obtain ⟨NEW, hfn, hnew, hlen⟩ := src_sound (P := P) hH hx hm (Nat.le_refl m) hnw
      obtain ⟨BB, CC, hS⟩ : ∃ B C, S = .slice B l C := by
        rcases lenOf_rel (x := .slice base l cp) (L := l) rfl hs with ⟨B, C, e⟩ | ⟨s', e, _⟩
        · exact ⟨B, C, e⟩
        · subst e; cases hs
      subst hS
      rw [natBle_eq] at hr5
      by_cases hroom : l + m ≤ cp
      · simp only [hroom, decide_true] at hr5
        obtain ⟨hcC, W', hW', k1, k2, k3⟩ := appIn_sound (P := P) hH hs hnew hlen hroom hr5
        exact ⟨ρ, W', _, run_append_in hst hU (hE.size hsz W) hxt rfl hl hfn (by omega) hW', k1, k2, k3⟩
      · simp only [hroom, decide_false] at hr5
        obtain ⟨i, hi, hr6⟩ := bind_some hr5
        obtain ⟨z, hz, hr7⟩ := bind_some hr6
        obtain ⟨hcond, hr8⟩ := rec_some hr7
        obtain ⟨old, hold, hr9⟩ := bind_some hr8
        obtain ⟨oo, ho, hr10⟩ := bind_some hr9
        obtain ⟨h2, hc, hr11⟩ := bind_some hr10
        cases hr11
        clear hr5 hr6 hr7 hr8 hr9 hr10
        simp only [natBeq_eq, natBle_eq, len_eq, Bool.and_eq_true, Bool.not_eq_true', decide_eq_true_eq, decide_eq_false_iff_not] at hcond
        obtain ⟨⟨⟨hfit, h63⟩, hzl⟩, hsz0⟩ := hcond
        obtain ⟨i', j, zv, hi', hj, hjs, hjb, hjz, hzc, hzr⟩ := hE.zinfo hz
        rw [hi] at hi'; cases hi'
        have hisz : i.size = sz := by
          obtain ⟨i2, hi2, hs'⟩ := bind_some hsz
          rw [show E.types.get elem = some i from hi] at hi2; cases hi2; cases hs'; rfl
        by_cases hconc : l + m ≤ CC
        · cases hs with
          | snil => exact absurd hconc hroom
          | slice b of _ _ A _ r hrr hsr =>
            obtain ⟨r', W', k0, k1, k2, k3⟩ := appOut_in (P := P) (OLD := []) hE hH hrr hsr hold ho hc hnew hlen hroom hsz0 hconc
            exact ⟨_, W', _, run_append_in hst hU (hE.size hsz W) hxt rfl hl hfn hconc k0, k1, k2, k3⟩
        · have hH3 : HRel ρ h W.drew := hH.drew rfl
          obtain ⟨OLD, hfo, hro, hlo⟩ := src_sound (P := P) hH3 hs (L := l) rfl (Nat.le_refl l) hold
          obtain ⟨NEW2, hfn2, hnew2, _⟩ := src_sound (P := P) hH3 hx hm (Nat.le_refl m) hnw
          have hzz : zv.cells.size = sz := by rw [← hzl, ← hzc, Array.length_toList]
          have hns : Builtin.nextslicecap (l + m) CC * j.bytes ≤ 281474976710656 := by
            have h1 : Builtin.nextslicecap (l + m) CC * j.bytes ≤ 2 * (l + m) * j.bytes := Nat.mul_le_mul_right _ (nextslicecap_le (by omega))
            have h2 : 2 * (l + m) * j.bytes ≤ (l + m + 64) * 4 * j.bytes := Nat.mul_le_mul_right _ (by omega)
            rw [hjb] at *
            omega
          obtain ⟨ρ', k1, k2, k3⟩ := appOut_out (P := P) (B := none) (C := 0) (cp := cp) (z := z) (G := grownCap W (l + m) CC elem) hE hH hro hlo hc hnew2 hlen hsz0 hzz (grownCap_ge _ _ _ _)
          exact ⟨ρ', _, _, run_append_out hst hU hj (hjs.trans hisz) hjz hxt rfl hl hfo hfn2 hconc h63 hns, k1, k2, k3⟩
  · cases hr
end Go.X
