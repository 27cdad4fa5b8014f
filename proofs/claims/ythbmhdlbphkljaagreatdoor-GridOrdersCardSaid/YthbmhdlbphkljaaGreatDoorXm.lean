/- A part of the evaluator of the model, and of the proof that what it answers is what a call comes to. No conditions of its own. -/
import Derived.Test.YthbmhdlbphkljaaGreatDoorXl
import Derived.Laws.Append
namespace Go.X
open Go
variable {P : Program} {E : Env}
variable {ρ : Rho} {h : H} {W : World} {a c : Operand → Value} {o : Oper}

theorem lenOf_sound {x X : Value} {L : Nat} (hL : lenOf x = some L) (hx : VRel ρ x X) (W : World) : (Builtin.lenOf X).run P W = .ok L W := by
  cases hx <;> first | (cases hL; done) | skip
  all_goals (cases hL; simp [Builtin.lenOf, Sem.run_pure, len_eq])
theorem src_sound (hH : HRel ρ h W) {sz n L : Nat} {x X : Value} {cs : List Value} (hx : VRel ρ x X) (hL : lenOf x = some L) (hn : n ≤ L) (hs : srcCells h sz n x = some cs) :
    ∃ NEW : List Value, (Builtin.firstCells sz n X).run P W = .ok NEW.toArray W ∧ VRels ρ cs NEW ∧ cs.length = n * sz := by
  cases hx <;> first | (cases hL; done) | skip
  case string s =>
    obtain ⟨hb, hv⟩ := bif_some hs
    rw [natBeq_eq, decide_eq_true_eq] at hb
    cases hv; cases hL
    rw [len_eq] at hn
    rw [takeB_eq, byteVals_eq]
    refine ⟨(s.data.toList.take n).map fun b => Value.int .u8 b.toNat, ?_, ?_, ?_⟩
    · have e : s = ByteArray.mk s.data.toList.toArray := by cases s; rfl
      have e2 : s.extract 0 n = ByteArray.mk (s.data.toList.take n).toArray := by
        conv => lhs; rw [e]
        rw [ByteArray.extract_mk]; simp
      simp only [Builtin.firstCells, e2, Sem.run_pure]
      simp
    · refine VRels.of_get rfl ?_
      intro i v hv
      refine ⟨v, hv, ?_⟩
      rw [List.getElem?_map] at hv
      obtain ⟨b, _, rfl⟩ := Option.map_eq_some_iff.1 hv
      exact .int _ _
    · rw [List.length_map, List.length_take, Nat.min_eq_left hn, hb]; omega
  case snil l cc =>
    obtain ⟨hb, hv⟩ := bif_some hs
    rw [natBeq_eq, decide_eq_true_eq] at hb
    cases hv
    refine ⟨[], by simp [Builtin.firstCells], .nil, by simp [hb]⟩
  case slice b of l cc A C r hr hsr =>
    cases hL
    have hs' : (bif Nat.beq (n * sz) 0 then some [] else loadCells h ⟨b, of, none⟩ (n * sz)) = some cs := hs
    rw [natBeq_eq] at hs'
    by_cases hz : n * sz = 0
    · simp [hz] at hs'
      subst hs'
      refine ⟨[], ?_, .nil, by simp [hz]⟩
      simp [Builtin.firstCells, hz, Go.loadCells, loadCellsFrom, Sem.run_pure]
    · simp [hz] at hs'
      have hn0 : n ≠ 0 := fun q => hz (by rw [q]; simp)
      have hA : A = ⟨r.blk, r.base + of, none⟩ := by
        unfold SRel at hsr
        split at hsr
        · rcases hsr.2 with hh | hh
          · exact hh.1
          · omega
        · exact hsr.1
      subst hA
      obtain ⟨LL, hLL, hrel, hcell⟩ := hH.cells hr hs'
      refine ⟨LL, ?_, hrel, by rw [hrel.length, hLL]⟩
      simp only [Builtin.firstCells]
      rw [← hLL]
      exact run_loadCells _ LL (fun j V e => by rw [addr_add]; exact hcell j V e)
theorem lenOf_rel {x X : Value} {L : Nat} (hL : lenOf x = some L) (hx : VRel ρ x X) : (∃ A C, X = .slice A L C) ∨ ∃ s, X = .string s ∧ s.size = L := by
  cases hx <;> first | (cases hL; done) | skip
  · cases hL; exact .inr ⟨_, rfl, by rw [len_eq]; rfl⟩
  · cases hL; exact .inl ⟨_, _, rfl⟩
  · cases hL; exact .inl ⟨_, _, rfl⟩
theorem storeCells_nil (A : Addr) (i : Nat) (W : World) : (Go.storeCells A [] i).run P W = .ok () W := by simp [Go.storeCells, Sem.run_pure]

theorem copyV_sound (hE : EnvOk P E) (hH : HRel ρ h W) (ats : Array TypeId) (ty st : TypeId) (hst : nthA ats.toList 0 = some st) {d s D S : Value} (hd : VRel ρ d D) (hs : VRel ρ s S) {v : Value} {h' : H} (hr : copyV E h st d s = some (.val v h')) :
    ∃ W', (Builtin.copy_ ats ty #[D, S]).run P W = .ok v W' ∧ VRel ρ v v ∧ HRel ρ h' W' ∧ Ext ρ h W ρ h' W' := by
  rw [nthA_eq, Array.getElem?_toList] at hst
  obtain ⟨u, hu, hr⟩ := bind_some hr
  have hU := hE.underP hu
  split at hr
  · rename_i elem base dl dc hcp
    obtain ⟨sz, hsz, hr1⟩ := bind_some hr
    obtain ⟨sl, hsl, hr2⟩ := bind_some hr1
    obtain ⟨cs, hcs, hr3⟩ := bind_some hr2
    clear hr hr1 hr2
    have hl := lenOf_sound (P := P) hsl hs W
    obtain ⟨NEW, hnew, hrel, hlen⟩ := src_sound (P := P) hH hs hsl (Nat.min_le_left sl dl) hcs
    have head : ∀ (B : Option Addr) (DC : Nat), D = .slice B dl DC → ∀ (W' : World), (match B with | some a => Go.storeCells a NEW 0 | none => pure ()).run P W = .ok () W' → (Builtin.copy_ ats ty #[D, S]).run P W = .ok (.int .i64 (Nat.min sl dl : Nat)) W' := by
      intro B DC hB W' hW'
      subst hB
      cases B with
      | none =>
        have : W' = W := by simp [Sem.run_pure] at hW'; exact hW'.symm
        subst this
        simp [Builtin.copy_, hst, run_under hU, hl, hE.size hsz, hnew, goInt]
      | some A =>
        have hW'' : (Go.storeCells A NEW 0).run P W = .ok () W' := hW'
        simp [Builtin.copy_, hst, run_under hU, hl, hE.size hsz, hnew, goInt, hW'']
    split at hr3
    · rename_i ad
      cases hd with
      | slice b of _ _ A C r hrr hsr =>
        rw [natBeq_eq] at hr3
        by_cases hz : Nat.min sl dl * sz = 0
        · simp only [hz, decide_true, cond_true] at hr3
          cases hr3
          have hN : NEW = [] := List.eq_nil_of_length_eq_zero (by rw [← hrel.length, hlen, hz])
          subst hN
          exact ⟨W, head _ _ rfl W (storeCells_nil _ _ _), .int _ _, hH, Ext.refl _ _ _⟩
        · simp only [hz, decide_false, cond_false] at hr3
          obtain ⟨h2, hh2, hv⟩ := map_some hr3
          cases hv
          have hdl : dl ≠ 0 := fun q => hz (by rw [q]; simp [Nat.min_zero])
          have hA : A = ⟨r.blk, r.base + of, none⟩ := by
            unfold SRel at hsr
            split at hsr
            · rcases hsr.2 with hh | hh
              · exact hh.1
              · omega
            · exact hsr.1
          subst hA
          obtain ⟨W', k1, k2, k3⟩ := hH.store (P := P) hrr hh2 hrel
          exact ⟨W', head _ _ rfl W' k1, .int _ _, k2, k3⟩
    · cases hr3
      cases hd with
      | snil => exact ⟨W, head _ _ rfl W rfl, .int _ _, hH, Ext.refl _ _ _⟩
  · cases hr
theorem HRel.del (hH : HRel ρ h W) (b : Nat) : HRel ρ (h.del b) W := by
  have hg : ∀ c x, (h.del b).get c = some x → h.get c = some x ∧ c ≠ b := by
    intro c x e
    rw [H.get_del] at e
    by_cases q : c = b
    · rw [if_pos q] at e; cases e
    · rw [if_neg q] at e; exact ⟨e, q⟩
  refine ⟨fun c x r e1 e2 => hH.obj c x r (hg c x e1).1 e2, fun c c' x x' r r' e e' f f' q q' => hH.inj c c' x x' r r' (hg c x e).1 (hg c' x' e').1 f f' q q', hH.dom, fun c hc => ?_⟩
  rw [H.get_del]
  split
  · rfl
  · exact hH.fresh c hc
theorem Ext.del (hH : HRel ρ h W) (b : Nat) : Ext ρ h W ρ (h.del b) W := by
  refine ⟨ρ.le_refl, Nat.le_refl _, rfl, rfl, rfl, fun _ _ _ => rfl, ?_, Nat.le_refl _, fun _ _ => rfl⟩
  intro c x r e1 e2 e3 _
  rw [H.get_del] at e1
  by_cases q : c = b
  · rw [if_pos q] at e1; cases e1
  · rw [if_neg q] at e1; exact ⟨c, x, r, e1, e2, e3, rfl⟩
/-- a row that goes on in its own block -/
theorem HRel.adopt {W' : World} (hH : HRel ρ h W) (b : Nat) (x x' : AObj) (r r' : RI) (hx : h.get b = some x) (hro : roB x = false) (hro' : roB x' = false) (hr : ρ b = some r) (hb : r'.blk = r.blk)
    (hs : W'.heap.size = W.heap.size) (hk : ∀ B, B ≠ r.blk → W'.heap[B]? = W.heap[B]?) (ho : ORel (ρ.add h.next r') r' W' x') : HRel (ρ.add h.next r') ((h.del b).new x') W' := by
  have hnone : ρ h.next = none := by
    cases e : ρ h.next with
    | none => rfl
    | some q => have := (hH.dom _ _ e).1; omega
  have hle := ρ.add_le h.next r' hnone
  have hdom := hH.dom b r hr
  have hg : ∀ c y, ((h.del b).new x').get c = some y → (c = h.next ∧ y = x') ∨ (c ≠ h.next ∧ c ≠ b ∧ h.get c = some y) := by
    intro c y e
    rw [H.get_new, H.next_del, H.get_del] at e
    by_cases q : c = h.next
    · rw [if_pos q] at e; cases e; exact .inl ⟨q, rfl⟩
    · rw [if_neg q] at e
      by_cases q2 : c = b
      · rw [if_pos q2] at e; cases e
      · rw [if_neg q2] at e; exact .inr ⟨q, q2, e⟩
  have hρ : ∀ c, c ≠ h.next → (ρ.add h.next r') c = ρ c := fun c q => if_neg q
  refine ⟨?_, ?_, ?_, ?_⟩
  · intro c y q e1 e2
    rcases hg c y e1 with ⟨rfl, rfl⟩ | ⟨n1, n2, e⟩
    · rw [Rho.add_same] at e2; cases e2; exact ho
    · rw [hρ c n1] at e2
      exact (hH.obj c y q e e2).mono hle (hk _ (hH.inj c b y x q r e hx e2 hr n2 (by rw [hro]; simp)))
  · intro c c' y y' q q' e1 e1' e2 e2' hne hro2
    rcases hg c y e1 with ⟨rfl, rfl⟩ | ⟨n1, n2, e⟩
    · rcases hg c' y' e1' with ⟨rfl, rfl⟩ | ⟨n1', n2', e'⟩
      · exact absurd rfl hne
      · rw [Rho.add_same] at e2; cases e2
        rw [hρ c' n1'] at e2'
        rw [hb]
        exact hH.inj b c' x y' r q' hx e' hr e2' n2'.symm (by rw [hro]; rfl)
    · rw [hρ c n1] at e2
      rcases hg c' y' e1' with ⟨rfl, rfl⟩ | ⟨n1', n2', e'⟩
      · rw [Rho.add_same] at e2'; cases e2'
        rw [hb]
        exact hH.inj c b y x q r e hx e2 hr n2 (by rw [hro]; simp)
      · rw [hρ c' n1'] at e2'
        exact hH.inj c c' y y' q q' e e' e2 e2' hne hro2
  · intro c q e
    rw [H.next_new, H.next_del, hs]
    by_cases qc : c = h.next
    · subst qc; rw [Rho.add_same] at e; cases e
      rw [hb]; omega
    · rw [hρ c qc] at e
      have := hH.dom c q e; omega
  · intro c hc
    rw [H.next_new, H.next_del] at hc
    rw [H.get_new, H.next_del, if_neg (by omega), H.get_del]
    split
    · rfl
    · exact hH.fresh c (by omega)
theorem Ext.adopt {W' : World} (hH : HRel ρ h W) (b : Nat) (x x' : AObj) (r r' : RI) (hx : h.get b = some x) (hro : roB x = false) (hr : ρ b = some r) (hb : r'.blk = r.blk)
    (hs : W'.heap.size = W.heap.size) (hk : ∀ B, B ≠ r.blk → W'.heap[B]? = W.heap[B]?) (h1 : W'.os = W.os) (h2 : W'.tape = W.tape) (h3 : W'.output = W.output) : Ext ρ h W (ρ.add h.next r') ((h.del b).new x') W' := by
  have hnone : ρ h.next = none := by
    cases e : ρ h.next with
    | none => rfl
    | some q => have := (hH.dom _ _ e).1; omega
  refine ⟨ρ.add_le h.next r' hnone, by omega, h1, h2, h3, ?_, ?_, by rw [H.next_new, H.next_del]; omega, ?_⟩
  · intro B _ hn; exact hk B (fun e => hn b x r hx hro hr e.symm)
  · intro c y q e1 e2 e3 _
    rw [H.get_new, H.next_del, H.get_del] at e1
    by_cases qc : c = h.next
    · subst qc
      rw [Rho.add_same] at e3; cases e3
      exact ⟨b, x, r, hx, hro, hr, hb.symm⟩
    · rw [if_neg qc] at e1
      have : (ρ.add h.next r') c = ρ c := if_neg qc
      rw [this] at e3
      by_cases q2 : c = b
      · rw [if_pos q2] at e1; cases e1
      · rw [if_neg q2] at e1; exact ⟨c, y, q, e1, e2, e3, rfl⟩
  · intro c hc; exact if_neg (by omega)
end Go.X
