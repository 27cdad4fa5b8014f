/- A part of the evaluator of the model, and of the proof that what it answers is what a call comes to. No conditions of its own. -/
import Derived.Test.YthbmhdlbphkljaaGreatDoorXv
namespace Go.X
open Go
variable {P : Program} {E : Env}

theorem exec_region {n : Nat} (B : Below P E n) {R : Option Nat} {fn : FuncId} {id : Nat} {ops : Array Oper} {st : St} {ans : Ans} (hr : run E (n + 1) (.exec R fn (.region id ops false) st) = some ans) : SoundExec P R (.region id ops false) st ans := by
  obtain ⟨st', he, hw⟩ := B.region _ _ _ _ (show run E n (.region ops ops.toList st) = some ans from hr)
  exact ⟨.normal, st', he, fun rr base ρ a W _ _ hT hH hM => from_of (fun _ q => by cases q) (wpIn_region_list (hw rr base ρ st.h W ρ a W hT hH (Ext.refl _ _ _) hM))⟩
theorem exec_drawnW (hE : EnvOk P E) {id : Nat} {ops : Array Oper} {t : B} {h : H} {ps : List Nat} {h1 : H} {al : List (Nat × Nat)} (hps : drawOk E ops.toList = some ps) (hq : layAhead E ops.toList 0 h [] = some (h1, al)) {K : B → H → Prop}
    (hTr : SoundDrawn P E ops ps ops.toList 0 al [] [] t h1 K) {rr : Option Nat} {base : Nat} {ρ : Rho} {a : Act} {W : World} (hT : TRel ρ t a.tmps) (hH : HRel ρ h W) (hM : Marks base ρ h W a.defers) :
    From rr P (entry (.region id ops true)) (fun e a' W' => ∃ t' h', K t' h' ∧ e = exitOf .normal ∧ a'.tmps.size = a.tmps.size ∧ ∃ ρ', TRel ρ' t' a'.tmps ∧ HRel ρ' h' W' ∧ Ext ρ h W ρ' h' W' ∧ Marks base ρ' h' W' a'.defers) a W := by
  obtain ⟨mem, ⟨T1, hm1⟩, hmem, hheavy⟩ := hTr
  obtain ⟨F, hp⟩ := drawFacts hps
  obtain ⟨l1, l2, l3, l4⟩ := layAhead_ok ops.toList h.next 0 h [] h1 al hq (Nat.le_refl _) ⟨fun j b e => (by cases e), fun j j' b e => (by cases e)⟩ hH.fresh
  have hG0 : ∀ T, mem T → T.Gt 0 = h1 := fun T hm => (hmem T hm).1.2.1
  have hB0 : ∀ T, mem T → T.Bt 0 = t := fun T hm => (hmem T hm).1.1
  have S : ∀ T, mem T → Sched P E ops ps al T a.tmps.size h.next := by
    intro T hm
    refine ⟨F, ?_, by rw [hB0 T hm]; exact hT.1, ?_⟩
    · rw [hG0 T hm]; simpa using l4
    · intro k o ho
      obtain ⟨p, p1, p2, p3, p4⟩ := (hmem T hm).1.2.2 k o (Nat.zero_le _) (by rw [Nat.sub_zero, Array.getElem?_toList]; exact ho)
      refine ⟨p, p1, p2, fun w c j oj j1 j2 => (p3 w c).2 j oj (Nat.zero_le _) j1 (by rw [Nat.sub_zero, Array.getElem?_toList]; exact j2), fun w c j oj j1 j2 => (p4 w c).2 j oj (Nat.zero_le _) j1 (by rw [Nat.sub_zero, Array.getElem?_toList]; exact j2)⟩
  have FM : Fam P E ops ps al mem a.tmps.size h.next := ⟨S, fun T hm k o ho => hheavy T hm k o (Nat.zero_le _) (by rw [Nat.sub_zero, Array.getElem?_toList]; exact ho)⟩
  -- the heap laid ahead
  have hH1 : HRel ρ h1 W := by
    refine ⟨?_, ?_, ?_, l3⟩
    · intro b x r e1 e2
      have := (hH.dom b r e2).1
      rw [l2 b this] at e1
      exact hH.obj b x r e1 e2
    · intro b b' x x' r r' e1 e1' e2 e2'
      rw [l2 b (hH.dom b r e2).1] at e1
      rw [l2 b' (hH.dom b' r' e2').1] at e1'
      exact hH.inj b b' x x' r r' e1 e1' e2 e2'
    · intro b r e; have := hH.dom b r e; omega
  have hX1 : Ext ρ h W ρ h1 W := by
    refine ⟨ρ.le_refl, Nat.le_refl _, rfl, rfl, rfl, fun _ _ _ => rfl, ?_, l1, fun _ _ => rfl⟩
    intro b x r e1 e2 e3 _
    rw [l2 b (hH.dom b r e3).1] at e1
    exact ⟨b, x, r, e1, e2, e3, rfl⟩
  have hHd : HRel ρ h1 { W with drawn := W.drawn + 1 } := hH1.drew rfl
  have hXd : Ext ρ h W ρ h1 { W with drawn := W.drawn + 1 } := hX1.trans (Ext.drew rfl rfl rfl rfl)
  refine from_of (fun _ q => by cases q) (wpIn_region_any hE.mixed ?_)
  have hlen : ops.toList.length = ops.size := Array.length_toList
  have hno : ∀ i, ¬ (Array.replicate ops.size false).getD i false = true := by
    intro i hl'
    rw [Array.getD_eq_getD_getElem?, Array.getElem?_replicate] at hl'
    split at hl' <;> cases hl'
  refine FM.any hE (ρ0 := ρ) (h0 := h) (W0 := W) (D := a.defers) (Nat.le_refl _) ?_ ops.size (Array.replicate ops.size false) a _ (by simp) ?_ ?_
  · intro a' w' I
    obtain ⟨ρ', k, T, hm, hk1, hH', hX', _, _, hall⟩ := I.rest
    have hti := hall T hm (agree.refl _ _ _)
    have eG : T.Gt (0 + ops.toList.length) = T.Gt k := by
      rw [hlen, Nat.zero_add, (S T hm).gconst ops.size hk1 (Nat.le_refl _) (fun j h1 h2 hj => by have := hti.behind j hj h2; omega)]
    refine ⟨_, _, (hmem T hm).2, rfl, by rw [I.tsize], ρ', ⟨?_, fun t => ?_⟩, ?_, ?_, ?_⟩
    · rw [I.tsize]
      have := (S T hm).szB ops.size (Nat.le_refl _)
      simpa [hlen] using this
    · obtain ⟨j, hj, hv, j1, j2⟩ := hti.tmps t
      have : (T.Bt ops.size).get t = (T.Bt j).get t := by
        refine (S T hm).bconst ops.size hj (Nat.le_refl _) ?_
        intro x ox hx1 hx2 hox hd
        have := j1 x ox hox hd hx2
        omega
      show VRel ρ' ((T.Bt (0 + ops.toList.length)).get t) _
      rw [hlen, Nat.zero_add, this]; exact hv
    · rw [eG]; exact hH'
    · rw [eG]; exact hX'
    · rw [eG, I.defers]; exact hM.ext hX'
  · have : ((Array.replicate ops.size false).toList.filter (! ·)) = List.replicate ops.size false := by simp
    rw [this]; simp
  · refine ⟨fun i o hl => absurd hl (hno i), rfl, ⟨ρ, 0, T1, hm1, Nat.zero_le _, by rw [hG0 T1 hm1]; exact hHd, by rw [hG0 T1 hm1]; exact hXd, Nat.le_refl _, ?_, fun T hm _ => ⟨fun t => ⟨0, Nat.zero_le _, ?_, fun i o _ _ hl => absurd hl (hno i), fun _ _ _ _ _ => Nat.zero_le _⟩, fun j _ hl => absurd hl (hno j), fun _ _ _ => Nat.zero_le _⟩⟩, rfl⟩
    · intro i b e _
      have hb := (l4.range i b e).1
      cases q : ρ b with
      | none => rfl
      | some r => have := (hH.dom b r q).1; omega
    · rw [hB0 T hm]; exact hT.2 t
theorem exec_drawn (hE : EnvOk P E) {R : Option Nat} {id : Nat} {ops : Array Oper} {st : St} {ans : Ans} {ps : List Nat} {h1 : H} {al : List (Nat × Nat)} (hps : drawOk E ops.toList = some ps) (hq : layAhead E ops.toList 0 st.h [] = some (h1, al))
    (hTr : SoundDrawn P E ops ps ops.toList 0 al [] [] st.tmps h1 fun t' h' => ans = .a .normal ⟨t', st.defs, h'⟩) : SoundExec P R (.region id ops true) st ans := by
  obtain ⟨t', h', ha⟩ : ∃ t' h', ans = .a .normal ⟨t', st.defs, h'⟩ := by
    obtain ⟨mem, ⟨T, hm⟩, h2, _⟩ := hTr
    exact ⟨_, _, (h2 T hm).2⟩
  refine ⟨.normal, _, ha, fun rr base ρ a W _ _ hT hH hM => (exec_drawnW hE hps hq hTr hT hH hM).mono ?_⟩
  rintro e a' W' ⟨t2, h2, e2, rfl, _, ρ', k⟩
  rw [ha] at e2; cases e2
  exact ⟨rfl, ρ', k⟩
theorem exec_draw (hE : EnvOk P E) {R : Option Nat} {n : Nat} (B : ∀ m, m ≤ n → Below P E m) {fn : FuncId} {id : Nat} {ops : Array Oper} {st : St} {ans : Ans} (hr : run E (n + 1) (.exec R fn (.region id ops true) st) = some ans) : SoundExec P R (.region id ops true) st ans := by
  have hr' : drawnStart E (run E n) ops st = some ans := hr
  obtain ⟨ps, hps, hr2⟩ := bind_some hr'
  obtain ⟨q, hq, hr3⟩ := bind_some hr2
  obtain ⟨h1, al⟩ := q
  exact exec_drawn hE hps hq (drawn_trace (P := P) hE hps ops.toList n 0 [] [] _ ans (fun m hm => (B m (by omega)).call) (fun m hm => (B m (by omega)).round) hr3)
theorem below (hE : EnvOk P E) (hX : ∀ f, findX f E.xs ≠ some 3) (n : Nat) : Below P E n := by
  induction n using Nat.strongRecOn with
  | _ n ih =>
    cases n with
    | zero => exact ⟨fun _ _ _ _ _ h => (by cases h), fun _ _ _ _ _ _ h => (by cases h), fun _ _ _ _ h => (by cases h), fun _ _ _ _ h => (by cases h), fun _ _ _ _ h => (by cases h)⟩
    | succ n =>
      have B := ih n (Nat.lt_succ_self n)
      refine ⟨?_, fun R fn b c st ans h => scope_sound B h, fun ops rest st ans h => region_sound hE B.call B.round B.region h, fun f args h ans hr => call_sound hE hX B hr, fun l args h ans hr => round_sound B hr⟩
      intro R fn c st ans h
      cases c with
      | skip => cases h; exact exec_flat .normal (fun rr Q a w q => wpIn_skip q) (fun b q => (by cases q))
      | region id ops draw =>
        cases draw with
        | false => exact exec_region B h
        | true => exact exec_draw hE (fun m hm => ih m (by omega)) h
      | seq x y => exact exec_seq B h
      | cond c x y => exact exec_cond B h
      | block id x => exact exec_block B h
      | loop x => exact exec_loop B h
      | rangeFunc f ps as bd =>
        cases R with
        | none => exact exec_range hE B h
        | some l => cases h
      | exit id => cases h; exact exec_flat (.exit id) (fun rr Q a w q => wpIn_exit q) (fun b q => (by cases q))
      | scope x => exact exec_scope B h
      | label l => cases h; exact exec_flat .normal (fun rr Q a w q => wpIn_label q) (fun b q => (by cases q))
      | goto l => cases h; exact exec_flat (.goto l) (fun rr Q a w q => wpIn_goto q) (fun b q => (by cases q))
      | ret => cases h; exact exec_flat .ret (fun rr Q a w q => wpIn_ret q) (fun b q => (by cases q))
      | refuse w => cases h
/-- THE EVALUATOR IS RIGHT: what it answers is what the call comes to. -/
theorem sound (hE : EnvOk P E) (hX : ∀ f, findX f E.xs ≠ some 3) {n : Nat} {f : FuncId} {args : List Value} {h h' : H} {v : Value} (hr : run E n (.call f args h) = some (.v v h')) {ρ : Rho} {ARGS : List Value} {W : World} (hA : VRels ρ args ARGS) (hH : HRel ρ h W) :
    Calls P f ARGS.toArray W (CallPost ρ h W v h') := by
  obtain ⟨_, v', h2, e, hc⟩ := (below hE hX n).call f args h _ hr
  cases e
  exact hc ρ ARGS W hA hH
end Go.X
