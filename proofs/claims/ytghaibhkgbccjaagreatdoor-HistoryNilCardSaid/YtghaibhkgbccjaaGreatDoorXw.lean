/- A part of the evaluator of the model, and of the proof that what it answers is what a call comes to. No conditions of its own. -/
import Derived.Test.YtghaibhkgbccjaaGreatDoorXv
namespace Go.X
open Go
variable {P : Program} {E : Env}

theorem exec_region {n : Nat} (B : Below P E n) {fn : FuncId} {id : Nat} {ops : Array Oper} {st : St} {ans : Ans} (hr : run E (n + 1) (.exec none fn (.region id ops false) st) = some ans) : SoundExec P (.region id ops false) st ans := by
  obtain ⟨st', he, hw⟩ := B.region _ _ _ _ (show run E n (.region ops ops.toList st) = some ans from hr)
  exact ⟨.normal, st', he, fun ρ a W hT hH => wp_region_list (hw ρ a W hT hH)⟩
theorem exec_draw (hE : EnvOk P E) {n : Nat} (B : ∀ m, m ≤ n → Below P E m) {fn : FuncId} {id : Nat} {ops : Array Oper} {st : St} {ans : Ans} (hr : run E (n + 1) (.exec none fn (.region id ops true) st) = some ans) : SoundExec P (.region id ops true) st ans := by
  have hr' : drawnStart E (run E n) ops st = some ans := hr
  obtain ⟨ps, hps, hr2⟩ := bind_some hr'
  obtain ⟨q, hq, hr3⟩ := bind_some hr2
  obtain ⟨h1, al⟩ := q
  obtain ⟨T, hB0, hG0, ha, hk⟩ := drawn_trace (P := P) hps ops.toList n 0 [] [] _ ans (fun m hm => (B m (by omega)).call) hr3
  obtain ⟨F, hp⟩ := drawFacts hps
  refine ⟨.normal, _, ha, fun ρ a W hT hH => ?_⟩
  obtain ⟨l1, l2, l3, l4⟩ := layAhead_ok ops.toList st.h.next 0 st.h [] h1 al hq (Nat.le_refl _) ⟨fun j b e => (by cases e), fun j j' b e => (by cases e)⟩ hH.fresh
  have hG0' : T.Gt 0 = h1 := hG0
  have hB0' : T.Bt 0 = st.tmps := hB0
  have S : Sched P E ops ps al T a.tmps.size st.h.next := by
    refine ⟨F, ?_, by rw [hB0']; exact hT.1, ?_⟩
    · rw [hG0']; simpa using l4
    · intro k o ho
      obtain ⟨p, p1, p2, p3, p4⟩ := hk k o (Nat.zero_le _) (by rw [Nat.sub_zero, Array.getElem?_toList]; exact ho)
      refine ⟨p, p1, p2, fun w c j oj j1 j2 => (p3 w c).2 j oj (Nat.zero_le _) j1 (by rw [Nat.sub_zero, Array.getElem?_toList]; exact j2), fun w c j oj j1 j2 => (p4 w c).2 j oj (Nat.zero_le _) j1 (by rw [Nat.sub_zero, Array.getElem?_toList]; exact j2)⟩
  -- the heap laid ahead
  have hH1 : HRel ρ h1 W := by
    refine ⟨?_, ?_, ?_, l3⟩
    · intro b x r e1 e2
      have := (hH.dom b r e2).1
      rw [l2 b this] at e1
      exact hH.obj b x r e1 e2
    · intro b b' x x' r r' e1 e1' e2 e2'
      rw [l2 b (hH.dom b r e2).1] at e1
      rw [l2 b' (hH.dom b' r' e2').1] at e1'
      exact hH.inj b b' x x' r r' e1 e1' e2 e2'
    · intro b r e; have := hH.dom b r e; omega
  have hX1 : Ext ρ st.h W ρ h1 W := by
    refine ⟨ρ.le_refl, Nat.le_refl _, rfl, rfl, rfl, fun _ _ _ => rfl, ?_, l1, fun _ _ => rfl⟩
    intro b x r e1 e2 e3 _
    rw [l2 b (hH.dom b r e3).1] at e1
    exact ⟨b, x, r, e1, e2, e3, rfl⟩
  have hHd : HRel ρ h1 { W with drawn := W.drawn + 1 } := hH1.drew rfl
  have hXd : Ext ρ st.h W ρ h1 { W with drawn := W.drawn + 1 } := hX1.trans (Ext.drew rfl rfl rfl rfl)
  refine wp_region_any hE.mixed ?_
  have hlen : ops.toList.length = ops.size := Array.length_toList
  refine S.any hE (ρ0 := ρ) (h0 := st.h) (W0 := W) (D := a.defers) (Nat.le_refl _) ?_ ops.size (Array.replicate ops.size false) a _ (by simp) ?_ ?_
  · intro a' w' I
    obtain ⟨ρ', ht, ⟨k, hk1, hH', hX', _, k1, k2⟩, _⟩ := I.rest
    refine ⟨rfl, I.defers, ρ', ⟨?_, fun t => ?_⟩, ?_, ?_⟩
    · rw [I.tsize]
      have := S.szB ops.size (Nat.le_refl _)
      simpa [hlen] using this
    · obtain ⟨j, hj, hv, j1, j2⟩ := ht t
      have : (T.Bt ops.size).get t = (T.Bt j).get t := by
        refine S.bconst ops.size hj (Nat.le_refl _) ?_
        intro x ox hx1 hx2 hox hd
        have := j1 x ox hox hd hx2
        omega
      show VRel ρ' ((T.Bt (0 + ops.toList.length)).get t) _
      rw [hlen, Nat.zero_add, this]; exact hv
    · show HRel ρ' (T.Gt (0 + ops.toList.length)) w'
      rw [hlen, Nat.zero_add, S.gconst ops.size hk1 (Nat.le_refl _) (fun j h1 h2 hj => by have := k1 j hj h2; omega)]
      exact hH'
    · show Ext ρ st.h W ρ' (T.Gt (0 + ops.toList.length)) w'
      rw [hlen, Nat.zero_add, S.gconst ops.size hk1 (Nat.le_refl _) (fun j h1 h2 hj => by have := k1 j hj h2; omega)]
      exact hX'
  · have : ((Array.replicate ops.size false).toList.filter (! ·)) = List.replicate ops.size false := by simp
    rw [this]; simp
  · refine ⟨fun i o hl => ?_, rfl, ⟨ρ, fun t => ⟨0, Nat.zero_le _, ?_, fun i o _ _ hl => ?_, fun _ _ _ _ _ => Nat.zero_le _⟩, ⟨0, Nat.zero_le _, by rw [hG0']; exact hHd, by rw [hG0']; exact hXd, Nat.le_refl _, fun j _ hl => ?_, fun _ _ _ => Nat.zero_le _⟩, ?_⟩, rfl⟩
    · exfalso
      have hl' : (Array.replicate ops.size false).getD i false = true := hl
      rw [Array.getD_eq_getD_getElem?, Array.getElem?_replicate] at hl'
      split at hl' <;> cases hl'
    · rw [hB0']; exact hT.2 t
    · exfalso
      have hl' : (Array.replicate ops.size false).getD i false = true := hl
      rw [Array.getD_eq_getD_getElem?, Array.getElem?_replicate] at hl'
      split at hl' <;> cases hl'
    · exfalso
      have hl' : (Array.replicate ops.size false).getD j false = true := hl
      rw [Array.getD_eq_getD_getElem?, Array.getElem?_replicate] at hl'
      split at hl' <;> cases hl'
    · intro i b e _
      have hb := (l4.range i b e).1
      cases q : ρ b with
      | none => rfl
      | some r => have := (hH.dom b r q).1; omega
theorem below (hE : EnvOk P E) (hX : ∀ f, findX f E.xs ≠ some 3) (n : Nat) : Below P E n := by
  induction n using Nat.strongRecOn with
  | _ n ih =>
    cases n with
    | zero => exact ⟨fun _ _ _ _ h => (by cases h), fun _ _ _ _ _ h => (by cases h), fun _ _ _ _ h => (by cases h), fun _ _ _ _ h => (by cases h)⟩
    | succ n =>
      have B := ih n (Nat.lt_succ_self n)
      refine ⟨?_, fun fn b c st ans h => scope_sound B h, fun ops rest st ans h => region_sound hE B.call B.region h, fun f args h ans hr => call_sound hE hX B hr⟩
      intro fn c st ans h
      cases c with
      | skip => cases h; exact exec_flat (fn := fn) .normal (fun Q a w q => wp_skip q) (fun b q => (by cases q))
      | region id ops draw =>
        cases draw with
        | false => exact exec_region B h
        | true => exact exec_draw hE (fun m hm => ih m (by omega)) h
      | seq x y => exact exec_seq B h
      | cond c x y => exact exec_cond B h
      | block id x => exact exec_block B h
      | loop x => exact exec_loop B h
      | exit id => cases h; exact exec_flat (fn := fn) (.exit id) (fun Q a w q => wp_exit q) (fun b q => (by cases q))
      | scope x => exact exec_scope B h
      | label l => cases h; exact exec_flat (fn := fn) .normal (fun Q a w q => wp_label q) (fun b q => (by cases q))
      | goto l => cases h; exact exec_flat (fn := fn) (.goto l) (fun Q a w q => wp_goto q) (fun b q => (by cases q))
      | ret => cases h; exact exec_flat (fn := fn) .ret (fun Q a w q => wp_ret q) (fun b q => (by cases q))
      | _ => cases h
/-- THE EVALUATOR IS RIGHT: what it answers is what the call comes to. -/
theorem sound (hE : EnvOk P E) (hX : ∀ f, findX f E.xs ≠ some 3) {n : Nat} {f : FuncId} {args : List Value} {h h' : H} {v : Value} (hr : run E n (.call f args h) = some (.v v h')) {ρ : Rho} {ARGS : List Value} {W : World} (hA : VRels ρ args ARGS) (hH : HRel ρ h W) :
    Calls P f ARGS.toArray W (CallPost ρ h W v h') := by
  obtain ⟨_, v', h2, e, hc⟩ := (below hE hX n).call f args h _ hr
  cases e
  exact hc ρ ARGS W hA hH
end Go.X
