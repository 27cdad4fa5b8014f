/- A part of the evaluator of the model, and of the proof that what it answers is what a call comes to. No conditions of its own. -/
import Derived.Test.YtghaibhkgbccjaaGreatDoorXr
namespace Go.X
open Go
variable {P : Program} {E : Env}

structure Below (P : Program) (E : Env) (n : Nat) : Prop where
  exec : ∀ fn c st ans, run E n (.exec none fn c st) = some ans → SoundExec P c st ans
  scope : ∀ fn b c st ans, run E n (.scope none fn b c st) = some ans → SoundScope P b c st ans
  region : ∀ ops rest st ans, run E n (.region ops rest st) = some ans → SoundRegion P ops rest st ans
  call : ∀ f args h ans, run E n (.call f args h) = some ans → SoundCall P f args h ans

theorem exec_seq {n : Nat} (B : Below P E n) {fn : FuncId} {x y : Code} {st : St} {ans : Ans} (hr : run E (n + 1) (.exec none fn (.seq x y) st) = some ans) : SoundExec P (.seq x y) st ans := by
  obtain ⟨r, h1, h2⟩ := bind_some (show ((run E n) (.exec none fn x st)).bind (seqK (run E n) none fn y) = some ans from hr)
  obtain ⟨e1, st1, rfl, hw1⟩ := B.exec _ _ _ _ h1
  cases e1 with
  | normal =>
    obtain ⟨e2, st2, he, hw2⟩ := B.exec _ _ _ _ (show run E n (.exec none fn y st1) = some ans from h2)
    refine ⟨e2, st2, he, fun ρ a W hT hH => ?_⟩
    refine wp_seq (P := P) (x := x) (y := y) (entry_wp ((hw1 ρ a W hT hH).mono ?_))
    rintro e a1 W1 ⟨rfl, hd, ρ1, k1, k2, k3⟩
    refine entry_wp ((hw2 ρ1 a1 W1 k1 k2).mono ?_)
    intro e a2 W2 hA
    rw [hd] at hA
    exact After.trans k3 hA
  | _ =>
    refine ⟨_, st1, (Option.some.inj (show some _ = some ans from h2)).symm, fun ρ a W hT hH => ?_⟩
    refine wp_seq (P := P) (x := x) (y := y) (entry_wp ((hw1 ρ a W hT hH).mono ?_))
    rintro e a1 W1 ⟨rfl, hd, q⟩
    exact ⟨rfl, hd, q⟩
theorem exec_cond {n : Nat} (B : Below P E n) {fn : FuncId} {c : Operand} {x y : Code} {st : St} {ans : Ans} (hr : run E (n + 1) (.exec none fn (.cond c x y) st) = some ans) : SoundExec P (.cond c x y) st ans := by
  have hr' : condK (run E n) none fn x y st (ev st.tmps c) = some ans := hr
  generalize hv : ev st.tmps c = v at hr'
  cases v with
  | bool t =>
    have h2 : run E n (.exec none fn (if t then x else y) st) = some ans := by cases t <;> exact hr'
    obtain ⟨e, st', he, hw⟩ := B.exec _ _ _ _ h2
    refine ⟨e, st', he, fun ρ a W hT hH => ?_⟩
    have hc : a.eval c = .bool t := by
      have := ev_rel hT c
      rw [hv] at this
      revert this; generalize a.eval c = q; intro this; cases this; rfl
    exact wp_cond hc (entry_wp (hw ρ a W hT hH))
  | _ => cases hr'
theorem exec_block {n : Nat} (B : Below P E n) {fn : FuncId} {id : Nat} {x : Code} {st : St} {ans : Ans} (hr : run E (n + 1) (.exec none fn (.block id x) st) = some ans) : SoundExec P (.block id x) st ans := by
  obtain ⟨r, h1, h2⟩ := bind_some (show ((run E n) (.exec none fn x st)).bind (blockK id) = some ans from hr)
  obtain ⟨e1, st1, rfl, hw1⟩ := B.exec _ _ _ _ h1
  cases e1 with
  | exit k =>
    have h2' : some (Ans.a (bif Nat.beq k id then .normal else .exit k) st1) = some ans := h2
    rw [natBeq_eq] at h2'
    refine ⟨_, st1, (Option.some.inj h2').symm, fun ρ a W hT hH => ?_⟩
    refine wp_block (P := P) (entry_wp ((hw1 ρ a W hT hH).mono ?_))
    rintro e a1 W1 ⟨rfl, hd, q⟩
    show if k = id then _ else _
    by_cases hk : k = id
    · rw [if_pos hk]; simp only [hk, decide_true, cond_true]; exact ⟨rfl, hd, q⟩
    · rw [if_neg hk]; simp only [hk, decide_false, cond_false]; exact ⟨rfl, hd, q⟩
  | _ =>
    refine ⟨_, st1, (Option.some.inj (show some _ = some ans from h2)).symm, fun ρ a W hT hH => ?_⟩
    refine wp_block (P := P) (entry_wp ((hw1 ρ a W hT hH).mono ?_))
    rintro e a1 W1 ⟨rfl, hd, q⟩
    exact ⟨rfl, hd, q⟩
theorem exec_loop {n : Nat} (B : Below P E n) {fn : FuncId} {x : Code} {st : St} {ans : Ans} (hr : run E (n + 1) (.exec none fn (.loop x) st) = some ans) : SoundExec P (.loop x) st ans := by
  obtain ⟨r, h1, h2⟩ := bind_some (show ((run E n) (.exec none fn x st)).bind (loopK (run E n) none fn x) = some ans from hr)
  obtain ⟨e1, st1, rfl, hw1⟩ := B.exec _ _ _ _ h1
  have tail : ∀ e, e ≠ .normal → e1 = e → some (Ans.a e1 st1) = some ans → SoundExec P (.loop x) st ans := by
    intro e hne he h2
    subst he
    refine ⟨_, st1, (Option.some.inj h2).symm, fun ρ a W hT hH b k cs => ?_⟩
    obtain ⟨e', a1, W1, ⟨rfl, hd, q⟩, harr⟩ := entry_wp (hw1 ρ a W hT hH) b (.inLoop x :: k) cs
    refine ⟨_, a1, W1, ⟨rfl, hd, q⟩, .pass (x := .inLoop x) rfl (fun _ _ => .inl ?_) harr⟩
    cases e1 <;> first | exact absurd rfl hne | (intro h; cases h)
  cases e1 with
  | normal =>
    obtain ⟨e2, st2, he, hw2⟩ := B.exec _ _ _ _ (show run E n (.exec none fn (.loop x) st1) = some ans from h2)
    refine ⟨e2, st2, he, fun ρ a W hT hH b k cs => ?_⟩
    obtain ⟨e', a1, W1, ⟨rfl, hd, ρ1, k1, k2, k3⟩, harr⟩ := entry_wp (hw1 ρ a W hT hH) b (.inLoop x :: k) cs
    obtain ⟨e'', a2, W2, hA, harr2⟩ := hw2 ρ1 a1 W1 k1 k2 b k cs
    rw [hd] at hA
    exact ⟨e'', a2, W2, After.trans k3 hA, .of_steps (Steps.trans harr (.one step_inLoop)) harr2⟩
  | exit k => exact tail _ (by intro h; cases h) rfl h2
  | goto k => exact tail _ (by intro h; cases h) rfl h2
  | ret => exact tail _ (by intro h; cases h) rfl h2
theorem scope_sound {n : Nat} (B : Below P E n) {fn : FuncId} {b c : Code} {st : St} {ans : Ans} (hr : run E (n + 1) (.scope none fn b c st) = some ans) : SoundScope P b c st ans := by
  obtain ⟨r, h1, h2⟩ := bind_some (show ((run E n) (.exec none fn c st)).bind (scopeK (run E n) none fn b) = some ans from hr)
  obtain ⟨e1, st1, rfl, hw1⟩ := B.exec _ _ _ _ h1
  cases e1 with
  | normal =>
    refine ⟨.normal, st1, (Option.some.inj (show some _ = some ans from h2)).symm, fun ρ a W hT hH fr k cs => ?_⟩
    obtain ⟨e', a1, W1, ⟨rfl, hd, q⟩, harr⟩ := entry_wp (hw1 ρ a W hT hH) fr (.inScope b :: k) cs
    exact ⟨_, a1, W1, ⟨rfl, hd, q⟩, Steps.trans harr (.one step_inScope)⟩
  | exit id =>
    refine ⟨.exit id, st1, (Option.some.inj (show some _ = some ans from h2)).symm, fun ρ a W hT hH fr k cs => ?_⟩
    obtain ⟨e', a1, W1, ⟨rfl, hd, q⟩, harr⟩ := entry_wp (hw1 ρ a W hT hH) fr (.inScope b :: k) cs
    exact ⟨_, a1, W1, ⟨rfl, hd, q⟩, fun k' hk => harr k' (by simpa [exitTo] using hk)⟩
  | ret =>
    refine ⟨.ret, st1, (Option.some.inj (show some _ = some ans from h2)).symm, fun ρ a W hT hH fr k cs => ?_⟩
    obtain ⟨e', a1, W1, ⟨rfl, hd, q⟩, harr⟩ := entry_wp (hw1 ρ a W hT hH) fr (.inScope b :: k) cs
    exact ⟨_, a1, W1, ⟨rfl, hd, q⟩, harr⟩
  | goto l =>
    have h2' : (match findLabel b l with
      | some rest => run E n (.scope none fn b rest st1)
      | none => some (.a (.goto l) st1)) = some ans := h2
    split at h2'
    · rename_i rest hf
      obtain ⟨e2, st2, he, hw2⟩ := B.scope _ _ _ _ _ h2'
      refine ⟨e2, st2, he, fun ρ a W hT hH fr k cs => ?_⟩
      obtain ⟨e', a1, W1, ⟨rfl, hd, ρ1, k1, k2, k3⟩, harr⟩ := entry_wp (hw1 ρ a W hT hH) fr (.inScope b :: k) cs
      obtain ⟨e'', a2, W2, hA, harr2⟩ := hw2 ρ1 a1 W1 k1 k2 fr k cs
      rw [hd] at hA
      exact ⟨e'', a2, W2, After.trans k3 hA, .of_steps (harr _ (by simp [gotoIn, hf])) harr2⟩
    · rename_i hf
      refine ⟨.goto l, st1, (Option.some.inj h2').symm, fun ρ a W hT hH fr k cs => ?_⟩
      obtain ⟨e', a1, W1, ⟨rfl, hd, q⟩, harr⟩ := entry_wp (hw1 ρ a W hT hH) fr (.inScope b :: k) cs
      exact ⟨_, a1, W1, ⟨rfl, hd, q⟩, fun k' hk => harr k' (by simpa [gotoIn, hf] using hk)⟩
theorem exec_scope {n : Nat} (B : Below P E n) {fn : FuncId} {x : Code} {st : St} {ans : Ans} (hr : run E (n + 1) (.exec none fn (.scope x) st) = some ans) : SoundExec P (.scope x) st ans := by
  obtain ⟨e, st', he, hw⟩ := B.scope _ _ _ _ _ (show run E n (.scope none fn x x st) = some ans from hr)
  refine ⟨e, st', he, fun ρ a W hT hH fr k cs => ?_⟩
  obtain ⟨e', a1, W1, hA, harr⟩ := hw ρ a W hT hH fr k cs
  exact ⟨e', a1, W1, hA, .of_steps (.one step_scope) harr⟩
theorem exec_flat {fn : FuncId} {c : Code} {st : St} (e : AE) (hc : ∀ (Q : Exit → Act → World → Prop) (a : Act) (w : World), Q (exitOf e) a w → c.wp P Q a w) (hne : ∀ b, c ≠ .loop b) : SoundExec P c st (.a e st) := by
  refine ⟨e, st, rfl, fun ρ a W hT hH => ?_⟩
  have : c.wp P (After ρ st.h W st a.defers e) a W := hc _ _ _ ⟨rfl, rfl, ρ, hT, hH, Ext.refl _ _ _⟩
  cases c <;> first | exact this | exact absurd rfl (hne _)
theorem call_sound (hE : EnvOk P E) (hX : ∀ f, findX f E.xs ≠ some 3) {n : Nat} (B : Below P E n) {f : FuncId} {args : List Value} {h : H} {ans : Ans} (hr : run E (n + 1) (.call f args h) = some ans) : SoundCall P f args h ans := by
  have hr' : callStep E (run E n) f args h = some ans := hr
  unfold callStep at hr'
  split at hr'
  · rename_i k hk
    split at hr'
    · exact absurd hk (hX f)
    · cases hr'
  · obtain ⟨fd, hfd, hr2⟩ := bind_some hr'
    obtain ⟨body, hbody, hr3⟩ := bind_some hr2
    obtain ⟨r, h1, h2⟩ := bind_some hr3
    have hP := hE.funcs f fd hfd
    refine ⟨⟨fd, body, hP, hbody⟩, ?_⟩
    obtain ⟨e1, st1, rfl, hw1⟩ := B.exec _ _ _ _ h1
    have hres : ∃ vs, resVals E st1 fd.results.toList = some vs ∧ ans = .v (tupleOf vs) st1.h ∧ (e1 = .normal ∨ e1 = .ret) := by
      cases e1 with
      | normal => obtain ⟨vs, hv, he⟩ := map_some (show (resVals E st1 fd.results.toList).map (fun vs => Ans.v (tupleOf vs) st1.h) = some ans from h2); exact ⟨vs, hv, he.symm, .inl rfl⟩
      | ret => obtain ⟨vs, hv, he⟩ := map_some (show (resVals E st1 fd.results.toList).map (fun vs => Ans.v (tupleOf vs) st1.h) = some ans from h2); exact ⟨vs, hv, he.symm, .inr rfl⟩
      | exit k => cases h2
      | goto k => cases h2
    obtain ⟨vs, hvs, rfl, hee⟩ := hres
    refine ⟨_, _, rfl, fun ρ ARGS W hA hH => ?_⟩
    refine calls_of_wp hP hbody ?_
    have hT := args_rel hA fd.ntmps
    have := entry_wp (hw1 ρ { tmps := ARGS.toArray ++ Array.replicate (fd.ntmps - ARGS.toArray.size) Go.undef, defers := [] } W hT hH)
    refine Go.wp_mono this ?_
    rintro e a1 W1 ⟨rfl, hd, ρ1, k1, k2, k3⟩
    obtain ⟨V, hV, hrel⟩ := results_sound hE k1 k2 fd vs hvs
    rcases hee with rfl | rfl
    · exact ⟨hd, V, hV, ρ1, hrel, k2, k3⟩
    · exact ⟨hd, V, hV, ρ1, hrel, k2, k3⟩
end Go.X
