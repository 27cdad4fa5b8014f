/- A part of the evaluator of the model, and of the proof that what it answers is what a call comes to. No conditions of its own. -/
import Derived.Test.YthbmhdlbphkljaaGreatDoorXr
import Derived.RangeFuncLeaves
namespace Go.X
open Go
variable {P : Program} {E : Env}

theorem stepR_scope {b : Frame} {a : Act} {k : List Item} {cs : List Frame} {w : World} {c : Code} : Go.step P (lone (b.atR a (.code (.scope c) :: k)) cs w) = .next (lone (b.atR a (.code c :: .inScope c :: k)) cs w) :=
  step_lone_go (by simp [stepG, stepG.exec, Frame.atR])
theorem stepR_inScope {b : Frame} {a : Act} {k : List Item} {cs : List Frame} {w : World} {c : Code} : Go.step P (lone (b.atR a (.inScope c :: k)) cs w) = .next (lone (b.atR a k) cs w) :=
  step_lone_go (by simp [stepG, stepG.exec, Frame.atR])
structure Below (P : Program) (E : Env) (n : Nat) : Prop where
  exec : ∀ R fn c st ans, run E n (.exec R fn c st) = some ans → SoundExec P R c st ans
  scope : ∀ R fn b c st ans, run E n (.scope R fn b c st) = some ans → SoundScope P R b c st ans
  region : ∀ ops rest st ans, run E n (.region ops rest st) = some ans → SoundRegion P ops rest st ans
  call : ∀ f args h ans, run E n (.call f args h) = some ans → SoundCall P f args h ans
  round : ∀ l args h ans, run E n (.round l args h) = some ans → SoundRound P l args h ans

theorem exec_seq {n : Nat} (B : Below P E n) {R : Option Nat} {fn : FuncId} {x y : Code} {st : St} {ans : Ans} (hr : run E (n + 1) (.exec R fn (.seq x y) st) = some ans) : SoundExec P R (.seq x y) st ans := by
  obtain ⟨r, h1, h2⟩ := bind_some (show ((run E n) (.exec R fn x st)).bind (seqK (run E n) R fn y) = some ans from hr)
  obtain ⟨e1, st1, rfl, hw1⟩ := B.exec _ _ _ _ _ h1
  cases e1 with
  | normal =>
    obtain ⟨e2, st2, he, hw2⟩ := B.exec _ _ _ _ _ (show run E n (.exec R fn y st1) = some ans from h2)
    refine ⟨e2, st2, he, fun rr base ρ a W hR hb hT hH hM => ?_⟩
    refine from_of (fun _ q => by cases q) (wpIn_seq (x := x) (y := y) (entry_wp ((hw1 rr base ρ a W hR hb hT hH hM).mono ?_)))
    rintro e a1 W1 ⟨rfl, ρ1, k1, k2, k3, k4⟩
    refine entry_wp ((hw2 rr base ρ1 a1 W1 hR (Nat.le_trans hb k3.size) k1 k2 k4).mono ?_)
    intro e a2 W2 hA
    exact After.trans k3 hA
  | _ =>
    refine ⟨_, st1, (Option.some.inj (show some _ = some ans from h2)).symm, fun rr base ρ a W hR hb hT hH hM => ?_⟩
    refine from_of (fun _ q => by cases q) (wpIn_seq (x := x) (y := y) (entry_wp ((hw1 rr base ρ a W hR hb hT hH hM).mono ?_)))
    rintro e a1 W1 ⟨rfl, q⟩
    exact ⟨rfl, q⟩
theorem exec_cond {n : Nat} (B : Below P E n) {R : Option Nat} {fn : FuncId} {c : Operand} {x y : Code} {st : St} {ans : Ans} (hr : run E (n + 1) (.exec R fn (.cond c x y) st) = some ans) : SoundExec P R (.cond c x y) st ans := by
  have hr' : condK (run E n) R fn x y st (ev st.tmps c) = some ans := hr
  generalize hv : ev st.tmps c = v at hr'
  cases v with
  | bool t =>
    have h2 : run E n (.exec R fn (if t then x else y) st) = some ans := by cases t <;> exact hr'
    obtain ⟨e, st', he, hw⟩ := B.exec _ _ _ _ _ h2
    refine ⟨e, st', he, fun rr base ρ a W hR hb hT hH hM => ?_⟩
    have hc : a.eval c = .bool t := by
      have := ev_rel hT c
      rw [hv] at this
      revert this; generalize a.eval c = q; intro this; cases this; rfl
    exact from_of (fun _ q => by cases q) (wpIn_cond hc (entry_wp (hw rr base ρ a W hR hb hT hH hM)))
  | _ => cases hr'
theorem exec_block {n : Nat} (B : Below P E n) {R : Option Nat} {fn : FuncId} {id : Nat} {x : Code} {st : St} {ans : Ans} (hr : run E (n + 1) (.exec R fn (.block id x) st) = some ans) : SoundExec P R (.block id x) st ans := by
  obtain ⟨r, h1, h2⟩ := bind_some (show ((run E n) (.exec R fn x st)).bind (blockK id) = some ans from hr)
  obtain ⟨e1, st1, rfl, hw1⟩ := B.exec _ _ _ _ _ h1
  cases e1 with
  | exit k =>
    have h2' : some (Ans.a (bif Nat.beq k id then .normal else .exit k) st1) = some ans := h2
    rw [natBeq_eq] at h2'
    refine ⟨_, st1, (Option.some.inj h2').symm, fun rr base ρ a W hR hb hT hH hM => ?_⟩
    refine from_of (fun _ q => by cases q) (wpIn_block (entry_wp ((hw1 rr base ρ a W hR hb hT hH hM).mono ?_)))
    rintro e a1 W1 ⟨rfl, q⟩
    show if k = id then _ else _
    by_cases hk : k = id
    · rw [if_pos hk]; simp only [hk, decide_true, cond_true]; exact ⟨rfl, q⟩
    · rw [if_neg hk]; simp only [hk, decide_false, cond_false]; exact ⟨rfl, q⟩
  | _ =>
    refine ⟨_, st1, (Option.some.inj (show some _ = some ans from h2)).symm, fun rr base ρ a W hR hb hT hH hM => ?_⟩
    refine from_of (fun _ q => by cases q) (wpIn_block (entry_wp ((hw1 rr base ρ a W hR hb hT hH hM).mono ?_)))
    rintro e a1 W1 ⟨rfl, q⟩
    exact ⟨rfl, q⟩
theorem exec_loop {n : Nat} (B : Below P E n) {R : Option Nat} {fn : FuncId} {x : Code} {st : St} {ans : Ans} (hr : run E (n + 1) (.exec R fn (.loop x) st) = some ans) : SoundExec P R (.loop x) st ans := by
  obtain ⟨r, h1, h2⟩ := bind_some (show ((run E n) (.exec R fn x st)).bind (loopK (run E n) R fn x) = some ans from hr)
  obtain ⟨e1, st1, rfl, hw1⟩ := B.exec _ _ _ _ _ h1
  have tail : ∀ e, e ≠ .normal → e1 = e → some (Ans.a e1 st1) = some ans → SoundExec P R (.loop x) st ans := by
    intro e hne he h2
    subst he
    refine ⟨_, st1, (Option.some.inj h2).symm, fun rr base ρ a W hR hb hT hH hM b k cs hro => ?_⟩
    obtain ⟨e', a1, W1, ⟨rfl, q⟩, harr⟩ := entry_wp (hw1 rr base ρ a W hR hb hT hH hM) b (.inLoop x :: k) cs hro trivial (room_FW _ _)
    refine ⟨_, a1, W1, ⟨rfl, q⟩, .pass (x := .inLoop x) rfl (fun _ _ => .inl ?_) harr⟩
    cases e1 <;> first | exact absurd rfl hne | (intro h; cases h)
  cases e1 with
  | normal =>
    obtain ⟨e2, st2, he, hw2⟩ := B.exec _ _ _ _ _ (show run E n (.exec R fn (.loop x) st1) = some ans from h2)
    refine ⟨e2, st2, he, fun rr base ρ a W hR hb hT hH hM b k cs hro => ?_⟩
    obtain ⟨e', a1, W1, ⟨rfl, ρ1, k1, k2, k3, k4⟩, harr⟩ := entry_wp (hw1 rr base ρ a W hR hb hT hH hM) b (.inLoop x :: k) cs hro trivial (room_FW _ _)
    obtain ⟨e'', a2, W2, hA, harr2⟩ := hw2 rr base ρ1 a1 W1 hR (Nat.le_trans hb k3.size) k1 k2 k4 b k cs hro
    exact ⟨e'', a2, W2, After.trans k3 hA, .of_steps (StepsIn.trans harr (si1 stepR_inLoop)) harr2⟩
  | exit k => exact tail _ (by intro h; cases h) rfl h2
  | goto k => exact tail _ (by intro h; cases h) rfl h2
  | ret => exact tail _ (by intro h; cases h) rfl h2
theorem scope_sound {n : Nat} (B : Below P E n) {R : Option Nat} {fn : FuncId} {b c : Code} {st : St} {ans : Ans} (hr : run E (n + 1) (.scope R fn b c st) = some ans) : SoundScope P R b c st ans := by
  obtain ⟨r, h1, h2⟩ := bind_some (show ((run E n) (.exec R fn c st)).bind (scopeK (run E n) R fn b) = some ans from hr)
  obtain ⟨e1, st1, rfl, hw1⟩ := B.exec _ _ _ _ _ h1
  cases e1 with
  | normal =>
    refine ⟨.normal, st1, (Option.some.inj (show some _ = some ans from h2)).symm, fun rr base ρ a W hR hb hT hH hM fr k cs hro => ?_⟩
    obtain ⟨e', a1, W1, ⟨rfl, q⟩, harr⟩ := entry_wp (hw1 rr base ρ a W hR hb hT hH hM) fr (.inScope b :: k) cs hro trivial (room_FW _ _)
    exact ⟨_, a1, W1, ⟨rfl, q⟩, StepsIn.trans harr (si1 stepR_inScope)⟩
  | exit id =>
    refine ⟨.exit id, st1, (Option.some.inj (show some _ = some ans from h2)).symm, fun rr base ρ a W hR hb hT hH hM fr k cs hro => ?_⟩
    obtain ⟨e', a1, W1, ⟨rfl, q⟩, harr⟩ := entry_wp (hw1 rr base ρ a W hR hb hT hH hM) fr (.inScope b :: k) cs hro trivial (room_FW _ _)
    exact ⟨_, a1, W1, ⟨rfl, q⟩, ⟨fun k' hk => harr.1 k' (by simpa [exitTo] using hk), fun h1 h2 => harr.2 h1 (by simpa [exitTo] using h2)⟩⟩
  | ret =>
    refine ⟨.ret, st1, (Option.some.inj (show some _ = some ans from h2)).symm, fun rr base ρ a W hR hb hT hH hM fr k cs hro => ?_⟩
    obtain ⟨e', a1, W1, ⟨rfl, q⟩, harr⟩ := entry_wp (hw1 rr base ρ a W hR hb hT hH hM) fr (.inScope b :: k) cs hro trivial (room_FW _ _)
    exact ⟨_, a1, W1, ⟨rfl, q⟩, harr⟩
  | goto l =>
    have h2' : (match findLabel b l with
      | some rest => run E n (.scope R fn b rest st1)
      | none => some (.a (.goto l) st1)) = some ans := h2
    split at h2'
    · rename_i rest hf
      obtain ⟨e2, st2, he, hw2⟩ := B.scope _ _ _ _ _ _ h2'
      refine ⟨e2, st2, he, fun rr base ρ a W hR hb hT hH hM fr k cs hro => ?_⟩
      obtain ⟨e', a1, W1, ⟨rfl, ρ1, k1, k2, k3, k4⟩, harr⟩ := entry_wp (hw1 rr base ρ a W hR hb hT hH hM) fr (.inScope b :: k) cs hro trivial (room_FW _ _)
      obtain ⟨e'', a2, W2, hA, harr2⟩ := hw2 rr base ρ1 a1 W1 hR (Nat.le_trans hb k3.size) k1 k2 k4 fr k cs hro
      exact ⟨e'', a2, W2, After.trans k3 hA, .of_steps (harr.1 _ (by simp [gotoIn, hf])) harr2⟩
    · rename_i hf
      refine ⟨.goto l, st1, (Option.some.inj h2').symm, fun rr base ρ a W hR hb hT hH hM fr k cs hro => ?_⟩
      obtain ⟨e', a1, W1, ⟨rfl, q⟩, harr⟩ := entry_wp (hw1 rr base ρ a W hR hb hT hH hM) fr (.inScope b :: k) cs hro trivial (room_FW _ _)
      exact ⟨_, a1, W1, ⟨rfl, q⟩, ⟨fun k' hk => harr.1 k' (by simpa [gotoIn, hf] using hk), fun h1 h2 => harr.2 h1 (by simpa [gotoIn, hf] using h2)⟩⟩
theorem exec_scope {n : Nat} (B : Below P E n) {R : Option Nat} {fn : FuncId} {x : Code} {st : St} {ans : Ans} (hr : run E (n + 1) (.exec R fn (.scope x) st) = some ans) : SoundExec P R (.scope x) st ans := by
  obtain ⟨e, st', he, hw⟩ := B.scope _ _ _ _ _ _ (show run E n (.scope R fn x x st) = some ans from hr)
  refine ⟨e, st', he, fun rr base ρ a W hR hb hT hH hM fr k cs hro => ?_⟩
  obtain ⟨e', a1, W1, hA, harr⟩ := hw rr base ρ a W hR hb hT hH hM fr k cs hro
  exact ⟨e', a1, W1, hA, .of_steps (si1 stepR_scope) harr⟩
theorem exec_flat {R : Option Nat} {c : Code} {st : St} (e : AE) (hc : ∀ (rr : Option Nat) (Q : Exit → Act → World → Prop) (a : Act) (w : World), Q (exitOf e) a w → c.wpIn (FW rr) 0 P Q a w) (hne : ∀ b, c ≠ .loop b) : SoundExec P R c st (.a e st) :=
  ⟨e, st, rfl, fun rr base ρ a W _ _ hT hH hM => from_of hne (hc rr _ _ _ ⟨rfl, ρ, hT, hH, Ext.refl _ _ _, hM⟩)⟩

/-- a block that is not the evaluator's is turned -/
theorem HRel.foreign {ρ : Rho} {h : H} {W W' : World} (hH : HRel ρ h W) {B : Nat} (hB : ∃ o, W.heap[B]? = some o ∧ ∀ C e F, o ≠ .cells C e F) (hn : ∀ b x r, h.get b = some x → roB x = false → ρ b = some r → r.blk ≠ B)
    (hs : W'.heap.size = W.heap.size) (hk : ∀ C, C ≠ B → W'.heap[C]? = W.heap[C]?) : HRel ρ h W' := by
  refine ⟨fun b x r h1 h2 => ?_, hH.inj, fun b r e => by rw [hs]; exact hH.dom b r e, hH.fresh⟩
  have ho := hH.obj b x r h1 h2
  have hne : r.blk ≠ B := by
    by_cases hro : roB x = false
    · exact hn b x r h1 hro h2
    · intro e
      obtain ⟨o, ho1, ho2⟩ := hB
      cases x with
      | row x =>
        obtain ⟨C, F, q, _⟩ := ho
        rw [e, ho1] at q
        cases q; exact ho2 _ _ _ rfl
      | _ => exact hro rfl
  exact ho.mono ρ.le_refl (hk _ hne)
/-- the marks are taken over at a function's end -/
theorem leaves_marks {fn : Func} {tmps : Array Value} {base : Nat} {Rp : Ending → World → Prop} {ρ : Rho} {h : H} : ∀ (Bs : List Nat) (W : World), Bs.Nodup → (∀ B ∈ Bs, base ≤ B ∧ B < W.heap.size ∧ W.heap[B]? = some (.deferred (some [])) ∧ ∀ b x r, h.get b = some x → roB x = false → ρ b = some r → r.blk ≠ B) → HRel ρ h W →
    (∀ W', HRel ρ h W' → W'.heap.size = W.heap.size → W'.os = W.os → W'.tape = W.tape → W'.output = W.output → (∀ B, B < base → W'.heap[B]? = W.heap[B]?) → ∃ V, (results fn tmps).run P W' = .ok V W' ∧ Rp (.returned V) W') →
    LeavesInM Fence.wide 0 P fn tmps Rp (Bs.map markOf) .returning W := by
  intro Bs
  induction Bs with
  | nil =>
    intro W _ _ hH hK
    obtain ⟨V, h1, h2⟩ := hK W hH rfl rfl rfl rfl (fun _ _ => rfl)
    exact ⟨V, h1, h2⟩
  | cons B Bs ih =>
    intro W hnd hB hH hK
    obtain ⟨h0, h1, h2, h3⟩ := hB B (.head _)
    have hnd' := List.nodup_cons.1 hnd
    have hoth : ∀ C, C ≠ B → (W.putObj B (.deferred none)).heap[C]? = W.heap[C]? := fun C hC => World.putObj_heap_other hC
    refine ⟨(fun q => by cases q), .inl ⟨B, W.putObj B (.deferred none), rfl, run_takeDeferred h2, ?_⟩⟩
    have hH' : HRel ρ h (W.putObj B (.deferred none)) := hH.foreign ⟨_, h2, fun _ _ _ q => by cases q⟩ h3 World.putObj_size hoth
    refine ih _ hnd'.2 (fun C hC => ?_) hH' fun W' k1 k2 k3 k4 k5 k6 => ?_
    · obtain ⟨l0, l1, l2, l3⟩ := hB C (.tail _ hC)
      have hne : C ≠ B := fun e => hnd'.1 (e ▸ hC)
      exact ⟨l0, by rw [World.putObj_size]; exact l1, (hoth C hne).trans l2, l3⟩
    · exact hK W' k1 (k2.trans World.putObj_size) k3 k4 k5 fun C hC => (k6 C hC).trans (hoth C (by omega))
theorem call_sound (hE : EnvOk P E) (hX : ∀ f, findX f E.xs ≠ some 3) {n : Nat} (B : Below P E n) {f : FuncId} {args : List Value} {h : H} {ans : Ans} (hr : run E (n + 1) (.call f args h) = some ans) : SoundCall P f args h ans := by
  have hr' : callStep E (run E n) f args h = some ans := hr
  unfold callStep at hr'
  split at hr'
  · rename_i k hk
    split at hr'
    · exact absurd hk (hX f)
    · cases hr'
  · obtain ⟨fd, hfd, hr2⟩ := bind_some hr'
    obtain ⟨body, hbody, hr3⟩ := bind_some hr2
    obtain ⟨r, h1, h2⟩ := bind_some hr3
    have hP := hE.funcs f fd hfd
    refine ⟨⟨fd, body, hP, hbody⟩, ?_⟩
    obtain ⟨e1, st1, rfl, hw1⟩ := B.exec _ _ _ _ _ h1
    have hres : ∃ vs, resVals E st1 fd.results.toList = some vs ∧ ans = .v (tupleOf vs) st1.h ∧ (e1 = .normal ∨ e1 = .ret) := by
      cases e1 with
      | normal => obtain ⟨vs, hv, he⟩ := map_some (show (resVals E st1 fd.results.toList).map (fun vs => Ans.v (tupleOf vs) st1.h) = some ans from h2); exact ⟨vs, hv, he.symm, .inl rfl⟩
      | ret => obtain ⟨vs, hv, he⟩ := map_some (show (resVals E st1 fd.results.toList).map (fun vs => Ans.v (tupleOf vs) st1.h) = some ans from h2); exact ⟨vs, hv, he.symm, .inr rfl⟩
      | exit k => cases h2
      | goto k => cases h2
    obtain ⟨vs, hvs, rfl, hee⟩ := hres
    refine ⟨_, _, rfl, fun ρ ARGS W hA hH => ?_⟩
    refine (callsIn_wide (n := 0)).1 (callsIn_of_wp_marks hP hbody trivial ?_)
    have hT := args_rel hA fd.ntmps
    have := entry_wp (hw1 none W.heap.size ρ { tmps := ARGS.toArray ++ Array.replicate (fd.ntmps - ARGS.toArray.size) Go.undef, defers := [] } W (fun _ => rfl) (Nat.le_refl _) hT hH (Marks.nil _ _ _ _))
    refine Go.Code.wpIn_mono ?_ this
    rintro e a1 W1 ⟨rfl, ρ1, k1, k2, k3, Bs, hD, hnd, hB⟩
    have fin : LeavesInM Fence.wide 0 P fd a1.tmps (CallPost ρ h W (tupleOf vs) st1.h) a1.defers .returning W1 := by
      rw [hD]
      refine leaves_marks Bs W1 hnd hB k2 fun W' q1 q2 q3 q4 q5 q6 => ?_
      obtain ⟨V, hV, hrel⟩ := results_sound hE k1 q1 fd vs hvs
      refine ⟨V, hV, ρ1, hrel, q1, k3.le, by rw [q2]; exact k3.size, q3.trans k3.os, q4.trans k3.tape, q5.trans k3.output, ?_, k3.own, k3.next, k3.old⟩
      intro C hC hn
      exact (q6 C hC).trans (k3.kept C hC hn)
    rcases hee with rfl | rfl
    · exact fin
    · exact fin

/-- a loop's record is turned -/
theorem ORel.loop {ρ : Rho} {r : RI} {W W' : World} {st st' : LoopState} {pd pd' : Option Code} {f0 : FuncId} {tm : B} {ps : List Tmp} {as bd : Code} {d0 : Nat} {T : Array Value} {fn : FuncId} {d : Nat}
    (hT : TRel ρ tm T) (hW : W'.heap[r.blk]? = some (.loop { state := st', pending := pd', fn, tmps := T, params := ps.toArray, assign := as, body := bd, defers := d })) : ORel ρ r W' (.loop st' pd' f0 tm ps as bd d0) := ⟨T, fn, d, hT, hW⟩
theorem putObj_loop {W : World} {B : Nat} {o o' : Obj} (h : W.heap[B]? = some o') : (W.putObj B o).heap[B]? = some o := by
  have hlt : B < W.heap.size := by
    rcases Nat.lt_or_ge B W.heap.size with g | g
    · exact g
    · rw [Array.getElem?_eq_none g] at h; cases h
  simp [World.putObj, hlt]
theorem setTmps_rel {ρ : Rho} : ∀ (ps : List Tmp) (args ARGS : List Value) (tm : B) (T : Array Value), VRels ρ args ARGS → args.length = ps.length → TRel ρ tm T → TRel ρ (setTmps tm ps args) ((ps.zip ARGS).foldl (fun tmps x => tmps.setIfInBounds x.1 x.2) T) := by
  intro ps
  induction ps with
  | nil =>
    intro args ARGS tm T hA hl hT
    have : args = [] := List.eq_nil_of_length_eq_zero hl
    subst this; cases hA; exact hT
  | cons p ps ih =>
    intro args ARGS tm T hA hl hT
    cases hA with
    | nil => simp at hl
    | cons v V l L hv hL =>
      show TRel ρ (setTmps (tm.set p v) ps l) (((p, V) :: ps.zip L).foldl _ T)
      exact ih l L _ _ hL (by simpa using hl) (hT.set p hv)
def jumpOf : AE → Option Code | .normal => none | .ret => some .ret | .exit id => some (.exit id) | .goto t => some (.goto t)
theorem round_sound {n : Nat} (B : Below P E n) {l : Nat} {args : List Value} {h : H} {ans : Ans} (hr : run E (n + 1) (.round l args h) = some ans) : SoundRound P l args h ans := by
  have hr' : roundStep (run E n) l args h (h.get l) = some ans := hr
  cases hg : h.get l with
  | none => rw [hg] at hr'; cases hr'
  | some o =>
    rw [hg] at hr'
    cases o with
    | loop st pd f0 tm ps as bd d0 =>
      obtain ⟨an, h1, h2⟩ := bind_some (show ((run E n) (.exec (some l) f0 as ⟨setTmps tm ps args, [], h⟩)).bind (roundK1 (run E n) l f0 bd) = some ans from hr')
      obtain ⟨e1, st1, rfl, hw1⟩ := B.exec _ _ _ _ _ h1
      cases e1 with
      | normal =>
        have h3 : roundGo (run E n) l f0 bd st1 (st1.h.get l) = some ans := h2
        cases hg1 : st1.h.get l with
        | none => rw [hg1] at h3; cases h3
        | some o1 =>
          rw [hg1] at h3
          cases o1 with
          | loop s1 pd1 f1 tm1 ps1 as1 bd1 d1 =>
            cases s1 with
            | ready =>
              obtain ⟨an2, h4, h5⟩ := bind_some (show ((run E n) (.exec (some l) f0 bd ⟨st1.tmps, [], st1.h.put l (.loop .busy pd1 f1 tm1 ps1 as1 bd1 d1)⟩)).bind (roundK2 l) = some ans from h3)
              obtain ⟨e2, st2, rfl, hw2⟩ := B.exec _ _ _ _ _ h4
              have h6 : roundEnd l e2 st2 (st2.h.get l) = some ans := h5
              cases hg2 : st2.h.get l with
              | none => rw [hg2] at h6; cases h6
              | some o2 =>
                rw [hg2] at h6
                cases o2 with
                | loop s2 pd2 f2 tm2 ps2 as2 bd2 d2 =>
                  have hans : ∃ (v : Bool) (jump : Option Code), ans = .v (.bool v) (st2.h.put l (.loop (if jump.isNone then .ready else .done) jump f2 tm2 ps2 as2 bd2 d2)) ∧ v = jump.isNone ∧
                      jump = jumpOf e2 := by
                    cases e2 with
                    | normal => cases h6; exact ⟨true, none, rfl, rfl, rfl⟩
                    | ret => cases h6; exact ⟨false, some .ret, rfl, rfl, rfl⟩
                    | exit id => cases h6; exact ⟨false, some (.exit id), rfl, rfl, rfl⟩
                    | goto t => cases h6; exact ⟨false, some (.goto t), rfl, rfl, rfl⟩
                  obtain ⟨v, jump, rfl, hvj, hj⟩ := hans
                  refine ⟨_, _, rfl, ?_⟩
                  intro rr st0 pd0 f00 tm0 ps0 as0 bd0 d00 ri T fn d ρ ARGS W e1 e2' e3 e4 e5 e6 hH
                  rw [hg] at e1; cases e1
                  have hT0 := setTmps_rel ps args ARGS tm T e5 e6 e3
                  have hT0' : TRel ρ (setTmps tm ps args) ((ps.toArray.zip ARGS.toArray).foldl (fun tmps x => tmps.setIfInBounds x.1 x.2) T) := by
                    have : (ps.toArray.zip ARGS.toArray).foldl (fun tmps x => tmps.setIfInBounds x.1 x.2) T = (ps.zip ARGS).foldl (fun tmps x => tmps.setIfInBounds x.1 x.2) T := by simp
                    rw [this]; exact hT0
                  refine roundIn_of_wpIn (F := FW rr) trivial ?_
                  have hw := entry_wp (hw1 (some ri.blk) W.heap.size ρ { tmps := (ps.toArray.zip ARGS.toArray).foldl (fun tmps x => tmps.setIfInBounds x.1 x.2) T, defers := [] } W (fun q => by cases q) (Nat.le_refl _) hT0' hH (Marks.nil _ _ _ _))
                  refine Go.Code.wpIn_mono ?_ hw
                  rintro e a1 W1 ⟨rfl, ρ1, k1, k2, k3, kM⟩
                  have hρ1 := k3.le _ _ e2'
                  obtain ⟨T1, fn1, dd1, q1, q2⟩ := k2.obj l _ ri hg1 hρ1
                  refine ⟨_, run_beginRound q2 rfl, ?_⟩
                  have hkeep : ∀ C, C ≠ ri.blk → (W1.putObj ri.blk (.loop { state := .busy, pending := pd1, fn := fn1, tmps := T1, params := ps1.toArray, assign := as1, body := bd1, defers := dd1 })).heap[C]? = W1.heap[C]? := fun C hC => World.putObj_heap_other hC
                  have hH1 := k2.put l _ (.loop .busy pd1 f1 tm1 ps1 as1 bd1 d1) ri hg1 rfl rfl hρ1 World.putObj_size hkeep ⟨T1, fn1, dd1, q1, putObj_loop q2⟩
                  have hX1 := Ext.put l _ (.loop .busy pd1 f1 tm1 ps1 as1 bd1 d1) ri hg1 rfl hρ1 World.putObj_size hkeep rfl rfl rfl
                  have hw3 := entry_wp (hw2 (some ri.blk) W.heap.size ρ1 a1 _ (fun q => by cases q) (by rw [World.putObj_size]; exact k3.size) k1 hH1 (kM.ext hX1))
                  refine Go.Code.wpIn_mono ?_ hw3
                  rintro e a2 W2 ⟨rfl, ρ2, l1, l2, l3, lM⟩
                  have hρ2 := l3.le _ _ hρ1
                  obtain ⟨T2, fn2, dd2, r1, r2⟩ := l2.obj l _ ri hg2 hρ2
                  have hX2 := (k3.trans hX1).trans l3
                  have fin : ∃ v' w', (Instr.endRound ri.blk jump).run P W2 = .ok v' w' ∧ CallPost ρ h W (.bool v) (st2.h.put l (.loop (if jump.isNone then .ready else .done) jump f2 tm2 ps2 as2 bd2 d2)) (.returned v') w' := by
                    refine ⟨_, _, run_endRound jump r2, ρ2, ?_, ?_, ?_⟩
                    · rw [hvj]; exact .bool _
                    · exact l2.put l _ _ ri hg2 rfl rfl hρ2 World.putObj_size (fun C hC => World.putObj_heap_other hC) ⟨T2, fn2, dd2, r1, putObj_loop r2⟩
                    · exact hX2.trans (Ext.put l _ _ ri hg2 rfl hρ2 World.putObj_size (fun C hC => World.putObj_heap_other hC) rfl rfl rfl)
                  subst hj
                  cases e2 with
                  | normal => exact fin
                  | ret => exact fin
                  | exit id => exact fin
                  | goto t => exact fin
                | _ => cases h6
            | _ => cases h3
          | _ => cases h3
      | _ => cases h2
    | _ => cases hr'
/-- code of a jump -/
def AE.code : AE → Code | .normal => .skip | .ret => .ret | .exit id => .exit id | .goto t => .goto t
theorem range_core (hE : EnvOk P E) {f : Operand} {ps : Array Tmp} {as bd : Code} {st : St} {gf : FuncId} {first captured : Array Value} (hv : ev st.tmps f = .func (.func gf) first captured) {fd : Func} {body : Code} (hfd : P.funcs[gf]? = some fd) (hbody : fd.body = some body)
    {Qc : Value → H → Prop} (hcc : ∀ (ρ : Rho) (ARGS : List Value) (W : World), VRels ρ (app (app first.toList [Value.func (.yield st.h.next) #[] #[]]) captured.toList) ARGS → HRel ρ (loopRow st ps as bd) W → Calls P gf ARGS.toArray W fun e W' => ∃ v h', Qc v h' ∧ CallPost ρ (loopRow st ps as bd) W v h' e W')
    {K : AE → H → Prop} (hK : ∀ v h', Qc v h' → ∃ e s f1 tm1 ps1 as1 bd1 d1, h'.get st.h.next = some (.loop s (jumpOf e) f1 tm1 ps1 as1 bd1 d1) ∧ s ≠ .busy ∧ K e (h'.del st.h.next))
    {base : Nat} {ρ : Rho} {a : Act} {W : World} (hb : base ≤ W.heap.size) (hT : TRel ρ st.tmps a.tmps) (hH : HRel ρ st.h W) (hM : Marks base ρ st.h W a.defers) :
    From none P (entry (.rangeFunc f ps as bd)) (fun e' a' W' => ∃ e h', K e h' ∧ e' = exitOf e ∧ a'.tmps = a.tmps ∧ ∃ ρ', ρ.le ρ' ∧ HRel ρ' h' W' ∧ Ext ρ st.h W ρ' h' W' ∧ Marks base ρ' h' W' a'.defers) a W := by
          refine from_of (fun _ q => by cases q) (wpIn_rangeFunc fun fn' _ => ?_)
          -- the record is laid
          have hfv := ev_rel hT f
          rw [hv] at hfv
          generalize hq : a.eval f = q at hfv
          cases hfv with
          | func _ F _ A _ C hfn ha hca =>
            cases hfn
            let W1 := (W.alloc (.deferred (some []))).alloc (.loop { state := .ready, pending := none, fn := fn', tmps := a.tmps, params := ps, assign := as, body := bd, defers := W.heap.size })
            have hW0 : HRel ρ st.h (W.alloc (.deferred (some []))) := by
              refine ⟨fun b x r e1 e2 => (hH.obj b x r e1 e2).mono ρ.le_refl ?_, hH.inj, fun b r e => ?_, hH.fresh⟩
              · show (W.heap.push _)[_]? = _
                rw [Array.getElem?_push, if_neg (by have := (hH.dom b r e2).2; omega)]
              · have := hH.dom b r e
                refine ⟨this.1, ?_⟩
                show r.blk < (W.heap.push _).size
                rw [Array.size_push]; omega
            have hX0 : Ext ρ st.h W ρ st.h (W.alloc (.deferred (some []))) := by
              refine ⟨ρ.le_refl, ?_, rfl, rfl, rfl, fun C hC _ => ?_, fun b x r k1 k2 k3 _ => ⟨b, x, r, k1, k2, k3, rfl⟩, Nat.le_refl _, fun _ _ => rfl⟩
              · show W.heap.size ≤ (W.heap.push _).size
                rw [Array.size_push]; omega
              · show (W.heap.push _)[C]? = _
                rw [Array.getElem?_push, if_neg (by omega)]
            have hsz0 : (W.alloc (.deferred (some []))).heap.size = W.heap.size + 1 := by show (W.heap.push _).size = _; simp
            let ri : RI := ⟨W.heap.size + 1, 0, 0, 0, 0⟩
            have hnone : ρ st.h.next = none := by
              cases q2 : ρ st.h.next with
              | none => rfl
              | some r => have := (hH.dom _ _ q2).1; omega
            have hle := ρ.add_le st.h.next ri hnone
            have hWp : W1.heap = (W.alloc (.deferred (some []))).heap.push (.loop { state := .ready, pending := none, fn := fn', tmps := a.tmps, params := ps, assign := as, body := bd, defers := W.heap.size }) := rfl
            have hnew : W1.heap[ri.blk]? = some (.loop { state := .ready, pending := none, fn := fn', tmps := a.tmps, params := ps.toList.toArray, assign := as, body := bd, defers := W.heap.size }) := by
              rw [hWp, Array.getElem?_push, if_pos (show ri.blk = _ from hsz0.symm)]
            have hH1 : HRel (ρ.add st.h.next ri) (loopRow st ps as bd) W1 := hW0.new _ _ ri hWp hsz0.symm ⟨a.tmps, fn', W.heap.size, hT.mono hle, hnew⟩
            have hX1 : Ext ρ st.h W (ρ.add st.h.next ri) (loopRow st ps as bd) W1 := hX0.trans (Ext.new hW0 _ _ ri hWp hsz0.symm rfl rfl rfl)
            have hAr : VRels (ρ.add st.h.next ri) (app (app first.toList [Value.func (.yield st.h.next) #[] #[]]) captured.toList) ((A.toList ++ [Value.func (.yield (W.heap.size + 1)) #[] #[]]) ++ C.toList) := by
              rw [app_eq, app_eq]
              exact ((ha.mono hle).append (.cons _ _ _ _ (.func _ _ _ _ _ _ (.yield _ ri (Rho.add_same _ _ _)) .nil .nil) .nil)).append (hca.mono hle)
            have hC := hcc _ _ W1 hAr hH1
            have hnum := hE.num gf fd hfd
            refine ⟨W.heap.size + 1, [markOf W.heap.size], W1, { target := .fn (.func gf) C, args := A ++ #[.func (.yield (W.heap.size + 1)) #[] #[]] }, W1, gf, ((A.toList ++ [Value.func (.yield (W.heap.size + 1)) #[] #[]]) ++ C.toList).toArray, W1,
              run_enterLoop_outer _ _ _ _ _, ?_, fun _ _ => trivial, ?_, (fun q => by cases q), callsIn_FW (hC.mono ?_)⟩
            · simp [resolve, hq, Deferred.ofValue, Sem.run_bind, Sem.run_pure]
              rfl
            · simp only [Go.invoke]
              unfold callFunc
              simp only [Sem.run_bind, run_program, Result.andThen_ok, hfd]
              simp [hnum, hbody, Sem.run_pure]
            · intro en W2 hp
              cases en with
              | returned V =>
                obtain ⟨v, h', hQ, ρ2, p1, p2, p3⟩ := hp
                obtain ⟨e, s, f1, tm1, ps1, as1, bd1, d1, hg, hbusy, hKe⟩ := hK v h' hQ
                generalize hpe : jumpOf e = pend at hg
                have hρ2 : ρ2 st.h.next = some ri := p3.le _ _ (Rho.add_same _ _ _)
                obtain ⟨T, fn2, dd, t1, t2⟩ := p2.obj _ _ ri hg hρ2
                refine ⟨pend, _, run_endLoop t2 hbusy, ?_⟩
                have hkeep : ∀ C, C ≠ ri.blk → (W2.putObj ri.blk (.loop { state := .exhausted, pending := pend, fn := fn2, tmps := T, params := ps1.toArray, assign := as1, body := bd1, defers := dd })).heap[C]? = W2.heap[C]? := fun C hC => World.putObj_heap_other hC
                have hH2 := p2.put _ _ (.loop .exhausted pend f1 tm1 ps1 as1 bd1 d1) ri hg rfl rfl hρ2 World.putObj_size hkeep ⟨T, fn2, dd, t1, putObj_loop t2⟩
                have hX2 := Ext.put _ _ (.loop .exhausted pend f1 tm1 ps1 as1 bd1 d1) ri hg rfl hρ2 World.putObj_size hkeep rfl rfl rfl
                have hH3 : HRel ρ2 (h'.del st.h.next) (W2.putObj ri.blk (.loop { state := .exhausted, pending := pend, fn := fn2, tmps := T, params := ps1.toArray, assign := as1, body := bd1, defers := dd })) := by
                  have := hH2.del st.h.next
                  refine ⟨fun b x r e1 e2 => ?_, fun b b' x x' r r' e1 e1' => ?_, this.dom, fun b hb' => ?_⟩
                  · rw [H.get_del] at e1
                    by_cases hbn : b = st.h.next
                    · rw [if_pos hbn] at e1; cases e1
                    · rw [if_neg hbn] at e1
                      exact hH2.obj b x r (by rw [H.get_put, if_neg hbn]; exact e1) e2
                  · rw [H.get_del] at e1 e1'
                    by_cases hbn : b = st.h.next
                    · rw [if_pos hbn] at e1; cases e1
                    · by_cases hbn' : b' = st.h.next
                      · rw [if_pos hbn'] at e1'; cases e1'
                      · rw [if_neg hbn] at e1; rw [if_neg hbn'] at e1'
                        exact hH2.inj b b' x x' r r' (by rw [H.get_put, if_neg hbn]; exact e1) (by rw [H.get_put, if_neg hbn']; exact e1')
                  · rw [H.get_del]
                    by_cases hbn : b = st.h.next
                    · rw [if_pos hbn]
                    · rw [if_neg hbn]; exact p2.fresh b hb'
                have hX3 : Ext ρ st.h W ρ2 (h'.del st.h.next) (W2.putObj ri.blk (.loop { state := .exhausted, pending := pend, fn := fn2, tmps := T, params := ps1.toArray, assign := as1, body := bd1, defers := dd })) := by
                  have x := (hX1.trans p3).trans hX2
                  refine ⟨x.le, x.size, x.os, x.tape, x.output, x.kept, fun b y r e1 e2 e3 e4 => ?_, x.next, x.old⟩
                  rw [H.get_del] at e1
                  by_cases hbn : b = st.h.next
                  · rw [if_pos hbn] at e1; cases e1
                  · rw [if_neg hbn] at e1
                    exact x.own b y r (by rw [H.get_put, if_neg hbn]; exact e1) e2 e3 e4
                have hM3 : Marks base ρ2 (h'.del st.h.next) (W2.putObj ri.blk (.loop { state := .exhausted, pending := pend, fn := fn2, tmps := T, params := ps1.toArray, assign := as1, body := bd1, defers := dd })) ([markOf W.heap.size] ++ a.defers) := by
                  obtain ⟨Bs, hD, hnd, hB⟩ := hM
                  -- the new mark's block is not the evaluator's
                  have m1 : Marks W.heap.size (ρ.add st.h.next ri) (loopRow st ps as bd) W1 [markOf W.heap.size] := by
                    refine ⟨[W.heap.size], rfl, by simp, fun B hBm => ?_⟩
                    obtain rfl : B = W.heap.size := by simpa using hBm
                    refine ⟨Nat.le_refl _, ?_, ?_, fun b x r k1 k2 k3 k4 => ?_⟩
                    · rw [hWp, Array.size_push, hsz0]; omega
                    · rw [hWp, Array.getElem?_push, if_neg (by rw [hsz0]; omega)]
                      show (W.heap.push _)[W.heap.size]? = _
                      simp
                    · rw [show (loopRow st ps as bd).get b = _ from H.get_new _ _ _] at k1
                      by_cases hbn : b = st.h.next
                      · subst hbn
                        rw [Rho.add_same] at k3; cases k3
                        have : ri.blk = W.heap.size + 1 := rfl
                        omega
                      · rw [if_neg hbn] at k1
                        have k3' : ρ b = some r := by
                          have : (ρ.add st.h.next ri) b = ρ b := if_neg hbn
                          rw [this] at k3; exact k3
                        have := (hH.dom b r k3').2
                        omega
                  have x23 : Ext (ρ.add st.h.next ri) (loopRow st ps as bd) W1 ρ2 (h'.del st.h.next) (W2.putObj ri.blk (.loop { state := .exhausted, pending := pend, fn := fn2, tmps := T, params := ps1.toArray, assign := as1, body := bd1, defers := dd })) := by
                    have x := p3.trans hX2
                    refine ⟨x.le, x.size, x.os, x.tape, x.output, x.kept, fun b y r e1 e2 e3 e4 => ?_, x.next, x.old⟩
                    rw [H.get_del] at e1
                    by_cases hbn : b = st.h.next
                    · rw [if_pos hbn] at e1; cases e1
                    · rw [if_neg hbn] at e1
                      exact x.own b y r (by rw [H.get_put, if_neg hbn]; exact e1) e2 e3 e4
                  have m2 := m1.ext x23
                  obtain ⟨Bs0, hD0, hnd0, hB0⟩ := Marks.ext ⟨Bs, hD, hnd, hB⟩ hX3
                  obtain ⟨Bs1, hD1, hnd1, hB1⟩ := m2
                  have e1 : Bs1 = [W.heap.size] := by
                    cases Bs1 with
                    | nil => cases hD1
                    | cons B1 Bs1 =>
                      cases Bs1 with
                      | nil => simp [markOf] at hD1; rw [hD1]
                      | cons _ _ => simp at hD1
                  subst e1
                  have hinj : ∀ (l l' : List Nat), l.map markOf = l'.map markOf → l = l' := by
                    intro l
                    induction l with
                    | nil => intro l' h; cases l' with
                      | nil => rfl
                      | cons _ _ => simp at h
                    | cons x l ih => intro l' h; cases l' with
                      | nil => simp at h
                      | cons y l' => simp [markOf] at h; rw [h.1, ih l' (by simpa [markOf] using h.2)]
                  have e2 : Bs0 = Bs := hinj _ _ (hD0.symm.trans hD)
                  subst e2
                  refine ⟨W.heap.size :: Bs0, by rw [hD]; rfl, List.nodup_cons.2 ⟨fun hm => ?_, hnd⟩, fun B hBm => ?_⟩
                  · have := (hB _ hm).2.1; omega
                  · cases hBm with
                    | head => obtain ⟨_, k2, k3, k4⟩ := hB1 W.heap.size (by simp); exact ⟨hb, k2, k3, k4⟩
                    | tail _ hm => exact hB0 B hm
                subst hpe
                cases e with
                | normal => exact ⟨.normal, _, hKe, rfl, rfl, ρ2, hX3.le, hH3, hX3, hM3⟩
                | ret => exact wpIn_ret ⟨.ret, _, hKe, rfl, rfl, ρ2, hX3.le, hH3, hX3, hM3⟩
                | exit id => exact wpIn_exit ⟨.exit id, _, hKe, rfl, rfl, ρ2, hX3.le, hH3, hX3, hM3⟩
                | goto t => exact wpIn_goto ⟨.goto t, _, hKe, rfl, rfl, ρ2, hX3.le, hH3, hX3, hM3⟩
              | panicked _ => obtain ⟨_, _, _, hp⟩ := hp; exact hp.elim
              | outgrown => obtain ⟨_, _, _, hp⟩ := hp; exact hp.elim
theorem exec_range (hE : EnvOk P E) {n : Nat} (B : Below P E n) {fn : FuncId} {f : Operand} {ps : Array Tmp} {as bd : Code} {st : St} {ans : Ans} (hr : run E (n + 1) (.exec none fn (.rangeFunc f ps as bd) st) = some ans) : SoundExec P none (.rangeFunc f ps as bd) st ans := by
  have hr' : rangeGo E (run E n) st st.h.next (loopRow st ps as bd) (ev st.tmps f) = some ans := hr
  generalize hv : ev st.tmps f = fv at hr'
  cases fv with
  | func g first captured =>
    obtain ⟨an, h1, h2⟩ := bind_some (show ((callTarget E (loopRow st ps as bd) g captured.toList (app first.toList [Value.func (.yield st.h.next) #[] #[]])).bind (enterOnly (run E n) (loopRow st ps as bd))).bind (rangeK st st.h.next) = some ans from hr')
    obtain ⟨r, h3, h4⟩ := bind_some h1
    cases g with
    | func gf =>
      have hr0 : r = .enter gf (app (app first.toList [Value.func (.yield st.h.next) #[] #[]]) captured.toList) := by
        have h3' : enterF E (loopRow st ps as bd) gf (app (app first.toList [Value.func (.yield st.h.next) #[] #[]]) captured.toList) = some r := h3
        unfold enterF at h3'
        split at h3'
        · cases h3'; rfl
        · split at h3'
          · cases h3'; rfl
          · obtain ⟨v, hv, hvr⟩ := map_some h3'
            subst hvr; cases h4
      subst hr0
      have hc := B.call _ _ _ _ (show run E n (.call gf _ (loopRow st ps as bd)) = some an from h4)
      obtain ⟨⟨fd, body, hfd, hbody⟩, v, h', rfl, hcc⟩ := hc
      have h5 : endLoop st st.h.next h' (h'.get st.h.next) = some ans := h2
      cases hg : h'.get st.h.next with
      | none => rw [hg] at h5; cases h5
      | some o =>
        rw [hg] at h5
        cases o with
        | row _ => cases h5
        | map _ _ => cases h5
        | iter _ _ => cases h5
        | deferred _ => cases h5
        | loop s pend f1 tm1 ps1 as1 bd1 d1 =>
          have h6 : notBusy s = some () ∧ ∃ e : AE, pend = jumpOf e ∧ ans = .a e ⟨st.tmps, st.defs, h'.del st.h.next⟩ := by
            obtain ⟨u, hu, h7⟩ := bind_some (show (notBusy s).bind _ = some ans from h5)
            refine ⟨hu, ?_⟩
            cases pend with
            | none => cases h7; exact ⟨.normal, rfl, rfl⟩
            | some c =>
              cases c with
              | ret => cases h7; exact ⟨.ret, rfl, rfl⟩
              | exit id => cases h7; exact ⟨.exit id, rfl, rfl⟩
              | goto t => cases h7; exact ⟨.goto t, rfl, rfl⟩
              | _ => cases h7
          obtain ⟨hs, e, hpe, rfl⟩ := h6
          have hbusy : s ≠ .busy := fun q => by subst q; cases hs
          refine ⟨e, _, rfl, fun rr base ρ a W hR hb hT hH hM => ?_⟩
          obtain rfl : rr = none := hR rfl
          refine (range_core hE hv hfd hbody (Qc := fun v0 h0 => v0 = v ∧ h0 = h') (K := fun e0 h0 => e0 = e ∧ h0 = h'.del st.h.next) (fun ρ ARGS W hA hH => (hcc ρ ARGS W hA hH).mono fun e0 W' hp => ⟨v, h', ⟨rfl, rfl⟩, hp⟩) ?_ hb hT hH hM).mono ?_
          · rintro _ _ ⟨rfl, rfl⟩
            exact ⟨e, s, f1, tm1, ps1, as1, bd1, d1, hpe ▸ hg, hbusy, rfl, rfl⟩
          · rintro e' a' W' ⟨e0, h0, ⟨rfl, rfl⟩, h1, h2, ρ', h3, h4, h5, h6⟩
            exact ⟨h1, ρ', by rw [h2]; exact hT.mono h3, h4, h5, h6⟩
    | yield l =>
      have h3' : (match (loopRow st ps as bd).get l with | some (.loop _ _ _ _ ps _ _ _) => bif Nat.beq (len (app first.toList [Value.func (.yield st.h.next) #[] #[]])) (len ps) then some (R.round l (app first.toList [Value.func (.yield st.h.next) #[] #[]])) else none | _ => none) = some r := h3
      split at h3'
      · obtain ⟨_, h3'⟩ := bif_some h3'
        cases h3'; cases h4
      · cases h3'
    | _ => cases h3
  | _ => cases hr'
end Go.X
