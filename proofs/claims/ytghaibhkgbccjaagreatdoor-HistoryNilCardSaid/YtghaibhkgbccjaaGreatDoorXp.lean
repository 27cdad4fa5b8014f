/- A part of the evaluator of the model, and of the proof that what it answers is what a call comes to. No conditions of its own. -/
import Derived.Test.YtghaibhkgbccjaaGreatDoorXo
namespace Go.X
open Go
variable {P : Program} {E : Env}
variable {ρ : Rho} {h : H} {W : World} {a c : Operand → Value} {o : Oper}

def RVal (s : Sem Value) : Sem Next := do pure (.value (← s))
theorem run_RVal {s : Sem Value} {V : Value} {W W' : World} (e : s.run P W = .ok V W') : (RVal s).run P W = .ok (.value V) W' := by
  simp only [RVal, Sem.run_bind, e, Result.andThen_ok, Sem.run_pure]
theorem builtinR_sound (hE : EnvOk P E) (hH : HRel ρ h W) (b : Builtin) (ats : Array TypeId) (ty : TypeId) (consts : Array Bool) (xs : List Value) (XS : List Value) (hx : VRels ρ xs XS) {v : Value} {h' : H} (hr : builtinR E h b ats xs = some (.val v h')) :
    ∃ ρ' W' V, (Go.builtin b ats ty consts XS.toArray).run P W = .ok (.value V) W' ∧ VRel ρ' v V ∧ HRel ρ' h' W' ∧ Ext ρ h W ρ' h' W' := by
  unfold builtinR at hr
  split at hr
  · rename_i s x
    obtain ⟨st, hst, hr1⟩ := bind_some hr
    cases hx with
    | cons _ S _ L hs hl =>
      cases hl with
      | cons _ X _ L2 hx2 hl2 =>
        cases hl2
        obtain ⟨ρ', W', V, k0, k1, k2, k3⟩ := append_sound (P := P) hE hH ats ty st hst hs hx2 hr1
        exact ⟨ρ', W', V, run_RVal k0, k1, k2, k3⟩
  · rename_i d s
    obtain ⟨st, hst, hr1⟩ := bind_some hr
    cases hx with
    | cons _ S _ L hs hl =>
      cases hl with
      | cons _ X _ L2 hx2 hl2 =>
        cases hl2
        obtain ⟨W', k0, k1, k2, k3⟩ := copyV_sound (P := P) hE hH ats ty st hst hs hx2 hr1
        have hv : ∃ n, v = .int .i64 n := by
          clear k0 k1 k2 k3
          obtain ⟨u, hu, hr2⟩ := bind_some hr1
          split at hr2
          · obtain ⟨sz, _, hr3⟩ := bind_some hr2
            obtain ⟨sl, _, hr4⟩ := bind_some hr3
            obtain ⟨cs, _, hr5⟩ := bind_some hr4
            split at hr5
            · cases hz : Nat.beq (Nat.min sl _ * sz) 0 with
              | true => rw [hz] at hr5; cases hr5; exact ⟨_, rfl⟩
              | false =>
                rw [hz] at hr5
                obtain ⟨_, _, e⟩ := map_some hr5
                cases e; exact ⟨_, rfl⟩
            · cases hr5; exact ⟨_, rfl⟩
          · cases hr2
        obtain ⟨n, rfl⟩ := hv
        exact ⟨ρ, W', _, run_RVal k0, .int _ _, k2, k3⟩
  · rename_i x
    obtain ⟨t, ht, hr1⟩ := bind_some hr
    obtain ⟨u, hu, hr2⟩ := bind_some hr1
    have hU := hE.underP hu
    rw [nthA_eq, Array.getElem?_toList] at ht
    cases hx with
    | cons _ X _ L hxx hl =>
      cases hl
      split at hr2
      · cases hr2
        have := hxx.str_inv
        subst this
        refine ⟨ρ, W, _, run_RVal ?_, .int _ _, hH, Ext.refl _ _ _⟩
        simp [Builtin.len_, ht, run_under hU, goInt, len_eq]
      · cases hr2
        refine ⟨ρ, W, _, run_RVal ?_, .int _ _, hH, Ext.refl _ _ _⟩
        simp [Builtin.len_, ht, run_under hU, goInt, len_eq]
      · cases hr2
        cases hxx
        · refine ⟨ρ, W, _, run_RVal ?_, .int _ _, hH, Ext.refl _ _ _⟩
          simp [Builtin.len_, ht, run_under hU, goInt, len_eq]
        · refine ⟨ρ, W, _, run_RVal ?_, .int _ _, hH, Ext.refl _ _ _⟩
          simp [Builtin.len_, ht, run_under hU, goInt, len_eq]
      · cases hr2
  · cases hr

def EnterOk (P : Program) (ρ : Rho) (W : World) (f : FuncId) (args : List Value) (s : Sem Next) : Prop :=
  ∃ ARGS : List Value, VRels ρ args ARGS ∧ ∀ (fd : Func) (body : Code), P.funcs[f]? = some fd → fd.body = some body → s.run P W = .ok (.enter f ARGS.toArray) W
def ROk (P : Program) (ρ : Rho) (h : H) (W : World) (r : R) (s : Sem Next) : Prop :=
  match r with
  | .val v h' => OpOk P ρ h W v h' s
  | .enter f args => EnterOk P ρ W f args s
  | .round _ _ => False
theorem op_call_sound (hE : EnvOk P E) (hH : HRel ρ h W) (cl : Call) (ho : o.op = .call cl) (hx : ∀ x ∈ cl.args.toList, VRel ρ (a x) (c x)) (hf : ∀ f, cl.callee = .value f → VRel ρ (a f) (c f)) {r : R} (hr : op_call E h a cl = some r) : ROk P ρ h W r (execOp c o) := by
  unfold op_call at hr
  have hargs := mapV_rel (ρ := ρ) (a := a) (c := c) cl.args.toList hx
  split at hr
  · rename_i b hb
    have hv : ∃ v h', r = .val v h' := by
      clear hargs
      unfold builtinR at hr
      split at hr
      · obtain ⟨_, _, e⟩ := bind_some hr
        obtain ⟨u, _, e⟩ := bind_some e
        split at e
        · obtain ⟨_, _, e⟩ := bind_some e
          obtain ⟨zs, _, e⟩ := bind_some e
          cases zs with
          | true => cases e
          | false =>
            obtain ⟨m, _, e⟩ := bind_some (show Option.bind _ _ = _ from e)
            obtain ⟨nw, _, e⟩ := bind_some e
            revert e
            cases Nat.ble _ _ with
            | false =>
              intro e
              obtain ⟨_, _, e⟩ := bind_some (show Option.bind _ _ = _ from e)
              obtain ⟨_, _, e⟩ := bind_some e
              obtain ⟨_, e⟩ := rec_some e
              obtain ⟨_, _, e⟩ := bind_some e
              obtain ⟨_, _, e⟩ := bind_some e
              obtain ⟨_, _, e⟩ := bind_some e
              cases e; exact ⟨_, _, rfl⟩
            | true =>
              intro e
              have e' : appIn h _ _ _ _ _ _ = some r := e
              unfold appIn at e'
              split at e'
              · revert e'
                cases Nat.beq _ _ with
                | false =>
                  intro e'
                  obtain ⟨_, _, e⟩ := bind_some (show Option.bind _ _ = _ from e')
                  cases e; exact ⟨_, _, rfl⟩
                | true => intro e'; cases e'; exact ⟨_, _, rfl⟩
              · cases e'; exact ⟨_, _, rfl⟩
        · cases e
      · obtain ⟨_, _, e⟩ := bind_some hr
        obtain ⟨u, hu, hr2⟩ := bind_some e
        split at hr2
        · obtain ⟨sz, _, hr3⟩ := bind_some hr2
          obtain ⟨sl, _, hr4⟩ := bind_some hr3
          obtain ⟨cs, _, hr5⟩ := bind_some hr4
          split at hr5
          · revert hr5
            cases hz : Nat.beq (Nat.min sl _ * sz) 0 with
            | true => intro hr5; cases hr5; exact ⟨_, _, rfl⟩
            | false =>
              intro hr5
              obtain ⟨_, _, e⟩ := map_some (show Option.map _ _ = _ from hr5)
              cases e; exact ⟨_, _, rfl⟩
          · cases hr5; exact ⟨_, _, rfl⟩
        · cases hr2
      · obtain ⟨_, _, e⟩ := bind_some hr
        obtain ⟨u, hu, hr2⟩ := bind_some e
        split at hr2 <;> first | (cases hr2; exact ⟨_, _, rfl⟩) | cases hr2
      · cases hr
    obtain ⟨v, h', rfl⟩ := hv
    obtain ⟨ρ', W', V, k0, k1, k2, k3⟩ := builtinR_sound (P := P) hE hH b cl.argTypes o.type (cl.args.map fun | .const _ => true | _ => false) _ _ hargs hr
    refine ⟨ρ', W', V, .value V, ?_, .inl rfl, k1, k2, k3⟩
    have he : (cl.args.toList.map c).toArray = cl.args.map c := Array.ext' (by simp)
    rw [he] at k0
    simp only [execOp, ho, resolve, hb, Sem.run_bind, Sem.run_pure, Result.andThen_ok, Go.invoke]
    exact k0
  · rename_i f hb
    have hff := hf f hb
    revert hff hr
    generalize a f = p
    generalize hc : c f = q
    intro hr hff
    split at hr
    · rename_i fn first captured
      cases hff with
      | func _ F _ A _ C hfn ha hcc =>
        unfold callTarget at hr
        split at hr
        · rename_i g
          cases hfn
          have hr' : r = .enter g (app (app first.toList (mapV a cl.args.toList)) captured.toList) := by
            unfold enterF at hr
            split at hr
            · cases hr; rfl
            · split at hr
              · cases hr; rfl
              · cases hr
          subst hr'
          refine ⟨(A.toList ++ cl.args.toList.map c) ++ C.toList, ?_, ?_⟩
          · rw [app_eq, app_eq]
            exact (ha.append hargs).append hcc
          · intro fd body hfd hbody
            simp only [execOp, ho, resolve, hb, hc, Deferred.ofValue, Sem.run_bind, Sem.run_pure, Result.andThen_ok, Go.invoke]
            have hnum := hE.num g fd hfd
            unfold callFunc
            simp only [Sem.run_bind, run_program, Result.andThen_ok, hfd]
            simp [hnum, hbody, Sem.run_pure]
        · cases hr
    · cases hr
  · cases hr

theorem val_of {x : Option R} {r : R} (h : x = some r) (hx : ∀ r, x = some r → ∃ v h', r = .val v h') : ∃ v h', r = .val v h' := hx r h
/-- an operation, whatever it comes to -/
theorem op_sound (hE : EnvOk P E) (hH : HRel ρ h W) (hx : ∀ x ∈ o.op.operands.toList, VRel ρ (a x) (c x)) {r : R} (hr : opR o.op E h a = some r) : ROk P ρ h W r (execOp c o) := by
  have lift : ∀ {x : Option R}, x = some r → (∀ r, x = some r → ∃ v h', r = .val v h') → (∀ v h', x = some (.val v h') → OpOk P ρ h W v h' (execOp c o)) → ROk P ρ h W r (execOp c o) := by
    intro x hx h1 h2
    obtain ⟨v, h', rfl⟩ := h1 r hx
    exact h2 v h' hx
  have litv : ∀ {x : Option Value} {r : R}, lit x h = some r → ∃ v h', r = .val v h' := by
    intro x r e
    obtain ⟨v, _, e⟩ := map_some e
    exact ⟨_, _, e.symm⟩
  cases ho : o.op with
  | move x =>
    rw [ho] at hr hx; cases hr
    exact op_move_sound hH x (.inl ho) (hx x (by simp [Op.operands]))
  | assign x =>
    rw [ho] at hr hx; cases hr
    exact op_move_sound hH x (.inr ho) (hx x (by simp [Op.operands]))
  | pick x y z =>
    rw [ho] at hr hx
    refine lift (show op_pick E h a x y z = some r from hr) ?_ fun v h' e => op_pick_sound hH x y z ho (hx x (by simp [Op.operands])) (hx y (by simp [Op.operands])) (hx z (by simp [Op.operands])) e
    intro r e; obtain ⟨_, _, e⟩ := bind_some e; cases e; exact ⟨_, _, rfl⟩
  | alloc e =>
    rw [ho] at hr hx
    refine lift (show op_alloc E h a e = some r from hr) ?_ fun v h' q => op_alloc_sound hE hH e ho q
    intro r e; obtain ⟨_, _, e⟩ := bind_some e; cases e; exact ⟨_, _, rfl⟩
  | box e x =>
    rw [ho] at hr hx
    refine lift (show op_box E h a e x = some r from hr) ?_ fun v h' q => op_box_sound hH e x ho (hx x (by simp [Op.operands])) q
    intro r e; obtain ⟨_, _, e⟩ := bind_some e; cases e; exact ⟨_, _, rfl⟩
  | build t parts =>
    rw [ho] at hr hx
    refine lift (show op_build E h a t parts = some r from hr) ?_ fun v h' q => op_build_sound hE hH t parts ho (fun x hx' => hx x.2 (by simp only [Op.operands, List.toList_toArray]; exact List.mem_map_of_mem hx')) q
    intro r e
    obtain ⟨_, _, e⟩ := bind_some e
    obtain ⟨_, _, e⟩ := bind_some e
    split at e
    · obtain ⟨_, _, e⟩ := bind_some e; obtain ⟨_, _, e⟩ := bind_some e; cases e; exact ⟨_, _, rfl⟩
    · obtain ⟨_, _, e⟩ := bind_some e; obtain ⟨_, _, e⟩ := bind_some e; cases e; exact ⟨_, _, rfl⟩
    · cases e
  | buildSlice t n parts =>
    rw [ho] at hr hx
    refine lift (show op_buildSlice E h a t n parts = some r from hr) ?_ fun v h' q => op_buildSlice_sound hE hH t n parts ho (fun x hx' => hx x.2 (by simp only [Op.operands, List.toList_toArray]; exact List.mem_map_of_mem hx')) q
    intro r e
    obtain ⟨_, _, e⟩ := bind_some e
    split at e
    · obtain ⟨_, _, e⟩ := bind_some e; obtain ⟨_, _, e⟩ := bind_some e; obtain ⟨_, _, e⟩ := bind_some e
      obtain ⟨_, e⟩ := bif_some e
      cases e; exact ⟨_, _, rfl⟩
    · cases e
  | load t x =>
    rw [ho] at hr hx
    refine lift (show op_load E h a t x = some r from hr) ?_ fun v h' q => op_load_sound hE hH t x ho (hx x (by simp [Op.operands])) q
    intro r e; obtain ⟨_, _, e⟩ := bind_some e; exact litv e
  | store t x y =>
    rw [ho] at hr hx
    refine lift (show op_store E h a t x y = some r from hr) ?_ fun v h' q => op_store_sound hE hH t x y ho (hx x (by simp [Op.operands])) (hx y (by simp [Op.operands])) q
    intro r e; obtain ⟨_, _, e⟩ := bind_some e; obtain ⟨_, _, e⟩ := map_some e; exact ⟨_, _, e.symm⟩
  | nilCheck x =>
    rw [ho] at hr hx
    refine lift (show op_nilCheck E h a x = some r from hr) ?_ fun v h' q => op_nilCheck_sound hH x ho (hx x (by simp [Op.operands])) q
    intro r e; unfold op_nilCheck at e
    split at e <;> first | (cases e; exact ⟨_, _, rfl⟩) | cases e
  | binOp op t x y yt =>
    rw [ho] at hr hx
    exact lift (show op_binOp E h a op t x y = some r from hr) (fun r e => litv e) fun v h' q => op_binOp_sound hE hH op t yt x y ho (hx x (by simp [Op.operands])) (hx y (by simp [Op.operands])) q
  | unOp op t x =>
    rw [ho] at hr hx
    exact lift (show op_unOp E h a op x = some r from hr) (fun r e => litv e) fun v h' q => op_unOp_sound hH op t x ho (hx x (by simp [Op.operands])) q
  | convert s d x =>
    rw [ho] at hr hx
    refine lift (show op_convert E h a s d x = some r from hr) ?_ fun v h' q => op_convert_sound hE hH s d x ho (hx x (by simp [Op.operands])) q
    intro r e
    obtain ⟨_, _, e⟩ := bind_some e
    obtain ⟨_, _, e⟩ := bind_some e
    split at e
    · cases e; exact ⟨_, _, rfl⟩
    · cases e; exact ⟨_, _, rfl⟩
    · obtain ⟨_, _, e⟩ := bind_some e
      split at e
      · cases e; exact ⟨_, _, rfl⟩
      · cases e
    · split at e
      · obtain ⟨_, _, e⟩ := bind_some e
        split at e
        · obtain ⟨_, _, e⟩ := bind_some e; obtain ⟨_, _, e⟩ := bind_some e; cases e; exact ⟨_, _, rfl⟩
        · cases e
      · cases e
    · cases e
  | makeInterface t x =>
    rw [ho] at hr hx
    refine lift (show op_makeInterface E h a t x = some r from hr) ?_ fun v h' q => op_makeInterface_sound hE hH t x ho (hx x (by simp [Op.operands])) q
    intro r e; obtain ⟨_, _, e⟩ := bind_some e
    split at e
    · cases e
    · cases e; exact ⟨_, _, rfl⟩
  | makeFunc fn first captured =>
    rw [ho] at hr hx
    refine lift (show op_makeFunc E h a fn first captured = some r from hr) ?_ fun v h' q => op_makeFunc_sound hH fn first captured ho (fun x hx' => hx x (by simp [Op.operands] at hx' ⊢; exact .inl hx')) (fun x hx' => hx x (by simp [Op.operands] at hx' ⊢; exact .inr hx')) q
    intro r e; obtain ⟨_, e⟩ := bif_some e; cases e; exact ⟨_, _, rfl⟩
  | makeSlice t x y =>
    rw [ho] at hr hx
    refine lift (show op_makeSlice E h a t x y = some r from hr) ?_ fun v h' q => op_makeSlice_sound hE hH t x y ho (hx x (by simp [Op.operands])) (hx y (by simp [Op.operands])) q
    intro r e; obtain ⟨_, _, e⟩ := bind_some e
    split at e
    · obtain ⟨_, _, e⟩ := bind_some e; obtain ⟨_, _, e⟩ := bind_some e; obtain ⟨_, e⟩ := bif_some e; cases e; exact ⟨_, _, rfl⟩
    · cases e
  | slice t x lo hi mx =>
    rw [ho] at hr hx
    refine lift (show op_slice E h a t x lo hi mx = some r from hr) (fun r e => litv e) fun v h' q => op_slice_sound hE hH t x lo hi mx ho (hx x (by simp [Op.operands])) (fun y hy => hx y (by subst hy; simp [Op.operands])) (fun y hy => hx y (by subst hy; simp [Op.operands])) (fun y hy => hx y (by subst hy; simp [Op.operands])) q
  | fieldAddr s x f =>
    rw [ho] at hr hx
    refine lift (show op_fieldAddr E h a s x f = some r from hr) ?_ fun v h' q => op_fieldAddr_sound hE hH s x f ho (hx x (by simp [Op.operands])) q
    intro r e; obtain ⟨_, _, e⟩ := bind_some e
    split at e
    · obtain ⟨_, _, e⟩ := bind_some e; obtain ⟨_, _, e⟩ := bind_some e; obtain ⟨_, _, e⟩ := bind_some e
      revert e
      cases Nat.beq _ 0 with
      | true => intro e; cases e
      | false => intro e; cases e; exact ⟨_, _, rfl⟩
    · cases e
  | field t x f =>
    rw [ho] at hr hx
    refine lift (show op_field E h a t x f = some r from hr) ?_ fun v h' q => op_field_sound hE hH t x f ho (hx x (by simp [Op.operands])) q
    intro r e; obtain ⟨_, _, e⟩ := bind_some e
    split at e
    · obtain ⟨_, _, e⟩ := bind_some e; exact litv e
    · cases e
  | indexAddr t x ix =>
    rw [ho] at hr hx
    refine lift (show op_indexAddr E h a t x ix = some r from hr) ?_ fun v h' q => op_indexAddr_sound hE hH t x ix ho (hx x (by simp [Op.operands])) (hx ix (by simp [Op.operands])) q
    intro r e; obtain ⟨_, _, e⟩ := bind_some e
    split at e
    · obtain ⟨_, _, e⟩ := bind_some e; obtain ⟨_, e⟩ := bif_some e; cases e; exact ⟨_, _, rfl⟩
    · obtain ⟨_, _, e⟩ := bind_some e; obtain ⟨_, e⟩ := bif_some e; cases e; exact ⟨_, _, rfl⟩
    · cases e
  | index t x ix =>
    rw [ho] at hr hx
    refine lift (show op_index E h a t x ix = some r from hr) ?_ fun v h' q => op_index_sound hE hH t x ix ho (hx x (by simp [Op.operands])) (hx ix (by simp [Op.operands])) q
    intro r e; obtain ⟨_, _, e⟩ := bind_some e
    split at e
    · obtain ⟨_, _, e⟩ := bind_some e; obtain ⟨_, e⟩ := bif_some e; exact litv e
    · obtain ⟨_, _, e⟩ := bind_some e; cases e; exact ⟨_, _, rfl⟩
    · cases e
  | extract t ix =>
    rw [ho] at hr hx
    refine lift (show op_extract E h a t ix = some r from hr) ?_ fun v h' q => op_extract_sound hH t ix ho (hx t (by simp [Op.operands])) q
    intro r e; unfold op_extract at e
    split at e
    · exact litv e
    · cases e
  | call cl =>
    rw [ho] at hr hx
    refine op_call_sound hE hH cl ho (fun x hx' => hx x (by simp [Op.operands, Call.operands] at hx' ⊢; exact .inr hx')) (fun f hf => hx f (by simp [Op.operands, Call.operands, hf])) hr
  | _ => rw [ho] at hr; cases hr
end Go.X
