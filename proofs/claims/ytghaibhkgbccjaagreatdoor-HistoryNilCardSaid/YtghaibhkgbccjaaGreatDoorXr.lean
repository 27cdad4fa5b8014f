/- A part of the evaluator of the model, and of the proof that what it answers is what a call comes to. No conditions of its own. -/
import Derived.Test.YtghaibhkgbccjaaGreatDoorXq
namespace Go.X
open Go
variable {P : Program} {E : Env}

def exitOf : AE → Exit | .normal => .normal | .exit id => .exit id | .goto l => .goto l | .ret => .ret
/-- where a piece of code leads -/
def After (ρ : Rho) (h : H) (W : World) (st' : St) (D : List Deferred) (e : AE) : Exit → Act → World → Prop :=
  fun e' a' W' => e' = exitOf e ∧ a'.defers = D ∧ ∃ ρ', TRel ρ' st'.tmps a'.tmps ∧ HRel ρ' st'.h W' ∧ Ext ρ h W ρ' st'.h W'
theorem After.trans {ρ ρ1 : Rho} {h h1 : H} {W W1 : World} {st' : St} {D : List Deferred} {e : AE} (x : Ext ρ h W ρ1 h1 W1) {e' : Exit} {a' : Act} {W' : World} (y : After ρ1 h1 W1 st' D e e' a' W') : After ρ h W st' D e e' a' W' := by
  obtain ⟨h1, h2, ρ', h3, h4, h5⟩ := y
  exact ⟨h1, h2, ρ', h3, h4, x.trans h5⟩
def From (P : Program) (items : List Item → List Item) (Q : Exit → Act → World → Prop) (a : Act) (w : World) : Prop :=
  ∀ (b : Frame) (k : List Item) (cs : List Frame), ∃ e a' w', Q e a' w' ∧ Arrives P (lone (b.at a (items k)) cs w) b k cs e a' w'
theorem From.mono {items : List Item → List Item} {Q Q' : Exit → Act → World → Prop} {a : Act} {w : World} (h : From P items Q a w) (hq : ∀ e a w, Q e a w → Q' e a w) : From P items Q' a w :=
  fun b k cs => let ⟨e, a', w', q, r⟩ := h b k cs; ⟨e, a', w', hq _ _ _ q, r⟩
/-- a loop is met behind its first step -/
def entry : Code → List Item → List Item
  | .loop b, k => .code b :: .inLoop b :: k
  | c, k => .code c :: k
theorem entry_wp {c : Code} {Q : Exit → Act → World → Prop} {a : Act} {w : World} (h : From P (entry c) Q a w) : c.wp P Q a w := by
  intro b k cs
  cases c with
  | loop c => obtain ⟨e, a', w', q, r⟩ := h b k cs; exact ⟨e, a', w', q, .of_steps (.one step_loop) r⟩
  | _ => exact h b k cs

def SoundExec (P : Program) (c : Code) (st : St) (ans : Ans) : Prop :=
  ∃ e st', ans = .a e st' ∧ ∀ (ρ : Rho) (a : Act) (W : World), TRel ρ st.tmps a.tmps → HRel ρ st.h W → From P (entry c) (After ρ st.h W st' a.defers e) a W
def SoundScope (P : Program) (b c : Code) (st : St) (ans : Ans) : Prop :=
  ∃ e st', ans = .a e st' ∧ ∀ (ρ : Rho) (a : Act) (W : World), TRel ρ st.tmps a.tmps → HRel ρ st.h W → From P (fun k => .code c :: .inScope b :: k) (After ρ st.h W st' a.defers e) a W
def SoundRegion (P : Program) (ops : Array Oper) (rest : List Oper) (st : St) (ans : Ans) : Prop :=
  ∃ st', ans = .a .normal st' ∧ ∀ (ρ : Rho) (a : Act) (W : World), TRel ρ st.tmps a.tmps → HRel ρ st.h W → wpList P ops (After ρ st.h W st' a.defers .normal) rest a W
def CallPost (ρ : Rho) (h : H) (W : World) (v : Value) (h' : H) : Ending → World → Prop
  | .returned V, W' => ∃ ρ', VRel ρ' v V ∧ HRel ρ' h' W' ∧ Ext ρ h W ρ' h' W'
  | _, _ => False
def SoundCall (P : Program) (f : FuncId) (args : List Value) (h : H) (ans : Ans) : Prop :=
  (∃ fd body, P.funcs[f]? = some fd ∧ fd.body = some body) ∧ ∃ v h', ans = .v v h' ∧ ∀ (ρ : Rho) (ARGS : List Value) (W : World), VRels ρ args ARGS → HRel ρ h W → Calls P f ARGS.toArray W (CallPost ρ h W v h')

theorem guardOk_rel {ρ : Rho} {t : B} {a : Act} (h : TRel ρ t a.tmps) (ops : Array Oper) (o : Oper) {g : Bool} (hg : guardOk ops t o = some g) : Region.wanted o (yielded ops a.tmps) = g := by
  unfold guardOk at hg
  unfold Region.wanted
  split at hg
  · cases hg; rename_i e; simp [e]
  · rename_i j want e
    simp only [e]
    unfold yielded
    rw [nthA_eq, Array.getElem?_toList] at hg
    split at hg
    · rename_i d hd
      rw [hd]
      simp only [Option.bind_some]
      have hv := h.2 d
      rw [Array.getD_eq_getD_getElem?] at hv
      revert hv hg
      generalize t.get d = v
      intro hg hv
      cases hq : a.tmps[d]? with
      | none =>
        rw [hq] at hv
        have hv' : VRel ρ v Go.undef := hv
        simp only
        cases hv' with
        | unk => cases hg
        | tuple => cases hg; rfl
      | some V =>
        rw [hq] at hv
        have hv' : VRel ρ v V := hv
        cases hv' <;> first | (cases hg; done) | skip
        · rename_i b; cases hg; cases b <;> cases want <;> rfl
        · cases hg; rfl
    · rename_i hd
      cases hg
      rw [hd]; rfl

/-- one operation of a region -/
theorem oper_sound (hE : EnvOk P E) {n : Nat} (hcall : ∀ f args h ans, run E n (.call f args h) = some ans → SoundCall P f args h ans) {o : Oper} {ρ : Rho} {st : St} {a : Act} {W : World} (hT : TRel ρ st.tmps a.tmps) (hH : HRel ρ st.h W)
    {r : R} (hr : opR o.op E st.h (ev st.tmps) = some r) {K : Act → World → Prop} {Q : Exit → Act → World → Prop} {v : Value} {h' : H}
    (hv : r = .val v h' ∨ ∃ f args, r = .enter f args ∧ run E n (.call f args st.h) = some (.v v h'))
    (hK : ∀ ρ' V W', VRel ρ' v V → HRel ρ' h' W' → Ext ρ st.h W ρ' h' W' → K (a.put o.dst V) W') : o.wp P a W K Q := by
  have hs := op_sound (P := P) (o := o) hE hH (a := ev st.tmps) (c := a.eval) (fun x _ => ev_rel hT x) hr
  rcases hv with rfl | ⟨f, args, rfl, hc⟩
  · obtain ⟨ρ', W', V, nx, hrun, hnx, k1, k2, k3⟩ := hs
    unfold Oper.wp
    rw [hrun]
    rcases hnx with rfl | ⟨rfl, rfl⟩
    · exact hK _ _ _ k1 k2 k3
    · exact hK _ _ _ k1 k2 k3
  · obtain ⟨ARGS, hA, hrun⟩ := hs
    obtain ⟨⟨fd, body, hfd, hbd⟩, v', h2, he, hcc⟩ := hcall f args st.h _ hc
    unfold Oper.wp
    rw [hrun fd body hfd hbd]
    cases he
    refine Calls.mono (hcc ρ ARGS W hA hH) ?_
    intro e W' hp
    cases e with
    | returned V => obtain ⟨ρ', k1, k2, k3⟩ := hp; exact hK _ _ _ k1 k2 k3
    | panicked _ => exact hp.elim
    | outgrown => exact hp.elim
theorem put_rel {ρ : Rho} {t : B} {a : Act} (h : TRel ρ t a.tmps) (d : Option Tmp) {v V : Value} (hv : VRel ρ v V) : TRel ρ (putT t d v) (a.put d V).tmps ∧ (a.put d V).defers = a.defers := by
  cases d with
  | none => exact ⟨h, rfl⟩
  | some d => exact ⟨h.set d hv, rfl⟩
theorem ROk_round {ρ : Rho} {h : H} {W : World} {l : Nat} {args : List Value} {s : Sem Next} (h : ROk P ρ h W (.round l args) s) : False := h

theorem region_sound (hE : EnvOk P E) {n : Nat} (hcall : ∀ f args h ans, run E n (.call f args h) = some ans → SoundCall P f args h ans) (hreg : ∀ ops rest st ans, run E n (.region ops rest st) = some ans → SoundRegion P ops rest st ans)
    {ops : Array Oper} {rest : List Oper} {st : St} {ans : Ans} (hr : run E (n + 1) (.region ops rest st) = some ans) : SoundRegion P ops rest st ans := by
  have hr' : regionStep rest E (run E n) ops st = some ans := hr
  cases rest with
  | nil =>
    cases hr'
    exact ⟨st, rfl, fun ρ a W hT hH => ⟨rfl, rfl, ρ, hT, hH, Ext.refl _ _ _⟩⟩
  | cons o rest =>
    have hr2 : regionOp E (run E n) ops o rest st o.guard = some ans := hr'
    have hskip : run E n (.region ops rest ⟨putT st.tmps o.dst undef, st.defs, st.h⟩) = some ans → guardOk ops st.tmps o = some false → SoundRegion P ops (o :: rest) st ans := by
      intro hq hg
      obtain ⟨st', he, hw⟩ := hreg _ _ _ _ hq
      refine ⟨st', he, fun ρ a W hT hH => ?_⟩
      have hwant := guardOk_rel hT ops o hg
      unfold wpList
      rw [if_neg (by rw [hwant]; simp)]
      obtain ⟨p1, p2⟩ := put_rel hT o.dst (VRel.undef ρ)
      have := hw ρ (a.put o.dst undef) W p1 hH
      rw [p2] at this; exact this
    have hgo : regionGo E (run E n) ops o rest st = some ans → guardOk ops st.tmps o = some true → SoundRegion P ops (o :: rest) st ans := by
      intro hq hg
      obtain ⟨r, hop, hq⟩ := bind_some hq
      have key : ∀ v h', (r = .val v h' ∨ ∃ f args, r = .enter f args ∧ run E n (.call f args st.h) = some (.v v h')) → run E n (.region ops rest ⟨putT st.tmps o.dst v, st.defs, h'⟩) = some ans → SoundRegion P ops (o :: rest) st ans := by
        intro v h' hv hq
        obtain ⟨st', he, hw⟩ := hreg _ _ _ _ hq
        refine ⟨st', he, fun ρ a W hT hH => ?_⟩
        have hwant := guardOk_rel hT ops o hg
        unfold wpList
        rw [if_pos hwant]
        refine .inl (oper_sound hE hcall hT hH hop hv ?_)
        intro ρ' V W' k1 k2 k3
        obtain ⟨p1, p2⟩ := put_rel (hT.mono k3.le) o.dst k1
        have := hw ρ' (a.put o.dst V) W' p1 k2
        rw [p2] at this
        have hm : ∀ (l : List Oper) (a : Act) (W : World) (Q Q' : Exit → Act → World → Prop), (∀ e a w, Q e a w → Q' e a w) → wpList P ops Q l a W → wpList P ops Q' l a W := by
          intro l
          induction l with
          | nil => intro a W Q Q' hQ h; exact hQ _ _ _ h
          | cons o l ih =>
            intro a W Q Q' hQ h
            unfold wpList at h ⊢
            split
            · rename_i hw; rw [if_pos hw] at h
              rcases h with h | ⟨h1, a0, w0, h2⟩
              · refine .inl ?_
                unfold Oper.wp at h ⊢
                revert h
                generalize (execOp a.eval o).run P W = res
                intro h
                cases res with
                | ok nx w' =>
                  cases nx <;> simp only [Oper.upon] at h ⊢ <;>
                    first
                      | exact ih _ _ _ _ hQ h
                      | exact Calls.mono h (fun e w'' he => by
                          cases e <;> first | exact ih _ _ _ _ hQ he | exact hQ _ _ _ he | (obtain ⟨a0, w0, h2⟩ := he; exact ⟨a0, w0, hQ _ _ _ h2⟩))
                      | exact Rows.mono h (fun _ _ he => ih _ _ _ _ hQ he)
                | halt x w' => cases x <;> simp only [Oper.upon] at h ⊢ <;> exact hQ _ _ _ h
              · exact .inr ⟨h1, a0, w0, hQ _ _ _ h2⟩
            · rename_i hw; rw [if_neg hw] at h; exact ih _ _ _ _ hQ h
        exact hm _ _ _ _ _ (fun e a w => After.trans k3) this
      cases r with
      | val v h' => exact key v h' (.inl rfl) hq
      | enter f args =>
        obtain ⟨an, hc, hq⟩ := bind_some (show ((run E n) (.call f args st.h)).bind (regionV (run E n) ops rest o.dst st) = some ans from hq)
        cases an with
        | a e s => cases hq
        | v v h' => exact key v h' (.inr ⟨f, args, rfl, hc⟩) hq
      | round l args =>
        cases hq
    unfold regionOp at hr2
    split at hr2
    · rename_i hg
      exact hgo hr2 (by unfold guardOk; rw [hg])
    · obtain ⟨g, hg, hr3⟩ := bind_some hr2
      cases g with
      | false => exact hskip hr3 hg
      | true => exact hgo hr3 hg
end Go.X
