/- A part of the evaluator of the model, and of the proof that what it answers is what a call comes to. No conditions of its own. -/
import Derived.Test.YthbmhdlbphkljaaGreatDoorXq
import Derived.CallsIn
import Derived.TacticsIn
import Derived.OrdersIn
import Derived.RangeFuncIn
namespace Go.X
open Go
variable {P : Program} {E : Env}

def exitOf : AE → Exit | .normal => .normal | .exit id => .exit id | .goto l => .goto l | .ret => .ret
/-- the activation's marks: blocks for the deferred calls of rounds, with none, that are not the evaluator's; they lie from base on -/
def markOf (B : Nat) : Deferred := { target := .collected B, args := #[] }
def Marks (base : Nat) (ρ : Rho) (h : H) (W : World) (D : List Deferred) : Prop :=
  ∃ Bs : List Nat, D = Bs.map markOf ∧ Bs.Nodup ∧ ∀ B ∈ Bs, base ≤ B ∧ B < W.heap.size ∧ W.heap[B]? = some (.deferred (some [])) ∧ ∀ b x r, h.get b = some x → roB x = false → ρ b = some r → r.blk ≠ B
theorem Marks.nil (base : Nat) (ρ : Rho) (h : H) (W : World) : Marks base ρ h W [] := ⟨[], rfl, .nil, fun d hd => by cases hd⟩
theorem Marks.ext {base : Nat} {ρ ρ' : Rho} {h h' : H} {W W' : World} {D : List Deferred} (m : Marks base ρ h W D) (x : Ext ρ h W ρ' h' W') : Marks base ρ' h' W' D := by
  obtain ⟨Bs, e, hn, hB⟩ := m
  refine ⟨Bs, e, hn, fun B hm => ?_⟩
  obtain ⟨h0, h1, h2, h3⟩ := hB B hm
  refine ⟨h0, Nat.lt_of_lt_of_le h1 x.size, (x.kept B h1 h3).trans h2, ?_⟩
  intro b y r k1 k2 k3 k4
  obtain ⟨b0, x0, r0, l1, l2, l3, l4⟩ := x.own b y r k1 k2 k3 (by omega)
  exact h3 b0 x0 r0 l1 l2 l3 (l4.trans k4)
/-- where a piece of code leads -/
def After (base : Nat) (ρ : Rho) (h : H) (W : World) (st' : St) (e : AE) : Exit → Act → World → Prop :=
  fun e' a' W' => e' = exitOf e ∧ ∃ ρ', TRel ρ' st'.tmps a'.tmps ∧ HRel ρ' st'.h W' ∧ Ext ρ h W ρ' st'.h W' ∧ Marks base ρ' st'.h W' a'.defers
theorem After.trans {base : Nat} {ρ ρ1 : Rho} {h h1 : H} {W W1 : World} {st' : St} {e : AE} (x : Ext ρ h W ρ1 h1 W1) {e' : Exit} {a' : Act} {W' : World} (y : After base ρ1 h1 W1 st' e e' a' W') : After base ρ h W st' e e' a' W' := by
  obtain ⟨h1, ρ', h3, h4, h5, h6⟩ := y
  exact ⟨h1, ρ', h3, h4, x.trans h5, h6⟩
/-- frames, that may be those of a round -/
def FW (rr : Option Nat) : Fence := { Fence.wide with round := rr }
theorem room_FW (rr : Option Nat) (n : Nat) : (FW rr).room n := fun _ h => by cases h
theorem si1 {m m' : Machine} (h : Go.step P m = .next m') : StepsIn (Machine.fenced P Fence.wide) P m m' := stepsIn_wide.2 (.one h)
theorem callsIn_FW {rr : Option Nat} {n : Nat} {f : FuncId} {args : Array Value} {w : World} {R : Ending → World → Prop} (h : Calls P f args w R) : CallsIn (FW rr) n P f args w R :=
  (callsIn_wide (n := n)).2 h
def From (rr : Option Nat) (P : Program) (items : List Item → List Item) (Q : Exit → Act → World → Prop) (a : Act) (w : World) : Prop :=
  ∀ (b : Frame) (k : List Item) (cs : List Frame), b.roundOf = rr → ∃ e a' w', Q e a' w' ∧ ArrivesIn (Machine.fenced P Fence.wide) P (lone (b.atR a (items k)) cs w) b k cs e a' w'
theorem From.mono {rr : Option Nat} {items : List Item → List Item} {Q Q' : Exit → Act → World → Prop} {a : Act} {w : World} (h : From rr P items Q a w) (hq : ∀ e a w, Q e a w → Q' e a w) : From rr P items Q' a w :=
  fun b k cs hro => let ⟨e, a', w', q, r⟩ := h b k cs hro; ⟨e, a', w', hq _ _ _ q, r⟩
/-- a loop is met behind its first step -/
def entry : Code → List Item → List Item
  | .loop b, k => .code b :: .inLoop b :: k
  | c, k => .code c :: k
theorem entry_wp {rr : Option Nat} {c : Code} {Q : Exit → Act → World → Prop} {a : Act} {w : World} (h : From rr P (entry c) Q a w) : c.wpIn (FW rr) 0 P Q a w := by
  intro b k cs hro _ _
  cases c with
  | loop c => obtain ⟨e, a', w', q, r⟩ := h b k cs hro; exact ⟨e, a', w', q, .of_steps (si1 stepR_loop) r⟩
  | _ => exact h b k cs hro
theorem from_of {rr : Option Nat} {c : Code} (hne : ∀ b, c ≠ .loop b) {Q : Exit → Act → World → Prop} {a : Act} {w : World} (h : c.wpIn (FW rr) 0 P Q a w) : From rr P (entry c) Q a w := by
  intro b k cs hro
  obtain ⟨e, a', w', q, r⟩ := h b k cs hro trivial (room_FW _ _)
  refine ⟨e, a', w', q, ?_⟩
  cases c <;> first | exact r | exact absurd rfl (hne _)

/-- a piece of code; R = none: in a frame of its own, R = some: in a round's -/
def SoundExec (P : Program) (R : Option Nat) (c : Code) (st : St) (ans : Ans) : Prop :=
  ∃ e st', ans = .a e st' ∧ ∀ (rr : Option Nat) (base : Nat) (ρ : Rho) (a : Act) (W : World), (R = none → rr = none) → base ≤ W.heap.size → TRel ρ st.tmps a.tmps → HRel ρ st.h W → Marks base ρ st.h W a.defers → From rr P (entry c) (After base ρ st.h W st' e) a W
def SoundScope (P : Program) (R : Option Nat) (b c : Code) (st : St) (ans : Ans) : Prop :=
  ∃ e st', ans = .a e st' ∧ ∀ (rr : Option Nat) (base : Nat) (ρ : Rho) (a : Act) (W : World), (R = none → rr = none) → base ≤ W.heap.size → TRel ρ st.tmps a.tmps → HRel ρ st.h W → Marks base ρ st.h W a.defers → From rr P (fun k => .code c :: .inScope b :: k) (After base ρ st.h W st' e) a W
def SoundRegion (P : Program) (ops : Array Oper) (rest : List Oper) (st : St) (ans : Ans) : Prop :=
  ∃ st', ans = .a .normal st' ∧ ∀ (rr : Option Nat) (base : Nat) (ρ0 : Rho) (h0 : H) (W0 : World) (ρ : Rho) (a : Act) (W : World), TRel ρ st.tmps a.tmps → HRel ρ st.h W → Ext ρ0 h0 W0 ρ st.h W → Marks base ρ st.h W a.defers → wpListIn (FW rr) 0 P ops (After base ρ0 h0 W0 st' .normal) rest a W
def CallPost (ρ : Rho) (h : H) (W : World) (v : Value) (h' : H) : Ending → World → Prop
  | .returned V, W' => ∃ ρ', VRel ρ' v V ∧ HRel ρ' h' W' ∧ Ext ρ h W ρ' h' W'
  | _, _ => False
def SoundCall (P : Program) (f : FuncId) (args : List Value) (h : H) (ans : Ans) : Prop :=
  (∃ fd body, P.funcs[f]? = some fd ∧ fd.body = some body) ∧ ∃ v h', ans = .v v h' ∧ ∀ (ρ : Rho) (ARGS : List Value) (W : World), VRels ρ args ARGS → HRel ρ h W → Calls P f ARGS.toArray W (CallPost ρ h W v h')
/-- a round of a loop whose record lies at l -/
def SoundRound (P : Program) (l : Nat) (args : List Value) (h : H) (ans : Ans) : Prop :=
  ∃ v h', ans = .v v h' ∧ ∀ (rr : Option Nat) (st : LoopState) (pd : Option Code) (f0 : FuncId) (tm : B) (ps : List Tmp) (as bd : Code) (d0 : Nat) (ri : RI) (T : Array Value) (fn : FuncId) (d : Nat) (ρ : Rho) (ARGS : List Value) (W : World),
    h.get l = some (.loop st pd f0 tm ps as bd d0) → ρ l = some ri → TRel ρ tm T → W.heap[ri.blk]? = some (.loop { state := st, pending := pd, fn, tmps := T, params := ps.toArray, assign := as, body := bd, defers := d }) →
    VRels ρ args ARGS → args.length = ps.length → HRel ρ h W →
    RoundIn (FW rr) 0 P ri.blk fn ((ps.toArray.zip ARGS.toArray).foldl (fun tmps (t, a) => tmps.setIfInBounds t a) T) as bd W (CallPost ρ h W v h')
/-- what an operation's answer comes to -/
def RAns (P : Program) (r : R) (h : H) (v : Value) (h' : H) : Prop :=
  r = .val v h' ∨ (∃ f args, r = .enter f args ∧ SoundCall P f args h (.v v h')) ∨ ∃ l args, r = .round l args ∧ SoundRound P l args h (.v v h')

/-- a call, with what holds behind it -/
def CallW (P : Program) (f : FuncId) (args : List Value) (h : H) (Q : Value → H → Prop) : Prop :=
  (∃ fd body, P.funcs[f]? = some fd ∧ fd.body = some body) ∧ (∃ v h', Q v h') ∧ ∀ (ρ : Rho) (ARGS : List Value) (W : World), VRels ρ args ARGS → HRel ρ h W → Calls P f ARGS.toArray W fun e W' => ∃ v h', Q v h' ∧ CallPost ρ h W v h' e W'
/-- a call of a function that the machine itself answers -/
def ExtW (P : Program) (f : FuncId) (args : List Value) (h : H) (Q : Value → H → Prop) : Prop :=
  (∃ v h', Q v h') ∧ ∃ fd e, P.funcs[f]? = some fd ∧ fd.body = none ∧ Extern.findNext fd = none ∧ Extern.find fd = some e ∧
    ∀ (ρ : Rho) (ARGS : List Value) (W : World), VRels ρ args ARGS → HRel ρ h W → ∃ v h' ρ' V W', Q v h' ∧ (e ARGS.toArray).run P W = .ok V W' ∧ VRel ρ' v V ∧ HRel ρ' h' W' ∧ Ext ρ h W ρ' h' W'
theorem ExtW.mono {P : Program} {f : FuncId} {args : List Value} {h : H} {Q Q' : Value → H → Prop} (x : ExtW P f args h Q) (hq : ∀ v h, Q v h → Q' v h) : ExtW P f args h Q' := by
  obtain ⟨⟨v, h', q⟩, fd, e, k1, k2, k3, k4, k5⟩ := x
  refine ⟨⟨v, h', hq _ _ q⟩, fd, e, k1, k2, k3, k4, fun ρ ARGS W hA hH => ?_⟩
  obtain ⟨v, h', ρ', V, W', q, r⟩ := k5 ρ ARGS W hA hH
  exact ⟨v, h', ρ', V, W', hq _ _ q, r⟩
/-- a round, with what holds behind it -/
def RoundW (P : Program) (l : Nat) (args : List Value) (h : H) (Q : Value → H → Prop) : Prop :=
  (∃ v h', Q v h') ∧ ∀ (rr : Option Nat) (st : LoopState) (pd : Option Code) (f0 : FuncId) (tm : B) (ps : List Tmp) (as bd : Code) (d0 : Nat) (ri : RI) (T : Array Value) (fn : FuncId) (d : Nat) (ρ : Rho) (ARGS : List Value) (W : World),
    h.get l = some (.loop st pd f0 tm ps as bd d0) → ρ l = some ri → TRel ρ tm T → W.heap[ri.blk]? = some (.loop { state := st, pending := pd, fn, tmps := T, params := ps.toArray, assign := as, body := bd, defers := d }) →
    VRels ρ args ARGS → args.length = ps.length → HRel ρ h W →
    RoundIn (FW rr) 0 P ri.blk fn ((ps.toArray.zip ARGS.toArray).foldl (fun tmps (t, a) => tmps.setIfInBounds t a) T) as bd W (fun e W' => ∃ v h', Q v h' ∧ CallPost ρ h W v h' e W')
theorem CallW.mono {P : Program} {f : FuncId} {args : List Value} {h : H} {Q Q' : Value → H → Prop} (x : CallW P f args h Q) (hq : ∀ v h, Q v h → Q' v h) : CallW P f args h Q' :=
  ⟨x.1, x.2.1.elim fun v y => y.elim fun h' q => ⟨v, h', hq _ _ q⟩, fun ρ ARGS W hA hH => (x.2.2 ρ ARGS W hA hH).mono fun e W' ⟨v, h', q, r⟩ => ⟨v, h', hq _ _ q, r⟩⟩
theorem CallW.one {P : Program} {f : FuncId} {args : List Value} {h : H} {v : Value} {h' : H} (x : CallW P f args h fun v0 h0 => v0 = v ∧ h0 = h') : SoundCall P f args h (.v v h') :=
  ⟨x.1, v, h', rfl, fun ρ ARGS W hA hH => (x.2.2 ρ ARGS W hA hH).mono fun e W' ⟨v0, h0, ⟨e1, e2⟩, r⟩ => by subst e1; subst e2; exact r⟩
theorem CallW.of {P : Program} {f : FuncId} {args : List Value} {h : H} {v : Value} {h' : H} (x : SoundCall P f args h (.v v h')) {Q : Value → H → Prop} (q : Q v h') : CallW P f args h Q := by
  obtain ⟨h1, v', h2, e, hc⟩ := x
  cases e
  exact ⟨h1, ⟨v, h', q⟩, fun ρ ARGS W hA hH => (hc ρ ARGS W hA hH).mono fun e W' r => ⟨v, h', q, r⟩⟩
theorem RoundW.mono {P : Program} {l : Nat} {args : List Value} {h : H} {Q Q' : Value → H → Prop} (x : RoundW P l args h Q) (hq : ∀ v h, Q v h → Q' v h) : RoundW P l args h Q' :=
  ⟨x.1.elim fun v y => y.elim fun h' q => ⟨v, h', hq _ _ q⟩, fun rr st pd f0 tm ps as bd d0 ri T fn d ρ ARGS W e1 e2 e3 e4 e5 e6 e7 => RoundIn.mono (x.2 rr st pd f0 tm ps as bd d0 ri T fn d ρ ARGS W e1 e2 e3 e4 e5 e6 e7) fun e W' ⟨v, h', q, r⟩ => ⟨v, h', hq _ _ q, r⟩⟩
theorem RoundW.of {P : Program} {l : Nat} {args : List Value} {h : H} {v : Value} {h' : H} (x : SoundRound P l args h (.v v h')) {Q : Value → H → Prop} (q : Q v h') : RoundW P l args h Q := by
  obtain ⟨v', h2, e, hc⟩ := x
  cases e
  exact ⟨⟨v, h', q⟩, fun rr st pd f0 tm ps as bd d0 ri T fn d ρ ARGS W e1 e2 e3 e4 e5 e6 e7 => RoundIn.mono (hc rr st pd f0 tm ps as bd d0 ri T fn d ρ ARGS W e1 e2 e3 e4 e5 e6 e7) fun e W' r => ⟨v, h', q, r⟩⟩
/-- what an operation's answer comes to, with what holds behind it -/
def RAnsW (P : Program) (r : R) (h : H) (Q : Value → H → Prop) : Prop :=
  (∃ v h', r = .val v h' ∧ Q v h') ∨ (∃ f args, r = .enter f args ∧ (CallW P f args h Q ∨ ExtW P f args h Q)) ∨ ∃ l args, r = .round l args ∧ RoundW P l args h Q
theorem RAnsW.of {P : Program} {r : R} {h : H} {v : Value} {h' : H} (x : RAns P r h v h') {Q : Value → H → Prop} (q : Q v h') : RAnsW P r h Q := by
  rcases x with rfl | ⟨f, args, rfl, hc⟩ | ⟨l, args, rfl, hc⟩
  · exact .inl ⟨_, _, rfl, q⟩
  · exact .inr (.inl ⟨_, _, rfl, .inl (.of hc q)⟩)
  · exact .inr (.inr ⟨_, _, rfl, .of hc q⟩)
theorem RAnsW.live {P : Program} {r : R} {h : H} {Q : Value → H → Prop} (x : RAnsW P r h Q) : ∃ v h', Q v h' := by
  rcases x with ⟨v, h', rfl, q⟩ | ⟨f, args, rfl, hc | hc⟩ | ⟨l, args, rfl, hc⟩
  · exact ⟨_, _, q⟩
  · exact hc.2.1
  · exact hc.1
  · exact hc.1

theorem guardOk_rel {ρ : Rho} {t : B} {a : Act} (h : TRel ρ t a.tmps) (ops : Array Oper) (o : Oper) {g : Bool} (hg : guardOk ops t o = some g) : Region.wanted o (yielded ops a.tmps) = g := by
  unfold guardOk at hg
  unfold Region.wanted
  split at hg
  · cases hg; rename_i e; simp [e]
  · rename_i j want e
    simp only [e]
    unfold yielded
    rw [nthA_eq, Array.getElem?_toList] at hg
    split at hg
    · rename_i d hd
      rw [hd]
      simp only [Option.bind_some]
      have hv := h.2 d
      rw [Array.getD_eq_getD_getElem?] at hv
      revert hv hg
      generalize t.get d = v
      intro hg hv
      cases hq : a.tmps[d]? with
      | none =>
        rw [hq] at hv
        have hv' : VRel ρ v Go.undef := hv
        simp only
        cases hv' with
        | unk => cases hg
        | tuple => cases hg; rfl
      | some V =>
        rw [hq] at hv
        have hv' : VRel ρ v V := hv
        cases hv' <;> first | (cases hg; done) | skip
        · rename_i b; cases hg; cases b <;> cases want <;> rfl
        · cases hg; rfl
    · rename_i hd
      cases hg
      rw [hd]; rfl

theorem opR_nodefer {o : Op} {h : H} {a : Operand → Value} {r : R} (hr : opR o E h a = some r) : ∀ c, o ≠ .defer c := by
  intro c e; subst e; cases hr
/-- one operation of a region -/
theorem oper_sound2W (hE : EnvOk P E) {rr : Option Nat} {o : Oper} {ρ : Rho} {b : B} {h : H} {a : Act} {W : World} (hT : ∀ x ∈ o.op.operands.toList, VRel ρ (ev b x) (a.eval x)) (hH : HRel ρ h W)
    {r : R} (hr : opR o.op E h (ev b) = some r) {K : Act → World → Prop} {Q : Exit → Act → World → Prop} {Qv : Value → H → Prop}
    (hv : RAnsW P r h Qv)
    (hK : ∀ v h' ρ' V W', Qv v h' → VRel ρ' v V → HRel ρ' h' W' → Ext ρ h W ρ' h' W' → K (a.put o.dst V) W') : o.wpIn (FW rr) 0 P a W K Q := by
  have hs := op_sound (P := P) (o := o) hE hH (a := ev b) (c := a.eval) hT hr
  have hsem : o.semAt (FW rr).round a.eval = execOp a.eval o := Oper.semAt_eq _ _ _ (opR_nodefer hr)
  refine ⟨fun _ _ => trivial, ?_⟩
  rw [hsem]
  rcases hv with ⟨v, h', rfl, hq⟩ | ⟨f, args, rfl, hc | hc⟩ | ⟨l, args, rfl, hc⟩
  · obtain ⟨ρ', W', V, nx, hrun, hnx, k1, k2, k3⟩ := hs
    rw [hrun]
    rcases hnx with rfl | ⟨rfl, rfl⟩
    · exact hK _ _ _ _ _ hq k1 k2 k3
    · exact hK _ _ _ _ _ hq k1 k2 k3
  · obtain ⟨ARGS, hA, hrun, _⟩ := hs
    obtain ⟨⟨fd, body, hfd, hbd⟩, _, hcc⟩ := hc
    rw [hrun fd body hfd hbd]
    refine ⟨(fun h => by cases h), callsIn_FW (Calls.mono (hcc ρ ARGS W hA hH) ?_)⟩
    rintro e W' ⟨v, h', hq, hp⟩
    cases e with
    | returned V => obtain ⟨ρ', k1, k2, k3⟩ := hp; exact hK _ _ _ _ _ hq k1 k2 k3
    | panicked _ => exact hp.elim
    | outgrown => exact hp.elim
  · obtain ⟨ARGS, hA, _, hrun⟩ := hs
    obtain ⟨_, fd, e, hfd, hbd, hn, he, hcc⟩ := hc
    obtain ⟨v, h', ρ', V, W', hq, hr, k1, k2, k3⟩ := hcc ρ ARGS W hA hH
    rw [hrun fd e V W' hfd hbd hn he hr]
    exact hK _ _ _ _ _ hq k1 k2 k3
  · obtain ⟨st, pd, f0, tm, ps, as, bd, d0, ri, T, fn, d, ARGS, h1, h2, h3, h4, h5, h6, hrun⟩ := hs
    obtain ⟨_, hcc⟩ := hc
    rw [hrun]
    refine ⟨(fun h => by cases h), RoundIn.mono (hcc rr st pd f0 tm ps as bd d0 ri T fn d ρ ARGS W h1 h2 h3 h4 h5 h6 hH) ?_⟩
    rintro e W' ⟨v, h', hq, hp⟩
    cases e with
    | returned V => obtain ⟨ρ', k1, k2, k3⟩ := hp; exact hK _ _ _ _ _ hq k1 k2 k3
    | panicked _ => exact hp.elim
    | outgrown => exact hp.elim
/-- an operation, with what holds behind it -/
def OperW (P : Program) (o : Oper) (b : B) (h : H) (Qv : Value → H → Prop) : Prop :=
  (∃ v h', Qv v h') ∧ ∀ (rr : Option Nat) (ρ : Rho) (a : Act) (W : World) (K : Act → World → Prop) (Q : Exit → Act → World → Prop), (∀ x ∈ o.op.operands.toList, VRel ρ (ev b x) (a.eval x)) → HRel ρ h W →
    (∀ v h' ρ' V W', Qv v h' → VRel ρ' v V → HRel ρ' h' W' → Ext ρ h W ρ' h' W' → K (a.put o.dst V) W') → o.wpIn (FW rr) 0 P a W K Q
theorem OperW.of (hE : EnvOk P E) {o : Oper} {b : B} {h : H} {r : R} (hr : opR o.op E h (ev b) = some r) {Qv : Value → H → Prop} (hv : RAnsW P r h Qv) : OperW P o b h Qv :=
  ⟨hv.live, fun rr ρ a W K Q hT hH hK => oper_sound2W hE hT hH hr hv hK⟩
theorem OperW.mono {o : Oper} {b : B} {h : H} {Q Q' : Value → H → Prop} (x : OperW P o b h Q) (hq : ∀ v h, Q v h → Q' v h) : OperW P o b h Q' :=
  ⟨x.1.elim fun v y => y.elim fun h' q => ⟨v, h', hq _ _ q⟩, fun rr ρ a W K Qx hT hH hK => x.2 rr ρ a W K Qx hT hH fun v h' ρ' V W' q => hK v h' ρ' V W' (hq _ _ q)⟩
theorem oper_sound2 (hE : EnvOk P E) {rr : Option Nat} {o : Oper} {ρ : Rho} {b : B} {h : H} {a : Act} {W : World} (hT : ∀ x ∈ o.op.operands.toList, VRel ρ (ev b x) (a.eval x)) (hH : HRel ρ h W)
    {r : R} (hr : opR o.op E h (ev b) = some r) {K : Act → World → Prop} {Q : Exit → Act → World → Prop} {v : Value} {h' : H}
    (hv : RAns P r h v h')
    (hK : ∀ ρ' V W', VRel ρ' v V → HRel ρ' h' W' → Ext ρ h W ρ' h' W' → K (a.put o.dst V) W') : o.wpIn (FW rr) 0 P a W K Q :=
  oper_sound2W hE hT hH hr (Qv := fun v0 h0 => v0 = v ∧ h0 = h') (.of hv ⟨rfl, rfl⟩) fun v0 h0 ρ' V W' ⟨e1, e2⟩ k1 k2 k3 => by subst e1; subst e2; exact hK ρ' V W' k1 k2 k3
theorem put_rel {ρ : Rho} {t : B} {a : Act} (h : TRel ρ t a.tmps) (d : Option Tmp) {v V : Value} (hv : VRel ρ v V) : TRel ρ (putT t d v) (a.put d V).tmps ∧ (a.put d V).defers = a.defers := by
  cases d with
  | none => exact ⟨h, rfl⟩
  | some d => exact ⟨h.set d hv, rfl⟩

theorem region_sound (hE : EnvOk P E) {n : Nat} (hcall : ∀ f args h ans, run E n (.call f args h) = some ans → SoundCall P f args h ans) (hround : ∀ l args h ans, run E n (.round l args h) = some ans → SoundRound P l args h ans) (hreg : ∀ ops rest st ans, run E n (.region ops rest st) = some ans → SoundRegion P ops rest st ans)
    {ops : Array Oper} {rest : List Oper} {st : St} {ans : Ans} (hr : run E (n + 1) (.region ops rest st) = some ans) : SoundRegion P ops rest st ans := by
  have hr' : regionStep rest E (run E n) ops st = some ans := hr
  cases rest with
  | nil =>
    cases hr'
    exact ⟨st, rfl, fun rr base ρ0 h0 W0 ρ a W hT hH hX hM => ⟨rfl, ρ, hT, hH, hX, hM⟩⟩
  | cons o rest =>
    have hr2 : regionOp E (run E n) ops o rest st o.guard = some ans := hr'
    have hskip : run E n (.region ops rest ⟨putT st.tmps o.dst undef, st.defs, st.h⟩) = some ans → guardOk ops st.tmps o = some false → SoundRegion P ops (o :: rest) st ans := by
      intro hq hg
      obtain ⟨st', he, hw⟩ := hreg _ _ _ _ hq
      refine ⟨st', he, fun rr base ρ0 h0 W0 ρ a W hT hH hX hM => ?_⟩
      have hwant := guardOk_rel hT ops o hg
      unfold wpListIn
      rw [if_neg (by rw [hwant]; simp)]
      obtain ⟨p1, p2⟩ := put_rel hT o.dst (VRel.undef ρ)
      exact ⟨fun _ _ => trivial, hw rr base ρ0 h0 W0 ρ (a.put o.dst undef) W p1 hH hX (by rw [p2]; exact hM)⟩
    have hgo : regionGo E (run E n) ops o rest st = some ans → guardOk ops st.tmps o = some true → SoundRegion P ops (o :: rest) st ans := by
      intro hq hg
      obtain ⟨r, hop, hq⟩ := bind_some hq
      have key : ∀ v h', RAns P r st.h v h' → run E n (.region ops rest ⟨putT st.tmps o.dst v, st.defs, h'⟩) = some ans → SoundRegion P ops (o :: rest) st ans := by
        intro v h' hv hq
        obtain ⟨st', he, hw⟩ := hreg _ _ _ _ hq
        refine ⟨st', he, fun rr base ρ0 h0 W0 ρ a W hT hH hX hM => ?_⟩
        have hwant := guardOk_rel hT ops o hg
        unfold wpListIn
        rw [if_pos hwant]
        refine oper_sound2 hE (fun x _ => ev_rel hT x) hH hop hv ?_
        intro ρ' V W' k1 k2 k3
        obtain ⟨p1, p2⟩ := put_rel (hT.mono k3.le) o.dst k1
        exact hw rr base ρ0 h0 W0 ρ' (a.put o.dst V) W' p1 k2 (hX.trans k3) (by rw [p2]; exact hM.ext k3)
      cases r with
      | val v h' => exact key v h' (.inl rfl) hq
      | enter f args =>
        obtain ⟨an, hc, hq⟩ := bind_some (show ((run E n) (.call f args st.h)).bind (regionV (run E n) ops rest o.dst st) = some ans from hq)
        cases an with
        | a e s => cases hq
        | v v h' => exact key v h' (.inr (.inl ⟨f, args, rfl, hcall f args st.h _ hc⟩)) hq
      | round l args =>
        obtain ⟨an, hc, hq⟩ := bind_some (show ((run E n) (.round l args st.h)).bind (regionV (run E n) ops rest o.dst st) = some ans from hq)
        cases an with
        | a e s => cases hq
        | v v h' => exact key v h' (.inr (.inr ⟨l, args, rfl, hround l args st.h _ hc⟩)) hq
    unfold regionOp at hr2
    split at hr2
    · rename_i hg
      exact hgo hr2 (by unfold guardOk; rw [hg])
    · obtain ⟨g, hg, hr3⟩ := bind_some hr2
      cases g with
      | false => exact hskip hr3 hg
      | true => exact hgo hr3 hg
end Go.X
