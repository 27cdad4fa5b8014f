/- A part of the evaluator of the model, and of the proof that what it answers is what a call comes to. No conditions of its own. -/
import Derived.Test.YtghaibhkgbccjaaGreatDoorXs
namespace Go.X
open Go
variable {P : Program} {E : Env}

/-- values that are the same -/
theorem optAddrBeq_eq {a b : Option Addr} (h : optAddrBeq a b = true) : a = b := by
  unfold optAddrBeq at h
  split at h
  · rfl
  · rw [natBeq_eq, natBeq_eq] at h; simp at h; rw [h.1, h.2]
  · cases h
theorem optNatBeq_eq {a b : Option Nat} (h : optNatBeq a b = true) : a = b := by
  unfold optNatBeq at h
  split at h
  · rfl
  · rw [natBeq_eq] at h; simp at h; rw [h]
  · cases h
theorem veq0_eq {a b : Value} (h : veq0 a b = true) : a = b := by
  unfold veq0 at h
  split at h
  · simp at h; rw [h]
  · rw [Bool.and_eq_true, intBeq_eq] at h; simp at h; rw [kindBeq_eq h.1, h.2]
  · rename_i a b
    rw [listBeq_eq] at h
    have h' : a.data.toList = b.data.toList := by simpa using h
    have : a = b := by cases a; cases b; simp at h'; rw [h']
    rw [this]
  · rw [optAddrBeq_eq h]
  · rw [Bool.and_eq_true, Bool.and_eq_true, natBeq_eq, natBeq_eq] at h
    simp at h
    rw [optAddrBeq_eq h.1.1, h.1.2, h.2]
  · rw [optNatBeq_eq h]
  · rfl
  · rfl
  · rw [natBeq_eq] at h; simp at h; rw [h]
  · rfl
  · cases h
theorem veqL_eq (a : List Value) : ∀ b, veqL a b = true → a = b := by
  induction a with
  | nil => intro b h; cases b with
    | nil => rfl
    | cons _ _ => cases h
  | cons v a ih => intro b h; cases b with
    | nil => cases h
    | cons u b =>
      have h' : (veq0 v u && veqL a b) = true := h
      rw [Bool.and_eq_true] at h'
      rw [veq0_eq h'.1, ih b h'.2]
theorem veq1_eq {a b : Value} (h : veq1 a b = true) : a = b := by
  unfold veq1 at h
  split at h
  · rename_i a b; have := veqL_eq _ _ h; cases a; cases b; simp at this; rw [this]
  · rename_i a b; have := veqL_eq _ _ h; cases a; cases b; simp at this; rw [this]
  · rw [Bool.and_eq_true, natBeq_eq] at h; simp at h; rw [h.1, veq0_eq h.2]
  · rename_i a c g b d
    rw [Bool.and_eq_true, Bool.and_eq_true, natBeq_eq] at h; simp at h
    have h1 := veqL_eq _ _ h.1.2
    have h2 := veqL_eq _ _ h.2
    cases a; cases b; cases c; cases d
    simp at h1 h2
    rw [h.1.1, h1, h2]
  · exact veq0_eq h
theorem sameObs_eq {al : List (Nat × Nat)} {i : Nat} {o : Oper} {t : B} {v : Value} {h : H} (e : sameObs E al i o t v h = true) : obs E al i o t h = some v := by
  unfold sameObs at e
  cases q : obs E al i o t h with
  | none => rw [q] at e; cases e
  | some u => rw [q] at e; rw [veq1_eq e]

/-- light operations leave the heap -/
theorem light_heap {o : Op} {h h' : H} {a : Operand → Value} {v : Value} (hc : cls E o = 0) (hr : opR o E h a = some (.val v h')) : h' = h := by
  have litv : ∀ {x : Option Value} {v : Value} {h' : H}, lit x h = some (.val v h') → h' = h := by
    intro x v h' e
    obtain ⟨_, _, e⟩ := map_some e
    cases e; rfl
  cases o with
  | move x => cases hr; rfl
  | assign x => cases hr; rfl
  | pick x y z => obtain ⟨_, _, e⟩ := bind_some (show op_pick E h a x y z = _ from hr); cases e; rfl
  | build t parts =>
    obtain ⟨_, _, e⟩ := bind_some (show op_build E h a t parts = _ from hr)
    obtain ⟨_, _, e⟩ := bind_some e
    split at e
    · obtain ⟨_, _, e⟩ := bind_some e; obtain ⟨_, _, e⟩ := bind_some e; cases e; rfl
    · obtain ⟨_, _, e⟩ := bind_some e; obtain ⟨_, _, e⟩ := bind_some e; cases e; rfl
    · cases e
  | load t x => obtain ⟨_, _, e⟩ := bind_some (show op_load E h a t x = _ from hr); exact litv e
  | nilCheck x =>
    have e : op_nilCheck E h a x = _ := hr
    unfold op_nilCheck at e
    split at e <;> first | (cases e; rfl) | cases e
  | binOp op t x y yt => exact litv (show op_binOp E h a op t x y = _ from hr)
  | unOp op t x => exact litv (show op_unOp E h a op x = _ from hr)
  | convert s d x =>
    have hc' : clsT (E.under d) = 0 := hc
    obtain ⟨_, _, e⟩ := bind_some (show op_convert E h a s d x = _ from hr)
    obtain ⟨ud, hud, e⟩ := bind_some e
    rw [hud] at hc'
    split at e
    · cases e; rfl
    · cases e; rfl
    · cases hc'
    · split at e
      · obtain ⟨_, _, e⟩ := bind_some e
        split at e
        · obtain ⟨_, _, e⟩ := bind_some e; obtain ⟨_, _, e⟩ := bind_some e; cases e; rfl
        · cases e
      · cases e
    · cases e
  | makeInterface t x =>
    obtain ⟨_, _, e⟩ := bind_some (show op_makeInterface E h a t x = _ from hr)
    split at e
    · cases e
    · cases e; rfl
  | makeFunc fn first captured => obtain ⟨_, e⟩ := bif_some (show op_makeFunc E h a fn first captured = _ from hr); cases e; rfl
  | slice t x lo hi mx => exact litv (show op_slice E h a t x lo hi mx = _ from hr)
  | fieldAddr s x f =>
    obtain ⟨_, _, e⟩ := bind_some (show op_fieldAddr E h a s x f = _ from hr)
    split at e
    · obtain ⟨_, _, e⟩ := bind_some e; obtain ⟨_, _, e⟩ := bind_some e; obtain ⟨_, _, e⟩ := bind_some e
      revert e
      cases Nat.beq _ 0 with
      | true => intro e; cases e
      | false => intro e; cases e; rfl
    · cases e
  | field t x f =>
    obtain ⟨_, _, e⟩ := bind_some (show op_field E h a t x f = _ from hr)
    split at e
    · obtain ⟨_, _, e⟩ := bind_some e; exact litv e
    · cases e
  | indexAddr t x ix =>
    obtain ⟨_, _, e⟩ := bind_some (show op_indexAddr E h a t x ix = _ from hr)
    split at e
    · obtain ⟨_, _, e⟩ := bind_some e; obtain ⟨_, e⟩ := bif_some e; cases e; rfl
    · obtain ⟨_, _, e⟩ := bind_some e; obtain ⟨_, e⟩ := bif_some e; cases e; rfl
    · cases e
  | index t x ix =>
    obtain ⟨_, _, e⟩ := bind_some (show op_index E h a t x ix = _ from hr)
    split at e
    · obtain ⟨_, _, e⟩ := bind_some e; obtain ⟨_, e⟩ := bif_some e; exact litv e
    · obtain ⟨_, _, e⟩ := bind_some e; cases e; rfl
    · cases e
  | extract t ix =>
    have e : op_extract E h a t ix = _ := hr
    unfold op_extract at e
    split at e
    · exact litv e
    · cases e
  | call cl =>
    have e : op_call E h a cl = _ := hr
    have hc' : clsC cl.callee = 0 := hc
    unfold op_call at e
    split at e
    · rename_i b hb
      rw [hb] at hc'
      have hc2 : clsB b = 0 := hc'
      cases b <;> first | cases hc2 | skip
      unfold builtinR at e
      split at e <;> first | contradiction | skip
      · obtain ⟨_, _, e⟩ := bind_some e
        obtain ⟨_, _, e⟩ := bind_some e
        split at e <;> first | (cases e; rfl) | cases e
    · rename_i f hb; rw [hb] at hc'; cases hc'
    · cases e
  | alloc e => cases hc
  | _ => first | (cases hc; done) | (cases hr; done)

/-- a guard is read from one temporary -/
theorem guardOk_rel2 {ρ : Rho} {t : B} {a : Act} (ops : Array Oper) (o : Oper) (h : ∀ d, guardT ops.toList o.guard = some d → VRel ρ (t.get d) (a.tmps.getD d undef)) {g : Bool} (hg : guardOk ops t o = some g) : Region.wanted o (yielded ops a.tmps) = g := by
  unfold guardOk at hg
  unfold Region.wanted
  split at hg
  · cases hg; rename_i e; simp [e]
  · rename_i j want e
    rw [e] at h
    simp only [e]
    unfold yielded
    rw [nthA_eq, Array.getElem?_toList] at hg
    split at hg
    · rename_i d hd
      have h0 := h d (by show (nthA ops.toList j).bind _ = _; rw [nthA_eq, Array.getElem?_toList]; exact hd)
      rw [hd]
      simp only [Option.bind_some]
      rw [Array.getD_eq_getD_getElem?] at h0
      revert h0 hg
      generalize t.get d = v
      intro hg hv
      cases hq : a.tmps[d]? with
      | none =>
        rw [hq] at hv
        have hv' : VRel ρ v Go.undef := hv
        simp only
        cases hv' with
        | unk => cases hg
        | tuple => cases hg; rfl
      | some V =>
        rw [hq] at hv
        have hv' : VRel ρ v V := hv
        cases hv' <;> first | (cases hg; done) | skip
        · rename_i b; cases hg; cases b <;> cases want <;> rfl
        · cases hg; rfl
    · rename_i hd
      cases hg
      rw [hd]; rfl
theorem oper_sound2 (hE : EnvOk P E) {o : Oper} {ρ : Rho} {b : B} {h : H} {a : Act} {W : World} (hT : ∀ x ∈ o.op.operands.toList, VRel ρ (ev b x) (a.eval x)) (hH : HRel ρ h W)
    {r : R} (hr : opR o.op E h (ev b) = some r) {K : Act → World → Prop} {Q : Exit → Act → World → Prop} {v : Value} {h' : H}
    (hv : r = .val v h' ∨ ∃ f args, r = .enter f args ∧ SoundCall P f args h (.v v h'))
    (hK : ∀ ρ' V W', VRel ρ' v V → HRel ρ' h' W' → Ext ρ h W ρ' h' W' → K (a.put o.dst V) W') : o.wp P a W K Q := by
  have hs := op_sound (P := P) (o := o) hE hH (a := ev b) (c := a.eval) hT hr
  rcases hv with rfl | ⟨f, args, rfl, hc⟩
  · obtain ⟨ρ', W', V, nx, hrun, hnx, k1, k2, k3⟩ := hs
    unfold Oper.wp
    rw [hrun]
    rcases hnx with rfl | ⟨rfl, rfl⟩
    · exact hK _ _ _ k1 k2 k3
    · exact hK _ _ _ k1 k2 k3
  · obtain ⟨ARGS, hA, hrun⟩ := hs
    obtain ⟨⟨fd, body, hfd, hbd⟩, v', h2, he, hcc⟩ := hc
    unfold Oper.wp
    rw [hrun fd body hfd hbd]
    cases he
    refine Calls.mono (hcc ρ ARGS W hA hH) ?_
    intro e W' hp
    cases e with
    | returned V => obtain ⟨ρ', k1, k2, k3⟩ := hp; exact hK _ _ _ k1 k2 k3
    | panicked _ => exact hp.elim
    | outgrown => exact hp.elim

/-- what a heavy operation comes to -/
def Heavy (P : Program) (E : Env) (o : Oper) (b : B) (h : H) (v : Value) (h' : H) : Prop :=
  ∃ r, opR o.op E h (ev b) = some r ∧ (r = .val v h' ∨ ∃ f args, r = .enter f args ∧ SoundCall P f args h (.v v h'))
/-- a region that draws its order, as the evaluator went through it -/
structure Tr where
  Bt : Nat → B
  Gt : Nat → H
  val : Nat → Value
def Tr.wanted (T : Tr) (ops : Array Oper) (k : Nat) (o : Oper) (g : Bool) : Prop := guardOk ops (T.Bt k) o = some g
def StepOk (P : Program) (E : Env) (ops : Array Oper) (al : List (Nat × Nat)) (T : Tr) (k : Nat) (o : Oper) : Prop :=
  T.Bt (k + 1) = putT (T.Bt k) o.dst (T.val k) ∧ ∃ g, T.wanted ops k o g ∧
    (g = false → T.val k = undef ∧ T.Gt (k + 1) = T.Gt k) ∧
    (g = true → (cls E o.op ≠ 2 → obs E al k o (T.Bt k) (T.Gt k) = some (T.val k) ∧ T.Gt (k + 1) = T.Gt k) ∧ (cls E o.op = 2 → Heavy P E o (T.Bt k) (T.Gt k) (T.val k) (T.Gt (k + 1))))
def SoundDrawn (P : Program) (E : Env) (ops : Array Oper) (ps : List Nat) (rest : List Oper) (i : Nat) (al : List (Nat × Nat)) (hist : List (Nat × H)) (pend : List (Nat × Oper × B × Value)) (st : St) (ans : Ans) : Prop :=
  ∃ T : Tr, T.Bt i = st.tmps ∧ T.Gt i = st.h ∧ ans = .a .normal ⟨T.Bt (i + rest.length), st.defs, T.Gt (i + rest.length)⟩ ∧
    ∀ k o, i ≤ k → rest[k - i]? = some o → ∃ p, ps[k]? = some p ∧ StepOk P E ops al T k o ∧
      (T.wanted ops k o true → cls E o.op ≠ 2 →
        (∀ x ∈ hist, bit p x.1 = false → sameObs E al k o (T.Bt k) (T.val k) x.2 = true) ∧
        (∀ j oj, i ≤ j → j < k → rest[j - i]? = some oj → T.wanted ops j oj true → cls E oj.op = 2 → bit p j = false → sameObs E al k o (T.Bt k) (T.val k) (T.Gt j) = true)) ∧
      (T.wanted ops k o true → cls E o.op = 2 →
        (∀ x ∈ pend, bit p x.1 = false → sameObs E al x.1 x.2.1 x.2.2.1 x.2.2.2 (T.Gt (k + 1)) = true) ∧
        (∀ j oj, i ≤ j → j < k → rest[j - i]? = some oj → T.wanted ops j oj true → cls E oj.op ≠ 2 → bit p j = false → sameObs E al j oj (T.Bt j) (T.val j) (T.Gt (k + 1)) = true))
theorem histOk_mem {al : List (Nat × Nat)} {p i : Nat} {o : Oper} {t : B} {v : Value} (hist : List (Nat × H)) (h : histOk E al p i o t v hist = true) : ∀ x ∈ hist, bit p x.1 = false → sameObs E al i o t v x.2 = true := by
  induction hist with
  | nil => intro x hx; cases hx
  | cons y l ih =>
    have h' : ((bit p y.1 || sameObs E al i o t v y.2) && histOk E al p i o t v l) = true := h
    rw [Bool.and_eq_true, Bool.or_eq_true] at h'
    intro x hx hb
    cases hx with
    | head => rcases h'.1 with q | q
              · rw [hb] at q; cases q
              · exact q
    | tail _ hm => exact ih h'.2 x hm hb
theorem pendOk_mem {al : List (Nat × Nat)} {p : Nat} {h : H} (pend : List (Nat × Oper × B × Value)) (hh : pendOk E al p h pend = true) : ∀ x ∈ pend, bit p x.1 = false → sameObs E al x.1 x.2.1 x.2.2.1 x.2.2.2 h = true := by
  induction pend with
  | nil => intro x hx; cases hx
  | cons y l ih =>
    have h' : ((bit p y.1 || sameObs E al y.1 y.2.1 y.2.2.1 y.2.2.2 h) && pendOk E al p h l) = true := hh
    rw [Bool.and_eq_true, Bool.or_eq_true] at h'
    intro x hx hb
    cases hx with
    | head => rcases h'.1 with q | q
              · rw [hb] at q; cases q
              · exact q
    | tail _ hm => exact ih h'.2 x hm hb

theorem drawn_glue {ops : Array Oper} {ps : List Nat} {o : Oper} {rest : List Oper} {i : Nat} {al : List (Nat × Nat)} {hist hist' : List (Nat × H)} {pend pend' : List (Nat × Oper × B × Value)} {st : St} {ans : Ans} {v : Value} {h1 : H} {g : Bool} {p : Nat}
    (hT : SoundDrawn P E ops ps rest (i + 1) al hist' pend' ⟨putT st.tmps o.dst v, st.defs, h1⟩ ans) (hp : ps[i]? = some p) (hg : guardOk ops st.tmps o = some g)
    (h0 : g = false → v = undef ∧ h1 = st.h) (hl : g = true → cls E o.op ≠ 2 → obs E al i o st.tmps st.h = some v ∧ h1 = st.h) (hh : g = true → cls E o.op = 2 → Heavy P E o st.tmps st.h v h1)
    (hx : g = true → cls E o.op ≠ 2 → ∀ x ∈ hist, bit p x.1 = false → sameObs E al i o st.tmps v x.2 = true) (hy : g = true → cls E o.op = 2 → ∀ x ∈ pend, bit p x.1 = false → sameObs E al x.1 x.2.1 x.2.2.1 x.2.2.2 h1 = true)
    (s1 : ∀ x ∈ hist, x ∈ hist') (s2 : g = true → cls E o.op = 2 → (i, st.h) ∈ hist') (s3 : ∀ x ∈ pend, x ∈ pend') (s4 : g = true → cls E o.op ≠ 2 → (i, o, st.tmps, v) ∈ pend') : SoundDrawn P E ops ps (o :: rest) i al hist pend st ans := by
  obtain ⟨T, hB, hG, ha, hk⟩ := hT
  refine ⟨⟨fun k => if k = i then st.tmps else T.Bt k, fun k => if k = i then st.h else T.Gt k, fun k => if k = i then v else T.val k⟩, if_pos rfl, if_pos rfl, ?_, ?_⟩
  · rw [ha]
    have e1 : i + 1 + rest.length ≠ i := by omega
    have e2 : i + (o :: rest).length = i + 1 + rest.length := by simp only [List.length_cons]; omega
    simp only [e2, if_neg e1]
  · intro k ok hik hok
    by_cases hki : k = i
    · subst hki
      have hoo : o = ok := by simpa using hok
      subst hoo
      refine ⟨p, hp, ⟨?_, g, ?_, ?_, ?_⟩, ?_, ?_⟩
      · simp only [if_true, if_neg (show k + 1 ≠ k by omega)]; exact hB
      · show guardOk ops (if k = k then st.tmps else _) o = some g
        rw [if_pos rfl]; exact hg
      · intro q; simp only [if_true, if_neg (show k + 1 ≠ k by omega)]; exact ⟨(h0 q).1, hG.trans (h0 q).2⟩
      · intro q; simp only [if_true, if_neg (show k + 1 ≠ k by omega)]
        exact ⟨fun c => ⟨(hl q c).1, hG.trans (hl q c).2⟩, fun c => by rw [hG]; exact hh q c⟩
      · intro w c
        have w' : guardOk ops (if k = k then st.tmps else T.Bt k) o = some true := w
        rw [if_pos rfl, hg] at w'; cases w'
        simp only [if_true]
        exact ⟨hx rfl c, fun j oj a1 a2 => by omega⟩
      · intro w c
        have w' : guardOk ops (if k = k then st.tmps else T.Bt k) o = some true := w
        rw [if_pos rfl, hg] at w'; cases w'
        simp only [if_true, if_neg (show k + 1 ≠ k by omega), hG]
        exact ⟨hy rfl c, fun j oj a1 a2 => by omega⟩
    · have hgt : i + 1 ≤ k := by omega
      have hidx : ∀ (j : Nat), i + 1 ≤ j → (o :: rest)[j - i]? = rest[j - (i + 1)]? := by
        intro j hj
        rw [show j - i = (j - (i + 1)) + 1 by omega]; rfl
      rw [hidx k hgt] at hok
      obtain ⟨pk, hpk, ⟨c1, gk, c2, c3, c4⟩, c5, c6⟩ := hk k ok hgt hok
      have n1 : k + 1 ≠ i := by omega
      refine ⟨pk, hpk, ⟨?_, gk, ?_, ?_, ?_⟩, ?_, ?_⟩
      · simp only [if_neg hki, if_neg n1]; exact c1
      · show guardOk ops (if k = i then st.tmps else _) ok = some gk
        rw [if_neg hki]; exact c2
      · simp only [if_neg hki, if_neg n1]; exact c3
      · simp only [if_neg hki, if_neg n1]; exact c4
      · intro w c
        have w' : guardOk ops (if k = i then st.tmps else T.Bt k) ok = some true := w
        rw [if_neg hki] at w'
        obtain ⟨d1, d2⟩ := c5 w' c
        simp only [if_neg hki]
        refine ⟨fun x hx => d1 x (s1 x hx), fun j oj a1 a2 a3 a4 a5 a6 => ?_⟩
        by_cases hji : j = i
        · subst hji
          have hoo : o = oj := by simpa using a3
          subst hoo
          have a4' : guardOk ops (if j = j then st.tmps else T.Bt j) o = some true := a4
          rw [if_pos rfl, hg] at a4'; cases a4'
          rw [if_pos rfl]
          exact d1 _ (s2 rfl a5) a6
        · have a4' : guardOk ops (if j = i then st.tmps else T.Bt j) oj = some true := a4
          rw [if_neg hji] at a4' ⊢
          rw [hidx j (by omega)] at a3
          exact d2 j oj (by omega) a2 a3 a4' a5 a6
      · intro w c
        have w' : guardOk ops (if k = i then st.tmps else T.Bt k) ok = some true := w
        rw [if_neg hki] at w'
        obtain ⟨d1, d2⟩ := c6 w' c
        simp only [if_neg n1]
        refine ⟨fun x hx => d1 x (s3 x hx), fun j oj a1 a2 a3 a4 a5 a6 => ?_⟩
        by_cases hji : j = i
        · subst hji
          have hoo : o = oj := by simpa using a3
          subst hoo
          have a4' : guardOk ops (if j = j then st.tmps else T.Bt j) o = some true := a4
          rw [if_pos rfl, hg] at a4'; cases a4'
          rw [if_pos rfl, if_pos rfl]
          exact d1 _ (s4 rfl a5) a6
        · have a4' : guardOk ops (if j = i then st.tmps else T.Bt j) oj = some true := a4
          rw [if_neg hji] at a4' ⊢
          rw [if_neg hji]
          rw [hidx j (by omega)] at a3
          exact d2 j oj (by omega) a2 a3 a4' a5 a6
theorem drawn_trace {ops : Array Oper} {ps : List Nat} {al : List (Nat × Nat)} (hps : drawOk E ops.toList = some ps) : ∀ (rest : List Oper) (n i : Nat) (hist : List (Nat × H)) (pend : List (Nat × Oper × B × Value)) (st : St) (ans : Ans),
    (∀ m, m < n → ∀ f args h ans, run E m (.call f args h) = some ans → SoundCall P f args h ans) → run E n (.drawn ops rest i al hist pend st) = some ans → SoundDrawn P E ops ps rest i al hist pend st ans := by
  intro rest
  induction rest with
  | nil =>
    intro n i hist pend st ans _ hr
    cases n with
    | zero => cases hr
    | succ n =>
      cases hr
      exact ⟨⟨fun _ => st.tmps, fun _ => st.h, fun _ => undef⟩, rfl, rfl, rfl, fun k o _ h => by simp at h⟩
  | cons o rest ih =>
    intro n i hist pend st ans hcall hr
    cases n with
    | zero => cases hr
    | succ n =>
      have hr' : ((drawOk E ops.toList).bind fun ps => (nthA ps i).bind fun p => (guardOk ops st.tmps o).bind fun g => Bool.rec (motive := fun _ => Option Ans) ((run E n) (.drawn ops rest (Nat.add i 1) al hist pend ⟨putT st.tmps o.dst undef, st.defs, st.h⟩))
        (drawnGo E (run E n) ops o rest i p al hist pend st) g) = some ans := hr
      rw [hps] at hr'
      obtain ⟨p, hp, hr2⟩ := bind_some (show (nthA ps i).bind _ = _ from hr')
      obtain ⟨g, hg, hr3⟩ := bind_some hr2
      rw [nthA_eq] at hp
      have hc' : ∀ m, m < n → ∀ f args h ans, run E m (.call f args h) = some ans → SoundCall P f args h ans := fun m hm => hcall m (by omega)
      cases g with
      | false =>
        have := ih n (i + 1) hist pend _ ans hc' hr3
        exact drawn_glue this hp hg (fun _ => ⟨rfl, rfl⟩) (fun q => by cases q) (fun q => by cases q) (fun q => by cases q) (fun q => by cases q) (fun x hx => hx) (fun q => by cases q) (fun x hx => hx) (fun q => by cases q)
      | true =>
        have hr4 : Bool.rec (motive := fun _ => Option Ans)
          ((obs E al i o st.tmps st.h).bind fun v => Bool.rec (motive := fun _ => Option Ans) none
            ((run E n) (.drawn ops rest (Nat.add i 1) al hist ((i, o, st.tmps, v) :: pend) ⟨putT st.tmps o.dst v, st.defs, st.h⟩)) (histOk E al p i o st.tmps v hist))
          ((opR o.op E st.h (ev st.tmps)).bind (heavyK E (run E n) ops rest i p al hist pend o.dst st))
          (Nat.beq (cls E o.op) 2) = some ans := hr3
        rw [natBeq_eq] at hr4
        by_cases hc : cls E o.op = 2
        · simp only [hc, decide_true] at hr4
          obtain ⟨r, hop, hr5⟩ := bind_some hr4
          have key : ∀ v h1, (r = .val v h1 ∨ ∃ f args, r = .enter f args ∧ SoundCall P f args st.h (.v v h1)) → heavyV E (run E n) ops rest i p al hist pend o.dst st v h1 = some ans → SoundDrawn P E ops ps (o :: rest) i al hist pend st ans := by
            intro v h1 hv hq
            obtain ⟨hpd, hq⟩ := rec_some (show Bool.rec (motive := fun _ => Option Ans) none _ (pendOk E al p h1 pend) = some ans from hq)
            have := ih n (i + 1) ((i, st.h) :: hist) pend ⟨putT st.tmps o.dst v, st.defs, h1⟩ ans hc' hq
            exact drawn_glue this hp hg (fun q => by cases q) (fun _ q => absurd hc q) (fun _ _ => ⟨r, hop, hv⟩) (fun _ q => absurd hc q) (fun _ _ => pendOk_mem pend hpd) (fun x hx => .tail _ hx) (fun _ _ => .head _) (fun x hx => hx) (fun _ q => absurd hc q)
          cases r with
          | val v h1 => exact key v h1 (.inl rfl) hr5
          | enter f args =>
            obtain ⟨an, hcl, hq⟩ := bind_some (show ((run E n) (.call f args st.h)).bind (heavyA E (run E n) ops rest i p al hist pend o.dst st) = some ans from hr5)
            cases an with
            | a e s => cases hq
            | v v h1 => exact key v h1 (.inr ⟨f, args, rfl, hcall n (by omega) _ _ _ _ hcl⟩) hq
          | round l args => cases hr5
        · simp only [hc, decide_false] at hr4
          obtain ⟨v, hv, hr5⟩ := bind_some hr4
          obtain ⟨hho, hq⟩ := rec_some hr5
          have := ih n (i + 1) hist ((i, o, st.tmps, v) :: pend) ⟨putT st.tmps o.dst v, st.defs, st.h⟩ ans hc' hq
          exact drawn_glue this hp hg (fun q => by cases q) (fun _ _ => ⟨hv, rfl⟩) (fun _ q => absurd q hc) (fun _ _ => histOk_mem hist hho) (fun _ q => absurd q hc) (fun x hx => hx) (fun _ q => absurd q hc) (fun x hx => .tail _ hx) (fun _ _ => .head _)
end Go.X
