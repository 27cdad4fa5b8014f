/- A part of the evaluator of the model, and of the proof that what it answers is what a call comes to. No conditions of its own. -/
import Derived.Test.YthbmhdlbphkljaaGreatDoorXs
namespace Go.X
open Go
variable {P : Program} {E : Env}

/-- values that are the same -/
theorem optAddrBeq_eq {a b : Option Addr} (h : optAddrBeq a b = true) : a = b := by
  unfold optAddrBeq at h
  split at h
  · rfl
  · rw [natBeq_eq, natBeq_eq] at h; simp at h; rw [h.1, h.2]
  · cases h
theorem optNatBeq_eq {a b : Option Nat} (h : optNatBeq a b = true) : a = b := by
  unfold optNatBeq at h
  split at h
  · rfl
  · rw [natBeq_eq] at h; simp at h; rw [h]
  · cases h
theorem veq0_eq {a b : Value} (h : veq0 a b = true) : a = b := by
  unfold veq0 at h
  split at h
  · simp at h; rw [h]
  · rw [Bool.and_eq_true, intBeq_eq] at h; simp at h; rw [kindBeq_eq h.1, h.2]
  · rename_i a b
    rw [listBeq_eq] at h
    have h' : a.data.toList = b.data.toList := by simpa using h
    have : a = b := by cases a; cases b; simp at h'; rw [h']
    rw [this]
  · rw [optAddrBeq_eq h]
  · rw [Bool.and_eq_true, Bool.and_eq_true, natBeq_eq, natBeq_eq] at h
    simp at h
    rw [optAddrBeq_eq h.1.1, h.1.2, h.2]
  · rw [optNatBeq_eq h]
  · rfl
  · rfl
  · rw [natBeq_eq] at h; simp at h; rw [h]
  · rfl
  · cases h
theorem veqL_eq (a : List Value) : ∀ b, veqL a b = true → a = b := by
  induction a with
  | nil => intro b h; cases b with
    | nil => rfl
    | cons _ _ => cases h
  | cons v a ih => intro b h; cases b with
    | nil => cases h
    | cons u b =>
      have h' : (veq0 v u && veqL a b) = true := h
      rw [Bool.and_eq_true] at h'
      rw [veq0_eq h'.1, ih b h'.2]
theorem veq1_eq {a b : Value} (h : veq1 a b = true) : a = b := by
  unfold veq1 at h
  split at h
  · rename_i a b; have := veqL_eq _ _ h; cases a; cases b; simp at this; rw [this]
  · rename_i a b; have := veqL_eq _ _ h; cases a; cases b; simp at this; rw [this]
  · rw [Bool.and_eq_true, natBeq_eq] at h; simp at h; rw [h.1, veq0_eq h.2]
  · rename_i a c g b d
    rw [Bool.and_eq_true, Bool.and_eq_true, natBeq_eq] at h; simp at h
    have h1 := veqL_eq _ _ h.1.2
    have h2 := veqL_eq _ _ h.2
    cases a; cases b; cases c; cases d
    simp at h1 h2
    rw [h.1.1, h1, h2]
  · exact veq0_eq h
theorem sameObs_eq {al : List (Nat × Nat)} {i : Nat} {o : Oper} {t : B} {v : Value} {h : H} (e : sameObs E al i o t v h = true) : obs E al i o t h = some v := by
  unfold sameObs at e
  cases q : obs E al i o t h with
  | none => rw [q] at e; cases e
  | some u => rw [q] at e; rw [veq1_eq e]

/-- light operations leave the heap -/
theorem light_heap {o : Op} {h h' : H} {a : Operand → Value} {v : Value} (hc : cls E o = 0) (hr : opR o E h a = some (.val v h')) : h' = h := by
  have litv : ∀ {x : Option Value} {v : Value} {h' : H}, lit x h = some (.val v h') → h' = h := by
    intro x v h' e
    obtain ⟨_, _, e⟩ := map_some e
    cases e; rfl
  cases o with
  | move x => cases hr; rfl
  | assign x => cases hr; rfl
  | pick x y z => obtain ⟨_, _, e⟩ := bind_some (show op_pick E h a x y z = _ from hr); cases e; rfl
  | build t parts =>
    obtain ⟨_, _, e⟩ := bind_some (show op_build E h a t parts = _ from hr)
    obtain ⟨_, _, e⟩ := bind_some e
    split at e
    · obtain ⟨_, _, e⟩ := bind_some e; obtain ⟨_, _, e⟩ := bind_some e; cases e; rfl
    · obtain ⟨_, _, e⟩ := bind_some e; obtain ⟨_, _, e⟩ := bind_some e; cases e; rfl
    · cases e
  | load t x => obtain ⟨_, _, e⟩ := bind_some (show op_load E h a t x = _ from hr); exact litv e
  | nilCheck x =>
    have e : op_nilCheck E h a x = _ := hr
    unfold op_nilCheck at e
    split at e <;> first | (cases e; rfl) | cases e
  | binOp op t x y yt => exact litv (show op_binOp E h a op t x y = _ from hr)
  | unOp op t x => exact litv (show op_unOp E h a op x = _ from hr)
  | convert s d x =>
    have hc' : clsT (E.under d) = 0 := hc
    obtain ⟨_, _, e⟩ := bind_some (show op_convert E h a s d x = _ from hr)
    obtain ⟨ud, hud, e⟩ := bind_some e
    rw [hud] at hc'
    split at e
    · cases e; rfl
    · cases e; rfl
    · cases hc'
    · split at e
      · obtain ⟨_, _, e⟩ := bind_some e
        split at e
        · obtain ⟨_, _, e⟩ := bind_some e; obtain ⟨_, _, e⟩ := bind_some e; cases e; rfl
        · cases e
      · cases e
    · exact litv e
    · exact litv e
    · cases e
  | makeInterface t x =>
    obtain ⟨_, _, e⟩ := bind_some (show op_makeInterface E h a t x = _ from hr)
    split at e
    · cases e
    · cases e; rfl
  | makeFunc fn first captured => obtain ⟨_, e⟩ := bif_some (show op_makeFunc E h a fn first captured = _ from hr); cases e; rfl
  | slice t x lo hi mx => exact litv (show op_slice E h a t x lo hi mx = _ from hr)
  | fieldAddr s x f =>
    obtain ⟨_, _, e⟩ := bind_some (show op_fieldAddr E h a s x f = _ from hr)
    split at e
    · obtain ⟨_, _, e⟩ := bind_some e; obtain ⟨_, _, e⟩ := bind_some e; obtain ⟨_, _, e⟩ := bind_some e
      revert e
      cases Nat.beq _ 0 with
      | true => intro e; cases e
      | false => intro e; cases e; rfl
    · cases e
  | field t x f =>
    obtain ⟨_, _, e⟩ := bind_some (show op_field E h a t x f = _ from hr)
    split at e
    · obtain ⟨_, _, e⟩ := bind_some e; exact litv e
    · cases e
  | indexAddr t x ix =>
    obtain ⟨_, _, e⟩ := bind_some (show op_indexAddr E h a t x ix = _ from hr)
    split at e
    · obtain ⟨_, _, e⟩ := bind_some e; obtain ⟨_, e⟩ := bif_some e; cases e; rfl
    · obtain ⟨_, _, e⟩ := bind_some e; obtain ⟨_, e⟩ := bif_some e; cases e; rfl
    · cases e
  | index t x ix =>
    obtain ⟨_, _, e⟩ := bind_some (show op_index E h a t x ix = _ from hr)
    split at e
    · obtain ⟨_, _, e⟩ := bind_some e; obtain ⟨_, e⟩ := bif_some e; exact litv e
    · obtain ⟨_, _, e⟩ := bind_some e; cases e; rfl
    · cases e
  | extract t ix =>
    have e : op_extract E h a t ix = _ := hr
    unfold op_extract at e
    split at e
    · exact litv e
    · cases e
  | call cl =>
    have e : op_call E h a cl = _ := hr
    have hc' : clsC cl.callee = 0 := hc
    unfold op_call at e
    split at e
    · rename_i b hb
      rw [hb] at hc'
      have hc2 : clsB b = 0 := hc'
      cases b <;> first | cases hc2 | skip
      unfold builtinR at e
      split at e <;> first | contradiction | skip
      · obtain ⟨_, _, e⟩ := bind_some e
        obtain ⟨_, _, e⟩ := bind_some e
        split at e <;> first | (cases e; rfl) | cases e
    · rename_i f hb; rw [hb] at hc'; cases hc'
    · cases e
  | alloc e => cases hc
  | _ => first | (cases hc; done) | (cases hr; done)

/-- a guard is read from one temporary -/
theorem guardOk_rel2 {ρ : Rho} {t : B} {a : Act} (ops : Array Oper) (o : Oper) (h : ∀ d, guardT ops.toList o.guard = some d → VRel ρ (t.get d) (a.tmps.getD d undef)) {g : Bool} (hg : guardOk ops t o = some g) : Region.wanted o (yielded ops a.tmps) = g := by
  unfold guardOk at hg
  unfold Region.wanted
  split at hg
  · cases hg; rename_i e; simp [e]
  · rename_i j want e
    rw [e] at h
    simp only [e]
    unfold yielded
    rw [nthA_eq, Array.getElem?_toList] at hg
    split at hg
    · rename_i d hd
      have h0 := h d (by show (nthA ops.toList j).bind _ = _; rw [nthA_eq, Array.getElem?_toList]; exact hd)
      rw [hd]
      simp only [Option.bind_some]
      rw [Array.getD_eq_getD_getElem?] at h0
      revert h0 hg
      generalize t.get d = v
      intro hg hv
      cases hq : a.tmps[d]? with
      | none =>
        rw [hq] at hv
        have hv' : VRel ρ v Go.undef := hv
        simp only
        cases hv' with
        | unk => cases hg
        | tuple => cases hg; rfl
      | some V =>
        rw [hq] at hv
        have hv' : VRel ρ v V := hv
        cases hv' <;> first | (cases hg; done) | skip
        · rename_i b; cases hg; cases b <;> cases want <;> rfl
        · cases hg; rfl
    · rename_i hd
      cases hg
      rw [hd]; rfl
/-- a region that draws its order, as the evaluator went through it -/
structure Tr where
  Bt : Nat → B
  Gt : Nat → H
  val : Nat → Value
def Tr.wanted (T : Tr) (ops : Array Oper) (k : Nat) (o : Oper) (g : Bool) : Prop := guardOk ops (T.Bt k) o = some g
def StepOk (P : Program) (E : Env) (ops : Array Oper) (al : List (Nat × Nat)) (T : Tr) (k : Nat) (o : Oper) : Prop :=
  T.Bt (k + 1) = putT (T.Bt k) o.dst (T.val k) ∧ ∃ g, T.wanted ops k o g ∧
    (g = false → T.val k = undef ∧ T.Gt (k + 1) = T.Gt k) ∧
    (g = true → cls E o.op ≠ 2 → obs E al k o (T.Bt k) (T.Gt k) = some (T.val k) ∧ T.Gt (k + 1) = T.Gt k)
def DrawnT (P : Program) (E : Env) (ops : Array Oper) (ps : List Nat) (rest : List Oper) (i : Nat) (al : List (Nat × Nat)) (hist : List (Nat × H)) (pend : List (Nat × Oper × B × Value)) (t : B) (h : H) (T : Tr) : Prop :=
  T.Bt i = t ∧ T.Gt i = h ∧
    ∀ k o, i ≤ k → rest[k - i]? = some o → ∃ p, ps[k]? = some p ∧ StepOk P E ops al T k o ∧
      (T.wanted ops k o true → cls E o.op ≠ 2 →
        (∀ x ∈ hist, bit p x.1 = false → obs E al k o (T.Bt k) x.2 = some (T.val k)) ∧
        (∀ j oj, i ≤ j → j < k → rest[j - i]? = some oj → T.wanted ops j oj true → cls E oj.op = 2 → bit p j = false → obs E al k o (T.Bt k) (T.Gt j) = some (T.val k))) ∧
      (T.wanted ops k o true → cls E o.op = 2 →
        (∀ x ∈ pend, bit p x.1 = false → obs E al x.1 x.2.1 x.2.2.1 (T.Gt (k + 1)) = some x.2.2.2) ∧
        (∀ j oj, i ≤ j → j < k → rest[j - i]? = some oj → T.wanted ops j oj true → cls E oj.op ≠ 2 → bit p j = false → obs E al j oj (T.Bt j) (T.Gt (k + 1)) = some (T.val j)))
def agree (i k : Nat) (T T' : Tr) : Prop := (∀ j, i ≤ j → j ≤ k → T'.Bt j = T.Bt j ∧ T'.Gt j = T.Gt j) ∧ ∀ j, i ≤ j → j < k → T'.val j = T.val j
/-- all ways through a region that draws its order: of each heavy operation whatever it may answer -/
def SoundDrawn (P : Program) (E : Env) (ops : Array Oper) (ps : List Nat) (rest : List Oper) (i : Nat) (al : List (Nat × Nat)) (hist : List (Nat × H)) (pend : List (Nat × Oper × B × Value)) (t : B) (h : H) (K : B → H → Prop) : Prop :=
  ∃ mem : Tr → Prop, (∃ T, mem T) ∧ (∀ T, mem T → DrawnT P E ops ps rest i al hist pend t h T ∧ K (T.Bt (i + rest.length)) (T.Gt (i + rest.length))) ∧
    ∀ T, mem T → ∀ k o, i ≤ k → rest[k - i]? = some o → T.wanted ops k o true → cls E o.op = 2 → OperW P o (T.Bt k) (T.Gt k) fun v h' => ∃ T', mem T' ∧ agree i k T T' ∧ T'.val k = v ∧ T'.Gt (k + 1) = h'
def Tr.upd (T : Tr) (i : Nat) (t : B) (h : H) (v : Value) : Tr := ⟨fun k => if k = i then t else T.Bt k, fun k => if k = i then h else T.Gt k, fun k => if k = i then v else T.val k⟩
theorem histOk_mem {al : List (Nat × Nat)} {p i : Nat} {o : Oper} {t : B} {v : Value} (hist : List (Nat × H)) (h : histOk E al p i o t v hist = true) : ∀ x ∈ hist, bit p x.1 = false → obs E al i o t x.2 = some v := by
  induction hist with
  | nil => intro x hx; cases hx
  | cons y l ih =>
    have h' : ((bit p y.1 || sameObs E al i o t v y.2) && histOk E al p i o t v l) = true := h
    rw [Bool.and_eq_true, Bool.or_eq_true] at h'
    intro x hx hb
    cases hx with
    | head => rcases h'.1 with q | q
              · rw [hb] at q; cases q
              · exact sameObs_eq q
    | tail _ hm => exact ih h'.2 x hm hb
theorem pendOk_mem {al : List (Nat × Nat)} {p : Nat} {h : H} (pend : List (Nat × Oper × B × Value)) (hh : pendOk E al p h pend = true) : ∀ x ∈ pend, bit p x.1 = false → obs E al x.1 x.2.1 x.2.2.1 h = some x.2.2.2 := by
  induction pend with
  | nil => intro x hx; cases hx
  | cons y l ih =>
    have h' : ((bit p y.1 || sameObs E al y.1 y.2.1 y.2.2.1 y.2.2.2 h) && pendOk E al p h l) = true := hh
    rw [Bool.and_eq_true, Bool.or_eq_true] at h'
    intro x hx hb
    cases hx with
    | head => rcases h'.1 with q | q
              · rw [hb] at q; cases q
              · exact sameObs_eq q
    | tail _ hm => exact ih h'.2 x hm hb

theorem drawn_glue {ops : Array Oper} {ps : List Nat} {o : Oper} {rest : List Oper} {i : Nat} {al : List (Nat × Nat)} {hist hist' : List (Nat × H)} {pend pend' : List (Nat × Oper × B × Value)} {t : B} {h : H} {v : Value} {h1 : H} {g : Bool} {p : Nat} {T : Tr}
    (hT : DrawnT P E ops ps rest (i + 1) al hist' pend' (putT t o.dst v) h1 T) (hp : ps[i]? = some p) (hg : guardOk ops t o = some g)
    (h0 : g = false → v = undef ∧ h1 = h) (hl : g = true → cls E o.op ≠ 2 → obs E al i o t h = some v ∧ h1 = h)
    (hx : g = true → cls E o.op ≠ 2 → ∀ x ∈ hist, bit p x.1 = false → obs E al i o t x.2 = some v) (hy : g = true → cls E o.op = 2 → ∀ x ∈ pend, bit p x.1 = false → obs E al x.1 x.2.1 x.2.2.1 h1 = some x.2.2.2)
    (s1 : ∀ x ∈ hist, x ∈ hist') (s2 : g = true → cls E o.op = 2 → (i, h) ∈ hist') (s3 : ∀ x ∈ pend, x ∈ pend') (s4 : g = true → cls E o.op ≠ 2 → (i, o, t, v) ∈ pend') : DrawnT P E ops ps (o :: rest) i al hist pend t h (T.upd i t h v) := by
  obtain ⟨hB, hG, hk⟩ := hT
  refine ⟨if_pos rfl, if_pos rfl, ?_⟩
  unfold Tr.upd
  · intro k ok hik hok
    by_cases hki : k = i
    · subst hki
      have hoo : o = ok := by simpa using hok
      subst hoo
      refine ⟨p, hp, ⟨?_, g, ?_, ?_, ?_⟩, ?_, ?_⟩
      · simp only [if_true, if_neg (show k + 1 ≠ k by omega)]; exact hB
      · show guardOk ops (if k = k then t else _) o = some g
        rw [if_pos rfl]; exact hg
      · intro q; simp only [if_true, if_neg (show k + 1 ≠ k by omega)]; exact ⟨(h0 q).1, hG.trans (h0 q).2⟩
      · intro q c; simp only [if_true, if_neg (show k + 1 ≠ k by omega)]
        exact ⟨(hl q c).1, hG.trans (hl q c).2⟩
      · intro w c
        have w' : guardOk ops (if k = k then t else T.Bt k) o = some true := w
        rw [if_pos rfl, hg] at w'; cases w'
        simp only [if_true]
        exact ⟨hx rfl c, fun j oj a1 a2 => by omega⟩
      · intro w c
        have w' : guardOk ops (if k = k then t else T.Bt k) o = some true := w
        rw [if_pos rfl, hg] at w'; cases w'
        simp only [if_true, if_neg (show k + 1 ≠ k by omega), hG]
        exact ⟨hy rfl c, fun j oj a1 a2 => by omega⟩
    · have hgt : i + 1 ≤ k := by omega
      have hidx : ∀ (j : Nat), i + 1 ≤ j → (o :: rest)[j - i]? = rest[j - (i + 1)]? := by
        intro j hj
        rw [show j - i = (j - (i + 1)) + 1 by omega]; rfl
      rw [hidx k hgt] at hok
      obtain ⟨pk, hpk, ⟨c1, gk, c2, c3, c4⟩, c5, c6⟩ := hk k ok hgt hok
      have n1 : k + 1 ≠ i := by omega
      refine ⟨pk, hpk, ⟨?_, gk, ?_, ?_, ?_⟩, ?_, ?_⟩
      · simp only [if_neg hki, if_neg n1]; exact c1
      · show guardOk ops (if k = i then t else _) ok = some gk
        rw [if_neg hki]; exact c2
      · simp only [if_neg hki, if_neg n1]; exact c3
      · simp only [if_neg hki, if_neg n1]; exact c4
      · intro w c
        have w' : guardOk ops (if k = i then t else T.Bt k) ok = some true := w
        rw [if_neg hki] at w'
        obtain ⟨d1, d2⟩ := c5 w' c
        simp only [if_neg hki]
        refine ⟨fun x hx => d1 x (s1 x hx), fun j oj a1 a2 a3 a4 a5 a6 => ?_⟩
        by_cases hji : j = i
        · subst hji
          have hoo : o = oj := by simpa using a3
          subst hoo
          have a4' : guardOk ops (if j = j then t else T.Bt j) o = some true := a4
          rw [if_pos rfl, hg] at a4'; cases a4'
          rw [if_pos rfl]
          exact d1 _ (s2 rfl a5) a6
        · have a4' : guardOk ops (if j = i then t else T.Bt j) oj = some true := a4
          rw [if_neg hji] at a4' ⊢
          rw [hidx j (by omega)] at a3
          exact d2 j oj (by omega) a2 a3 a4' a5 a6
      · intro w c
        have w' : guardOk ops (if k = i then t else T.Bt k) ok = some true := w
        rw [if_neg hki] at w'
        obtain ⟨d1, d2⟩ := c6 w' c
        simp only [if_neg n1]
        refine ⟨fun x hx => d1 x (s3 x hx), fun j oj a1 a2 a3 a4 a5 a6 => ?_⟩
        by_cases hji : j = i
        · subst hji
          have hoo : o = oj := by simpa using a3
          subst hoo
          have a4' : guardOk ops (if j = j then t else T.Bt j) o = some true := a4
          rw [if_pos rfl, hg] at a4'; cases a4'
          rw [if_pos rfl, if_pos rfl]
          exact d1 _ (s4 rfl a5) a6
        · have a4' : guardOk ops (if j = i then t else T.Bt j) oj = some true := a4
          rw [if_neg hji] at a4' ⊢
          rw [if_neg hji]
          rw [hidx j (by omega)] at a3
          exact d2 j oj (by omega) a2 a3 a4' a5 a6
theorem Tr.upd_wanted {T : Tr} {ops : Array Oper} {i k : Nat} {t : B} {h : H} {v : Value} {o : Oper} {g : Bool} (hk : k ≠ i) : (T.upd i t h v).wanted ops k o g ↔ T.wanted ops k o g := by
  unfold Tr.wanted Tr.upd; simp only [if_neg hk]
theorem agree_upd {i k : Nat} {t : B} {h : H} {v : Value} {T T' : Tr} (x : agree (i + 1) k T T') : agree i k (T.upd i t h v) (T'.upd i t h v) := by
  refine ⟨fun j h1 h2 => ?_, fun j h1 h2 => ?_⟩
  · unfold Tr.upd
    by_cases e : j = i
    · simp [e]
    · simp only [if_neg e]; exact x.1 j (by omega) h2
  · unfold Tr.upd
    by_cases e : j = i
    · simp [e]
    · simp only [if_neg e]; exact x.2 j (by omega) h2
theorem heavy_later {ops : Array Oper} {i k : Nat} {o ok : Oper} {rest : List Oper} {t : B} {h : H} {v : Value} {mem mem' : Tr → Prop} {T : Tr} (hm : ∀ T, mem T → mem' (T.upd i t h v))
    (hT : ∀ k o, i + 1 ≤ k → rest[k - (i + 1)]? = some o → T.wanted ops k o true → cls E o.op = 2 → OperW P o (T.Bt k) (T.Gt k) fun v h' => ∃ T', mem T' ∧ agree (i + 1) k T T' ∧ T'.val k = v ∧ T'.Gt (k + 1) = h')
    (hk : i + 1 ≤ k) (hok : (o :: rest)[k - i]? = some ok) (hw : (T.upd i t h v).wanted ops k ok true) (hc : cls E ok.op = 2) :
    OperW P ok ((T.upd i t h v).Bt k) ((T.upd i t h v).Gt k) fun w h' => ∃ T', mem' T' ∧ agree i k (T.upd i t h v) T' ∧ T'.val k = w ∧ T'.Gt (k + 1) = h' := by
  have hki : k ≠ i := by omega
  have hki1 : k + 1 ≠ i := by omega
  rw [show k - i = (k - (i + 1)) + 1 by omega] at hok
  have hR := hT k ok hk hok ((Tr.upd_wanted hki).1 hw) hc
  have eG : (T.upd i t h v).Gt k = T.Gt k := if_neg hki
  have eB : (T.upd i t h v).Bt k = T.Bt k := if_neg hki
  rw [eG, eB]
  refine hR.mono ?_
  rintro w h' ⟨T', m1, m2, m3, m4⟩
  exact ⟨_, hm T' m1, agree_upd m2, by show (if k = i then v else T'.val k) = w; rw [if_neg hki]; exact m3, by show (if k + 1 = i then h else T'.Gt (k + 1)) = h'; rw [if_neg hki1]; exact m4⟩
theorem upd_end {T : Tr} {i n : Nat} {t : B} {h : H} {v : Value} : (T.upd i t h v).Bt (i + (n + 1)) = T.Bt (i + 1 + n) ∧ (T.upd i t h v).Gt (i + (n + 1)) = T.Gt (i + 1 + n) := by
  have e : i + (n + 1) = i + 1 + n := by omega
  rw [e]
  exact ⟨if_neg (by omega), if_neg (by omega)⟩
/-- one that is light, or not wanted -/
theorem drawn_light {ops : Array Oper} {ps : List Nat} {o : Oper} {rest : List Oper} {i : Nat} {al : List (Nat × Nat)} {hist : List (Nat × H)} {pend pend' : List (Nat × Oper × B × Value)} {t : B} {h : H} {v : Value} {g : Bool} {p : Nat} {K : B → H → Prop}
    (hT : SoundDrawn P E ops ps rest (i + 1) al hist pend' (putT t o.dst v) h K) (hp : ps[i]? = some p) (hg : guardOk ops t o = some g)
    (h0 : g = false → v = undef) (hc : g = true → cls E o.op ≠ 2) (hl : g = true → cls E o.op ≠ 2 → obs E al i o t h = some v)
    (hx : g = true → cls E o.op ≠ 2 → ∀ x ∈ hist, bit p x.1 = false → obs E al i o t x.2 = some v)
    (s3 : ∀ x ∈ pend, x ∈ pend') (s4 : g = true → cls E o.op ≠ 2 → (i, o, t, v) ∈ pend') : SoundDrawn P E ops ps (o :: rest) i al hist pend t h K := by
  obtain ⟨mem, ⟨T0, hT0⟩, h1, h2⟩ := hT
  refine ⟨fun T => ∃ T', mem T' ∧ T = T'.upd i t h v, ⟨_, T0, hT0, rfl⟩, ?_, ?_⟩
  · rintro _ ⟨T, hm, rfl⟩
    obtain ⟨k1, k2⟩ := h1 T hm
    refine ⟨drawn_glue k1 hp hg (fun q => ⟨h0 q, rfl⟩) (fun q c => ⟨hl q c, rfl⟩) hx (fun q c => absurd c (hc q)) (fun x hx => hx) (fun q c => absurd c (hc q)) s3 s4, ?_⟩
    obtain ⟨e1, e2⟩ := @upd_end T i rest.length t h v
    rw [List.length_cons, e1, e2]; exact k2
  · rintro _ ⟨T, hm, rfl⟩ k ok hik hok hw hcc
    by_cases hki : k = i
    · exfalso
      subst hki
      have hoo : o = ok := by simpa using hok
      subst hoo
      have w' : guardOk ops (if k = k then t else T.Bt k) o = some true := hw
      rw [if_pos rfl, hg] at w'; cases w'
      exact hc rfl hcc
    · exact heavy_later (fun T' m => ⟨T', m, rfl⟩) (h2 T hm) (by omega) hok hw hcc
/-- a heavy one -/
theorem drawn_heavy {ops : Array Oper} {ps : List Nat} {o : Oper} {rest : List Oper} {i : Nat} {al : List (Nat × Nat)} {hist : List (Nat × H)} {pend : List (Nat × Oper × B × Value)} {t : B} {h : H} {p : Nat} {K : B → H → Prop}
    (hp : ps[i]? = some p) (hg : guardOk ops t o = some true) (hc : cls E o.op = 2)
    (hT : OperW P o t h fun v h1 => (∀ x ∈ pend, bit p x.1 = false → obs E al x.1 x.2.1 x.2.2.1 h1 = some x.2.2.2) ∧ SoundDrawn P E ops ps rest (i + 1) al ((i, h) :: hist) pend (putT t o.dst v) h1 K) : SoundDrawn P E ops ps (o :: rest) i al hist pend t h K := by
  refine ⟨fun T => ∃ v h1, ∃ q : SoundDrawn P E ops ps rest (i + 1) al ((i, h) :: hist) pend (putT t o.dst v) h1 K, (∀ x ∈ pend, bit p x.1 = false → obs E al x.1 x.2.1 x.2.2.1 h1 = some x.2.2.2) ∧ ∃ T', Classical.choose q T' ∧ T = T'.upd i t h v, ?_, ?_, ?_⟩
  · obtain ⟨v, h1, hy, q⟩ := hT.1
    obtain ⟨T', hT'⟩ := (Classical.choose_spec q).1
    exact ⟨_, v, h1, q, hy, T', hT', rfl⟩
  · rintro _ ⟨v, h1, q, hy, T, hm, rfl⟩
    obtain ⟨k1, k2⟩ := (Classical.choose_spec q).2.1 T hm
    refine ⟨drawn_glue k1 hp hg (fun q => by cases q) (fun _ q => absurd hc q) (fun _ q => absurd hc q) (fun _ _ => hy) (fun x hx => .tail _ hx) (fun _ _ => .head _) (fun x hx => hx) (fun _ q => absurd hc q), ?_⟩
    obtain ⟨e1, e2⟩ := @upd_end T i rest.length t h v
    rw [List.length_cons, e1, e2]; exact k2
  · rintro _ ⟨v, h1, q, hy, T, hm, rfl⟩ k ok hik hok hw hcc
    by_cases hki : k = i
    · subst hki
      have hoo : o = ok := by simpa using hok
      subst hoo
      have eG : (T.upd k t h v).Gt k = h := if_pos rfl
      have eB : (T.upd k t h v).Bt k = t := if_pos rfl
      rw [eG, eB]
      refine hT.mono ?_
      rintro v' h1' ⟨hy', q'⟩
      obtain ⟨T', hT'⟩ := (Classical.choose_spec q').1
      refine ⟨_, ⟨v', h1', q', hy', T', hT', rfl⟩, ⟨fun j e1 e2 => ?_, fun j e1 e2 => by omega⟩, if_pos rfl, ?_⟩
      · have : j = k := by omega
        subst this
        exact ⟨by rw [eB]; exact if_pos rfl, by rw [eG]; exact if_pos rfl⟩
      · show (if k + 1 = k then h else T'.Gt (k + 1)) = h1'
        rw [if_neg (by omega)]
        exact ((Classical.choose_spec q').2.1 T' hT').1.2.1
    · exact heavy_later (fun T' m => ⟨v, h1, q, hy, T', m, rfl⟩) ((Classical.choose_spec q).2.2 T hm) (by omega) hok hw hcc
theorem drawn_nil {ops : Array Oper} {ps : List Nat} {i : Nat} {al : List (Nat × Nat)} {hist : List (Nat × H)} {pend : List (Nat × Oper × B × Value)} {t : B} {h : H} {K : B → H → Prop} (hk : K t h) : SoundDrawn P E ops ps [] i al hist pend t h K :=
  ⟨fun T => T = ⟨fun _ => t, fun _ => h, fun _ => undef⟩, ⟨_, rfl⟩, fun T e => by subst e; exact ⟨⟨rfl, rfl, fun k o _ h => by simp at h⟩, hk⟩, fun T e k o _ h => by simp at h⟩
theorem drawn_trace {ops : Array Oper} {ps : List Nat} {al : List (Nat × Nat)} (hE : EnvOk P E) (hps : drawOk E ops.toList = some ps) : ∀ (rest : List Oper) (n i : Nat) (hist : List (Nat × H)) (pend : List (Nat × Oper × B × Value)) (st : St) (ans : Ans),
    (∀ m, m < n → ∀ f args h ans, run E m (.call f args h) = some ans → SoundCall P f args h ans) → (∀ m, m < n → ∀ l args h ans, run E m (.round l args h) = some ans → SoundRound P l args h ans) → run E n (.drawn ops rest i al hist pend st) = some ans → SoundDrawn P E ops ps rest i al hist pend st.tmps st.h fun t' h' => ans = .a .normal ⟨t', st.defs, h'⟩ := by
  intro rest
  induction rest with
  | nil =>
    intro n i hist pend st ans _ _ hr
    cases n with
    | zero => cases hr
    | succ n =>
      cases hr
      exact drawn_nil rfl
  | cons o rest ih =>
    intro n i hist pend st ans hcall hround hr
    cases n with
    | zero => cases hr
    | succ n =>
      have hr' : ((drawOk E ops.toList).bind fun ps => (nthA ps i).bind fun p => (guardOk ops st.tmps o).bind fun g => Bool.rec (motive := fun _ => Option Ans) ((run E n) (.drawn ops rest (Nat.add i 1) al hist pend ⟨putT st.tmps o.dst undef, st.defs, st.h⟩))
        (drawnGo E (run E n) ops o rest i p al hist pend st) g) = some ans := hr
      rw [hps] at hr'
      obtain ⟨p, hp, hr2⟩ := bind_some (show (nthA ps i).bind _ = _ from hr')
      obtain ⟨g, hg, hr3⟩ := bind_some hr2
      rw [nthA_eq] at hp
      have hc' : ∀ m, m < n → ∀ f args h ans, run E m (.call f args h) = some ans → SoundCall P f args h ans := fun m hm => hcall m (by omega)
      have hc2' : ∀ m, m < n → ∀ l args h ans, run E m (.round l args h) = some ans → SoundRound P l args h ans := fun m hm => hround m (by omega)
      cases g with
      | false =>
        have := ih n (i + 1) hist pend _ ans hc' hc2' hr3
        exact drawn_light this hp hg (fun _ => rfl) (fun q => by cases q) (fun q => by cases q) (fun q => by cases q) (fun x hx => hx) (fun q => by cases q)
      | true =>
        have hr4 : Bool.rec (motive := fun _ => Option Ans)
          ((obs E al i o st.tmps st.h).bind fun v => Bool.rec (motive := fun _ => Option Ans) none
            ((run E n) (.drawn ops rest (Nat.add i 1) al hist ((i, o, st.tmps, v) :: pend) ⟨putT st.tmps o.dst v, st.defs, st.h⟩)) (histOk E al p i o st.tmps v hist))
          ((opR o.op E st.h (ev st.tmps)).bind (heavyK E (run E n) ops rest i p al hist pend o.dst st))
          (Nat.beq (cls E o.op) 2) = some ans := hr3
        rw [natBeq_eq] at hr4
        by_cases hc : cls E o.op = 2
        · simp only [hc, decide_true] at hr4
          obtain ⟨r, hop, hr5⟩ := bind_some hr4
          have key : ∀ v h1, RAns P r st.h v h1 → heavyV E (run E n) ops rest i p al hist pend o.dst st v h1 = some ans → SoundDrawn P E ops ps (o :: rest) i al hist pend st.tmps st.h fun t' h' => ans = .a .normal ⟨t', st.defs, h'⟩ := by
            intro v h1 hv hq
            obtain ⟨hpd, hq⟩ := rec_some (show Bool.rec (motive := fun _ => Option Ans) none _ (pendOk E al p h1 pend) = some ans from hq)
            have := ih n (i + 1) ((i, st.h) :: hist) pend ⟨putT st.tmps o.dst v, st.defs, h1⟩ ans hc' hc2' hq
            exact drawn_heavy hp hg hc (.of hE hop (.of hv ⟨pendOk_mem pend hpd, this⟩))
          cases r with
          | val v h1 => exact key v h1 (.inl rfl) hr5
          | enter f args =>
            obtain ⟨an, hcl, hq⟩ := bind_some (show ((run E n) (.call f args st.h)).bind (heavyA E (run E n) ops rest i p al hist pend o.dst st) = some ans from hr5)
            cases an with
            | a e s => cases hq
            | v v h1 => exact key v h1 (.inr (.inl ⟨f, args, rfl, hcall n (by omega) _ _ _ _ hcl⟩)) hq
          | round l args =>
            obtain ⟨an, hcl, hq⟩ := bind_some (show ((run E n) (.round l args st.h)).bind (heavyA E (run E n) ops rest i p al hist pend o.dst st) = some ans from hr5)
            cases an with
            | a e s => cases hq
            | v v h1 => exact key v h1 (.inr (.inr ⟨l, args, rfl, hround n (by omega) _ _ _ _ hcl⟩)) hq
        · simp only [hc, decide_false] at hr4
          obtain ⟨v, hv, hr5⟩ := bind_some hr4
          obtain ⟨hho, hq⟩ := rec_some hr5
          have := ih n (i + 1) hist ((i, o, st.tmps, v) :: pend) ⟨putT st.tmps o.dst v, st.defs, st.h⟩ ans hc' hc2' hq
          exact drawn_light this hp hg (fun q => by cases q) (fun _ => hc) (fun _ _ => hv) (fun _ _ => histOk_mem hist hho) (fun x hx => .tail _ hx) (fun _ _ => .head _)
end Go.X
