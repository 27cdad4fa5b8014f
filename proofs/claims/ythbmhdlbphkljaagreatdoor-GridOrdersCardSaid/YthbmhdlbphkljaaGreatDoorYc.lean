/- A part of the evaluator of the model, and of the proof that what it answers is what a call comes to. No conditions of its own. -/
import Derived.Test.YthbmhdlbphkljaaGreatDoorYb
namespace Go.X
open Go
variable {P : Program} {E : Env}

theorem lit_valOf (x : Option Value) (h : H) : (lit x h).bind valOf = x := by cases x <;> rfl
theorem obs_pick (h : H) (ρ : Operand → Value) (c a b : Operand) : (op_pick E h ρ c a b).bind valOf = pickV (ρ c) (ρ a) (ρ b) := by
  unfold op_pick pickV; cases boolV (ρ c) <;> rfl
theorem obs_build (h : H) (ρ : Operand → Value) (t : TypeId) (parts : Array (Nat × Operand)) : (op_build E h ρ t parts).bind valOf = buildV E t (mapP ρ parts.toList) := by
  unfold op_build buildV
  cases E.zcells t with
  | none => rfl
  | some z => cases E.under t with
    | none => rfl
    | some u =>
      cases u <;> try rfl
      · rename_i n e
        show ((E.size e).bind _).bind _ = (E.size e).bind _
        cases E.size e with
        | none => rfl
        | some s =>
          show ((fillA s z _).bind _).bind _ = (fillA s z _).bind _
          cases fillA s z (mapP ρ parts.toList) <;> rfl
      · rename_i fields
        show ((sizedF E fields.toList).bind _).bind _ = (sizedF E fields.toList).bind _
        cases sizedF E fields.toList with
        | none => rfl
        | some _ =>
          show ((fillS E fields z _).bind _).bind _ = (fillS E fields z _).bind _
          cases fillS E fields z (mapP ρ parts.toList) <;> rfl
theorem obs_nil (h : H) (ρ : Operand → Value) (x : Operand) : (op_nilCheck E h ρ x).bind valOf = nilV (ρ x) := by
  unfold op_nilCheck nilV
  generalize ρ x = v
  cases v <;> try rfl
  · rename_i a; cases a <;> rfl
  · rename_i f a c; cases f <;> rfl
theorem obs_iface (h : H) (ρ : Operand → Value) (t : TypeId) (x : Operand) : (op_makeInterface E h ρ t x).bind valOf = ifaceV E t (ρ x) := by
  unfold op_makeInterface ifaceV
  cases E.under t with
  | none => rfl
  | some u => cases u <;> rfl
theorem obs_func (h : H) (ρ : Operand → Value) (fn : Fn) (a b : Array Operand) : (op_makeFunc E h ρ fn a b).bind valOf = funcV fn (mapV ρ a.toList) (mapV ρ b.toList) := by
  unfold op_makeFunc funcV; cases fnPlain fn <;> rfl
theorem obs_fieldA (h : H) (ρ : Operand → Value) (s : TypeId) (x : Operand) (f : Nat) : (op_fieldAddr E h ρ s x f).bind valOf = fieldA E s (ρ x) f := by
  unfold op_fieldAddr fieldA
  cases E.under s with
  | none => rfl
  | some u =>
    cases u <;> try rfl
    rename_i fields
    show ((nthA fields.toList f).bind _).bind _ = (nthA fields.toList f).bind _
    cases nthA fields.toList f with
    | none => rfl
    | some fd =>
      show ((addrOf (ρ x)).bind _).bind _ = (addrOf (ρ x)).bind _
      cases addrOf (ρ x) with
      | none => rfl
      | some a =>
        show ((E.size fd.type).bind _).bind _ = (E.size fd.type).bind _
        cases E.size fd.type with
        | none => rfl
        | some sz =>
          show (bif Nat.beq sz 0 then none else some _).bind valOf = bif Nat.beq sz 0 then none else some _
          cases Nat.beq sz 0 <;> rfl
theorem obs_field (h : H) (ρ : Operand → Value) (t : TypeId) (x : Operand) (f : Nat) : (op_field E h ρ t x f).bind valOf = fieldV E t (ρ x) f := by
  unfold op_field fieldV
  cases E.under t with
  | none => rfl
  | some u =>
    generalize ρ x = v
    cases u <;> try rfl
    rename_i fields
    cases v with
    | agg cs =>
      show ((nthA fields.toList f).bind _).bind _ = (nthA fields.toList f).bind _
      cases nthA fields.toList f with
      | none => rfl
      | some fd => exact lit_valOf _ h
    | _ =>
      show none = (nthA fields.toList f).bind fun fd => fldP E fd _
      cases nthA fields.toList f <;> rfl
theorem none_bind {α β : Type} (x : Option α) : (x.bind fun _ => (none : Option β)) = none := by cases x <;> rfl
theorem obs_indexA (h : H) (ρ : Operand → Value) (t : TypeId) (x ix : Operand) : (op_indexAddr E h ρ t x ix).bind valOf = indexA E t (ρ x) (ρ ix) := by
  unfold op_indexAddr indexA
  cases E.under t with
  | none => rfl
  | some u =>
    generalize ρ x = v
    generalize ρ ix = w
    cases u <;> try rfl
    · rename_i e
      show (match TypeDesc.slice e, v, w with
        | .array len e, .pointer (some a), .int _ (.ofNat i) => (E.size e).bind fun s => bif Nat.blt i len then some (R.val (.pointer (some (addO a (i * s)))) h) else none
        | .slice e, .slice (some a) len _, .int _ (.ofNat i) => (E.size e).bind fun s => bif Nat.blt i len then some (R.val (.pointer (some (addO a (i * s)))) h) else none
        | _, _, _ => none).bind valOf = (E.size e).bind fun s => ixA s v w
      cases v <;> try exact (none_bind _).symm
      rename_i a n c
      cases a <;> try exact (none_bind _).symm
      cases w <;> try exact (none_bind _).symm
      rename_i k i
      cases i <;> try exact (none_bind _).symm
      rename_i a i
      show ((E.size e).bind _).bind _ = (E.size e).bind _
      cases E.size e with
      | none => rfl
      | some s => show (bif Nat.blt i n then some _ else none).bind valOf = bif Nat.blt i n then some _ else none
                  cases Nat.blt i n <;> rfl
    · rename_i n e
      show (match TypeDesc.array n e, v, w with
        | .array len e, .pointer (some a), .int _ (.ofNat i) => (E.size e).bind fun s => bif Nat.blt i len then some (R.val (.pointer (some (addO a (i * s)))) h) else none
        | .slice e, .slice (some a) len _, .int _ (.ofNat i) => (E.size e).bind fun s => bif Nat.blt i len then some (R.val (.pointer (some (addO a (i * s)))) h) else none
        | _, _, _ => none).bind valOf = (E.size e).bind fun s => ixP n s v w
      cases v <;> try exact (none_bind _).symm
      rename_i a
      cases a <;> try exact (none_bind _).symm
      cases w <;> try exact (none_bind _).symm
      rename_i k i
      cases i <;> try exact (none_bind _).symm
      rename_i a i
      show ((E.size e).bind _).bind _ = (E.size e).bind _
      cases E.size e with
      | none => rfl
      | some s => show (bif Nat.blt i n then some _ else none).bind valOf = bif Nat.blt i n then some _ else none
                  cases Nat.blt i n <;> rfl
theorem obs_index (h : H) (ρ : Operand → Value) (t : TypeId) (x ix : Operand) : (op_index E h ρ t x ix).bind valOf = indexV E t (ρ x) (ρ ix) := by
  unfold op_index indexV
  cases E.under t with
  | none => rfl
  | some u =>
    generalize ρ x = v
    generalize ρ ix = w
    cases u <;> try rfl
    · cases v <;> try rfl
      cases w <;> try rfl
      rename_i s k i
      cases i <;> try rfl
      rename_i i
      show ((nthB s.data.toList i).bind _).bind _ = (nthB s.data.toList i).bind _
      cases nthB s.data.toList i <;> rfl
    · rename_i n e
      show (match TypeDesc.array n e, v, w with
        | .array len e, .agg cs, .int _ (.ofNat i) => (E.size e).bind fun s => bif Nat.blt i len then lit (part E e cs.toList (i * s)) h else none
        | .string, .string s, .int _ (.ofNat i) => (nthB s.data.toList i).bind fun b => some (R.val (.int .u8 b.toNat) h)
        | _, _, _ => none).bind valOf = (E.size e).bind fun s => ixG E n s e v w
      cases v <;> try exact (none_bind _).symm
      cases w <;> try exact (none_bind _).symm
      rename_i cs k i
      cases i <;> try exact (none_bind _).symm
      rename_i i
      show ((E.size e).bind _).bind _ = (E.size e).bind _
      cases E.size e with
      | none => rfl
      | some s => show (bif Nat.blt i n then lit _ h else none).bind valOf = bif Nat.blt i n then _ else none
                  cases Nat.blt i n
                  · rfl
                  · exact lit_valOf _ h
theorem obs_extract (h : H) (ρ : Operand → Value) (x : Operand) (i : Nat) : (op_extract E h ρ x i).bind valOf = extractV (ρ x) i := by
  unfold op_extract extractV
  generalize ρ x = v
  cases v <;> first | rfl | exact lit_valOf _ h
theorem obs_len (h : H) (ats : Array TypeId) (xs : List Value) : (builtinR E h .len ats xs).bind valOf = (builtinR E ⟨.e, 0⟩ .len ats xs).bind valOf := by
  cases xs with
  | nil => rfl
  | cons x xs =>
    cases xs with
    | cons _ _ => rfl
    | nil =>
      show ((nthA ats.toList 0).bind _).bind _ = ((nthA ats.toList 0).bind _).bind _
      cases nthA ats.toList 0 with
      | none => rfl
      | some t =>
        show ((E.under t).bind _).bind _ = ((E.under t).bind _).bind _
        cases E.under t with
        | none => rfl
        | some u =>
          simp only [Option.bind_some]
          split <;> rfl
theorem opR_light {o : Op} (hc : cls E o = 0) (hh : heapy E o = false) (h h2 : H) (ρ : Operand → Value) : (opR o E h ρ).bind valOf = (opR o E h2 ρ).bind valOf := by
  cases o <;> try first | (cases hh; done) | rfl | (cases hc; done)
  · exact (obs_pick (E := E) h ρ _ _ _).trans (obs_pick (E := E) h2 ρ _ _ _).symm
  · exact (obs_build h ρ _ _).trans (obs_build h2 ρ _ _).symm
  · exact (obs_nil (E := E) h ρ _).trans (obs_nil (E := E) h2 ρ _).symm
  · exact (lit_valOf _ h).trans (lit_valOf _ h2).symm
  · exact (lit_valOf _ h).trans (lit_valOf _ h2).symm
  · exact (obs_iface h ρ _ _).trans (obs_iface h2 ρ _ _).symm
  · exact (obs_func (E := E) h ρ _ _ _).trans (obs_func (E := E) h2 ρ _ _ _).symm
  · exact (obs_fieldA h ρ _ _ _).trans (obs_fieldA h2 ρ _ _ _).symm
  · exact (obs_field h ρ _ _ _).trans (obs_field h2 ρ _ _ _).symm
  · exact (obs_indexA h ρ _ _ _).trans (obs_indexA h2 ρ _ _ _).symm
  · exact (obs_index h ρ _ _ _).trans (obs_index h2 ρ _ _ _).symm
  · exact (obs_extract (E := E) h ρ _ _).trans (obs_extract (E := E) h2 ρ _ _).symm
  · rename_i c
    obtain ⟨callee, args, ats⟩ := c
    cases callee with
    | value f => cases hc
    | invoke r m => cases hc
    | builtin b =>
      have hb : clsB b = 0 := hc
      cases b <;> try (cases hb; done)
      exact (obs_len h ats _).trans (obs_len h2 ats _).symm
theorem obs_light {o : Oper} {al : List (Nat × Nat)} {i : Nat} {t : B} {v : Value} {h : H} (hc : cls E o.op ≠ 2) (hh : heapy E o.op = false) (h2 : H) (e : obs E al i o t h = some v) : obs E al i o t h2 = some v := by
  by_cases h0 : cls E o.op = 0
  · unfold obs at e ⊢
    rw [h0] at e ⊢
    have e' : (opR o.op E h (ev t)).bind valOf = some v := e
    show (opR o.op E h2 (ev t)).bind valOf = some v
    rw [opR_light h0 hh h2 h]; exact e'
  · exfalso
    cases q : o.op <;> rw [q] at h0 hc hh <;> first | exact h0 rfl | exact hc rfl | (cases hh; done) | skip
    rename_i c
    obtain ⟨callee, args, ats⟩ := c
    cases callee with
    | value f => exact hc rfl
    | invoke r m => exact hc rfl
    | builtin b => cases b <;> first | exact h0 rfl | exact hc rfl

theorem obs2_obs {al : List (Nat × Nat)} {i : Nat} {o : Oper} {t : B} {h : H} {v : Value} (hh : obs2 E al i o t h = some v) : obs E al i o t h = some v := by
  unfold obs2 at hh
  unfold obs
  cases hb : Nat.beq (cls E o.op) 0 with
  | true => rw [hb] at hh; exact opL_sound hh
  | false => rw [hb] at hh; exact hh
theorem histP_sound {al : List (Nat × Nat)} {p i : Nat} {o : Oper} {t : B} {v : Value} {X : Prop} {h : H} (hc : cls E o.op ≠ 2) (h0 : obs E al i o t h = some v) (hist : List (Nat × H)) (hh : histP E al p i o t v X hist) : X ∧ ∀ x ∈ hist, bit p x.1 = false → obs E al i o t x.2 = some v := by
  induction hist with
  | nil => exact ⟨hh, fun x hx => by cases hx⟩
  | cons y l ih =>
    have hh' : Bool.rec (motive := fun _ => Prop) (Bool.rec (motive := fun _ => Prop) (histP E al p i o t v X l) (obs2 E al i o t y.2 = some v ∧ histP E al p i o t v X l) (heapy E o.op)) (histP E al p i o t v X l) (bit p y.1) := hh
    cases hb : bit p y.1 with
    | true =>
      rw [hb] at hh'
      obtain ⟨k1, k2⟩ := ih hh'
      refine ⟨k1, fun x hx hbx => ?_⟩
      cases hx with
      | head => rw [hb] at hbx; cases hbx
      | tail _ hm => exact k2 x hm hbx
    | false =>
      rw [hb] at hh'
      cases hp : heapy E o.op with
      | true =>
        rw [hp] at hh'
        obtain ⟨k1, k2⟩ := ih hh'.2
        refine ⟨k1, fun x hx hbx => ?_⟩
        cases hx with
        | head => exact obs2_obs hh'.1
        | tail _ hm => exact k2 x hm hbx
      | false =>
        rw [hp] at hh'
        obtain ⟨k1, k2⟩ := ih hh'
        exact ⟨k1, fun x hx hbx => obs_light hc hp _ h0⟩
def PendInv (E : Env) (al : List (Nat × Nat)) (pend : List (Nat × Oper × B × Value)) : Prop := ∀ x ∈ pend, cls E x.2.1.op ≠ 2 ∧ ∃ h0, obs E al x.1 x.2.1 x.2.2.1 h0 = some x.2.2.2
theorem pendP_sound {al : List (Nat × Nat)} {p : Nat} {h : H} {X : Prop} (pend : List (Nat × Oper × B × Value)) (hi : PendInv E al pend) (hh : pendP E al p h X pend) : X ∧ ∀ x ∈ pend, bit p x.1 = false → obs E al x.1 x.2.1 x.2.2.1 h = some x.2.2.2 := by
  induction pend with
  | nil => exact ⟨hh, fun x hx => by cases hx⟩
  | cons y l ih =>
    have hh' : Bool.rec (motive := fun _ => Prop) (Bool.rec (motive := fun _ => Prop) (pendP E al p h X l) (obs2 E al y.1 y.2.1 y.2.2.1 h = some y.2.2.2 ∧ pendP E al p h X l) (heapy E y.2.1.op)) (pendP E al p h X l) (bit p y.1) := hh
    have hi' : PendInv E al l := fun x hx => hi x (.tail _ hx)
    cases hb : bit p y.1 with
    | true =>
      rw [hb] at hh'
      obtain ⟨k1, k2⟩ := ih hi' hh'
      refine ⟨k1, fun x hx hbx => ?_⟩
      cases hx with
      | head => rw [hb] at hbx; cases hbx
      | tail _ hm => exact k2 x hm hbx
    | false =>
      rw [hb] at hh'
      cases hp : heapy E y.2.1.op with
      | true =>
        rw [hp] at hh'
        obtain ⟨k1, k2⟩ := ih hi' hh'.2
        refine ⟨k1, fun x hx hbx => ?_⟩
        cases hx with
        | head => exact obs2_obs hh'.1
        | tail _ hm => exact k2 x hm hbx
      | false =>
        rw [hp] at hh'
        obtain ⟨k1, k2⟩ := ih hi' hh'
        refine ⟨k1, fun x hx hbx => ?_⟩
        cases hx with
        | head =>
          obtain ⟨c0, h0, e0⟩ := hi y (.head _)
          exact obs_light c0 hp _ e0
        | tail _ hm => exact k2 x hm hbx
theorem obsC_sound {al : List (Nat × Nat)} {i : Nat} {o : Oper} {t : B} {h : H} {K : Value → Prop} (hh : obsC P E al i o t h K) : ∃ v, obs E al i o t h = some v ∧ K v := by
  obtain ⟨v, hv, hk⟩ := bindO_iff.1 hh
  exact ⟨v, obs2_obs hv, hk⟩
theorem drawC_sound (hE : EnvOk P E) {ops : Array Oper} {ps : List Nat} {al : List (Nat × Nat)} {K : B → H → Prop} {N : Nat} : ∀ (rest : List Oper) (i : Nat) (sk : List Nat) (hist : List (Nat × H)) (pend : List (Nat × Oper × B × Value)) (t : B) (h : H),
    Sz t N → PendInv E al pend → drawC P E ops.toList ps al K rest i sk hist pend t h → SoundDrawn P E ops ps rest i al hist pend t h fun t' h' => Sz t' N ∧ K t' h' := by
  intro rest
  induction rest with
  | nil =>
    intro i sk hist pend t h hS hP hh
    exact drawn_nil ⟨hS, hh⟩
  | cons o rest ih =>
    intro i sk hist pend t h hS hP hh
    obtain ⟨p, hp, hh1⟩ := bindO_iff.1 (show bindO (nthA ps i) _ from hh)
    rw [nthA_eq] at hp
    obtain ⟨b, hg, hgo, hskip⟩ := guardC_sound (o := o) hS hh1
    have hS' : ∀ v, Sz (putT t o.dst v) N := fun v => by cases o.dst with | none => exact hS | some d => exact hS.set d v
    cases b with
    | false =>
      have hT := ih _ _ _ _ _ _ (hS' _) hP (hskip rfl)
      exact drawn_light hT hp hg (fun _ => rfl) (fun q => by cases q) (fun q => by cases q) (fun q => by cases q) (fun x hx => hx) (fun q => by cases q)
    | true =>
      have h2 := hgo rfl
      rw [natBeq_eq] at h2
      by_cases hc : cls E o.op = 2
      · simp only [hc, decide_true] at h2
        refine drawn_heavy hp hg hc ((opC_soundW hE h2).mono ?_)
        intro v h1 hq
        obtain ⟨hq, hy⟩ := pendP_sound pend hP hq
        exact ⟨hy, ih _ _ _ _ _ _ (hS' _) hP hq⟩
      · simp only [hc, decide_false] at h2
        obtain ⟨v, hv, h3⟩ := obsC_sound h2
        obtain ⟨h4, hx⟩ := histP_sound hc hv hist h3
        have hP' : PendInv E al ((i, o, t, v) :: pend) := by
          intro x hx
          cases hx with
          | head => exact ⟨hc, h, hv⟩
          | tail _ hm => exact hP x hm
        exact drawn_light (ih _ _ _ _ _ _ (hS' _) hP' h4) hp hg (fun q => by cases q) (fun _ => hc) (fun _ _ => hv) (fun _ _ => hx) (fun x hx => .tail _ hx) (fun _ _ => .head _)
theorem layC_sound {K : H → List (Nat × Nat) → Prop} : ∀ (l : List Oper) (i : Nat) (h : H) (al : List (Nat × Nat)), layC E K l i h al → ∃ h' al', layAhead E l i h al = some (h', al') ∧ K h' al' := by
  intro l
  induction l with
  | nil => intro i h al hh; exact ⟨h, al, rfl, hh⟩
  | cons o l ih =>
    intro i h al hh
    have hh' : (match o.op with
      | .alloc e => bindO (E.zcells e) fun z => layC E K l (Nat.add i 1) (newRow h e z 0) ((i, h.next) :: al)
      | _ => layC E K l (Nat.add i 1) h al) := hh
    show ∃ h' al', (match o.op with
      | .alloc e => (E.zcells e).bind fun z => layAhead E l (Nat.add i 1) (newRow h e z 0) ((i, h.next) :: al)
      | _ => layAhead E l (Nat.add i 1) h al) = some (h', al') ∧ K h' al'
    split at hh'
    · obtain ⟨z, hz, hk⟩ := bindO_iff.1 hh'
      rw [bind_eq hz]
      exact ih _ _ _ hk
    · exact ih _ _ _ hh'
end Go.X
