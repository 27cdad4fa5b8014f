/- A part of the evaluator of the model, and of the proof that what it answers is what a call comes to. No conditions of its own. -/
import Derived.Test.YthbmhdlbphkljaaGreatDoorXt
namespace Go.X
open Go
variable {P : Program} {E : Env}

/-- places laid ahead -/
structure Laid (base lim : Nat) (i : Nat) (al : List (Nat × Nat)) : Prop where
  range : ∀ (j b : Nat), findX j al = some b → base ≤ b ∧ b < lim ∧ j < i
  inj : ∀ (j j' b : Nat), findX j al = some b → findX j' al = some b → j = j'
theorem findX_cons (j i b : Nat) (al : List (Nat × Nat)) : findX j ((i, b) :: al) = if i = j then some b else findX j al := by
  show Bool.rec (motive := fun _ => Option Nat) (findX j al) (some b) (Nat.beq i j) = _
  rw [natBeq_eq]
  by_cases q : i = j <;> simp [q]
theorem layAhead_ok (l : List Oper) : ∀ (base i : Nat) (h : H) (al : List (Nat × Nat)) (h' : H) (al' : List (Nat × Nat)), layAhead E l i h al = some (h', al') → base ≤ h.next → Laid base h.next i al → (∀ c, h.next ≤ c → h.get c = none) →
    h.next ≤ h'.next ∧ (∀ c, c < h.next → h'.get c = h.get c) ∧ (∀ c, h'.next ≤ c → h'.get c = none) ∧ Laid base h'.next (i + l.length) al' := by
  induction l with
  | nil =>
    intro base i h al h' al' e hb hl hf
    cases e
    exact ⟨Nat.le_refl _, fun _ _ => rfl, hf, hl⟩
  | cons o l ih =>
    intro base i h al h' al' e hb hl hf
    have hlen : i + (o :: l).length = (i + 1) + l.length := by simp only [List.length_cons]; omega
    have weak : ∀ {h' : H} {al'}, layAhead E l (i + 1) h al = some (h', al') → h.next ≤ h'.next ∧ (∀ c, c < h.next → h'.get c = h.get c) ∧ (∀ c, h'.next ≤ c → h'.get c = none) ∧ Laid base h'.next (i + (o :: l).length) al' := by
      intro h' al' e
      rw [hlen]
      exact ih base (i + 1) h al h' al' e hb ⟨fun j b q => by have := hl.range j b q; omega, hl.inj⟩ hf
    cases ho : o.op with
    | alloc t =>
      have e' : ((E.zcells t).bind fun z => layAhead E l (i + 1) (newRow h t z 0) ((i, h.next) :: al)) = some (h', al') := by
        have : layAhead E (o :: l) i h al = (match o.op with
          | .alloc e => (E.zcells e).bind fun z => layAhead E l (i + 1) (newRow h e z 0) ((i, h.next) :: al)
          | _ => layAhead E l (i + 1) h al) := rfl
        rw [this, ho] at e; exact e
      obtain ⟨z, hz, e2⟩ := bind_some e'
      have hn : (newRow h t z 0).next = h.next + 1 := rfl
      obtain ⟨k1, k2, k3, k4⟩ := ih base (i + 1) _ _ _ _ e2 (by rw [hn]; omega) (by
        rw [hn]
        constructor
        · intro j b q
          rw [findX_cons] at q
          split at q
          · cases q; omega
          · have := hl.range j b q; omega
        · intro j j' b q q'
          rw [findX_cons] at q q'
          split at q <;> split at q'
          · omega
          · cases q; have := hl.range j' _ q'; omega
          · cases q'; have := hl.range j _ q; omega
          · exact hl.inj j j' b q q') (by
        intro c hc
        rw [hn] at hc
        show (h.new _).get c = none
        rw [H.get_new, if_neg (by omega)]
        exact hf c (by omega))
      rw [hn] at k1 k2
      refine ⟨by omega, fun c hc => ?_, k3, by rw [hlen]; exact k4⟩
      rw [k2 c (by omega)]
      show (h.new _).get c = _
      rw [H.get_new, if_neg (by omega)]
    | _ =>
      refine weak ?_
      have : layAhead E (o :: l) i h al = (match o.op with
        | .alloc e => (E.zcells e).bind fun z => layAhead E l (i + 1) (newRow h e z 0) ((i, h.next) :: al)
        | _ => layAhead E l (i + 1) h al) := rfl
      rw [this, ho] at e; exact e

/-- bits -/
theorem bit_eq (m i : Nat) : bit m i = m.testBit i := by
  show Nat.beq (Nat.mod (m >>> i) 2) 1 = _
  rw [natBeq_eq, Nat.testBit_eq_decide_div_mod_eq, Nat.shiftRight_eq_div_pow]
  rfl
theorem preE_bits (ps : List Nat) (i : Nat) : ∀ (es : List Edge) (m : Nat), preE ps i es = some m → (∀ e ∈ es, Region.binds .any e = true → e.on < i) ∧ ∀ j, bit m j = true → ∃ e ∈ es, Region.binds .any e = true ∧ (e.on = j ∨ ∃ q, ps[e.on]? = some q ∧ bit q j = true) := by
  intro es
  induction es with
  | nil =>
    intro m h; cases h
    refine ⟨fun e he => (by cases he), fun j hj => ?_⟩
    rw [bit_eq] at hj; simp at hj
  | cons e es ih =>
    intro m h
    have h' : Bool.rec (motive := fun _ => Option Nat) (preE ps i es) (Bool.rec (motive := fun _ => Option Nat) none ((preE ps i es).bind fun m => (nthA ps e.on).bind fun p => some (Nat.lor m (Nat.lor (Nat.shiftLeft 1 e.on) p))) (Nat.blt e.on i)) (Region.binds .any e) = some m := h
    cases hb : Region.binds .any e with
    | false =>
      rw [hb] at h'
      obtain ⟨h1, h2⟩ := ih m h'
      refine ⟨fun x hx hbx => ?_, fun j hj => ?_⟩
      · cases hx with
        | head => rw [hb] at hbx; cases hbx
        | tail _ hm => exact h1 x hm hbx
      · obtain ⟨x, hx, q⟩ := h2 j hj
        exact ⟨x, .tail _ hx, q⟩
    | true =>
      rw [hb] at h'
      obtain ⟨hlt, h'⟩ := rec_some (show Bool.rec (motive := fun _ => Option Nat) none _ (Nat.blt e.on i) = some m from h')
      rw [natBlt_eq, decide_eq_true_eq] at hlt
      obtain ⟨m0, hm0, h3⟩ := bind_some h'
      obtain ⟨p, hp, h4⟩ := bind_some h3
      cases h4
      rw [nthA_eq] at hp
      obtain ⟨h1, h2⟩ := ih m0 hm0
      refine ⟨fun x hx hbx => ?_, fun j hj => ?_⟩
      · cases hx with
        | head => exact hlt
        | tail _ hm => exact h1 x hm hbx
      · rw [bit_eq] at hj
        have hj' : (m0 ||| (1 <<< e.on ||| p)).testBit j = true := hj
        rw [Nat.testBit_or, Nat.testBit_or, Bool.or_eq_true, Bool.or_eq_true] at hj'
        rcases hj' with q | q | q
        · obtain ⟨x, hx, r⟩ := h2 j (by rw [bit_eq]; exact q)
          exact ⟨x, .tail _ hx, r⟩
        · refine ⟨e, .head _, hb, .inl ?_⟩
          rw [Nat.one_shiftLeft, Nat.testBit_two_pow] at q
          simpa using q
        · exact ⟨e, .head _, hb, .inr ⟨p, hp, by rw [bit_eq]; exact q⟩⟩
theorem presGo_ok (l : List Oper) : ∀ (ps ps' : List Nat) (i : Nat), presGo l ps i = some ps' → ps.length = i → ps'.length = i + l.length ∧ (∀ k, k < i → ps'[k]? = ps[k]?) ∧
    ∀ k o, i ≤ k → l[k - i]? = some o → ∃ p q, ps'[k]? = some p ∧ q = ps'.take k ∧ preE q k o.after.toList = some p := by
  induction l with
  | nil => intro ps ps' i h hl; cases h; exact ⟨by simpa using hl, fun _ _ => rfl, fun k o _ h => by simp at h⟩
  | cons o l ih =>
    intro ps ps' i h hl
    obtain ⟨m, hm, h2⟩ := bind_some (show (preE ps i o.after.toList).bind (fun m => presGo l (app ps [m]) (i + 1)) = some ps' from h)
    rw [app_eq] at h2
    obtain ⟨k1, k2, k3⟩ := ih (ps ++ [m]) ps' (i + 1) h2 (by simp [hl])
    refine ⟨by rw [k1]; simp only [List.length_cons]; omega, fun k hk => ?_, fun k ok hik hok => ?_⟩
    · rw [k2 k (by omega), List.getElem?_append_left (by omega)]
    · by_cases hki : k = i
      · subst hki
        have hoo : o = ok := by simpa using hok
        subst hoo
        have ht : ps'.take k = ps := by
          apply List.ext_getElem?
          intro j
          rw [List.getElem?_take]
          by_cases q : j < k
          · rw [if_pos q, k2 j (by omega), List.getElem?_append_left (by omega)]
          · rw [if_neg q, List.getElem?_eq_none (by omega)]
        refine ⟨m, _, ?_, rfl, by rw [ht]; exact hm⟩
        rw [k2 k (by omega), List.getElem?_append_right (by omega)]
        simp [hl]
      · refine k3 k ok (by omega) ?_
        rw [show k - i = (k - (i + 1)) + 1 by omega] at hok
        exact hok

theorem inO_mem {t : Option Nat} {l : List Nat} : inO t l = true ↔ ∃ d, t = some d ∧ d ∈ l := by
  cases t with
  | none => exact ⟨fun h => (by cases h), fun ⟨d, h, _⟩ => (by cases h)⟩
  | some d => exact ⟨fun h => ⟨d, rfl, elemN_mem d l h⟩, fun ⟨d', h, hm⟩ => (by cases h; exact elemN_of_mem d l hm)⟩
/-- two operations that nothing orders -/
def Clash (E : Env) (ops : List Oper) (o q : Oper) : Prop := (∃ d, q.dst = some d ∧ d ∈ namesOf ops o) ∨ (∃ d, o.dst = some d ∧ d ∈ namesOf ops q) ∨ (cls E q.op = 2 ∧ cls E o.op = 2)
theorem pairOk_ok (ops : List Oper) (p : Nat) (o : Oper) (l : List Oper) : ∀ i, pairOk E ops p o l i = true → ∀ k q, l[k]? = some q → Clash E ops o q → bit p (i + k) = true := by
  induction l with
  | nil => intro i _ k q h; simp at h
  | cons x l ih =>
    intro i h k q hq hc
    have h' : Bool.rec (motive := fun _ => Bool) (Bool.rec (motive := fun _ => Bool) (pairOk E ops p o l (i + 1)) false (inO x.dst (namesOf ops o) || inO o.dst (namesOf ops x) || (Nat.beq (cls E x.op) 2 && Nat.beq (cls E o.op) 2)))
      (pairOk E ops p o l (i + 1)) (bit p i) = true := h
    have hnext : pairOk E ops p o l (i + 1) = true := by
      cases hb : bit p i with
      | true => rw [hb] at h'; exact h'
      | false =>
        rw [hb] at h'
        cases hx : (inO x.dst (namesOf ops o) || inO o.dst (namesOf ops x) || (Nat.beq (cls E x.op) 2 && Nat.beq (cls E o.op) 2)) with
        | true => rw [hx] at h'; cases h'
        | false => rw [hx] at h'; exact h'
    cases k with
    | zero =>
      simp at hq; subst hq
      cases hb : bit p i with
      | true => rfl
      | false =>
        rw [hb] at h'
        exfalso
        have hx : (inO x.dst (namesOf ops o) || inO o.dst (namesOf ops x) || (Nat.beq (cls E x.op) 2 && Nat.beq (cls E o.op) 2)) = true := by
          rw [Bool.or_eq_true, Bool.or_eq_true, Bool.and_eq_true, natBeq_eq, natBeq_eq, decide_eq_true_eq, decide_eq_true_eq, inO_mem, inO_mem]
          rcases hc with q | q | q
          · exact .inl (.inl q)
          · exact .inl (.inr q)
          · exact .inr q
        rw [hx] at h'; cases h'
    | succ k =>
      have := ih (i + 1) hnext k q (by simpa using hq) hc
      rw [show i + (k + 1) = i + 1 + k by omega]; exact this
theorem drawChk_ok (ops : List Oper) (l : List Oper) : ∀ (ahead : List Oper) (ps : List Nat), drawChk E ops l ahead ps = true → ∀ k o p, l[k]? = some o → ps[k]? = some p → pairOk E ops p o (ahead ++ l.take k) 0 = true := by
  induction l with
  | nil => intro a ps _ k o p h; simp at h
  | cons x l ih =>
    intro ahead ps h k o p ho hp
    cases ps with
    | nil => cases h
    | cons p0 ps =>
      have h' : (pairOk E ops p0 x ahead 0 && drawChk E ops l (app ahead [x]) ps) = true := h
      rw [Bool.and_eq_true, app_eq] at h'
      cases k with
      | zero => simp at ho hp; subst ho hp; simpa using h'.1
      | succ k =>
        have := ih _ _ h'.2 k o p (by simpa using ho) (by simpa using hp)
        simpa using this
/-- what is known of a region that draws its order -/
structure DrawFacts (E : Env) (ops : Array Oper) (ps : List Nat) : Prop where
  edge : ∀ (i : Nat) (o : Oper), ops[i]? = some o → ∀ e ∈ o.after.toList, Region.binds .any e = true → e.on < i
  bits : ∀ (i : Nat) (o : Oper) (p : Nat), ops[i]? = some o → ps[i]? = some p → ∀ j, bit p j = true → ∃ e ∈ o.after.toList, Region.binds .any e = true ∧ (e.on = j ∨ ∃ q, ps[e.on]? = some q ∧ bit q j = true)
  clash : ∀ (i j : Nat) (o q : Oper) (p : Nat), ops[i]? = some o → ops[j]? = some q → j < i → ps[i]? = some p → Clash E ops.toList o q → bit p j = true
theorem drawFacts {ops : Array Oper} {ps : List Nat} (h : drawOk E ops.toList = some ps) : DrawFacts E ops ps ∧ ∀ (i : Nat) (o : Oper), ops[i]? = some o → ∃ p, ps[i]? = some p := by
  obtain ⟨ps', h1, h2⟩ := bind_some h
  obtain ⟨h3, h4⟩ := rec_some h2
  cases h4
  obtain ⟨k1, k2, k3⟩ := presGo_ok ops.toList [] ps 0 h1 rfl
  have key : ∀ (i : Nat) (o : Oper), ops[i]? = some o → ∃ p, ps[i]? = some p ∧ preE (ps.take i) i o.after.toList = some p := by
    intro i o ho
    obtain ⟨p, q, a1, a2, a3⟩ := k3 i o (Nat.zero_le _) (by rw [Nat.sub_zero, Array.getElem?_toList]; exact ho)
    subst a2
    exact ⟨p, a1, a3⟩
  refine ⟨⟨?_, ?_, ?_⟩, fun i o ho => ?_⟩
  · intro i o ho e he hb
    obtain ⟨p, a1, a2⟩ := key i o ho
    exact (preE_bits _ _ _ _ a2).1 e he hb
  · intro i o p ho hp j hj
    obtain ⟨p', a1, a2⟩ := key i o ho
    rw [hp] at a1; cases a1
    obtain ⟨e, he, hb, q⟩ := (preE_bits _ _ _ _ a2).2 j hj
    refine ⟨e, he, hb, ?_⟩
    rcases q with q | ⟨q, hq, hbq⟩
    · exact .inl q
    · rw [List.getElem?_take] at hq
      split at hq
      · exact .inr ⟨q, hq, hbq⟩
      · cases hq
  · intro i j o q p ho hq hji hp hc
    have := drawChk_ok ops.toList ops.toList [] ps h3 i o p (by rw [Array.getElem?_toList]; exact ho) hp
    rw [List.nil_append] at this
    have := pairOk_ok ops.toList p o _ 0 this j q (by rw [List.getElem?_take, if_pos hji, Array.getElem?_toList]; exact hq) hc
    rw [Nat.zero_add] at this; exact this
  · obtain ⟨p, a1, _⟩ := key i o ho
    exact ⟨p, a1⟩
end Go.X
