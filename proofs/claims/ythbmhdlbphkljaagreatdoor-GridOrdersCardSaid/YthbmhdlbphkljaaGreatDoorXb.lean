/- A part of the evaluator of the model, and of the proof that what it answers is what a call comes to. No conditions of its own. -/
import Derived.Test.YthbmhdlbphkljaaGreatDoorXa
namespace Go.X
open Go

section T
variable {α : Type}
theorem T.get_e (k : Nat) : (T.e : T α).get k = none := rfl
theorem T.get_n0 (v : Option α) (l r : T α) : (T.n v l r).get 0 = v := rfl
theorem T.get_nl (v : Option α) (l r : T α) (k : Nat) (h : k % 2 = 0) : (T.n v l r).get (k + 1) = l.get (k / 2) := by
  show Bool.rec (motive := fun _ => Option α) (r.get (Nat.div k 2)) (l.get (Nat.div k 2)) (Nat.beq (Nat.mod k 2) 0) = _
  have : Nat.beq (Nat.mod k 2) 0 = true := by show Nat.beq (k % 2) 0 = true; rw [h]; rfl
  rw [this]; rfl
theorem T.get_nr (v : Option α) (l r : T α) (k : Nat) (h : k % 2 = 1) : (T.n v l r).get (k + 1) = r.get (k / 2) := by
  show Bool.rec (motive := fun _ => Option α) (r.get (Nat.div k 2)) (l.get (Nat.div k 2)) (Nat.beq (Nat.mod k 2) 0) = _
  have : Nat.beq (Nat.mod k 2) 0 = false := by show Nat.beq (k % 2) 0 = false; rw [h]; rfl
  rw [this]; rfl
theorem T.set_e0 (f : Nat) (x : Option α) : T.set (f + 1) T.e 0 x = T.n x T.e T.e := rfl
theorem T.set_n0 (f : Nat) (v : Option α) (l r : T α) (x : Option α) : T.set (f + 1) (T.n v l r) 0 x = T.n x l r := rfl
theorem T.set_el (f k : Nat) (x : Option α) (h : k % 2 = 0) : T.set (f + 1) T.e (k + 1) x = T.n none (T.set f T.e (k / 2) x) T.e := by
  show Bool.rec (motive := fun _ => T α) (T.n none T.e (T.set f T.e (Nat.div k 2) x)) (T.n none (T.set f T.e (Nat.div k 2) x) T.e) (Nat.beq (Nat.mod k 2) 0) = _
  have : Nat.beq (Nat.mod k 2) 0 = true := by show Nat.beq (k % 2) 0 = true; rw [h]; rfl
  rw [this]; rfl
theorem T.set_er (f k : Nat) (x : Option α) (h : k % 2 = 1) : T.set (f + 1) T.e (k + 1) x = T.n none T.e (T.set f T.e (k / 2) x) := by
  show Bool.rec (motive := fun _ => T α) (T.n none T.e (T.set f T.e (Nat.div k 2) x)) (T.n none (T.set f T.e (Nat.div k 2) x) T.e) (Nat.beq (Nat.mod k 2) 0) = _
  have : Nat.beq (Nat.mod k 2) 0 = false := by show Nat.beq (k % 2) 0 = false; rw [h]; rfl
  rw [this]; rfl
theorem T.set_nl (f k : Nat) (v : Option α) (l r : T α) (x : Option α) (h : k % 2 = 0) : T.set (f + 1) (T.n v l r) (k + 1) x = T.n v (T.set f l (k / 2) x) r := by
  show Bool.rec (motive := fun _ => T α) (T.n v l (T.set f r (Nat.div k 2) x)) (T.n v (T.set f l (Nat.div k 2) x) r) (Nat.beq (Nat.mod k 2) 0) = _
  have : Nat.beq (Nat.mod k 2) 0 = true := by show Nat.beq (k % 2) 0 = true; rw [h]; rfl
  rw [this]; rfl
theorem T.set_nr (f k : Nat) (v : Option α) (l r : T α) (x : Option α) (h : k % 2 = 1) : T.set (f + 1) (T.n v l r) (k + 1) x = T.n v l (T.set f r (k / 2) x) := by
  show Bool.rec (motive := fun _ => T α) (T.n v l (T.set f r (Nat.div k 2) x)) (T.n v (T.set f l (Nat.div k 2) x) r) (Nat.beq (Nat.mod k 2) 0) = _
  have : Nat.beq (Nat.mod k 2) 0 = false := by show Nat.beq (k % 2) 0 = false; rw [h]; rfl
  rw [this]; rfl

theorem T.get_set (f : Nat) : ∀ (t : T α) (k j : Nat) (x : Option α), k < f → (T.set f t k x).get j = if j = k then x else t.get j := by
  induction f with
  | zero => intro t k j x h; omega
  | succ f ih =>
    intro t k j x h
    cases k with
    | zero =>
      cases t with
      | e =>
        rw [T.set_e0]
        cases j with
        | zero => rfl
        | succ j =>
          rw [if_neg (by omega), T.get_e]
          rcases Nat.mod_two_eq_zero_or_one j with hj | hj
          · rw [T.get_nl _ _ _ _ hj, T.get_e]
          · rw [T.get_nr _ _ _ _ hj, T.get_e]
      | n v l r =>
        rw [T.set_n0]
        cases j with
        | zero => rfl
        | succ j =>
          rw [if_neg (by omega)]
          rcases Nat.mod_two_eq_zero_or_one j with hj | hj
          · rw [T.get_nl _ _ _ _ hj, T.get_nl _ _ _ _ hj]
          · rw [T.get_nr _ _ _ _ hj, T.get_nr _ _ _ _ hj]
    | succ k =>
      have hk : k / 2 < f := by omega
      cases t with
      | e =>
        rcases Nat.mod_two_eq_zero_or_one k with hm | hm
        · rw [T.set_el _ _ _ hm]
          cases j with
          | zero => rw [if_neg (by omega)]; rfl
          | succ j =>
            rcases Nat.mod_two_eq_zero_or_one j with hj | hj
            · rw [T.get_nl _ _ _ _ hj, ih _ _ _ _ hk]
              by_cases e : j / 2 = k / 2
              · rw [if_pos e, if_pos (by omega)]
              · rw [if_neg e, if_neg (by omega)]; rfl
            · rw [T.get_nr _ _ _ _ hj, if_neg (by omega)]; rfl
        · rw [T.set_er _ _ _ hm]
          cases j with
          | zero => rw [if_neg (by omega)]; rfl
          | succ j =>
            rcases Nat.mod_two_eq_zero_or_one j with hj | hj
            · rw [T.get_nl _ _ _ _ hj, if_neg (by omega)]; rfl
            · rw [T.get_nr _ _ _ _ hj, ih _ _ _ _ hk]
              by_cases e : j / 2 = k / 2
              · rw [if_pos e, if_pos (by omega)]
              · rw [if_neg e, if_neg (by omega)]; rfl
      | n v l r =>
        rcases Nat.mod_two_eq_zero_or_one k with hm | hm
        · rw [T.set_nl _ _ _ _ _ _ hm]
          cases j with
          | zero => rw [if_neg (by omega)]; rfl
          | succ j =>
            rcases Nat.mod_two_eq_zero_or_one j with hj | hj
            · rw [T.get_nl _ _ _ _ hj, T.get_nl _ _ _ _ hj, ih _ _ _ _ hk]
              by_cases e : j / 2 = k / 2
              · rw [if_pos e, if_pos (by omega)]
              · rw [if_neg e, if_neg (by omega)]
            · rw [T.get_nr _ _ _ _ hj, T.get_nr _ _ _ _ hj, if_neg (by omega)]
        · rw [T.set_nr _ _ _ _ _ _ hm]
          cases j with
          | zero => rw [if_neg (by omega)]; rfl
          | succ j =>
            rcases Nat.mod_two_eq_zero_or_one j with hj | hj
            · rw [T.get_nl _ _ _ _ hj, T.get_nl _ _ _ _ hj, if_neg (by omega)]
            · rw [T.get_nr _ _ _ _ hj, T.get_nr _ _ _ _ hj, ih _ _ _ _ hk]
              by_cases e : j / 2 = k / 2
              · rw [if_pos e, if_pos (by omega)]
              · rw [if_neg e, if_neg (by omega)]
end T

section lists
variable {α β : Type}
theorem len_eq (l : List α) : len l = l.length := by
  induction l with
  | nil => rfl
  | cons a l ih => show Nat.add (len l) 1 = _; rw [ih]; rfl
theorem app_eq (l r : List α) : app l r = l ++ r := by
  induction l with
  | nil => rfl
  | cons a l ih => show a :: app l r = _; rw [ih]; rfl
theorem mapL_eq (f : α → β) (l : List α) : mapL f l = l.map f := by
  induction l with
  | nil => rfl
  | cons a l ih => show f a :: mapL f l = _; rw [ih]; rfl
theorem nthA_eq (l : List α) : ∀ n, nthA l n = l[n]? := by
  induction l with
  | nil => intro n; rfl
  | cons a l ih => intro n; cases n with
    | zero => rfl
    | succ n => show nthA l n = _; rw [ih]; rfl
theorem nth_eq (l : List Value) : ∀ n, nth l n = l[n]? := by
  induction l with
  | nil => intro n; rfl
  | cons a l ih => intro n; cases n with
    | zero => rfl
    | succ n => show nth l n = _; rw [ih]; rfl
theorem nthB_eq (l : List UInt8) : ∀ n, nthB l n = l[n]? := by
  induction l with
  | nil => intro n; rfl
  | cons a l ih => intro n; cases n with
    | zero => rfl
    | succ n => show nthB l n = _; rw [ih]; rfl
theorem takeB_eq (l : List UInt8) : ∀ n, takeB l n = l.take n := by
  induction l with
  | nil => intro n; cases n <;> rfl
  | cons a l ih => intro n; cases n with
    | zero => rfl
    | succ n => show a :: takeB l n = _; rw [ih]; rfl
theorem dropB_eq (l : List UInt8) : ∀ n, dropB l n = l.drop n := by
  induction l with
  | nil => intro n; cases n <;> rfl
  | cons a l ih => intro n; cases n with
    | zero => rfl
    | succ n => show dropB l n = _; rw [ih]; rfl
theorem dropN_eq (n : Nat) : ∀ l, dropN n l = l.drop n := by
  induction n with
  | zero => intro l; rfl
  | succ n ih => intro l; cases l with
    | nil => rfl
    | cons a l => show dropN n l = _; rw [ih]; rfl
theorem takeN_eq (n : Nat) : ∀ l r, takeN n l = some r → r = l.take n ∧ n ≤ l.length := by
  induction n with
  | zero => intro l r h; cases h; exact ⟨rfl, Nat.zero_le _⟩
  | succ n ih =>
    intro l r h
    cases l with
    | nil => cases h
    | cons a l =>
      have h' : Option.rec (motive := fun _ => Option (List Value)) none (fun r => some (a :: r)) (takeN n l) = some r := h
      cases e : takeN n l with
      | none => rw [e] at h'; cases h'
      | some q =>
        rw [e] at h'
        obtain ⟨h1, h2⟩ := ih l q e
        cases h'
        exact ⟨by rw [h1]; rfl, by simp; omega⟩
theorem splice_eq (c : List Value) : ∀ vs : List Value, vs.length ≤ c.length → splice c vs = vs ++ c.drop vs.length := by
  induction c with
  | nil => intro vs h; cases vs with
    | nil => rfl
    | cons v vs => simp at h
  | cons a c ih => intro vs h; cases vs with
    | nil => rfl
    | cons v vs => show v :: splice c vs = _; rw [ih vs (by simpa using h)]; rfl
theorem spliceAt_eq (c : List Value) : ∀ (k : Nat) (vs : List Value), k + vs.length ≤ c.length → spliceAt c k vs = c.take k ++ vs ++ c.drop (k + vs.length) := by
  induction c with
  | nil =>
    intro k vs h
    have hk : k = 0 := by simp at h; omega
    have hv : vs = [] := by
      cases vs with
      | nil => rfl
      | cons _ _ => simp at h
    subst hk; subst hv; rfl
  | cons a c ih =>
    intro k vs h
    cases k with
    | zero => show splice (a :: c) vs = _; rw [splice_eq _ _ (by simpa using h)]; simp
    | succ k =>
      show a :: spliceAt c k vs = _
      rw [ih k vs (by simp at h; omega)]
      have e : k + 1 + vs.length = (k + vs.length) + 1 := by omega
      rw [e]; rfl
theorem spliceAt_length (c : List Value) (k : Nat) (vs : List Value) (h : k + vs.length ≤ c.length) : (spliceAt c k vs).length = c.length := by
  rw [spliceAt_eq c k vs h]; simp; omega
theorem allOne_mem (l : List Value) : allOne l = true → ∀ v ∈ l, oneCell v = true := by
  induction l with
  | nil => intro _ v hv; cases hv
  | cons a l ih =>
    intro h v hv
    have h' : Bool.rec (motive := fun _ => Bool) false (allOne l) (oneCell a) = true := h
    cases e : oneCell a with
    | false => rw [e] at h'; cases h'
    | true =>
      rw [e] at h'
      cases hv with
      | head => exact e
      | tail _ hm => exact ih h' v hm
theorem zeros_length (z : List Value) (n : Nat) : (zeros z n).length = n * z.length := by
  induction n with
  | zero => show ([] : List Value).length = _; simp
  | succ n ih => show (app z (zeros z n)).length = _; rw [app_eq, List.length_append, ih, Nat.succ_mul]; omega
theorem mapV_eq (ρ : Operand → Value) (l : List Operand) : mapV ρ l = l.map ρ := by
  induction l with
  | nil => rfl
  | cons a l ih => show ρ a :: mapV ρ l = _; rw [ih]; rfl
theorem mapP_eq (ρ : Operand → Value) (l : List (Nat × Operand)) : mapP ρ l = l.map fun x => (x.1, ρ x.2) := by
  induction l with
  | nil => rfl
  | cons a l ih => show (a.1, ρ a.2) :: mapP ρ l = _; rw [ih]; rfl
theorem byteVals_eq (l : List UInt8) : byteVals l = l.map fun b => Value.int .u8 b.toNat := by
  induction l with
  | nil => rfl
  | cons a l ih => show Value.int .u8 a.toNat :: byteVals l = _; rw [ih]; rfl
theorem elemN_mem (f : Nat) (l : List Nat) : elemN f l = true → f ∈ l := by
  induction l with
  | nil => intro h; cases h
  | cons a l ih =>
    intro h
    have h' : Bool.rec (motive := fun _ => Bool) (elemN f l) true (Nat.beq a f) = true := h
    cases e : Nat.beq a f with
    | true => rw [Nat.eq_of_beq_eq_true e]; exact .head _
    | false => rw [e] at h'; exact .tail _ (ih h')
theorem elemN_of_mem (f : Nat) (l : List Nat) (h : f ∈ l) : elemN f l = true := by
  induction l with
  | nil => cases h
  | cons a l ih =>
    show Bool.rec (motive := fun _ => Bool) (elemN f l) true (Nat.beq a f) = true
    cases e : Nat.beq a f with
    | true => rfl
    | false =>
      cases h with
      | head => rw [Nat.beq_refl] at e; cases e
      | tail _ hm => exact ih hm
theorem findX_mem (f : FuncId) (k : Nat) (l : List (FuncId × Nat)) : findX f l = some k → (f, k) ∈ l := by
  induction l with
  | nil => intro h; cases h
  | cons a l ih =>
    intro h
    have h' : Bool.rec (motive := fun _ => Option Nat) (findX f l) (some a.2) (Nat.beq a.1 f) = some k := h
    cases e : Nat.beq a.1 f with
    | true =>
      rw [e] at h'; cases h'
      have := Nat.eq_of_beq_eq_true e
      obtain ⟨x, y⟩ := a
      cases this; exact .head _
    | false => rw [e] at h'; exact .tail _ (ih h')
end lists

/-- the tree that a list makes -/
theorem evens_true {α : Type} (l : List α) : ∀ i : Nat, ((evens l true)[i]? = l[2 * i]?) ∧ ((evens l false)[i]? = l[2 * i + 1]?) := by
  induction l with
  | nil => intro i; exact ⟨by simp [evens], by simp [evens]⟩
  | cons a l ih =>
    intro i
    have e1 : evens (a :: l) true = a :: evens l false := rfl
    have e2 : evens (a :: l) false = evens l true := rfl
    rw [e1, e2]
    constructor
    · cases i with
      | zero => rfl
      | succ i =>
        have := (ih i).2
        simp only [List.getElem?_cons_succ]
        rw [this]
        have : 2 * (i + 1) = (2 * i + 1) + 1 := by omega
        rw [this, List.getElem?_cons_succ]
    · rw [(ih i).1]
      simp
theorem evens_length {α : Type} (l : List α) : (evens l true).length = (l.length + 1) / 2 ∧ (evens l false).length = l.length / 2 := by
  induction l with
  | nil => exact ⟨by simp [evens], by simp [evens]⟩
  | cons a l ih =>
    have e1 : evens (a :: l) true = a :: evens l false := rfl
    have e2 : evens (a :: l) false = evens l true := rfl
    have e3 : (a :: evens l false).length = (evens l false).length + 1 := rfl
    have e4 : (a :: l).length = l.length + 1 := rfl
    rw [e1, e2, e3, e4, ih.1, ih.2]
    constructor <;> omega
theorem mkT_get {α : Type} (f : Nat) : ∀ (l : List α) (k : Nat), l.length < 2 ^ f → (mkT f l).get k = l[k]? := by
  induction f with
  | zero =>
    intro l k h
    have : l = [] := by cases l with
      | nil => rfl
      | cons a l => simp at h
    subst this; rfl
  | succ f ih =>
    intro l k h
    cases l with
    | nil => rfl
    | cons a l =>
      have e : mkT (f + 1) (a :: l) = T.n (some a) (mkT f (evens l true)) (mkT f (evens l false)) := rfl
      rw [e]
      have hl : ∀ b, (evens l b).length < 2 ^ f := by
        intro b
        have key := evens_length l
        have hh : l.length + 1 < 2 ^ f * 2 := by rw [Nat.pow_succ, List.length_cons] at h; exact h
        cases b with
        | true => rw [key.1]; omega
        | false => rw [key.2]; omega
      cases k with
      | zero => rfl
      | succ k =>
        rcases Nat.mod_two_eq_zero_or_one k with hm | hm
        · rw [T.get_nl _ _ _ _ hm, ih _ _ (hl true), (evens_true l (k / 2)).1, List.getElem?_cons_succ]
          congr 1; omega
        · rw [T.get_nr _ _ _ _ hm, ih _ _ (hl false), (evens_true l (k / 2)).2, List.getElem?_cons_succ]
          congr 1; omega

/-- the temporaries' tree -/
inductive Sz : B → Nat → Prop
  | nil : Sz .nil 0
  | leaf (v : Value) : Sz (.leaf v) 1
  | node (l r : B) (n : Nat) (h : 2 ≤ n) (hl : Sz l ((n + 1) / 2)) (hr : Sz r (n / 2)) : Sz (.node l r) n
theorem B.get_leaf (v : Value) (k : Nat) : (B.leaf v).get k = if k = 0 then v else Go.undef := by
  show Bool.rec (motive := fun _ => Value) Go.undef v (Nat.beq k 0) = _
  cases k with
  | zero => rfl
  | succ k => rw [if_neg (by omega)]; rfl
theorem B.get_node (l r : B) (k : Nat) : (B.node l r).get k = if k % 2 = 0 then l.get (k / 2) else r.get (k / 2) := by
  show Bool.rec (motive := fun _ => Value) (r.get (Nat.div k 2)) (l.get (Nat.div k 2)) (Nat.beq (Nat.mod k 2) 0) = _
  rcases Nat.mod_two_eq_zero_or_one k with h | h
  · rw [if_pos h]
    have : Nat.beq (Nat.mod k 2) 0 = true := by show Nat.beq (k % 2) 0 = true; rw [h]; rfl
    rw [this]; rfl
  · rw [if_neg (by omega)]
    have : Nat.beq (Nat.mod k 2) 0 = false := by show Nat.beq (k % 2) 0 = false; rw [h]; rfl
    rw [this]; rfl
theorem B.set_leaf (u v : Value) (k : Nat) : (B.leaf u).set k v = if k = 0 then .leaf v else .leaf u := by
  show Bool.rec (motive := fun _ => B) (.leaf u) (.leaf v) (Nat.beq k 0) = _
  cases k with
  | zero => rfl
  | succ k => rw [if_neg (by omega)]; rfl
theorem B.set_node (l r : B) (k : Nat) (v : Value) : (B.node l r).set k v = if k % 2 = 0 then .node (l.set (k / 2) v) r else .node l (r.set (k / 2) v) := by
  show Bool.rec (motive := fun _ => B) (.node l (r.set (Nat.div k 2) v)) (.node (l.set (Nat.div k 2) v) r) (Nat.beq (Nat.mod k 2) 0) = _
  rcases Nat.mod_two_eq_zero_or_one k with h | h
  · rw [if_pos h]
    have : Nat.beq (Nat.mod k 2) 0 = true := by show Nat.beq (k % 2) 0 = true; rw [h]; rfl
    rw [this]; rfl
  · rw [if_neg (by omega)]
    have : Nat.beq (Nat.mod k 2) 0 = false := by show Nat.beq (k % 2) 0 = false; rw [h]; rfl
    rw [this]; rfl
theorem Sz.set {b : B} {n : Nat} (h : Sz b n) : ∀ (k : Nat) (v : Value), Sz (b.set k v) n := by
  induction h with
  | nil => intro k v; exact .nil
  | leaf u => intro k v; rw [B.set_leaf]; split <;> exact .leaf _
  | node l r n h hl hr il ir =>
    intro k v; rw [B.set_node]; split
    · exact .node _ _ _ h (il _ _) hr
    · exact .node _ _ _ h hl (ir _ _)
theorem Sz.get_out {b : B} {n : Nat} (h : Sz b n) : ∀ k, n ≤ k → b.get k = Go.undef := by
  induction h with
  | nil => intro k _; rfl
  | leaf u => intro k hk; rw [B.get_leaf, if_neg (by omega)]
  | node l r n h hl hr il ir =>
    intro k hk; rw [B.get_node]; split
    · exact il _ (by omega)
    · exact ir _ (by omega)
theorem Sz.get_set {b : B} {n : Nat} (h : Sz b n) : ∀ (k j : Nat) (v : Value), (b.set k v).get j = if j = k ∧ k < n then v else b.get j := by
  induction h with
  | nil => intro k j v; rw [if_neg (by omega)]; rfl
  | leaf u =>
    intro k j v; rw [B.set_leaf]
    split
    · rename_i hk; subst hk
      rw [B.get_leaf]
      by_cases hj : j = 0
      · rw [if_pos hj, if_pos ⟨hj, by omega⟩]
      · rw [if_neg hj, if_neg (by omega), B.get_leaf, if_neg hj]
    · rw [if_neg (by omega)]
  | node l r n h hl hr il ir =>
    intro k j v; rw [B.set_node]
    split
    · rename_i hk
      rw [B.get_node, B.get_node, il]
      by_cases hj : j % 2 = 0
      · rw [if_pos hj, if_pos hj]
        by_cases e : j = k ∧ k < n
        · rw [if_pos e, if_pos (by omega)]
        · rw [if_neg e, if_neg (by omega)]
      · rw [if_neg hj, if_neg hj, if_neg (by omega)]
    · rename_i hk
      rw [B.get_node, B.get_node, ir]
      by_cases hj : j % 2 = 0
      · rw [if_pos hj, if_pos hj, if_neg (by omega)]
      · rw [if_neg hj, if_neg hj]
        by_cases e : j = k ∧ k < n
        · rw [if_pos e, if_pos (by omega)]
        · rw [if_neg e, if_neg (by omega)]
theorem B.mk_sz (f : Nat) : ∀ n, n ≤ f → Sz (B.mk f n) n := by
  induction f with
  | zero => intro n h; have : n = 0 := by omega
            subst this; exact .nil
  | succ f ih =>
    intro n hn
    show Sz (Bool.rec (motive := fun _ => B) (Bool.rec (motive := fun _ => B) .nil (.leaf Go.undef) (Nat.beq n 1)) (.node (B.mk f (Nat.div (Nat.add n 1) 2)) (B.mk f (Nat.div n 2))) (Nat.ble 2 n)) n
    cases e : Nat.ble 2 n with
    | true =>
      have h2 := Nat.le_of_ble_eq_true e
      exact .node _ _ _ h2 (ih _ (by show (n + 1) / 2 ≤ _; omega)) (ih _ (by show n / 2 ≤ _; omega))
    | false =>
      have h2 : ¬ 2 ≤ n := fun h => by rw [Nat.ble_eq_true_of_le h] at e; cases e
      cases n with
      | zero => exact .nil
      | succ n => cases n with
        | zero => exact .leaf _
        | succ n => omega
theorem B.mk_get (f : Nat) : ∀ n k, (B.mk f n).get k = Go.undef := by
  induction f with
  | zero => intro n k; rfl
  | succ f ih =>
    intro n k
    show (Bool.rec (motive := fun _ => B) (Bool.rec (motive := fun _ => B) .nil (.leaf Go.undef) (Nat.beq n 1)) (.node (B.mk f (Nat.div (Nat.add n 1) 2)) (B.mk f (Nat.div n 2))) (Nat.ble 2 n) : B).get k = _
    cases Nat.ble 2 n with
    | true => show (B.node _ _).get k = _; rw [B.get_node, ih, ih]; split <;> rfl
    | false =>
      cases Nat.beq n 1 with
      | true => show (B.leaf _).get k = _; rw [B.get_leaf]; split <;> rfl
      | false => rfl

/-- small things -/
theorem kindBeq_eq {a b : IntKind} (h : kindBeq a b = true) : a = b := by cases a <;> cases b <;> first | rfl | cases h
theorem intBeq_eq (a b : Int) : intBeq a b = (a == b) := by
  cases a with
  | ofNat a => cases b with
    | ofNat b =>
      show Nat.beq a b = _
      by_cases h : a = b
      · subst h; rw [Nat.beq_refl]; simp
      · have : Nat.beq a b = false := by cases e : Nat.beq a b with
          | false => rfl
          | true => exact absurd (Nat.eq_of_beq_eq_true e) h
        rw [this]; symm; simp; omega
    | negSucc b => rfl
  | negSucc a => cases b with
    | ofNat b => rfl
    | negSucc b =>
      show Nat.beq a b = _
      by_cases h : a = b
      · subst h; rw [Nat.beq_refl]; simp
      · have : Nat.beq a b = false := by cases e : Nat.beq a b with
          | false => rfl
          | true => exact absurd (Nat.eq_of_beq_eq_true e) h
        rw [this]; symm; simp; omega
theorem natBle_eq (a b : Nat) : Nat.ble a b = decide (a ≤ b) := by
  by_cases h : a ≤ b
  · rw [Nat.ble_eq_true_of_le h]; simp [h]
  · have : Nat.ble a b = false := by cases e : Nat.ble a b with
      | false => rfl
      | true => exact absurd (Nat.le_of_ble_eq_true e) h
    rw [this]; simp [h]
theorem intBle_eq (a b : Int) : intBle a b = decide (a ≤ b) := by
  cases a with
  | ofNat a => cases b with
    | ofNat b => show Nat.ble a b = _; rw [natBle_eq]; simp
    | negSucc b => show false = _; symm; simp; omega
  | negSucc a => cases b with
    | ofNat b => show true = _; symm; simp; omega
    | negSucc b => show Nat.ble b a = _; rw [natBle_eq]; simp; omega
theorem natBeq_eq (a b : Nat) : Nat.beq a b = decide (a = b) := by
  by_cases h : a = b
  · subst h; rw [Nat.beq_refl]; simp
  · have : Nat.beq a b = false := by cases e : Nat.beq a b with
      | false => rfl
      | true => exact absurd (Nat.eq_of_beq_eq_true e) h
    rw [this]; simp [h]
theorem listBeq_eq (x : List UInt8) : ∀ y, listBeq x y = (x == y) := by
  induction x with
  | nil => intro y; cases y <;> rfl
  | cons a x ih =>
    intro y
    cases y with
    | nil => rfl
    | cons b y =>
      show Bool.rec (motive := fun _ => Bool) false (listBeq x y) (Nat.beq a.toNat b.toNat) = _
      rw [ih, natBeq_eq]
      by_cases h : a = b
      · subst h; simp
      · have : ¬ a.toNat = b.toNat := fun e => h (UInt8.toNat_inj.1 e)
        simp [this, h]
theorem bytesLt_eq (x : List UInt8) : ∀ y, bytesLt x y = Op.bytesLess x y := by
  induction x with
  | nil => intro y; cases y <;> rfl
  | cons a x ih =>
    intro y
    cases y with
    | nil => rfl
    | cons b y =>
      show Bool.rec (motive := fun _ => Bool) (Nat.blt a.toNat b.toNat) (bytesLt x y) (Nat.beq a.toNat b.toNat) = _
      rw [ih, natBeq_eq]
      simp only [Op.bytesLess]
      have e1 : Nat.blt a.toNat b.toNat = decide (a < b) := by
        show Nat.ble (a.toNat + 1) b.toNat = _
        rw [natBle_eq]; simp [UInt8.lt_iff_toNat_lt]; omega
      by_cases h : a = b
      · subst h; simp
      · have : ¬ a.toNat = b.toNat := fun e => h (UInt8.toNat_inj.1 e)
        simp [this, h, e1]
end Go.X
