/- A part of the evaluator of the model, and of the proof that what it answers is what a call comes to. No conditions of its own. -/
import Derived.Test.YthbmhdlbphkljaaGreatDoorXh
namespace Go.X
open Go
variable {P : Program} {E : Env}

theorem VRel.int_inv {ρ : Rho} {k : IntKind} {n : Int} {V : Value} (h : VRel ρ (.int k n) V) : V = .int k n := by cases h; rfl
theorem VRel.str_inv {ρ : Rho} {s : ByteArray} {V : Value} (h : VRel ρ (.string s) V) : V = .string s := by cases h; rfl
theorem intV_some {v : Value} {p : IntKind × Int} (h : intV v = some p) : v = .int p.1 p.2 := by
  unfold intV at h; split at h
  · cases h; rfl
  · cases h
theorem strV_some {v : Value} {p : ByteArray} (h : strV v = some p) : v = .string p := by
  unfold strV at h; split at h
  · cases h; rfl
  · cases h
theorem closed_int (ρ : Rho) {v : Value} (h : ∃ k n, v = .int k n ∨ ∃ b, v = .bool b) : VRel ρ v v := by
  obtain ⟨k, n, h⟩ := h
  rcases h with rfl | ⟨b, rfl⟩
  · exact .int _ _
  · exact .bool _
theorem intBin_rel (ρ : Rho) {op : BinOp} {k k' : IntKind} {a b : Int} {v : Value} (h : intBin op k a k' b = some v) : VRel ρ v v := by
  cases op
  case shl => change shlI k a b = some v at h; unfold shlI at h; split at h <;> first | (cases h; exact .int _ _) | cases h
  case shr => change shrI k a b = some v at h; unfold shrI at h; split at h <;> first | (cases h; exact .int _ _) | cases h
  all_goals
    obtain ⟨hk, hv⟩ := sameK_some h
    first
      | (cases hv; first | exact .int _ _ | exact .bool _)
      | (cases e : intBeq b 0 with
         | true => rw [e] at hv; cases hv
         | false => rw [e] at hv; cases hv; exact .int _ _)
theorem strOp_rel (ρ : Rho) {op : BinOp} {a b : ByteArray} {v : Value} (h : strOp op a b = some v) : VRel ρ v v := by
  unfold strOp at h
  cases op <;> simp only at h <;> first | (cases h; done) | (cases h; exact .bool _) | skip
  cases e : Nat.ble (len a.data.toList + len b.data.toList) 9223372036854775807 with
  | true => rw [e] at h; cases h; exact .string _
  | false => rw [e] at h; cases h
theorem eqGuard_plain (op : BinOp) (t : TypeId) (x y : Operand) (A B : Value) (W : World) (h1 : A ≠ .nilIface ∨ B ≠ .nilIface) (h2 : (∀ c, A ≠ .agg c) ∨ (∀ c, B ≠ .agg c) ∨ P.eqGuardType P.depth t = false) : (eqGuard op t x y A B).run P W = .ok () W := by
  have key : ∀ op, op = .eql ∨ op = .neq → (eqGuard op t x y A B).run P W = .ok () W := by
    intro op hop
    have hm : (!(op matches .eql | .neq)) = false := by rcases hop with rfl | rfl <;> rfl
    unfold eqGuard
    rcases hop with rfl | rfl <;>
    · simp only [Bool.not_true, Bool.false_eq_true, if_false]
      split
      · rcases h1 with h | h <;> exact absurd rfl h
      · rcases h2 with h | h | h
        · exact absurd rfl (h _)
        · exact absurd rfl (h _)
        · simp [run_program, h]
      · simp [Sem.run_pure]
  cases op
  case eql => exact key _ (.inl rfl)
  case neq => exact key _ (.inr rfl)
  all_goals simp [eqGuard, Sem.run_pure]
theorem binOp_eql (t : TypeId) (X Y : Value) (hx : ∀ k n, X ≠ .int k n) (hs : ∀ s, X ≠ .string s) (hf : ∀ k n, X ≠ .float k n) (hc : ∀ k n m, X ≠ .complex k n m) (hy : ∀ k n, Y ≠ .int k n) (hys : ∀ s, Y ≠ .string s) (b : Bool) (W : World) (h : (Op.equalIn 10000 t X Y).run P W = .ok b W) :
    (Go.binOp .eql t X Y).run P W = .ok (.bool b) W := by
  have e : Go.binOp .eql t X Y = (do pure (.bool (← Op.equal t X Y))) := by
    cases X <;> first | exact absurd rfl (hx _ _) | exact absurd rfl (hs _) | exact absurd rfl (hf _ _) | exact absurd rfl (hc _ _ _) | (cases Y <;> first | rfl | exact absurd rfl (hy _ _) | exact absurd rfl (hys _))
  rw [e]
  simp only [Op.equal, Op.maxDepth, Sem.run_bind, h, Result.andThen_ok, Sem.run_pure]
theorem binOp_neq (t : TypeId) (X Y : Value) (hx : ∀ k n, X ≠ .int k n) (hs : ∀ s, X ≠ .string s) (hf : ∀ k n, X ≠ .float k n) (hc : ∀ k n m, X ≠ .complex k n m) (hy : ∀ k n, Y ≠ .int k n) (hys : ∀ s, Y ≠ .string s) (b : Bool) (W : World) (h : (Op.equalIn 10000 t X Y).run P W = .ok b W) :
    (Go.binOp .neq t X Y).run P W = .ok (.bool (!b)) W := by
  have e : Go.binOp .neq t X Y = (do pure (.bool (!(← Op.equal t X Y)))) := by
    cases X <;> first | exact absurd rfl (hx _ _) | exact absurd rfl (hs _) | exact absurd rfl (hf _ _) | exact absurd rfl (hc _ _ _) | (cases Y <;> first | rfl | exact absurd rfl (hy _ _) | exact absurd rfl (hys _))
  rw [e]
  simp only [Op.equal, Op.maxDepth, Sem.run_bind, h, Result.andThen_ok, Sem.run_pure]

/-- what eqV speaks of -/
theorem eqV_shape (hE : EnvOk P E) {ρ : Rho} {t : TypeId} {x y X Y : Value} {b : Bool} (h : eqV E 100 t x y = some b) (hx : VRel ρ x X) (hy : VRel ρ y Y) (hni : intV x = none) (hns : strV x = none) :
    (∀ k n, X ≠ .int k n) ∧ (∀ s, X ≠ .string s) ∧ (∀ k n, X ≠ .float k n) ∧ (∀ k n m, X ≠ .complex k n m) ∧ (∀ k n, Y ≠ .int k n) ∧ (∀ s, Y ≠ .string s) ∧ (X ≠ .nilIface ∨ Y ≠ .nilIface) ∧ ((∀ c, X ≠ .agg c) ∨ (∀ c, Y ≠ .agg c) ∨ P.eqGuardType P.depth t = false) := by
  obtain ⟨u, hu, hs⟩ := bind_some h
  unfold eqStep at hs
  split at hs
  case h_2 => cases hni
  case h_3 => cases hns
  case h_6 =>
    cases hx <;> cases hy <;> (refine ⟨?_, ?_, ?_, ?_, ?_, ?_, ?_, .inl ?_⟩ <;> simp)
  case h_7 =>
    rename_i fields xs ys
    cases hm : elemN t E.eqs with
    | false => rw [hm] at hs; cases hs
    | true =>
      obtain ⟨h1, h2, h3⟩ := hE.eqs t (elemN_mem _ _ hm)
      cases hx; cases hy
      refine ⟨?_, ?_, ?_, ?_, ?_, ?_, ?_, .inr (.inr h2)⟩ <;> simp
  all_goals first
    | (cases hs; done)
    | (cases hx <;> cases hy <;> (refine ⟨?_, ?_, ?_, ?_, ?_, ?_, ?_, .inl ?_⟩ <;> simp))

variable {ρ : Rho} {h : H} {W : World} {a c : Operand → Value} {o : Oper}
theorem op_binOp_sound (hE : EnvOk P E) (hH : HRel ρ h W) (op : BinOp) (t yt : TypeId) (x y : Operand) (ho : o.op = .binOp op t x y yt) (hx : VRel ρ (a x) (c x)) (hy : VRel ρ (a y) (c y)) {v : Value} {h' : H} (hr : op_binOp E h a op t x y = some (.val v h')) : OpOk P ρ h W v h' (execOp c o) := by
  obtain ⟨u, hu, hv⟩ := map_some hr
  cases hv
  have main : ∃ V, VRel ρ v V ∧ (eqGuard op t x y (c x) (c y)).run P W = .ok () W ∧ (Go.binOp op t (c x) (c y)).run P W = .ok V W := by
    unfold binOp at hu
    cases e : intV (a x) with
    | some p =>
      rw [e] at hu
      obtain ⟨q, hq, hb⟩ := bind_some hu
      rw [intV_some e] at hx
      rw [intV_some hq] at hy
      rw [hx.int_inv, hy.int_inv]
      exact ⟨v, intBin_rel ρ hb, eqGuard_plain _ _ _ _ _ _ _ (.inl (by simp)) (.inl (by simp)), intBin_sound hb W⟩
    | none =>
      rw [e] at hu
      change binStr E op t (a x) (a y) = some v at hu
      unfold binStr at hu
      cases e2 : strV (a x) with
      | some p =>
        rw [e2] at hu
        obtain ⟨q, hq, hb⟩ := bind_some hu
        rw [strV_some e2] at hx
        rw [strV_some hq] at hy
        rw [hx.str_inv, hy.str_inv]
        exact ⟨v, strOp_rel ρ hb, eqGuard_plain _ _ _ _ _ _ _ (.inl (by simp)) (.inl (by simp)), strOp_sound hb W⟩
      | none =>
        rw [e2] at hu
        change eqOp E t (a x) (a y) op = some v at hu
        cases op <;> first | cases hu | skip
        · obtain ⟨b, hb, hv⟩ := bind_some hu
          cases hv
          obtain ⟨q1, q2, q3, q4, q5, q6, q7, q8⟩ := eqV_shape hE hb hx hy e e2
          exact ⟨_, .bool b, eqGuard_plain _ _ _ _ _ _ _ q7 q8, binOp_eql t _ _ q1 q2 q3 q4 q5 q6 b W (eqV_sound hE 100 t _ _ _ _ b hb hx hy 9900 W)⟩
        · obtain ⟨b, hb, hv⟩ := bind_some hu
          cases hv
          obtain ⟨q1, q2, q3, q4, q5, q6, q7, q8⟩ := eqV_shape hE hb hx hy e e2
          exact ⟨_, .bool (!b), eqGuard_plain _ _ _ _ _ _ _ q7 q8, binOp_neq t _ _ q1 q2 q3 q4 q5 q6 b W (eqV_sound hE 100 t _ _ _ _ b hb hx hy 9900 W)⟩
  obtain ⟨V, h1, h2, h3⟩ := main
  exact .pure hH (by simp only [execOp, ho, Sem.run_bind, h2, h3, Result.andThen_ok, Sem.run_pure]) h1
theorem op_unOp_sound (hH : HRel ρ h W) (op : UnOp) (t : TypeId) (x : Operand) (ho : o.op = .unOp op t x) (hx : VRel ρ (a x) (c x)) {v : Value} {h' : H} (hr : op_unOp E h a op x = some (.val v h')) : OpOk P ρ h W v h' (execOp c o) := by
  obtain ⟨u, hu, hv⟩ := map_some hr
  cases hv
  have main : ∃ V, VRel ρ v V ∧ (Op.unary op (c x)).run P W = .ok V W := by
    cases op with
    | neg =>
      obtain ⟨p, hp, hb⟩ := bind_some hu
      rw [intV_some hp] at hx
      rw [hx.int_inv]
      refine ⟨v, intBin_rel ρ hb, ?_⟩
      have := intBin_sound (P := P) (t := t) hb W
      simpa [Go.binOp, Op.unary] using this
    | xor =>
      obtain ⟨p, hp, hb⟩ := bind_some hu
      rw [intV_some hp] at hx
      rw [hx.int_inv]
      refine ⟨v, intBin_rel ρ hb, ?_⟩
      have := intBin_sound (P := P) (t := t) hb W
      simpa [Go.binOp, Op.unary] using this
    | not =>
      change notV (a x) = some v at hu
      revert hu hx
      generalize a x = p
      intro hx hu
      unfold notV at hu
      split at hu
      · cases hu
        revert hx; generalize c x = q; intro hx
        cases hx
        exact ⟨_, .bool _, by simp [Op.unary, Sem.run_pure]⟩
      · cases hu
    | plus => cases hu
  obtain ⟨V, h1, h2⟩ := main
  exact .pure hH (by simp only [execOp, ho, Sem.run_bind, h2, Result.andThen_ok, Sem.run_pure]) h1
end Go.X
