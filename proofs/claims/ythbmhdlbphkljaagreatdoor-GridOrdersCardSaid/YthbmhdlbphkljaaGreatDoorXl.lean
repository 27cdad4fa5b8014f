/- A part of the evaluator of the model, and of the proof that what it answers is what a call comes to. No conditions of its own. -/
import Derived.Test.YthbmhdlbphkljaaGreatDoorXk
import Derived.Laws.Slices
namespace Go.X
open Go
variable {P : Program} {E : Env}
variable {ρ : Rho} {h : H} {W : World} {a c : Operand → Value} {o : Oper}

/-- an operand that may be none -/
def ORelV (ρ : Rho) (a c : Operand → Value) (x : Option Operand) : Prop := ∀ y, x = some y → VRel ρ (a y) (c y)
theorem bound_none {d y n : Nat} (h : bound none d y = some n) : n = d := by cases h; rfl
theorem bound_some {v : Value} {d y n : Nat} (h : bound (some v) d y = some n) : ∃ k, v = .int k (Int.ofNat n) ∧ n ≤ y := by
  unfold bound at h
  split at h
  · rename_i hh; cases hh
  · rename_i k i hh
    cases hh
    obtain ⟨hb, hv⟩ := bif_some h
    cases hv
    rw [natBle_eq, decide_eq_true_eq] at hb
    exact ⟨k, rfl, hb⟩
  · cases h
theorem run_bound {v V : Value} {d y n Y : Nat} (code : BoundsCode) (h : bound (some v) d y = some n) (hv : VRel ρ v V) (hY : y ≤ Y) : (Instr.sliceBound V Y code).run P W = .ok n W := by
  obtain ⟨k, rfl, hn⟩ := bound_some h
  rw [hv.int_inv]
  exact run_sliceBound (P := P) W k (n : Int) Y code (Int.natCast_nonneg n) (Int.ofNat_le.2 (Nat.le_trans hn hY))
theorem bounds_sound (isSlice : Bool) {len cap C l hh m : Nat} {lo hi mx : Option Operand} (hC : cap ≤ C) (hm : bound (opdM a mx) cap cap = some m) (hhh : bound (opdM a hi) len m = some hh) (hl : bound (opdM a lo) 0 hh = some l)
    (hok : hiOk (opdM a hi) (opdM a mx) = true) (rlo : ORelV ρ a c lo) (rhi : ORelV ρ a c hi) (rmx : ORelV ρ a c mx) :
    l ≤ hh ∧ ∃ M, (Instr.sliceBounds isSlice len C (lo.map c) (hi.map c) (mx.map c)).run P W = .ok (l, hh, M) W ∧ ((mx = none ∧ M = C ∧ m = cap) ∨ (M = m ∧ m ≤ cap)) := by
  have hll : l ≤ hh := by
    cases lo with
    | none => have := bound_none hl; omega
    | some x => exact (bound_some hl).choose_spec.2
  refine ⟨hll, ?_⟩
  have hlow : ∀ code, (match lo.map c with | some v => Instr.sliceBound v hh code | none => pure 0).run P W = .ok l W := by
    intro code
    cases lo with
    | none => have := bound_none hl; subst this; rfl
    | some x => exact run_bound code hl (rlo x rfl) (Nat.le_refl _)
  cases mx with
  | none =>
    have hm' := bound_none hm
    subst hm'
    refine ⟨C, ?_, .inl ⟨rfl, rfl, rfl⟩⟩
    cases hi with
    | none =>
      have := bound_none hhh; subst this
      cases lo with
      | none => have := bound_none hl; subst this; simp [Instr.sliceBounds, Sem.run_pure]
      | some x => simp [Instr.sliceBounds, Sem.run_pure, run_bound (P := P) (W := W) .sliceB hl (rlo x rfl) (Nat.le_refl _)]
    | some y =>
      have e := fun code => run_bound (P := P) (W := W) (Y := C) code hhh (rhi y rfl) hC
      cases lo with
      | none => have := bound_none hl; subst this; simp [Instr.sliceBounds, Sem.run_pure, e]
      | some x => simp [Instr.sliceBounds, Sem.run_pure, e, run_bound (P := P) (W := W) .sliceB hl (rlo x rfl) (Nat.le_refl _)]
  | some z =>
    have hmc := (bound_some hm).choose_spec.2
    refine ⟨m, ?_, .inr ⟨rfl, hmc⟩⟩
    have em := fun code => run_bound (P := P) (W := W) (Y := C) code hm (rmx z rfl) hC
    cases hi with
    | none => cases hok
    | some y =>
      have e := fun code => run_bound (P := P) (W := W) (Y := m) code hhh (rhi y rfl) (Nat.le_refl _)
      cases lo with
      | none => have := bound_none hl; subst this; simp [Instr.sliceBounds, Sem.run_pure, e, em]
      | some x => simp [Instr.sliceBounds, Sem.run_pure, e, em, run_bound (P := P) (W := W) .slice3C hl (rlo x rfl) (Nat.le_refl _)]

theorem moveA_sound (hE : EnvOk P E) (hH : HRel ρ h W) {elem : TypeId} {b of n cap l m hh sz : Nat} {A : Addr} {C M : Nat} {r : RI} {a' : Option Addr} (hr : ρ b = some r) (hs : SRel r of n cap A C) (hsz : E.size elem = some sz)
    (hm : moveA E h elem (some ⟨b, of, none⟩) cap l m = some a') (hl : l ≤ hh) (hhm : hh ≤ m) (hM : (M = C ∧ m = cap) ∨ (M = m ∧ m ≤ cap)) :
    VRel ρ (.slice a' (hh - l) (m - l)) (.slice (some (if M = l then A else A.add (l * sz))) (hh - l) (M - l)) := by
  obtain ⟨sz', hsz', hm⟩ := bind_some hm
  rw [hsz] at hsz'; cases hsz'
  obtain ⟨x, hx, hm⟩ := bind_some hm
  obtain ⟨_, _, _, _, hn, hosz, hbn, _, _⟩ := hH.obj b _ r (H.row_get hx) hr
  have hlen : len x.cs = r.n := by rw [len_eq]; exact hn.symm
  rw [hlen, ← hosz.1, natBeq_eq, natBeq_eq, natBeq_eq, natBeq_eq, natBeq_eq] at hm
  by_cases hopen : r.osz ≠ 0 ∧ of + cap * r.osz = r.n ∧ m = cap
  · obtain ⟨ho1, ho2, ho3⟩ := hopen
    have hs' := hs
    unfold SRel at hs'
    rw [if_pos ⟨ho1, ho2⟩] at hs'
    obtain ⟨hcC, hs'⟩ := hs'
    by_cases hos : r.osz = sz
    · have e : (!decide (r.osz = 0) && decide (of + cap * r.osz = r.n) && decide (m = cap)) = true := by simp [ho1, ho2, ho3]
      rw [show (⟨b, of, none⟩ : Addr).off = of from rfl, e] at hm
      simp only [hos, decide_true] at hm
      cases hm
      subst hos ho3
      refine .slice _ _ _ _ _ _ _ hr ?_
      unfold SRel
      have hme : of + l * r.osz + (m - l) * r.osz = r.n := by
        rw [Nat.add_assoc, ← Nat.add_mul]
        rw [show l + (m - l) = m from by omega]; exact ho2
      rw [if_pos ⟨ho1, hme⟩]
      have hMC : m ≤ M ∧ M ≤ C := by rcases hM with hM | hM <;> omega
      refine ⟨by omega, ?_⟩
      by_cases hMl : M = l
      · right; omega
      · left
        rw [if_neg hMl]
        rcases hs' with hA | hA
        · rw [hA.1, addr_add]
          refine ⟨by rw [Nat.add_assoc], ?_⟩
          have : (l + (M - l)) * r.osz ≤ C * r.osz := Nat.mul_le_mul_right _ (by omega)
          rw [Nat.add_mul] at this
          have := hA.2
          show r.base + (of + l * r.osz) + (M - l) * r.osz ≤ r.S
          omega
        · exfalso; omega
    · have e : (!decide (r.osz = 0) && decide (of + cap * r.osz = r.n) && decide (m = cap)) = true := by simp [ho1, ho2, ho3]
      rw [show (⟨b, of, none⟩ : Addr).off = of from rfl, e] at hm
      simp [hos] at hm
  · have e : (!decide (r.osz = 0) && decide (of + cap * r.osz = r.n) && decide (m = cap)) = false := by
      cases hq : (!decide (r.osz = 0) && decide (of + cap * r.osz = r.n) && decide (m = cap)) with
      | false => rfl
      | true => simp at hq; exact absurd ⟨hq.1.1, hq.1.2, hq.2⟩ hopen
    rw [show (⟨b, of, none⟩ : Addr).off = of from rfl, e] at hm
    have hAM : A = ⟨r.blk, r.base + of, none⟩ ∧ M = m := by
      unfold SRel at hs
      by_cases ho : r.osz ≠ 0 ∧ of + cap * r.osz = r.n
      · rw [if_pos ho] at hs
        have hmc : m ≠ cap := fun q => hopen ⟨ho.1, ho.2, q⟩
        rcases hM with hM | hM
        · exact absurd hM.2 hmc
        · rcases hs.2 with q | q
          · exact ⟨q.1, hM.1⟩
          · exfalso; omega
      · rw [if_neg ho] at hs
        refine ⟨hs.1, ?_⟩
        rcases hM with hM | hM <;> omega
    obtain ⟨rfl, rfl⟩ := hAM
    by_cases hml : M = l
    · have : (some ⟨b, of, none⟩ : Option Addr) = a' := by
        have := hm
        simp [hml] at this
        exact this
      subst this
      rw [if_pos hml]
      refine .slice _ _ _ _ _ _ _ hr ?_
      unfold SRel
      split
      · rename_i q
        refine ⟨Nat.le_refl _, .inl ⟨rfl, ?_⟩⟩
        have := q.2; omega
      · exact ⟨rfl, rfl⟩
    · have : (some (addO ⟨b, of, none⟩ (l * sz)) : Option Addr) = a' := by
        have := hm
        simp [hml] at this
        exact this
      subst this
      rw [if_neg hml, addr_add]
      refine .slice _ _ _ _ _ _ _ hr ?_
      unfold SRel
      split
      · rename_i q
        refine ⟨Nat.le_refl _, .inl ⟨by rw [Nat.add_assoc], ?_⟩⟩
        have q2 : of + l * sz + (M - l) * r.osz = r.n := q.2
        show r.base + (of + l * sz) + (M - l) * r.osz ≤ r.S
        omega
      · exact ⟨by rw [Nat.add_assoc], rfl⟩
theorem bsub_eq (s : ByteArray) (l h : Nat) : bsub s l h = s.extract l h := by
  have e : s = ByteArray.mk s.data.toList.toArray := by cases s; rfl
  rw [e, ByteArray.extract_mk]
  show (⟨⟨dropB (takeB s.data.toList h) l⟩⟩ : ByteArray) = _
  rw [takeB_eq, dropB_eq, List.drop_take]
theorem op_slice_sound (hE : EnvOk P E) (hH : HRel ρ h W) (t : TypeId) (x : Operand) (lo hi mx : Option Operand) (ho : o.op = .slice t x lo hi mx) (hx : VRel ρ (a x) (c x)) (rlo : ORelV ρ a c lo) (rhi : ORelV ρ a c hi) (rmx : ORelV ρ a c mx) {v : Value} {h' : H} (hr : op_slice E h a t x lo hi mx = some (.val v h')) : OpOk P ρ h W v h' (execOp c o) := by
  obtain ⟨w, hw, hv⟩ := map_some hr
  cases hv
  obtain ⟨u, hu, hw⟩ := bind_some hw
  have hU := hE.underP hu
  have fin : ∀ V, (Instr.sliceAt t (c x) (lo.map c) (hi.map c) (mx.map c)).run P W = .ok V W → (execOp c o).run P W = .ok (.value V) W := by
    intro V e
    simp only [execOp, ho, Sem.run_bind, e, Result.andThen_ok, Sem.run_pure]
  revert hx hw fin
  generalize a x = p
  generalize c x = q
  intro hx hw fin
  split at hw
  · rename_i s
    cases hx with
    | string _ =>
      obtain ⟨_, hmx, hw1⟩ := bind_some hw
      clear hw
      cases mx with
      | some z => cases hmx
      | none =>
        obtain ⟨hh, hhh, hw2⟩ := bind_some hw1
        obtain ⟨l, hl, hw3⟩ := bind_some hw2
        cases hw3
        have hlen : len s.data.toList = s.size := by rw [len_eq, Array.length_toList]; rfl
        rw [hlen] at hhh
        obtain ⟨hle, M, hM, _⟩ := bounds_sound (P := P) (W := W) (c := c) false (m := s.size) (cap := s.size) (C := s.size) (mx := none) (Nat.le_refl _) rfl hhh hl (by cases (opdM a hi) <;> rfl) rlo rhi rmx
        refine .pure hH (fin (.string (s.extract l hh)) ?_) (by rw [bsub_eq]; exact .string _)
        have hM' : (Instr.sliceBounds false s.size s.size (Option.map c lo) (Option.map c hi) none).run P W = .ok (l, hh, M) W := hM
        simp [Instr.sliceAt, Instr.slice, run_under hU, hM']
  · rename_i elem base n cap
    obtain ⟨m, hm, hw⟩ := bind_some hw
    obtain ⟨hh, hhh, hw⟩ := bind_some hw
    obtain ⟨l, hl, hw⟩ := bind_some hw
    obtain ⟨hok, hw⟩ := rec_some hw
    obtain ⟨a', ha', hw⟩ := bind_some hw
    cases hw
    have hok : hiOk (opdM a hi) (opdM a mx) = true ∧ hh ≤ m ∧ (E.size elem).isSome = true := by
      rw [Bool.and_eq_true, Bool.and_eq_true, natBle_eq, decide_eq_true_eq] at hok
      exact ⟨hok.1.1, hok.1.2, hok.2⟩
    cases hx with
    | snil =>
      obtain ⟨hle, M, hM, hMm⟩ := bounds_sound (P := P) (W := W) (c := c) true (Nat.le_refl cap) hm hhh hl hok.1 rlo rhi rmx
      cases ha'
      have hMe : M = m := by rcases hMm with q | q <;> omega
      subst hMe
      obtain ⟨sz, hsz⟩ := Option.isSome_iff_exists.1 hok.2.2
      refine .pure hH (fin _ ?_) (.snil _ _)
      simp only [Instr.sliceAt, Instr.slice, run_under hU, hM, hE.size hsz, Sem.run_bind, Result.andThen_ok, Sem.run_pure]
      by_cases q : M = l <;> simp [q]

    | slice b of _ _ A C r hrr hsr =>
      have hcC : cap ≤ C := by unfold SRel at hsr; split at hsr <;> omega
      obtain ⟨hle, M, hM, hMm⟩ := bounds_sound (P := P) (W := W) (c := c) true hcC hm hhh hl hok.1 rlo rhi rmx
      obtain ⟨sz, hsz, _⟩ := bind_some ha'
      have := moveA_sound hE hH hrr hsr hsz ha' hle hok.2.1 (by rcases hMm with q | q; exact .inl q.2; exact .inr q)
      refine .pure hH (fin _ ?_) this
      simp only [Instr.sliceAt, Instr.slice, run_under hU, hM, hE.size hsz, Sem.run_bind, Result.andThen_ok, Sem.run_pure]
      by_cases q : M = l <;> simp [q]
  · cases hw
end Go.X
