/- A part of the evaluator of the model, and of the proof that what it answers is what a call comes to. No conditions of its own. -/
import Derived.Test.YthbmhdlbphkljaaGreatDoorXf
namespace Go.X
open Go
variable {P : Program} {E : Env}

theorem strOp_sound {op : BinOp} {t : TypeId} {a b : ByteArray} {v : Value} (h : strOp op a b = some v) (W : World) : (Go.binOp op t (.string a) (.string b)).run P W = .ok v W := by
  have hgen : ∀ op, (Go.binOp op t (.string a) (.string b)) = Op.stringOp op a b := by intro op; cases op <;> rfl
  rw [hgen]
  have ht : ∀ x y : List UInt8, (!bytesLt y x) = (Op.bytesLess x y || x == y) := by
    intro x
    induction x with
    | nil => intro y; cases y <;> rfl
    | cons c x ih =>
      intro y
      cases y with
      | nil => rfl
      | cons d y =>
        have := ih y
        rw [bytesLt_eq] at this ⊢
        simp only [Op.bytesLess]
        by_cases hcd : c = d
        · subst hcd
          simp only [UInt8.lt_irrefl, decide_false, Bool.false_or, BEq.rfl, Bool.true_and]
          rw [this]; simp
        · have hdc : ¬ d = c := fun e => hcd e.symm
          have h1 : (c == d) = false := by simpa using hcd
          have h2 : (d == c) = false := by simpa using hdc
          have h3 : (c :: x == d :: y) = false := by simp [hcd]
          rw [h1, h2, h3]
          simp only [Bool.false_and, Bool.or_false]
          rw [← decide_not]
          congr 1
          rw [UInt8.lt_iff_toNat_lt, UInt8.lt_iff_toNat_lt]
          have : c.toNat ≠ d.toNat := fun e => hcd (UInt8.toNat_inj.1 e)
          simp; omega
  unfold strOp at h
  cases op <;> simp only at h <;> first | (cases h; done) | skip
  case add =>
    rw [len_eq, len_eq, natBle_eq, app_eq] at h
    by_cases hb : a.data.toList.length + b.data.toList.length ≤ 9223372036854775807
    · simp only [hb, decide_true, cond_true] at h
      cases h
      have hs : ¬ (((a.size + b.size : Nat) : Int) > IntKind.i64.max) := by
        have e1 : a.size = a.data.toList.length := rfl
        have e2 : b.size = b.data.toList.length := rfl
        rw [e1, e2]
        have : IntKind.i64.max = 9223372036854775807 := by rfl
        rw [this]; omega
      simp only [Op.stringOp, hs, if_false]
      show Result.ok _ W = _
      congr 2
    · simp only [hb, decide_false, cond_false] at h; cases h
  case eql => cases h; simp only [Op.stringOp, toList_data, Sem.run_pure, listBeq_eq]
  case neq => cases h; simp only [Op.stringOp, toList_data, Sem.run_pure, listBeq_eq]
  case lss => cases h; simp only [Op.stringOp, toList_data, Sem.run_pure, bytesLt_eq]
  case leq => cases h; simp only [Op.stringOp, toList_data, Sem.run_pure, ht]
  case gtr => cases h; simp only [Op.stringOp, toList_data, Sem.run_pure]; rw [← ht, Bool.not_not]
  case geq => cases h; simp only [Op.stringOp, toList_data, Sem.run_pure, bytesLt_eq]

theorem part_sound (hE : EnvOk P E) {ρ : Rho} {t : TypeId} {cs : List Value} {CS : Array Value} {off : Nat} {v : Value} (h : part E t cs off = some v) (hr : VRels ρ cs CS.toList) (W : World) :
    ∃ V, (Go.part t CS off).run P W = .ok V W ∧ VRel ρ v V := by
  obtain ⟨i, hi, hp⟩ := bind_some h
  have hs : E.size t = some i.size := by simp only [Env.size]; rw [show E.types.get t = some i from hi]; rfl
  cases ha : i.agg with
  | false =>
    rw [ha] at hp
    change nth cs off = some v at hp
    rw [nth_eq] at hp
    obtain ⟨V, hV, hv⟩ := hr.get off v hp
    rw [Array.getElem?_toList] at hV
    refine ⟨V, ?_, hv⟩
    simp only [Go.part, Sem.run_bind, hE.isAgg hi, ha, Result.andThen_ok, Bool.false_eq_true, if_false, hV]
    rfl
  | true =>
    rw [ha] at hp
    obtain ⟨c, hc, hv⟩ := bind_some hp
    cases hv
    obtain ⟨hc1, hc2⟩ := takeN_eq _ _ _ hc
    rw [dropN_eq] at hc1
    refine ⟨.agg (CS.extract off (off + i.size)), ?_, .agg _ _ ?_⟩
    · simp only [Go.part, Sem.run_bind, hE.isAgg hi, ha, Result.andThen_ok, if_true, hE.size hs, Sem.run_pure]
    · rw [hc1]
      have e : (CS.extract off (off + i.size)).toList = (CS.toList.drop off).take i.size := by
        rw [Array.toList_extract, List.extract_eq_take_drop]; congr 1; omega
      rw [e]
      exact (hr.drop off).take _

theorem eqV_sound (hE : EnvOk P E) {ρ : Rho} : ∀ (d : Nat) (t : TypeId) (x y X Y : Value) (b : Bool), eqV E d t x y = some b → VRel ρ x X → VRel ρ y Y → ∀ (k : Nat) (W : World), (Op.equalIn (d + k) t X Y).run P W = .ok b W := by
  intro d
  induction d with
  | zero => intro t x y X Y b h; cases h
  | succ d ih =>
    intro t x y X Y b h hx hy k W
    obtain ⟨u, hu, hs⟩ := bind_some h
    have hU := hE.underP hu
    have hd : d + 1 + k = (d + k) + 1 := by omega
    rw [hd]
    unfold eqStep at hs
    split at hs
    · cases hs; cases hx; cases hy; simp [Op.equalIn, run_under hU, Sem.run_pure]
    · cases hx; cases hy
      rename_i k1 a1 k2 a2
      cases hk : kindBeq k1 k2 with
      | false => rw [hk] at hs; cases hs
      | true =>
        rw [hk] at hs; cases hs
        have := kindBeq_eq hk; subst this
        simp [Op.equalIn, run_under hU, intBeq_eq, Sem.run_pure]
    · cases hs; cases hx; cases hy
      simp only [Op.equalIn, Sem.run_bind, run_under hU, Result.andThen_ok, Sem.run_pure, listBeq_eq, beq_toListBytes, toList_data]
    · cases hs; cases hx; cases hy <;> simp [Op.equalIn, run_under hU, Sem.run_pure]
    · cases hs; cases hx; cases hy; simp [Op.equalIn, run_under hU, Sem.run_pure]
    · rename_i el a1 b1
      obtain ⟨sz, hsz0, hs⟩ := bind_some hs
      have hsz := hE.size hsz0 W
      cases hab : addrBeq a1 b1 with
      | false => rw [hab] at hs; cases hs
      | true =>
        rw [hab] at hs; cases hs
        have hXY : ∃ A : Addr, X = .pointer (some A) ∧ Y = .pointer (some A) := by
          cases hx with | ptr b o r hr => cases hy with | ptr b2 o2 r2 hr2 =>
          simp only [addrBeq, natBeq_eq, Bool.and_eq_true, decide_eq_true_eq] at hab
          obtain ⟨g1, g2⟩ := hab
          subst g1; subst g2
          rw [hr] at hr2; cases hr2
          exact ⟨_, rfl, rfl⟩
        obtain ⟨A, hX, hY⟩ := hXY
        subst hX; subst hY
        by_cases hz : sz = 0
        · simp [Op.equalIn, run_under hU, Sem.run_pure, hsz, hz]
        · simp [Op.equalIn, run_under hU, Sem.run_pure, hsz, hz, sameAddr]
    · rename_i fields xs ys
      cases hm : elemN t E.eqs with
      | false => rw [hm] at hs; cases hs
      | true =>
        rw [hm] at hs
        simp only [cond_true] at hs
        obtain ⟨h1, h2, h3⟩ := hE.eqs t (elemN_mem _ _ hm)
        cases hx with | agg _ XS hxs => cases hy with | agg _ YS hys =>
        have hf : P.fieldsOf t = fields := by simp only [Program.fieldsOf, hU]
        rw [run_equalIn_struct W (d + k) t XS YS (by rw [hf]; exact hU) h1, hf]
        have h4 := h3 fields hU
        clear hU hf h3
        generalize fields.toList = fs at hs h4
        induction fs generalizing W with
        | nil => cases hs; simp [Op.eqFields, Sem.run_pure]
        | cons f fs ihf =>
          obtain ⟨a, ha, hs⟩ := bind_some hs
          obtain ⟨c, hc, hs⟩ := bind_some hs
          obtain ⟨r, hr, hs⟩ := bind_some hs
          obtain ⟨A, hA, hra⟩ := part_sound hE ha hxs W
          obtain ⟨C, hC, hrc⟩ := part_sound hE hc hys W
          have he := ih f.type a c A C r hr hra hrc k W
          have hn : f.name ≠ "_" := h4 f (.head _)
          simp only [Op.eqFields]
          rw [if_pos hn]
          simp only [Sem.run_bind, hA, hC, he, Result.andThen_ok]
          cases r with
          | false => cases hs; simp [Sem.run_pure]
          | true => simp only [Bool.not_true, Bool.false_eq_true, if_false]; exact ihf W hs (fun g hg => h4 g (.tail _ hg))
    · cases hs; cases hx; cases hy <;> simp [Op.equalIn, run_under hU, Sem.run_pure]
    · cases hs; cases hx; cases hy; simp [Op.equalIn, run_under hU, Sem.run_pure]
    · cases hs; cases hx; cases hy <;> simp [Op.equalIn, run_under hU, Sem.run_pure]
    · cases hs; cases hx; cases hy; simp [Op.equalIn, run_under hU, Sem.run_pure]
    · cases hs; cases hx; cases hy; simp [Op.equalIn, run_under hU, Sem.run_pure]
    · cases hs; cases hx; cases hy; simp [Op.equalIn, run_under hU, Sem.run_pure]
    · cases hs; cases hx; cases hy; simp [Op.equalIn, run_under hU, Sem.run_pure]
    · cases hs
end Go.X
