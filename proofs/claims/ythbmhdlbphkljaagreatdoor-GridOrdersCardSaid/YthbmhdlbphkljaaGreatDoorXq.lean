/- A part of the evaluator of the model, and of the proof that what it answers is what a call comes to. No conditions of its own. -/
import Derived.Test.YthbmhdlbphkljaaGreatDoorXp
import Derived.Scope
namespace Go.X
open Go
variable {P : Program} {E : Env}

theorem ev_rel {ρ : Rho} {t : B} {a : Act} (h : TRel ρ t a.tmps) (x : Operand) : VRel ρ (ev t x) (a.eval x) := by
  cases x with
  | tmp k => exact h.2 k
  | const v => exact constV_rel v ρ
  | global g => exact .unk _
  | func f => exact .func _ _ _ _ _ _ (.func f) .nil .nil
theorem setL_get (l : List Value) : ∀ (t : B) (n k j : Nat), Sz t n → Sz (B.setL l t k) n ∧ (B.setL l t k).get j = if k ≤ j ∧ j < k + l.length ∧ j < n then (l[j - k]?).getD Go.undef else t.get j := by
  induction l with
  | nil => intro t n k j h; exact ⟨h, by rw [if_neg (by simp; omega)]; rfl⟩
  | cons v l ih =>
    intro t n k j h
    show Sz (B.setL l (t.set k v) (k + 1)) n ∧ (B.setL l (t.set k v) (k + 1)).get j = _
    obtain ⟨h1, h2⟩ := ih (t.set k v) n (k + 1) j (h.set k v)
    refine ⟨h1, ?_⟩
    rw [h2, h.get_set]
    simp only [List.length_cons]
    by_cases q : j = k
    · subst q
      rw [if_neg (by omega)]
      by_cases q2 : j < n
      · rw [if_pos ⟨rfl, q2⟩, if_pos (by omega)]; simp
      · rw [if_neg (by omega), if_neg (by omega)]
    · by_cases q2 : k + 1 ≤ j ∧ j < k + 1 + l.length ∧ j < n
      · rw [if_pos q2, if_pos (by omega)]
        have : j - k = (j - (k + 1)) + 1 := by omega
        rw [this]; simp
      · rw [if_neg q2, if_neg (by omega), if_neg (by omega)]
theorem args_rel {ρ : Rho} {args ARGS : List Value} (h : VRels ρ args ARGS) (nt : Nat) : TRel ρ (B.setL args (B.mk (Nat.add (len args) (Nat.add nt 1)) (Nat.add (len args) (Nat.sub nt (len args)))) 0) (ARGS.toArray ++ Array.replicate (nt - ARGS.toArray.size) Go.undef) := by
  rw [len_eq]
  have hl := h.length
  have hsz : (ARGS.toArray ++ Array.replicate (nt - ARGS.toArray.size) Go.undef).size = args.length + (nt - args.length) := by simp [hl]
  have hmk := B.mk_sz (args.length + (nt + 1)) (args.length + (nt - args.length)) (by omega)
  refine ⟨by rw [hsz]; exact (setL_get args _ _ 0 0 hmk).1, fun k => ?_⟩
  have hg := (setL_get args _ _ 0 k hmk).2
  show VRel ρ ((B.setL args (B.mk (args.length + (nt + 1)) (args.length + (nt - args.length))) 0).get k) _
  rw [hg]
  by_cases q : k < args.length
  · rw [if_pos (by omega)]
    obtain ⟨V, hV, hv⟩ := h.get k _ (List.getElem?_eq_getElem q)
    have e1 : (args[k - 0]?).getD Go.undef = args[k] := by simp [q]
    have e2 : (ARGS.toArray ++ Array.replicate (nt - ARGS.toArray.size) Go.undef).getD k Go.undef = V := by
      have hk : k < ARGS.length := by omega
      rw [Array.getD_eq_getD_getElem?, Array.getElem?_append_left (by simpa using hk)]
      simp [hV]
    rw [e1, e2]; exact hv
  · rw [if_neg (by omega), B.mk_get]
    have e2 : (ARGS.toArray ++ Array.replicate (nt - ARGS.toArray.size) Go.undef).getD k Go.undef = Go.undef := by
      rw [Array.getD_eq_getD_getElem?, Array.getElem?_append_right (by simp; omega)]
      rw [Array.getElem?_replicate]
      split <;> rfl
    rw [e2]; exact VRel.undef ρ

def resOne (T : Array Value) : ResultVar → Sem Value
  | .tmp t => pure (T.getD t undef)
  | .cell a t => do Go.loadVar t (← asAddr (T.getD a undef))
theorem resVals_sound (hE : EnvOk P E) {ρ : Rho} {st : St} {T : Array Value} {W : World} (hT : TRel ρ st.tmps T) (hH : HRel ρ st.h W) : ∀ (rs : List ResultVar) (vs : List Value), resVals E st rs = some vs →
    ∃ VS : List Value, (rs.mapM (resOne T)).run P W = .ok VS W ∧ VRels ρ vs VS := by
  intro rs
  induction rs with
  | nil => intro vs h; cases h; exact ⟨[], rfl, .nil⟩
  | cons r rs ih =>
    intro vs h
    cases r with
    | tmp t =>
      obtain ⟨vs', h', e⟩ := map_some h
      subst e
      obtain ⟨VS, h1, h2⟩ := ih vs' h'
      refine ⟨T.getD t undef :: VS, ?_, .cons _ _ _ _ (hT.2 t) h2⟩
      simp only [List.mapM_cons, resOne, Sem.run_bind, Sem.run_pure, Result.andThen_ok]
      rw [h1]; simp [Sem.run_pure]
    | cell a t =>
      obtain ⟨A, hA, h⟩ := bind_some h
      obtain ⟨v, hv, h⟩ := bind_some h
      obtain ⟨vs', h', e⟩ := map_some h
      subst e
      obtain ⟨VS, h1, h2⟩ := ih vs' h'
      obtain ⟨b, of, he, rfl⟩ := addrOf_some hA
      have hp := hT.2 a
      rw [he] at hp
      revert hp; generalize hq : T.getD a undef = q; intro hp
      cases hp with
      | ptr _ _ r hr =>
        obtain ⟨V, k1, k2⟩ := loadVar_sound hE hH hr hv
        refine ⟨V :: VS, ?_, .cons _ _ _ _ k2 h2⟩
        simp only [List.mapM_cons, resOne, Sem.run_bind, hq, asAddr, Sem.run_pure, Result.andThen_ok, k1]
        rw [h1]; simp [Sem.run_pure]
theorem results_sound (hE : EnvOk P E) {ρ : Rho} {st : St} {T : Array Value} {W : World} (hT : TRel ρ st.tmps T) (hH : HRel ρ st.h W) (fn : Func) (vs : List Value) (h : resVals E st fn.results.toList = some vs) :
    ∃ V, (results fn T).run P W = .ok V W ∧ VRel ρ (tupleOf vs) V := by
  obtain ⟨VS, h1, h2⟩ := resVals_sound hE hT hH _ _ h
  have hm : (fn.results.mapM (resOne T)).run P W = .ok VS.toArray W := by
    rw [Array.mapM_eq_mapM_toList]
    rw [Sem.run_map, h1]; rfl
  refine ⟨if h : VS.toArray.size = 1 then VS.toArray[0] else .tuple VS.toArray, ?_, ?_⟩
  · have e : results fn T = (fn.results.mapM (resOne T) >>= fun vs => pure (if h : vs.size = 1 then vs[0] else .tuple vs)) := by
      unfold results
      congr 1
    rw [e]
    simp only [Sem.run_bind]
    rw [hm]; simp only [Result.andThen_ok, Sem.run_pure]
  · cases h2 with
    | nil => exact .tuple _ _ .nil
    | cons v V l L hv hl =>
      cases hl with
      | nil => exact hv
      | cons v2 V2 l2 L2 hv2 hl2 => exact .tuple _ _ (.cons _ _ _ _ hv (.cons _ _ _ _ hv2 hl2))
end Go.X
