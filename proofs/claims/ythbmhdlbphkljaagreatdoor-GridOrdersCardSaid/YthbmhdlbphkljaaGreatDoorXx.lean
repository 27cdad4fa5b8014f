/- A part of the evaluator of the model, and of the proof that what it answers is what a call comes to. No conditions of its own. -/
import Derived.Test.YthbmhdlbphkljaaGreatDoorXw
namespace Go.X
open Go

/-- closed questions to a program -/
noncomputable def namedB (P : Program) : Bool := P.types.toList.all fun i => match i.desc with | .named _ u => decide (u < P.types.size) | _ => true
noncomputable def numB (P : Program) : Bool := P.funcs.toList.all fun f => !(f.name == "runtime.NumGoroutine")
noncomputable def fieldsB : Option TypeDesc → Bool
  | some (.struct fs) => fs.toList.all fun f => !(f.name == "_")
  | _ => true
noncomputable def eqsB (P : Program) (l : List TypeId) : Bool := l.all fun t => !(P.stoodInHeld t) && !(P.eqGuardType P.depth t) && fieldsB (P.underlying t)
theorem info_types (P : Program) {t : TypeId} {j : TypeInfo} (h : P.types[t]? = some j) : P.info? t = some j := by
  have ht : t < P.types.size := by
    rcases Nat.lt_or_ge t P.types.size with g | g
    · exact g
    · rw [Array.getElem?_eq_none g] at h; cases h
  show Tables.info? _ t = _
  unfold Tables.info?
  rw [if_pos ht]; exact h
theorem envOk_of (P : Program) (xs : List (FuncId × Nat)) (eqs : List TypeId) (ht : P.types.size < 2 ^ 20) (hf : P.funcs.size < 2 ^ 20) (hnamed : namedB P = true) (hnum : numB P = true) (hm : P.follows .mixedOrders = true) (he : eqsB P eqs = true) (hx : ∀ f k, findX f xs = some k → k ≠ 3 → ExtOk P f k) : EnvOk P (Env.of P xs eqs) := by
  have hty : ∀ t : Nat, (mkT 20 P.types.toList).get t = P.types[t]? := fun t => by rw [mkT_get 20 _ _ (by simpa using ht), Array.getElem?_toList]
  refine ⟨hx, ?_, ?_, ?_, hm, ?_⟩
  · intro t i hi
    have hi' : (mkT 20 (mapL (tiOf (mkT 20 P.types.toList)) P.types.toList)).get t = some i := hi
    rw [mkT_get 20 _ _ (by rw [mapL_eq]; simpa using ht), mapL_eq, List.getElem?_map, Array.getElem?_toList] at hi'
    obtain ⟨j, hj, rfl⟩ := Option.map_eq_some_iff.1 hi'
    refine ⟨j, info_types P hj, rfl, rfl, rfl, ?_, rfl⟩
    show P.underlying t = some (descOf (mkT 20 P.types.toList) j.desc)
    unfold Program.underlying
    rw [info_types P hj]
    have hn := (List.all_eq_true.1 hnamed) j (Array.mem_toList_iff.2 (Array.mem_of_getElem? hj))
    cases hd : j.desc with
    | named a u =>
      rw [hd] at hn
      have hu : u < P.types.size := by simpa using hn
      have hju := Array.getElem?_eq_getElem (xs := P.types) (i := u) hu
      obtain ⟨d, s, b, z, m⟩ := j
      simp only at hd
      subst hd
      show (P.info? u).map (·.desc) = _
      rw [info_types P hju]
      show _ = some (match (mkT 20 P.types.toList).get u with | some i => i.desc | none => .invalid)
      rw [hty u, hju]; rfl
    | _ =>
      obtain ⟨d, s, b, z, m⟩ := j
      simp only at hd
      subst hd
      rfl
  · intro f fn h
    have h' : (mkT 20 P.funcs.toList).get f = some fn := h
    rw [mkT_get 20 _ _ (by simpa using hf), Array.getElem?_toList] at h'
    exact h'
  · intro f fn h
    have := (List.all_eq_true.1 hnum) fn (Array.mem_toList_iff.2 (Array.mem_of_getElem? h))
    simpa using this
  · intro t htm
    have := (List.all_eq_true.1 he) t htm
    simp only [Bool.and_eq_true, Bool.not_eq_true'] at this
    obtain ⟨⟨h1, h2⟩, h3⟩ := this
    refine ⟨h1, h2, fun fs hfs f hfm => ?_⟩
    rw [hfs] at h3
    have := (List.all_eq_true.1 h3) f hfm
    simpa using this
end Go.X
