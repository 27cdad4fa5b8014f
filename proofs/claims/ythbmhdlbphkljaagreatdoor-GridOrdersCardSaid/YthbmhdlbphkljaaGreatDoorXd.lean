/- A part of the evaluator of the model, and of the proof that what it answers is what a call comes to. No conditions of its own. -/
import Derived.Test.YthbmhdlbphkljaaGreatDoorXc
namespace Go.X
open Go

/-- a function that the machine itself answers -/
def ExtOk (P : Program) (f : FuncId) (k : Nat) : Prop := ∃ fd e, P.funcs[f]? = some fd ∧ fd.body = none ∧ Extern.findNext fd = none ∧ Extern.find fd = some e ∧ (k = 0 → e = Extern.AbiNoEscape.same) ∧ (k = 2 → e = Extern.BytealgIndexByte.indexByte)
structure EnvOk (P : Program) (E : Env) : Prop where
  ext : ∀ f k, findX f E.xs = some k → k ≠ 3 → ExtOk P f k
  info : ∀ t i, E.types.get t = some i → ∃ j, P.info? t = some j ∧ j.size = i.size ∧ j.bytes = i.bytes ∧ i.zero = j.zero.bind zeroOf ∧ P.underlying t = some i.d ∧ i.agg = isAggD i.d
  funcs : ∀ (f : FuncId) (fn : Func), E.funcs.get f = some fn → P.funcs[f]? = some fn
  num : ∀ (f : FuncId) (fn : Func), P.funcs[f]? = some fn → fn.name ≠ "runtime.NumGoroutine"
  mixed : P.follows .mixedOrders = true
  eqs : ∀ t ∈ E.eqs, P.stoodInHeld t = false ∧ P.eqGuardType P.depth t = false ∧ ∀ fs, P.underlying t = some (.struct fs) → ∀ f ∈ fs.toList, f.name ≠ "_"

theorem bind_some {α β : Type} {x : Option α} {f : α → Option β} {b : β} (h : x.bind f = some b) : ∃ a, x = some a ∧ f a = some b := by
  cases x with
  | none => cases h
  | some a => exact ⟨a, rfl, h⟩
theorem map_some {α β : Type} {x : Option α} {f : α → β} {b : β} (h : x.map f = some b) : ∃ a, x = some a ∧ f a = b := by
  cases x with
  | none => cases h
  | some a => exact ⟨a, rfl, by simpa using h⟩

section runs
variable {P : Program} {E : Env}
theorem run_info {t : TypeId} {j : TypeInfo} (h : P.info? t = some j) (W : World) : (typeInfo t).run P W = .ok j W := by
  simp only [typeInfo, program, Sem.run_bind]
  show (Result.ok P W).andThen _ = _
  simp only [Result.andThen_ok, h]
  rfl
theorem run_under {t : TypeId} {d : TypeDesc} (h : P.underlying t = some d) (W : World) : (underlying t).run P W = .ok d W := by
  simp only [underlying, program, Sem.run_bind]
  show (Result.ok P W).andThen _ = _
  simp only [Result.andThen_ok, h]
  rfl
theorem EnvOk.under (hE : EnvOk P E) {t : TypeId} {d : TypeDesc} (h : E.under t = some d) (W : World) : (underlying t).run P W = .ok d W := by
  obtain ⟨i, hi, hd⟩ := bind_some h
  cases hd
  obtain ⟨j, _, _, _, _, hu, _⟩ := hE.info t i hi
  exact run_under hu W
theorem EnvOk.underP (hE : EnvOk P E) {t : TypeId} {d : TypeDesc} (h : E.under t = some d) : P.underlying t = some d := by
  obtain ⟨i, hi, hd⟩ := bind_some h
  cases hd
  obtain ⟨j, _, _, _, _, hu, _⟩ := hE.info t i hi
  exact hu
theorem EnvOk.size (hE : EnvOk P E) {t : TypeId} {n : Nat} (h : E.size t = some n) (W : World) : (sizeOf t).run P W = .ok n W := by
  obtain ⟨i, hi, hd⟩ := bind_some h
  cases hd
  obtain ⟨j, hj, hs, _⟩ := hE.info t i hi
  simp only [Go.sizeOf, Sem.run_bind, run_info hj, Result.andThen_ok, Sem.run_pure, hs]
theorem EnvOk.isAgg (hE : EnvOk P E) {t : TypeId} {i : TI} (h : E.info t = some i) (W : World) : (isAgg t).run P W = .ok i.agg W := by
  obtain ⟨j, hj, hs, _, _, hu, ha⟩ := hE.info t i h
  simp only [Go.isAgg, Sem.run_bind, run_under hu, Result.andThen_ok, ha]
  cases i.d <;> rfl
theorem closed0_rel {v : Value} (h : closed0 v = true) (ρ : Rho) : VRel ρ v v := by
  unfold closed0 at h
  split at h <;> first | cases h | skip
  · exact .bool _
  · exact .int _ _
  · exact .float _ _
  · exact .string _
  · exact .pnil
  · exact .snil _ _
  · exact .mnil
  · exact .nilFunc
  · exact .nilIface
  · exact .unk _
theorem closedL_rel (l : List Value) (ρ : Rho) : closedL l = true → VRels ρ l l := by
  induction l with
  | nil => intro _; exact .nil
  | cons v l ih =>
    intro h
    have h' : (closed0 v && closedL l) = true := h
    rw [Bool.and_eq_true] at h'
    exact .cons _ _ _ _ (closed0_rel h'.1 ρ) (ih h'.2)
theorem closed1_rel {v : Value} (h : closed1 v = true) (ρ : Rho) : VRel ρ v v := by
  unfold closed1 at h
  split at h
  · exact .agg _ _ (closedL_rel _ ρ h)
  · exact .tuple _ _ (closedL_rel _ ρ h)
  · exact closed0_rel h ρ
theorem constV_key (v : Value) (ρ : Rho) : VRel ρ (Bool.rec (motive := fun _ => Value) unk v (closed1 v)) v := by
  cases h : closed1 v with
  | false => exact .unk _
  | true => exact closed1_rel h ρ
theorem constV_rel (v : Value) (ρ : Rho) : VRel ρ (constV v) v := by
  cases v with
  | bool b => exact .bool _
  | int k n => exact .int _ _
  | string s => exact .string _
  | float k b => exact constV_key (.float k b) ρ
  | complex k a b => exact constV_key (.complex k a b) ρ
  | pointer a => exact constV_key (.pointer a) ρ
  | slice a l c => exact constV_key (.slice a l c) ρ
  | map r => exact constV_key (.map r) ρ
  | chan r => exact constV_key (.chan r) ρ
  | func f a c => exact constV_key (.func f a c) ρ
  | nilFunc => exact constV_key .nilFunc ρ
  | iface t v => exact constV_key (.iface t v) ρ
  | nilIface => exact constV_key .nilIface ρ
  | agg c => exact constV_key (.agg c) ρ
  | tuple c => exact constV_key (.tuple c) ρ
theorem zeroOf_rel {z v : Value} (h : zeroOf z = some v) (ρ : Rho) : v = z ∧ VRel ρ v z := by
  unfold zeroOf at h
  cases hc : closed1 z with
  | false => rw [hc] at h; cases h
  | true => rw [hc] at h; cases h; exact ⟨rfl, closed1_rel hc ρ⟩
theorem EnvOk.zero (hE : EnvOk P E) {t : TypeId} {z : Value} (h : E.zero t = some z) (W : World) : (zeroValue t).run P W = .ok z W ∧ ∀ ρ, VRel ρ z z := by
  obtain ⟨i, hi, hz⟩ := bind_some h
  obtain ⟨j, hj, _, _, hzz, _⟩ := hE.info t i hi
  rw [hzz] at hz
  obtain ⟨y, hy, hyz⟩ := bind_some hz
  obtain ⟨rfl, _⟩ := zeroOf_rel hyz (fun _ => none)
  refine ⟨?_, fun ρ => (zeroOf_rel hyz ρ).2⟩
  simp only [zeroValue, Sem.run_bind, run_info hj, Result.andThen_ok, hy]
  rfl
/-- a value's cells -/
theorem cells_rel {ρ : Rho} {v V : Value} {c : List Value} (h : cells v = some c) (hv : VRel ρ v V) : VRels ρ c V.cells.toList := by
  cases hv with
  | unk => cases h
  | agg a A ha => cases h; exact ha
  | _ => all_goals (cases h; refine .cons _ _ _ _ ?_ .nil; constructor <;> assumption)
theorem EnvOk.zcells (hE : EnvOk P E) {t : TypeId} {c : List Value} (h : E.zcells t = some c) (W : World) : ∃ z, (zeroValue t).run P W = .ok z W ∧ z.cells.toList = c ∧ ∀ ρ, VRels ρ c z.cells.toList := by
  obtain ⟨z, hz, hc⟩ := bind_some h
  obtain ⟨h1, h2⟩ := hE.zero hz W
  refine ⟨z, h1, ?_, fun ρ => cells_rel hc (h2 ρ)⟩
  cases z <;> first | (cases hc; rfl) | cases hc
end runs
end Go.X
