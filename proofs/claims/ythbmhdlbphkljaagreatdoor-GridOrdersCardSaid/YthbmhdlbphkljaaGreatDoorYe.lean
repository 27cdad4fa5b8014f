/- A part of the evaluator of the model, and of the proof that what it answers is what a call comes to. No conditions of its own. -/
import Derived.Test.YthbmhdlbphkljaaGreatDoorYd
namespace Go.X
open Go

/-! words of printed functions -/
noncomputable def cellV (h : H) (a : Value) : Option Value := (addrOf a).bind fun a => (h.row a.block).bind fun x => nth x.cs a.off
noncomputable def aggV (n : Nat) (h : H) (a : Value) : Option Value := (addrOf a).bind fun a => loadAgg h a n
noncomputable def stV (n : Nat) (h : H) (a x : Value) : Option H := (addrOf a).bind fun a => (cells x).bind fun cs => bif Nat.beq (len cs) n then storeCells h a cs else none
noncomputable def offA (o : Nat) (x : Value) : Option Value := (addrOf x).bind fun a => some (.pointer (some (addO a o)))
noncomputable def hnew (h : H) (e : TypeId) (c : List Value) (K : Value → H → Prop) : Prop := K (rowPtr h) (newRow h e c 0)
noncomputable def boxP (h : H) (e : TypeId) (x : Value) (K : Value → H → Prop) : Prop := bindO (cells x) fun c => K (rowPtr h) (newRow h e c 0)
noncomputable def bldS (E : Env) (h : H) (t n : Nat) (ps : List (Nat × Value)) (K : Value → H → Prop) : Prop := bindO (buildS E h t n ps) fun h' => K (.slice (some ⟨h.next, 0, none⟩) n n) h'
noncomputable def fldC (o : Nat) (x : Value) : Option Value := match x with | .agg cs => nth cs.toList o | _ => none
noncomputable def fldA (o n : Nat) (x : Value) : Option Value := match x with | .agg cs => partAgg cs.toList o n | _ => none
noncomputable def blt (E : Env) (h : H) (b : Builtin) (ats : Array TypeId) (xs : List Value) (K : Value → H → Prop) : Prop := bindO (builtinR E h b ats xs) (valK K)
def bs (l : List Nat) : ByteArray := ⟨⟨l.map UInt8.ofNat⟩⟩
end Go.X
