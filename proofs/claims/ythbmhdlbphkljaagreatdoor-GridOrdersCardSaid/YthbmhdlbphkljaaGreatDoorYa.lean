/- A part of the evaluator of the model, and of the proof that what it answers is what a call comes to. No conditions of its own. -/
import Derived.Test.YthbmhdlbphkljaaGreatDoorXx
namespace Go.X
open Go

/-! Pieces of code as predicates: what must hold, so that each run ends well. -/
noncomputable def bindO {α : Type} (x : Option α) (k : α → Prop) : Prop := Option.rec (motive := fun _ => Prop) False k x
theorem bindO_iff {α : Type} {x : Option α} {k : α → Prop} : bindO x k ↔ ∃ a, x = some a ∧ k a := by
  cases x with
  | none => exact ⟨fun h => h.elim, fun ⟨_, h, _⟩ => by cases h⟩
  | some a => exact ⟨fun h => ⟨a, rfl, h⟩, fun ⟨_, h, k⟩ => by cases h; exact k⟩
theorem bindO_some {α : Type} (a : α) (k : α → Prop) : bindO (some a) k = k a := rfl

/-- a call: of each of its answers K holds -/
inductive callP (P : Program) (f : FuncId) (args : List Value) (h : H) (K : Value → H → Prop) : Prop
  | call (w : CallW P f args h K)
  | ext (w : ExtW P f args h K)
theorem callP.w {P : Program} {f : FuncId} {args : List Value} {h : H} {K : Value → H → Prop} (x : callP P f args h K) : CallW P f args h K ∨ ExtW P f args h K := by
  cases x with
  | call w => exact .inl w
  | ext w => exact .inr w
/-- a round: of each of its answers K holds -/
structure roundP (P : Program) (l : Nat) (args : List Value) (h : H) (K : Value → H → Prop) : Prop where
  w : RoundW P l args h K
noncomputable def onR (P : Program) (h : H) (K : Value → H → Prop) (r : R) : Prop :=
  R.rec (motive := fun _ => Prop) (fun v h' => K v h') (fun f args => callP P f args h K) (fun l args => roundP P l args h K) r
/-- a loop's record lies at l, and takes n values -/
def loopAt (h : H) (l n : Nat) : Prop := ∃ s pd f tm ps as bd d, h.get l = some (.loop s pd f tm ps as bd d) ∧ n = ps.length
noncomputable def dynD (P : Program) (E : Env) (v : Value) (args : List Value) (h : H) (K : Value → H → Prop) : Prop :=
  match v with
  | .func (.func g) first captured => match findX g E.xs with
    | none => callP P g (app (app first.toList args) captured.toList) h K
    | some _ => False
  | .func (.yield l) first _ => loopAt h l (app first.toList args).length ∧ roundP P l (app first.toList args) h K
  | _ => False

structure dynP (P : Program) (E : Env) (v : Value) (args : List Value) (h : H) (K : Value → H → Prop) : Prop where
  w : dynD P E v args h K

/-! operations on values -/
noncomputable def pickV (c a b : Value) : Option Value := (boolV c).bind fun t => some (Bool.rec (motive := fun _ => Value) b a t)
noncomputable def loadV (E : Env) (h : H) (t : TypeId) (a : Value) : Option Value := (addrOf a).bind fun a => loadVar E h t a
noncomputable def storeV (E : Env) (h : H) (t : TypeId) (a x : Value) : Option H := (addrOf a).bind fun a => storeVar E h t a x
noncomputable def buildV (E : Env) (t : TypeId) (ps : List (Nat × Value)) : Option Value :=
  (E.zcells t).bind fun z => (E.under t).bind fun u => match u with
  | .struct fields => (sizedF E fields.toList).bind fun _ => (fillS E fields z ps).bind fun c => some (.agg ⟨c⟩)
  | .array _ e => (E.size e).bind fun s => (fillA s z ps).bind fun c => some (.agg ⟨c⟩)
  | _ => none
noncomputable def buildS (E : Env) (h : H) (t : TypeId) (n : Nat) (ps : List (Nat × Value)) : Option H :=
  (E.under t).bind fun u => match u with
  | .slice e => (E.size e).bind fun s => (E.zcells e).bind fun z => (fillA s (zeros z n) ps).bind fun c =>
    bif Nat.ble (n * s) 16777216 && Nat.beq (X.len z) s then some (newRow h e c 0) else none
  | _ => none
noncomputable def makeS (E : Env) (h : H) (t : TypeId) (l c : Value) : Option (Value × H) :=
  (E.under t).bind fun u => match u, l, c with
  | .slice e, .int _ (.ofNat l), .int _ (.ofNat c) => (E.info e).bind fun i => (E.zcells e).bind fun z =>
    bif Nat.ble l c && Nat.ble (i.bytes * c) 1099511627776 && Nat.ble c 1099511627776 && Nat.beq (len z) i.size then
      some (.slice (some ⟨h.next, 0, none⟩) l c, newRow h e (zeros z c) 0)
    else none
  | _, _, _ => none
noncomputable def nilV (x : Value) : Option Value :=
  match x with
  | .pointer (some a) => some (.pointer (some a))
  | .iface t v => some (.iface t v)
  | .func (.func f) first c => some (.func (.func f) first c)
  | .func (.yield f) first c => some (.func (.yield f) first c)
  | _ => none
noncomputable def convV (E : Env) (h : H) (s d : TypeId) (x : Value) : Option (Value × H) :=
  (E.under s).bind fun us => (E.under d).bind fun ud => match ud, x with
  | .int k, .int _ n => some (.int k (wrapI k n), h)
  | .string, .string b => some (.string b, h)
  | .slice e, .string b => (E.under e).bind fun ue => match ue with
    | .int .u8 => some (.slice (some ⟨h.next, 0, none⟩) (len b.data.toList) (len b.data.toList), newRow h e (byteVals b.data.toList) 1)
    | _ => none
  | .string, .slice a n c => match us with
    | .slice e => (E.under e).bind fun ue => match ue with
      | .int .u8 => (srcCells h 1 n (.slice a n c)).bind fun cs => (bytesOf cs).bind fun bs => some (.string ⟨⟨bs⟩⟩, h)
      | _ => none
    | _ => none
  | .unsafePointer, .pointer p => (ptrOut E h us p).bind fun v => some (v, h)
  | .pointer u, .pointer p => (ptrIn E h us u p).bind fun v => some (v, h)
  | _, _ => none
noncomputable def ifaceV (E : Env) (t : TypeId) (x : Value) : Option Value := (E.under t).bind fun u => match u with | .interface _ => none | _ => some (.iface t x)
noncomputable def funcV (fn : Fn) (first captured : List Value) : Option Value := bif fnPlain fn then some (.func fn ⟨first⟩ ⟨captured⟩) else none
noncomputable def fieldA (E : Env) (s : TypeId) (x : Value) (f : Nat) : Option Value :=
  (E.under s).bind fun u => match u with
  | .struct fields => (nthA fields.toList f).bind fun fd => (addrOf x).bind fun a => (E.size fd.type).bind fun sz =>
    bif Nat.beq sz 0 then none else some (.pointer (some (addO a fd.offset)))
  | _ => none
noncomputable def fldP (E : Env) (fd : Field) (x : Value) : Option Value := match x with | .agg cs => part E fd.type cs.toList fd.offset | _ => none
noncomputable def fieldV (E : Env) (t : TypeId) (x : Value) (f : Nat) : Option Value :=
  (E.under t).bind fun u => match u with
  | .struct fields => (nthA fields.toList f).bind fun fd => fldP E fd x
  | _ => none
/-- the address of an element of a slice, of an array -/
noncomputable def ixA (s : Nat) (x ix : Value) : Option Value :=
  match x, ix with
  | .slice (some a) len _, .int _ (.ofNat i) => bif Nat.blt i len then some (.pointer (some (addO a (i * s)))) else none
  | _, _ => none
noncomputable def ixP (n s : Nat) (x ix : Value) : Option Value :=
  match x, ix with
  | .pointer (some a), .int _ (.ofNat i) => bif Nat.blt i n then some (.pointer (some (addO a (i * s)))) else none
  | _, _ => none
noncomputable def indexA (E : Env) (t : TypeId) (x ix : Value) : Option Value :=
  (E.under t).bind fun u => match u with
  | .array len e => (E.size e).bind fun s => ixP len s x ix
  | .slice e => (E.size e).bind fun s => ixA s x ix
  | _ => none
noncomputable def ixS (x ix : Value) : Option Value :=
  match x, ix with
  | .string s, .int _ (.ofNat i) => (nthB s.data.toList i).bind fun b => some (.int .u8 b.toNat)
  | _, _ => none
noncomputable def ixG (E : Env) (n s : Nat) (e : TypeId) (x ix : Value) : Option Value :=
  match x, ix with
  | .agg cs, .int _ (.ofNat i) => bif Nat.blt i n then part E e cs.toList (i * s) else none
  | _, _ => none
noncomputable def indexV (E : Env) (t : TypeId) (x ix : Value) : Option Value :=
  (E.under t).bind fun u => match u with
  | .array len e => (E.size e).bind fun s => ixG E len s e x ix
  | .string => ixS x ix
  | _ => none
noncomputable def extractV (t : Value) (ix : Nat) : Option Value := match t with | .tuple vs => nth vs.toList ix | _ => none
noncomputable def valK (K : Value → H → Prop) (r : R) : Prop := R.rec (motive := fun _ => Prop) (fun v h' => K v h') (fun _ _ => False) (fun _ _ => False) r

/-- append that lays a new row, of whatever capacity -/
noncomputable def appNew (E : Env) (h : H) (elem : TypeId) (sz l m : Nat) (old new : List Value) (K : Value → H → Prop) : Prop :=
  bindO (E.info elem) fun i => bindO (E.zcells elem) fun z =>
    bif Nat.ble ((l + m + 64) * 4 * i.bytes) 70368744177664 && Nat.ble (l + m) 70368744177664 && Nat.beq (len z) sz then
      ∀ G, l + m ≤ G → K (.slice (some ⟨h.next, 0, none⟩) (l + m) G) (newRow h elem (app (app old new) (zeros z (G - (l + m)))) 0)
    else False
noncomputable def appAny (E : Env) (h : H) (ats : List TypeId) (s x : Value) (K : Value → H → Prop) : Prop :=
  bindO (nthA ats 0) fun st => bindO (E.under st) fun u => match u, s with
  | .slice elem, .slice base l c =>
    bindO (E.size elem) fun sz =>
    bindO (match nthA ats 1 with | none => some false | some xt => (E.under xt).map isIntD) fun zs => bif zs then False else
    bindO (lenOf x) fun m => bindO (srcCells h sz m x) fun new => bindO (srcCells h sz l s) fun old =>
    bindO (openEnd h base c) fun o => bif o then False else
    bif Nat.ble (l + m) c then False else appNew E h elem sz l m old new K
  | _, _ => False
/-- append of new zeros -/
noncomputable def appMake (E : Env) (h : H) (ats : List TypeId) (s x : Value) (K : Value → H → Prop) : Prop :=
  bindO (nthA ats 0) fun st => bindO (E.under st) fun u => bindO (nthA ats 1) fun xt => bindO (E.under xt) fun ux => match u, s, ux, x with
  | .slice elem, .slice base l c, .int _, .int _ (.ofNat m) =>
    bindO (E.size elem) fun sz => bindO (E.zcells elem) fun z =>
    bindO (srcCells h sz l s) fun old =>
    bindO (openEnd h base c) fun o => bif o then False else
    bif Nat.ble (l + m) c then False else appNew E h elem sz l m old (zeros z m) K
  | _, _, _, _ => False
noncomputable def capP (E : Env) (h : H) (ats : List TypeId) (s : Value) (K : Value → H → Prop) : Prop :=
  bindO (nthA ats 0) fun st => bindO (E.under st) fun u => match u, s with
  | .slice _, .slice base _ c => bindO (openEnd h base c) fun o => bif o then False else K (.int .i64 c) h
  | _, _ => False
noncomputable def clearP (E : Env) (h : H) (ats : List TypeId) (s : Value) (K : Value → H → Prop) : Prop :=
  bindO (nthA ats 0) fun st => bindO (E.under st) fun u => match u, s with
  | .slice _, .slice none _ _ => K undef h
  | .slice elem, .slice (some a) n _ => bif Nat.beq n 0 then K undef h else
    bindO (E.zcells elem) fun z => bindO (storeCells h a (zeros z n)) fun h' => K undef h'
  | _, _ => False
structure appP (E : Env) (h : H) (ats : Array TypeId) (s x : Value) (K : Value → H → Prop) : Prop where
  w : bindO (builtinR E h .append ats [s, x]) (valK K) ∨ appAny E h ats.toList s x K ∨ appMake E h ats.toList s x K
noncomputable def bltC (P : Program) (E : Env) (h : H) (b : Builtin) (ats : Array TypeId) (args : List Value) (K : Value → H → Prop) : Prop :=
  match b, args with
  | .append, [s, x] => appP E h ats s x K
  | .cap, [s] => capP E h ats.toList s K
  | .clear, [s] => clearP E h ats.toList s K
  | b, args => bindO (builtinR E h b ats args) (valK K)
noncomputable def callC (P : Program) (E : Env) (h : H) (ρ : Operand → Value) (c : Call) (K : Value → H → Prop) : Prop :=
  Callee.rec (motive := fun _ => Prop)
    (fun x => Operand.rec (motive := fun _ => Prop)
      (fun t => dynP P E (ρ (.tmp t)) (mapV ρ c.args.toList) h K) (fun _ => False) (fun _ => False)
      (fun g => Option.rec (motive := fun _ => Prop) (callP P g (mapV ρ c.args.toList) h K) (fun _ => False) (findX g E.xs)) x)
    (fun _ _ => False)
    (fun b => bltC P E h b c.argTypes (mapV ρ c.args.toList) K) c.callee
noncomputable def opC (P : Program) (E : Env) (o : Op) (ρ : Operand → Value) (h : H) (K : Value → H → Prop) : Prop :=
  Op.casesOn (motive := fun _ => Prop) o
    (fun x => K (ρ x) h)
    (fun x => K (ρ x) h)
    (fun c a b => bindO (pickV (ρ c) (ρ a) (ρ b)) fun v => K v h)
    (fun e => bindO (E.zcells e) fun z => K (rowPtr h) (newRow h e z 0))
    (fun e x => bindO (cells (ρ x)) fun c => K (rowPtr h) (newRow h e c 0))
    (fun t parts => bindO (buildV E t (mapP ρ parts.toList)) fun v => K v h)
    (fun t n parts => bindO (buildS E h t n (mapP ρ parts.toList)) fun h' => K (.slice (some ⟨h.next, 0, none⟩) n n) h')
    (fun _ _ _ _ => False)
    (fun t a => bindO (loadV E h t (ρ a)) fun v => K v h)
    (fun t a x => bindO (storeV E h t (ρ a) (ρ x)) fun h' => K undef h')
    (fun _ => False)
    (fun _ => False)
    (fun x => bindO (nilV (ρ x)) fun v => K v h)
    (fun op t x y _ => bindO (binOp E op t (ρ x) (ρ y)) fun v => K v h)
    (fun op _ x => bindO (unOp op (ρ x)) fun v => K v h)
    (fun s d x => bindO (convV E h s d (ρ x)) fun r => K r.1 r.2)
    (fun _ _ => False)
    (fun t x => bindO (ifaceV E t (ρ x)) fun v => K v h)
    (fun fn first captured => bindO (funcV fn (mapV ρ first.toList) (mapV ρ captured.toList)) fun v => K v h)
    (fun _ _ => False)
    (fun _ _ => False)
    (fun t l c => bindO (makeS E h t (ρ l) (ρ c)) fun r => K r.1 r.2)
    (fun t x lo hi mx => bindO (sliceV E h t (ρ x) (opdM ρ lo) (opdM ρ hi) (opdM ρ mx)) fun v => K v h)
    (fun s x f => bindO (fieldA E s (ρ x) f) fun v => K v h)
    (fun t x f => bindO (fieldV E t (ρ x) f) fun v => K v h)
    (fun t x ix => bindO (indexA E t (ρ x) (ρ ix)) fun v => K v h)
    (fun t x ix => bindO (indexV E t (ρ x) (ρ ix)) fun v => K v h)
    (fun _ _ _ _ => False)
    (fun _ _ _ _ => False)
    (fun _ _ _ => False)
    (fun _ _ _ _ => False)
    (fun _ _ => False)
    (fun _ _ => False)
    (fun _ => False)
    (fun _ _ _ _ => False)
    (fun t ix => bindO (extractV (ρ t) ix) fun v => K v h)
    (fun c => callC P E h ρ c K)
    (fun _ => False)
    (fun _ => False)
    (fun _ => False)
    (fun _ _ => False)
    (fun _ _ _ => False)
    (fun _ _ => False)

/-- light operations -/
noncomputable def opL (E : Env) (o : Op) (ρ : Operand → Value) (h : H) : Option Value :=
  Op.casesOn (motive := fun _ => Option Value) o
    (fun x => some (ρ x))
    (fun x => some (ρ x))
    (fun c a b => pickV (ρ c) (ρ a) (ρ b))
    (fun _ => none)
    (fun _ _ => none)
    (fun t parts => buildV E t (mapP ρ parts.toList))
    (fun _ _ _ => none)
    (fun _ _ _ _ => none)
    (fun t a => loadV E h t (ρ a))
    (fun _ _ _ => none)
    (fun _ => none)
    (fun _ => none)
    (fun x => nilV (ρ x))
    (fun op t x y _ => binOp E op t (ρ x) (ρ y))
    (fun op _ x => unOp op (ρ x))
    (fun s d x => (convV E h s d (ρ x)).bind fun r => some r.1)
    (fun _ _ => none)
    (fun t x => ifaceV E t (ρ x))
    (fun fn first captured => funcV fn (mapV ρ first.toList) (mapV ρ captured.toList))
    (fun _ _ => none)
    (fun _ _ => none)
    (fun _ _ _ => none)
    (fun t x lo hi mx => sliceV E h t (ρ x) (opdM ρ lo) (opdM ρ hi) (opdM ρ mx))
    (fun s x f => fieldA E s (ρ x) f)
    (fun t x f => fieldV E t (ρ x) f)
    (fun t x ix => indexA E t (ρ x) (ρ ix))
    (fun t x ix => indexV E t (ρ x) (ρ ix))
    (fun _ _ _ _ => none)
    (fun _ _ _ _ => none)
    (fun _ _ _ => none)
    (fun _ _ _ _ => none)
    (fun _ _ => none)
    (fun _ _ => none)
    (fun _ => none)
    (fun _ _ _ _ => none)
    (fun t ix => extractV (ρ t) ix)
    (fun c => Callee.rec (motive := fun _ => Option Value) (fun _ => none) (fun _ _ => none) (fun b => (builtinR E h b c.argTypes (mapV ρ c.args.toList)).bind valOf) c.callee)
    (fun _ => none)
    (fun _ => none)
    (fun _ => none)
    (fun _ _ => none)
    (fun _ _ _ => none)
    (fun _ _ => none)

/-! regions -/
noncomputable def boolP (v : Value) (want : Bool) (X Y : Prop) : Prop := match v with | .bool b => Bool.rec (motive := fun _ => Prop) Y X (Bool.rec (motive := fun _ => Bool) (!want) want b) | _ => False
noncomputable def tupP (v : Value) (X : Prop) : Prop := match v with | .tuple _ => X | _ => False
/-- is an operation wanted? sk: those that were not; the guard's own place is known behind the test -/
noncomputable def guardC (ops : List Oper) (sk : List Nat) (t : B) (go skip : B → Prop) (g : Option (Nat × Bool)) : Prop :=
  Option.rec (motive := fun _ => Prop) (go t) (fun jw => Option.rec (motive := fun _ => Prop) (skip t)
    (fun d => Bool.rec (motive := fun _ => Prop) (boolP (t.get d) jw.2 (go (t.set d (.bool jw.2))) (skip (t.set d (.bool (!jw.2))))) (tupP (t.get d) (skip t)) (elemN jw.1 sk))
    ((nthA ops jw.1).bind (·.dst))) g
noncomputable def opsC (P : Program) (E : Env) (ops : List Oper) (K : B → H → Prop) (l : List Oper) : Nat → List Nat → B → H → Prop :=
  List.rec (motive := fun _ => Nat → List Nat → B → H → Prop) (fun _ _ t h => K t h)
    (fun o _ ih i sk t h => guardC ops sk t
      (fun t => opC P E o.op (ev t) h fun v h' => ih (Nat.add i 1) sk (putT t o.dst v) h')
      (fun t => ih (Nat.add i 1) (i :: sk) (putT t o.dst undef) h) o.guard) l
/-- a region that draws its order -/
def allP {α : Type} (p : α → Prop) (l : List α) (X : Prop) : Prop := List.rec (motive := fun _ => Prop) X (fun x _ ih => p x ∧ ih) l
/-- does what a light operation answers hang on the heap? -/
noncomputable def heapy (E : Env) : Op → Bool
  | .load .. | .slice .. | .alloc _ | .convert .. => true
  | _ => false
/-- what a light operation, or a new variable, answers -/
noncomputable def obs2 (E : Env) (al : List (Nat × Nat)) (i : Nat) (o : Oper) (t : B) (h : H) : Option Value :=
  Bool.rec (motive := fun _ => Option Value) ((findX i al).bind fun b => zeroRow E h b o.op) (opL E o.op (ev t) h) (Nat.beq (cls E o.op) 0)
noncomputable def histP (E : Env) (al : List (Nat × Nat)) (p i : Nat) (o : Oper) (t : B) (v : Value) (X : Prop) (hist : List (Nat × H)) : Prop :=
  List.rec (motive := fun _ => Prop) X (fun x _ ih => Bool.rec (motive := fun _ => Prop) (Bool.rec (motive := fun _ => Prop) ih (obs2 E al i o t x.2 = some v ∧ ih) (heapy E o.op)) ih (bit p x.1)) hist
noncomputable def pendP (E : Env) (al : List (Nat × Nat)) (p : Nat) (h : H) (X : Prop) (pend : List (Nat × Oper × B × Value)) : Prop :=
  List.rec (motive := fun _ => Prop) X (fun x _ ih => Bool.rec (motive := fun _ => Prop) (Bool.rec (motive := fun _ => Prop) ih (obs2 E al x.1 x.2.1 x.2.2.1 h = some x.2.2.2 ∧ ih) (heapy E x.2.1.op)) ih (bit p x.1)) pend
noncomputable def obsC (P : Program) (E : Env) (al : List (Nat × Nat)) (i : Nat) (o : Oper) (t : B) (h : H) (K : Value → Prop) : Prop :=
  bindO (obs2 E al i o t h) K
noncomputable def drawC (P : Program) (E : Env) (ops : List Oper) (ps : List Nat) (al : List (Nat × Nat)) (K : B → H → Prop) (l : List Oper) : Nat → List Nat → List (Nat × H) → List (Nat × Oper × B × Value) → B → H → Prop :=
  List.rec (motive := fun _ => Nat → List Nat → List (Nat × H) → List (Nat × Oper × B × Value) → B → H → Prop) (fun _ _ _ _ t h => K t h)
    (fun o _ ih i sk hist pend t h => bindO (nthA ps i) fun p => guardC ops sk t
      (fun t => Bool.rec (motive := fun _ => Prop)
        (obsC P E al i o t h fun v => histP E al p i o t v (ih (Nat.add i 1) sk hist ((i, o, t, v) :: pend) (putT t o.dst v) h) hist)
        (opC P E o.op (ev t) h fun v h' => pendP E al p h' (ih (Nat.add i 1) sk ((i, h) :: hist) pend (putT t o.dst v) h') pend)
        (Nat.beq (cls E o.op) 2))
      (fun t => ih (Nat.add i 1) (i :: sk) hist pend (putT t o.dst undef) h) o.guard) l
noncomputable def layC (E : Env) (K : H → List (Nat × Nat) → Prop) (l : List Oper) : Nat → H → List (Nat × Nat) → Prop :=
  List.rec (motive := fun _ => Nat → H → List (Nat × Nat) → Prop) (fun _ h al => K h al)
    (fun o _ ih i h al => match o.op with
      | .alloc e => bindO (E.zcells e) fun z => ih (Nat.add i 1) (newRow h e z 0) ((i, h.next) :: al)
      | _ => ih (Nat.add i 1) h al) l
noncomputable def regionC (P : Program) (E : Env) (ops : Array Oper) (draw : Bool) (t : B) (h : H) (K : B → H → Prop) : Prop :=
  Bool.rec (motive := fun _ => Prop) (opsC P E ops.toList K ops.toList 0 [] t h)
    (bindO (drawOk E ops.toList) fun ps => layC E (fun h al => drawC P E ops.toList ps al K ops.toList 0 [] [] [] t h) ops.toList 0 h []) draw

/-! code -/
abbrev Kont := AE → B → H → Prop
/-- a loop: G: one round, of what holds behind it -/
structure LoopG (G : (List Value → H → Prop) → List Value → H → Prop) (s : List Value) (h : H) : Prop where
  w : ∀ I : List Value → H → Prop, (∀ s h J, (∀ s h, J s h → I s h) → G J s h → I s h) → I s h
theorem LoopG.unfold {G : (List Value → H → Prop) → List Value → H → Prop} {s : List Value} {h : H} (hh : G (LoopG G) s h) : LoopG G s h :=
  ⟨fun I hI => hI s h (LoopG G) (fun s h k => k.w I hI) hh⟩
theorem LoopG.ind {G : (List Value → H → Prop) → List Value → H → Prop} (Inv : List Value → H → Prop) (m : List Value → H → Nat)
    (step : ∀ s h, Inv s h → G (fun s' h' => Inv s' h' ∧ m s' h' < m s h) s h) {s : List Value} {h : H} (h0 : Inv s h) : LoopG G s h := by
  refine ⟨?_⟩
  intro I hI
  have key : ∀ n s h, m s h < n → Inv s h → I s h := by
    intro n
    induction n with
    | zero => intro s h hm; omega
    | succ n ih =>
      intro s h hm hi
      exact hI s h _ (fun s' h' ⟨k1, k2⟩ => ih s' h' (by omega) k1) (step s h hi)
  exact key _ s h (Nat.lt_succ_self _) h0
noncomputable def B.mkU (f : Nat) : Nat → B :=
  Nat.rec (motive := fun _ => Nat → B) (fun _ => .nil)
    (fun _ ih n => Bool.rec (motive := fun _ => B) (Bool.rec (motive := fun _ => B) .nil (.leaf unk) (Nat.beq n 1)) (.node (ih (Nat.div (Nat.add n 1) 2)) (ih (Nat.div n 2))) (Nat.ble 2 n)) f
/-- places ks hold s; of the others nothing is known -/
noncomputable def setKs (s : List Value) (ks : List Nat) : Nat → B → B :=
  List.rec (motive := fun _ => Nat → B → B) (fun _ b => b) (fun k _ ih i b => ih (Nat.add i 1) (b.set k (nthD s i))) ks
noncomputable def mkL (n : Nat) (ks : List Nat) (s : List Value) : B := setKs s ks 0 (B.mkU n n)
noncomputable def getKs (t : B) (ks : List Nat) : List Value := List.rec (motive := fun _ => List Value) [] (fun k _ ih => t.get k :: ih) ks
structure Ann where
  n : Nat
  loops : List (Nat × List Nat × List Nat)
  scopes : List (Nat × List Nat × List Nat)
noncomputable def annOf (l : List (Nat × List Nat × List Nat)) (key : Nat) : List Nat × List Nat :=
  List.rec (motive := fun _ => List Nat × List Nat) ([], []) (fun x _ ih => Bool.rec (motive := fun _ => List Nat × List Nat) ih x.2 (Nat.beq x.1 key)) l
inductive condP (v : Value) (X Y : Prop) : Prop
  | yes (e : v = .bool true) (x : X)
  | no (e : v = .bool false) (y : Y)
noncomputable def onAE (e : AE) (n : Prop) (x g : Nat → Prop) (r : Prop) : Prop := AE.rec (motive := fun _ => Prop) n x g r e
noncomputable def seqKt (N : B → H → Prop) (K : Kont) : Kont := fun e t h => onAE e (N t h) (fun id => K (.exit id) t h) (fun l => K (.goto l) t h) (K .ret t h)
noncomputable def blockKt (id : Nat) (K : Kont) : Kont := fun e t h => onAE e (K .normal t h) (fun k => Bool.rec (motive := fun _ => Prop) (K (.exit k) t h) (K .normal t h) (Nat.beq k id)) (fun l => K (.goto l) t h) (K .ret t h)
noncomputable def loopKt (ks out : List Nat) (I : List Value → H → Prop) (K : AE → List Value → H → Prop) : Kont :=
  fun e t h => onAE e (I (getKs t ks) h) (fun id => K (.exit id) (getKs t out) h) (fun l => K (.goto l) (getKs t out) h) (K .ret (getKs t out) h)
noncomputable def scopeKt (b : Code) (N : Code → B → H → Prop) (K : Kont) : Kont :=
  fun e t h => onAE e (K .normal t h) (fun id => K (.exit id) t h) (fun l => Option.rec (motive := fun _ => Prop) (K (.goto l) t h) (fun rest => N rest t h) (findLabel b l)) (K .ret t h)
noncomputable def jumps (ih : Code → Nat → B → H → Kont → Prop) (b : Code) (key : Nat) (K : Kont) (j : Nat) : Kont :=
  Nat.rec (motive := fun _ => Kont) (scopeKt b (fun _ _ _ => False) K) (fun _ J => scopeKt b (fun rest t h => ih rest key t h J) K) j
noncomputable def scopeL (b : Code) (l : Nat) (ks : List Nat) (X : List Value → H → Prop) (K : Kont) : Kont :=
  fun e t h => onAE e (K .normal t h) (fun id => K (.exit id) t h) (fun l' => Bool.rec (motive := fun _ => Prop) (Option.rec (motive := fun _ => Prop) (K (.goto l') t h) (fun _ => False) (findLabel b l')) (X (getKs t ks) h) (Nat.beq l' l)) (K .ret t h)
/-- the exits of a piece of code, so far as they are written -/
noncomputable def exitIds (c : Code) : List Nat :=
  Code.rec (motive := fun _ => List Nat) [] (fun _ _ _ => []) (fun _ _ a b => app a b) (fun _ _ _ a b => app a b) (fun _ _ a => a) (fun _ a => a) (fun _ _ _ _ a b => app a b) (fun id => [id]) (fun _ a => a) (fun _ => []) (fun _ => []) [] (fun _ => []) c
noncomputable def findJ (id : Nat) (l : List (Nat × Prop)) : Prop := List.rec (motive := fun _ => Prop) False (fun x _ ih => Bool.rec (motive := fun _ => Prop) ih x.2 (Nat.beq id x.1)) l
noncomputable def onJ (e : AE) (n : Prop) (xs : List (Nat × Prop)) (r : Prop) : Prop := AE.rec (motive := fun _ => Prop) n (fun id => findJ id xs) (fun _ => False) r e
def jmp : AE → Option Code | .normal => none | .ret => some .ret | .exit id => some (.exit id) | .goto t => some (.goto t)
def jst : AE → LoopState | .normal => .ready | _ => .done
def jv : AE → Bool | .normal => true | _ => false
/-- the first n of some -/
noncomputable def firstN (s : List Value) (n i : Nat) : List Value := Nat.rec (motive := fun _ => Nat → List Value) (fun _ => []) (fun _ ih i => nthD s i :: ih (Nat.add i 1)) n i
/-- a range over a function: of the loop's record nothing is known but what a round comes to -/
structure rangeS (P : Program) (fv : Value) (np : Nat) (RB : List Value → H → (H → (H → Prop) → Prop) → (AE → H → Prop) → Prop) (h : H) (K : AE → H → Prop) : Prop where
  w : ∀ lp : LoopState → Option Code → AObj, (∀ s p, roB (lp s p) = false) → (∀ h l s p, h.get l = some (lp s p) → loopAt h l np) →
    (∀ (l : Nat) (args : List Value) (h : H) (pd : Option Code) (Q : Value → H → Prop), h.get l = some (lp .ready pd) → args.length = np →
      RB args h (fun h k => ∃ pd, h.get l = some (lp .ready pd) ∧ k (h.put l (lp .busy pd))) (fun e h2 => (∃ s2 pd2, h2.get l = some (lp s2 pd2)) ∧ Q (.bool (jv e)) (h2.put l (lp (jst e) (jmp e)))) → RoundW P l args h Q) →
    ∃ g first captured Q, fv = .func (.func g) ⟨first⟩ ⟨captured⟩ ∧ CallW P g (app (app first [.func (.yield h.next) ⟨[]⟩ ⟨[]⟩]) captured) (h.new (lp .ready none)) Q ∧
      ∀ v h', Q v h' → ∃ e s, h'.get h.next = some (lp s (jmp e)) ∧ s ≠ .busy ∧ K e (h'.del h.next)
noncomputable def wpC (P : Program) (E : Env) (A : Ann) (d : Nat) : Bool → Code → Nat → B → H → Kont → Prop :=
  Nat.rec (motive := fun _ => Bool → Code → Nat → B → H → Kont → Prop) (fun _ _ _ _ _ _ => False)
    (fun _ ih top c key t h K => Code.casesOn (motive := fun _ => Prop) c
      (K .normal t h)
      (fun _ ops draw => regionC P E ops draw t h fun t h => K .normal t h)
      (fun a b => ih top a key t h (seqKt (fun t h => ih top b key t h K) K))
      (fun c a b => condP (ev t c) (ih top a key t h K) (ih top b key t h K))
      (fun id b => ih top b id t h (blockKt id K))
      (fun b => LoopG (fun I s h => ih top b key (mkL A.n (annOf A.loops key).1 s) h (loopKt (annOf A.loops key).1 (annOf A.loops key).2 I fun e s h => K e (mkL A.n (annOf A.loops key).2 s) h)) (getKs t (annOf A.loops key).1) h)
      (fun f ps as bd => Bool.rec (motive := fun _ => Prop) False (rangeS P (ev t f) ps.toList.length
        (fun args h bz KR => ih false as key (setTmps t ps.toList (firstN args (len ps.toList) 0)) h (seqKt (fun t h => bz h fun h => ih false bd key t h (fun e _ h => KR e h)) (fun _ _ _ => False))) h
        (fun e h => onJ e (K .normal t h) (mapL (fun id => (id, K (.exit id) t h)) (exitIds bd)) (K .ret t h))) top)
      (fun id => K (.exit id) t h)
      (fun b => List.casesOn (motive := fun _ => Prop) (annOf A.scopes key).1 (ih top b key t h (jumps (ih top) b key K 2)) (fun l ks => Option.rec (motive := fun _ => Prop) False (fun rest =>
        ih top b key t h (scopeL b l ks (LoopG fun I s h => ih top rest key (mkL A.n ks s) h (scopeL b l ks I fun e t h => K e (mkL A.n (annOf A.scopes key).2 (getKs t (annOf A.scopes key).2)) h)) K)) (findLabel b l)))
      (fun _ => K .normal t h)
      (fun l => K (.goto l) t h)
      (K .ret t h)
      (fun _ => False)) d
noncomputable def retKt (E : Env) (rs : List ResultVar) (Q : Value → H → Prop) : Kont :=
  fun e t h => onAE e (bindO (resVals E ⟨t, [], h⟩ rs) fun vs => Q (tupleOf vs) h) (fun _ => False) (fun _ => False) (bindO (resVals E ⟨t, [], h⟩ rs) fun vs => Q (tupleOf vs) h)
noncomputable def bodyC (P : Program) (E : Env) (A : Ann) (fd : Func) (args : List Value) (h : H) (Q : Value → H → Prop) : Prop :=
  bindO fd.body fun body => wpC P E A 200 true body 0 (B.setL args (B.mk (Nat.add (len args) (Nat.add fd.ntmps 1)) (Nat.add (len args) (Nat.sub fd.ntmps (len args)))) 0) h (retKt E fd.results.toList Q)
end Go.X
