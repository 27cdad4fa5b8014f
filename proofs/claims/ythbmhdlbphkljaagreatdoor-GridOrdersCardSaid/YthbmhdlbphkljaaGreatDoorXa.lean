/- A part of the evaluator of the model, and of the proof that what it answers is what a call comes to. No conditions of its own. -/
import GoSem.Step
namespace Go.X
open Go

inductive T (α : Type) where
  | e
  | n (v : Option α) (l r : T α)
namespace T
variable {α : Type}
noncomputable def get (t : T α) : Nat → Option α :=
  T.rec (motive := fun _ => Nat → Option α) (fun _ => none)
    (fun v _ _ gl gr k => Nat.rec (motive := fun _ => Option α) v (fun k _ => Bool.rec (motive := fun _ => Option α) (gr (Nat.div k 2)) (gl (Nat.div k 2)) (Nat.beq (Nat.mod k 2) 0)) k) t
/- node k (k>0): k-1 even: left at (k-1)/2; odd: right at (k-1)/2 -/
noncomputable def set (f : Nat) : T α → Nat → Option α → T α :=
  Nat.rec (motive := fun _ => T α → Nat → Option α → T α) (fun t _ _ => t)
    (fun _ ih t k x => T.casesOn (motive := fun _ => T α) t
      (Nat.rec (motive := fun _ => T α) (.n x .e .e) (fun k _ => Bool.rec (motive := fun _ => T α) (.n none .e (ih .e (Nat.div k 2) x)) (.n none (ih .e (Nat.div k 2) x) .e) (Nat.beq (Nat.mod k 2) 0)) k)
      (fun v l r => Nat.rec (motive := fun _ => T α) (.n x l r) (fun k _ => Bool.rec (motive := fun _ => T α) (.n v l (ih r (Nat.div k 2) x)) (.n v (ih l (Nat.div k 2) x) r) (Nat.beq (Nat.mod k 2) 0)) k)) f
end T
/-- every second -/
noncomputable def evens {α : Type} (l : List α) : Bool → List α :=
  List.rec (motive := fun _ => Bool → List α) (fun _ => []) (fun a _ ih b => Bool.rec (motive := fun _ => List α) (ih true) (a :: ih false) b) l
noncomputable def mkT {α : Type} (f : Nat) : List α → T α :=
  Nat.rec (motive := fun _ => List α → T α) (fun _ => .e)
    (fun _ ih l => List.casesOn (motive := fun _ => T α) l .e (fun a l => .n (some a) (ih (evens l true)) (ih (evens l false)))) f

/-- a value of which nothing is known -/
def unk : Value := .chan (some 0)
/-- a flat value without an address -/
def closed0 : Value → Bool
  | .bool _ | .int _ _ | .float _ _ | .string _ | .pointer none | .slice none _ _ | .map none | .nilFunc | .nilIface | .chan (some 0) => true
  | _ => false
noncomputable def closedL (l : List Value) : Bool := List.rec (motive := fun _ => Bool) true (fun v _ ih => closed0 v && ih) l
noncomputable def closed1 : Value → Bool
  | .agg c => closedL c.toList
  | .tuple c => closedL c.toList
  | v => closed0 v
noncomputable def constV : Value → Value
  | .bool b => .bool b
  | .int k n => .int k n
  | .string s => .string s
  | v => Bool.rec (motive := fun _ => Value) unk v (closed1 v)
noncomputable def zeroOf (z : Value) : Option Value := Bool.rec (motive := fun _ => Option Value) none (some z) (closed1 z)
def isAggD : TypeDesc → Bool | .struct _ | .array _ _ => true | _ => false
/-- what is asked of a type -/
structure TI where
  d : TypeDesc
  size : Nat
  bytes : Nat
  zero : Option Value
  agg : Bool
  methods : Array Method

structure Env where
  types : T TI
  funcs : T Func
  /-- functions that are answered by their meaning: 0 abi.NoEscape, 1 bytealg.CountString, 2 bytealg.IndexByteString, 3 Builder.Grow, 4 slices.overlaps -/
  xs : List (FuncId × Nat)
  /-- struct types whose '==' goes field by field -/
  eqs : List TypeId

noncomputable def mapL {α β : Type} (f : α → β) (l : List α) : List β := List.rec (motive := fun _ => List β) [] (fun a _ ih => f a :: ih) l
noncomputable def nthA {α : Type} (l : List α) : Nat → Option α :=
  List.rec (motive := fun _ => Nat → Option α) (fun _ => none) (fun v _ ih n => Nat.rec (motive := fun _ => Option α) (some v) (fun n _ => ih n) n) l
noncomputable def descOf (ty : T TypeInfo) : TypeDesc → TypeDesc
  | .named _ u => match ty.get u with | some i => i.desc | none => .invalid
  | d => d
noncomputable def tiOf (ty : T TypeInfo) (i : TypeInfo) : TI := ⟨descOf ty i.desc, i.size, i.bytes, i.zero.bind zeroOf, isAggD (descOf ty i.desc), i.methods⟩
noncomputable def Env.of (P : Program) (xs : List (FuncId × Nat)) (eqs : List TypeId) : Env :=
  { types := mkT 20 (mapL (tiOf (mkT 20 P.types.toList)) P.types.toList), funcs := mkT 20 P.funcs.toList, xs, eqs }
noncomputable def findX (f : FuncId) (l : List (FuncId × Nat)) : Option Nat :=
  List.rec (motive := fun _ => Option Nat) none (fun x _ ih => Bool.rec (motive := fun _ => Option Nat) ih (some x.2) (Nat.beq x.1 f)) l
noncomputable def elemN (f : Nat) (l : List Nat) : Bool :=
  List.rec (motive := fun _ => Bool) false (fun x _ ih => Bool.rec (motive := fun _ => Bool) ih true (Nat.beq x f)) l

noncomputable def Env.info (E : Env) (t : TypeId) : Option TI := E.types.get t
noncomputable def Env.under (E : Env) (t : TypeId) : Option TypeDesc := (E.types.get t).bind fun i => some i.d
noncomputable def Env.size (E : Env) (t : TypeId) : Option Nat := (E.types.get t).bind fun i => some i.size
noncomputable def Env.zero (E : Env) (t : TypeId) : Option Value := (E.types.get t).bind fun i => i.zero
noncomputable def cells : Value → Option (List Value) | .agg cs => some cs.toList | .chan _ => none | v => some [v]
noncomputable def Env.zcells (E : Env) (t : TypeId) : Option (List Value) := (E.zero t).bind cells
noncomputable def Env.isAgg (E : Env) (t : TypeId) : Option Bool := (E.types.get t).bind fun i => some i.agg

/-- temporaries: a tree; place k: 0 at a leaf; even at the left, odd at the right -/
inductive B where
  | nil
  | leaf (v : Value)
  | node (l r : B)
noncomputable def B.get (t : B) : Nat → Value :=
  B.rec (motive := fun _ => Nat → Value) (fun _ => Go.undef) (fun v k => Bool.rec (motive := fun _ => Value) Go.undef v (Nat.beq k 0))
    (fun _ _ gl gr k => Bool.rec (motive := fun _ => Value) (gr (Nat.div k 2)) (gl (Nat.div k 2)) (Nat.beq (Nat.mod k 2) 0)) t
noncomputable def B.set (t : B) : Nat → Value → B :=
  B.rec (motive := fun _ => Nat → Value → B) (fun _ _ => .nil) (fun u k v => Bool.rec (motive := fun _ => B) (.leaf u) (.leaf v) (Nat.beq k 0))
    (fun l r sl sr k v => Bool.rec (motive := fun _ => B) (.node l (sr (Nat.div k 2) v)) (.node (sl (Nat.div k 2) v) r) (Nat.beq (Nat.mod k 2) 0)) t
/-- of n places -/
noncomputable def B.mk (f : Nat) : Nat → B :=
  Nat.rec (motive := fun _ => Nat → B) (fun _ => .nil)
    (fun _ ih n => Bool.rec (motive := fun _ => B) (Bool.rec (motive := fun _ => B) .nil (.leaf Go.undef) (Nat.beq n 1)) (.node (ih (Nat.div (Nat.add n 1) 2)) (ih (Nat.div n 2))) (Nat.ble 2 n)) f
noncomputable def B.setL (l : List Value) : B → Nat → B :=
  List.rec (motive := fun _ => B → Nat → B) (fun t _ => t) (fun v _ ih t k => ih (t.set k v) (Nat.add k 1)) l

structure Blk where
  cs : List Value
  elem : TypeId
  osz : Nat
  frz : Nat
  ro : Bool
inductive AObj where
  | row (b : Blk)
  | map (es : List MapEntry) (clock : Nat)
  | iter (s : ByteArray) (pos : Nat)
  | loop (state : LoopState) (pending : Option Code) (fn : FuncId) (tmps : B) (params : List Tmp) (assign body : Code) (defers : Nat)
  | deferred (open_ : Bool)

structure H where
  t : T AObj
  next : Nat
noncomputable def H.get (h : H) (b : Nat) : Option AObj := h.t.get b
noncomputable def H.put (h : H) (b : Nat) (x : AObj) : H := ⟨T.set (Nat.add b 1) h.t b (some x), h.next⟩
noncomputable def H.del (h : H) (b : Nat) : H := ⟨T.set (Nat.add b 1) h.t b none, h.next⟩
noncomputable def H.new (h : H) (x : AObj) : H := ⟨T.set (Nat.add h.next 1) h.t h.next (some x), Nat.add h.next 1⟩

noncomputable def H.row (h : H) (b : Nat) : Option Blk := match h.get b with | some (.row x) => some x | _ => none

/-- the first n, if there are so many -/
noncomputable def takeN (n : Nat) : List Value → Option (List Value) :=
  Nat.rec (motive := fun _ => List Value → Option (List Value)) (fun _ => some [])
    (fun _ ih l => List.casesOn (motive := fun _ => Option (List Value)) l none (fun v l => Option.rec (motive := fun _ => Option (List Value)) none (fun r => some (v :: r)) (ih l))) n
noncomputable def dropN (n : Nat) : List Value → List Value :=
  Nat.rec (motive := fun _ => List Value → List Value) (fun l => l) (fun _ ih l => List.casesOn (motive := fun _ => List Value) l [] (fun _ l => ih l)) n
noncomputable def nth (l : List Value) : Nat → Option Value :=
  List.rec (motive := fun _ => Nat → Option Value) (fun _ => none) (fun v _ ih n => Nat.rec (motive := fun _ => Option Value) (some v) (fun n _ => ih n) n) l
noncomputable def setN (l : List Value) : Nat → Value → List Value :=
  List.rec (motive := fun _ => Nat → Value → List Value) (fun _ _ => []) (fun a l ih n v => Nat.rec (motive := fun _ => List Value) (v :: l) (fun n _ => a :: ih n v) n) l
noncomputable def splice (c : List Value) : List Value → List Value :=
  List.rec (motive := fun _ => List Value → List Value) (fun _ => []) (fun a c ih vs => List.casesOn (motive := fun _ => List Value) vs (a :: c) (fun v vs => v :: ih vs)) c
noncomputable def spliceAt (c : List Value) : Nat → List Value → List Value :=
  List.rec (motive := fun _ => Nat → List Value → List Value) (fun _ _ => []) (fun a c ih k vs => Nat.rec (motive := fun _ => List Value) (splice (a :: c) vs) (fun k _ => a :: ih k vs) k) c
noncomputable def len {α : Type} (l : List α) : Nat := List.rec (motive := fun _ => Nat) 0 (fun _ _ n => Nat.add n 1) l
noncomputable def app {α : Type} (l r : List α) : List α := List.rec (motive := fun _ => List α) r (fun a _ ih => a :: ih) l

noncomputable def loadCells (h : H) (a : Addr) (n : Nat) : Option (List Value) :=
  (h.row a.block).bind fun x => takeN n (dropN a.off x.cs)
noncomputable def loadAgg (h : H) (a : Addr) (n : Nat) : Option Value := (loadCells h a n).bind fun c => some (.agg ⟨c⟩)
noncomputable def loadVar (E : Env) (h : H) (t : TypeId) (a : Addr) : Option Value :=
  (E.info t).bind fun i => Bool.rec (motive := fun _ => Option Value) ((h.row a.block).bind fun x => nth x.cs a.off) (loadAgg h a i.size) i.agg
noncomputable def oneCell : Value → Bool | .agg _ | .tuple _ | .chan _ => false | _ => true
noncomputable def allOne (l : List Value) : Bool := List.rec (motive := fun _ => Bool) true (fun v _ ih => Bool.rec (motive := fun _ => Bool) false ih (oneCell v)) l
noncomputable def storeCells (h : H) (a : Addr) (vs : List Value) : Option H :=
  (h.row a.block).bind fun x =>
    bif x.ro || !(Nat.ble x.frz a.off) || !(Nat.ble (a.off + (len vs)) (len x.cs)) || !(allOne vs) then none
    else some (h.put a.block (.row { x with cs := spliceAt x.cs a.off vs }))
noncomputable def storeVar (E : Env) (h : H) (t : TypeId) (a : Addr) (v : Value) : Option H :=
  (E.size t).bind fun n => (cells v).bind fun cs => bif Nat.beq (len cs) n then storeCells h a cs else none
noncomputable def addrOf : Value → Option Addr | .pointer (some ⟨b, o, none⟩) => some ⟨b, o, none⟩ | _ => none
noncomputable def asI : Value → Option Int | .int _ n => some n | _ => none
noncomputable def partAgg (cs : List Value) (off n : Nat) : Option Value := (takeN n (dropN off cs)).bind fun c => some (.agg ⟨c⟩)
noncomputable def part (E : Env) (t : TypeId) (cs : List Value) (off : Nat) : Option Value :=
  (E.info t).bind fun i => Bool.rec (motive := fun _ => Option Value) (nth cs off) (partAgg cs off i.size) i.agg

noncomputable def thenB (k : Option Bool) : Bool → Option Bool | true => k | false => some false
noncomputable def eqFields (eq : TypeId → Value → Value → Option Bool) (E : Env) (xs ys : List Value) (fs : List Field) : Option Bool :=
  List.rec (motive := fun _ => Option Bool) (some true) (fun f _ ih =>
    (part E f.type xs f.offset).bind fun x => (part E f.type ys f.offset).bind fun y => (eq f.type x y).bind (thenB ih)) fs
noncomputable def eqElems (eq : TypeId → Value → Value → Option Bool) (E : Env) (elem : TypeId) (n : Nat) (xs ys : List Value) (k : Nat) : Nat → Option Bool :=
  Nat.rec (motive := fun _ => Nat → Option Bool) (fun _ => some true) (fun _ ih i =>
    (part E elem xs (i * n)).bind fun x => (part E elem ys (i * n)).bind fun y => (eq elem x y).bind (thenB (ih (i + 1)))) k
noncomputable def listBeq (x : List UInt8) : List UInt8 → Bool :=
  List.rec (motive := fun _ => List UInt8 → Bool) (fun y => List.casesOn (motive := fun _ => Bool) y true (fun _ _ => false))
    (fun a _ ih y => List.casesOn (motive := fun _ => Bool) y false (fun b y => Bool.rec (motive := fun _ => Bool) false (ih y) (Nat.beq a.toNat b.toNat))) x
noncomputable def kindBeq : IntKind → IntKind → Bool
  | .i8, .i8 | .i16, .i16 | .i32, .i32 | .i64, .i64 | .u8, .u8 | .u16, .u16 | .u32, .u32 | .u64, .u64 => true
  | _, _ => false
noncomputable def intBeq : Int → Int → Bool
  | .ofNat a, .ofNat b => Nat.beq a b
  | .negSucc a, .negSucc b => Nat.beq a b
  | _, _ => false
noncomputable def intBle : Int → Int → Bool
  | .ofNat a, .ofNat b => Nat.ble a b
  | .negSucc _, .ofNat _ => true
  | .ofNat _, .negSucc _ => false
  | .negSucc a, .negSucc b => Nat.ble b a
noncomputable def addrBeq (a b : Addr) : Bool := Nat.beq a.block b.block && Nat.beq a.off b.off
noncomputable def eqStep (E : Env) (ih : TypeId → Value → Value → Option Bool) (u : TypeDesc) (t : TypeId) (x y : Value) : Option Bool :=
    match u, x, y with
    | .bool, .bool a, .bool b => some (a == b)
    | .int _, .int k a, .int k' b => bif kindBeq k k' then some (intBeq a b) else none
    | .string, .string a, .string b => some (listBeq a.data.toList b.data.toList)
    | .pointer _, .pointer none, .pointer b => some b.isNone
    | .pointer _, .pointer (some _), .pointer none => some false
    | .pointer e, .pointer (some a), .pointer (some b) => (E.size e).bind fun _ => bif addrBeq a b then some true else none
    | .struct fields, .agg xs, .agg ys => bif elemN t E.eqs then eqFields ih E xs.toList ys.toList fields.toList else none
    | .slice _, .slice none _ _, .slice b _ _ => some b.isNone
    | .slice _, .slice (some _) _ _, .slice none _ _ => some false
    | .map _ _, .map none, .map b => some b.isNone
    | .map _ _, .map (some _), .map none => some false
    | .func _ _ _, .nilFunc, .nilFunc => some true
    | .func _ _ _, .nilFunc, .func _ _ _ => some false
    | .func _ _ _, .func _ _ _, .nilFunc => some false
    | _, _, _ => none
noncomputable def eqV (E : Env) (d : Nat) : TypeId → Value → Value → Option Bool :=
  Nat.rec (motive := fun _ => TypeId → Value → Value → Option Bool) (fun _ _ _ => none) (fun _ ih t x y => (E.under t).bind fun u => eqStep E ih u t x y) d

/-- k.wrap, by natural numbers -/
noncomputable def wrapU (M : Nat) : Int → Int
  | .ofNat m => .ofNat (Nat.mod m M)
  | .negSucc m => .ofNat (Nat.sub (Nat.sub M 1) (Nat.mod m M))
noncomputable def wrapS (M hf : Nat) : Int → Int
  | .ofNat m => Bool.rec (motive := fun _ => Int) (Bool.rec (motive := fun _ => Int) (.negSucc (Nat.sub (Nat.sub M 1) (Nat.mod m M))) (.ofNat (Nat.mod m M)) (Nat.blt (Nat.mod m M) hf)) (.ofNat m) (Nat.blt m hf)
  | .negSucc m => Bool.rec (motive := fun _ => Int) (Bool.rec (motive := fun _ => Int) (.ofNat (Nat.sub (Nat.sub M 1) (Nat.mod m M))) (.negSucc (Nat.mod m M)) (Nat.blt (Nat.mod m M) hf)) (.negSucc m) (Nat.blt m hf)
noncomputable def wrapI : IntKind → Int → Int
  | .i64, n => wrapS 18446744073709551616 9223372036854775808 n
  | .u64, n => wrapU 18446744073709551616 n
  | .u8, n => wrapU 256 n
  | .u32, n => wrapU 4294967296 n
  | .i32, n => wrapS 4294967296 2147483648 n
  | k, n => k.wrap n
noncomputable def bitsOf (k : IntKind) (f : Nat → Nat → Nat) (g : Int → Int → Int) : Int → Int → Int
  | .ofNat a, .ofNat b => wrapI k (.ofNat (f a b))
  | a, b => g a b

noncomputable def bytesLt (x : List UInt8) : List UInt8 → Bool :=
  List.rec (motive := fun _ => List UInt8 → Bool) (fun y => List.casesOn (motive := fun _ => Bool) y false (fun _ _ => true))
    (fun a _ ih y => List.casesOn (motive := fun _ => Bool) y false (fun b y => Bool.rec (motive := fun _ => Bool) (Nat.blt a.toNat b.toNat) (ih y) (Nat.beq a.toNat b.toNat))) x
noncomputable def strOp (op : BinOp) (x y : ByteArray) : Option Value :=
  let x := x.data.toList
  let y := y.data.toList
  match op with
  | .add => bif Nat.ble (len x + len y) 9223372036854775807 then some (.string ⟨⟨app x y⟩⟩) else none
  | .eql => some (.bool (listBeq x y))
  | .neq => some (.bool !(listBeq x y))
  | .lss => some (.bool (bytesLt x y))
  | .leq => some (.bool !(bytesLt y x))
  | .gtr => some (.bool (bytesLt y x))
  | .geq => some (.bool !(bytesLt x y))
  | _ => none
noncomputable def intV : Value → Option (IntKind × Int) | .int k n => some (k, n) | _ => none
noncomputable def strV : Value → Option ByteArray | .string s => some s | _ => none
noncomputable def shlI (k : IntKind) : Int → Int → Option Value
  | .ofNat a, .ofNat b => some (.int k (wrapI k (.ofNat (Nat.shiftLeft a (Nat.min b k.bits)))))
  | _, _ => none
noncomputable def shrI (k : IntKind) : Int → Int → Option Value
  | .ofNat a, .ofNat b => some (.int k (.ofNat (Nat.shiftRight a (Nat.min b k.bits))))
  | _, _ => none
noncomputable def sameK (k k' : IntKind) (v : Option Value) : Option Value := Bool.rec (motive := fun _ => Option Value) none v (kindBeq k k')
noncomputable def intBin (op : BinOp) : IntKind → Int → IntKind → Int → Option Value :=
  BinOp.rec (motive := fun _ => IntKind → Int → IntKind → Int → Option Value)
    (fun k a k' b => sameK k k' (some (.int k (wrapI k (a + b)))))
    (fun k a k' b => sameK k k' (some (.int k (wrapI k (a - b)))))
    (fun k a k' b => sameK k k' (some (.int k (wrapI k (a * b)))))
    (fun k a k' b => sameK k k' (Bool.rec (motive := fun _ => Option Value) (some (.int k (wrapI k (a.tdiv b)))) none (intBeq b 0)))
    (fun k a k' b => sameK k k' (Bool.rec (motive := fun _ => Option Value) (some (.int k (a.tmod b))) none (intBeq b 0)))
    (fun k a k' b => sameK k k' (some (.int k (bitsOf k Nat.land (fun a b => k.wrap (BitVec.ofInt k.bits a &&& BitVec.ofInt k.bits b).toNat) a b))))
    (fun k a k' b => sameK k k' (some (.int k (bitsOf k Nat.lor (fun a b => k.wrap (BitVec.ofInt k.bits a ||| BitVec.ofInt k.bits b).toNat) a b))))
    (fun k a k' b => sameK k k' (some (.int k (bitsOf k Nat.xor (fun a b => k.wrap (BitVec.ofInt k.bits a ^^^ BitVec.ofInt k.bits b).toNat) a b))))
    (fun k a _ b => shlI k a b)
    (fun k a _ b => shrI k a b)
    (fun k a k' b => sameK k k' (some (.int k (k.wrap (BitVec.ofInt k.bits a &&& ~~~BitVec.ofInt k.bits b).toNat))))
    (fun k a k' b => sameK k k' (some (.bool (intBeq a b))))
    (fun k a k' b => sameK k k' (some (.bool (!intBeq a b))))
    (fun k a k' b => sameK k k' (some (.bool (!intBle b a))))
    (fun k a k' b => sameK k k' (some (.bool (intBle a b))))
    (fun k a k' b => sameK k k' (some (.bool (!intBle a b))))
    (fun k a k' b => sameK k k' (some (.bool (intBle b a))))
    op
noncomputable def eqOp (E : Env) (t : TypeId) (x y : Value) : BinOp → Option Value
  | .eql => (eqV E 100 t x y).bind fun b => some (.bool b)
  | .neq => (eqV E 100 t x y).bind fun b => some (.bool !b)
  | _ => none
noncomputable def binStr (E : Env) (op : BinOp) (t : TypeId) (x y : Value) : Option Value :=
  Option.rec (motive := fun _ => Option Value) (eqOp E t x y op) (fun a => (strV y).bind fun b => strOp op a b) (strV x)
noncomputable def binOp (E : Env) (op : BinOp) (t : TypeId) (x y : Value) : Option Value :=
  Option.rec (motive := fun _ => Option Value) (binStr E op t x y) (fun p => (intV y).bind fun q => intBin op p.1 p.2 q.1 q.2) (intV x)
noncomputable def notV : Value → Option Value | .bool b => some (.bool !b) | _ => none
noncomputable def unOp (op : UnOp) (x : Value) : Option Value :=
  UnOp.rec (motive := fun _ => Value → Option Value)
    (fun x => (intV x).bind fun p => intBin .sub p.1 0 p.1 p.2)
    (fun x => (intV x).bind fun p => intBin .xor p.1 (if p.1.signed then -1 else p.1.max) p.1 p.2)
    notV (fun _ => none) op x
noncomputable def bound (x : Option Value) (dflt y : Nat) : Option Nat :=
  match x with
  | none => some dflt
  | some (.int _ (.ofNat i)) => bif Nat.ble i y then some i else none
  | some _ => none
noncomputable def openEnd (h : H) (a : Option Addr) (c : Nat) : Option Bool :=
  match a with
  | none => some false
  | some a => (h.row a.block).map fun x => !(Nat.beq x.osz 0) && Nat.beq (a.off + c * x.osz) (len x.cs)
noncomputable def addO (a : Addr) (n : Nat) : Addr := ⟨a.block, a.off + n, none⟩
noncomputable def byteOf : Value → Option UInt8 | .int .u8 n => some (UInt8.ofNat n.toNat) | _ => none
noncomputable def bytesOf (l : List Value) : Option (List UInt8) :=
  List.rec (motive := fun _ => Option (List UInt8)) (some []) (fun v _ ih => (byteOf v).bind fun b => Option.rec (motive := fun _ => Option (List UInt8)) none (fun r => some (b :: r)) ih) l
noncomputable def byteVals (l : List UInt8) : List Value := List.rec (motive := fun _ => List Value) [] (fun b _ ih => .int .u8 b.toNat :: ih) l
noncomputable def takeB (l : List UInt8) : Nat → List UInt8 :=
  List.rec (motive := fun _ => Nat → List UInt8) (fun _ => []) (fun a _ ih n => Nat.rec (motive := fun _ => List UInt8) [] (fun n _ => a :: ih n) n) l
noncomputable def dropB (l : List UInt8) : Nat → List UInt8 :=
  List.rec (motive := fun _ => Nat → List UInt8) (fun _ => []) (fun a l ih n => Nat.rec (motive := fun _ => List UInt8) (a :: l) (fun n _ => ih n) n) l
noncomputable def nthB (l : List UInt8) : Nat → Option UInt8 :=
  List.rec (motive := fun _ => Nat → Option UInt8) (fun _ => none) (fun a _ ih n => Nat.rec (motive := fun _ => Option UInt8) (some a) (fun n _ => ih n) n) l
noncomputable def bsub (s : ByteArray) (l h : Nat) : ByteArray := ⟨⟨dropB (takeB s.data.toList h) l⟩⟩
/-- the address behind l elements; where the row's capacity is open the address moves, else it stays at the end -/
noncomputable def moveA (E : Env) (h : H) (elem : TypeId) (a : Option Addr) (cap l m : Nat) : Option (Option Addr) :=
  match a with
  | none => some none
  | some a => (E.size elem).bind fun sz => (h.row a.block).bind fun x =>
      Bool.rec (motive := fun _ => Option (Option Addr)) (Bool.rec (motive := fun _ => Option (Option Addr)) (some (some (addO a (l * sz)))) (some (some a)) (Nat.beq m l))
        (Bool.rec (motive := fun _ => Option (Option Addr)) none (some (some (addO a (l * sz)))) (Nat.beq x.osz sz)) (!(Nat.beq x.osz 0) && Nat.beq (a.off + cap * x.osz) (len x.cs) && Nat.beq m cap)
noncomputable def hiOk {α : Type} (hi mx : Option α) : Bool := match mx, hi with | some _, none => false | _, _ => true
noncomputable def sliceS (E : Env) (h : H) (elem : TypeId) (a : Option Addr) (len cap : Nat) (lo hi mx : Option Value) : Option Value :=
  (bound mx cap cap).bind fun m => (bound hi len m).bind fun hh => (bound lo 0 hh).bind fun l => Bool.rec (motive := fun _ => Option Value) none ((moveA E h elem a cap l m).bind fun a' =>
    some (.slice a' (Nat.sub hh l) (Nat.sub m l))) (hiOk hi mx && Nat.ble hh m && Option.isSome (E.size elem))
noncomputable def sliceB (s : ByteArray) (lo hi : Option Value) : Option Value :=
  (bound hi (len s.data.toList) (len s.data.toList)).bind fun h => (bound lo 0 h).bind fun l => some (.string (bsub s l h))
noncomputable def sliceV (E : Env) (h : H) (t : TypeId) (x : Value) (lo hi mx : Option Value) : Option Value :=
  (E.under t).bind fun u => match u, x with
  | .string, .string s => (match mx with | none => some () | _ => none).bind fun _ => sliceB s lo hi
  | .slice elem, .slice a len cap => sliceS E h elem a len cap lo hi mx
  | _, _ => none

noncomputable def srcCells (h : H) (sz n : Nat) : Value → Option (List Value)
  | .slice (some a) _ _ => bif Nat.beq (n * sz) 0 then some [] else loadCells h a (n * sz)
  | .slice none _ _ => bif Nat.beq n 0 then some [] else none
  | .string s => bif Nat.beq sz 1 then some (byteVals (takeB s.data.toList n)) else none
  | _ => none
noncomputable def lenOf : Value → Option Nat | .slice _ n _ => some n | .string s => some (len s.data.toList) | _ => none
noncomputable def zeros (z : List Value) (n : Nat) : List Value := Nat.rec (motive := fun _ => List Value) [] (fun _ ih => app z ih) n

noncomputable def rowPtr (h : H) : Value := .pointer (some ⟨h.next, 0, none⟩)
noncomputable def newRow (h : H) (e : TypeId) (c : List Value) (osz : Nat) : H := h.new (.row ⟨c, e, osz, 0, false⟩)

/-- what an operation comes to -/
inductive R where
  | val (v : Value) (h : H)
  | enter (f : FuncId) (args : List Value)
  | round (l : Nat) (args : List Value)

def isIntD : TypeDesc → Bool | .slice _ => false | .string => false | _ => true
noncomputable def appIn (h : H) (base : Option Addr) (l sz m c : Nat) (new : List Value) : Option R :=
  match base with
  | some a => Bool.rec (motive := fun _ => Option R) ((storeCells h (addO a (l * sz)) new).bind fun h => some (.val (.slice base (l + m) c) h)) (some (.val (.slice base (l + m) c) h)) (Nat.beq (m * sz) 0)
  | none => some (.val (.slice base (l + m) c) h)
/-- the row is consumed where it may have been written on -/
noncomputable def consume (h : H) (elem : TypeId) (sz : Nat) (base : Option Addr) (new : List Value) : Bool → Option H
  | false => some h
  | true => match base with
    | some a => (h.row a.block).bind fun x => Bool.rec (motive := fun _ => Option H) none (some (h.del a.block)) (!x.ro && Nat.beq x.frz 0 && Nat.beq x.osz sz && Nat.beq x.elem elem && allOne new)
    | none => none
noncomputable def appOut (E : Env) (h : H) (elem : TypeId) (base : Option Addr) (l sz m c : Nat) (s : Value) (new : List Value) : Option R :=
  (E.info elem).bind fun i => (E.zcells elem).bind fun z =>
  Bool.rec (motive := fun _ => Option R) none
    ((srcCells h sz l s).bind fun old => (openEnd h base c).bind fun o => (consume h elem sz base new o).bind fun h =>
      some (.val (.slice (some ⟨h.next, 0, none⟩) (l + m) (l + m)) (newRow h elem (app old new) sz)))
    (Nat.ble ((l + m + 64) * 4 * i.bytes) 70368744177664 && Nat.ble (l + m) 70368744177664 && Nat.beq (len z) sz && !(Nat.beq sz 0))
noncomputable def append (E : Env) (h : H) (st : TypeId) (xt : Option TypeId) (s x : Value) : Option R :=
  (E.under st).bind fun u => match u, s with
  | .slice elem, .slice base l c =>
    (E.size elem).bind fun sz =>
    (match xt with | none => some false | some xt => (E.under xt).map isIntD).bind fun zs =>
    Bool.rec (motive := fun _ => Option R)
      ((lenOf x).bind fun m => (srcCells h sz m x).bind fun new =>
        Bool.rec (motive := fun _ => Option R) (appOut E h elem base l sz m c s new) (appIn h base l sz m c new) (Nat.ble (l + m) c))
      none zs
  | _, _ => none

noncomputable def copyV (E : Env) (h : H) (st : TypeId) (d s : Value) : Option R :=
  (E.under st).bind fun u => match u, d with
  | .slice elem, .slice base dl _ =>
    (E.size elem).bind fun sz => (lenOf s).bind fun sl =>
    let n := Nat.min sl dl
    (srcCells h sz n s).bind fun cs =>
    match base with
    | some a => bif Nat.beq (n * sz) 0 then some (.val (.int .i64 n) h) else (storeCells h a cs).map fun h => .val (.int .i64 n) h
    | none => some (.val (.int .i64 n) h)
  | _, _ => none

noncomputable def findE (E : Env) (kt : TypeId) (k : Value) : List MapEntry → Nat → Option (Option (Nat × Value))
  | [], _ => some none
  | e :: es, i => (eqV E 100 kt k e.key).bind fun b => match b with | true => some (some (i, e.val)) | false => findE E kt k es (i + 1)
noncomputable def mapOf (h : H) : Value → Option (List MapEntry × Nat)
  | .map none => some ([], 0)
  | .map (some r) => match h.get r with | some (.map es c) => some (es, c) | _ => none
  | _ => none
noncomputable def setE : List MapEntry → Nat → Value → List MapEntry
  | [], _, _ => []
  | e :: es, n, v => match n with | 0 => { e with val := v } :: es | n + 1 => e :: setE es n v

noncomputable def countB (c : Nat) : List UInt8 → Nat → Nat
  | [], n => n
  | b :: l, n => countB c l (bif Nat.beq b.toNat c then n + 1 else n)
noncomputable def findB (c : Nat) : List UInt8 → Nat → Int
  | [], _ => -1
  | b :: l, i => bif Nat.beq b.toNat c then (i : Int) else findB c l (i + 1)
noncomputable def extern (h : H) (k : Nat) (args : List Value) : Option R :=
  match args with
  | [x] => bif Nat.beq k 0 then some (.val x h) else none
  | [.string s, .int .u8 c] =>
    bif Nat.beq k 1 then some (.val (.int .i64 (countB c.toNat s.data.toList 0)) h)
    else bif Nat.beq k 2 then some (.val (.int .i64 (findB c.toNat s.data.toList 0)) h)
    else none
  | _ => none

noncomputable def findM (name : String) : List Method → Option Method
  | [] => none
  | m :: l => bif m.name == name then some m else findM name l
/-- what the machine itself answers -/
noncomputable def extV (k : Nat) (args : List Value) : Option Value :=
  match k, args with
  | 0, [x] => some x
  | 2, [.string s, .int .u8 (.ofNat c)] => some (.int .i64 (findB (Nat.mod c 256) s.data.toList 0))
  | _, _ => none
noncomputable def enterF (E : Env) (h : H) (f : FuncId) (args : List Value) : Option R :=
  match findX f E.xs with
  | none => some (.enter f args)
  | some k => match k with
    | 3 => some (.enter f args)
    | k => (extV k args).map fun v => .val v h
noncomputable def callTarget (E : Env) (h : H) (fn : Fn) (captured args : List Value) : Option R :=
  match fn with
  | .func f => enterF E h f (app args captured)
  | .yield l => match h.get l with
    | some (.loop _ _ _ _ ps _ _ _) => bif Nat.beq (len args) (len ps) then some (.round l args) else none
    | _ => none
  | _ => none

noncomputable def opdM (ρ : Operand → Value) : Option Operand → Option Value | none => none | some x => some (ρ x)
noncomputable def mapV (ρ : Operand → Value) (l : List Operand) : List Value := List.rec (motive := fun _ => List Value) [] (fun x _ ih => ρ x :: ih) l
noncomputable def mapP (ρ : Operand → Value) (l : List (Nat × Operand)) : List (Nat × Value) := List.rec (motive := fun _ => List (Nat × Value)) [] (fun x _ ih => (x.1, ρ x.2) :: ih) l
noncomputable def lit (v : Option Value) (h : H) : Option R := v.map fun v => .val v h
noncomputable def fillS (E : Env) (fields : Array Field) : List Value → List (Nat × Value) → Option (List Value)
  | c, [] => some c
  | c, (i, v) :: ps => (nthA fields.toList i).bind fun f => (E.size f.type).bind fun s =>
    (cells v).bind fun cs => bif Nat.beq (len cs) s then bif Nat.ble (f.offset + len cs) (len c) then fillS E fields (spliceAt c f.offset cs) ps else none else none
noncomputable def fillA (s : Nat) : List Value → List (Nat × Value) → Option (List Value)
  | c, [] => some c
  | c, (i, v) :: ps => (cells v).bind fun cs => bif Nat.beq (len cs) s then bif Nat.ble (i * s + len cs) (len c) then fillA s (spliceAt c (i * s) cs) ps else none else none

/-- unsafe.SliceData, unsafe.String: the bytes' row is only read from then on -/
noncomputable def sliceData (h : H) (x : Value) : Option R :=
  match x with
  | .slice none _ _ => some (.val (.pointer none) h)
  | .slice (some a) _ c => Bool.rec (motive := fun _ => Option R) (some (.val (.pointer (some a)) h)) none (Nat.beq c 0)
  | _ => none
noncomputable def strAt (E : Env) (h : H) (pt : TypeId) (a : Addr) (n : Nat) : Option R :=
  (E.under pt).bind fun u => match u with
  | .pointer e => (E.size e).bind fun s => (h.row a.block).bind fun x => (takeN n (dropN a.off x.cs)).bind fun cs => (bytesOf cs).bind fun l =>
    Bool.rec (motive := fun _ => Option R) none (some (.val (.string ⟨⟨l⟩⟩) (h.put a.block (.row { x with ro := true })))) (Nat.beq s 1 && Nat.beq x.elem e && Nat.ble n 9223372036854775807 && !x.ro)
  | _ => none
noncomputable def strAtA (E : Env) (h : H) (pt : TypeId) (a : Addr) (n : Nat) : Option R := match a with | ⟨b, o, none⟩ => strAt E h pt ⟨b, o, none⟩ n | _ => none
noncomputable def unsafeStr (E : Env) (h : H) (ats : List TypeId) (p n : Value) : Option R :=
  match p, n with
  | .pointer p, .int .i64 (.ofNat n) => (nthA ats 0).bind fun pt => Bool.rec (motive := fun _ => Option R)
    (Option.rec (motive := fun _ => Option R) none (fun a => strAtA E h pt a n) p)
    (some (.val (.string ⟨⟨[]⟩⟩) h)) (Nat.beq n 0)
  | _, _ => none
noncomputable def minMax (h : H) (least : Bool) (x y : Value) : Option R :=
  match x, y with
  | .int k a, .int _ b => some (.val (.int k (Bool.rec (motive := fun _ => Int) (Bool.rec (motive := fun _ => Int) b a (intBle b a)) (Bool.rec (motive := fun _ => Int) b a (intBle a b)) least)) h)
  | _, _ => none
noncomputable def builtinR (E : Env) (h : H) (b : Builtin) (ats : Array TypeId) (args : List Value) : Option R :=
  match b, args with
  | .append, [s, x] => (nthA ats.toList 0).bind fun st => append E h st (nthA ats.toList 1) s x
  | .copy, [d, s] => (nthA ats.toList 0).bind fun st => copyV E h st d s
  | .len, [x] => (nthA ats.toList 0).bind fun t => (E.under t).bind fun u => match u, x with
    | .string, .string s => some (.val (.int .i64 (len s.data.toList)) h)
    | .array n _, _ => some (.val (.int .i64 n) h)
    | .slice _, .slice _ n _ => some (.val (.int .i64 n) h)
    | _, _ => none
  | .unsafeSliceData, [x] => sliceData h x
  | .min, [x, y] => minMax h true x y
  | .max, [x, y] => minMax h false x y
  | .unsafeString, [p, n] => unsafeStr E h ats.toList p n
  | _, _ => none

noncomputable def op_move (E : Env) (h : H) (ρ : Operand → Value) (x : Operand) : Option R :=
  some (.val (ρ x) h)
noncomputable def op_assign (E : Env) (h : H) (ρ : Operand → Value) (x : Operand) : Option R :=
  some (.val (ρ x) h)
noncomputable def boolV : Value → Option Bool | .bool b => some b | _ => none
noncomputable def op_pick (E : Env) (h : H) (ρ : Operand → Value) (c a b : Operand) : Option R :=
  (boolV (ρ c)).bind fun t => some (.val (Bool.rec (motive := fun _ => Value) (ρ b) (ρ a) t) h)
noncomputable def op_alloc (E : Env) (h : H) (ρ : Operand → Value) (e : TypeId) : Option R :=
  (E.zcells e).bind fun z => some (.val (rowPtr h) (newRow h e z 0))
noncomputable def op_box (E : Env) (h : H) (ρ : Operand → Value) (e : TypeId) (x : Operand) : Option R :=
  (cells (ρ x)).bind fun c => some (.val (rowPtr h) (newRow h e c 0))
noncomputable def sizedF (E : Env) (fs : List Field) : Option Unit := List.rec (motive := fun _ => Option Unit) (some ()) (fun f _ ih => (E.size f.type).bind fun _ => ih) fs
noncomputable def op_build (E : Env) (h : H) (ρ : Operand → Value) (t : TypeId) (parts : Array (Nat × Operand)) : Option R :=
  (E.zcells t).bind fun z => (E.under t).bind fun u => match u with
  | .struct fields => (sizedF E fields.toList).bind fun _ => (fillS E fields z (mapP ρ parts.toList)).bind fun c => some (.val (.agg ⟨c⟩) h)
  | .array _ e => (E.size e).bind fun s => (fillA s z (mapP ρ parts.toList)).bind fun c => some (.val (.agg ⟨c⟩) h)
  | _ => none
noncomputable def op_buildSlice (E : Env) (h : H) (ρ : Operand → Value) (t : TypeId) (len : Nat) (parts : Array (Nat × Operand)) : Option R :=
  (E.under t).bind fun u => match u with
  | .slice e => (E.size e).bind fun s => (E.zcells e).bind fun z => (fillA s (zeros z len) (mapP ρ parts.toList)).bind fun c =>
    bif Nat.ble (len * s) 16777216 && Nat.beq (X.len z) s then some (.val (.slice (some ⟨h.next, 0, none⟩) len len) (newRow h e c 0)) else none
  | _ => none
noncomputable def op_load (E : Env) (h : H) (ρ : Operand → Value) (t : TypeId) (a : Operand) : Option R :=
  (addrOf (ρ a)).bind fun a => lit (loadVar E h t a) h
noncomputable def op_store (E : Env) (h : H) (ρ : Operand → Value) (t : TypeId) (a x : Operand) : Option R :=
  (addrOf (ρ a)).bind fun a => (storeVar E h t a (ρ x)).map fun h => .val undef h
noncomputable def op_nilCheck (E : Env) (h : H) (ρ : Operand → Value) (x : Operand) : Option R :=
  match ρ x with
  | .pointer (some a) => some (.val (.pointer (some a)) h)
  | .iface t v => some (.val (.iface t v) h)
  | .func (.func f) first c => some (.val (.func (.func f) first c) h)
  | .func (.yield f) first c => some (.val (.func (.yield f) first c) h)
  | _ => none
noncomputable def op_binOp (E : Env) (h : H) (ρ : Operand → Value) (op : BinOp) (t : TypeId) (x y : Operand) : Option R :=
  lit (binOp E op t (ρ x) (ρ y)) h
noncomputable def op_unOp (E : Env) (h : H) (ρ : Operand → Value) (op : UnOp) (x : Operand) : Option R :=
  lit (unOp op (ρ x)) h
noncomputable def ptrOut (E : Env) (h : H) (us : TypeDesc) (p : Option Addr) : Option Value :=
  match us, p with
  | .pointer _, none => some (.pointer none)
  | .pointer t, some a => (E.size t).bind fun s => (h.row a.block).bind fun x => bif Nat.blt 0 s && Nat.blt a.off (len x.cs) then some (.pointer (some a)) else none
  | _, _ => none
noncomputable def ptrIn (E : Env) (h : H) (us : TypeDesc) (u : TypeId) (p : Option Addr) : Option Value :=
  match us, p with
  | .unsafePointer, none => some (.pointer none)
  | .unsafePointer, some a => (E.size u).bind fun s => (h.row a.block).bind fun x =>
    bif Nat.blt 0 s && Nat.beq x.osz 0 && Nat.beq x.elem u && Nat.beq (Nat.mod a.off s) 0 && Nat.ble (a.off + s) (len x.cs) then some (.pointer (some a)) else none
  | _, _ => none
noncomputable def op_convert (E : Env) (h : H) (ρ : Operand → Value) (s d : TypeId) (x : Operand) : Option R :=
  (E.under s).bind fun us => (E.under d).bind fun ud => match ud, ρ x with
  | .int k, .int _ n => some (.val (.int k (wrapI k n)) h)
  | .string, .string b => some (.val (.string b) h)
  | .slice e, .string b => (E.under e).bind fun ue => match ue with
    | .int .u8 => some (.val (.slice (some ⟨h.next, 0, none⟩) (len b.data.toList) (len b.data.toList)) (newRow h e (byteVals b.data.toList) 1))
    | _ => none
  | .string, .slice a n c => match us with
    | .slice e => (E.under e).bind fun ue => match ue with
      | .int .u8 => (srcCells h 1 n (.slice a n c)).bind fun cs => (bytesOf cs).bind fun bs => some (.val (.string ⟨⟨bs⟩⟩) h)
      | _ => none
    | _ => none
  | .unsafePointer, .pointer p => lit (ptrOut E h us p) h
  | .pointer u, .pointer p => lit (ptrIn E h us u p) h
  | _, _ => none
noncomputable def op_makeInterface (E : Env) (h : H) (ρ : Operand → Value) (t : TypeId) (x : Operand) : Option R :=
  (E.under t).bind fun u => match u with | .interface _ => none | _ => some (.val (.iface t (ρ x)) h)
def fnPlain : Fn → Bool | .func _ => true | .method _ => true | _ => false
noncomputable def op_makeFunc (E : Env) (h : H) (ρ : Operand → Value) (fn : Fn) (first captured : Array Operand) : Option R :=
  bif fnPlain fn then some (.val (.func fn ⟨mapV ρ first.toList⟩ ⟨mapV ρ captured.toList⟩) h) else none
noncomputable def op_makeMap (E : Env) (h : H) (ρ : Operand → Value)  : Option R :=
  some (.val (.map (some h.next)) (h.new (.map [] 0)))
noncomputable def op_makeSlice (E : Env) (h : H) (ρ : Operand → Value) (t : TypeId) (l c : Operand) : Option R :=
  (E.under t).bind fun u => match u, ρ l, ρ c with
  | .slice e, .int _ (.ofNat l), .int _ (.ofNat c) => (E.info e).bind fun i => (E.zcells e).bind fun z =>
    bif Nat.ble l c && Nat.ble (i.bytes * c) 1099511627776 && Nat.ble c 1099511627776 && Nat.beq (len z) i.size then
      some (.val (.slice (some ⟨h.next, 0, none⟩) l c) (newRow h e (zeros z c) 0))
    else none
  | _, _, _ => none
noncomputable def op_slice (E : Env) (h : H) (ρ : Operand → Value) (t : TypeId) (x : Operand) (lo hi mx : Option Operand) : Option R :=
  lit (sliceV E h t (ρ x) (opdM ρ lo) (opdM ρ hi) (opdM ρ mx)) h
noncomputable def op_fieldAddr (E : Env) (h : H) (ρ : Operand → Value) (s : TypeId) (x : Operand) (f : Nat) : Option R :=
  (E.under s).bind fun u => match u with
  | .struct fields => (nthA fields.toList f).bind fun fd => (addrOf (ρ x)).bind fun a => (E.size fd.type).bind fun sz =>
    bif Nat.beq sz 0 then none else some (.val (.pointer (some (addO a fd.offset))) h)
  | _ => none
noncomputable def op_field (E : Env) (h : H) (ρ : Operand → Value) (t : TypeId) (x : Operand) (f : Nat) : Option R :=
  (E.under t).bind fun u => match u, ρ x with
  | .struct fields, .agg cs => (nthA fields.toList f).bind fun fd => lit (part E fd.type cs.toList fd.offset) h
  | _, _ => none
noncomputable def op_indexAddr (E : Env) (h : H) (ρ : Operand → Value) (t : TypeId) (x ix : Operand) : Option R :=
  (E.under t).bind fun u => match u, ρ x, ρ ix with
  | .array len e, .pointer (some a), .int _ (.ofNat i) => (E.size e).bind fun s => bif Nat.blt i len then some (.val (.pointer (some (addO a (i * s)))) h) else none
  | .slice e, .slice (some a) len _, .int _ (.ofNat i) => (E.size e).bind fun s => bif Nat.blt i len then some (.val (.pointer (some (addO a (i * s)))) h) else none
  | _, _, _ => none
noncomputable def op_index (E : Env) (h : H) (ρ : Operand → Value) (t : TypeId) (x ix : Operand) : Option R :=
  (E.under t).bind fun u => match u, ρ x, ρ ix with
  | .array len e, .agg cs, .int _ (.ofNat i) => (E.size e).bind fun s => bif Nat.blt i len then lit (part E e cs.toList (i * s)) h else none
  | .string, .string s, .int _ (.ofNat i) => (nthB s.data.toList i).bind fun b => some (.val (.int .u8 b.toNat) h)
  | _, _, _ => none
noncomputable def op_lookup (E : Env) (h : H) (ρ : Operand → Value) (t : TypeId) (x ix : Operand) (ok : Bool) : Option R :=
  (E.under t).bind fun u => match u with
  | .map kt et => (mapOf h (ρ x)).bind fun (es, _) => (findE E kt (ρ ix) es 0).bind fun r => (E.zero et).bind fun z =>
    let (v, is) := match r with | some (_, v) => (v, true) | none => (z, false)
    some (.val (match ok with | true => .tuple ⟨[v, .bool is]⟩ | false => v) h)
  | _ => none
noncomputable def op_mapUpdate (E : Env) (h : H) (ρ : Operand → Value) (t : TypeId) (m k x : Operand) : Option R :=
  (E.under t).bind fun u => match u, ρ m with
  | .map kt _, .map (some r) => (mapOf h (.map (some r))).bind fun (es, c) => (findE E kt (ρ k) es 0).bind fun q =>
    some (.val undef (h.put r (match q with | some (i, _) => .map (setE es i (ρ x)) c | none => .map (es ++ [{ key := ρ k, val := ρ x, born := c }]) (c + 1))))
  | _, _ => none
noncomputable def op_insert (E : Env) (h : H) (ρ : Operand → Value) (t : TypeId) (m k x : Operand) : Option R :=
  (E.under t).bind fun u => match u, ρ m with
  | .map kt _, .map (some r) => (mapOf h (.map (some r))).bind fun (es, c) => (findE E kt (ρ k) es 0).bind fun q =>
    some (.val undef (h.put r (match q with | some (i, _) => .map (setE es i (ρ x)) c | none => .map (es ++ [{ key := ρ k, val := ρ x, born := c }]) (c + 1))))
  | _, _ => none
noncomputable def op_typeAssert (E : Env) (h : H) (ρ : Operand → Value) (x : Operand) (asserted : TypeId) (ok : Bool) : Option R :=
  (E.under asserted).bind fun u => match u, ρ x with
  | .interface _, _ => none
  | _, .iface t y => bif Nat.beq t asserted then some (.val (match ok with | true => .tuple ⟨[y, .bool true]⟩ | false => y) h)
      else match ok with | true => (E.zero asserted).bind fun z => some (.val (.tuple ⟨[z, .bool false]⟩) h) | false => none
  | _, _ => none
noncomputable def op_extract (E : Env) (h : H) (ρ : Operand → Value) (t : Operand) (ix : Nat) : Option R :=
  match ρ t with | .tuple vs => lit (nth vs.toList ix) h | _ => none
noncomputable def op_call (E : Env) (h : H) (ρ : Operand → Value) (c : Call) : Option R :=
  match c.callee with
  | .builtin b => builtinR E h b c.argTypes (mapV ρ c.args.toList)
  | .value f => match ρ f with
    | .func fn first captured => callTarget E h fn captured.toList (app first.toList (mapV ρ c.args.toList))
    | _ => none
  | .invoke _ _ => none
noncomputable def opR (o : Op) : Env → H → (Operand → Value) → Option R :=
  Op.rec (motive := fun _ => Env → H → (Operand → Value) → Option R)
    (fun x E h ρ => op_move E h ρ x)
    (fun x E h ρ => op_assign E h ρ x)
    (fun c a b E h ρ => op_pick E h ρ c a b)
    (fun e E h ρ => op_alloc E h ρ e)
    (fun e x E h ρ => op_box E h ρ e x)
    (fun t parts E h ρ => op_build E h ρ t parts)
    (fun t len parts E h ρ => op_buildSlice E h ρ t len parts)
    (fun _ _ _ _ _ _ _ => none)
    (fun t a E h ρ => op_load E h ρ t a)
    (fun t a x E h ρ => op_store E h ρ t a x)
    (fun _ _ _ _ => none)
    (fun _ _ _ _ => none)
    (fun x E h ρ => op_nilCheck E h ρ x)
    (fun op t x y _ E h ρ => op_binOp E h ρ op t x y)
    (fun op _ x E h ρ => op_unOp E h ρ op x)
    (fun s d x E h ρ => op_convert E h ρ s d x)
    (fun _ _ _ _ _ => none)
    (fun t x E h ρ => op_makeInterface E h ρ t x)
    (fun fn first captured E h ρ => op_makeFunc E h ρ fn first captured)
    (fun _ _ _ _ _ => none)
    (fun _ _ _ _ _ => none)
    (fun t l c E h ρ => op_makeSlice E h ρ t l c)
    (fun t x lo hi mx E h ρ => op_slice E h ρ t x lo hi mx)
    (fun s x f E h ρ => op_fieldAddr E h ρ s x f)
    (fun t x f E h ρ => op_field E h ρ t x f)
    (fun t x ix E h ρ => op_indexAddr E h ρ t x ix)
    (fun t x ix E h ρ => op_index E h ρ t x ix)
    (fun _ _ _ _ _ _ _ => none)
    (fun _ _ _ _ _ _ _ => none)
    (fun _ _ _ _ _ _ => none)
    (fun _ _ _ _ _ _ _ => none)
    (fun _ _ _ _ _ => none)
    (fun _ _ _ _ _ => none)
    (fun _ _ _ _ => none)
    (fun _ _ _ _ _ _ _ => none)
    (fun t ix E h ρ => op_extract E h ρ t ix)
    (fun c E h ρ => op_call E h ρ c)
    (fun _ _ _ _ => none)
    (fun _ _ _ _ => none)
    (fun _ _ _ _ => none)
    (fun _ _ _ _ _ => none)
    (fun _ _ _ _ _ _ => none)
    (fun _ _ _ _ _ => none)
    o

structure St where
  tmps : B
  defs : List Nat
  h : H
inductive AE where
  | normal | exit (id : Nat) | goto (l : Nat) | ret

noncomputable def nthD (l : List Value) : Nat → Value :=
  List.rec (motive := fun _ => Nat → Value) (fun _ => undef) (fun v _ ih n => Nat.rec (motive := fun _ => Value) v (fun n _ => ih n) n) l
noncomputable def evO (x : Operand) : B → Value :=
  Operand.rec (motive := fun _ => B → Value) (fun t b => b.get t) (fun v _ => constV v) (fun _ _ => unk) (fun f _ => .func (.func f) #[] #[]) x
noncomputable def ev (tmps : B) (x : Operand) : Value := evO x tmps
noncomputable def putT (tmps : B) (d : Option Tmp) (v : Value) : B := Option.rec (motive := fun _ => B → Value → B) (fun b _ => b) (fun t b v => b.set t v) d tmps v

noncomputable def guardV (want : Bool) : Value → Option Bool
  | .bool b => some (Bool.rec (motive := fun _ => Bool) (!want) want b)
  | .tuple _ => some false
  | _ => none
/-- is an operation wanted? none: that is not known -/
noncomputable def guardOk (ops : Array Oper) (tmps : B) (o : Oper) : Option Bool :=
  match o.guard with
  | none => some true
  | some (j, want) => match (nthA ops.toList j).bind (·.dst) with
    | some d => guardV want (tmps.get d)
    | none => some false

/-- (*strings.Builder).Grow -/
noncomputable def growB (h : H) (args : List Value) : Option (Value × H) :=
  match args with
  | [.pointer (some a), .int _ (.ofNat _)] =>
    (loadCells h a 2).bind fun cs => match cs with
    | [ad, .slice base l c] =>
      bif (match ad with | .pointer none => true | .pointer (some b) => Nat.beq b.block a.block && Nat.beq b.off a.off | _ => false) then
        (srcCells h 1 l (.slice base l c)).bind fun old =>
        let h := match base with | some b => h.del b.block | none => h
        let q : Addr := ⟨h.next, 0, none⟩
        (storeCells (newRow h 5 old 1) a [.pointer (some a), .slice (some q) l l]).map fun h => (.tuple #[], h)
      else none
    | _ => none
  | _ => none

inductive Task where
  | exec (R : Option Nat) (fn : FuncId) (c : Code) (st : St)
  | scope (R : Option Nat) (fn : FuncId) (b c : Code) (st : St)
  | region (ops : Array Oper) (rest : List Oper) (st : St)
  /-- a region that draws its order: behind operation i; the places laid ahead; the heaps ahead of the heavy ones; the light ones -/
  | drawn (ops : Array Oper) (rest : List Oper) (i : Nat) (al : List (Nat × Nat)) (hist : List (Nat × H)) (pend : List (Nat × Oper × B × Value)) (st : St)
  | call (f : FuncId) (args : List Value) (h : H)
  | round (l : Nat) (args : List Value) (h : H)

/-- an answer: how it ends, and the state; a call: the value is the state's one temporary -/
inductive Ans where
  | a (e : AE) (st : St)
  | v (v : Value) (h : H)

noncomputable def setTmps : B → List Tmp → List Value → B
  | ts, p :: ps, a :: as => setTmps (ts.set p a) ps as
  | ts, _, _ => ts
noncomputable def resVals (E : Env) (st : St) : List ResultVar → Option (List Value)
  | [] => some []
  | .tmp t :: l => (resVals E st l).map (st.tmps.get t :: ·)
  | .cell a t :: l => (addrOf (st.tmps.get a)).bind fun a => (loadVar E st.h t a).bind fun v => (resVals E st l).map (v :: ·)
noncomputable def replU (n : Nat) : List Value := Nat.rec (motive := fun _ => List Value) [] (fun _ ih => undef :: ih) n

abbrev IH := Task → Option Ans
noncomputable def seqK (ih : IH) (R : Option Nat) (fn : FuncId) (b : Code) : Ans → Option Ans
  | .a .normal st => ih (.exec R fn b st)
  | r => some r
noncomputable def blockK (id : Nat) : Ans → Option Ans
  | .a (.exit k) st => some (.a (bif Nat.beq k id then .normal else .exit k) st)
  | r => some r
noncomputable def loopK (ih : IH) (R : Option Nat) (fn : FuncId) (b : Code) : Ans → Option Ans
  | .a .normal st => ih (.exec R fn (.loop b) st)
  | r => some r
noncomputable def scopeK (ih : IH) (R : Option Nat) (fn : FuncId) (b : Code) : Ans → Option Ans
  | .a (.goto l) st => match findLabel b l with
      | some rest => ih (.scope R fn b rest st)
      | none => some (.a (.goto l) st)
  | r => some r
noncomputable def condK (ih : IH) (R : Option Nat) (fn : FuncId) (a b : Code) (st : St) : Value → Option Ans
  | .bool true => ih (.exec R fn a st)
  | .bool false => ih (.exec R fn b st)
  | _ => none
def notBusy : LoopState → Option Unit | .busy => none | _ => some ()
noncomputable def endLoop (st : St) (l : Nat) (h : H) : Option AObj → Option Ans
  | some (.loop s pend fn' tm ps as bd d) =>
    (notBusy s).bind fun _ =>
    let st : St := ⟨st.tmps, st.defs, h.del l⟩
    match pend with
    | none => some (.a .normal st)
    | some .ret => some (.a .ret st)
    | some (.exit id) => some (.a (.exit id) st)
    | some (.goto l) => some (.a (.goto l) st)
    | _ => none
  | _ => none
noncomputable def rangeK (st : St) (l : Nat) : Ans → Option Ans
  | .v _ h => endLoop st l h (h.get l)
  | _ => none
noncomputable def enterOnly (ih : IH) (h : H) : R → Option Ans
  | .enter f args => ih (.call f args h)
  | _ => none
noncomputable def rangeGo (E : Env) (ih : IH) (st : St) (l : Nat) (h : H) : Value → Option Ans
  | .func g first captured =>
    ((callTarget E h g captured.toList (app first.toList [Value.func (.yield l) #[] #[]])).bind (enterOnly ih h)).bind (rangeK st l)
  | _ => none
noncomputable def loopRow (st : St) (params : Array Tmp) (assign body : Code) : H := st.h.new (.loop .ready none 0 st.tmps params.toList assign body 0)
noncomputable def execRange (E : Env) (ih : IH) (f : Operand) (params : Array Tmp) (assign body : Code) (st : St) : Option Ans :=
  rangeGo E ih st st.h.next (loopRow st params assign body) (ev st.tmps f)
/-- flat values that are the same -/
noncomputable def optAddrBeq : Option Addr → Option Addr → Bool
  | none, none => true
  | some ⟨b, o, none⟩, some ⟨b', o', none⟩ => Nat.beq b b' && Nat.beq o o'
  | _, _ => false
noncomputable def optNatBeq : Option Nat → Option Nat → Bool
  | none, none => true
  | some a, some b => Nat.beq a b
  | _, _ => false
noncomputable def veq0 : Value → Value → Bool
  | .bool a, .bool b => a == b
  | .int k a, .int k' b => kindBeq k k' && intBeq a b
  | .string a, .string b => listBeq a.data.toList b.data.toList
  | .pointer a, .pointer b => optAddrBeq a b
  | .slice a l c, .slice a' l' c' => optAddrBeq a a' && Nat.beq l l' && Nat.beq c c'
  | .map a, .map b => optNatBeq a b
  | .nilFunc, .nilFunc => true
  | .nilIface, .nilIface => true
  | .func (.func f) ⟨[]⟩ ⟨[]⟩, .func (.func g) ⟨[]⟩ ⟨[]⟩ => Nat.beq f g
  | .tuple ⟨[]⟩, .tuple ⟨[]⟩ => true
  | _, _ => false
noncomputable def veqL (a : List Value) : List Value → Bool :=
  List.rec (motive := fun _ => List Value → Bool) (fun b => List.casesOn (motive := fun _ => Bool) b true (fun _ _ => false))
    (fun v _ ih b => List.casesOn (motive := fun _ => Bool) b false (fun u b => veq0 v u && ih b)) a
noncomputable def veq1 : Value → Value → Bool
  | .agg a, .agg b => veqL a.toList b.toList
  | .tuple a, .tuple b => veqL a.toList b.toList
  | .iface t a, .iface u b => Nat.beq t u && veq0 a b
  | .func (.func f) a c, .func (.func g) b d => Nat.beq f g && veqL a.toList b.toList && veqL c.toList d.toList
  | a, b => veq0 a b

/-- 0: light; 1: a new variable; 2: heavy -/
noncomputable def clsB : Builtin → Nat | .len => 0 | _ => 2
noncomputable def clsC : Callee → Nat | .builtin b => clsB b | _ => 2
noncomputable def clsT : Option TypeDesc → Nat | some (.slice _) => 2 | none => 2 | _ => 0
noncomputable def cls (E : Env) : Op → Nat
  | .move _ | .assign _ | .pick .. | .build .. | .nilCheck _ | .binOp .. | .unOp .. | .makeInterface .. | .makeFunc .. | .slice .. | .fieldAddr .. | .field .. | .indexAddr .. | .index .. | .typeAssert .. | .extract .. | .load .. | .lookup .. => 0
  | .convert _ d _ => clsT (E.under d)
  | .alloc _ => 1
  | .call c => clsC c.callee
  | _ => 2
noncomputable def tmpsOf (l : List Operand) : List Nat :=
  List.rec (motive := fun _ => List Nat) [] (fun x _ ih => Operand.rec (motive := fun _ => List Nat) (fun t => t :: ih) (fun _ => ih) (fun _ => ih) (fun _ => ih) x) l
noncomputable def optL (o : Option Nat) (l : List Nat) : List Nat := Option.rec (motive := fun _ => List Nat) l (fun t => t :: l) o
noncomputable def guardT (ops : List Oper) : Option (Nat × Bool) → Option Nat
  | none => none
  | some (j, _) => (nthA ops j).bind (·.dst)
noncomputable def namesOf (ops : List Oper) (o : Oper) : List Nat := optL o.dst (optL (guardT ops o.guard) (tmpsOf o.op.operands.toList))
noncomputable def inO (t : Option Nat) (l : List Nat) : Bool := Option.rec (motive := fun _ => Bool) false (fun t => elemN t l) t
noncomputable def bit (m i : Nat) : Bool := Nat.beq (Nat.mod (Nat.shiftRight m i) 2) 1
/-- what an operation waits for: its edges, and theirs; none: an edge leads onward -/
noncomputable def preE (ps : List Nat) (i : Nat) (es : List Edge) : Option Nat :=
  List.rec (motive := fun _ => Option Nat) (some 0)
    (fun e _ ih => Bool.rec (motive := fun _ => Option Nat) ih
      (Bool.rec (motive := fun _ => Option Nat) none (ih.bind fun m => (nthA ps e.on).bind fun p => some (Nat.lor m (Nat.lor (Nat.shiftLeft 1 e.on) p))) (Nat.blt e.on i))
      (Region.binds .any e)) es
noncomputable def presGo (l : List Oper) : List Nat → Nat → Option (List Nat) :=
  List.rec (motive := fun _ => List Nat → Nat → Option (List Nat)) (fun ps _ => some ps)
    (fun o _ ih ps i => (preE ps i o.after.toList).bind fun m => ih (app ps [m]) (Nat.add i 1)) l
noncomputable def pres (ops : List Oper) : Option (List Nat) := presGo ops [] 0
/-- operation i (o) against those ahead -/
noncomputable def pairOk (E : Env) (ops : List Oper) (p : Nat) (o : Oper) (l : List Oper) : Nat → Bool :=
  List.rec (motive := fun _ => Nat → Bool) (fun _ => true)
    (fun q _ ih j => Bool.rec (motive := fun _ => Bool)
      (Bool.rec (motive := fun _ => Bool) (ih (Nat.add j 1)) false (inO q.dst (namesOf ops o) || inO o.dst (namesOf ops q) || (Nat.beq (cls E q.op) 2 && Nat.beq (cls E o.op) 2)))
      (ih (Nat.add j 1)) (bit p j)) l
noncomputable def drawChk (E : Env) (ops : List Oper) (l : List Oper) : List Oper → List Nat → Bool :=
  List.rec (motive := fun _ => List Oper → List Nat → Bool) (fun _ _ => true)
    (fun o _ ih ahead ps => List.casesOn (motive := fun _ => Bool) ps false (fun p ps => pairOk E ops p o ahead 0 && ih (app ahead [o]) ps)) l
noncomputable def drawOk (E : Env) (ops : List Oper) : Option (List Nat) :=
  (pres ops).bind fun ps => Bool.rec (motive := fun _ => Option (List Nat)) none (some ps) (drawChk E ops ops [] ps)
/-- places for the new variables of a region, laid ahead -/
noncomputable def layAhead (E : Env) (l : List Oper) : Nat → H → List (Nat × Nat) → Option (H × List (Nat × Nat)) :=
  List.rec (motive := fun _ => Nat → H → List (Nat × Nat) → Option (H × List (Nat × Nat))) (fun _ h al => some (h, al))
    (fun o _ ih i h al => match o.op with
      | .alloc e => (E.zcells e).bind fun z => ih (Nat.add i 1) (newRow h e z 0) ((i, h.next) :: al)
      | _ => ih (Nat.add i 1) h al) l
noncomputable def valOf : R → Option Value | .val v _ => some v | _ => none
noncomputable def zeroRow (E : Env) (h : H) (b : Nat) : Op → Option Value
  | .alloc e => (E.zcells e).bind fun z => (h.row b).bind fun x =>
      Bool.rec (motive := fun _ => Option Value) none (some (.pointer (some ⟨b, 0, none⟩))) (veqL x.cs z && Nat.beq x.elem e && Nat.beq x.osz 0 && Nat.beq x.frz 0 && !x.ro)
  | _ => none
/-- what a light operation, or a new variable, comes to in a heap -/
noncomputable def obs (E : Env) (al : List (Nat × Nat)) (i : Nat) (o : Oper) (tmps : B) (h : H) : Option Value :=
  Bool.rec (motive := fun _ => Option Value) ((findX i al).bind fun b => zeroRow E h b o.op) ((opR o.op E h (ev tmps)).bind valOf) (Nat.beq (cls E o.op) 0)
noncomputable def sameObs (E : Env) (al : List (Nat × Nat)) (i : Nat) (o : Oper) (tmps : B) (v : Value) (h : H) : Bool :=
  Option.rec (motive := fun _ => Bool) false (fun u => veq1 u v) (obs E al i o tmps h)
noncomputable def histOk (E : Env) (al : List (Nat × Nat)) (p i : Nat) (o : Oper) (tmps : B) (v : Value) (hist : List (Nat × H)) : Bool :=
  List.rec (motive := fun _ => Bool) true (fun x _ ih => (bit p x.1 || sameObs E al i o tmps v x.2) && ih) hist
noncomputable def pendOk (E : Env) (al : List (Nat × Nat)) (p : Nat) (h : H) (pend : List (Nat × Oper × B × Value)) : Bool :=
  List.rec (motive := fun _ => Bool) true (fun x _ ih => (bit p x.1 || sameObs E al x.1 x.2.1 x.2.2.1 x.2.2.2 h) && ih) pend
noncomputable def heavyV (E : Env) (ih : IH) (ops : Array Oper) (rest : List Oper) (i p : Nat) (al : List (Nat × Nat)) (hist : List (Nat × H)) (pend : List (Nat × Oper × B × Value)) (dst : Option Tmp) (st : St) (v : Value) (h : H) : Option Ans :=
  Bool.rec (motive := fun _ => Option Ans) none (ih (.drawn ops rest (Nat.add i 1) al ((i, st.h) :: hist) pend ⟨putT st.tmps dst v, st.defs, h⟩)) (pendOk E al p h pend)
noncomputable def heavyA (E : Env) (ih : IH) (ops : Array Oper) (rest : List Oper) (i p : Nat) (al : List (Nat × Nat)) (hist : List (Nat × H)) (pend : List (Nat × Oper × B × Value)) (dst : Option Tmp) (st : St) : Ans → Option Ans
  | .v v h => heavyV E ih ops rest i p al hist pend dst st v h
  | _ => none
noncomputable def heavyK (E : Env) (ih : IH) (ops : Array Oper) (rest : List Oper) (i p : Nat) (al : List (Nat × Nat)) (hist : List (Nat × H)) (pend : List (Nat × Oper × B × Value)) (dst : Option Tmp) (st : St) : R → Option Ans
  | .val v h => heavyV E ih ops rest i p al hist pend dst st v h
  | .enter f args => (ih (.call f args st.h)).bind (heavyA E ih ops rest i p al hist pend dst st)
  | .round l args => (ih (.round l args st.h)).bind (heavyA E ih ops rest i p al hist pend dst st)
noncomputable def drawnGo (E : Env) (ih : IH) (ops : Array Oper) (o : Oper) (rest : List Oper) (i p : Nat) (al : List (Nat × Nat)) (hist : List (Nat × H)) (pend : List (Nat × Oper × B × Value)) (st : St) : Option Ans :=
  Bool.rec (motive := fun _ => Option Ans)
    ((obs E al i o st.tmps st.h).bind fun v => Bool.rec (motive := fun _ => Option Ans) none
      (ih (.drawn ops rest (Nat.add i 1) al hist ((i, o, st.tmps, v) :: pend) ⟨putT st.tmps o.dst v, st.defs, st.h⟩)) (histOk E al p i o st.tmps v hist))
    ((opR o.op E st.h (ev st.tmps)).bind (heavyK E ih ops rest i p al hist pend o.dst st))
    (Nat.beq (cls E o.op) 2)
noncomputable def drawnStep (rest : List Oper) (E : Env) (ih : IH) (ops : Array Oper) (i : Nat) (al : List (Nat × Nat)) (hist : List (Nat × H)) (pend : List (Nat × Oper × B × Value)) (st : St) : Option Ans :=
  List.casesOn (motive := fun _ => Option Ans) rest (some (.a .normal st)) (fun o rest =>
    (drawOk E ops.toList).bind fun ps => (nthA ps i).bind fun p =>
    (guardOk ops st.tmps o).bind fun g => Bool.rec (motive := fun _ => Option Ans) (ih (.drawn ops rest (Nat.add i 1) al hist pend ⟨putT st.tmps o.dst undef, st.defs, st.h⟩))
      (drawnGo E ih ops o rest i p al hist pend st) g)
noncomputable def drawnStart (E : Env) (ih : IH) (ops : Array Oper) (st : St) : Option Ans :=
  (drawOk E ops.toList).bind fun _ => (layAhead E ops.toList 0 st.h []).bind fun q => ih (.drawn ops ops.toList 0 q.2 [] [] ⟨st.tmps, st.defs, q.1⟩)
noncomputable def execStep (c : Code) : Env → IH → Option Nat → FuncId → St → Option Ans :=
  Code.rec (motive := fun _ => Env → IH → Option Nat → FuncId → St → Option Ans)
    (fun _ _ _ _ st => some (.a .normal st))
    (fun _ ops draw E ih _ _ st => Bool.rec (motive := fun _ => Option Ans) (ih (.region ops ops.toList st)) (drawnStart E ih ops st) draw)
    (fun a b _ _ _ ih R fn st => (ih (.exec R fn a st)).bind (seqK ih R fn b))
    (fun c a b _ _ _ ih R fn st => condK ih R fn a b st (ev st.tmps c))
    (fun id b _ _ ih R fn st => (ih (.exec R fn b st)).bind (blockK id))
    (fun b _ _ ih R fn st => (ih (.exec R fn b st)).bind (loopK ih R fn b))
    (fun f ps as bd _ _ E ih R _ st => Option.rec (motive := fun _ => Option Ans) (execRange E ih f ps as bd st) (fun _ => none) R)
    (fun id _ _ _ _ st => some (.a (.exit id) st))
    (fun b _ _ ih R fn st => ih (.scope R fn b b st))
    (fun _ _ _ _ _ st => some (.a .normal st))
    (fun l _ _ _ _ st => some (.a (.goto l) st))
    (fun _ _ _ _ st => some (.a .ret st))
    (fun _ _ _ _ _ _ => none)
    c
noncomputable def regionV (ih : IH) (ops : Array Oper) (rest : List Oper) (dst : Option Tmp) (st : St) : Ans → Option Ans
  | .v v h => ih (.region ops rest ⟨putT st.tmps dst v, st.defs, h⟩)
  | _ => none
noncomputable def regionK (r : R) : IH → Array Oper → List Oper → Option Tmp → St → Option Ans :=
  R.rec (motive := fun _ => IH → Array Oper → List Oper → Option Tmp → St → Option Ans)
    (fun v h ih ops rest dst st => ih (.region ops rest ⟨putT st.tmps dst v, st.defs, h⟩))
    (fun f args ih ops rest dst st => (ih (.call f args st.h)).bind (regionV ih ops rest dst st))
    (fun l args ih ops rest dst st => (ih (.round l args st.h)).bind (regionV ih ops rest dst st))
    r
noncomputable def regionGo (E : Env) (ih : IH) (ops : Array Oper) (o : Oper) (rest : List Oper) (st : St) : Option Ans :=
  (opR o.op E st.h (ev st.tmps)).bind fun r => regionK r ih ops rest o.dst st
noncomputable def regionOp (E : Env) (ih : IH) (ops : Array Oper) (o : Oper) (rest : List Oper) (st : St) : Option (Nat × Bool) → Option Ans
  | none => regionGo E ih ops o rest st
  | some _ => (guardOk ops st.tmps o).bind fun g => Bool.rec (motive := fun _ => Option Ans) (ih (.region ops rest ⟨putT st.tmps o.dst undef, st.defs, st.h⟩)) (regionGo E ih ops o rest st) g
noncomputable def regionStep (rest : List Oper) : Env → IH → Array Oper → St → Option Ans :=
  List.rec (motive := fun _ => Env → IH → Array Oper → St → Option Ans)
    (fun _ _ _ st => some (.a .normal st))
    (fun o rest _ E ih ops st => regionOp E ih ops o rest st o.guard) rest
noncomputable def tupleOf : List Value → Value
  | [v] => v
  | vs => .tuple ⟨vs⟩
noncomputable def callK (E : Env) (rs : List ResultVar) : Ans → Option Ans
  | .a .normal st => (resVals E st rs).map fun vs => .v (tupleOf vs) st.h
  | .a .ret st => (resVals E st rs).map fun vs => .v (tupleOf vs) st.h
  | _ => none
noncomputable def callBody (E : Env) (ih : IH) (f : FuncId) (args : List Value) (h : H) : Option Ans :=
  (E.funcs.get f).bind fun fd => fd.body.bind fun body =>
    (ih (.exec none f body ⟨B.setL args (B.mk (Nat.add (len args) (Nat.add fd.ntmps 1)) (Nat.add (len args) (Nat.sub fd.ntmps (len args)))) 0, [], h⟩)).bind (callK E fd.results.toList)
noncomputable def callStep (E : Env) (ih : IH) (f : FuncId) (args : List Value) (h : H) : Option Ans :=
  match findX f E.xs with
  | some k => match k with
    | 3 => (growB h args).map fun r => .v r.1 r.2
    | _ => none
  | none => callBody E ih f args h
noncomputable def roundEnd (l : Nat) (e : AE) (st : St) : Option AObj → Option Ans
  | some (.loop _ _ fn' tm' ps' as' bd' d') =>
    match e with
    | .normal => some (.v (.bool true) (st.h.put l (.loop .ready none fn' tm' ps' as' bd' d')))
    | .ret => some (.v (.bool false) (st.h.put l (.loop .done (some .ret) fn' tm' ps' as' bd' d')))
    | .exit id => some (.v (.bool false) (st.h.put l (.loop .done (some (.exit id)) fn' tm' ps' as' bd' d')))
    | .goto g => some (.v (.bool false) (st.h.put l (.loop .done (some (.goto g)) fn' tm' ps' as' bd' d')))
  | _ => none
noncomputable def roundK2 (l : Nat) : Ans → Option Ans
  | .a e st => roundEnd l e st (st.h.get l)
  | _ => none
noncomputable def roundGo (ih : IH) (l : Nat) (fn : FuncId) (bd : Code) (st : St) : Option AObj → Option Ans
  | some (.loop .ready pd fn' tm' ps' as' bd' d') =>
    (ih (.exec (some l) fn bd ⟨st.tmps, [], st.h.put l (.loop .busy pd fn' tm' ps' as' bd' d')⟩)).bind (roundK2 l)
  | _ => none
noncomputable def roundK1 (ih : IH) (l : Nat) (fn : FuncId) (bd : Code) : Ans → Option Ans
  | .a .normal st => roundGo ih l fn bd st (st.h.get l)
  | _ => none
noncomputable def roundStep (ih : IH) (l : Nat) (args : List Value) (h : H) : Option AObj → Option Ans
  | some (.loop _ _ fn tm ps as bd _) => (ih (.exec (some l) fn as ⟨setTmps tm ps args, [], h⟩)).bind (roundK1 ih l fn bd)
  | _ => none
noncomputable def step (E : Env) (ih : IH) (t : Task) : Option Ans :=
  Task.rec (motive := fun _ => Env → IH → Option Ans)
    (fun R fn c st E ih => execStep c E ih R fn st)
    (fun R fn b c st _ ih => (ih (.exec R fn c st)).bind (scopeK ih R fn b))
    (fun ops rest st E ih => regionStep rest E ih ops st)
    (fun ops rest i al hist pend st E ih => drawnStep rest E ih ops i al hist pend st)
    (fun f args h E ih => callStep E ih f args h)
    (fun l args h _ ih => roundStep ih l args h (h.get l))
    t E ih

noncomputable def run (E : Env) (n : Nat) : Task → Option Ans :=
  Nat.rec (motive := fun _ => Task → Option Ans) (fun _ => none) (fun _ ih t => step E ih t) n
end Go.X
