/- PrintAgain: of any text that is read as a formula, the text that is told of it is read as the same formula and told as it was. No conditions of its own. -/
import GoSem.Step
import Derived.Tactics
import Derived.Laws.StructEq
set_option linter.unusedSimpArgs false
set_option linter.unusedVariables false
namespace Go.X
open Go
theorem om{p:Prop}(h:p:=by omega):p:=h
theorem sm{p:Prop}(h:p:=by simp):p:=h
theorem dc{p:Prop}(h:p:=by decide):p:=h
theorem so{p:Prop}(h:p:=by simp;omega):p:=h
theorem sp{p q:Prop}(h:p)(e:p->q:=by intro h;simpa using h):q:=e h
theorem nlr{n:Nat}:n<=n:=Nat.le_refl _
inductive T (α:Type) where
 | e
 | n (v:Option α) (l r:T α)
namespace T
variable {α:Type}
noncomputable def get (t:T α):Nat->Option α :=
 T.rec (motive:=fun _=>Nat->Option α) (fun _=>none)
  (fun v _ _ j o k=>Nat.rec (motive:=fun _=>Option α) v (fun k _=>Bool.rec (motive:=fun _=>Option α) (o (Nat.div k 2)) (j (Nat.div k 2)) (Nat.beq (Nat.mod k 2) 0)) k) t
noncomputable def set (f:Nat):T α->Nat->Option α->T α :=
 Nat.rec (motive:=fun _=>T α->Nat->Option α->T α) (fun t _ _=>t)
  (fun _ j t k x=>T.casesOn (motive:=fun _=>T α) t
   (Nat.rec (motive:=fun _=>T α) (.n x .e .e) (fun k _=>Bool.rec (motive:=fun _=>T α) (.n none .e (j .e (Nat.div k 2) x)) (.n none (j .e (Nat.div k 2) x) .e) (Nat.beq (Nat.mod k 2) 0)) k)
   (fun v l r=>Nat.rec (motive:=fun _=>T α) (.n x l r) (fun k _=>Bool.rec (motive:=fun _=>T α) (.n v l (j r (Nat.div k 2) x)) (.n v (j l (Nat.div k 2) x) r) (Nat.beq (Nat.mod k 2) 0)) k)) f
end T
noncomputable def kE {α:Type} (l:List α):Bool->List α :=
 List.rec (motive:=fun _=>Bool->List α) (fun _=>[]) (fun a _ j b=>Bool.rec (motive:=fun _=>List α) (j true) (a :: j false) b) l
noncomputable def UZ {α:Type} (f:Nat):List α->T α :=
 Nat.rec (motive:=fun _=>List α->T α) (fun _=>.e)
  (fun _ j l=>List.casesOn (motive:=fun _=>T α) l .e (fun a l=>.n (some a) (j (kE l true)) (j (kE l false)))) f
def Aj:Value:=.chan (some 0)
def CU:Value->Bool
 | .bool _ | .int _ _ | .float _ _ | .string _ | .pointer none | .slice none _ _ | .map none | .nilFunc | .nilIface | .chan (some 0)=>true
 | _=>false
noncomputable def Gh (l:List Value):Bool:=List.rec (motive:=fun _=>Bool) true (fun v _ j=>CU v&&j) l
noncomputable def xo:Value->Bool
 | .agg c=>Gh c.toList
 | .tuple c=>Gh c.toList
 | v=>CU v
noncomputable def X7:Value->Value
 | .bool b=>.bool b
 | .int k n=>.int k n
 | .string s=>.string s
 | v=>Bool.rec (motive:=fun _=>Value) Aj v (xo v)
noncomputable def zeroOf (z:Value):Option Value:=Bool.rec (motive:=fun _=>Option Value) none (some z) (xo z)
def X8:TypeDesc->Bool | .struct _ | .array _ _=>true | _=>false
structure TI where
 d:TypeDesc
 size:Nat
 bytes:Nat
 zero:Option Value
 agg:Bool
 methods:Array Method
structure Env where
 types:T TI
 funcs:T Func
 /-- AdW Uo are Afa by AhD AfV: 0 abi.Afb,1 Aaz.AbB,2 Aaz.VI,3 Builder.AhV,4 Aha.overlaps -/
 xs:List (FuncId × Nat)
 /-- struct types AhE '==' goes field by field -/
 eqs:List TypeId
noncomputable def JC {α β:Type} (f:α->β) (l:List α):List β:=List.rec (motive:=fun _=>List β) [] (fun a _ j=>f a :: j) l
noncomputable def gN {α:Type} (l:List α):Nat->Option α :=
 List.rec (motive:=fun _=>Nat->Option α) (fun _=>none) (fun v _ j n=>Nat.rec (motive:=fun _=>Option α) (some v) (fun n _=>j n) n) l
noncomputable def descOf (ty:T TypeInfo):TypeDesc->TypeDesc
 | .named _ u=>match ty.get u with | some i=>i.desc | none=>.invalid
 | d=>d
noncomputable def Afc (ty:T TypeInfo) (i:TypeInfo):TI:=⟨descOf ty i.desc,i.size,i.bytes,i.zero.bind zeroOf,X8 (descOf ty i.desc),i.methods⟩
noncomputable def Env.of (P:Program) (xs:List (FuncId × Nat)) (eqs:List TypeId):Env :=
 { types:=UZ 20 (JC (Afc (UZ 20 P.types.toList)) P.types.toList),funcs:=UZ 20 P.funcs.toList,xs,eqs }
noncomputable def h_ (f:FuncId) (l:List (FuncId × Nat)):Option Nat :=
 List.rec (motive:=fun _=>Option Nat) none (fun x _ j=>Bool.rec (motive:=fun _=>Option Nat) j (some x.2) (Nat.beq x.1 f)) l
noncomputable def A0 (f:Nat) (l:List Nat):Bool :=
 List.rec (motive:=fun _=>Bool) false (fun x _ j=>Bool.rec (motive:=fun _=>Bool) j true (Nat.beq x f)) l
noncomputable def Env.dO (E:Env) (t:TypeId):Option TI:=E.types.get t
noncomputable def Env.under (E:Env) (t:TypeId):Option TypeDesc:=(E.types.get t).bind fun i=>some i.d
noncomputable def Env.size (E:Env) (t:TypeId):Option Nat:=(E.types.get t).bind fun i=>some i.size
noncomputable def Env.zero (E:Env) (t:TypeId):Option Value:=(E.types.get t).bind fun i=>i.zero
noncomputable def cells:Value->Option (List Value) | .agg cs=>some cs.toList | .chan _=>none | v=>some [v]
noncomputable def Env.cz (E:Env) (t:TypeId):Option (List Value):=(E.zero t).bind cells
inductive B where
 | nil
 | leaf (v:Value)
 | node (l r:B)
noncomputable def B.get (t:B):Nat->Value :=
 B.rec (motive:=fun _=>Nat->Value) (fun _=>Go.undef) (fun v k=>Bool.rec (motive:=fun _=>Value) Go.undef v (Nat.beq k 0))
  (fun _ _ j o k=>Bool.rec (motive:=fun _=>Value) (o (Nat.div k 2)) (j (Nat.div k 2)) (Nat.beq (Nat.mod k 2) 0)) t
noncomputable def B.set (t:B):Nat->Value->B :=
 B.rec (motive:=fun _=>Nat->Value->B) (fun _ _=>.nil) (fun u k v=>Bool.rec (motive:=fun _=>B) (.leaf u) (.leaf v) (Nat.beq k 0))
  (fun l r sl j k v=>Bool.rec (motive:=fun _=>B) (.node l (j (Nat.div k 2) v)) (.node (sl (Nat.div k 2) v) r) (Nat.beq (Nat.mod k 2) 0)) t
noncomputable def B.mk (f:Nat):Nat->B :=
 Nat.rec (motive:=fun _=>Nat->B) (fun _=>.nil)
  (fun _ j n=>Bool.rec (motive:=fun _=>B) (Bool.rec (motive:=fun _=>B) .nil (.leaf Go.undef) (Nat.beq n 1)) (.node (j (Nat.div (Nat.add n 1) 2)) (j (Nat.div n 2))) (Nat.ble 2 n)) f
noncomputable def B.OX (l:List Value):B->Nat->B :=
 List.rec (motive:=fun _=>B->Nat->B) (fun t _=>t) (fun v _ j t k=>j (t.set k v) (Nat.add k 1)) l
structure IP where
 cs:List Value
 elem:TypeId
 osz:Nat
 ib:Nat
 ro:Bool
inductive kJ where
 | row (b:IP)
 | map (es:List MapEntry) (clock:Nat)
 | iter (s:ByteArray) (pos:Nat)
 | loop (state:LoopState) (pending:Option Code) (fn:FuncId) (tmps:B) (params:List Tmp) (assign body:Code) (defers:Nat)
 | deferred (open_:Bool)
structure H where
 t:T kJ
 next:Nat
noncomputable def H.get (h:H) (b:Nat):Option kJ:=h.t.get b
noncomputable def H.put (h:H) (b:Nat) (x:kJ):H:=⟨T.set (Nat.add b 1) h.t b (some x),h.next⟩
noncomputable def H.del (h:H) (b:Nat):H:=⟨T.set (Nat.add b 1) h.t b none,h.next⟩
noncomputable def H.new (h:H) (x:kJ):H:=⟨T.set (Nat.add h.next 1) h.t h.next (some x),Nat.add h.next 1⟩
noncomputable def H.row (h:H) (b:Nat):Option IP:=match h.get b with | some (.row x)=>some x | _=>none
noncomputable def takeN (n:Nat):List Value->Option (List Value) :=
 Nat.rec (motive:=fun _=>List Value->Option (List Value)) (fun _=>some [])
  (fun _ j l=>List.casesOn (motive:=fun _=>Option (List Value)) l none (fun v l=>Option.rec (motive:=fun _=>Option (List Value)) none (fun r=>some (v :: r)) (j l))) n
noncomputable def mT (n:Nat):List Value->List Value :=
 Nat.rec (motive:=fun _=>List Value->List Value) (fun l=>l) (fun _ j l=>List.casesOn (motive:=fun _=>List Value) l [] (fun _ l=>j l)) n
noncomputable def nth (l:List Value):Nat->Option Value :=
 List.rec (motive:=fun _=>Nat->Option Value) (fun _=>none) (fun v _ j n=>Nat.rec (motive:=fun _=>Option Value) (some v) (fun n _=>j n) n) l
noncomputable def sV (c:List Value):List Value->List Value :=
 List.rec (motive:=fun _=>List Value->List Value) (fun _=>[]) (fun a c j vs=>List.casesOn (motive:=fun _=>List Value) vs (a :: c) (fun v vs=>v :: j vs)) c
noncomputable def ep (c:List Value):Nat->List Value->List Value :=
 List.rec (motive:=fun _=>Nat->List Value->List Value) (fun _ _=>[]) (fun a c j k vs=>Nat.rec (motive:=fun _=>List Value) (sV (a :: c) vs) (fun k _=>a :: j k vs) k) c
noncomputable def len {α:Type} (l:List α):Nat:=List.rec (motive:=fun _=>Nat) 0 (fun _ _ n=>Nat.add n 1) l
noncomputable def cW {α:Type} (l r:List α):List α:=List.rec (motive:=fun _=>List α) r (fun a _ j=>a :: j) l
noncomputable def loadCells (h:H) (a:Addr) (n:Nat):Option (List Value) :=
 (h.row a.block).bind fun x=>takeN n (mT a.off x.cs)
noncomputable def SR (h:H) (a:Addr) (n:Nat):Option Value:=(loadCells h a n).bind fun c=>some (.agg ⟨c⟩)
noncomputable def loadVar (E:Env) (h:H) (t:TypeId) (a:Addr):Option Value :=
 (E.dO t).bind fun i=>Bool.rec (motive:=fun _=>Option Value) ((h.row a.block).bind fun x=>nth x.cs a.off) (SR h a i.size) i.agg
noncomputable def bX:Value->Bool | .agg _ | .tuple _ | .chan _=>false | _=>true
noncomputable def da (l:List Value):Bool:=List.rec (motive:=fun _=>Bool) true (fun v _ j=>Bool.rec (motive:=fun _=>Bool) false j (bX v)) l
noncomputable def storeCells (h:H) (a:Addr) (vs:List Value):Option H :=
 (h.row a.block).bind fun x =>
  bif x.ro||!(Nat.ble x.ib a.off)||!(Nat.ble (a.off+(len vs)) (len x.cs))||!(da vs) then none
  else some (h.put a.block (.row { x with cs:=ep x.cs a.off vs }))
noncomputable def storeVar (E:Env) (h:H) (t:TypeId) (a:Addr) (v:Value):Option H :=
 (E.size t).bind fun n=>(cells v).bind fun cs=>bif Nat.beq (len cs) n then storeCells h a cs else none
noncomputable def addrOf:Value->Option Addr | .pointer (some ⟨b,o,none⟩)=>some ⟨b,o,none⟩ | _=>none
noncomputable def asI:Value->Option Int | .int _ n=>some n | _=>none
noncomputable def AaA (cs:List Value) (off n:Nat):Option Value:=(takeN n (mT off cs)).bind fun c=>some (.agg ⟨c⟩)
noncomputable def part (E:Env) (t:TypeId) (cs:List Value) (off:Nat):Option Value :=
 (E.dO t).bind fun i=>Bool.rec (motive:=fun _=>Option Value) (nth cs off) (AaA cs off i.size) i.agg
noncomputable def cm (k:Option Bool):Bool->Option Bool | true=>k | false=>some false
noncomputable def eqFields (eq:TypeId->Value->Value->Option Bool) (E:Env) (xs j:List Value) (fs:List Field):Option Bool :=
 List.rec (motive:=fun _=>Option Bool) (some true) (fun f _ o =>
  (part E f.type xs f.offset).bind fun x=>(part E f.type j f.offset).bind fun y=>(eq f.type x y).bind (cm o)) fs
noncomputable def dU (x:List UInt8):List UInt8->Bool :=
 List.rec (motive:=fun _=>List UInt8->Bool) (fun y=>List.casesOn (motive:=fun _=>Bool) y true (fun _ _=>false))
  (fun a _ j y=>List.casesOn (motive:=fun _=>Bool) y false (fun b y=>Bool.rec (motive:=fun _=>Bool) false (j y) (Nat.beq a.toNat b.toNat))) x
noncomputable def uD:IntKind->IntKind->Bool
 | .i8,.i8 | .i16,.i16 | .i32,.i32 | .i64,.i64 | .u8,.u8 | .u16,.u16 | .u32,.u32 | .u64,.u64=>true
 | _,_=>false
noncomputable def cx:Int->Int->Bool
 | .ofNat a,.ofNat b=>Nat.beq a b
 | .negSucc a,.negSucc b=>Nat.beq a b
 | _,_=>false
noncomputable def gn:Int->Int->Bool
 | .ofNat a,.ofNat b=>Nat.ble a b
 | .negSucc _,.ofNat _=>true
 | .ofNat _,.negSucc _=>false
 | .negSucc a,.negSucc b=>Nat.ble b a
noncomputable def Cq (a b:Addr):Bool:=Nat.beq a.block b.block&&Nat.beq a.off b.off
noncomputable def QJ (E:Env) (j:TypeId->Value->Value->Option Bool) (u:TypeDesc) (t:TypeId) (x y:Value):Option Bool :=
 match u,x,y with
 | .bool,.bool a,.bool b=>some (a == b)
 | .int _,.int k a,.int k' b=>bif uD k k' then some (cx a b) else none
 | .string,.string a,.string b=>some (dU a.data.toList b.data.toList)
 | .pointer _,.pointer none,.pointer b=>some b.isNone
 | .pointer _,.pointer (some _),.pointer none=>some false
 | .pointer e,.pointer (some a),.pointer (some b)=>(E.size e).bind fun _=>bif Cq a b then some true else none
 | .struct fields,.agg xs,.agg o=>bif A0 t E.eqs then eqFields j E xs.toList o.toList fields.toList else none
 | .slice _,.slice none _ _,.slice b _ _=>some b.isNone
 | .slice _,.slice (some _) _ _,.slice none _ _=>some false
 | .map _ _,.map none,.map b=>some b.isNone
 | .map _ _,.map (some _),.map none=>some false
 | .func _ _ _,.nilFunc,.nilFunc=>some true
 | .func _ _ _,.nilFunc,.func _ _ _=>some false
 | .func _ _ _,.func _ _ _,.nilFunc=>some false
 | _,_,_=>none
noncomputable def Ze (E:Env) (d:Nat):TypeId->Value->Value->Option Bool :=
 Nat.rec (motive:=fun _=>TypeId->Value->Value->Option Bool) (fun _ _ _=>none) (fun _ j t x y=>(E.under t).bind fun u=>QJ E j u t x y) d
noncomputable def Ky (M:Nat):Int->Int
 | .ofNat m=>.ofNat (Nat.mod m M)
 | .negSucc m=>.ofNat (Nat.sub (Nat.sub M 1) (Nat.mod m M))
noncomputable def E5 (M hf:Nat):Int->Int
 | .ofNat m=>Bool.rec (motive:=fun _=>Int) (Bool.rec (motive:=fun _=>Int) (.negSucc (Nat.sub (Nat.sub M 1) (Nat.mod m M))) (.ofNat (Nat.mod m M)) (Nat.blt (Nat.mod m M) hf)) (.ofNat m) (Nat.blt m hf)
 | .negSucc m=>Bool.rec (motive:=fun _=>Int) (Bool.rec (motive:=fun _=>Int) (.ofNat (Nat.sub (Nat.sub M 1) (Nat.mod m M))) (.negSucc (Nat.mod m M)) (Nat.blt (Nat.mod m M) hf)) (.negSucc m) (Nat.blt m hf)
noncomputable def mS:IntKind->Int->Int
 | .i64,n=>E5 18446744073709551616 9223372036854775808 n
 | .u64,n=>Ky 18446744073709551616 n
 | .u8,n=>Ky 256 n
 | .u32,n=>Ky 4294967296 n
 | .i32,n=>E5 4294967296 2147483648 n
 | k,n=>k.wrap n
noncomputable def Ec (k:IntKind) (f:Nat->Nat->Nat) (g:Int->Int->Int):Int->Int->Int
 | .ofNat a,.ofNat b=>mS k (.ofNat (f a b))
 | a,b=>g a b
noncomputable def xq (x:List UInt8):List UInt8->Bool :=
 List.rec (motive:=fun _=>List UInt8->Bool) (fun y=>List.casesOn (motive:=fun _=>Bool) y false (fun _ _=>true))
  (fun a _ j y=>List.casesOn (motive:=fun _=>Bool) y false (fun b y=>Bool.rec (motive:=fun _=>Bool) (Nat.blt a.toNat b.toNat) (j y) (Nat.beq a.toNat b.toNat))) x
noncomputable def OY (op:BinOp) (x y:ByteArray):Option Value :=
 let x:=x.data.toList
 let y:=y.data.toList
 match op with
 | .add=>bif Nat.ble (len x+len y) 9223372036854775807 then some (.string ⟨⟨cW x y⟩⟩) else none
 | .eql=>some (.bool (dU x y))
 | .neq=>some (.bool !(dU x y))
 | .lss=>some (.bool (xq x y))
 | .leq=>some (.bool !(xq y x))
 | .gtr=>some (.bool (xq y x))
 | .geq=>some (.bool !(xq x y))
 | _=>none
noncomputable def OZ:Value->Option (IntKind × Int) | .int k n=>some (k,n) | _=>none
noncomputable def U0:Value->Option ByteArray | .string s=>some s | _=>none
noncomputable def AaB (k:IntKind):Int->Int->Option Value
 | .ofNat a,.ofNat b=>some (.int k (mS k (.ofNat (Nat.shiftLeft a (Nat.min b k.bits)))))
 | _,_=>none
noncomputable def AaC (k:IntKind):Int->Int->Option Value
 | .ofNat a,.ofNat b=>some (.int k (.ofNat (Nat.shiftRight a (Nat.min b k.bits))))
 | _,_=>none
noncomputable def fF (k k':IntKind) (v:Option Value):Option Value:=Bool.rec (motive:=fun _=>Option Value) none v (uD k k')
noncomputable def HY (op:BinOp):IntKind->Int->IntKind->Int->Option Value :=
 BinOp.rec (motive:=fun _=>IntKind->Int->IntKind->Int->Option Value)
  (fun k a k' b=>fF k k' (some (.int k (mS k (a+b)))))
  (fun k a k' b=>fF k k' (some (.int k (mS k (a-b)))))
  (fun k a k' b=>fF k k' (some (.int k (mS k (a * b)))))
  (fun k a k' b=>fF k k' (Bool.rec (motive:=fun _=>Option Value) (some (.int k (mS k (a.tdiv b)))) none (cx b 0)))
  (fun k a k' b=>fF k k' (Bool.rec (motive:=fun _=>Option Value) (some (.int k (a.tmod b))) none (cx b 0)))
  (fun k a k' b=>fF k k' (some (.int k (Ec k Nat.land (fun a b=>k.wrap (BitVec.ofInt k.bits a &&& BitVec.ofInt k.bits b).toNat) a b))))
  (fun k a k' b=>fF k k' (some (.int k (Ec k Nat.lor (fun a b=>k.wrap (BitVec.ofInt k.bits a ||| BitVec.ofInt k.bits b).toNat) a b))))
  (fun k a k' b=>fF k k' (some (.int k (Ec k Nat.xor (fun a b=>k.wrap (BitVec.ofInt k.bits a ^^^ BitVec.ofInt k.bits b).toNat) a b))))
  (fun k a _ b=>AaB k a b)
  (fun k a _ b=>AaC k a b)
  (fun k a k' b=>fF k k' (some (.int k (k.wrap (BitVec.ofInt k.bits a &&& ~~~BitVec.ofInt k.bits b).toNat))))
  (fun k a k' b=>fF k k' (some (.bool (cx a b))))
  (fun k a k' b=>fF k k' (some (.bool (!cx a b))))
  (fun k a k' b=>fF k k' (some (.bool (!gn b a))))
  (fun k a k' b=>fF k k' (some (.bool (gn a b))))
  (fun k a k' b=>fF k k' (some (.bool (!gn a b))))
  (fun k a k' b=>fF k k' (some (.bool (gn b a))))
  op
noncomputable def Afd (E:Env) (t:TypeId) (x y:Value):BinOp->Option Value
 | .eql=>(Ze E 100 t x y).bind fun b=>some (.bool b)
 | .neq=>(Ze E 100 t x y).bind fun b=>some (.bool !b)
 | _=>none
noncomputable def QK (E:Env) (op:BinOp) (t:TypeId) (x y:Value):Option Value :=
 Option.rec (motive:=fun _=>Option Value) (Afd E t x y op) (fun a=>(U0 y).bind fun b=>OY op a b) (U0 x)
noncomputable def binOp (E:Env) (op:BinOp) (t:TypeId) (x y:Value):Option Value :=
 Option.rec (motive:=fun _=>Option Value) (QK E op t x y) (fun p=>(OZ y).bind fun q=>HY op p.1 p.2 q.1 q.2) (OZ x)
noncomputable def Adm:Value->Option Value | .bool b=>some (.bool !b) | _=>none
noncomputable def unOp (op:UnOp) (x:Value):Option Value :=
 UnOp.rec (motive:=fun _=>Value->Option Value)
  (fun x=>(OZ x).bind fun p=>HY .sub p.1 0 p.1 p.2)
  (fun x=>(OZ x).bind fun p=>HY .xor p.1 (if p.1.signed then -1 else p.1.max) p.1 p.2)
  Adm (fun _=>none) op x
noncomputable def jD (x:Option Value) (j y:Nat):Option Nat :=
 match x with
 | none=>some j
 | some (.int _ (.ofNat i))=>bif Nat.ble i y then some i else none
 | some _=>none
noncomputable def oh (h:H) (a:Option Addr) (c:Nat):Option Bool :=
 match a with
 | none=>some false
 | some a=>(h.row a.block).map fun x=>!(Nat.beq x.osz 0)&&Nat.beq (a.off+c * x.osz) (len x.cs)
noncomputable def nE (a:Addr) (n:Nat):Addr:=⟨a.block,a.off+n,none⟩
noncomputable def byteOf:Value->Option UInt8 | .int .u8 n=>some (UInt8.ofNat n.toNat) | _=>none
noncomputable def bytesOf (l:List Value):Option (List UInt8) :=
 List.rec (motive:=fun _=>Option (List UInt8)) (some []) (fun v _ j=>(byteOf v).bind fun b=>Option.rec (motive:=fun _=>Option (List UInt8)) none (fun r=>some (b :: r)) j) l
noncomputable def eN (l:List UInt8):List Value:=List.rec (motive:=fun _=>List Value) [] (fun b _ j=>.int .u8 b.toNat :: j) l
noncomputable def Cc (l:List UInt8):Nat->List UInt8 :=
 List.rec (motive:=fun _=>Nat->List UInt8) (fun _=>[]) (fun a _ j n=>Nat.rec (motive:=fun _=>List UInt8) [] (fun n _=>a :: j n) n) l
noncomputable def Np (l:List UInt8):Nat->List UInt8 :=
 List.rec (motive:=fun _=>Nat->List UInt8) (fun _=>[]) (fun a l j n=>Nat.rec (motive:=fun _=>List UInt8) (a :: l) (fun n _=>j n) n) l
noncomputable def Mo (l:List UInt8):Nat->Option UInt8 :=
 List.rec (motive:=fun _=>Nat->Option UInt8) (fun _=>none) (fun a _ j n=>Nat.rec (motive:=fun _=>Option UInt8) (some a) (fun n _=>j n) n) l
noncomputable def Afe (s:ByteArray) (l h:Nat):ByteArray:=⟨⟨Np (Cc s.data.toList h) l⟩⟩
noncomputable def yC (E:Env) (h:H) (elem:TypeId) (a:Option Addr) (cap l m:Nat):Option (Option Addr) :=
 match a with
 | none=>some none
 | some a=>(E.size elem).bind fun sz=>(h.row a.block).bind fun x =>
  Bool.rec (motive:=fun _=>Option (Option Addr)) (Bool.rec (motive:=fun _=>Option (Option Addr)) (some (some (nE a (l * sz)))) (some (some a)) (Nat.beq m l))
   (Bool.rec (motive:=fun _=>Option (Option Addr)) none (some (some (nE a (l * sz)))) (Nat.beq x.osz sz)) (!(Nat.beq x.osz 0)&&Nat.beq (a.off+cap * x.osz) (len x.cs)&&Nat.beq m cap)
noncomputable def IW {α:Type} (hi mx:Option α):Bool:=match mx,hi with | some _,none=>false | _,_=>true
noncomputable def sK (E:Env) (h:H) (elem:TypeId) (a:Option Addr) (len cap:Nat) (lo hi mx:Option Value):Option Value :=
 (jD mx cap cap).bind fun m=>(jD hi len m).bind fun hh=>(jD lo 0 hh).bind fun l=>Bool.rec (motive:=fun _=>Option Value) none ((yC E h elem a cap l m).bind fun j =>
  some (.slice j (Nat.sub hh l) (Nat.sub m l))) (IW hi mx&&Nat.ble hh m&&Option.isSome (E.size elem))
noncomputable def sliceB (s:ByteArray) (lo hi:Option Value):Option Value :=
 (jD hi (len s.data.toList) (len s.data.toList)).bind fun h=>(jD lo 0 h).bind fun l=>some (.string (Afe s l h))
noncomputable def aO (E:Env) (h:H) (t:TypeId) (x:Value) (lo hi mx:Option Value):Option Value :=
 (E.under t).bind fun u=>match u,x with
 | .string,.string s=>(match mx with | none=>some () | _=>none).bind fun _=>sliceB s lo hi
 | .slice elem,.slice a len cap=>sK E h elem a len cap lo hi mx
 | _,_=>none
noncomputable def cV (h:H) (sz n:Nat):Value->Option (List Value)
 | .slice (some a) _ _=>bif Nat.beq (n * sz) 0 then some [] else loadCells h a (n * sz)
 | .slice none _ _=>bif Nat.beq n 0 then some [] else none
 | .string s=>bif Nat.beq sz 1 then some (eN (Cc s.data.toList n)) else none
 | _=>none
noncomputable def lenOf:Value->Option Nat | .slice _ n _=>some n | .string s=>some (len s.data.toList) | _=>none
noncomputable def dZ (z:List Value) (n:Nat):List Value:=Nat.rec (motive:=fun _=>List Value) [] (fun _ j=>cW z j) n
noncomputable def li (h:H):Value:=.pointer (some ⟨h.next,0,none⟩)
noncomputable def newRow (h:H) (e:TypeId) (c:List Value) (osz:Nat):H:=h.new (.row ⟨c,e,osz,0,false⟩)
inductive R where
 | val (v:Value) (h:H)
 | enter (f:FuncId) (args:List Value)
 | round (l:Nat) (args:List Value)
def ku:TypeDesc->Bool | .slice _=>false | .string=>false | _=>true
noncomputable def vW (h:H) (base:Option Addr) (l sz m c:Nat) (new:List Value):Option R :=
 match base with
 | some a=>Bool.rec (motive:=fun _=>Option R) ((storeCells h (nE a (l * sz)) new).bind fun h=>some (.val (.slice base (l+m) c) h)) (some (.val (.slice base (l+m) c) h)) (Nat.beq (m * sz) 0)
 | none=>some (.val (.slice base (l+m) c) h)
noncomputable def Mp (h:H) (elem:TypeId) (sz:Nat) (base:Option Addr) (new:List Value):Bool->Option H
 | false=>some h
 | true=>match base with
  | some a=>(h.row a.block).bind fun x=>Bool.rec (motive:=fun _=>Option H) none (some (h.del a.block)) (!x.ro&&Nat.beq x.ib 0&&Nat.beq x.osz sz&&Nat.beq x.elem elem&&da new)
  | none=>none
noncomputable def X9 (E:Env) (h:H) (elem:TypeId) (base:Option Addr) (l sz m c:Nat) (s:Value) (new:List Value):Option R :=
 (E.dO elem).bind fun i=>(E.cz elem).bind fun z =>
 Bool.rec (motive:=fun _=>Option R) none
  ((cV h sz l s).bind fun cK=>(oh h base c).bind fun o=>(Mp h elem sz base new o).bind fun h =>
   some (.val (.slice (some ⟨h.next,0,none⟩) (l+m) (l+m)) (newRow h elem (cW cK new) sz)))
  (Nat.ble ((l+m+64) * 4 * i.bytes) 70368744177664&&Nat.ble (l+m) 70368744177664&&Nat.beq (len z) sz&&!(Nat.beq sz 0))
noncomputable def append (E:Env) (h:H) (st:TypeId) (j:Option TypeId) (s x:Value):Option R :=
 (E.under st).bind fun u=>match u,s with
 | .slice elem,.slice base l c =>
  (E.size elem).bind fun sz =>
  (match j with | none=>some false | some j=>(E.under j).map ku).bind fun zs =>
  Bool.rec (motive:=fun _=>Option R)
   ((lenOf x).bind fun m=>(cV h sz m x).bind fun new =>
    Bool.rec (motive:=fun _=>Option R) (X9 E h elem base l sz m c s new) (vW h base l sz m c new) (Nat.ble (l+m) c))
   none zs
 | _,_=>none
noncomputable def copyV (E:Env) (h:H) (st:TypeId) (d s:Value):Option R :=
 (E.under st).bind fun u=>match u,d with
 | .slice elem,.slice base j _ =>
  (E.size elem).bind fun sz=>(lenOf s).bind fun sl =>
  let n:=Nat.min sl j
  (cV h sz n s).bind fun cs =>
  match base with
  | some a=>bif Nat.beq (n * sz) 0 then some (.val (.int .i64 n) h) else (storeCells h a cs).map fun h=>.val (.int .i64 n) h
  | none=>some (.val (.int .i64 n) h)
 | _,_=>none
noncomputable def SS (E:Env) (j:TypeId) (k:Value):List MapEntry->Nat->Option (Option (Nat × Value))
 | [],_=>some none
 | e :: es,i=>(Ze E 100 j k e.key).bind fun b=>match b with | true=>some (some (i,e.val)) | false=>SS E j k es (i+1)
noncomputable def mapOf (h:H):Value->Option (List MapEntry × Nat)
 | .map none=>some ([],0)
 | .map (some r)=>match h.get r with | some (.map es c)=>some (es,c) | _=>none
 | _=>none
noncomputable def Adn:List MapEntry->Nat->Value->Value->List MapEntry
 | [],_,_,_=>[]
 | e :: es,n,k,v=>match n with | 0=>{ e with key:=k,val:=v } :: es | n+1=>e :: Adn es n k v
noncomputable def Ado:List MapEntry->Nat->Option MapEntry
 | [],_=>none
 | e :: es,n=>match n with | 0=>some e | n+1=>Ado es n
def AbC:TypeDesc->Bool | .int _=>true | .string=>true | .bool=>true | _=>false
noncomputable def Aff (E:Env) (cs:List Value) (fs:List Field):Bool :=
 List.rec (motive:=fun _=>Bool) true (fun f _ j=>match E.under f.type,part E f.type cs f.offset with | some d,some _=>AbC d&&j | _,_=>false) fs
noncomputable def X_ (E:Env) (j:TypeId) (k:Value):Option Unit :=
 (E.under j).bind fun u=>match u,k with
 | .struct fs,.agg cs=>bif Aff E cs.toList fs.toList then some () else none
 | _,_=>none
noncomputable def CV:Value->Value->Bool
 | .int k a,.int k' b=>uD k k'&&cx a b
 | .string a,.string b=>dU a.data.toList b.data.toList
 | .bool a,.bool b=>a == b
 | _,_=>false
noncomputable def xu:List Value->List Value->Bool
 | [],[]=>true
 | a :: l,b :: m=>CV a b&&xu l m
 | _,_=>false
noncomputable def sameKey:Value->Value->Bool
 | .agg a,.agg b=>xu a.toList b.toList
 | _,_=>false
noncomputable def Adp (c:Nat):List UInt8->Nat->Nat
 | [],n=>n
 | b :: l,n=>Adp c l (bif Nat.beq b.toNat c then n+1 else n)
noncomputable def xY (c:Nat):List UInt8->Nat->Int
 | [],_=>-1
 | b :: l,i=>bif Nat.beq b.toNat c then (i:Int) else xY c l (i+1)
noncomputable def SU (name:String):List Method->Option Method
 | []=>none
 | m :: l=>bif m.name == name then some m else SU name l
noncomputable def SV (E:Env) (t:TypeId) (name:String):Option FuncId :=
 (E.dO t).bind fun i=>match i.d with
 | .pointer _=>(SU name i.methods.toList).bind fun m=>match m.path.toList,m.func with
  | [],some (f,true)=>some f
  | _,_=>none
 | _=>none
noncomputable def AaD (k:Nat) (args:List Value):Option Value :=
 match k,args with
 | 0,[x]=>some x
 | 2,[.string s,.int .u8 (.ofNat c)]=>some (.int .i64 (xY (Nat.mod c 256) s.data.toList 0))
 | _,_=>none
noncomputable def vm (E:Env) (h:H) (f:FuncId) (args:List Value):Option R :=
 match h_ f E.xs with
 | none=>some (.enter f args)
 | some k=>match k with
  | 3=>some (.enter f args)
  | k=>(AaD k args).map fun v=>.val v h
noncomputable def mK (E:Env) (h:H) (fn:Fn) (captured args:List Value):Option R :=
 match fn with
 | .func f=>vm E h f (cW args captured)
 | .yield l=>match h.get l with
  | some (.loop _ _ _ _ ps _ _ _)=>bif Nat.beq (len args) (len ps) then some (.round l args) else none
  | _=>none
 | _=>none
noncomputable def zm (ρ:Operand->Value):Option Operand->Option Value | none=>none | some x=>some (ρ x)
noncomputable def lK (ρ:Operand->Value) (l:List Operand):List Value:=List.rec (motive:=fun _=>List Value) [] (fun x _ j=>ρ x :: j) l
noncomputable def FN (ρ:Operand->Value) (l:List (Nat × Operand)):List (Nat × Value):=List.rec (motive:=fun _=>List (Nat × Value)) [] (fun x _ j=>(x.1,ρ x.2) :: j) l
noncomputable def lit (v:Option Value) (h:H):Option R:=v.map fun v=>.val v h
noncomputable def HZ (E:Env) (fields:Array Field):List Value->List (Nat × Value)->Option (List Value)
 | c,[]=>some c
 | c,(i,v) :: ps=>(gN fields.toList i).bind fun f=>(E.size f.type).bind fun s =>
  (cells v).bind fun cs=>bif Nat.beq (len cs) s then bif Nat.ble (f.offset+len cs) (len c) then HZ E fields (ep c f.offset cs) ps else none else none
noncomputable def xS (s:Nat):List Value->List (Nat × Value)->Option (List Value)
 | c,[]=>some c
 | c,(i,v) :: ps=>(cells v).bind fun cs=>bif Nat.beq (len cs) s then bif Nat.ble (i * s+len cs) (len c) then xS s (ep c (i * s) cs) ps else none else none
noncomputable def sx (h:H) (x:Value):Option R :=
 match x with
 | .slice none _ _=>some (.val (.pointer none) h)
 | .slice (some a) _ c=>Bool.rec (motive:=fun _=>Option R) (some (.val (.pointer (some a)) h)) none (Nat.beq c 0)
 | _=>none
noncomputable def kY (x:IP) (k:Nat):IP :=
 ⟨x.cs,x.elem,x.osz,Nat.rec (motive:=fun _=>Nat) x.ib (fun _ _=>k) (k-x.ib),Nat.rec (motive:=fun _=>Bool) x.ro (fun _ _=>true) x.osz⟩
noncomputable def SW (E:Env) (h:H) (pt:TypeId) (a:Addr) (n:Nat):Option R :=
 (E.under pt).bind fun u=>match u with
 | .pointer e=>(E.size e).bind fun s=>(h.row a.block).bind fun x=>(takeN n (mT a.off x.cs)).bind fun cs=>(bytesOf cs).bind fun l =>
  Bool.rec (motive:=fun _=>Option R) none (some (.val (.string ⟨⟨l⟩⟩) (h.put a.block (.row (kY x (a.off+n)))))) (Nat.beq s 1&&Nat.beq x.elem e&&Nat.ble n 9223372036854775807&&!x.ro)
 | _=>none
noncomputable def QL (E:Env) (h:H) (pt:TypeId) (a:Addr) (n:Nat):Option R:=match a with | ⟨b,o,none⟩=>SW E h pt ⟨b,o,none⟩ n | _=>none
noncomputable def pg (E:Env) (h:H) (ats:List TypeId) (p n:Value):Option R :=
 match p,n with
 | .pointer p,.int .i64 (.ofNat n)=>(gN ats 0).bind fun pt=>Bool.rec (motive:=fun _=>Option R)
  (Option.rec (motive:=fun _=>Option R) none (fun a=>QL E h pt a n) p)
  (some (.val (.string ⟨⟨[]⟩⟩) h)) (Nat.beq n 0)
 | _,_=>none
noncomputable def zq (h:H) (least:Bool) (x y:Value):Option R :=
 match x,y with
 | .int k a,.int _ b=>some (.val (.int k (Bool.rec (motive:=fun _=>Int) (Bool.rec (motive:=fun _=>Int) b a (gn b a)) (Bool.rec (motive:=fun _=>Int) b a (gn a b)) least)) h)
 | _,_=>none
noncomputable def X' (h:H) (x y z:Value):Option R :=
 match x,y,z with
 | .int k a,.int _ b,.int _ c=>some (.val (.int k (Bool.rec (motive:=fun _=>Int) c (Bool.rec (motive:=fun _=>Int) b a (gn a b)) (gn (Bool.rec (motive:=fun _=>Int) b a (gn a b)) c))) h)
 | _,_,_=>none
noncomputable def bq (E:Env) (h:H) (b:Builtin) (ats:Array TypeId) (args:List Value):Option R :=
 match b,args with
 | .append,[s,x]=>(gN ats.toList 0).bind fun st=>append E h st (gN ats.toList 1) s x
 | .copy,[d,s]=>(gN ats.toList 0).bind fun st=>copyV E h st d s
 | .len,[x]=>(gN ats.toList 0).bind fun t=>(E.under t).bind fun u=>match u,x with
  | .string,.string s=>some (.val (.int .i64 (len s.data.toList)) h)
  | .array n _,_=>some (.val (.int .i64 n) h)
  | .slice _,.slice _ n _=>some (.val (.int .i64 n) h)
  | _,_=>none
 | .unsafeSliceData,[x]=>sx h x
 | .min,[x,y]=>zq h true x y
 | .max,[x,y]=>zq h false x y
 | .min,[x,y,z]=>X' h x y z
 | .unsafeString,[p,n]=>pg E h ats.toList p n
 | _,_=>none
noncomputable def AaE (E:Env) (h:H) (ρ:Operand->Value) (x:Operand):Option R :=
 some (.val (ρ x) h)
noncomputable def U7 (E:Env) (h:H) (ρ:Operand->Value) (x:Operand):Option R :=
 some (.val (ρ x) h)
noncomputable def Yg:Value->Option Bool | .bool b=>some b | _=>none
noncomputable def xw (E:Env) (h:H) (ρ:Operand->Value) (c a b:Operand):Option R :=
 (Yg (ρ c)).bind fun t=>some (.val (Bool.rec (motive:=fun _=>Value) (ρ b) (ρ a) t) h)
noncomputable def CW (E:Env) (h:H) (ρ:Operand->Value) (e:TypeId):Option R :=
 (E.cz e).bind fun z=>some (.val (li h) (newRow h e z 0))
noncomputable def Mq (E:Env) (h:H) (ρ:Operand->Value) (e:TypeId) (x:Operand):Option R :=
 (cells (ρ x)).bind fun c=>some (.val (li h) (newRow h e c 0))
noncomputable def Ed (E:Env) (fs:List Field):Option Unit:=List.rec (motive:=fun _=>Option Unit) (some ()) (fun f _ j=>(E.size f.type).bind fun _=>j) fs
noncomputable def qI (E:Env) (h:H) (ρ:Operand->Value) (t:TypeId) (parts:Array (Nat × Operand)):Option R :=
 (E.cz t).bind fun z=>(E.under t).bind fun u=>match u with
 | .struct fields=>(Ed E fields.toList).bind fun _=>(HZ E fields z (FN ρ parts.toList)).bind fun c=>some (.val (.agg ⟨c⟩) h)
 | .array _ e=>(E.size e).bind fun s=>(xS s z (FN ρ parts.toList)).bind fun c=>some (.val (.agg ⟨c⟩) h)
 | _=>none
noncomputable def ma (E:Env) (h:H) (ρ:Operand->Value) (t:TypeId) (len:Nat) (parts:Array (Nat × Operand)):Option R :=
 (E.under t).bind fun u=>match u with
 | .slice e=>(E.size e).bind fun s=>(E.cz e).bind fun z=>(xS s (dZ z len) (FN ρ parts.toList)).bind fun c =>
  bif Nat.ble (len * s) 16777216&&Nat.beq (X.len z) s then some (.val (.slice (some ⟨h.next,0,none⟩) len len) (newRow h e c 0)) else none
 | _=>none
noncomputable def Ab (E:Env) (h:H) (ρ:Operand->Value) (t:TypeId) (a:Operand):Option R :=
 (addrOf (ρ a)).bind fun a=>lit (loadVar E h t a) h
noncomputable def zw (E:Env) (h:H) (ρ:Operand->Value) (t:TypeId) (a x:Operand):Option R :=
 (addrOf (ρ a)).bind fun a=>(storeVar E h t a (ρ x)).map fun h=>.val undef h
noncomputable def eT (E:Env) (h:H) (ρ:Operand->Value) (x:Operand):Option R :=
 match ρ x with
 | .pointer (some a)=>some (.val (.pointer (some a)) h)
 | .iface t v=>some (.val (.iface t v) h)
 | .func (.func f) first c=>some (.val (.func (.func f) first c) h)
 | .func (.yield f) first c=>some (.val (.func (.yield f) first c) h)
 | _=>none
noncomputable def zz (E:Env) (h:H) (ρ:Operand->Value) (op:BinOp) (t:TypeId) (x y:Operand):Option R :=
 lit (binOp E op t (ρ x) (ρ y)) h
noncomputable def CX (E:Env) (h:H) (ρ:Operand->Value) (op:UnOp) (x:Operand):Option R :=
 lit (unOp op (ρ x)) h
noncomputable def DS (E:Env) (h:H) (j:TypeDesc) (p:Option Addr):Option Value :=
 match j,p with
 | .pointer _,none=>some (.pointer none)
 | .pointer t,some a=>(E.size t).bind fun s=>(h.row a.block).bind fun x=>bif Nat.blt 0 s&&Nat.blt a.off (len x.cs) then some (.pointer (some a)) else none
 | _,_=>none
noncomputable def J9 (E:Env) (h:H) (j:TypeDesc) (u:TypeId) (p:Option Addr):Option Value :=
 match j,p with
 | .unsafePointer,none=>some (.pointer none)
 | .unsafePointer,some a=>(E.size u).bind fun s=>(h.row a.block).bind fun x =>
  bif Nat.blt 0 s&&Nat.beq x.osz 0&&Nat.beq x.elem u&&Nat.beq (Nat.mod a.off s) 0&&Nat.ble (a.off+s) (len x.cs) then some (.pointer (some a)) else none
 | _,_=>none
noncomputable def pn (E:Env) (h:H) (ρ:Operand->Value) (s d:TypeId) (x:Operand):Option R :=
 (E.under s).bind fun j=>(E.under d).bind fun C=>match C,ρ x with
 | .int k,.int _ n=>some (.val (.int k (mS k n)) h)
 | .string,.string b=>some (.val (.string b) h)
 | .slice e,.string b=>(E.under e).bind fun o=>match o with
  | .int .u8=>some (.val (.slice (some ⟨h.next,0,none⟩) (len b.data.toList) (len b.data.toList)) (newRow h e (eN b.data.toList) 1))
  | _=>none
 | .string,.slice a n c=>match j with
  | .slice e=>(E.under e).bind fun o=>match o with
   | .int .u8=>(cV h 1 n (.slice a n c)).bind fun cs=>(bytesOf cs).bind fun bs=>some (.val (.string ⟨⟨bs⟩⟩) h)
   | _=>none
  | _=>none
 | .unsafePointer,.pointer p=>lit (DS E h j p) h
 | .pointer u,.pointer p=>lit (J9 E h j u p) h
 | _,_=>none
noncomputable def dB (E:Env) (h:H) (ρ:Operand->Value) (t:TypeId) (x:Operand):Option R :=
 (E.under t).bind fun u=>match u with | .interface _=>none | _=>some (.val (.iface t (ρ x)) h)
def Mr:Fn->Bool | .func _=>true | .method _=>true | _=>false
noncomputable def jc (E:Env) (h:H) (ρ:Operand->Value) (fn:Fn) (first captured:Array Operand):Option R :=
 bif Mr fn then some (.val (.func fn ⟨lK ρ first.toList⟩ ⟨lK ρ captured.toList⟩) h) else none
noncomputable def tw (E:Env) (h:H) (ρ:Operand->Value) (r:Option Operand):Option R :=
 match r with | none=>some (.val (.map (some h.next)) (h.new (.map [] 0))) | some _=>none
noncomputable def oi (E:Env) (h:H) (ρ:Operand->Value) (t:TypeId) (l c:Operand):Option R :=
 (E.under t).bind fun u=>match u,ρ l,ρ c with
 | .slice e,.int _ (.ofNat l),.int _ (.ofNat c)=>(E.dO e).bind fun i=>(E.cz e).bind fun z =>
  bif Nat.ble l c&&Nat.ble (i.bytes * c) 1099511627776&&Nat.ble c 1099511627776&&Nat.beq (len z) i.size then
   some (.val (.slice (some ⟨h.next,0,none⟩) l c) (newRow h e (dZ z c) 0))
  else none
 | _,_,_=>none
noncomputable def zA (E:Env) (h:H) (ρ:Operand->Value) (t:TypeId) (x:Operand) (lo hi mx:Option Operand):Option R :=
 lit (aO E h t (ρ x) (zm ρ lo) (zm ρ hi) (zm ρ mx)) h
noncomputable def gP (E:Env) (h:H) (ρ:Operand->Value) (s:TypeId) (x:Operand) (f:Nat):Option R :=
 (E.under s).bind fun u=>match u with
 | .struct fields=>(gN fields.toList f).bind fun fd=>(addrOf (ρ x)).bind fun a=>(E.size fd.type).bind fun sz =>
  bif Nat.beq sz 0 then none else some (.val (.pointer (some (nE a fd.offset))) h)
 | _=>none
noncomputable def qJ (E:Env) (h:H) (ρ:Operand->Value) (t:TypeId) (x:Operand) (f:Nat):Option R :=
 (E.under t).bind fun u=>match u,ρ x with
 | .struct fields,.agg cs=>(gN fields.toList f).bind fun fd=>lit (part E fd.type cs.toList fd.offset) h
 | _,_=>none
noncomputable def gQ (E:Env) (h:H) (ρ:Operand->Value) (t:TypeId) (x ix:Operand):Option R :=
 (E.under t).bind fun u=>match u,ρ x,ρ ix with
 | .array len e,.pointer (some a),.int _ (.ofNat i)=>(E.size e).bind fun s=>bif Nat.blt i len then some (.val (.pointer (some (nE a (i * s)))) h) else none
 | .slice e,.slice (some a) len _,.int _ (.ofNat i)=>(E.size e).bind fun s=>bif Nat.blt i len then some (.val (.pointer (some (nE a (i * s)))) h) else none
 | _,_,_=>none
noncomputable def qK (E:Env) (h:H) (ρ:Operand->Value) (t:TypeId) (x ix:Operand):Option R :=
 (E.under t).bind fun u=>match u,ρ x,ρ ix with
 | .array len e,.agg cs,.int _ (.ofNat i)=>(E.size e).bind fun s=>bif Nat.blt i len then lit (part E e cs.toList (i * s)) h else none
 | .string,.string s,.int _ (.ofNat i)=>(Mo s.data.toList i).bind fun b=>some (.val (.int .u8 b.toNat) h)
 | _,_,_=>none
noncomputable def Ac (E:Env) (h:H) (ρ:Operand->Value) (t:TypeId) (x ix:Operand) (ok:Bool):Option R :=
 (E.under t).bind fun u=>match u with
 | .map j o=>(mapOf h (ρ x)).bind fun m=>(X_ E j (ρ ix)).bind fun _=>(SS E j (ρ ix) m.1 0).bind fun r=>match r with
  | some q=>some (.val (match ok with | true=>.tuple ⟨[q.2,.bool true]⟩ | false=>q.2) h)
  | none=>(E.zero o).bind fun z=>some (.val (match ok with | true=>.tuple ⟨[z,.bool false]⟩ | false=>z) h)
 | _=>none
noncomputable def xx (E:Env) (h:H) (ρ:Operand->Value) (t:TypeId) (m k x:Operand):Option R :=
 (E.under t).bind fun u=>match u,ρ m with
 | .map j _,.map (some r)=>(mapOf h (.map (some r))).bind fun m=>(X_ E j (ρ k)).bind fun _=>(SS E j (ρ k) m.1 0).bind fun q=>match q with
  | some q=>(Ado m.1 q.1).bind fun e=>bif sameKey e.key (ρ k) then some (.val undef (h.put r (.map (Adn m.1 q.1 (ρ k) (ρ x)) m.2))) else none
  | none=>some (.val undef (h.put r (.map (m.1++[{ key:=ρ k,val:=ρ x,born:=m.2 }]) (m.2+1))))
 | _,_=>none
noncomputable def BC (E:Env) (h:H) (t:TypeId) (x:Value):Option (Value × H) :=
 (E.under t).bind fun u=>match u,x with
 | .string,.string s=>some (.pointer (some ⟨h.next,0,none⟩),h.new (.iter s 0))
 | _,_=>none
noncomputable def EV (h:H) (b:Nat) (s:ByteArray) (pos:Nat):Value × H :=
 bif Nat.blt pos (len s.data.toList) then (.tuple ⟨[.bool true,.int .i64 pos,.int .i32 (Utf8.decode s pos).1]⟩,h.put b (.iter s (pos+(Utf8.decode s pos).2))) else (.tuple ⟨[.bool false]⟩,h)
noncomputable def EU (h:H) (it:Value) (j:Bool):Option (Value × H) :=
 match it,j with
 | .pointer (some ⟨b,0,none⟩),true=>match h.get b with
  | some (.iter s pos)=>some (EV h b s pos)
  | _=>none
 | _,_=>none
noncomputable def H0 (E:Env) (h:H) (ρ:Operand->Value) (t:TypeId) (x:Operand):Option R:=(BC E h t (ρ x)).map fun r=>.val r.1 r.2
noncomputable def Ms (h:H) (ρ:Operand->Value) (it:Operand) (j:Bool):Option R:=(EU h (ρ it) j).map fun r=>.val r.1 r.2
noncomputable def Zk (E:Env) (h:H) (ρ:Operand->Value) (x:Operand) (asserted:TypeId) (ok:Bool):Option R :=
 (E.under asserted).bind fun u=>match u,ρ x with
 | .interface _,_=>none
 | _,.iface t y=>bif Nat.beq t asserted then some (.val (match ok with | true=>.tuple ⟨[y,.bool true]⟩ | false=>y) h)
  else match ok with | true=>(E.zero asserted).bind fun z=>some (.val (.tuple ⟨[z,.bool false]⟩) h) | false=>none
 | _,_=>none
noncomputable def fV (E:Env) (h:H) (ρ:Operand->Value) (t:Operand) (ix:Nat):Option R :=
 match ρ t with | .tuple vs=>lit (nth vs.toList ix) h | _=>none
noncomputable def Ad (E:Env) (h:H) (ρ:Operand->Value) (c:Call):Option R :=
 match c.callee with
 | .builtin b=>bq E h b c.argTypes (lK ρ c.args.toList)
 | .value f=>match ρ f with
  | .func fn first captured=>mK E h fn captured.toList (cW first.toList (lK ρ c.args.toList))
  | _=>none
 | .invoke x name=>match ρ x with
  | .iface t v=>(SV E t name).bind fun f=>vm E h f (v :: lK ρ c.args.toList)
  | _=>none
noncomputable def Kz (o:Op):Env->H->(Operand->Value)->Option R :=
 Op.rec (motive:=fun _=>Env->H->(Operand->Value)->Option R)
  (fun x E h ρ=>AaE E h ρ x)
  (fun x E h ρ=>U7 E h ρ x)
  (fun c a b E h ρ=>xw E h ρ c a b)
  (fun e E h ρ=>CW E h ρ e)
  (fun e x E h ρ=>Mq E h ρ e x)
  (fun t parts E h ρ=>qI E h ρ t parts)
  (fun t len parts E h ρ=>ma E h ρ t len parts)
  (fun _ _ _ _ _ _ _=>none)
  (fun t a E h ρ=>Ab E h ρ t a)
  (fun t a x E h ρ=>zw E h ρ t a x)
  (fun _ _ _ _=>none)
  (fun _ _ _ _=>none)
  (fun x E h ρ=>eT E h ρ x)
  (fun op t x y _ E h ρ=>zz E h ρ op t x y)
  (fun op _ x E h ρ=>CX E h ρ op x)
  (fun s d x E h ρ=>pn E h ρ s d x)
  (fun _ _ _ _ _=>none)
  (fun t x E h ρ=>dB E h ρ t x)
  (fun fn first captured E h ρ=>jc E h ρ fn first captured)
  (fun _ r E h ρ=>tw E h ρ r)
  (fun _ _ _ _ _=>none)
  (fun t l c E h ρ=>oi E h ρ t l c)
  (fun t x lo hi mx E h ρ=>zA E h ρ t x lo hi mx)
  (fun s x f E h ρ=>gP E h ρ s x f)
  (fun t x f E h ρ=>qJ E h ρ t x f)
  (fun t x ix E h ρ=>gQ E h ρ t x ix)
  (fun t x ix E h ρ=>qK E h ρ t x ix)
  (fun t x ix ok E h ρ=>Ac E h ρ t x ix ok)
  (fun t m k x E h ρ=>xx E h ρ t m k x)
  (fun _ _ _ _ _ _=>none)
  (fun _ _ _ _ _ _ _=>none)
  (fun t x E h ρ=>H0 E h ρ t x)
  (fun it s _ h ρ=>Ms h ρ it s)
  (fun _ _ _ _=>none)
  (fun _ _ _ _ _ _ _=>none)
  (fun t ix E h ρ=>fV E h ρ t ix)
  (fun c E h ρ=>Ad E h ρ c)
  (fun _ _ _ _=>none)
  (fun _ _ _ _=>none)
  (fun _ _ _ _=>none)
  (fun _ _ _ _ _=>none)
  (fun _ _ _ _ _ _=>none)
  (fun _ _ _ _ _=>none)
  o
structure St where
 tmps:B
 xy:List Nat
 h:H
inductive AE where
 | normal | exit (id:Nat) | goto (l:Nat) | ret
noncomputable def aI (l:List Value):Nat->Value :=
 List.rec (motive:=fun _=>Nat->Value) (fun _=>undef) (fun v _ j n=>Nat.rec (motive:=fun _=>Value) v (fun n _=>j n) n) l
noncomputable def evO (x:Operand):B->Value :=
 Operand.rec (motive:=fun _=>B->Value) (fun t b=>b.get t) (fun v _=>X7 v) (fun _ _=>Aj) (fun f _=>.func (.func f) #[] #[]) x
noncomputable def ev (tmps:B) (x:Operand):Value:=evO x tmps
noncomputable def nr (tmps:B) (d:Option Tmp) (v:Value):B:=Option.rec (motive:=fun _=>B->Value->B) (fun b _=>b) (fun t b v=>b.set t v) d tmps v
noncomputable def Adq (j:Bool):Value->Option Bool
 | .bool b=>some (Bool.rec (motive:=fun _=>Bool) (!j) j b)
 | .tuple _=>some false
 | _=>none
noncomputable def cr (ops:Array Oper) (tmps:B) (o:Oper):Option Bool :=
 match o.guard with
 | none=>some true
 | some (j,p)=>match (gN ops.toList j).bind (·.dst) with
  | some d=>Adq p (tmps.get d)
  | none=>some false
noncomputable def Afg (h:H) (args:List Value):Option (Value × H) :=
 match args with
 | [.pointer (some a),.int _ (.ofNat _)] =>
  (loadCells h a 2).bind fun cs=>match cs with
  | [j,.slice base l c] =>
   bif (match j with | .pointer none=>true | .pointer (some b)=>Nat.beq b.block a.block&&Nat.beq b.off a.off | _=>false) then
    (cV h 1 l (.slice base l c)).bind fun cK =>
    let h:=match base with | some b=>h.del b.block | none=>h
    let q:Addr:=⟨h.next,0,none⟩
    (storeCells (newRow h 5 cK 1) a [.pointer (some a),.slice (some q) l l]).map fun h=>(.tuple #[],h)
   else none
  | _=>none
 | _=>none
inductive Task where
 | exec (R:Option Nat) (fn:FuncId) (c:Code) (st:St)
 | scope (R:Option Nat) (fn:FuncId) (b c:Code) (st:St)
 | region (ops:Array Oper) (rest:List Oper) (st:St)
 /-- a region Uo AhF its order: behind operation i;DB places laid ahead;DB AhG ahead of DB SX Ahb;DB SY Ahb -/
 | drawn (ops:Array Oper) (rest:List Oper) (i:Nat) (al:List (Nat × Nat)) (cB:List (Nat × H)) (bQ:List (Nat × Oper × B × Value)) (st:St)
 | call (f:FuncId) (args:List Value) (h:H)
 | round (l:Nat) (args:List Value) (h:H)
inductive ik where
 | a (e:AE) (st:St)
 | v (v:Value) (h:H)
noncomputable def kZ:B->List Tmp->List Value->B
 | ts,p :: ps,a :: zQq=>kZ (ts.set p a) ps zQq
 | ts,_,_=>ts
noncomputable def mr (E:Env) (st:St):List ResultVar->Option (List Value)
 | []=>some []
 | .tmp t :: l=>(mr E st l).map (st.tmps.get t :: ·)
 | .cell a t :: l=>(addrOf (st.tmps.get a)).bind fun a=>(loadVar E st.h t a).bind fun v=>(mr E st l).map (v :: ·)
abbrev IH:=Task->Option ik
noncomputable def Afh (j:IH) (R:Option Nat) (fn:FuncId) (b:Code):ik->Option ik
 | .a .normal st=>j (.exec R fn b st)
 | r=>some r
noncomputable def Yj (id:Nat):ik->Option ik
 | .a (.exit k) st=>some (.a (bif Nat.beq k id then .normal else .exit k) st)
 | r=>some r
noncomputable def AbD (j:IH) (R:Option Nat) (fn:FuncId) (b:Code):ik->Option ik
 | .a .normal st=>j (.exec R fn (.loop b) st)
 | r=>some r
noncomputable def Yo (j:IH) (R:Option Nat) (fn:FuncId) (b:Code):ik->Option ik
 | .a (.goto l) st=>match findLabel b l with
  | some rest=>j (.scope R fn b rest st)
  | none=>some (.a (.goto l) st)
 | r=>some r
noncomputable def AbE (j:IH) (R:Option Nat) (fn:FuncId) (a b:Code) (st:St):Value->Option ik
 | .bool true=>j (.exec R fn a st)
 | .bool false=>j (.exec R fn b st)
 | _=>none
def Mt:LoopState->Option Unit | .busy=>none | _=>some ()
noncomputable def endLoop (st:St) (l:Nat) (h:H):Option kJ->Option ik
 | some (.loop s bQ j tm ps zQq bd d) =>
  (Mt s).bind fun _ =>
  let st:St:=⟨st.tmps,st.xy,h.del l⟩
  match bQ with
  | none=>some (.a .normal st)
  | some .ret=>some (.a .ret st)
  | some (.exit id)=>some (.a (.exit id) st)
  | some (.goto l)=>some (.a (.goto l) st)
  | _=>none
 | _=>none
noncomputable def Yp (st:St) (l:Nat):ik->Option ik
 | .v _ h=>endLoop st l h (h.get l)
 | _=>none
noncomputable def KB (j:IH) (h:H):R->Option ik
 | .enter f args=>j (.call f args h)
 | _=>none
noncomputable def SZ (E:Env) (j:IH) (st:St) (l:Nat) (h:H):Value->Option ik
 | .func g first captured =>
  ((mK E h g captured.toList (cW first.toList [Value.func (.yield l) #[] #[]])).bind (KB j h)).bind (Yp st l)
 | _=>none
noncomputable def j6 (st:St) (params:Array Tmp) (assign body:Code):H:=st.h.new (.loop .ready none 0 st.tmps params.toList assign body 0)
noncomputable def U8 (E:Env) (j:IH) (f:Operand) (params:Array Tmp) (assign body:Code) (st:St):Option ik :=
 SZ E j st st.h.next (j6 st params assign body) (ev st.tmps f)
noncomputable def xz:Option Addr->Option Addr->Bool
 | none,none=>true
 | some ⟨b,o,none⟩,some ⟨b',j,none⟩=>Nat.beq b b'&&Nat.beq o j
 | _,_=>false
noncomputable def Ee:Option Nat->Option Nat->Bool
 | none,none=>true
 | some a,some b=>Nat.beq a b
 | _,_=>false
noncomputable def U9:Value->Value->Bool
 | .bool a,.bool b=>a == b
 | .int k a,.int k' b=>uD k k'&&cx a b
 | .string a,.string b=>dU a.data.toList b.data.toList
 | .pointer a,.pointer b=>xz a b
 | .slice a l c,.slice j l' o=>xz a j&&Nat.beq l l'&&Nat.beq c o
 | .map a,.map b=>Ee a b
 | .nilFunc,.nilFunc=>true
 | .nilIface,.nilIface=>true
 | .func (.func f) ⟨[]⟩ ⟨[]⟩,.func (.func g) ⟨[]⟩ ⟨[]⟩=>Nat.beq f g
 | .tuple ⟨[]⟩,.tuple ⟨[]⟩=>true
 | _,_=>false
noncomputable def ON (a:List Value):List Value->Bool :=
 List.rec (motive:=fun _=>List Value->Bool) (fun b=>List.casesOn (motive:=fun _=>Bool) b true (fun _ _=>false))
  (fun v _ j b=>List.casesOn (motive:=fun _=>Bool) b false (fun u b=>U9 v u&&j b)) a
noncomputable def Adr:Value->Value->Bool
 | .agg a,.agg b=>ON a.toList b.toList
 | .tuple a,.tuple b=>ON a.toList b.toList
 | .iface t a,.iface u b=>Nat.beq t u&&U9 a b
 | .func (.func f) a c,.func (.func g) b d=>Nat.beq f g&&ON a.toList b.toList&&ON c.toList d.toList
 | a,b=>U9 a b
noncomputable def Ads:Builtin->Nat | .len=>0 | _=>2
noncomputable def Afi:Callee->Nat | .builtin b=>Ads b | _=>2
noncomputable def Afj:Option TypeDesc->Nat | some (.slice _)=>2 | none=>2 | _=>0
noncomputable def oE (E:Env):Op->Nat
 | .move _ | .assign _ | .pick .. | .build .. | .nilCheck _ | .binOp .. | .unOp .. | .makeInterface .. | .makeFunc .. | .slice .. | .fieldAddr .. | .field .. | .indexAddr .. | .index .. | .typeAssert .. | .extract .. | .load .. | .lookup ..=>0
 | .convert _ d _=>Afj (E.under d)
 | .alloc _=>1
 | .call c=>Afi c.callee
 | _=>2
noncomputable def Yq (l:List Operand):List Nat :=
 List.rec (motive:=fun _=>List Nat) [] (fun x _ j=>Operand.rec (motive:=fun _=>List Nat) (fun t=>t :: j) (fun _=>j) (fun _=>j) (fun _=>j) x) l
noncomputable def AaF (o:Option Nat) (l:List Nat):List Nat:=Option.rec (motive:=fun _=>List Nat) l (fun t=>t :: l) o
noncomputable def Yr (ops:List Oper):Option (Nat × Bool)->Option Nat
 | none=>none
 | some (j,_)=>(gN ops j).bind (·.dst)
noncomputable def iA (ops:List Oper) (o:Oper):List Nat:=AaF o.dst (AaF (Yr ops o.guard) (Yq o.op.operands.toList))
noncomputable def inO (t:Option Nat) (l:List Nat):Bool:=Option.rec (motive:=fun _=>Bool) false (fun t=>A0 t l) t
noncomputable def bit (m i:Nat):Bool:=Nat.beq (Nat.mod (Nat.shiftRight m i) 2) 1
noncomputable def QM (ps:List Nat) (i:Nat) (es:List Edge):Option Nat :=
 List.rec (motive:=fun _=>Option Nat) (some 0)
  (fun e _ j=>Bool.rec (motive:=fun _=>Option Nat) j
   (Bool.rec (motive:=fun _=>Option Nat) none (j.bind fun m=>(gN ps e.on).bind fun p=>some (Nat.lor m (Nat.lor (Nat.shiftLeft 1 e.on) p))) (Nat.blt e.on i))
   (Region.binds .any e)) es
noncomputable def QN (l:List Oper):List Nat->Nat->Option (List Nat) :=
 List.rec (motive:=fun _=>List Nat->Nat->Option (List Nat)) (fun ps _=>some ps)
  (fun o _ j ps i=>(QM ps i o.after.toList).bind fun m=>j (cW ps [m]) (Nat.add i 1)) l
noncomputable def Ahc (ops:List Oper):Option (List Nat):=QN ops [] 0
noncomputable def BI (E:Env) (ops:List Oper) (p:Nat) (o:Oper) (l:List Oper):Nat->Bool :=
 List.rec (motive:=fun _=>Nat->Bool) (fun _=>true)
  (fun q _ C j=>Bool.rec (motive:=fun _=>Bool)
   (Bool.rec (motive:=fun _=>Bool) (C (Nat.add j 1)) false (inO q.dst (iA ops o)||inO o.dst (iA ops q)||(Nat.beq (oE E q.op) 2&&Nat.beq (oE E o.op) 2)))
   (C (Nat.add j 1)) (bit p j)) l
noncomputable def Mu (E:Env) (ops:List Oper) (l:List Oper):List Oper->List Nat->Bool :=
 List.rec (motive:=fun _=>List Oper->List Nat->Bool) (fun _ _=>true)
  (fun o _ j ahead ps=>List.casesOn (motive:=fun _=>Bool) ps false (fun p ps=>BI E ops p o ahead 0&&j (cW ahead [o]) ps)) l
noncomputable def vn (E:Env) (ops:List Oper):Option (List Nat) :=
 (Ahc ops).bind fun ps=>Bool.rec (motive:=fun _=>Option (List Nat)) none (some ps) (Mu E ops ops [] ps)
noncomputable def fW (E:Env) (l:List Oper):Nat->H->List (Nat × Nat)->Option (H × List (Nat × Nat)) :=
 List.rec (motive:=fun _=>Nat->H->List (Nat × Nat)->Option (H × List (Nat × Nat))) (fun _ h al=>some (h,al))
  (fun o _ j i h al=>match o.op with
   | .alloc e=>(E.cz e).bind fun z=>j (Nat.add i 1) (newRow h e z 0) ((i,h.next) :: al)
   | _=>j (Nat.add i 1) h al) l
noncomputable def dw:R->Option Value | .val v _=>some v | _=>none
noncomputable def ss (E:Env) (h:H) (b:Nat):Op->Option Value
 | .alloc e=>(E.cz e).bind fun z=>(h.row b).bind fun x =>
  Bool.rec (motive:=fun _=>Option Value) none (some (.pointer (some ⟨b,0,none⟩))) (ON x.cs z&&Nat.beq x.elem e&&Nat.beq x.osz 0&&Nat.beq x.ib 0&&!x.ro)
 | _=>none
noncomputable def Av (E:Env) (al:List (Nat × Nat)) (i:Nat) (o:Oper) (tmps:B) (h:H):Option Value :=
 Bool.rec (motive:=fun _=>Option Value) ((h_ i al).bind fun b=>ss E h b o.op) ((Kz o.op E h (ev tmps)).bind dw) (Nat.beq (oE E o.op) 0)
noncomputable def Ae (E:Env) (al:List (Nat × Nat)) (i:Nat) (o:Oper) (tmps:B) (v:Value) (h:H):Bool :=
 Option.rec (motive:=fun _=>Bool) false (fun u=>Adr u v) (Av E al i o tmps h)
noncomputable def Mv (E:Env) (al:List (Nat × Nat)) (p i:Nat) (o:Oper) (tmps:B) (v:Value) (cB:List (Nat × H)):Bool :=
 List.rec (motive:=fun _=>Bool) true (fun x _ j=>(bit p x.1||Ae E al i o tmps v x.2)&&j) cB
noncomputable def Mw (E:Env) (al:List (Nat × Nat)) (p:Nat) (h:H) (bQ:List (Nat × Oper × B × Value)):Bool :=
 List.rec (motive:=fun _=>Bool) true (fun x _ j=>(bit p x.1||Ae E al x.1 x.2.1 x.2.2.1 x.2.2.2 h)&&j) bQ
noncomputable def QO (E:Env) (j:IH) (ops:Array Oper) (rest:List Oper) (i p:Nat) (al:List (Nat × Nat)) (cB:List (Nat × H)) (bQ:List (Nat × Oper × B × Value)) (dst:Option Tmp) (st:St) (v:Value) (h:H):Option ik :=
 Bool.rec (motive:=fun _=>Option ik) none (j (.drawn ops rest (Nat.add i 1) al ((i,st.h) :: cB) bQ ⟨nr st.tmps dst v,st.xy,h⟩)) (Mw E al p h bQ)
noncomputable def Mx (E:Env) (j:IH) (ops:Array Oper) (rest:List Oper) (i p:Nat) (al:List (Nat × Nat)) (cB:List (Nat × H)) (bQ:List (Nat × Oper × B × Value)) (dst:Option Tmp) (st:St):ik->Option ik
 | .v v h=>QO E j ops rest i p al cB bQ dst st v h
 | _=>none
noncomputable def Yt (E:Env) (j:IH) (ops:Array Oper) (rest:List Oper) (i p:Nat) (al:List (Nat × Nat)) (cB:List (Nat × H)) (bQ:List (Nat × Oper × B × Value)) (dst:Option Tmp) (st:St):R->Option ik
 | .val v h=>QO E j ops rest i p al cB bQ dst st v h
 | .enter f args=>(j (.call f args st.h)).bind (Mx E j ops rest i p al cB bQ dst st)
 | .round l args=>(j (.round l args st.h)).bind (Mx E j ops rest i p al cB bQ dst st)
noncomputable def S0 (E:Env) (j:IH) (ops:Array Oper) (o:Oper) (rest:List Oper) (i p:Nat) (al:List (Nat × Nat)) (cB:List (Nat × H)) (bQ:List (Nat × Oper × B × Value)) (st:St):Option ik :=
 Bool.rec (motive:=fun _=>Option ik)
  ((Av E al i o st.tmps st.h).bind fun v=>Bool.rec (motive:=fun _=>Option ik) none
   (j (.drawn ops rest (Nat.add i 1) al cB ((i,o,st.tmps,v) :: bQ) ⟨nr st.tmps o.dst v,st.xy,st.h⟩)) (Mv E al p i o st.tmps v cB))
  ((Kz o.op E st.h (ev st.tmps)).bind (Yt E j ops rest i p al cB bQ o.dst st))
  (Nat.beq (oE E o.op) 2)
noncomputable def U_ (rest:List Oper) (E:Env) (j:IH) (ops:Array Oper) (i:Nat) (al:List (Nat × Nat)) (cB:List (Nat × H)) (bQ:List (Nat × Oper × B × Value)) (st:St):Option ik :=
 List.casesOn (motive:=fun _=>Option ik) rest (some (.a .normal st)) (fun o rest =>
  (vn E ops.toList).bind fun ps=>(gN ps i).bind fun p =>
  (cr ops st.tmps o).bind fun g=>Bool.rec (motive:=fun _=>Option ik) (j (.drawn ops rest (Nat.add i 1) al cB bQ ⟨nr st.tmps o.dst undef,st.xy,st.h⟩))
   (S0 E j ops o rest i p al cB bQ st) g)
noncomputable def H2 (E:Env) (j:IH) (ops:Array Oper) (st:St):Option ik :=
 (vn E ops.toList).bind fun _=>(fW E ops.toList 0 st.h []).bind fun q=>j (.drawn ops ops.toList 0 q.2 [] [] ⟨st.tmps,st.xy,q.1⟩)
noncomputable def Yu (c:Code):Env->IH->Option Nat->FuncId->St->Option ik :=
 Code.rec (motive:=fun _=>Env->IH->Option Nat->FuncId->St->Option ik)
  (fun _ _ _ _ st=>some (.a .normal st))
  (fun _ ops draw E j _ _ st=>Bool.rec (motive:=fun _=>Option ik) (j (.region ops ops.toList st)) (H2 E j ops st) draw)
  (fun a b _ _ _ j R fn st=>(j (.exec R fn a st)).bind (Afh j R fn b))
  (fun c a b _ _ _ j R fn st=>AbE j R fn a b st (ev st.tmps c))
  (fun id b _ _ j R fn st=>(j (.exec R fn b st)).bind (Yj id))
  (fun b _ _ j R fn st=>(j (.exec R fn b st)).bind (AbD j R fn b))
  (fun f ps zQq bd _ _ E j R _ st=>Option.rec (motive:=fun _=>Option ik) (U8 E j f ps zQq bd st) (fun _=>none) R)
  (fun id _ _ _ _ st=>some (.a (.exit id) st))
  (fun b _ _ j R fn st=>j (.scope R fn b b st))
  (fun _ _ _ _ _ st=>some (.a .normal st))
  (fun l _ _ _ _ st=>some (.a (.goto l) st))
  (fun _ _ _ _ st=>some (.a .ret st))
  (fun _ _ _ _ _ _=>none)
  c
noncomputable def Gi (j:IH) (ops:Array Oper) (rest:List Oper) (dst:Option Tmp) (st:St):ik->Option ik
 | .v v h=>j (.region ops rest ⟨nr st.tmps dst v,st.xy,h⟩)
 | _=>none
noncomputable def AaG (r:R):IH->Array Oper->List Oper->Option Tmp->St->Option ik :=
 R.rec (motive:=fun _=>IH->Array Oper->List Oper->Option Tmp->St->Option ik)
  (fun v h j ops rest dst st=>j (.region ops rest ⟨nr st.tmps dst v,st.xy,h⟩))
  (fun f args j ops rest dst st=>(j (.call f args st.h)).bind (Gi j ops rest dst st))
  (fun l args j ops rest dst st=>(j (.round l args st.h)).bind (Gi j ops rest dst st))
  r
noncomputable def H3 (E:Env) (j:IH) (ops:Array Oper) (o:Oper) (rest:List Oper) (st:St):Option ik :=
 (Kz o.op E st.h (ev st.tmps)).bind fun r=>AaG r j ops rest o.dst st
noncomputable def H4 (E:Env) (j:IH) (ops:Array Oper) (o:Oper) (rest:List Oper) (st:St):Option (Nat × Bool)->Option ik
 | none=>H3 E j ops o rest st
 | some _=>(cr ops st.tmps o).bind fun g=>Bool.rec (motive:=fun _=>Option ik) (j (.region ops rest ⟨nr st.tmps o.dst undef,st.xy,st.h⟩)) (H3 E j ops o rest st) g
noncomputable def H5 (rest:List Oper):Env->IH->Array Oper->St->Option ik :=
 List.rec (motive:=fun _=>Env->IH->Array Oper->St->Option ik)
  (fun _ _ _ st=>some (.a .normal st))
  (fun o rest _ E j ops st=>H4 E j ops o rest st o.guard) rest
noncomputable def cN:List Value->Value
 | [v]=>v
 | vs=>.tuple ⟨vs⟩
noncomputable def Afk (E:Env) (rs:List ResultVar):ik->Option ik
 | .a .normal st=>(mr E st rs).map fun vs=>.v (cN vs) st.h
 | .a .ret st=>(mr E st rs).map fun vs=>.v (cN vs) st.h
 | _=>none
noncomputable def Yv (E:Env) (j:IH) (f:FuncId) (args:List Value) (h:H):Option ik :=
 (E.funcs.get f).bind fun fd=>fd.body.bind fun body =>
  (j (.exec none f body ⟨B.OX args (B.mk (Nat.add (len args) (Nat.add fd.ntmps 1)) (Nat.add (len args) (Nat.sub fd.ntmps (len args)))) 0,[],h⟩)).bind (Afk E fd.results.toList)
noncomputable def H6 (E:Env) (j:IH) (f:FuncId) (args:List Value) (h:H):Option ik :=
 match h_ f E.xs with
 | some k=>match k with
  | 3=>(Afg h args).map fun r=>.v r.1 r.2
  | _=>none
 | none=>Yv E j f args h
noncomputable def O0 (l:Nat) (e:AE) (st:St):Option kJ->Option ik
 | some (.loop _ _ j o p C I J) =>
  match e with
  | .normal=>some (.v (.bool true) (st.h.put l (.loop .ready none j o p C I J)))
  | .ret=>some (.v (.bool false) (st.h.put l (.loop .done (some .ret) j o p C I J)))
  | .exit id=>some (.v (.bool false) (st.h.put l (.loop .done (some (.exit id)) j o p C I J)))
  | .goto g=>some (.v (.bool false) (st.h.put l (.loop .done (some (.goto g)) j o p C I J)))
 | _=>none
noncomputable def S_ (l:Nat):ik->Option ik
 | .a e st=>O0 l e st (st.h.get l)
 | _=>none
noncomputable def S' (J:IH) (l:Nat) (fn:FuncId) (bd:Code) (st:St):Option kJ->Option ik
 | some (.loop .ready pd j o p C I R) =>
  (J (.exec (some l) fn bd ⟨st.tmps,[],st.h.put l (.loop .busy pd j o p C I R)⟩)).bind (S_ l)
 | _=>none
noncomputable def Ta (j:IH) (l:Nat) (fn:FuncId) (bd:Code):ik->Option ik
 | .a .normal st=>S' j l fn bd st (st.h.get l)
 | _=>none
noncomputable def KC (j:IH) (l:Nat) (args:List Value) (h:H):Option kJ->Option ik
 | some (.loop _ _ fn tm ps zQq bd _)=>(j (.exec (some l) fn zQq ⟨kZ tm ps args,[],h⟩)).bind (Ta j l fn bd)
 | _=>none
noncomputable def step (E:Env) (j:IH) (t:Task):Option ik :=
 Task.rec (motive:=fun _=>Env->IH->Option ik)
  (fun R fn c st E j=>Yu c E j R fn st)
  (fun R fn b c st _ j=>(j (.exec R fn c st)).bind (Yo j R fn b))
  (fun ops rest st E j=>H5 rest E j ops st)
  (fun ops rest i al cB bQ st E j=>U_ rest E j ops i al cB bQ st)
  (fun f args h E j=>H6 E j f args h)
  (fun l args h _ j=>KC j l args h (h.get l))
  t E j
noncomputable def run (E:Env) (n:Nat):Task->Option ik :=
 Nat.rec (motive:=fun _=>Task->Option ik) (fun _=>none) (fun _ j t=>step E j t) n
end Go.X
namespace Go.X
open Go
section T
variable {α:Type}
theorem T.Yw (k:Nat):(T.e:T α).get k=none:=rfl
theorem T.vo (v:Option α) (l r:T α) (k:Nat) (h:k % 2=0):(T.n v l r).get (k+1)=l.get (k / 2):=by
 show Bool.rec (motive:=fun _=>Option α) (r.get (Nat.div k 2)) (l.get (Nat.div k 2)) (Nat.beq (Nat.mod k 2) 0)=_
 have:Nat.beq (Nat.mod k 2) 0=true:=by show Nat.beq (k % 2) 0=true;rw[h];rfl
 rw[this];rfl
theorem T.vp (v:Option α) (l r:T α) (k:Nat) (h:k % 2=1):(T.n v l r).get (k+1)=r.get (k / 2):=by
 show Bool.rec (motive:=fun _=>Option α) (r.get (Nat.div k 2)) (l.get (Nat.div k 2)) (Nat.beq (Nat.mod k 2) 0)=_
 have:Nat.beq (Nat.mod k 2) 0=false:=by show Nat.beq (k % 2) 0=false;rw[h];rfl
 rw[this];rfl
theorem T.Adt (f:Nat) (x:Option α):T.set (f+1) T.e 0 x=T.n x T.e T.e:=rfl
theorem T.Adu (f:Nat) (v:Option α) (l r:T α) (x:Option α):T.set (f+1) (T.n v l r) 0 x=T.n x l r:=rfl
theorem T.Adv (f k:Nat) (x:Option α) (h:k % 2=0):T.set (f+1) T.e (k+1) x=T.n none (T.set f T.e (k / 2) x) T.e:=by
 show Bool.rec (motive:=fun _=>T α) (T.n none T.e (T.set f T.e (Nat.div k 2) x)) (T.n none (T.set f T.e (Nat.div k 2) x) T.e) (Nat.beq (Nat.mod k 2) 0)=_
 have:Nat.beq (Nat.mod k 2) 0=true:=by show Nat.beq (k % 2) 0=true;rw[h];rfl
 rw[this];rfl
theorem T.Adw (f k:Nat) (x:Option α) (h:k % 2=1):T.set (f+1) T.e (k+1) x=T.n none T.e (T.set f T.e (k / 2) x):=by
 show Bool.rec (motive:=fun _=>T α) (T.n none T.e (T.set f T.e (Nat.div k 2) x)) (T.n none (T.set f T.e (Nat.div k 2) x) T.e) (Nat.beq (Nat.mod k 2) 0)=_
 have:Nat.beq (Nat.mod k 2) 0=false:=by show Nat.beq (k % 2) 0=false;rw[h];rfl
 rw[this];rfl
theorem T.Adx (f k:Nat) (v:Option α) (l r:T α) (x:Option α) (h:k % 2=0):T.set (f+1) (T.n v l r) (k+1) x=T.n v (T.set f l (k / 2) x) r:=by
 show Bool.rec (motive:=fun _=>T α) (T.n v l (T.set f r (Nat.div k 2) x)) (T.n v (T.set f l (Nat.div k 2) x) r) (Nat.beq (Nat.mod k 2) 0)=_
 have:Nat.beq (Nat.mod k 2) 0=true:=by show Nat.beq (k % 2) 0=true;rw[h];rfl
 rw[this];rfl
theorem T.Ady (f k:Nat) (v:Option α) (l r:T α) (x:Option α) (h:k % 2=1):T.set (f+1) (T.n v l r) (k+1) x=T.n v l (T.set f r (k / 2) x):=by
 show Bool.rec (motive:=fun _=>T α) (T.n v l (T.set f r (Nat.div k 2) x)) (T.n v (T.set f l (Nat.div k 2) x) r) (Nat.beq (Nat.mod k 2) 0)=_
 have:Nat.beq (Nat.mod k 2) 0=false:=by show Nat.beq (k % 2) 0=false;rw[h];rfl
 rw[this];rfl
theorem T.su (f:Nat):∀ (t:T α) (k j:Nat) (x:Option α),k<f->(T.set f t k x).get j=if j=k then x else t.get j:=by
 induction f with
 | zero=>intro t k j x h;omega
 | succ f p =>
  intro t k j x h
  cases k with
  | zero =>
   cases t with
   | e =>
    rw[T.Adt]
    cases j with
    | zero=>rfl
    | succ j =>
     rw[if_neg om,T.Yw]
     rcases Nat.mod_two_eq_zero_or_one j with o | o
     . rw[T.vo _ _ _ _ o,T.Yw]
     . rw[T.vp _ _ _ _ o,T.Yw]
   | n v l r =>
    rw[T.Adu]
    cases j with
    | zero=>rfl
    | succ j =>
     rw[if_neg om]
     rcases Nat.mod_two_eq_zero_or_one j with o | o
     . rw[T.vo _ _ _ _ o,T.vo _ _ _ _ o]
     . rw[T.vp _ _ _ _ o,T.vp _ _ _ _ o]
  | succ k =>
   have hk:k / 2<f:=om
   cases t with
   | e =>
    rcases Nat.mod_two_eq_zero_or_one k with hm | hm
    . rw[T.Adv _ _ _ hm]
      cases j with
      | zero=>rw[if_neg om];rfl
      | succ j =>
       rcases Nat.mod_two_eq_zero_or_one j with o | o
       . rw[T.vo _ _ _ _ o,p _ _ _ _ hk]
         by_cases e:j / 2=k / 2
         . rw[if_pos e,if_pos om]
         . rw[if_neg e,if_neg om];rfl
       . rw[T.vp _ _ _ _ o,if_neg om];rfl
    . rw[T.Adw _ _ _ hm]
      cases j with
      | zero=>rw[if_neg om];rfl
      | succ j =>
       rcases Nat.mod_two_eq_zero_or_one j with o | o
       . rw[T.vo _ _ _ _ o,if_neg om];rfl
       . rw[T.vp _ _ _ _ o,p _ _ _ _ hk]
         by_cases e:j / 2=k / 2
         . rw[if_pos e,if_pos om]
         . rw[if_neg e,if_neg om];rfl
   | n v l r =>
    rcases Nat.mod_two_eq_zero_or_one k with hm | hm
    . rw[T.Adx _ _ _ _ _ _ hm]
      cases j with
      | zero=>rw[if_neg om];rfl
      | succ j =>
       rcases Nat.mod_two_eq_zero_or_one j with o | o
       . rw[T.vo _ _ _ _ o,T.vo _ _ _ _ o,p _ _ _ _ hk]
         by_cases e:j / 2=k / 2
         . rw[if_pos e,if_pos om]
         . rw[if_neg e,if_neg om]
       . rw[T.vp _ _ _ _ o,T.vp _ _ _ _ o,if_neg om]
    . rw[T.Ady _ _ _ _ _ _ hm]
      cases j with
      | zero=>rw[if_neg om];rfl
      | succ j =>
       rcases Nat.mod_two_eq_zero_or_one j with o | o
       . rw[T.vo _ _ _ _ o,T.vo _ _ _ _ o,if_neg om]
       . rw[T.vp _ _ _ _ o,T.vp _ _ _ _ o,p _ _ _ _ hk]
         by_cases e:j / 2=k / 2
         . rw[if_pos e,if_pos om]
         . rw[if_neg e,if_neg om]
end T
section lists
variable {α β:Type}
theorem br (l:List α):len l=l.length:=by
 induction l with
 | nil=>rfl
 | cons a l j=>show Nat.add (len l) 1=_;rw[j];rfl
theorem dF (l r:List α):cW l r=l++r:=by
 induction l with
 | nil=>rfl
 | cons a l j=>show a :: cW l r=_;rw[j];rfl
theorem Tb (f:α->β) (l:List α):JC f l=l.map f:=by
 induction l with
 | nil=>rfl
 | cons a l j=>show f a :: JC f l=_;rw[j];rfl
theorem fD (l:List α):∀ n,gN l n=l[n]?:=by
 induction l with
 | nil=>intro n;rfl
 | cons a l j=>intro n;cases n with
  | zero=>rfl
  | succ n=>show gN l n=_;rw[j];rfl
theorem DV (l:List Value):∀ n,nth l n=l[n]?:=by
 induction l with
 | nil=>intro n;rfl
 | cons a l j=>intro n;cases n with
  | zero=>rfl
  | succ n=>show nth l n=_;rw[j];rfl
theorem Tc (l:List UInt8):∀ n,Mo l n=l[n]?:=by
 induction l with
 | nil=>intro n;rfl
 | cons a l j=>intro n;cases n with
  | zero=>rfl
  | succ n=>show Mo l n=_;rw[j];rfl
theorem GG (l:List UInt8):∀ n,Cc l n=l.take n:=by
 induction l with
 | nil=>intro n;cases n <;> rfl
 | cons a l j=>intro n;cases n with
  | zero=>rfl
  | succ n=>show a :: Cc l n=_;rw[j];rfl
theorem Nq (l:List UInt8):∀ n,Np l n=l.drop n:=by
 induction l with
 | nil=>intro n;cases n <;> rfl
 | cons a l j=>intro n;cases n with
  | zero=>rfl
  | succ n=>show Np l n=_;rw[j];rfl
theorem qg (n:Nat):∀ l,mT n l=l.drop n:=by
 induction n with
 | zero=>intro l;rfl
 | succ n j=>intro l;cases l with
  | nil=>rfl
  | cons a l=>show mT n l=_;rw[j];rfl
theorem CY (n:Nat):∀ l r,takeN n l=some r->r=l.take n/\n<=l.length:=by
 induction n with
 | zero=>intro l r h;cases h;exact⟨rfl,Nat.zero_le _⟩
 | succ n j =>
  intro l r h
  cases l with
  | nil=>cases h
  | cons a l =>
   have h':Option.rec (motive:=fun _=>Option (List Value)) none (fun r=>some (a :: r)) (takeN n l)=some r:=h
   cases e:takeN n l with
   | none=>rw[e] at h';cases h'
   | some q =>
    rw[e] at h'
    obtain⟨o,h2⟩:=j l q e
    cases h'
    exact⟨by rw[o];rfl,so⟩
theorem U' (c:List Value):∀ vs:List Value,vs.length<=c.length->sV c vs=vs++c.drop vs.length:=by
 induction c with
 | nil=>intro vs h;cases vs with
  | nil=>rfl
  | cons v vs=>simp at h
 | cons a c j=>intro vs h;cases vs with
  | nil=>rfl
  | cons v vs=>show v :: sV c vs=_;rw[j vs (sp h)];rfl
theorem m6 (c:List Value):∀ (k:Nat) (vs:List Value),k+vs.length<=c.length->ep c k vs=c.take k++vs++c.drop (k+vs.length):=by
 induction c with
 | nil =>
  intro k vs h
  have hk:k=0:=by simp at h;omega
  have hv:vs=[]:=by
   cases vs with
   | nil=>rfl
   | cons _ _=>simp at h
  subst hk;subst hv;rfl
 | cons a c j =>
  intro k vs h
  cases k with
  | zero=>show sV (a :: c) vs=_;rw[U' _ _ (sp h)];simp
  | succ k =>
   show a :: ep c k vs=_
   rw[j k vs (by simp at h;omega)]
   have e:k+1+vs.length=(k+vs.length)+1:=om
   rw[e];rfl
theorem x9 (c:List Value) (k:Nat) (vs:List Value) (h:k+vs.length<=c.length):(ep c k vs).length=c.length:=by
 rw[m6 c k vs h];simp;omega
theorem H7 (l:List Value):da l=true->∀ v ∈ l,bX v=true:=by
 induction l with
 | nil=>intro _ v hv;cases hv
 | cons a l j =>
  intro h v hv
  have h':Bool.rec (motive:=fun _=>Bool) false (da l) (bX a)=true:=h
  cases e:bX a with
  | false=>rw[e] at h';cases h'
  | true =>
   rw[e] at h'
   cases hv with
   | head=>exact e
   | tail _ hm=>exact j h' v hm
theorem xA (z:List Value) (n:Nat):(dZ z n).length=n * z.length:=by
 induction n with
 | zero=>show ([]:List Value).length=_;simp
 | succ n j=>show (cW z (dZ z n)).length=_;rw[dF,List.length_append,j,Nat.succ_mul];omega
theorem AaH (ρ:Operand->Value) (l:List Operand):lK ρ l=l.map ρ:=by
 induction l with
 | nil=>rfl
 | cons a l j=>show ρ a :: lK ρ l=_;rw[j];rfl
theorem AaI (ρ:Operand->Value) (l:List (Nat × Operand)):FN ρ l=l.map fun x=>(x.1,ρ x.2):=by
 induction l with
 | nil=>rfl
 | cons a l j=>show (a.1,ρ a.2) :: FN ρ l=_;rw[j];rfl
theorem qf (l:List UInt8):eN l=l.map fun b=>Value.int .u8 b.toNat:=by
 induction l with
 | nil=>rfl
 | cons a l j=>show Value.int .u8 a.toNat :: eN l=_;rw[j];rfl
theorem Ef (f:Nat) (l:List Nat):A0 f l=true->f ∈ l:=by
 induction l with
 | nil=>intro h;cases h
 | cons a l j =>
  intro h
  have h':Bool.rec (motive:=fun _=>Bool) (A0 f l) true (Nat.beq a f)=true:=h
  cases e:Nat.beq a f with
  | true=>rw[Nat.eq_of_beq_eq_true e];exact .head _
  | false=>rw[e] at h';exact .tail _ (j h')
theorem My (f:Nat) (l:List Nat) (h:f ∈ l):A0 f l=true:=by
 induction l with
 | nil=>cases h
 | cons a l j =>
  show Bool.rec (motive:=fun _=>Bool) (A0 f l) true (Nat.beq a f)=true
  cases e:Nat.beq a f with
  | true=>rfl
  | false =>
   cases h with
   | head=>rw[Nat.beq_refl] at e;cases e
   | tail _ hm=>exact j hm
end lists
theorem H8 {α:Type} (l:List α):∀ i:Nat,((kE l true)[i]?=l[2 * i]?)/\((kE l false)[i]?=l[2 * i+1]?):=by
 induction l with
 | nil=>intro i;exact⟨by simp[kE],by simp[kE]⟩
 | cons a l j =>
  intro i
  have o:kE (a :: l) true=a :: kE l false:=rfl
  have p:kE (a :: l) false=kE l true:=rfl
  rw[o,p]
  constructor
  . cases i with
    | zero=>rfl
    | succ i =>
     have:=(j i).2
     simp only[List.getElem?_cons_succ]
     rw[this]
     have:2 * (i+1)=(2 * i+1)+1:=om
     rw[this,List.getElem?_cons_succ]
  . rw[(j i).1]
    simp
theorem Mz {α:Type} (l:List α):(kE l true).length=(l.length+1) / 2/\(kE l false).length=l.length / 2:=by
 induction l with
 | nil=>exact⟨by simp[kE],by simp[kE]⟩
 | cons a l j =>
  have o:kE (a :: l) true=a :: kE l false:=rfl
  have p:kE (a :: l) false=kE l true:=rfl
  have C:(a :: kE l false).length=(kE l false).length+1:=rfl
  have I:(a :: l).length=l.length+1:=rfl
  rw[o,p,C,I,j.1,j.2]
  constructor <;> omega
theorem MA {α:Type} (f:Nat):∀ (l:List α) (k:Nat),l.length<2 ^ f->(UZ f l).get k=l[k]?:=by
 induction f with
 | zero =>
  intro l k h
  have:l=[]:=by cases l with
   | nil=>rfl
   | cons a l=>simp at h
  subst this;rfl
 | succ f j =>
  intro l k h
  cases l with
  | nil=>rfl
  | cons a l =>
   have e:UZ (f+1) (a :: l)=T.n (some a) (UZ f (kE l true)) (UZ f (kE l false)):=rfl
   rw[e]
   have hl:∀ b,(kE l b).length<2 ^ f:=by
    intro b
    have key:=Mz l
    have hh:l.length+1<2 ^ f * 2:=by rw[Nat.pow_succ,List.length_cons] at h;exact h
    cases b with
    | true=>rw[key.1];omega
    | false=>rw[key.2];omega
   cases k with
   | zero=>rfl
   | succ k =>
    rcases Nat.mod_two_eq_zero_or_one k with hm | hm
    . rw[T.vo _ _ _ _ hm,j _ _ (hl true),(H8 l (k / 2)).1,List.getElem?_cons_succ]
      congr 1;omega
    . rw[T.vp _ _ _ _ hm,j _ _ (hl false),(H8 l (k / 2)).2,List.getElem?_cons_succ]
      congr 1;omega
inductive Sz:B->Nat->Prop
 | nil:Sz .nil 0
 | leaf (v:Value):Sz (.leaf v) 1
 | node (l r:B) (n:Nat) (h:2<=n) (hl:Sz l ((n+1) / 2)) (hr:Sz r (n / 2)):Sz (.node l r) n
theorem B.zB (v:Value) (k:Nat):(B.leaf v).get k=if k=0 then v else Go.undef:=by
 show Bool.rec (motive:=fun _=>Value) Go.undef v (Nat.beq k 0)=_
 cases k with
 | zero=>rfl
 | succ k=>rw[if_neg om];rfl
theorem B.qL (l r:B) (k:Nat):(B.node l r).get k=if k % 2=0 then l.get (k / 2) else r.get (k / 2):=by
 show Bool.rec (motive:=fun _=>Value) (r.get (Nat.div k 2)) (l.get (Nat.div k 2)) (Nat.beq (Nat.mod k 2) 0)=_
 rcases Nat.mod_two_eq_zero_or_one k with h | h
 . rw[if_pos h]
   have:Nat.beq (Nat.mod k 2) 0=true:=by show Nat.beq (k % 2) 0=true;rw[h];rfl
   rw[this];rfl
 . rw[if_neg om]
   have:Nat.beq (Nat.mod k 2) 0=false:=by show Nat.beq (k % 2) 0=false;rw[h];rfl
   rw[this];rfl
theorem B.O1 (u v:Value) (k:Nat):(B.leaf u).set k v=if k=0 then .leaf v else .leaf u:=by
 show Bool.rec (motive:=fun _=>B) (.leaf u) (.leaf v) (Nat.beq k 0)=_
 cases k with
 | zero=>rfl
 | succ k=>rw[if_neg om];rfl
theorem B.H9 (l r:B) (k:Nat) (v:Value):(B.node l r).set k v=if k % 2=0 then .node (l.set (k / 2) v) r else .node l (r.set (k / 2) v):=by
 show Bool.rec (motive:=fun _=>B) (.node l (r.set (Nat.div k 2) v)) (.node (l.set (Nat.div k 2) v) r) (Nat.beq (Nat.mod k 2) 0)=_
 rcases Nat.mod_two_eq_zero_or_one k with h | h
 . rw[if_pos h]
   have:Nat.beq (Nat.mod k 2) 0=true:=by show Nat.beq (k % 2) 0=true;rw[h];rfl
   rw[this];rfl
 . rw[if_neg om]
   have:Nat.beq (Nat.mod k 2) 0=false:=by show Nat.beq (k % 2) 0=false;rw[h];rfl
   rw[this];rfl
theorem Sz.set {b:B} {n:Nat} (h:Sz b n):∀ (k:Nat) (v:Value),Sz (b.set k v) n:=by
 induction h with
 | nil=>intro k v;exact .nil
 | leaf u=>intro k v;rw[B.O1];split <;> exact .leaf _
 | node l r n h hl hr j o =>
  intro k v;rw[B.H9];split
  . exact .node _ _ _ h (j _ _) hr
  . exact .node _ _ _ h hl (o _ _)
theorem Sz.Td {b:B} {n:Nat} (h:Sz b n):∀ k,n<=k->b.get k=Go.undef:=by
 induction h with
 | nil=>intro k _;rfl
 | leaf u=>intro k hk;rw[B.zB,if_neg om]
 | node l r n h hl hr j o =>
  intro k hk;rw[B.qL];split
  . exact j _ om
  . exact o _ om
theorem Sz.su {b:B} {n:Nat} (h:Sz b n):∀ (k j:Nat) (v:Value),(b.set k v).get j=if j=k/\k<n then v else b.get j:=by
 induction h with
 | nil=>intro k j v;rw[if_neg om];rfl
 | leaf u =>
  intro k j v;rw[B.O1]
  split
  . rename_i hk;subst hk
    rw[B.zB]
    by_cases o:j=0
    . rw[if_pos o,if_pos ⟨o,om⟩]
    . rw[if_neg o,if_neg om,B.zB,if_neg o]
  . rw[if_neg om]
 | node l r n h hl hr p C =>
  intro k j v;rw[B.H9]
  split
  . rename_i hk
    rw[B.qL,B.qL,p]
    by_cases o:j % 2=0
    . rw[if_pos o,if_pos o]
      by_cases e:j=k/\k<n
      . rw[if_pos e,if_pos om]
      . rw[if_neg e,if_neg om]
    . rw[if_neg o,if_neg o,if_neg om]
  . rename_i hk
    rw[B.qL,B.qL,C]
    by_cases o:j % 2=0
    . rw[if_pos o,if_pos o,if_neg om]
    . rw[if_neg o,if_neg o]
      by_cases e:j=k/\k<n
      . rw[if_pos e,if_pos om]
      . rw[if_neg e,if_neg om]
theorem B.AbF (f:Nat):∀ n,n<=f->Sz (B.mk f n) n:=by
 induction f with
 | zero=>intro n h;have:n=0:=om
         subst this;exact .nil
 | succ f j =>
  intro n hn
  show Sz (Bool.rec (motive:=fun _=>B) (Bool.rec (motive:=fun _=>B) .nil (.leaf Go.undef) (Nat.beq n 1)) (.node (B.mk f (Nat.div (Nat.add n 1) 2)) (B.mk f (Nat.div n 2))) (Nat.ble 2 n)) n
  cases e:Nat.ble 2 n with
  | true =>
   have h2:=Nat.le_of_ble_eq_true e
   exact .node _ _ _ h2 (j _ (by show (n+1) / 2<=_;omega)) (j _ (by show n / 2<=_;omega))
  | false =>
   have h2:¬ 2<=n:=fun h=>by rw[Nat.ble_eq_true_of_le h] at e;cases e
   cases n with
   | zero=>exact .nil
   | succ n=>cases n with
    | zero=>exact .leaf _
    | succ n=>omega
theorem B.Adz (f:Nat):∀ n k,(B.mk f n).get k=Go.undef:=by
 induction f with
 | zero=>intro n k;rfl
 | succ f j =>
  intro n k
  show (Bool.rec (motive:=fun _=>B) (Bool.rec (motive:=fun _=>B) .nil (.leaf Go.undef) (Nat.beq n 1)) (.node (B.mk f (Nat.div (Nat.add n 1) 2)) (B.mk f (Nat.div n 2))) (Nat.ble 2 n):B).get k=_
  cases Nat.ble 2 n with
  | true=>show (B.node _ _).get k=_;rw[B.qL,j,j];split <;> rfl
  | false =>
   cases Nat.beq n 1 with
   | true=>show (B.leaf _).get k=_;rw[B.zB];split <;> rfl
   | false=>rfl
theorem xB {a b:IntKind} (h:uD a b=true):a=b:=by cases a <;> cases b <;> first | rfl | cases h
theorem iF (a b:Int):cx a b=(a == b):=by
 cases a with
 | ofNat a=>cases b with
  | ofNat b =>
   show Nat.beq a b=_
   by_cases h:a=b
   . subst h;rw[Nat.beq_refl];simp
   . have:Nat.beq a b=false:=by cases e:Nat.beq a b with
      | false=>rfl
      | true=>exact absurd (Nat.eq_of_beq_eq_true e) h
     rw[this];symm;simp;omega
  | negSucc b=>rfl
 | negSucc a=>cases b with
  | ofNat b=>rfl
  | negSucc b =>
   show Nat.beq a b=_
   by_cases h:a=b
   . subst h;rw[Nat.beq_refl];simp
   . have:Nat.beq a b=false:=by cases e:Nat.beq a b with
      | false=>rfl
      | true=>exact absurd (Nat.eq_of_beq_eq_true e) h
     rw[this];symm;simp;omega
theorem aP (a b:Nat):Nat.ble a b=decide (a<=b):=by
 by_cases h:a<=b
 . rw[Nat.ble_eq_true_of_le h];simp[h]
 . have:Nat.ble a b=false:=by cases e:Nat.ble a b with
    | false=>rfl
    | true=>exact absurd (Nat.le_of_ble_eq_true e) h
   rw[this];simp[h]
theorem fI (a b:Int):gn a b=decide (a<=b):=by
 cases a with
 | ofNat a=>cases b with
  | ofNat b=>show Nat.ble a b=_;rw[aP];simp
  | negSucc b=>show false=_;symm;simp;omega
 | negSucc a=>cases b with
  | ofNat b=>show true=_;symm;simp;omega
  | negSucc b=>show Nat.ble b a=_;rw[aP];simp;omega
theorem ax (a b:Nat):Nat.beq a b=decide (a=b):=by
 by_cases h:a=b
 . subst h;rw[Nat.beq_refl];simp
 . have:Nat.beq a b=false:=by cases e:Nat.beq a b with
    | false=>rfl
    | true=>exact absurd (Nat.eq_of_beq_eq_true e) h
   rw[this];simp[h]
theorem kF (x:List UInt8):∀ y,dU x y=(x == y):=by
 induction x with
 | nil=>intro y;cases y <;> rfl
 | cons a x j =>
  intro y
  cases y with
  | nil=>rfl
  | cons b y =>
   show Bool.rec (motive:=fun _=>Bool) false (dU x y) (Nat.beq a.toNat b.toNat)=_
   rw[j,ax]
   by_cases h:a=b
   . subst h;simp
   . have:¬ a.toNat=b.toNat:=fun e=>h (UInt8.toNat_inj.1 e)
     simp[this,h]
theorem BJ (x:List UInt8):∀ y,xq x y=Op.bytesLess x y:=by
 induction x with
 | nil=>intro y;cases y <;> rfl
 | cons a x j =>
  intro y
  cases y with
  | nil=>rfl
  | cons b y =>
   show Bool.rec (motive:=fun _=>Bool) (Nat.blt a.toNat b.toNat) (xq x y) (Nat.beq a.toNat b.toNat)=_
   rw[j,ax]
   simp only[Op.bytesLess]
   have o:Nat.blt a.toNat b.toNat=decide (a<b):=by
    show Nat.ble (a.toNat+1) b.toNat=_
    rw[aP];simp[UInt8.lt_iff_toNat_lt];omega
   by_cases h:a=b
   . subst h;simp
   . have:¬ a.toNat=b.toNat:=fun e=>h (UInt8.toNat_inj.1 e)
     simp[this,h,o]
structure RI where
 dH:Nat
 base:Nat
 n:Nat
 osz:Nat
 S:Nat
abbrev bS:=Nat->Option RI
def bS.le (ρ bY:bS):Prop:=∀ b r,ρ b=some r->bY b=some r
theorem bS.le_refl (ρ:bS):ρ.le ρ:=fun _ _ h=>h
theorem bS.le_trans {a b c:bS} (h:a.le b) (k:b.le c):a.le c:=fun _ _ e=>k _ _ (h _ _ e)
def lA (r:RI) (o l c:Nat) (A:Addr) (C:Nat):Prop :=
 if r.osz≠0/\o+c * r.osz=r.n then
  c<=C/\((A=⟨r.dH,r.base+o,none⟩/\r.base+o+C * r.osz<=r.S)\/(l=0/\c=0/\C=0))
 else A=⟨r.dH,r.base+o,none⟩/\C=c
inductive H_ (ρ:bS):Fn->Fn->Prop
 | func (f:FuncId):H_ ρ (.func f) (.func f)
 | method (s:String):H_ ρ (.method s) (.method s)
 | yield (l:Nat) (r:RI) (h:ρ l=some r):H_ ρ (.yield l) (.yield r.dH)
mutual
inductive aK (ρ:bS):Value->Value->Prop
 /-- a value of AhH nothing is known -/
 | Aj (V:Value):aK ρ (.chan (some 0)) V
 | bool (b:Bool):aK ρ (.bool b) (.bool b)
 | int (k:IntKind) (n:Int):aK ρ (.int k n) (.int k n)
 | float (k:FloatKind) (n:Nat):aK ρ (.float k n) (.float k n)
 | string (s:ByteArray):aK ρ (.string s) (.string s)
 | Lz:aK ρ (.pointer none) (.pointer none)
 | ptr (b o:Nat) (r:RI) (h:ρ b=some r):aK ρ (.pointer (some ⟨b,o,none⟩)) (.pointer (some ⟨r.dH,r.base+o,none⟩))
 | snil (l c:Nat):aK ρ (.slice none l c) (.slice none l c)
 | slice (b o l c:Nat) (A:Addr) (C:Nat) (r:RI) (h:ρ b=some r) (hs:lA r o l c A C):aK ρ (.slice (some ⟨b,o,none⟩) l c) (.slice (some A) l C)
 | AaJ:aK ρ (.map none) (.map none)
 | map (b:Nat) (r:RI) (h:ρ b=some r):aK ρ (.map (some b)) (.map (some r.dH))
 | func (f F:Fn) (a A c C:Array Value) (h:H_ ρ f F) (ha:bc ρ a.toList A.toList) (hc:bc ρ c.toList C.toList):aK ρ (.func f a c) (.func F A C)
 | nilFunc:aK ρ .nilFunc .nilFunc
 | iface (t:TypeId) (v V:Value) (h:aK ρ v V):aK ρ (.iface t v) (.iface t V)
 | nilIface:aK ρ .nilIface .nilIface
 | agg (c C:Array Value) (h:bc ρ c.toList C.toList):aK ρ (.agg c) (.agg C)
 | tuple (c C:Array Value) (h:bc ρ c.toList C.toList):aK ρ (.tuple c) (.tuple C)
inductive bc (ρ:bS):List Value->List Value->Prop
 | nil:bc ρ [] []
 | cons (v V:Value) (l L:List Value) (h:aK ρ v V) (hl:bc ρ l L):bc ρ (v :: l) (V :: L)
end
theorem H_.mono {ρ bY:bS} (h:ρ.le bY) {f F:Fn} (hf:H_ ρ f F):H_ bY f F:=by
 cases hf with
 | func f=>exact .func f
 | method s=>exact .method s
 | yield l r e=>exact .yield l r (h _ _ e)
theorem aK.mono {ρ bY:bS} (h:ρ.le bY) {v V:Value} (hv:aK ρ v V):aK bY v V:=by
 refine aK.rec (motive_1:=fun v V _=>aK bY v V) (motive_2:=fun l L _=>bc bY l L) ?_ ?_ ?_ ?_ ?_ ?_ ?_ ?_ ?_ ?_ ?_ ?_ ?_ ?_ ?_ ?_ ?_ ?_ ?_ hv
 . exact fun V=>.Aj V
 . exact fun b=>.bool b
 . exact fun k n=>.int k n
 . exact fun k n=>.float k n
 . exact fun s=>.string s
 . exact .Lz
 . exact fun b o r e=>.ptr b o r (h _ _ e)
 . exact fun l c=>.snil l c
 . exact fun b o l c A C r e hs=>.slice b o l c A C r (h _ _ e) hs
 . exact .AaJ
 . exact fun b r e=>.map b r (h _ _ e)
 . exact fun f F a A c C hf _ _ p I=>.func f F a A c C (hf.mono h) p I
 . exact .nilFunc
 . exact fun t v V _ j=>.iface t v V j
 . exact .nilIface
 . exact fun c C _ j=>.agg c C j
 . exact fun c C _ j=>.tuple c C j
 . exact .nil
 . exact fun v V l L _ _ j J=>.cons v V l L j J
theorem bc.mono {ρ bY:bS} (h:ρ.le bY) {l L:List Value} (hl:bc ρ l L):bc bY l L:=by
 induction l generalizing L with
 | nil=>cases hl;exact .nil
 | cons v l j=>cases hl with | cons _ V _ L hv hl=>exact .cons _ _ _ _ (hv.mono h) (j hl)
theorem bc.length {ρ:bS} {l L:List Value} (h:bc ρ l L):l.length=L.length:=by
 induction l generalizing L with
 | nil=>cases h;rfl
 | cons v l j=>cases h with | cons _ V _ L hv hl=>simp[j hl]
theorem bc.get {ρ:bS} {l L:List Value} (h:bc ρ l L):∀ (i:Nat) (v:Value),l[i]?=some v->∃ V,L[i]?=some V/\aK ρ v V:=by
 induction l generalizing L with
 | nil=>intro i v e;simp at e
 | cons u l j =>
  cases h with
  | cons _ V _ L hv hl =>
   intro i v e
   cases i with
   | zero=>simp at e;subst e;exact⟨V,rfl,hv⟩
   | succ i=>simpa using j hl i v (sp e)
theorem bc.BK {ρ:bS}:∀ {l L:List Value},l.length=L.length->(∀ (i:Nat) (v:Value),l[i]?=some v->∃ V,L[i]?=some V/\aK ρ v V)->bc ρ l L:=by
 intro l
 induction l with
 | nil=>intro L hl _;cases L with
  | nil=>exact .nil
  | cons _ _=>simp at hl
 | cons v l j =>
  intro L hl h
  cases L with
  | nil=>simp at hl
  | cons V L =>
   obtain⟨o,e,hv⟩:=h 0 v rfl
   simp at e;subst e
   exact .cons _ _ _ _ hv (j (sp hl) fun i u e=>by simpa using h (i+1) u (sp e))
theorem bc.append {ρ:bS} {a A b B:List Value} (h:bc ρ a A) (k:bc ρ b B):bc ρ (a++b) (A++B):=by
 induction a generalizing A with
 | nil=>cases h;exact k
 | cons v l j=>cases h with | cons _ V _ L hv hl=>exact .cons _ _ _ _ hv (j hl)
theorem bc.take {ρ:bS} {a A:List Value} (h:bc ρ a A) (n:Nat):bc ρ (a.take n) (A.take n):=by
 induction a generalizing A n with
 | nil=>cases h;simp;exact .nil
 | cons v l j=>cases h with | cons _ V _ L hv hl=>cases n with
  | zero=>exact .nil
  | succ n=>exact .cons _ _ _ _ hv (j hl n)
theorem bc.drop {ρ:bS} {a A:List Value} (h:bc ρ a A) (n:Nat):bc ρ (a.drop n) (A.drop n):=by
 induction a generalizing A n with
 | nil=>cases h;simp;exact .nil
 | cons v l j=>cases h with | cons _ V _ L hv hl=>cases n with
  | zero=>exact .cons _ _ _ _ hv hl
  | succ n=>exact j hl n
def gr (ρ:bS) (b:B) (tmps:Array Value):Prop:=Sz b tmps.size/\∀ k,aK ρ (b.get k) (tmps.getD k Go.undef)
theorem aK.undef (ρ:bS):aK ρ Go.undef Go.undef:=.tuple _ _ .nil
theorem gr.mono {ρ bY:bS} (h:ρ.le bY) {b:B} {t:Array Value} (j:gr ρ b t):gr bY b t:=⟨j.1,fun k=>(j.2 k).mono h⟩
theorem gr.set {ρ:bS} {b:B} {t:Array Value} (h:gr ρ b t) (d:Nat) {v V:Value} (hv:aK ρ v V):gr ρ (b.set d v) (t.setIfInBounds d V):=by
 refine⟨by simpa using h.1.set d v,fun k=>?_⟩
 rw[h.1.su]
 have hk:=h.2 k
 by_cases e:k=d/\d<t.size
 . rw[if_pos e]
   obtain⟨rfl,hd⟩:=e
   have:(t.setIfInBounds k V).getD k Go.undef=V:=by simp[hd]
   rw[this];exact hv
 . rw[if_neg e]
   have:(t.setIfInBounds d V).getD k Go.undef=t.getD k Go.undef:=by
    by_cases j:d=k
    . subst j
      have hd:¬ d<t.size:=fun hd=>e ⟨rfl,hd⟩
      simp[hd]
    . simp[j]
   rw[this];exact hk
inductive m8 (ρ:bS):List MapEntry->List MapEntry->Prop
 | nil:m8 ρ [] []
 | cons (e E:MapEntry) (l L:List MapEntry) (hk:aK ρ e.key E.key) (hv:aK ρ e.val E.val) (hb:e.born=E.born) (hl:m8 ρ l L):m8 ρ (e :: l) (E :: L)
theorem m8.mono {ρ bY:bS} (h:ρ.le bY) {l L:List MapEntry} (hl:m8 ρ l L):m8 bY l L:=by
 induction hl with
 | nil=>exact .nil
 | cons e E l L hk hv hb _ j=>exact .cons e E l L (hk.mono h) (hv.mono h) hb j
def CZ (ρ:bS) (r:RI) (W:World):kJ->Prop
 | .row x=>∃ C F,W.heap[r.dH]?=some (.cells C x.elem F)/\C.size=r.S/\r.n=x.cs.length/\(r.osz=x.osz/\(x.osz=0->r.base=0))/\r.base+r.n<=r.S ∧
  (∀ i v,x.cs[i]?=some v->∃ V,C[r.base+i]?=some V/\aK ρ v V) ∧
  ((x.ro=false->∀ j,r.base+x.ib<=j->j<r.S+(if x.osz=0 then 1 else 0)->¬ (F.1<=j/\j<F.2))/\(x.ro=false->x.osz=0->F.2<=r.base+x.ib))
 | .map es clock=>∃ p,W.heap[r.dH]?=some (.map p clock)/\m8 ρ es p.toList
 | .iter s pos=>W.heap[r.dH]?=some (.stringIter s pos)/\r.base=0
 | .loop state pending _ tmps params assign body _ =>
  ∃ T fn d,gr ρ tmps T/\W.heap[r.dH]?=some (.loop { state,pending,fn,tmps:=T,params:=params.toArray,assign,body,defers:=d })
 | .deferred o=>W.heap[r.dH]?=some (.deferred (if o then some [] else none))
theorem CZ.mono {ρ bY:bS} (h:ρ.le bY) {r:RI} {W W':World} {x:kJ} (hx:CZ ρ r W x) (hb:W'.heap[r.dH]?=W.heap[r.dH]?):CZ bY r W' x:=by
 cases x with
 | row x =>
  obtain⟨C,F,j,h2,I,p,J,R,U⟩:=hx
  refine⟨C,F,hb.trans j,h2,I,p,J,fun i v e=>?_,U⟩
  obtain⟨V,e',hv⟩:=R i v e
  exact⟨V,e',hv.mono h⟩
 | map es clock=>obtain⟨ES,j,h2⟩:=hx;exact⟨ES,hb.trans j,h2.mono h⟩
 | iter s pos=>exact⟨hb.trans hx.1,hx.2⟩
 | loop state pending fn tmps params assign body d =>
  obtain⟨T,fn,d,h2,p⟩:=hx
  exact⟨T,fn,d,h2.mono h,hb.trans p⟩
 | deferred o=>exact hb.trans hx
def MB:kJ->Bool | .row x=>x.ro | _=>false
structure aX (ρ:bS) (h:H) (W:World):Prop where
 obj:∀ b x r,h.get b=some x->ρ b=some r->CZ ρ r W x
 inj:∀ b b' x x' r r',h.get b=some x->h.get b'=some x'->ρ b=some r->ρ b'=some r'->b≠b'->(MB x&&MB x')=false->r.dH≠r'.dH
 we:∀ b r,ρ b=some r->b<h.next/\r.dH<W.heap.size
 fresh:∀ b,h.next<=b->h.get b=none
structure Ext (ρ:bS) (h:H) (W:World) (bY:bS) (h':H) (W':World):Prop where
 le:ρ.le bY
 size:W.heap.size<=W'.heap.size
 os:W'.os=W.os
 tape:W'.tape=W.tape
 output:W'.output=W.output
 kept:∀ B,B<W.heap.size->(∀ b x r,h.get b=some x->MB x=false->ρ b=some r->r.dH≠B)->W'.heap[B]?=W.heap[B]?
 own:∀ b x r,h'.get b=some x->MB x=false->bY b=some r->r.dH<W.heap.size->∃ b0 x0 r0,h.get b0=some x0/\MB x0=false/\ρ b0=some r0/\r0.dH=r.dH
 next:h.next<=h'.next
 cK:∀ b,b<h.next->bY b=ρ b
theorem Ext.refl (ρ:bS) (h:H) (W:World):Ext ρ h W ρ h W :=
 ⟨ρ.le_refl,Nat.le_refl _,rfl,rfl,rfl,fun _ _ _=>rfl,fun b x r j h2 o _=>⟨b,x,r,j,h2,o,rfl⟩,Nat.le_refl _,fun _ _=>rfl⟩
theorem Ext.trans {ρ o p:bS} {h j h2:H} {W W1 W2:World} (a:Ext ρ h W o j W1) (b:Ext o j W1 p h2 W2):Ext ρ h W p h2 W2:=by
 refine⟨bS.le_trans a.le b.le,Nat.le_trans a.size b.size,b.os.trans a.os,b.tape.trans a.tape,b.output.trans a.output,?_,?_,Nat.le_trans a.next b.next,?_⟩
 . intro B hB hn
   rw[b.kept B (Nat.lt_of_lt_of_le hB a.size) ?_,a.kept B hB hn]
   intro c x r j h2 C e
   obtain⟨b0,x0,r0,I,J,R,U⟩:=a.own c x r j h2 C om
   exact hn b0 x0 r0 I J R (U.trans e)
 . intro c x r j h2 C h4
   obtain⟨b1,x1,r1,I,J,R,U⟩:=b.own c x r j h2 C (Nat.lt_of_lt_of_le h4 a.size)
   obtain⟨b0,x0,r0,l1,l2,l3,l4⟩:=a.own b1 x1 r1 I J R om
   exact⟨b0,x0,r0,l1,l2,l3,l4.trans U⟩
 . intro c hc
   rw[b.cK c (Nat.lt_of_lt_of_le hc a.next),a.cK c hc]
theorem H.d' (h:H) (b c:Nat) (x:kJ):(h.put b x).get c=if c=b then some x else h.get c:=by
 show T.get (T.set (b+1) h.t b (some x)) c=_
 rw[T.su _ _ _ _ _ (Nat.lt_succ_self b)];rfl
theorem H.mu (h:H) (b c:Nat):(h.del b).get c=if c=b then none else h.get c:=by
 show T.get (T.set (b+1) h.t b none) c=_
 rw[T.su _ _ _ _ _ (Nat.lt_succ_self b)];rfl
theorem H.eF (h:H) (c:Nat) (x:kJ):(h.new x).get c=if c=h.next then some x else h.get c:=by
 show T.get (T.set (h.next+1) h.t h.next (some x)) c=_
 rw[T.su _ _ _ _ _ (Nat.lt_succ_self _)];rfl
theorem H.O2 (h:H) (b:Nat) (x:kJ):(h.put b x).next=h.next:=rfl
theorem H.tz (h:H) (b:Nat):(h.del b).next=h.next:=rfl
theorem H.fM (h:H) (x:kJ):(h.new x).next=h.next+1:=rfl
theorem H.pS {h:H} {b:Nat} {x:IP} (e:h.row b=some x):h.get b=some (.row x):=by
 unfold H.row at e
 split at e
 . rename_i y j;cases e;exact j
 . cases e
theorem aX.drew {ρ:bS} {h:H} {W W':World} (j:aX ρ h W) (hh:W'.heap=W.heap):aX ρ h W' :=
 ⟨fun b x r o h2=>(j.obj b x r o h2).mono ρ.le_refl (by rw[hh]),j.inj,fun b r e=>by rw[hh];exact j.we b r e,j.fresh⟩
theorem Ext.drew {ρ:bS} {h:H} {W W':World} (hh:W'.heap=W.heap) (j:W'.os=W.os) (h2:W'.tape=W.tape) (o:W'.output=W.output):Ext ρ h W ρ h W' :=
 ⟨ρ.le_refl,by rw[hh];exact Nat.le_refl _,j,h2,o,fun _ _ _=>by rw[hh],fun b x r j h2 o _=>⟨b,x,r,j,h2,o,rfl⟩,Nat.le_refl _,fun _ _=>rfl⟩
def bS.add (ρ:bS) (b:Nat) (r:RI):bS:=fun c=>if c=b then some r else ρ c
theorem bS.xC (ρ:bS) (b:Nat) (r:RI) (h:ρ b=none):ρ.le (ρ.add b r):=by
 intro c q e
 show (if c=b then some r else ρ c)=some q
 rw[if_neg (fun hc=>by subst hc;rw[h] at e;cases e)];exact e
theorem bS.add_same (ρ:bS) (b:Nat) (r:RI):(ρ.add b r) b=some r:=if_pos rfl
theorem aX.new {ρ:bS} {h:H} {W W':World} (I:aX ρ h W) (o:Obj) (x:kJ) (r:RI) (hW:W'.heap=W.heap.push o) (hr:r.dH=W.heap.size)
 (ho:CZ (ρ.add h.next r) r W' x):aX (ρ.add h.next r) (h.new x) W':=by
 have J:ρ h.next=none:=by
  cases e:ρ h.next with
  | none=>rfl
  | some q=>have:=(I.we _ _ e).1;omega
 have hle:=ρ.xC h.next r J
 have hold:∀ k,k<W.heap.size->W'.heap[k]?=W.heap[k]?:=fun k hk=>by rw[hW,Array.getElem?_push,if_neg om]
 refine⟨?_,?_,?_,?_⟩
 . intro b y q p h2
   rw[H.eF] at p
   by_cases e:b=h.next
   . subst e
     rw[if_pos rfl] at p;cases p
     rw[bS.add_same] at h2;cases h2
     exact ho
   . rw[if_neg e] at p
     have j:ρ b=some q:=by
      have:(ρ.add h.next r) b=ρ b:=if_neg e
      rw[this] at h2;exact h2
     exact (I.obj b y q p j).mono hle (hold _ (I.we _ _ j).2)
 . intro b b' y y' q q' p C h2 j im PK
   rw[H.eF] at p C
   by_cases e:b=h.next
   . subst e
     rw[bS.add_same] at h2;cases h2
     rw[if_neg (fun hc=>im hc.symm)] at C
     have R:ρ b'=some q':=by
      have:(ρ.add h.next r) b'=ρ b':=if_neg (fun hc=>im hc.symm)
      rw[this] at j;exact j
     have:=(I.we _ _ R).2
     omega
   . rw[if_neg e] at p
     have U:ρ b=some q:=by
      have:(ρ.add h.next r) b=ρ b:=if_neg e
      rw[this] at h2;exact h2
     by_cases e':b'=h.next
     . subst e'
       rw[bS.add_same] at j;cases j
       have:=(I.we _ _ U).2
       omega
     . rw[if_neg e'] at C
       have h2b:ρ b'=some q':=by
        have:(ρ.add h.next r) b'=ρ b':=if_neg e'
        rw[this] at j;exact j
       exact I.inj b b' y y' q q' p C U h2b im PK
 . intro b q p
   have hs:W'.heap.size=W.heap.size+1:=by rw[hW];simp
   by_cases e:b=h.next
   . subst e
     rw[bS.add_same] at p;cases p
     rw[H.fM,hs,hr];omega
   . have:(ρ.add h.next r) b=ρ b:=if_neg e
     rw[this] at p
     have:=I.we _ _ p
     rw[H.fM,hs];omega
 . intro b hb
   rw[H.fM] at hb
   rw[H.eF,if_neg om]
   exact I.fresh b om
theorem Ext.new {ρ:bS} {h:H} {W W':World} (J:aX ρ h W) (o:Obj) (x:kJ) (r:RI) (I:W'.heap=W.heap.push o) (hr:r.dH=W.heap.size)
 (R:W'.os=W.os) (h2:W'.tape=W.tape) (U:W'.output=W.output):Ext ρ h W (ρ.add h.next r) (h.new x) W':=by
 have j:ρ h.next=none:=by
  cases e:ρ h.next with
  | none=>rfl
  | some q=>have:=(J.we _ _ e).1;omega
 refine⟨ρ.xC h.next r j,by rw[I];simp,R,h2,U,?_,?_,by rw[H.fM];omega,?_⟩
 . intro B hB _;rw[I,Array.getElem?_push,if_neg om]
 . intro b y q C k2 p k4
   rw[H.eF] at C
   by_cases e:b=h.next
   . subst e
     rw[bS.add_same] at p;cases p
     omega
   . rw[if_neg e] at C
     have:(ρ.add h.next r) b=ρ b:=if_neg e
     rw[this] at p
     exact⟨b,y,q,C,k2,p,rfl⟩
 . intro b hb
   show (if b=h.next then some r else ρ b)=ρ b
   rw[if_neg om]
theorem aX.AaK {ρ:bS} {h:H} {W W':World} (p:aX ρ h W) (b:Nat) (x x':kJ) (r:RI) (hx:h.get b=some x) (C:MB x=false) (hr:ρ b=some r)
 (hs:W'.heap.size=W.heap.size) (hk:∀ B,B≠r.dH->W'.heap[B]?=W.heap[B]?) (ho:CZ ρ r W' x'):aX ρ (h.put b x') W':=by
 refine⟨?_,?_,?_,?_⟩
 . intro c y q j h2
   rw[H.d'] at j
   by_cases e:c=b
   . subst e
     rw[if_pos rfl] at j;cases j
     rw[hr] at h2;cases h2
     exact ho
   . rw[if_neg e] at j
     exact (p.obj c y q j h2).mono ρ.le_refl (hk _ (p.inj c b y x q r j hx h2 hr e (by rw[C];simp)))
 . intro c R y y' q U j o h2 I im J
   rw[H.d'] at j o
   by_cases e:c=b
   . subst e
     rw[if_neg (fun hc=>im hc.symm)] at o
     exact p.inj c R x y' q U hx o h2 I im (by rw[C];rfl)
   . rw[if_neg e] at j
     by_cases e':R=b
     . subst e'
       exact p.inj c R y x q U j hx h2 I im (by rw[C];simp)
     . rw[if_neg e'] at o
       exact p.inj c R y y' q U j o h2 I im J
 . intro c q e;rw[H.O2,hs];exact p.we c q e
 . intro c hc
   rw[H.d',if_neg ?_]
   . exact p.fresh c hc
   . intro e;subst e;have:=p.fresh c hc;rw[hx] at this;cases this
theorem aX.put {ρ:bS} {h:H} {W W':World} (p:aX ρ h W) (b:Nat) (x x':kJ) (r:RI) (hx:h.get b=some x) (j:MB x=false) (o:MB x'=false) (hr:ρ b=some r)
 (hs:W'.heap.size=W.heap.size) (hk:∀ B,B≠r.dH->W'.heap[B]?=W.heap[B]?) (C:CZ ρ r W' x'):aX ρ (h.put b x') W':=p.AaK b x x' r hx j hr hs hk C
theorem Ext.put {ρ:bS} {h:H} {W W':World} (b:Nat) (x x':kJ) (r:RI) (hx:h.get b=some x) (j:MB x=false) (hr:ρ b=some r)
 (hs:W'.heap.size=W.heap.size) (hk:∀ B,B≠r.dH->W'.heap[B]?=W.heap[B]?) (C:W'.os=W.os) (h2:W'.tape=W.tape) (I:W'.output=W.output):Ext ρ h W ρ (h.put b x') W':=by
 refine⟨ρ.le_refl,om,C,h2,I,?_,?_,Nat.le_refl _,fun _ _=>rfl⟩
 . intro B _ hn;exact hk B (fun e=>hn b x r hx j hr e.symm)
 . intro c y q o J p _
   rw[H.d'] at o
   by_cases e:c=b
   . subst e;exact⟨c,x,q,hx,j,p,rfl⟩
   . rw[if_neg e] at o;exact⟨c,y,q,o,J,p,rfl⟩
def VV (P:Program) (f:FuncId) (k:Nat):Prop:=∃ fd e,P.funcs[f]?=some fd/\fd.body=none/\Extern.findNext fd=none/\Extern.find fd=some e/\(k=0->e=Extern.AbiNoEscape.same)/\(k=2->e=Extern.BytealgIndexByte.indexByte)
structure bj (P:Program) (E:Env):Prop where
 ext:∀ f k,h_ f E.xs=some k->k≠3->VV P f k
 dO:∀ t i,E.types.get t=some i->∃ j,P.info? t=some j/\j.size=i.size/\j.bytes=i.bytes/\i.zero=j.zero.bind zeroOf/\P.underlying t=some i.d/\i.agg=X8 i.d/\i.methods=j.methods
 funcs:∀ (f:FuncId) (fn:Func),E.funcs.get f=some fn->P.funcs[f]?=some fn
 num:∀ (f:FuncId) (fn:Func),P.funcs[f]?=some fn->fn.name≠"runtime.NumGoroutine"
 mixed:P.follows .mixedOrders=true
 eqs:∀ t ∈ E.eqs,P.stoodInHeld t=false/\P.eqGuardType P.depth t=false/\∀ fs,P.underlying t=some (.struct fs)->∀ f ∈ fs.toList,f.name≠"_"
theorem bind_some {α β:Type} {x:Option α} {f:α->Option β} {b:β} (h:x.bind f=some b):∃ a,x=some a/\f a=some b:=by
 cases x with
 | none=>cases h
 | some a=>exact⟨a,rfl,h⟩
theorem map_some {α β:Type} {x:Option α} {f:α->β} {b:β} (h:x.map f=some b):∃ a,x=some a/\f a=b:=by
 cases x with
 | none=>cases h
 | some a=>exact⟨a,rfl,sp h⟩
section runs
variable {P:Program} {E:Env}
theorem H' {t:TypeId} {j:TypeInfo} (h:P.info? t=some j) (W:World):(typeInfo t).run P W=.ok j W:=by
 simp only[typeInfo,program,Sem.run_bind]
 show (Result.ok P W).andThen _=_
 simp only[Result.andThen_ok,h]
 rfl
theorem aB {t:TypeId} {d:TypeDesc} (h:P.underlying t=some d) (W:World):(underlying t).run P W=.ok d W:=by
 simp only[underlying,program,Sem.run_bind]
 show (Result.ok P W).andThen _=_
 simp only[Result.andThen_ok,h]
 rfl
theorem bj.dk (o:bj P E) {t:TypeId} {d:TypeDesc} (h:E.under t=some d):P.underlying t=some d:=by
 obtain⟨i,hi,hd⟩:=bind_some h
 cases hd
 obtain⟨j,_,_,_,_,hu,_⟩:=o.dO t i hi
 exact hu
theorem bj.size (o:bj P E) {t:TypeId} {n:Nat} (h:E.size t=some n) (W:World):(sizeOf t).run P W=.ok n W:=by
 obtain⟨i,hi,hd⟩:=bind_some h
 cases hd
 obtain⟨j,p,hs,_⟩:=o.dO t i hi
 simp only[Go.sizeOf,Sem.run_bind,H' p,Result.andThen_ok,Sem.run_pure,hs]
theorem bj.isAgg (o:bj P E) {t:TypeId} {i:TI} (h:E.dO t=some i) (W:World):(isAgg t).run P W=.ok i.agg W:=by
 obtain⟨j,p,hs,_,_,hu,ha,_⟩:=o.dO t i h
 simp only[Go.isAgg,Sem.run_bind,aB hu,Result.andThen_ok,ha]
 cases i.d <;> rfl
theorem E6 {v:Value} (h:CU v=true) (ρ:bS):aK ρ v v:=by
 unfold CU at h
 split at h <;> first | cases h | skip
 . exact .bool _
 . exact .int _ _
 . exact .float _ _
 . exact .string _
 . exact .Lz
 . exact .snil _ _
 . exact .AaJ
 . exact .nilFunc
 . exact .nilIface
 . exact .Aj _
theorem E7 (l:List Value) (ρ:bS):Gh l=true->bc ρ l l:=by
 induction l with
 | nil=>intro _;exact .nil
 | cons v l j =>
  intro h
  have h':(CU v&&Gh l)=true:=h
  rw[Bool.and_eq_true] at h'
  exact .cons _ _ _ _ (E6 h'.1 ρ) (j h'.2)
theorem E8 {v:Value} (h:xo v=true) (ρ:bS):aK ρ v v:=by
 unfold xo at h
 split at h
 . exact .agg _ _ (E7 _ ρ h)
 . exact .tuple _ _ (E7 _ ρ h)
 . exact E6 h ρ
theorem fg (v:Value) (ρ:bS):aK ρ (Bool.rec (motive:=fun _=>Value) Aj v (xo v)) v:=by
 cases h:xo v with
 | false=>exact .Aj _
 | true=>exact E8 h ρ
theorem Ia (v:Value) (ρ:bS):aK ρ (X7 v) v:=by
 cases v with
 | bool b=>exact .bool _
 | int k n=>exact .int _ _
 | string s=>exact .string _
 | float k b=>exact fg (.float k b) ρ
 | complex k a b=>exact fg (.complex k a b) ρ
 | pointer a=>exact fg (.pointer a) ρ
 | slice a l c=>exact fg (.slice a l c) ρ
 | map r=>exact fg (.map r) ρ
 | chan r=>exact fg (.chan r) ρ
 | func f a c=>exact fg (.func f a c) ρ
 | nilFunc=>exact fg .nilFunc ρ
 | iface t v=>exact fg (.iface t v) ρ
 | nilIface=>exact fg .nilIface ρ
 | agg c=>exact fg (.agg c) ρ
 | tuple c=>exact fg (.tuple c) ρ
theorem tA {z v:Value} (h:zeroOf z=some v) (ρ:bS):v=z/\aK ρ v z:=by
 unfold zeroOf at h
 cases hc:xo z with
 | false=>rw[hc] at h;cases h
 | true=>rw[hc] at h;cases h;exact⟨rfl,E8 hc ρ⟩
theorem bj.zero (C:bj P E) {t:TypeId} {z:Value} (h:E.zero t=some z) (W:World):(zeroValue t).run P W=.ok z W/\∀ ρ,aK ρ z z:=by
 obtain⟨i,hi,hz⟩:=bind_some h
 obtain⟨j,I,_,_,p,_⟩:=C.dO t i hi
 rw[p] at hz
 obtain⟨y,J,o⟩:=bind_some hz
 obtain⟨rfl,_⟩:=tA o (fun _=>none)
 refine⟨?_,fun ρ=>(tA o ρ).2⟩
 simp only[zeroValue,Sem.run_bind,H' I,Result.andThen_ok,J]
 rfl
theorem m_ {ρ:bS} {v V:Value} {c:List Value} (h:cells v=some c) (hv:aK ρ v V):bc ρ c V.cells.toList:=by
 cases hv with
 | Aj=>cases h
 | agg a A ha=>cases h;exact ha
 | _=>all_goals (cases h;refine .cons _ _ _ _ ?_ .nil;constructor <;> assumption)
theorem bj.cz (j:bj P E) {t:TypeId} {c:List Value} (h:E.cz t=some c) (W:World):∃ z,(zeroValue t).run P W=.ok z W/\z.cells.toList=c/\∀ ρ,bc ρ c z.cells.toList:=by
 obtain⟨z,hz,hc⟩:=bind_some h
 obtain⟨o,h2⟩:=j.zero hz W
 refine⟨z,o,?_,fun ρ=>m_ hc (h2 ρ)⟩
 cases z <;> first | (cases hc;rfl) | cases hc
end runs
end Go.X
namespace Go.X
open Go
variable {P:Program} {E:Env}
theorem mb (b o i:Nat):(⟨b,o,none⟩:Addr).add i=⟨b,o+i,none⟩:=by
 unfold Addr.add
 split
 . rename_i h;subst h;rfl
 . rfl
theorem MC {W:World} {b o:Nat} {C:Array Value} {e:TypeId} {F:Nat × Nat} {V:Value} (h:W.heap[b]?=some (.cells C e F)) (j:C[o]?=some V):W.cell? ⟨b,o,none⟩=some V:=by
 simp only[World.cell?,h]
 simpa using j
theorem run_load {W:World} {a:Addr} {V:Value} (h:W.cell? a=some V):(load a).run P W=.ok V W:=by
 simp only[load,Sem.run,h]
theorem run_loadCellsFrom {W:World} (a:Addr):∀ (n i:Nat) (acc:Array Value) (L:List Value),L.length=n->(∀ (j:Nat) (V:Value),L[j]?=some V->W.cell? (a.add (i+j))=some V) ->
 (loadCellsFrom a i n acc).run P W=.ok (acc++L.toArray) W:=by
 intro n
 induction n with
 | zero=>intro i acc L o _;have:L=[]:=List.eq_nil_of_length_eq_zero o
         subst this;simp[loadCellsFrom,Sem.run_pure]
 | succ n p =>
  intro i acc L o h
  cases L with
  | nil=>simp at o
  | cons V L =>
   have h0:=h 0 V rfl
   simp only[Nat.add_zero] at h0
   simp only[loadCellsFrom,Sem.run_bind,run_load h0,Result.andThen_ok]
   rw[p (i+1) (acc.push V) L (sp o) (fun j U e=>by have:=h (j+1) U (sp e);rw[show i+1+j=i+(j+1) from by omega];exact this)]
   simp
theorem run_loadCells {W:World} (a:Addr) (L:List Value) (h:∀ (j:Nat) (V:Value),L[j]?=some V->W.cell? (a.add j)=some V):(Go.loadCells a L.length).run P W=.ok L.toArray W:=by
 have:=run_loadCellsFrom (P:=P) a L.length 0 #[] L rfl (fun j V e=>by rw[Nat.zero_add];exact h j V e)
 simpa [Go.loadCells] using this
theorem aX.cells {ρ:bS} {h:H} {W:World} (hH:aX ρ h W) {b o n:Nat} {r:RI} {cs:List Value} (hr:ρ b=some r) (hl:loadCells h ⟨b,o,none⟩ n=some cs) :
 ∃ L:List Value,L.length=n/\bc ρ cs L/\∀ (j:Nat) (V:Value),L[j]?=some V->W.cell? ⟨r.dH,r.base+o+j,none⟩=some V:=by
 obtain⟨x,hx,ht⟩:=bind_some hl
 have R:=hH.obj b _ r (H.pS hx) hr
 obtain⟨C,F,h1,h2,h3,h4,h5,h6,h7⟩:=R
 obtain⟨hc,hlen⟩:=CY _ _ _ ht
 rw[qg] at hc hlen
 have U:o+n<=x.cs.length\/n=0:=by
  rw[List.length_drop] at hlen
  show o+n<=_\/_
  have:(⟨b,o,none⟩:Addr).off=o:=rfl
  rw[this] at hlen
  omega
 have p:∀ j,j<n->∃ v V,cs[j]?=some v/\C[r.base+o+j]?=some V/\aK ρ v V:=by
  intro j hj
  have I:o+j<x.cs.length:=om
  have e:cs[j]?=some (x.cs[o+j]):=by
   rw[hc,List.getElem?_take,if_pos hj,List.getElem?_drop]
   show x.cs[o+j]?=_
   exact List.getElem?_eq_getElem I
  obtain⟨V,J,hv⟩:=h6 (o+j) _ (List.getElem?_eq_getElem I)
  exact⟨_,V,e,by rw[Nat.add_assoc];exact J,hv⟩
 have TA:cs.length=n:=by
  rw[hc,List.length_take,List.length_drop]
  have:(⟨b,o,none⟩:Addr).off=o:=rfl
  rw[this];omega
 refine⟨(C.toList.drop (r.base+o)).take n,?_,?_,?_⟩
 . rw[List.length_take,List.length_drop]
   by_cases hn:n=0
   . omega
   . obtain⟨_,V,_,J,_⟩:=p (n-1) om
     have I:r.base+o+(n-1)<C.size:=by
      rcases Nat.lt_or_ge (r.base+o+(n-1)) C.size with hh | hh
      . exact hh
      . rw[Array.getElem?_eq_none hh] at J;cases J
     rw[Array.length_toList];omega
 . refine bc.BK ?_ ?_
   . rw[TA,List.length_take,List.length_drop,Array.length_toList]
     by_cases hn:n=0
     . omega
     . obtain⟨_,V,_,J,_⟩:=p (n-1) om
       have I:r.base+o+(n-1)<C.size:=by
        rcases Nat.lt_or_ge (r.base+o+(n-1)) C.size with hh | hh
        . exact hh
        . rw[Array.getElem?_eq_none hh] at J;cases J
       omega
   . intro i v e
     have hi:i<n:=by
      rcases Nat.lt_or_ge i cs.length with hh | hh
      . omega
      . rw[List.getElem?_eq_none hh] at e;cases e
     obtain⟨v',V,e',J,hv⟩:=p i hi
     rw[e] at e';cases e'
     refine⟨V,?_,hv⟩
     rw[List.getElem?_take,if_pos hi,List.getElem?_drop,Array.getElem?_toList]
     exact J
 . intro j V e
   rw[List.getElem?_take] at e
   split at e
   . rw[List.getElem?_drop,Array.getElem?_toList] at e
     exact MC h1 e
   . cases e
theorem aX.cell {ρ:bS} {h:H} {W:World} (j:aX ρ h W) {b o:Nat} {r:RI} {x:IP} {v:Value} (hr:ρ b=some r) (hx:h.row b=some x) (hv:x.cs[o]?=some v) :
 ∃ V,W.cell? ⟨r.dH,r.base+o,none⟩=some V/\aK ρ v V:=by
 obtain⟨C,F,p,h2,R,U,h5,I,h7⟩:=j.obj b _ r (H.pS hx) hr
 obtain⟨V,J,hv⟩:=I o v hv
 exact⟨V,MC p J,hv⟩
theorem uE {v:Value} {a:Addr} (h:addrOf v=some a):∃ b o,v=.pointer (some ⟨b,o,none⟩)/\a=⟨b,o,none⟩:=by
 unfold addrOf at h
 split at h
 . cases h;exact⟨_,_,rfl,rfl⟩
 . cases h
theorem A7 (I:bj P E) {ρ:bS} {h:H} {W:World} (J:aX ρ h W) {t:TypeId} {b o:Nat} {r:RI} {v:Value} (hr:ρ b=some r) (hl:loadVar E h t ⟨b,o,none⟩=some v) :
 ∃ V,(Go.loadVar t ⟨r.dH,r.base+o,none⟩).run P W=.ok V W/\aK ρ v V:=by
 obtain⟨i,hi,hl⟩:=bind_some hl
 have hs:E.size t=some i.size:=by simp only[Env.size];rw[show E.types.get t=some i from hi];rfl
 cases ha:i.agg with
 | false =>
  rw[ha] at hl
  obtain⟨x,hx,hv⟩:=bind_some hl
  rw[DV] at hv
  obtain⟨V,R,h2⟩:=J.cell hr hx hv
  refine⟨V,?_,h2⟩
  simp only[Go.loadVar,Sem.run_bind,I.isAgg hi,ha,Result.andThen_ok]
  exact run_load R
 | true =>
  rw[ha] at hl
  obtain⟨cs,hc,hv⟩:=bind_some hl
  cases hv
  obtain⟨L,U,C,p⟩:=J.cells hr hc
  refine⟨.agg L.toArray,?_,.agg _ _ (sp C)⟩
  simp only[Go.loadVar,Sem.run_bind,I.isAgg hi,ha,Result.andThen_ok,if_true,I.size hs]
  rw[<-U,run_loadCells _ L (fun j V e=>by rw[mb];exact p j V e)]
  simp[Sem.run_pure]
def Yx (W W':World) (B:Nat) (C j:Array Value) (e:TypeId) (F:Nat × Nat):Prop :=
 W.heap[B]?=some (.cells C e F)/\W'.heap[B]?=some (.cells j e F)/\W'.heap.size=W.heap.size/\(∀ k,k≠B->W'.heap[k]?=W.heap[k]?)/\W'.os=W.os/\W'.tape=W.tape/\W'.output=W.output
theorem O3 {v:Value} (h:bX v=true):(∀ c,v≠.agg c)/\(∀ c,v≠.tuple c):=by
 constructor <;> (intro c e;subst e;cases h)
theorem aK.bX {ρ:bS} {v V:Value} (h:aK ρ v V) (hv:bX v=true):bX V=true:=by
 cases h <;> first | rfl | cases hv
theorem run_store {W:World} {b o:Nat} {C:Array Value} {e:TypeId} {F:Nat × Nat} {V:Value} (h:W.heap[b]?=some (.cells C e F)) (p:o<C.size) (hf:¬ (F.1<=o/\o<F.2)) (I:bX V=true) :
 ∃ W',(store ⟨b,o,none⟩ V).run P W=.ok () W'/\Yx W W' b C (C.setIfInBounds o V) e F:=by
 have hc:W.cell? ⟨b,o,none⟩=some C[o]:=MC h (by simp[p])
 have j:W.frozen? ⟨b,o,none⟩=false:=by
  simp only[World.frozen?,h]
  cases hh:(decide (F.1<=o)&&decide (o<F.2)) with
  | false=>rfl
  | true=>simp at hh;exact absurd hh hf
 refine⟨W.setCell ⟨b,o,none⟩ V,?_,h,?_,?_,?_,rfl,rfl,rfl⟩
 . have hr:(Sem.store Mode.plain ⟨b,o,none⟩ V (Sem.pure ())).run P W=.ok () (W.setCell ⟨b,o,none⟩ V):=by
    obtain⟨J,h2⟩:=O3 I
    cases V <;> first | (simp only[Sem.run,hc,j];rfl) | exact absurd rfl (J _) | exact absurd rfl (h2 _)
   exact hr
 . simp[World.setCell,Array.getElem?_modify,h]
 . simp[World.setCell]
 . intro k hk
   simp only[World.setCell,Array.getElem?_modify]
   rw[if_neg (fun e=>hk e.symm)]
theorem zC (b:Nat) (e:TypeId) (F:Nat × Nat) (o:Nat):∀ (L:List Value) (i:Nat) (W:World) (C:Array Value),W.heap[b]?=some (.cells C e F)->o+i+L.length<=C.size ->
 (∀ j,o+i<=j->j<o+i+L.length->¬ (F.1<=j/\j<F.2))->(∀ V ∈ L,bX V=true) ->
 ∃ W' J,(Go.storeCells ⟨b,o,none⟩ L i).run P W=.ok () W'/\Yx W W' b C J e F/\J.size=C.size ∧
  ∀ j,J[j]?=if o+i<=j/\j<o+i+L.length then L[j-(o+i)]? else C[j]?:=by
 intro L
 induction L with
 | nil =>
  intro i W C h _ _ _
  refine⟨W,C,?_,⟨h,h,rfl,fun _ _=>rfl,rfl,rfl,rfl⟩,rfl,fun j=>?_⟩
  . simp[Go.storeCells,Sem.run_pure]
  . rw[if_neg sm]
 | cons V L ih =>
  intro i W C h hlen hf hV
  simp only[List.length_cons] at hlen
  obtain⟨W1,hr,hs1,R,hs3,hs4,hs5,hs6,hs7⟩:=run_store (P:=P) (o:=o+i) h om (hf (o+i) nlr sm) (hV V (.head _))
  obtain⟨W2,C2,GB,⟨_,k2,k3,k4,k5,k6,k7⟩,tH,p⟩:=ih (i+1) W1 _ R so (fun j h1 h2=>hf j om so) (fun U hU=>hV U (.tail _ hU))
  refine⟨W2,C2,?_,⟨h,k2,k3.trans hs3,fun k hk=>(k4 k hk).trans (hs4 k hk),k5.trans hs5,k6.trans hs6,k7.trans hs7⟩,sp tH,fun j=>?_⟩
  . simp only[Go.storeCells,Sem.run_bind,mb,hr,Result.andThen_ok]
    exact GB
  . rw[p j]
    by_cases hj:j=o+i
    . subst hj
      rw[if_neg om,if_pos sm]
      have:o+i<C.size:=om
      simp[this]
    . by_cases I:o+(i+1)<=j/\j<o+(i+1)+L.length
      . rw[if_pos I,if_pos so]
        have:j-(o+i)=(j-(o+(i+1)))+1:=om
        rw[this];simp
      . rw[if_neg I,if_neg so]
        simp[Ne.symm hj]
end Go.X
namespace Go.X
open Go
variable {P:Program} {E:Env}
theorem cU (k:IntKind) (n:Int):mS k n=k.wrap n:=by
 cases k with
 | i8=>rfl
 | i16=>rfl
 | u16=>rfl
 | i64 =>
  show E5 18446744073709551616 9223372036854775808 n=_
  have e:IntKind.i64.wrap n=if n % 18446744073709551616 ≥ 9223372036854775808 then n % 18446744073709551616-18446744073709551616 else n % 18446744073709551616:=by
   simp[IntKind.wrap,IntKind.bits,IntKind.signed]
  rw[e]
  cases n with
  | ofNat m =>
   show Bool.rec (motive:=fun _=>Int) (Bool.rec (motive:=fun _=>Int) (.negSucc (18446744073709551616-1-m % 18446744073709551616)) (.ofNat (m % 18446744073709551616)) (Nat.ble (m % 18446744073709551616+1) 9223372036854775808)) (.ofNat m) (Nat.ble (m+1) 9223372036854775808)=_
   rw[aP,aP]
   by_cases j:m+1<=9223372036854775808
   . simp only[j,decide_true];split <;> simp only[Int.ofNat_eq_natCast] at * <;> omega
   . by_cases h2:m % 18446744073709551616+1<=9223372036854775808
     . simp only[j,h2,decide_true,decide_false];split <;> simp only[Int.ofNat_eq_natCast] at * <;> omega
     . simp only[j,h2,decide_false];split <;> simp only[Int.ofNat_eq_natCast,Int.negSucc_eq] at * <;> omega
  | negSucc m =>
   show Bool.rec (motive:=fun _=>Int) (Bool.rec (motive:=fun _=>Int) (.ofNat (18446744073709551616-1-m % 18446744073709551616)) (.negSucc (m % 18446744073709551616)) (Nat.ble (m % 18446744073709551616+1) 9223372036854775808)) (.negSucc m) (Nat.ble (m+1) 9223372036854775808)=_
   rw[aP,aP]
   by_cases j:m+1<=9223372036854775808
   . simp only[j,decide_true];split <;> simp only[Int.negSucc_eq] at * <;> omega
   . by_cases h2:m % 18446744073709551616+1<=9223372036854775808
     . simp only[j,h2,decide_true,decide_false];split <;> simp only[Int.negSucc_eq] at * <;> omega
     . simp only[j,h2,decide_false];split <;> simp only[Int.ofNat_eq_natCast,Int.negSucc_eq] at * <;> omega
 | i32 =>
  show E5 4294967296 2147483648 n=_
  have e:IntKind.i32.wrap n=if n % 4294967296 ≥ 2147483648 then n % 4294967296-4294967296 else n % 4294967296:=by
   simp[IntKind.wrap,IntKind.bits,IntKind.signed]
  rw[e]
  cases n with
  | ofNat m =>
   show Bool.rec (motive:=fun _=>Int) (Bool.rec (motive:=fun _=>Int) (.negSucc (4294967296-1-m % 4294967296)) (.ofNat (m % 4294967296)) (Nat.ble (m % 4294967296+1) 2147483648)) (.ofNat m) (Nat.ble (m+1) 2147483648)=_
   rw[aP,aP]
   by_cases j:m+1<=2147483648
   . simp only[j,decide_true];split <;> simp only[Int.ofNat_eq_natCast] at * <;> omega
   . by_cases h2:m % 4294967296+1<=2147483648
     . simp only[j,h2,decide_true,decide_false];split <;> simp only[Int.ofNat_eq_natCast] at * <;> omega
     . simp only[j,h2,decide_false];split <;> simp only[Int.ofNat_eq_natCast,Int.negSucc_eq] at * <;> omega
  | negSucc m =>
   show Bool.rec (motive:=fun _=>Int) (Bool.rec (motive:=fun _=>Int) (.ofNat (4294967296-1-m % 4294967296)) (.negSucc (m % 4294967296)) (Nat.ble (m % 4294967296+1) 2147483648)) (.negSucc m) (Nat.ble (m+1) 2147483648)=_
   rw[aP,aP]
   by_cases j:m+1<=2147483648
   . simp only[j,decide_true];split <;> simp only[Int.negSucc_eq] at * <;> omega
   . by_cases h2:m % 4294967296+1<=2147483648
     . simp only[j,h2,decide_true,decide_false];split <;> simp only[Int.negSucc_eq] at * <;> omega
     . simp only[j,h2,decide_false];split <;> simp only[Int.ofNat_eq_natCast,Int.negSucc_eq] at * <;> omega
 | u64 =>
  show Ky 18446744073709551616 n=_
  have e:IntKind.u64.wrap n=n % 18446744073709551616:=by simp[IntKind.wrap,IntKind.bits,IntKind.signed]
  rw[e]
  cases n with
  | ofNat m=>show Int.ofNat (m % 18446744073709551616)=_;simp only[Int.ofNat_eq_natCast];omega
  | negSucc m=>show Int.ofNat (18446744073709551616-1-m % 18446744073709551616)=_;simp only[Int.ofNat_eq_natCast,Int.negSucc_eq];omega
 | u32 =>
  show Ky 4294967296 n=_
  have e:IntKind.u32.wrap n=n % 4294967296:=by simp[IntKind.wrap,IntKind.bits,IntKind.signed]
  rw[e]
  cases n with
  | ofNat m=>show Int.ofNat (m % 4294967296)=_;simp only[Int.ofNat_eq_natCast];omega
  | negSucc m=>show Int.ofNat (4294967296-1-m % 4294967296)=_;simp only[Int.ofNat_eq_natCast,Int.negSucc_eq];omega
 | u8 =>
  show Ky 256 n=_
  have e:IntKind.u8.wrap n=n % 256:=by simp[IntKind.wrap,IntKind.bits,IntKind.signed]
  rw[e]
  cases n with
  | ofNat m=>show Int.ofNat (m % 256)=_;simp only[Int.ofNat_eq_natCast];omega
  | negSucc m=>show Int.ofNat (256-1-m % 256)=_;simp only[Int.ofNat_eq_natCast,Int.negSucc_eq];omega
theorem toList_data (s:ByteArray):s.toList=s.data.toList:=ByteArray.toList_eq ..
theorem Ib (k:IntKind) (n:Int):k.wrap (n % (2 ^ k.bits:Int))=k.wrap n:=by
 unfold IntKind.wrap
 rw[Int.emod_emod_of_dvd _ (Int.dvd_refl _)]
theorem Yy (k:IntKind) (a b:Int):Ec k Nat.land (fun a b=>k.wrap (BitVec.ofInt k.bits a &&& BitVec.ofInt k.bits b).toNat) a b=k.wrap (BitVec.ofInt k.bits a &&& BitVec.ofInt k.bits b).toNat:=by
 cases a with
 | ofNat a=>cases b with
  | ofNat b =>
   show mS k (.ofNat (Nat.land a b))=_
   rw[cU]
   have:(BitVec.ofInt k.bits (Int.ofNat a) &&& BitVec.ofInt k.bits (Int.ofNat b)).toNat=(a &&& b) % 2 ^ k.bits:=by
    simp[Nat.and_mod_two_pow]
   rw[this,<-Ib k (Int.ofNat (Nat.land a b))]
   congr 1
  | negSucc b=>rfl
 | negSucc a=>cases b <;> rfl
theorem AaL (k:IntKind) (a b:Int):Ec k Nat.lor (fun a b=>k.wrap (BitVec.ofInt k.bits a ||| BitVec.ofInt k.bits b).toNat) a b=k.wrap (BitVec.ofInt k.bits a ||| BitVec.ofInt k.bits b).toNat:=by
 cases a with
 | ofNat a=>cases b with
  | ofNat b =>
   show mS k (.ofNat (Nat.lor a b))=_
   rw[cU]
   have:(BitVec.ofInt k.bits (Int.ofNat a) ||| BitVec.ofInt k.bits (Int.ofNat b)).toNat=(a ||| b) % 2 ^ k.bits:=by
    simp[Nat.or_mod_two_pow]
   rw[this,<-Ib k (Int.ofNat (Nat.lor a b))]
   congr 1
  | negSucc b=>rfl
 | negSucc a=>cases b <;> rfl
theorem Yz (k:IntKind) (a b:Int):Ec k Nat.xor (fun a b=>k.wrap (BitVec.ofInt k.bits a ^^^ BitVec.ofInt k.bits b).toNat) a b=k.wrap (BitVec.ofInt k.bits a ^^^ BitVec.ofInt k.bits b).toNat:=by
 cases a with
 | ofNat a=>cases b with
  | ofNat b =>
   show mS k (.ofNat (Nat.xor a b))=_
   rw[cU]
   have:(BitVec.ofInt k.bits (Int.ofNat a) ^^^ BitVec.ofInt k.bits (Int.ofNat b)).toNat=(a ^^^ b) % 2 ^ k.bits:=by
    simp[Nat.xor_mod_two_pow]
   rw[this,<-Ib k (Int.ofNat (Nat.xor a b))]
   congr 1
  | negSucc b=>rfl
 | negSucc a=>cases b <;> rfl
theorem c8 {k k':IntKind} {x:Option Value} {v:Value} (h:fF k k' x=some v):k=k'/\x=some v:=by
 unfold fF at h
 cases e:uD k k' with
 | false=>rw[e] at h;cases h
 | true=>rw[e] at h;exact⟨xB e,h⟩
theorem C3 {a b:Int} (h:cx a b=false):a≠b:=by
 rw[iF] at h;simpa using h
theorem xD {op:BinOp} {t:TypeId} {k k':IntKind} {a b:Int} {v:Value} (h:HY op k a k' b=some v) (W:World) :
 (Go.binOp op t (.int k a) (.int k' b)).run P W=.ok v W:=by
 cases op with
 | add=>obtain⟨hk,hv⟩:=c8 h;subst hk;clear h;cases hv;simp[Go.binOp,Op.intArith,cU,Sem.run_pure]
 | sub=>obtain⟨hk,hv⟩:=c8 h;subst hk;clear h;cases hv;simp[Go.binOp,Op.intArith,cU,Sem.run_pure]
 | mul=>obtain⟨hk,hv⟩:=c8 h;subst hk;clear h;cases hv;simp[Go.binOp,Op.intArith,cU,Sem.run_pure]
 | quo =>
  obtain⟨hk,hv⟩:=c8 h
  subst hk;clear h
  cases e:cx b 0 with
  | true=>rw[e] at hv;cases hv
  | false=>rw[e] at hv;cases hv;simp[Go.binOp,Op.intDiv,cU,C3 e,Sem.run_pure]
 | rem =>
  obtain⟨hk,hv⟩:=c8 h
  subst hk;clear h
  cases e:cx b 0 with
  | true=>rw[e] at hv;cases hv
  | false=>rw[e] at hv;cases hv;simp[Go.binOp,Op.intDiv,C3 e,Sem.run_pure]
 | and=>obtain⟨hk,hv⟩:=c8 h;subst hk;clear h;cases hv;rw[Yy];simp[Go.binOp,Op.intBits,Sem.run_pure]
 | or=>obtain⟨hk,hv⟩:=c8 h;subst hk;clear h;cases hv;rw[AaL];simp[Go.binOp,Op.intBits,Sem.run_pure]
 | xor=>obtain⟨hk,hv⟩:=c8 h;subst hk;clear h;cases hv;rw[Yz];simp[Go.binOp,Op.intBits,Sem.run_pure]
 | shl =>
  change AaB k a b=some v at h
  cases a with
  | negSucc a=>cases b <;> cases h
  | ofNat a=>cases b with
   | negSucc b=>cases h
   | ofNat b =>
    cases h
    have j:¬ (Int.ofNat b<0):=sm
    simp only[Go.binOp,Op.shift,j,if_false,cU]
    show Result.ok _ W=_
    congr 3
    show Int.ofNat a * 2 ^ (min b k.bits)=Int.ofNat (Nat.shiftLeft a (Nat.min b k.bits))
    rw[show Nat.shiftLeft a (Nat.min b k.bits)=a * 2 ^ (min b k.bits) from Nat.shiftLeft_eq a _]
    simp
 | shr =>
  change AaC k a b=some v at h
  cases a with
  | negSucc a=>cases b <;> cases h
  | ofNat a=>cases b with
   | negSucc b=>cases h
   | ofNat b =>
    cases h
    have j:¬ (Int.ofNat b<0):=sm
    simp only[Go.binOp,Op.shift,j,if_false]
    show Result.ok _ W=_
    congr 2
    show Int.fdiv (Int.ofNat a) (2 ^ (min b k.bits))=Int.ofNat (Nat.shiftRight a (Nat.min b k.bits))
    rw[show Nat.shiftRight a (Nat.min b k.bits)=a / 2 ^ (min b k.bits) from Nat.shiftRight_eq_div_pow a _]
    rw[show ((2:Int) ^ (min b k.bits))=((2 ^ (min b k.bits):Nat):Int) from by simp,Int.fdiv_eq_ediv_of_nonneg _ (Int.natCast_nonneg _)]
    simp
 | andNot=>obtain⟨hk,hv⟩:=c8 h;subst hk;clear h;cases hv;simp[Go.binOp,Op.intBits,Sem.run_pure]
 | eql=>obtain⟨hk,hv⟩:=c8 h;subst hk;clear h;cases hv;simp[Go.binOp,Op.intCmp,iF,Sem.run_pure]
 | neq=>obtain⟨hk,hv⟩:=c8 h;subst hk;clear h;cases hv;simp[Go.binOp,Op.intCmp,iF,bne,Sem.run_pure]
 | lss=>obtain⟨hk,hv⟩:=c8 h;subst hk;clear h;cases hv;simp[Go.binOp,Op.intCmp,fI,Sem.run_pure];rw[<-decide_not];congr 1;simp
 | leq=>obtain⟨hk,hv⟩:=c8 h;subst hk;clear h;cases hv;simp[Go.binOp,Op.intCmp,fI,Sem.run_pure]
 | gtr=>obtain⟨hk,hv⟩:=c8 h;subst hk;clear h;cases hv;simp[Go.binOp,Op.intCmp,fI,Sem.run_pure];rw[<-decide_not];congr 1;simp
 | geq=>obtain⟨hk,hv⟩:=c8 h;subst hk;clear h;cases hv;simp[Go.binOp,Op.intCmp,fI,Sem.run_pure]
end Go.X
namespace Go.X
open Go
variable {P:Program} {E:Env}
theorem O4 {op:BinOp} {t:TypeId} {a b:ByteArray} {v:Value} (h:OY op a b=some v) (W:World):(Go.binOp op t (.string a) (.string b)).run P W=.ok v W:=by
 have o:∀ op,(Go.binOp op t (.string a) (.string b))=Op.stringOp op a b:=by intro op;cases op <;> rfl
 rw[o]
 have C:∀ x y:List UInt8,(!xq y x)=(Op.bytesLess x y||x == y):=by
  intro x
  induction x with
  | nil=>intro y;cases y <;> rfl
  | cons c x I =>
   intro y
   cases y with
   | nil=>rfl
   | cons d y =>
    have:=I y
    rw[BJ] at this ⊢
    simp only[Op.bytesLess]
    by_cases j:c=d
    . subst j
      simp only[UInt8.lt_irrefl,decide_false,Bool.false_or,BEq.rfl,Bool.true_and]
      rw[this];simp
    . have p:¬ d=c:=fun e=>j e.symm
      have J:(c == d)=false:=sp j
      have h2:(d == c)=false:=sp p
      have R:(c :: x == d :: y)=false:=by simp[j]
      rw[J,h2,R]
      simp only[Bool.false_and,Bool.or_false]
      rw[<-decide_not]
      congr 1
      rw[UInt8.lt_iff_toNat_lt,UInt8.lt_iff_toNat_lt]
      have:c.toNat≠d.toNat:=fun e=>j (UInt8.toNat_inj.1 e)
      simp;omega
 unfold OY at h
 cases op <;> simp only at h <;> first | (cases h;done) | skip
 case add =>
  rw[br,br,aP,dF] at h
  by_cases hb:a.data.toList.length+b.data.toList.length<=9223372036854775807
  . simp only[hb,decide_true,cond_true] at h
    cases h
    have hs:¬ (((a.size+b.size:Nat):Int) > IntKind.i64.max):=by
     have U:a.size=a.data.toList.length:=rfl
     have e2:b.size=b.data.toList.length:=rfl
     rw[U,e2]
     have:IntKind.i64.max=9223372036854775807:=by rfl
     rw[this];omega
    simp only[Op.stringOp,hs,if_false]
    show Result.ok _ W=_
    congr 2
  . simp only[hb,decide_false,cond_false] at h;cases h
 case eql=>cases h;simp only[Op.stringOp,toList_data,Sem.run_pure,kF]
 case neq=>cases h;simp only[Op.stringOp,toList_data,Sem.run_pure,kF]
 case lss=>cases h;simp only[Op.stringOp,toList_data,Sem.run_pure,BJ]
 case leq=>cases h;simp only[Op.stringOp,toList_data,Sem.run_pure,C]
 case gtr=>cases h;simp only[Op.stringOp,toList_data,Sem.run_pure];rw[<-C,Bool.not_not]
 case geq=>cases h;simp only[Op.stringOp,toList_data,Sem.run_pure,BJ]
theorem tB (C:bj P E) {ρ:bS} {t:TypeId} {cs:List Value} {o:Array Value} {off:Nat} {v:Value} (h:part E t cs off=some v) (hr:bc ρ cs o.toList) (W:World) :
 ∃ V,(Go.part t o off).run P W=.ok V W/\aK ρ v V:=by
 obtain⟨i,hi,j⟩:=bind_some h
 have hs:E.size t=some i.size:=by simp only[Env.size];rw[show E.types.get t=some i from hi];rfl
 cases ha:i.agg with
 | false =>
  rw[ha] at j
  change nth cs off=some v at j
  rw[DV] at j
  obtain⟨V,I,hv⟩:=hr.get off v j
  rw[Array.getElem?_toList] at I
  refine⟨V,?_,hv⟩
  simp only[Go.part,Sem.run_bind,C.isAgg hi,ha,Result.andThen_ok,Bool.false_eq_true,if_false,I]
  rfl
 | true =>
  rw[ha] at j
  obtain⟨c,hc,hv⟩:=bind_some j
  cases hv
  obtain⟨p,J⟩:=CY _ _ _ hc
  rw[qg] at p
  refine⟨.agg (o.extract off (off+i.size)),?_,.agg _ _ ?_⟩
  . simp only[Go.part,Sem.run_bind,C.isAgg hi,ha,Result.andThen_ok,if_true,C.size hs,Sem.run_pure]
  . rw[p]
    have e:(o.extract off (off+i.size)).toList=(o.toList.drop off).take i.size:=by
     rw[Array.toList_extract,List.extract_eq_take_drop];congr 1;omega
    rw[e]
    exact (hr.drop off).take _
theorem Eg (J:bj P E) {ρ:bS}:∀ (d:Nat) (t:TypeId) (x y X Y:Value) (b:Bool),Ze E d t x y=some b->aK ρ x X->aK ρ y Y->∀ (k:Nat) (W:World),(Op.equalIn (d+k) t X Y).run P W=.ok b W:=by
 intro d
 induction d with
 | zero=>intro t x y X Y b h;cases h
 | succ d ih =>
  intro t x y X Y b h hx p k W
  obtain⟨u,hu,hs⟩:=bind_some h
  have j:=J.dk hu
  have hd:d+1+k=(d+k)+1:=om
  rw[hd]
  unfold QJ at hs
  split at hs
  . cases hs;cases hx;cases p;simp[Op.equalIn,aB j,Sem.run_pure]
  . cases hx;cases p
    rename_i k1 a1 k2 a2
    cases hk:uD k1 k2 with
    | false=>rw[hk] at hs;cases hs
    | true =>
     rw[hk] at hs;cases hs
     have:=xB hk;subst this
     simp[Op.equalIn,aB j,iF,Sem.run_pure]
  . cases hs;cases hx;cases p
    simp only[Op.equalIn,Sem.run_bind,aB j,Result.andThen_ok,Sem.run_pure,kF,beq_toListBytes,toList_data]
  . cases hs;cases hx;cases p <;> simp[Op.equalIn,aB j,Sem.run_pure]
  . cases hs;cases hx;cases p;simp[Op.equalIn,aB j,Sem.run_pure]
  . rename_i el a1 b1
    obtain⟨sz,R,hs⟩:=bind_some hs
    have U:=J.size R W
    cases I:Cq a1 b1 with
    | false=>rw[I] at hs;cases hs
    | true =>
     rw[I] at hs;cases hs
     have hXY:∃ A:Addr,X=.pointer (some A)/\Y=.pointer (some A):=by
      cases hx with | ptr b o r hr=>cases p with | ptr b2 o2 r2 GB =>
      simp only[Cq,ax,Bool.and_eq_true,decide_eq_true_eq] at I
      obtain⟨g1,g2⟩:=I
      subst g1;subst g2
      rw[hr] at GB;cases GB
      exact⟨_,rfl,rfl⟩
     obtain⟨A,hX,hY⟩:=hXY
     subst hX;subst hY
     by_cases hz:sz=0
     . simp[Op.equalIn,aB j,Sem.run_pure,U,hz]
     . simp[Op.equalIn,aB j,Sem.run_pure,U,hz,sameAddr]
  . rename_i fields xs ys
    cases hm:A0 t E.eqs with
    | false=>rw[hm] at hs;cases hs
    | true =>
     rw[hm] at hs
     simp only[cond_true] at hs
     obtain⟨h1,h2,h3⟩:=J.eqs t (Ef _ _ hm)
     cases hx with | agg _ XS hxs=>cases p with | agg _ YS hys =>
     have hf:P.fieldsOf t=fields:=by simp only[Program.fieldsOf,j]
     rw[run_equalIn_struct W (d+k) t XS YS (by rw[hf];exact j) h1,hf]
     have h4:=h3 fields j
     clear j hf h3
     generalize fields.toList=fs at hs h4
     induction fs generalizing W with
     | nil=>cases hs;simp[Op.eqFields,Sem.run_pure]
     | cons f fs ihf =>
      obtain⟨a,ha,hs⟩:=bind_some hs
      obtain⟨c,hc,hs⟩:=bind_some hs
      obtain⟨r,hr,hs⟩:=bind_some hs
      obtain⟨A,hA,hra⟩:=tB J ha hxs W
      obtain⟨C,hC,hrc⟩:=tB J hc hys W
      have he:=ih f.type a c A C r hr hra hrc k W
      have hn:f.name≠"_":=h4 f (.head _)
      simp only[Op.eqFields]
      rw[if_pos hn]
      simp only[Sem.run_bind,hA,hC,he,Result.andThen_ok]
      cases r with
      | false=>cases hs;simp[Sem.run_pure]
      | true=>simp only[Bool.not_true,Bool.false_eq_true,if_false];exact ihf W hs (fun g hg=>h4 g (.tail _ hg))
  . cases hs;cases hx;cases p <;> simp[Op.equalIn,aB j,Sem.run_pure]
  . cases hs;cases hx;cases p;simp[Op.equalIn,aB j,Sem.run_pure]
  . cases hs;cases hx;cases p <;> simp[Op.equalIn,aB j,Sem.run_pure]
  . cases hs;cases hx;cases p;simp[Op.equalIn,aB j,Sem.run_pure]
  . cases hs;cases hx;cases p;simp[Op.equalIn,aB j,Sem.run_pure]
  . cases hs;cases hx;cases p;simp[Op.equalIn,aB j,Sem.run_pure]
  . cases hs;cases hx;cases p;simp[Op.equalIn,aB j,Sem.run_pure]
  . cases hs
end Go.X
