/- PrintAgain: of any text that is read as a formula, the text that is told of it is read as the same formula and told as it was. No conditions of its own. -/
import Derived.RangeFuncRecord
import Derived.Scope
import Derived.CallsIn
import Derived.TacticsIn
import Derived.OrdersIn
import Derived.RangeFuncIn
import Derived.RangeFuncLeaves
import Derived.Test.YtikojelnedfmpaaGreatDoorB
set_option linter.unusedSimpArgs false
set_option linter.unusedVariables false
namespace Go.X
open Go
variable {P:Program} {E:Env}
variable {ρ:bS} {h:H} {W:World} {a c:Operand->Value} {o:Oper}
def Afv (s:Sem Value):Sem Next:=do pure (.value (<-s))
theorem eU {s:Sem Value} {V:Value} {W W':World} (e:s.run P W=.ok V W'):(Afv s).run P W=.ok (.value V) W':=by
 simp only[Afv,Sem.run_bind,e,Result.andThen_ok,Sem.run_pure]
theorem FQ {ats:Array TypeId} {ty:TypeId} (R:aX ρ h W) {x X v:Value} {h':H} (hx:aK ρ x X) (hr:sx h x=some (.val v h')):∃ V,(Builtin.unsafeSliceData_ ats ty #[X]).run P W=.ok V W/\aK ρ v V/\h'=h:=by
 unfold sx at hr
 split at hr
 . cases hr
   cases hx
   exact⟨_,rfl,.Lz,rfl⟩
 . rename_i a n c
   rw[ax] at hr
   by_cases e:c=0
   . simp[e] at hr
   . simp only[e,decide_false] at hr
     cases hr
     cases hx with
     | slice b of _ _ A C r j hsr =>
      have p:=hsr.cap
      have I:C≠0:=om
      have J:=hsr.addr (.inr om)
      subst J
      refine⟨.pointer (some ⟨r.dH,r.base+of,none⟩),?_,.ptr b of r j,rfl⟩
      cases C with
      | zero=>exact absurd rfl I
      | succ C=>rfl
 . cases hr
theorem Vg {ρ:bS}:∀ (cs j:List Value) (bs:List UInt8),bytesOf cs=some bs->bc ρ cs j->∃ ns:List Int,j=ns.map (Value.int .u8)/\bs=ns.map fun n=>UInt8.ofNat n.toNat:=by
 intro cs
 induction cs with
 | nil=>intro j bs C h2;cases C;cases h2;exact⟨[],rfl,rfl⟩
 | cons v cs U =>
  intro j bs C h2
  cases h2 with
  | cons _ V _ L hv hl =>
   obtain⟨b,hb,C⟩:=bind_some C
   have p:Option.rec (motive:=fun _=>Option (List UInt8)) none (fun r=>some (b :: r)) (bytesOf cs)=some bs:=C
   cases I:bytesOf cs with
   | none=>rw[I] at p;cases p
   | some r =>
    rw[I] at p;cases p
    obtain⟨ns,J,R⟩:=U L r I hl
    unfold byteOf at hb
    split at hb
    . rename_i m
      cases hb
      have:=hv.ee
      subst this
      exact⟨m :: ns,by rw[J];rfl,by rw[R];rfl⟩
    . cases hb
theorem Io {W:World}:∀ (ns:List Int) (b o:Nat) (acc:ByteArray),(∀ (j:Nat) (n:Int),ns[j]?=some n->W.cell? ⟨b,o+j,none⟩=some (.int .u8 n))->(Go.loadBytes ⟨b,o,none⟩ acc ns.length).run P W=.ok ⟨⟨acc.data.toList++ns.map fun n=>UInt8.ofNat n.toNat⟩⟩ W:=by
 intro ns
 induction ns with
 | nil=>intro b o acc _;simp[Go.loadBytes,Sem.run_pure]
 | cons n ns C =>
  intro b o acc hc
  have h0:W.cell? ⟨b,o,none⟩=some (.int .u8 n):=by simpa using hc 0 n rfl
  have p:=C b (o+1) (acc.push n.toNat.toUInt8) fun j m e=>by rw[show o+1+j=o+(j+1) by omega];exact hc (j+1) m (sp e)
  have ha:(⟨b,o,none⟩:Addr).add 1=⟨b,o+1,none⟩:=rfl
  simp only[List.length_cons,Go.loadBytes,Sem.run_bind,Go.X.run_load h0,Result.andThen_ok,ha]
  rw[p]
  congr 1
  apply ByteArray.ext
  simp[ByteArray.push]
theorem Vh {e:TypeId} (hc:P.cellsOf e=1) (count off n:Nat) (hn:off+n<=count):liesAt P P.depth e count off e n=true:=by
 have hd:P.depth=(2 * (P.types.size+Made.depth)+1)+1:=rfl
 rw[hd]
 simp only[liesAt,Bool.or_eq_true]
 left
 rw[hd]
 simp[rowAt,hc,hn,sameLayout,Nat.mod_one]
theorem E_ (W:World) (a:Addr) (n B:Nat) (j:B≠a.block):(W.freeze a n).heap[B]?=W.heap[B]?:=by
 unfold World.freeze
 split
 . rfl
 . show (W.heap.modify a.block _)[B]?=_
   rw[Array.getElem?_modify,if_neg (fun h=>j h.symm)]
theorem QU (W:World) (b o n:Nat) (hn:n≠0) {C:Array Value} {e:TypeId} {F:Nat × Nat} (h:W.heap[b]?=some (.cells C e F)):∃ j:Nat × Nat,(W.freeze ⟨b,o,none⟩ n).heap[b]?=some (.cells C e j)/\j.2<=max F.2 (o+n):=by
 unfold World.freeze
 rw[if_neg hn]
 show ∃ j:Nat × Nat,(W.heap.modify b _)[b]?=_/\_
 rw[Array.getElem?_modify,if_pos rfl,h]
 obtain⟨lo,hi⟩:=F
 refine⟨_,rfl,?_⟩
 show (if (lo == hi)=true then (o,o+n) else (min lo o,max hi (o+n))).2<=max hi (o+n)
 split
 . exact Nat.le_max_right _ _
 . exact Nat.le_refl _
theorem Tf (a b:Nat):(Nat.rec (motive:=fun _=>Nat) a (fun _ _=>b) (b-a):Nat)=max a b:=by
 cases e:b-a with
 | zero=>show a=_;omega
 | succ k=>show b=_;omega
theorem Vi {x:IP} {F p:Nat × Nat} {r:RI} (I:(x.ro=false->∀ j,r.base+x.ib<=j->j<r.S+(if x.osz=0 then 1 else 0)->¬ (F.1<=j/\j<F.2))/\(x.ro=false->x.osz=0->F.2<=r.base+x.ib)) (J:x.ro=false) {o n:Nat} (R:p.2<=max F.2 (r.base+o+n)) :
 ((kY x (o+n)).ro=false->∀ j,r.base+(kY x (o+n)).ib<=j->j<r.S+(if (kY x (o+n)).osz=0 then 1 else 0)->¬ (p.1<=j/\j<p.2))/\((kY x (o+n)).ro=false->(kY x (o+n)).osz=0->p.2<=r.base+(kY x (o+n)).ib):=by
 obtain⟨cs,e,osz,ib,ro⟩:=x
 cases osz with
 | succ k =>
  have C:(kY ⟨cs,e,k+1,ib,ro⟩ (o+n)).ro=true:=rfl
  exact⟨fun q=>(by rw[C] at q;cases q),fun q=>(by rw[C] at q;cases q)⟩
 | zero =>
  have h2:=I.2 J rfl
  have U:(kY ⟨cs,e,0,ib,ro⟩ (o+n)).ib=max ib (o+n):=Tf _ _
  have key:p.2<=r.base+(kY ⟨cs,e,0,ib,ro⟩ (o+n)).ib:=by
   rw[U]
   have h3:F.2<=r.base+ib:=h2
   omega
  exact⟨fun _ j q1 _ q3=>by omega,fun _ _=>key⟩
theorem C_ {ats:Array TypeId} {ty:TypeId} {y:Value}:Builtin.unsafeString_ ats ty #[.pointer none,y]=(do
 let n<-asInt y
 let some pt:=ats[0]? | stuck "unsafe.String: no argument types"
 if n<0 then runtimePanic (.error "unsafe.String: len out of range")
 if n > IntKind.i64.max then unsupported (.unsafePointer "String: a length above the largest int")
 if n=0 then pure (.string .empty)
 else runtimePanic (.error "unsafe.String: ptr is nil and len is not zero")):=rfl
theorem uF {ats:Array TypeId} {ty:TypeId} {a:Addr} {y:Value}:Builtin.unsafeString_ ats ty #[.pointer (some a),y]=(do
 let n<-asInt y
 let some pt:=ats[0]? | stuck "unsafe.String: no argument types"
 if n<0 then runtimePanic (.error "unsafe.String: len out of range")
 if n > IntKind.i64.max then unsupported (.unsafePointer "String: a length above the largest int")
 if n=0 then pure (.string .empty)
 else if<-variablesAt a (<-elemOf pt) n.toNat then do
  let s<-Go.loadBytes a .empty n.toNat
  freeze a n.toNat
  pure (.string s)
 else unsupported (.unsafePointer "String: not so many bytes at ptr")):=rfl
theorem FT (hE:bj P E) (hH:aX ρ h W) {ats:Array TypeId} {ty:TypeId} {p n X Y v:Value} {h':H} (hp:aK ρ p X) (hn:aK ρ n Y) (hr:pg E h ats.toList p n=some (.val v h')) :
 ∃ W',(Builtin.unsafeString_ ats ty #[X,Y]).run P W=.ok v W'/\(∃ s,v=.string s)/\aX ρ h' W'/\Ext ρ h W ρ h' W':=by
 unfold pg at hr
 split at hr
 . rename_i p n
   obtain⟨pt,hpt,I⟩:=bind_some hr
   clear hr
   rw[fD,Array.getElem?_toList] at hpt
   have hY:Y=.int .i64 (n:Int):=by have:=hn.ee;exact this
   subst hY
   have R:IntKind.i64.max=9223372036854775807:=rfl
   rw[ax] at I
   by_cases e0:n=0
   . subst e0
     simp only[decide_true] at I
     cases I
     refine⟨W,?_,⟨_,rfl⟩,hH,Ext.refl _ _ _⟩
     cases p with
     | none =>
      cases hp
      rw[C_]
      simp[hpt,asInt,asIntOf,R];rfl
     | some a =>
      cases hp with
      | ptr b o r Te =>
       rw[uF]
       simp[hpt,asInt,asIntOf,R];rfl
   . simp only[e0,decide_false] at I
     cases p with
     | none=>cases I
     | some a =>
      cases hp with
      | ptr b o r Te =>
       have GB:SW E h pt ⟨b,o,none⟩ n=some (.val v h'):=I
       obtain⟨u,hu,IR⟩:=bind_some GB
       have hU:=hE.dk hu
       split at IR
       . rename_i e
         obtain⟨sz,tH,Zm⟩:=bind_some IR
         obtain⟨x,hx,Tg⟩:=bind_some Zm
         obtain⟨cs,IQ,hr6⟩:=bind_some Tg
         obtain⟨l,hl,hr7⟩:=bind_some hr6
         obtain⟨U,hr8⟩:=jI hr7
         cases hr8
         simp only[ax,aP,Bool.and_eq_true,Bool.not_eq_true',decide_eq_true_eq] at U
         obtain⟨⟨⟨c1,c2⟩,c3⟩,c4⟩:=U
         have Gx:=H.pS hx
         obtain⟨C,F,k1,k2,k3,k4,k5,k6,k7⟩:=hH.obj b _ r Gx Te
         obtain⟨t1,t2⟩:=CY _ _ _ IQ
         rw[qg] at t1 t2
         have hof:(⟨b,o,none⟩:Addr).off=o:=rfl
         rw[hof] at t1 t2
         have hlen:o+n<=x.cs.length:=by rw[List.length_drop] at t2;omega
         -- DB bytes
         have FP:∃ NEW,bc ρ cs NEW/\NEW.length=n/\∀ (j:Nat) (V:Value),NEW[j]?=some V->C[r.base+o+j]?=some V:=by
          refine⟨(C.toList.drop (r.base+o)).take n,bc.BK ?_ ?_,?_,?_⟩
          . rw[t1];simp;omega
          . intro i w J
            rw[t1,List.getElem?_take] at J
            split at J
            . rename_i hi
              rw[List.getElem?_drop] at J
              obtain⟨V,hV,hv⟩:=k6 _ _ J
              refine⟨V,?_,hv⟩
              rw[List.getElem?_take,if_pos hi,List.getElem?_drop,Array.getElem?_toList,<-hV]
              congr 1;omega
            . cases J
          . simp;omega
          . intro j V J
            rw[List.getElem?_take] at J
            split at J
            . rw[List.getElem?_drop,Array.getElem?_toList] at J
              exact J
            . cases J
         obtain⟨NEW,q1,q2,q3⟩:=FP
         obtain⟨ns,n1,n2⟩:=Vg cs NEW l hl q1
         have hnl:ns.length=n:=by rw[<-q2,n1,List.length_map]
         have Afw:∀ (j:Nat) (m:Int),ns[j]?=some m->W.cell? ⟨r.dH,r.base+o+j,none⟩=some (.int .u8 m):=by
          intro j m J
          have:=q3 j (.int .u8 m) (by rw[n1,List.getElem?_map,J];rfl)
          simp[World.cell?,k1,this]
         have hlb:=Io (P:=P) (W:=W) ns r.dH (r.base+o) .empty Afw
         rw[hnl] at hlb
         have hco:P.cellsOf e=1:=by
          obtain⟨i,hi,hd⟩:=bind_some tH
          cases hd
          obtain⟨j,hj,YA,_⟩:=hE.dO e i hi
          unfold Program.cellsOf
          rw[hj];show j.size=1;rw[YA];exact c1
         have Afx:=Vh (P:=P) hco C.size (r.base+o) n om
         obtain⟨F',hF',hF2⟩:=QU W r.dH (r.base+o) n e0 k1
         have h63:¬ (9223372036854775807:Int)<(n:Int):=om
         have Ahj:¬ (n:Int)<0:=om
         have PL:l.toArray=(⟨ns.map fun n=>UInt8.ofNat n.toNat⟩:Array UInt8):=by rw[n2]
         refine⟨W.freeze ⟨r.dH,r.base+o,none⟩ n,?_,⟨_,rfl⟩,?_,?_⟩
         . subst c2
           rw[uF]
           simp[hpt,asInt,asIntOf,R,h63,Ahj,e0,variablesAt,shape,Sem.run,World.shape?,k1,elemOf,aB hU,Afx,hlb,hco,freeze,n2]
         . exact hH.AaK b _ _ r Gx c4 Te (by unfold World.freeze;split <;> simp) (fun B hB=>E_ W _ n B hB) ⟨C,F',hF',k2,k3,k4,k5,k6,Vi k7 c4 hF2⟩
         . refine Ext.put b _ _ r Gx c4 Te (by unfold World.freeze;split <;> simp) (fun B hB=>E_ W _ n B hB) ?_ ?_ ?_ <;> (unfold World.freeze;split <;> rfl)
       . cases IR
 . cases hr
theorem Da {ats:Array TypeId} {ty:TypeId} {least:Bool} {x y X Y v:Value} {h':H} (hx:aK ρ x X) (j:aK ρ y Y) (hr:zq h least x y=some (.val v h')) :
 ∃ V,(if least then Builtin.min_ ats ty #[X,Y] else Builtin.max_ ats ty #[X,Y]).run P W=.ok V W/\aK ρ v V/\h'=h:=by
 unfold zq at hr
 split at hr
 . rename_i k a k' b
   cases hr
   have p:=hx.ee
   have C:=j.ee
   subst p;subst C
   refine⟨_,?_,.int _ _,rfl⟩
   cases least with
   | true =>
    show (Builtin.min_ ats ty #[.int k a,.int k' b]).run P W=_
    rw[show Builtin.min_ ats ty #[.int k a,.int k' b]=pure (.int k (if b<a then b else a)) from rfl,Sem.run_pure]
    show _=Result.ok (Value.int k (Bool.rec (motive:=fun _=>Int) b a (gn a b))) W
    rw[fI]
    by_cases q:a<=b
    . rw[if_neg om];simp[q]
    . rw[if_pos om];simp[q]
   | false =>
    show (Builtin.max_ ats ty #[.int k a,.int k' b]).run P W=_
    rw[show Builtin.max_ ats ty #[.int k a,.int k' b]=pure (.int k (if a<b then b else a)) from rfl,Sem.run_pure]
    show _=Result.ok (Value.int k (Bool.rec (motive:=fun _=>Int) b a (gn b a))) W
    rw[fI]
    by_cases q:b<=a
    . rw[if_neg om];simp[q]
    . rw[if_pos om];simp[q]
 . cases hr
theorem Cf (a b:Int):(if b<a then b else a)=(Bool.rec (motive:=fun _=>Int) b a (gn a b):Int):=by
 rw[fI]
 by_cases q:a<=b
 . rw[if_neg om];simp[q]
 . rw[if_pos om];simp[q]
theorem QV {ats:Array TypeId} {ty:TypeId} {x y z X Y Z v:Value} {h':H} (hx:aK ρ x X) (p:aK ρ y Y) (hz:aK ρ z Z) (hr:X' h x y z=some (.val v h')) :
 ∃ V,(Builtin.min_ ats ty #[X,Y,Z]).run P W=.ok V W/\aK ρ v V/\h'=h:=by
 unfold X' at hr
 split at hr
 . rename_i k a k' b j c
   cases hr
   have C:=hx.ee
   have I:=p.ee
   have J:=hz.ee
   subst C;subst I;subst J
   refine⟨_,?_,.int _ _,rfl⟩
   show (Builtin.min_ ats ty #[.int k a,.int k' b,.int j c]).run P W=_
   rw[show Builtin.min_ ats ty #[.int k a,.int k' b,.int j c]=pure (.int k (if c<(if b<a then b else a) then c else (if b<a then b else a))) from rfl,Sem.run_pure,Cf,Cf]
 . cases hr
theorem Ip (hE:bj P E) (U:aX ρ h W) (b:Builtin) (ats:Array TypeId) (ty:TypeId) (YG:Array Bool) (xs:List Value) (XS:List Value) (hx:bc ρ xs XS) {v:Value} {h':H} (hr:bq E h b ats xs=some (.val v h')) :
 ∃ bY W' V,(Go.builtin b ats ty YG XS.toArray).run P W=.ok (.value V) W'/\aK bY v V/\aX bY h' W'/\Ext ρ h W bY h' W':=by
 unfold bq at hr
 split at hr
 . rename_i s x
   obtain⟨st,O_,I⟩:=bind_some hr
   cases hx with
   | cons _ S _ L hs hl =>
    cases hl with
    | cons _ X _ L2 Sf j =>
     cases j
     obtain⟨bY,W',V,C,J,k2,k3⟩:=MF (P:=P) hE U ats ty st O_ hs Sf I
     exact⟨bY,W',V,eU C,J,k2,k3⟩
 . rename_i d s
   obtain⟨st,O_,I⟩:=bind_some hr
   cases hx with
   | cons _ S _ L hs hl =>
    cases hl with
    | cons _ X _ L2 Sf j =>
     cases j
     obtain⟨W',C,J,k2,k3⟩:=O8 (P:=P) hE U ats ty st O_ hs Sf I
     have hv:∃ n,v=.int .i64 n:=by
      clear C J k2 k3
      obtain⟨u,hu,p⟩:=bind_some I
      split at p
      . obtain⟨sz,_,IR⟩:=bind_some p
        obtain⟨sl,_,Zm⟩:=bind_some IR
        obtain⟨cs,_,R⟩:=bind_some Zm
        split at R
        . cases hz:Nat.beq (Nat.min sl _ * sz) 0 with
          | true=>rw[hz] at R;cases R;exact⟨_,rfl⟩
          | false =>
           rw[hz] at R
           obtain⟨_,_,e⟩:=map_some R
           cases e;exact⟨_,rfl⟩
        . cases R;exact⟨_,rfl⟩
      . cases p
     obtain⟨n,rfl⟩:=hv
     exact⟨ρ,W',_,eU C,.int _ _,k2,k3⟩
 . rename_i x
   obtain⟨t,ht,I⟩:=bind_some hr
   obtain⟨u,hu,p⟩:=bind_some I
   have hU:=hE.dk hu
   rw[fD,Array.getElem?_toList] at ht
   cases hx with
   | cons _ X _ L hxx hl =>
    cases hl
    split at p
    . cases p
      have:=hxx.C5
      subst this
      refine⟨ρ,W,_,eU ?_,.int _ _,U,Ext.refl _ _ _⟩
      simp[Builtin.len_,ht,aB hU,goInt,br]
    . cases p
      refine⟨ρ,W,_,eU ?_,.int _ _,U,Ext.refl _ _ _⟩
      simp[Builtin.len_,ht,aB hU,goInt,br]
    . cases p
      cases hxx
      . refine⟨ρ,W,_,eU ?_,.int _ _,U,Ext.refl _ _ _⟩
        simp[Builtin.len_,ht,aB hU,goInt,br]
      . refine⟨ρ,W,_,eU ?_,.int _ _,U,Ext.refl _ _ _⟩
        simp[Builtin.len_,ht,aB hU,goInt,br]
    . cases p
 . cases hx with
   | cons _ X _ L hs hl =>
    cases hl
    obtain⟨V,C,J,rfl⟩:=FQ (P:=P) (ats:=ats) (ty:=ty) U hs hr
    exact⟨ρ,W,V,eU C,J,U,Ext.refl _ _ _⟩
 . cases hx with
   | cons _ X _ L hs hl =>
    cases hl with
    | cons _ Y _ L2 hy j =>
     cases j
     obtain⟨V,C,J,rfl⟩:=Da (P:=P) (W:=W) (ats:=ats) (ty:=ty) hs hy hr
     exact⟨ρ,W,V,eU C,J,U,Ext.refl _ _ _⟩
 . cases hx with
   | cons _ X _ L hs hl =>
    cases hl with
    | cons _ Y _ L2 hy j =>
     cases j
     obtain⟨V,C,J,rfl⟩:=Da (P:=P) (W:=W) (ats:=ats) (ty:=ty) hs hy hr
     exact⟨ρ,W,V,eU C,J,U,Ext.refl _ _ _⟩
 . cases hx with
   | cons _ X _ L hs hl =>
    cases hl with
    | cons _ Y _ L2 hy j =>
     cases j with
     | cons _ Z _ L3 hz hl3 =>
      cases hl3
      obtain⟨V,C,J,rfl⟩:=QV (P:=P) (W:=W) (ats:=ats) (ty:=ty) hs hy hz hr
      exact⟨ρ,W,V,eU C,J,U,Ext.refl _ _ _⟩
 . cases hx with
   | cons _ X _ L hs hl =>
    cases hl with
    | cons _ Y _ L2 hy j =>
     cases j
     obtain⟨W',C,⟨s,rfl⟩,J,k2⟩:=FT (P:=P) (ty:=ty) hE U hs hy hr
     exact⟨ρ,W',_,eU C,.string s,J,k2⟩
 . cases hr
def AaP (P:Program) (ρ:bS) (W:World) (f:FuncId) (args:List Value) (s:Sem Next):Prop :=
 ∃ ARGS:List Value,bc ρ args ARGS/\(∀ (fd:Func) (body:Code),P.funcs[f]?=some fd->fd.body=some body->s.run P W=.ok (.enter f ARGS.toArray) W) ∧
  ∀ (fd:Func) (e:Array Value->Sem Value) (V:Value) (W':World),P.funcs[f]?=some fd->fd.body=none->Extern.findNext fd=none->Extern.find fd=some e->(e ARGS.toArray).run P W=.ok V W'->s.run P W=.ok (.value V) W'
def ROk (P:Program) (ρ:bS) (h:H) (W:World) (r:R) (s:Sem Next):Prop :=
 match r with
 | .val v h'=>mc P ρ h W v h' s
 | .enter f args=>AaP P ρ W f args s
 | .round l args=>∃ (st:LoopState) (pd:Option Code) (f0:FuncId) (tm:B) (ps:List Tmp) (zQq bd:Code) (d0:Nat) (j:RI) (T:Array Value) (fn:FuncId) (d:Nat) (ARGS:List Value),
  h.get l=some (.loop st pd f0 tm ps zQq bd d0)/\ρ l=some j/\gr ρ tm T/\W.heap[j.dH]?=some (.loop { state:=st,pending:=pd,fn,tmps:=T,params:=ps.toArray,assign:=zQq,body:=bd,defers:=d }) ∧
  bc ρ args ARGS/\args.length=ps.length/\s.run P W=.ok (.round j.dH fn ((ps.toArray.zip ARGS.toArray).foldl (fun tmps (t,a)=>tmps.setIfInBounds t a) T) zQq bd) W
theorem QW (c:Nat):∀ (l:List UInt8) (i:Nat),(∃ j,∃ h:j<l.length,l[j].toNat=c/\(∀ k (hk:k<l.length),k<j->l[k].toNat≠c)/\xY c l i=((i+j:Nat):Int))\/((∀ k (hk:k<l.length),l[k].toNat≠c)/\xY c l i=-1):=by
 intro l
 induction l with
 | nil=>intro i;exact .inr ⟨fun k hk=>by simp at hk,rfl⟩
 | cons b l C =>
  intro i
  show (∃ j,_)\/(_/\(bif Nat.beq b.toNat c then (i:Int) else xY c l (i+1))=-1)
  rw[ax]
  by_cases e:b.toNat=c
  . refine .inl ⟨0,sm,e,fun k _ hk=>by omega,?_⟩
    show (bif Nat.beq b.toNat c then (i:Int) else xY c l (i+1))=_
    rw[ax];simp[e]
  . rcases C (i+1) with ⟨j,I,p,h2,J⟩ | ⟨p,h2⟩
    . refine .inl ⟨j+1,sp I,sp p,?_,?_⟩
      . intro k hk R
        cases k with
        | zero=>exact e
        | succ k=>exact h2 k (sp hk) om
      . show (bif Nat.beq b.toNat c then (i:Int) else xY c l (i+1))=_
        rw[ax]
        simp only[e,decide_false,cond_false]
        rw[J];omega
    . refine .inr ⟨?_,by simp[e,h2]⟩
      intro k hk
      cases k with
      | zero=>exact e
      | succ k=>exact p k (sp hk)
theorem Co {P:Program} {W:World} (l:List UInt8) (c:Nat):(Extern.BytealgIndexByte.indexByte #[.string ⟨⟨l⟩⟩,.int .u8 (Int.ofNat c)]).run P W=.ok (.int .i64 (xY (Nat.mod c 256) l 0)) W:=by
 have hc:(Int.ofNat c).toNat.toUInt8.toNat=Nat.mod c 256:=by
  show (UInt8.ofNat c).toNat=c % 256
  simp
 have C:Extern.BytealgIndexByte.indexByte #[.string ⟨⟨l⟩⟩,.int .u8 (Int.ofNat c)]=(do
  let b<-(pure ⟨⟨l⟩⟩:Sem ByteArray)
  let c<-(pure (Int.ofNat c).toNat.toUInt8:Sem UInt8)
  match (List.range b.size).find? fun i=>b[i]! == c with
  | some i=>pure (goInt i)
  | none=>pure (goInt (-1))):=rfl
 rw[C]
 simp only[Sem.run_bind,Sem.run_pure,Result.andThen_ok]
 have J:(⟨⟨l⟩⟩:ByteArray).size=l.length:=rfl
 have p:∀ i (h:i<l.length),((⟨⟨l⟩⟩:ByteArray)[i]!)=l[i]:=by
  intro i h
  rw[getElem!_pos (⟨⟨l⟩⟩:ByteArray) i h]
  rfl
 rw[J]
 rcases QW (Nat.mod c 256) l 0 with ⟨j,U,R,h2,h3⟩ | ⟨R,h2⟩
 . have:(List.range l.length).find? (fun i=>(⟨⟨l⟩⟩:ByteArray)[i]! == (Int.ofNat c).toNat.toUInt8)=some j:=by
    rw[List.find?_range_eq_some]
    refine⟨?_,sp U,?_⟩
    . rw[p j U]
      simp only[beq_iff_eq]
      exact UInt8.toNat_inj.1 (by rw[R,hc])
    . intro k hk
      rw[p k om]
      simp only[Bool.not_eq_true',beq_eq_false_iff_ne,ne_eq]
      intro q
      exact h2 k om hk (by rw[q,hc])
   rw[this,h3]
   simp[Sem.run_pure,goInt]
 . have:(List.range l.length).find? (fun i=>(⟨⟨l⟩⟩:ByteArray)[i]! == (Int.ofNat c).toNat.toUInt8)=none:=by
    rw[List.find?_eq_none]
    intro k hk
    have I:k<l.length:=sp hk
    rw[p k I]
    simp only[beq_iff_eq]
    intro q
    exact R k I (by rw[q,hc])
   rw[this,h2]
   simp[Sem.run_pure,goInt]
theorem QX {f:FuncId} {k:Nat} {fd:Func} {e:Array Value->Sem Value} (h0:k=0->e=Extern.AbiNoEscape.same) (h2:k=2->e=Extern.BytealgIndexByte.indexByte) {args ARGS:List Value} {v:Value} (p:bc ρ args ARGS) (hr:AaD k args=some v):∃ V,(e ARGS.toArray).run P W=.ok V W/\aK ρ v V:=by
 unfold AaD at hr
 split at hr
 . cases hr
   have:=h0 rfl
   subst this
   cases p with
   | cons _ X _ L hx hl=>cases hl;exact⟨X,rfl,hx⟩
 . rename_i s c
   cases hr
   have:=h2 rfl
   subst this
   cases p with
   | cons _ X _ L hx hl =>
    cases hl with
    | cons _ Y _ L2 C j =>
     cases j
     cases hx
     have:=C.ee
     subst this
     exact⟨_,Co s.data.toList c,.int _ _⟩
 . cases hr
theorem Db (hE:bj P E) (hH:aX ρ h W) {g:FuncId} {args ARGS:List Value} (hA:bc ρ args ARGS) {r:R} (hr:vm E h g args=some r) {s:Sem Next} (hs:s.run P W=(callFunc g ARGS.toArray).run P W):ROk P ρ h W r s:=by
 have I:r=.enter g args\/∃ k v,h_ g E.xs=some k/\k≠3/\AaD k args=some v/\r=.val v h:=by
  unfold vm at hr
  split at hr
  . cases hr;exact .inl rfl
  . rename_i k hk
    split at hr
    . cases hr;exact .inl rfl
    . rename_i U
      obtain⟨v,hv,IS⟩:=map_some hr
      exact .inr ⟨k,v,hk,U,hv,IS.symm⟩
 rcases I with I | ⟨k,v,hk,U,hxl,I⟩
 . subst I
   refine⟨ARGS,hA,?_,?_⟩
   . intro fd body p j
     have C:=hE.num g fd p
     rw[hs]
     unfold callFunc
     simp only[Sem.run_bind,run_program,Result.andThen_ok,p]
     simp[C,j,Sem.run_pure]
   . intro fd e V W' p j hn he J
     have C:=hE.num g fd p
     rw[hs]
     unfold callFunc
     simp only[Sem.run_bind,run_program,Result.andThen_ok,p]
     simp[C,j,Sem.run_pure,hn,he,mark,Sem.run_bind,Sem.run,J]
 . subst I
   obtain⟨fd,e,p,j,hn,he,he0,he2⟩:=hE.ext g k hk U
   obtain⟨V,J,hv⟩:=QX (P:=P) (W:=W) (f:=g) (fd:=fd) he0 he2 hA hxl
   refine mc.pure hH ?_ hv
   have C:=hE.num g fd p
   rw[hs]
   unfold callFunc
   simp only[Sem.run_bind,run_program,Result.andThen_ok,p]
   simp[C,j,Sem.run_pure,hn,he,mark,Sem.run_bind,Sem.run,J]
theorem YH (name:String):∀ l:List Method,SU name l=l.find? (·.name == name):=by
 intro l
 induction l with
 | nil=>rfl
 | cons m l j =>
  show (bif m.name == name then some m else SU name l)=_
  rw[List.find?_cons,j]
  cases (m.name == name) <;> rfl
theorem QY (I:bj P E) {t:TypeId} {name:String} {f:FuncId} (hm:SV E t name=some f) (V:Value) (n:Nat) (W:World):(method (n+1) t V name).run P W=.ok (f,V) W:=by
 obtain⟨i,hi,hm⟩:=bind_some hm
 split at hm
 . rename_i e he
   obtain⟨m,hf,hm⟩:=bind_some hm
   split at hm
   . rename_i U J p
     cases hm
     obtain⟨j,R,_,_,_,hu,_,C⟩:=I.dO t i hi
     rw[YH,C,Array.find?_toList] at hf
     rw[he] at hu
     unfold method
     simp only[Sem.run_bind,H' R,Result.andThen_ok,hf,J,follow,Sem.run_pure,p,receiverAt,aB hu,Place.get]
   . cases hm
 . cases hm
theorem JG (hE:bj P E) (hH:aX ρ h W) (I:Call) (ho:o.op=.call I) (hx:∀ x ∈ I.args.toList,aK ρ (a x) (c x)) (hf:∀ f,I.callee=.value f->aK ρ (a f) (c f)) (hf2:∀ x n,I.callee=.invoke x n->aK ρ (a x) (c x)) {r:R} (hr:Ad E h a I=some r):ROk P ρ h W r (execOp c o):=by
 unfold Ad at hr
 have J:=C6 (ρ:=ρ) (a:=a) (c:=c) I.args.toList hx
 split at hr
 . rename_i b hb
   have hv:∃ v h',r=.val v h':=by
    clear J
    unfold bq at hr
    split at hr
    . obtain⟨_,_,e⟩:=bind_some hr
      obtain⟨u,_,e⟩:=bind_some e
      split at e
      . obtain⟨_,_,e⟩:=bind_some e
        obtain⟨zs,_,e⟩:=bind_some e
        cases zs with
        | true=>cases e
        | false =>
         obtain⟨m,_,e⟩:=bind_some (show Option.bind _ _=_ from e)
         obtain⟨nw,_,e⟩:=bind_some e
         revert e
         cases Nat.ble _ _ with
         | false =>
          intro e
          obtain⟨_,_,e⟩:=bind_some (show Option.bind _ _=_ from e)
          obtain⟨_,_,e⟩:=bind_some e
          obtain⟨_,e⟩:=jI e
          obtain⟨_,_,e⟩:=bind_some e
          obtain⟨_,_,e⟩:=bind_some e
          obtain⟨_,_,e⟩:=bind_some e
          cases e;exact⟨_,_,rfl⟩
         | true =>
          intro e
          have e':vW h _ _ _ _ _ _=some r:=e
          unfold vW at e'
          split at e'
          . revert e'
            cases Nat.beq _ _ with
            | false =>
             intro e'
             obtain⟨_,_,e⟩:=bind_some (show Option.bind _ _=_ from e')
             cases e;exact⟨_,_,rfl⟩
            | true=>intro e';cases e';exact⟨_,_,rfl⟩
          . cases e';exact⟨_,_,rfl⟩
      . cases e
    . obtain⟨_,_,e⟩:=bind_some hr
      obtain⟨u,hu,U⟩:=bind_some e
      split at U
      . obtain⟨sz,_,IR⟩:=bind_some U
        obtain⟨sl,_,Zm⟩:=bind_some IR
        obtain⟨cs,_,Tg⟩:=bind_some Zm
        split at Tg
        . revert Tg
          cases hz:Nat.beq (Nat.min sl _ * sz) 0 with
          | true=>intro Tg;cases Tg;exact⟨_,_,rfl⟩
          | false =>
           intro Tg
           obtain⟨_,_,e⟩:=map_some (show Option.map _ _=_ from Tg)
           cases e;exact⟨_,_,rfl⟩
        . cases Tg;exact⟨_,_,rfl⟩
      . cases U
    . obtain⟨_,_,e⟩:=bind_some hr
      obtain⟨u,hu,U⟩:=bind_some e
      split at U <;> first | (cases U;exact⟨_,_,rfl⟩) | cases U
    . have j:sx h _=some r:=hr
      unfold sx at j
      split at j
      . cases j;exact⟨_,_,rfl⟩
      . revert j
        cases Nat.beq _ 0 with
        | true=>intro q;cases q
        | false=>intro q;cases q;exact⟨_,_,rfl⟩
      . cases j
    . have j:zq h true _ _=some r:=hr
      unfold zq at j
      split at j <;> first | (cases j;exact⟨_,_,rfl⟩) | cases j
    . have j:zq h false _ _=some r:=hr
      unfold zq at j
      split at j <;> first | (cases j;exact⟨_,_,rfl⟩) | cases j
    . have j:X' h _ _ _=some r:=hr
      unfold X' at j
      split at j <;> first | (cases j;exact⟨_,_,rfl⟩) | cases j
    . have j:pg E h _ _ _=some r:=hr
      unfold pg at j
      split at j
      . rename_i p n hpn
        obtain⟨pt,_,h1⟩:=bind_some j
        revert h1
        cases Nat.beq _ 0 with
        | true=>intro q;cases q;exact⟨_,_,rfl⟩
        | false =>
         intro q
         cases p with
         | none=>cases q
         | some a =>
          have q':QL E h pt a n=some r:=q
          unfold QL at q'
          split at q'
          . obtain⟨u,_,h2⟩:=bind_some q'
            split at h2
            . obtain⟨_,_,h3⟩:=bind_some h2
              obtain⟨_,_,h4⟩:=bind_some h3
              obtain⟨_,_,h5⟩:=bind_some h4
              obtain⟨_,_,h6⟩:=bind_some h5
              obtain⟨_,h7⟩:=jI h6
              cases h7;exact⟨_,_,rfl⟩
            . cases h2
          . cases q'
      . cases j
    . cases hr
   obtain⟨v,h',rfl⟩:=hv
   obtain⟨bY,W',V,k0,k1,k2,k3⟩:=Ip (P:=P) hE hH b I.argTypes o.type (I.args.map fun | .const _=>true | _=>false) _ _ J hr
   refine⟨bY,W',V,.value V,?_,.inl rfl,k1,k2,k3⟩
   have he:(I.args.toList.map c).toArray=I.args.map c:=Array.ext' sm
   rw[he] at k0
   simp only[execOp,ho,resolve,hb,Sem.run_bind,Sem.run_pure,Result.andThen_ok,Go.invoke]
   exact k0
 . rename_i f hb
   have hff:=hf f hb
   revert hff hr
   generalize a f=p
   generalize hc:c f=q
   intro hr hff
   split at hr
   . rename_i fn first captured
     cases hff with
     | func _ F _ A _ C hfn ha Zi =>
      unfold mK at hr
      split at hr
      . rename_i g
        cases hfn
        refine Db hE hH (ARGS:=(A.toList++I.args.toList.map c)++C.toList) (by rw[dF,dF];exact (ha.append J).append Zi) hr ?_
        have e2:((A.toList++I.args.toList.map c)++C.toList).toArray=A++I.args.map c++C:=Array.ext' sm
        simp only[execOp,ho,resolve,hb,hc,Deferred.ofValue,Sem.run_bind,Sem.run_pure,Result.andThen_ok,Go.invoke,e2]
      . rename_i l
        split at hr
        . rename_i st pd f0 tm ps zQq bd d0 hl
          obtain⟨hbq,U⟩:=bx hr
          rw[ax] at hbq
          have hlen:(cW first.toList (lK a I.args.toList)).length=ps.length:=by simpa [br] using hbq
          cases U
          cases hfn with
          | yield _ ri hri =>
           obtain⟨T,fn,d,k1,k2⟩:=hH.obj l _ ri hl hri
           have hA:bc ρ (cW first.toList (lK a I.args.toList)) (A.toList++I.args.toList.map c):=by
            rw[dF];exact ha.append J
           refine⟨st,pd,f0,tm,ps,zQq,bd,d0,ri,T,fn,d,_,hl,hri,k1,k2,hA,hlen,?_⟩
           have tH:(A.toList++I.args.toList.map c).toArray.size=ps.toArray.size:=by
            have:=hA.length;simp only[List.size_toArray];omega
           have hy:=run_yield (P:=P) k2 tH
           simp only[execOp,ho,resolve,hb,hc,Deferred.ofValue,Sem.run_bind,Sem.run_pure,Result.andThen_ok,Go.invoke]
           have e2:(A.toList++I.args.toList.map c).toArray=A++I.args.map c:=Array.ext' sm
           rw[e2] at hy ⊢
           exact hy
        . cases hr
      . cases hr
   . cases hr
 . rename_i x name hb
   have hxv:=hf2 x name hb
   revert hxv hr
   generalize a x=p
   generalize hc:c x=q
   intro hr hxv
   split at hr
   . rename_i t v
     obtain⟨f,hm,hr⟩:=bind_some hr
     cases hxv with
     | iface _ _ V hv =>
      refine Db hE hH (ARGS:=V :: I.args.toList.map c) (.cons _ _ _ _ hv J) hr ?_
      have e2:(V :: I.args.toList.map c).toArray=#[V]++I.args.map c:=Array.ext' (by rw[Array.toList_append,Array.toList_map];rfl)
      have e3:(#[Value.iface t V]++I.args.map c)[0]?=some (Value.iface t V):=by rw[Array.getElem?_append_left (Nat.zero_lt_one)];rfl
      have e4:(#[Value.iface t V]++I.args.map c).extract 1 (#[Value.iface t V]++I.args.map c).size=I.args.map c:=Array.ext' (by simp;exact List.take_of_length_le sm)
      have hmr:∀ W,(method (P.types.size+Made.depth) t V name).run P W=.ok (f,V) W:=fun W=>QY hE hm V _ W
      simp only[execOp,ho,resolve,hb,hc,Sem.run_bind,Sem.run_pure,Result.andThen_ok,Go.invoke,e3,e4,callMethod,run_program,hmr,e2]
   . cases hr
theorem Pa (J:bj P E) (C:aX ρ h W) (hx:∀ x ∈ o.op.operands.toList,aK ρ (a x) (c x)) {r:R} (hr:Kz o.op E h a=some r):ROk P ρ h W r (execOp c o):=by
 have lift:∀ {x:Option R},x=some r->(∀ r,x=some r->∃ v h',r=.val v h')->(∀ v h',x=some (.val v h')->mc P ρ h W v h' (execOp c o))->ROk P ρ h W r (execOp c o):=by
  intro x hx h1 h2
  obtain⟨v,h',rfl⟩:=h1 r hx
  exact h2 v h' hx
 have p:∀ {x:Option Value} {r:R},lit x h=some r->∃ v h',r=.val v h':=by
  intro x r e
  obtain⟨v,_,e⟩:=map_some e
  exact⟨_,_,e.symm⟩
 cases j:o.op with
 | move x =>
  rw[j] at hr hx;cases hr
  exact A8 C x (.inl j) (hx x (by simp[Op.operands]))
 | assign x =>
  rw[j] at hr hx;cases hr
  exact A8 C x (.inr j) (hx x (by simp[Op.operands]))
 | pick x y z =>
  rw[j] at hr hx
  refine lift (show xw E h a x y z=some r from hr) ?_ fun v h' e=>JD C x y z j (hx x (by simp[Op.operands])) (hx y (by simp[Op.operands])) (hx z (by simp[Op.operands])) e
  intro r e;obtain⟨_,_,e⟩:=bind_some e;cases e;exact⟨_,_,rfl⟩
 | alloc e =>
  rw[j] at hr hx
  refine lift (show CW E h a e=some r from hr) ?_ fun v h' q=>Ie J C e j q
  intro r e;obtain⟨_,_,e⟩:=bind_some e;cases e;exact⟨_,_,rfl⟩
 | box e x =>
  rw[j] at hr hx
  refine lift (show Mq E h a e x=some r from hr) ?_ fun v h' q=>MD C e x j (hx x (by simp[Op.operands])) q
  intro r e;obtain⟨_,_,e⟩:=bind_some e;cases e;exact⟨_,_,rfl⟩
 | build t parts =>
  rw[j] at hr hx
  refine lift (show qI E h a t parts=some r from hr) ?_ fun v h' q=>Ij J C t parts j (fun x I=>hx x.2 (by simp only[Op.operands,List.toList_toArray];exact List.mem_map_of_mem I)) q
  intro r e
  obtain⟨_,_,e⟩:=bind_some e
  obtain⟨_,_,e⟩:=bind_some e
  split at e
  . obtain⟨_,_,e⟩:=bind_some e;obtain⟨_,_,e⟩:=bind_some e;cases e;exact⟨_,_,rfl⟩
  . obtain⟨_,_,e⟩:=bind_some e;obtain⟨_,_,e⟩:=bind_some e;cases e;exact⟨_,_,rfl⟩
  . cases e
 | buildSlice t n parts =>
  rw[j] at hr hx
  refine lift (show ma E h a t n parts=some r from hr) ?_ fun v h' q=>Aw J C t n parts j (fun x I=>hx x.2 (by simp only[Op.operands,List.toList_toArray];exact List.mem_map_of_mem I)) q
  intro r e
  obtain⟨_,_,e⟩:=bind_some e
  split at e
  . obtain⟨_,_,e⟩:=bind_some e;obtain⟨_,_,e⟩:=bind_some e;obtain⟨_,_,e⟩:=bind_some e
    obtain⟨_,e⟩:=bx e
    cases e;exact⟨_,_,rfl⟩
  . cases e
 | load t x =>
  rw[j] at hr hx
  refine lift (show Ab E h a t x=some r from hr) ?_ fun v h' q=>JE J C t x j (hx x (by simp[Op.operands])) q
  intro r e;obtain⟨_,_,e⟩:=bind_some e;exact p e
 | store t x y =>
  rw[j] at hr hx
  refine lift (show zw E h a t x y=some r from hr) ?_ fun v h' q=>Ih J C t x y j (hx x (by simp[Op.operands])) (hx y (by simp[Op.operands])) q
  intro r e;obtain⟨_,_,e⟩:=bind_some e;obtain⟨_,_,e⟩:=map_some e;exact⟨_,_,e.symm⟩
 | nilCheck x =>
  rw[j] at hr hx
  refine lift (show eT E h a x=some r from hr) ?_ fun v h' q=>C4 C x j (hx x (by simp[Op.operands])) q
  intro r e;unfold eT at e
  split at e <;> first | (cases e;exact⟨_,_,rfl⟩) | cases e
 | binOp op t x y yt =>
  rw[j] at hr hx
  exact lift (show zz E h a op t x y=some r from hr) (fun r e=>p e) fun v h' q=>Ii J C op t yt x y j (hx x (by simp[Op.operands])) (hx y (by simp[Op.operands])) q
 | unOp op t x =>
  rw[j] at hr hx
  exact lift (show CX E h a op x=some r from hr) (fun r e=>p e) fun v h' q=>JF C op t x j (hx x (by simp[Op.operands])) q
 | convert s d x =>
  rw[j] at hr hx
  refine lift (show pn E h a s d x=some r from hr) ?_ fun v h' q=>Ej J C s d x j (hx x (by simp[Op.operands])) q
  intro r e
  obtain⟨_,_,e⟩:=bind_some e
  obtain⟨_,_,e⟩:=bind_some e
  split at e
  . cases e;exact⟨_,_,rfl⟩
  . cases e;exact⟨_,_,rfl⟩
  . obtain⟨_,_,e⟩:=bind_some e
    split at e
    . cases e;exact⟨_,_,rfl⟩
    . cases e
  . split at e
    . obtain⟨_,_,e⟩:=bind_some e
      split at e
      . obtain⟨_,_,e⟩:=bind_some e;obtain⟨_,_,e⟩:=bind_some e;cases e;exact⟨_,_,rfl⟩
      . cases e
    . cases e
  . exact p e
  . exact p e
  . cases e
 | makeInterface t x =>
  rw[j] at hr hx
  refine lift (show dB E h a t x=some r from hr) ?_ fun v h' q=>xF J C t x j (hx x (by simp[Op.operands])) q
  intro r e;obtain⟨_,_,e⟩:=bind_some e
  split at e
  . cases e
  . cases e;exact⟨_,_,rfl⟩
 | makeFunc fn first captured =>
  rw[j] at hr hx
  refine lift (show jc E h a fn first captured=some r from hr) ?_ fun v h' q=>C7 C fn first captured j (fun x I=>hx x (by simp[Op.operands] at I ⊢;exact .inl I)) (fun x I=>hx x (by simp[Op.operands] at I ⊢;exact .inr I)) q
  intro r e;obtain⟨_,e⟩:=bx e;cases e;exact⟨_,_,rfl⟩
 | makeSlice t x y =>
  rw[j] at hr hx
  refine lift (show oi E h a t x y=some r from hr) ?_ fun v h' q=>BM J C t x y j (hx x (by simp[Op.operands])) (hx y (by simp[Op.operands])) q
  intro r e;obtain⟨_,_,e⟩:=bind_some e
  split at e
  . obtain⟨_,_,e⟩:=bind_some e;obtain⟨_,_,e⟩:=bind_some e;obtain⟨_,e⟩:=bx e;cases e;exact⟨_,_,rfl⟩
  . cases e
 | slice t x lo hi mx =>
  rw[j] at hr hx
  refine lift (show zA E h a t x lo hi mx=some r from hr) (fun r e=>p e) fun v h' q=>Im J C t x lo hi mx j (hx x (by simp[Op.operands])) (fun y U=>hx y (by subst U;simp[Op.operands])) (fun y U=>hx y (by subst U;simp[Op.operands])) (fun y U=>hx y (by subst U;simp[Op.operands])) q
 | fieldAddr s x f =>
  rw[j] at hr hx
  refine lift (show gP E h a s x f=some r from hr) ?_ fun v h' q=>BN J C s x f j (hx x (by simp[Op.operands])) q
  intro r e;obtain⟨_,_,e⟩:=bind_some e
  split at e
  . obtain⟨_,_,e⟩:=bind_some e;obtain⟨_,_,e⟩:=bind_some e;obtain⟨_,_,e⟩:=bind_some e
    revert e
    cases Nat.beq _ 0 with
    | true=>intro e;cases e
    | false=>intro e;cases e;exact⟨_,_,rfl⟩
  . cases e
 | field t x f =>
  rw[j] at hr hx
  refine lift (show qJ E h a t x f=some r from hr) ?_ fun v h' q=>Ik J C t x f j (hx x (by simp[Op.operands])) q
  intro r e;obtain⟨_,_,e⟩:=bind_some e
  split at e
  . obtain⟨_,_,e⟩:=bind_some e;exact p e
  . cases e
 | indexAddr t x ix =>
  rw[j] at hr hx
  refine lift (show gQ E h a t x ix=some r from hr) ?_ fun v h' q=>BO J C t x ix j (hx x (by simp[Op.operands])) (hx ix (by simp[Op.operands])) q
  intro r e;obtain⟨_,_,e⟩:=bind_some e
  split at e
  . obtain⟨_,_,e⟩:=bind_some e;obtain⟨_,e⟩:=bx e;cases e;exact⟨_,_,rfl⟩
  . obtain⟨_,_,e⟩:=bind_some e;obtain⟨_,e⟩:=bx e;cases e;exact⟨_,_,rfl⟩
  . cases e
 | index t x ix =>
  rw[j] at hr hx
  refine lift (show qK E h a t x ix=some r from hr) ?_ fun v h' q=>Il J C t x ix j (hx x (by simp[Op.operands])) (hx ix (by simp[Op.operands])) q
  intro r e;obtain⟨_,_,e⟩:=bind_some e
  split at e
  . obtain⟨_,_,e⟩:=bind_some e;obtain⟨_,e⟩:=bx e;exact p e
  . obtain⟨_,_,e⟩:=bind_some e;cases e;exact⟨_,_,rfl⟩
  . cases e
 | extract t ix =>
  rw[j] at hr hx
  refine lift (show fV E h a t ix=some r from hr) ?_ fun v h' q=>Ei C t ix j (hx t (by simp[Op.operands])) q
  intro r e;unfold fV at e
  split at e
  . exact p e
  . cases e
 | range t x =>
  rw[j] at hr hx
  refine lift (show H0 E h a t x=some r from hr) ?_ fun v h' q=>Iq J C t x j (hx x (by simp[Op.operands])) q
  intro r e;obtain⟨_,_,e⟩:=map_some e;exact⟨_,_,e.symm⟩
 | next x s =>
  rw[j] at hr hx
  refine lift (show Ms h a x s=some r from hr) ?_ fun v h' q=>JH C x s j (hx x (by simp[Op.operands])) q
  intro r e;obtain⟨_,_,e⟩:=map_some e;exact⟨_,_,e.symm⟩
 | makeMap t x =>
  rw[j] at hr hx
  refine lift (show tw E h a x=some r from hr) ?_ fun v h' q=>Ek C t x j q
  intro r e
  unfold tw at e
  split at e
  . cases e;exact⟨_,_,rfl⟩
  . cases e
 | lookup t x ix ok =>
  rw[j] at hr hx
  refine lift (show Ac E h a t x ix ok=some r from hr) ?_ fun v h' q=>FU J C t x ix ok j (hx x (by simp[Op.operands])) (hx ix (by simp[Op.operands])) q
  intro r e
  obtain⟨_,_,e⟩:=bind_some e
  split at e
  . obtain⟨_,_,e⟩:=bind_some e
    obtain⟨_,_,e⟩:=bind_some e
    obtain⟨_,_,e⟩:=bind_some e
    split at e
    . cases e;exact⟨_,_,rfl⟩
    . obtain⟨_,_,e⟩:=bind_some e;cases e;exact⟨_,_,rfl⟩
  . cases e
 | mapUpdate t m k x =>
  rw[j] at hr hx
  refine lift (show xx E h a t m k x=some r from hr) ?_ fun v h' q=>BQ J C t m k x j (hx m (by simp[Op.operands])) (hx k (by simp[Op.operands])) (hx x (by simp[Op.operands])) q
  intro r e
  obtain⟨_,_,e⟩:=bind_some e
  split at e
  . obtain⟨_,_,e⟩:=bind_some e
    obtain⟨_,_,e⟩:=bind_some e
    obtain⟨_,_,e⟩:=bind_some e
    split at e
    . obtain⟨_,_,e⟩:=bind_some e
      obtain⟨_,e⟩:=bx e
      cases e;exact⟨_,_,rfl⟩
    . cases e;exact⟨_,_,rfl⟩
  . cases e
 | call cl =>
  rw[j] at hr hx
  refine JG J C cl j (fun x I=>hx x (by simp[Op.operands,Call.operands] at I ⊢;exact .inr I)) (fun f hf=>hx f (by simp[Op.operands,Call.operands,hf])) (fun x n hf=>hx x (by simp[Op.operands,Call.operands,hf])) hr
 | _=>rw[j] at hr;cases hr
end Go.X
namespace Go.X
open Go
variable {P:Program} {E:Env}
theorem Ir {ρ:bS} {t:B} {a:Act} (h:gr ρ t a.tmps) (x:Operand):aK ρ (ev t x) (a.eval x):=by
 cases x with
 | tmp k=>exact h.2 k
 | const v=>exact Ia v ρ
 | global g=>exact .Aj _
 | func f=>exact .func _ _ _ _ _ _ (.func f) .nil .nil
theorem Dc (l:List Value):∀ (t:B) (n k j:Nat),Sz t n->Sz (B.OX l t k) n/\(B.OX l t k).get j=if k<=j/\j<k+l.length/\j<n then (l[j-k]?).getD Go.undef else t.get j:=by
 induction l with
 | nil=>intro t n k j h;exact⟨h,by rw[if_neg so];rfl⟩
 | cons v l p =>
  intro t n k j h
  show Sz (B.OX l (t.set k v) (k+1)) n/\(B.OX l (t.set k v) (k+1)).get j=_
  obtain⟨C,h2⟩:=p (t.set k v) n (k+1) j (h.set k v)
  refine⟨C,?_⟩
  rw[h2,h.su]
  simp only[List.length_cons]
  by_cases q:j=k
  . subst q
    rw[if_neg om]
    by_cases o:j<n
    . rw[if_pos ⟨rfl,o⟩,if_pos om];simp
    . rw[if_neg om,if_neg om]
  . by_cases o:k+1<=j/\j<k+1+l.length/\j<n
    . rw[if_pos o,if_pos om]
      have:j-k=(j-(k+1))+1:=om
      rw[this];simp
    . rw[if_neg o,if_neg om,if_neg om]
theorem Pb {ρ:bS} {args ARGS:List Value} (h:bc ρ args ARGS) (j:Nat):gr ρ (B.OX args (B.mk (Nat.add (len args) (Nat.add j 1)) (Nat.add (len args) (Nat.sub j (len args)))) 0) (ARGS.toArray++Array.replicate (j-ARGS.toArray.size) Go.undef):=by
 rw[br]
 have hl:=h.length
 have p:(ARGS.toArray++Array.replicate (j-ARGS.toArray.size) Go.undef).size=args.length+(j-args.length):=by simp[hl]
 have o:=B.AbF (args.length+(j+1)) (args.length+(j-args.length)) om
 refine⟨by rw[p];exact (Dc args _ _ 0 0 o).1,fun k=>?_⟩
 have I:=(Dc args _ _ 0 k o).2
 show aK ρ ((B.OX args (B.mk (args.length+(j+1)) (args.length+(j-args.length))) 0).get k) _
 rw[I]
 by_cases q:k<args.length
 . rw[if_pos om]
   obtain⟨V,J,hv⟩:=h.get k _ (List.getElem?_eq_getElem q)
   have R:(args[k-0]?).getD Go.undef=args[k]:=by simp[q]
   have C:(ARGS.toArray++Array.replicate (j-ARGS.toArray.size) Go.undef).getD k Go.undef=V:=by
    have hk:k<ARGS.length:=om
    rw[Array.getD_eq_getD_getElem?,Array.getElem?_append_left (sp hk)]
    simp[J]
   rw[R,C];exact hv
 . rw[if_neg om,B.Adz]
   have C:(ARGS.toArray++Array.replicate (j-ARGS.toArray.size) Go.undef).getD k Go.undef=Go.undef:=by
    rw[Array.getD_eq_getD_getElem?,Array.getElem?_append_right so]
    rw[Array.getElem?_replicate]
    split <;> rfl
   rw[C];exact aK.undef ρ
def Is (T:Array Value):ResultVar->Sem Value
 | .tmp t=>pure (T.getD t undef)
 | .cell a t=>do Go.loadVar t (<-asAddr (T.getD a undef))
theorem JI (R:bj P E) {ρ:bS} {st:St} {T:Array Value} {W:World} (I:gr ρ st.tmps T) (U:aX ρ st.h W):∀ (rs:List ResultVar) (vs:List Value),mr E st rs=some vs ->
 ∃ o:List Value,(rs.mapM (Is T)).run P W=.ok o W/\bc ρ vs o:=by
 intro rs
 induction rs with
 | nil=>intro vs h;cases h;exact⟨[],rfl,.nil⟩
 | cons r rs J =>
  intro vs h
  cases r with
  | tmp t =>
   obtain⟨j,h',e⟩:=map_some h
   subst e
   obtain⟨o,C,h2⟩:=J j h'
   refine⟨T.getD t undef :: o,?_,.cons _ _ _ _ (I.2 t) h2⟩
   simp only[List.mapM_cons,Is,Sem.run_bind,Sem.run_pure,Result.andThen_ok]
   rw[C];simp[Sem.run_pure]
  | cell a t =>
   obtain⟨A,hA,h⟩:=bind_some h
   obtain⟨v,hv,h⟩:=bind_some h
   obtain⟨j,h',e⟩:=map_some h
   subst e
   obtain⟨o,C,h2⟩:=J j h'
   obtain⟨b,of,he,rfl⟩:=uE hA
   have p:=I.2 a
   rw[he] at p
   revert p;generalize hq:T.getD a undef=q;intro p
   cases p with
   | ptr _ _ r hr =>
    obtain⟨V,k1,k2⟩:=A7 R U hr hv
    refine⟨V :: o,?_,.cons _ _ _ _ k2 h2⟩
    simp only[List.mapM_cons,Is,Sem.run_bind,hq,asAddr,Sem.run_pure,Result.andThen_ok,k1]
    rw[C];simp[Sem.run_pure]
theorem A_ (C:bj P E) {ρ:bS} {st:St} {T:Array Value} {W:World} (I:gr ρ st.tmps T) (J:aX ρ st.h W) (fn:Func) (vs:List Value) (h:mr E st fn.results.toList=some vs) :
 ∃ V,(results fn T).run P W=.ok V W/\aK ρ (cN vs) V:=by
 obtain⟨j,R,h2⟩:=JI C I J _ _ h
 have hm:(fn.results.mapM (Is T)).run P W=.ok j.toArray W:=by
  rw[Array.mapM_eq_mapM_toList]
  rw[Sem.run_map,R];rfl
 refine⟨if h:j.toArray.size=1 then j.toArray[0] else .tuple j.toArray,?_,?_⟩
 . have e:results fn T=(fn.results.mapM (Is T) >>= fun vs=>pure (if h:vs.size=1 then vs[0] else .tuple vs)):=by
    unfold results
    congr 1
   rw[e]
   simp only[Sem.run_bind]
   rw[hm];simp only[Result.andThen_ok,Sem.run_pure]
 . cases h2 with
   | nil=>exact .tuple _ _ .nil
   | cons v V l L hv hl =>
    cases hl with
    | nil=>exact hv
    | cons v2 U l2 L2 o p=>exact .tuple _ _ (.cons _ _ _ _ hv (.cons _ _ _ _ o p))
end Go.X
namespace Go.X
open Go
variable {P:Program} {E:Env}
def El:AE->Exit | .normal=>.normal | .exit id=>.exit id | .goto l=>.goto l | .ret=>.ret
def vq (B:Nat):Deferred:={ target:=.collected B,args:=#[] }
def Marks (base:Nat) (ρ:bS) (h:H) (W:World) (D:List Deferred):Prop :=
 ∃ j:List Nat,D=j.map vq/\j.Nodup/\∀ B ∈ j,base<=B/\B<W.heap.size/\W.heap[B]?=some (.deferred (some []))/\∀ b x r,h.get b=some x->MB x=false->ρ b=some r->r.dH≠B
theorem Marks.nil (base:Nat) (ρ:bS) (h:H) (W:World):Marks base ρ h W []:=⟨[],rfl,.nil,fun d hd=>by cases hd⟩
theorem Marks.ext {base:Nat} {ρ bY:bS} {h h':H} {W W':World} {D:List Deferred} (m:Marks base ρ h W D) (x:Ext ρ h W bY h' W'):Marks base bY h' W' D:=by
 obtain⟨p,e,hn,C⟩:=m
 refine⟨p,e,hn,fun B hm=>?_⟩
 obtain⟨h0,j,h2,o⟩:=C B hm
 refine⟨h0,Nat.lt_of_lt_of_le j x.size,(x.kept B j o).trans h2,?_⟩
 intro b y r I J R U
 obtain⟨b0,x0,r0,l1,l2,l3,l4⟩:=x.own b y r I J R om
 exact o b0 x0 r0 l1 l2 l3 (l4.trans U)
def Dd (base:Nat) (ρ:bS) (h:H) (W:World) (j:St) (e:AE):Exit->Act->World->Prop :=
 fun p o W'=>p=El e/\∃ bY,gr bY j.tmps o.tmps/\aX bY j.h W'/\Ext ρ h W bY j.h W'/\Marks base bY j.h W' o.defers
theorem Dd.trans {base:Nat} {ρ j:bS} {h p:H} {W C:World} {o:St} {e:AE} (x:Ext ρ h W j p C) {I:Exit} {J:Act} {W':World} (y:Dd base j p C o e I J W'):Dd base ρ h W o e I J W':=by
 obtain⟨p,bY,R,U,h5,h6⟩:=y
 exact⟨p,bY,R,U,x.trans h5,h6⟩
def FW (j:Option Nat):Fence:={ Fence.wide with round:=j }
theorem pV (j:Option Nat) (n:Nat):(FW j).room n:=fun _ h=>by cases h
theorem si1 {m j:Machine} (h:Go.step P m=.next j):StepsIn (Machine.fenced P Fence.wide) P m j:=stepsIn_wide.2 (.one h)
theorem It {j:Option Nat} {n:Nat} {f:FuncId} {args:Array Value} {w:World} {R:Ending->World->Prop} (h:Calls P f args w R):CallsIn (FW j) n P f args w R :=
 (callsIn_wide (n:=n)).2 h
def Iu (p:Option Nat) (P:Program) (items:List Item->List Item) (Q:Exit->Act->World->Prop) (a:Act) (w:World):Prop :=
 ∀ (b:Frame) (k:List Item) (cs:List Frame),b.roundOf=p->∃ e j o,Q e j o/\ArrivesIn (Machine.fenced P Fence.wide) P (lone (b.atR a (items k)) cs w) b k cs e j o
theorem Iu.mono {o:Option Nat} {items:List Item->List Item} {Q p:Exit->Act->World->Prop} {a:Act} {w:World} (h:Iu o P items Q a w) (C:∀ e a w,Q e a w->p e a w):Iu o P items p a w :=
 fun b k cs j=>let ⟨e,I,J,q,r⟩:=h b k cs j;⟨e,I,J,C _ _ _ q,r⟩
def entry:Code->List Item->List Item
 | .loop b,k=>.code b :: .inLoop b :: k
 | c,k=>.code c :: k
theorem cA {o:Option Nat} {c:Code} {Q:Exit->Act->World->Prop} {a:Act} {w:World} (h:Iu o P (entry c) Q a w):c.wpIn (FW o) 0 P Q a w:=by
 intro b k cs j _ _
 cases c with
 | loop c=>obtain⟨e,p,C,q,r⟩:=h b k cs j;exact⟨e,p,C,q,.of_steps (si1 stepR_loop) r⟩
 | _=>exact h b k cs j
theorem j7 {o:Option Nat} {c:Code} (im:∀ b,c≠.loop b) {Q:Exit->Act->World->Prop} {a:Act} {w:World} (h:c.wpIn (FW o) 0 P Q a w):Iu o P (entry c) Q a w:=by
 intro b k cs j
 obtain⟨e,p,C,q,r⟩:=h b k cs j trivial (pV _ _)
 refine⟨e,p,C,q,?_⟩
 cases c <;> first | exact r | exact absurd rfl (im _)
def gx (P:Program) (R:Option Nat) (c:Code) (st:St) (cE:ik):Prop :=
 ∃ e j,cE=.a e j/\∀ (o:Option Nat) (base:Nat) (ρ:bS) (a:Act) (W:World),(R=none->o=none)->base<=W.heap.size->gr ρ st.tmps a.tmps->aX ρ st.h W->Marks base ρ st.h W a.defers->Iu o P (entry c) (Dd base ρ st.h W j e) a W
def Iv (P:Program) (R:Option Nat) (b c:Code) (st:St) (cE:ik):Prop :=
 ∃ e j,cE=.a e j/\∀ (o:Option Nat) (base:Nat) (ρ:bS) (a:Act) (W:World),(R=none->o=none)->base<=W.heap.size->gr ρ st.tmps a.tmps->aX ρ st.h W->Marks base ρ st.h W a.defers->Iu o P (fun k=>.code c :: .inScope b :: k) (Dd base ρ st.h W j e) a W
def nb (P:Program) (ops:Array Oper) (rest:List Oper) (st:St) (cE:ik):Prop :=
 ∃ j,cE=.a .normal j/\∀ (o:Option Nat) (base:Nat) (Dp:bS) (h0:H) (W0:World) (ρ:bS) (a:Act) (W:World),gr ρ st.tmps a.tmps->aX ρ st.h W->Ext Dp h0 W0 ρ st.h W->Marks base ρ st.h W a.defers->wpListIn (FW o) 0 P ops (Dd base Dp h0 W0 j .normal) rest a W
def oq (ρ:bS) (h:H) (W:World) (v:Value) (h':H):Ending->World->Prop
 | .returned V,W'=>∃ bY,aK bY v V/\aX bY h' W'/\Ext ρ h W bY h' W'
 | _,_=>False
def ai (P:Program) (f:FuncId) (args:List Value) (h:H) (cE:ik):Prop :=
 (∃ fd body,P.funcs[f]?=some fd/\fd.body=some body)/\∃ v h',cE=.v v h'/\∀ (ρ:bS) (ARGS:List Value) (W:World),bc ρ args ARGS->aX ρ h W->Calls P f ARGS.toArray W (oq ρ h W v h')
def mM (P:Program) (l:Nat) (args:List Value) (h:H) (cE:ik):Prop :=
 ∃ v h',cE=.v v h'/\∀ (o:Option Nat) (st:LoopState) (pd:Option Code) (f0:FuncId) (tm:B) (ps:List Tmp) (zQq bd:Code) (d0:Nat) (j:RI) (T:Array Value) (fn:FuncId) (d:Nat) (ρ:bS) (ARGS:List Value) (W:World),
  h.get l=some (.loop st pd f0 tm ps zQq bd d0)->ρ l=some j->gr ρ tm T->W.heap[j.dH]?=some (.loop { state:=st,pending:=pd,fn,tmps:=T,params:=ps.toArray,assign:=zQq,body:=bd,defers:=d }) ->
  bc ρ args ARGS->args.length=ps.length->aX ρ h W ->
  RoundIn (FW o) 0 P j.dH fn ((ps.toArray.zip ARGS.toArray).foldl (fun tmps (t,a)=>tmps.setIfInBounds t a) T) zQq bd W (oq ρ h W v h')
def AaQ (P:Program) (r:R) (h:H) (v:Value) (h':H):Prop :=
 r=.val v h'\/(∃ f args,r=.enter f args/\ai P f args h (.v v h'))\/∃ l args,r=.round l args/\mM P l args h (.v v h')
def aj (P:Program) (f:FuncId) (args:List Value) (h:H) (Q:Value->H->Prop):Prop :=
 (∃ fd body,P.funcs[f]?=some fd/\fd.body=some body)/\(∃ v h',Q v h')/\∀ (ρ:bS) (ARGS:List Value) (W:World),bc ρ args ARGS->aX ρ h W->Calls P f ARGS.toArray W fun e W'=>∃ v h',Q v h'/\oq ρ h W v h' e W'
def Vj (P:Program) (f:FuncId) (args:List Value) (h:H) (Q:Value->H->Prop):Prop :=
 (∃ v h',Q v h')/\∃ fd e,P.funcs[f]?=some fd/\fd.body=none/\Extern.findNext fd=none/\Extern.find fd=some e ∧
  ∀ (ρ:bS) (ARGS:List Value) (W:World),bc ρ args ARGS->aX ρ h W->∃ v h' bY V W',Q v h'/\(e ARGS.toArray).run P W=.ok V W'/\aK bY v V/\aX bY h' W'/\Ext ρ h W bY h' W'
theorem Vj.mono {P:Program} {f:FuncId} {args:List Value} {h:H} {Q j:Value->H->Prop} (x:Vj P f args h Q) (o:∀ v h,Q v h->j v h):Vj P f args h j:=by
 obtain⟨⟨v,h',q⟩,fd,e,p,C,I,J,k5⟩:=x
 refine⟨⟨v,h',o _ _ q⟩,fd,e,p,C,I,J,fun ρ ARGS W R U=>?_⟩
 obtain⟨v,h',bY,V,W',q,r⟩:=k5 ρ ARGS W R U
 exact⟨v,h',bY,V,W',o _ _ q,r⟩
def Em (P:Program) (l:Nat) (args:List Value) (h:H) (Q:Value->H->Prop):Prop :=
 (∃ v h',Q v h')/\∀ (o:Option Nat) (st:LoopState) (pd:Option Code) (f0:FuncId) (tm:B) (ps:List Tmp) (zQq bd:Code) (d0:Nat) (j:RI) (T:Array Value) (fn:FuncId) (d:Nat) (ρ:bS) (ARGS:List Value) (W:World),
  h.get l=some (.loop st pd f0 tm ps zQq bd d0)->ρ l=some j->gr ρ tm T->W.heap[j.dH]?=some (.loop { state:=st,pending:=pd,fn,tmps:=T,params:=ps.toArray,assign:=zQq,body:=bd,defers:=d }) ->
  bc ρ args ARGS->args.length=ps.length->aX ρ h W ->
  RoundIn (FW o) 0 P j.dH fn ((ps.toArray.zip ARGS.toArray).foldl (fun tmps (t,a)=>tmps.setIfInBounds t a) T) zQq bd W (fun e W'=>∃ v h',Q v h'/\oq ρ h W v h' e W')
theorem aj.mono {P:Program} {f:FuncId} {args:List Value} {h:H} {Q j:Value->H->Prop} (x:aj P f args h Q) (o:∀ v h,Q v h->j v h):aj P f args h j :=
 ⟨x.1,x.2.1.elim fun v y=>y.elim fun h' q=>⟨v,h',o _ _ q⟩,fun ρ ARGS W p C=>(x.2.2 ρ ARGS W p C).mono fun e W' ⟨v,h',q,r⟩=>⟨v,h',o _ _ q,r⟩⟩
theorem aj.one {P:Program} {f:FuncId} {args:List Value} {h:H} {v:Value} {h':H} (x:aj P f args h fun v0 h0=>v0=v/\h0=h'):ai P f args h (.v v h') :=
 ⟨x.1,v,h',rfl,fun ρ ARGS W j o=>(x.2.2 ρ ARGS W j o).mono fun e W' ⟨v0,h0,⟨p,C⟩,r⟩=>by subst p;subst C;exact r⟩
theorem aj.of {P:Program} {f:FuncId} {args:List Value} {h:H} {v:Value} {h':H} (x:ai P f args h (.v v h')) {Q:Value->H->Prop} (q:Q v h'):aj P f args h Q:=by
 obtain⟨j,v',h2,e,hc⟩:=x
 cases e
 exact⟨j,⟨v,h',q⟩,fun ρ ARGS W o p=>(hc ρ ARGS W o p).mono fun e W' r=>⟨v,h',q,r⟩⟩
theorem Em.of {P:Program} {l:Nat} {args:List Value} {h:H} {v:Value} {h':H} (x:mM P l args h (.v v h')) {Q:Value->H->Prop} (q:Q v h'):Em P l args h Q:=by
 obtain⟨v',h2,e,hc⟩:=x
 cases e
 exact⟨⟨v,h',q⟩,fun j st pd f0 tm ps zQq bd d0 o T fn d ρ ARGS W p C I J R U e7=>RoundIn.mono (hc j st pd f0 tm ps zQq bd d0 o T fn d ρ ARGS W p C I J R U e7) fun e W' r=>⟨v,h',q,r⟩⟩
def Iw (P:Program) (r:R) (h:H) (Q:Value->H->Prop):Prop :=
 (∃ v h',r=.val v h'/\Q v h')\/(∃ f args,r=.enter f args/\(aj P f args h Q\/Vj P f args h Q))\/∃ l args,r=.round l args/\Em P l args h Q
theorem Iw.of {P:Program} {r:R} {h:H} {v:Value} {h':H} (x:AaQ P r h v h') {Q:Value->H->Prop} (q:Q v h'):Iw P r h Q:=by
 rcases x with rfl | ⟨f,args,rfl,hc⟩ | ⟨l,args,rfl,hc⟩
 . exact .inl ⟨_,_,rfl,q⟩
 . exact .inr (.inl ⟨_,_,rfl,.inl (.of hc q)⟩)
 . exact .inr (.inr ⟨_,_,rfl,.of hc q⟩)
theorem Iw.live {P:Program} {r:R} {h:H} {Q:Value->H->Prop} (x:Iw P r h Q):∃ v h',Q v h':=by
 rcases x with ⟨v,h',rfl,q⟩ | ⟨f,args,rfl,hc | hc⟩ | ⟨l,args,rfl,hc⟩
 . exact⟨_,_,q⟩
 . exact hc.2.1
 . exact hc.1
 . exact hc.1
theorem zH {ρ:bS} {t:B} {a:Act} (h:gr ρ t a.tmps) (ops:Array Oper) (o:Oper) {g:Bool} (p:cr ops t o=some g):Region.wanted o (yielded ops a.tmps)=g:=by
 unfold cr at p
 unfold Region.wanted
 split at p
 . cases p;rename_i e;simp[e]
 . rename_i j I e
   simp only[e]
   unfold yielded
   rw[fD,Array.getElem?_toList] at p
   split at p
   . rename_i d hd
     rw[hd]
     simp only[Option.bind_some]
     have hv:=h.2 d
     rw[Array.getD_eq_getD_getElem?] at hv
     revert hv p
     generalize t.get d=v
     intro p hv
     cases J:a.tmps[d]? with
     | none =>
      rw[J] at hv
      have C:aK ρ v Go.undef:=hv
      simp only
      cases C with
      | Aj=>cases p
      | tuple=>cases p;rfl
     | some V =>
      rw[J] at hv
      have C:aK ρ v V:=hv
      cases C <;> first | (cases p;done) | skip
      . rename_i b;cases p;cases b <;> cases I <;> rfl
      . cases p;rfl
   . rename_i hd
     cases p
     rw[hd];rfl
theorem Fa {o:Op} {h:H} {a:Operand->Value} {r:R} (hr:Kz o E h a=some r):∀ c,o≠.defer c:=by
 intro c e;subst e;cases hr
theorem De (hE:bj P E) {rr:Option Nat} {o:Oper} {ρ:bS} {b:B} {h:H} {a:Act} {W:World} (hT:∀ x ∈ o.op.operands.toList,aK ρ (ev b x) (a.eval x)) (hH:aX ρ h W)
 {r:R} (hr:Kz o.op E h (ev b)=some r) {K:Act->World->Prop} {Q:Exit->Act->World->Prop} {Qv:Value->H->Prop}
 (hv:Iw P r h Qv)
 (hK:∀ v h' bY V W',Qv v h'->aK bY v V->aX bY h' W'->Ext ρ h W bY h' W'->K (a.put o.dst V) W'):o.wpIn (FW rr) 0 P a W K Q:=by
 have hs:=Pa (P:=P) (o:=o) hE hH (a:=ev b) (c:=a.eval) hT hr
 have AdG:o.semAt (FW rr).round a.eval=execOp a.eval o:=Oper.semAt_eq _ _ _ (Fa hr)
 refine⟨fun _ _=>trivial,?_⟩
 rw[AdG]
 rcases hv with ⟨v,h',rfl,C⟩ | ⟨f,args,rfl,hc | hc⟩ | ⟨l,args,rfl,hc⟩
 . obtain⟨bY,W',V,nx,j,PW,I,J,U⟩:=hs
   rw[j]
   rcases PW with rfl | ⟨rfl,rfl⟩
   . exact hK _ _ _ _ _ C I J U
   . exact hK _ _ _ _ _ C I J U
 . obtain⟨ARGS,hA,j,_⟩:=hs
   obtain⟨⟨fd,body,Zo,hbd⟩,_,p⟩:=hc
   rw[j fd body Zo hbd]
   refine⟨(fun h=>by cases h),It (Calls.mono (p ρ ARGS W hA hH) ?_)⟩
   rintro e W' ⟨v,h',C,hp⟩
   cases e with
   | returned V=>obtain⟨bY,I,J,U⟩:=hp;exact hK _ _ _ _ _ C I J U
   | panicked _=>exact hp.elim
   | outgrown=>exact hp.elim
 . obtain⟨ARGS,hA,_,j⟩:=hs
   obtain⟨_,fd,e,Zo,hbd,hn,he,p⟩:=hc
   obtain⟨v,h',bY,V,W',C,hr,I,J,U⟩:=p ρ ARGS W hA hH
   rw[j fd e V W' Zo hbd hn he hr]
   exact hK _ _ _ _ _ C I J U
 . obtain⟨st,pd,f0,tm,ps,zQq,bd,d0,ri,T,fn,d,ARGS,h1,h2,h3,h4,h5,h6,j⟩:=hs
   obtain⟨_,p⟩:=hc
   rw[j]
   refine⟨(fun h=>by cases h),RoundIn.mono (p rr st pd f0 tm ps zQq bd d0 ri T fn d ρ ARGS W h1 h2 h3 h4 h5 h6 hH) ?_⟩
   rintro e W' ⟨v,h',C,hp⟩
   cases e with
   | returned V=>obtain⟨bY,I,J,U⟩:=hp;exact hK _ _ _ _ _ C I J U
   | panicked _=>exact hp.elim
   | outgrown=>exact hp.elim
def zJ (P:Program) (o:Oper) (b:B) (h:H) (Qv:Value->H->Prop):Prop :=
 (∃ v h',Qv v h')/\∀ (j:Option Nat) (ρ:bS) (a:Act) (W:World) (K:Act->World->Prop) (Q:Exit->Act->World->Prop),(∀ x ∈ o.op.operands.toList,aK ρ (ev b x) (a.eval x))->aX ρ h W ->
  (∀ v h' bY V W',Qv v h'->aK bY v V->aX bY h' W'->Ext ρ h W bY h' W'->K (a.put o.dst V) W')->o.wpIn (FW j) 0 P a W K Q
theorem zJ.of (j:bj P E) {o:Oper} {b:B} {h:H} {r:R} (hr:Kz o.op E h (ev b)=some r) {Qv:Value->H->Prop} (hv:Iw P r h Qv):zJ P o b h Qv :=
 ⟨hv.live,fun J ρ a W K Q p C I=>De j p C hr hv I⟩
theorem zJ.mono {o:Oper} {b:B} {h:H} {Q j:Value->H->Prop} (x:zJ P o b h Q) (p:∀ v h,Q v h->j v h):zJ P o b h j :=
 ⟨x.1.elim fun v y=>y.elim fun h' q=>⟨v,h',p _ _ q⟩,fun C ρ a W K I J R U=>x.2 C ρ a W K I J R fun v h' bY V W' q=>U v h' bY V W' (p _ _ q)⟩
theorem Pc (j:bj P E) {p:Option Nat} {o:Oper} {ρ:bS} {b:B} {h:H} {a:Act} {W:World} (C:∀ x ∈ o.op.operands.toList,aK ρ (ev b x) (a.eval x)) (I:aX ρ h W)
 {r:R} (hr:Kz o.op E h (ev b)=some r) {K:Act->World->Prop} {Q:Exit->Act->World->Prop} {v:Value} {h':H}
 (hv:AaQ P r h v h')
 (J:∀ bY V W',aK bY v V->aX bY h' W'->Ext ρ h W bY h' W'->K (a.put o.dst V) W'):o.wpIn (FW p) 0 P a W K Q :=
 De j C I hr (Qv:=fun v0 h0=>v0=v/\h0=h') (.of hv ⟨rfl,rfl⟩) fun v0 h0 bY V W' ⟨U,e2⟩ k1 k2 k3=>by subst U;subst e2;exact J bY V W' k1 k2 k3
theorem Gj {ρ:bS} {t:B} {a:Act} (h:gr ρ t a.tmps) (d:Option Tmp) {v V:Value} (hv:aK ρ v V):gr ρ (nr t d v) (a.put d V).tmps/\(a.put d V).defers=a.defers:=by
 cases d with
 | none=>exact⟨h,rfl⟩
 | some d=>exact⟨h.set d hv,rfl⟩
theorem MG (hE:bj P E) {n:Nat} (Afy:∀ f args h cE,run E n (.call f args h)=some cE->ai P f args h cE) (C:∀ l args h cE,run E n (.round l args h)=some cE->mM P l args h cE) (J:∀ ops rest st cE,run E n (.region ops rest st)=some cE->nb P ops rest st cE)
 {ops:Array Oper} {rest:List Oper} {st:St} {cE:ik} (hr:run E (n+1) (.region ops rest st)=some cE):nb P ops rest st cE:=by
 have hr':H5 rest E (run E n) ops st=some cE:=hr
 cases rest with
 | nil =>
  cases hr'
  exact⟨st,rfl,fun rr base Dp h0 W0 ρ a W R hH hX hM=>⟨rfl,ρ,R,hH,hX,hM⟩⟩
 | cons o rest =>
  have I:H4 E (run E n) ops o rest st o.guard=some cE:=hr'
  have Afz:run E n (.region ops rest ⟨nr st.tmps o.dst undef,st.xy,st.h⟩)=some cE->cr ops st.tmps o=some false->nb P ops (o :: rest) st cE:=by
   intro j U
   obtain⟨st',he,hw⟩:=J _ _ _ _ j
   refine⟨st',he,fun rr base Dp h0 W0 ρ a W R hH hX hM=>?_⟩
   have p:=zH R ops o U
   unfold wpListIn
   rw[if_neg (by rw[p];simp)]
   obtain⟨p1,p2⟩:=Gj R o.dst (aK.undef ρ)
   exact⟨fun _ _=>trivial,hw rr base Dp h0 W0 ρ (a.put o.dst undef) W p1 hH hX (by rw[p2];exact hM)⟩
  have YI:H3 E (run E n) ops o rest st=some cE->cr ops st.tmps o=some true->nb P ops (o :: rest) st cE:=by
   intro j U
   obtain⟨r,hop,j⟩:=bind_some j
   have key:∀ v h',AaQ P r st.h v h'->run E n (.region ops rest ⟨nr st.tmps o.dst v,st.xy,h'⟩)=some cE->nb P ops (o :: rest) st cE:=by
    intro v h' hv j
    obtain⟨st',he,hw⟩:=J _ _ _ _ j
    refine⟨st',he,fun rr base Dp h0 W0 ρ a W R hH hX hM=>?_⟩
    have p:=zH R ops o U
    unfold wpListIn
    rw[if_pos p]
    refine Pc hE (fun x _=>Ir R x) hH hop hv ?_
    intro bY V W' k1 k2 k3
    obtain⟨p1,p2⟩:=Gj (R.mono k3.le) o.dst k1
    exact hw rr base Dp h0 W0 bY (a.put o.dst V) W' p1 k2 (hX.trans k3) (by rw[p2];exact hM.ext k3)
   cases r with
   | val v h'=>exact key v h' (.inl rfl) j
   | enter f args =>
    obtain⟨an,hc,j⟩:=bind_some (show ((run E n) (.call f args st.h)).bind (Gi (run E n) ops rest o.dst st)=some cE from j)
    cases an with
    | a e s=>cases j
    | v v h'=>exact key v h' (.inr (.inl ⟨f,args,rfl,Afy f args st.h _ hc⟩)) j
   | round l args =>
    obtain⟨an,hc,j⟩:=bind_some (show ((run E n) (.round l args st.h)).bind (Gi (run E n) ops rest o.dst st)=some cE from j)
    cases an with
    | a e s=>cases j
    | v v h'=>exact key v h' (.inr (.inr ⟨l,args,rfl,C l args st.h _ hc⟩)) j
  unfold H4 at I
  split at I
  . rename_i U
    exact YI I (by unfold cr;rw[U])
  . obtain⟨g,U,IR⟩:=bind_some I
    cases g with
    | false=>exact Afz IR U
    | true=>exact YI IR U
end Go.X
namespace Go.X
open Go
variable {P:Program} {E:Env}
theorem Fb {b:Frame} {a:Act} {k:List Item} {cs:List Frame} {w:World} {c:Code}:Go.step P (lone (b.atR a (.code (.scope c) :: k)) cs w)=.next (lone (b.atR a (.code c :: .inScope c :: k)) cs w) :=
 step_lone_go (by simp[stepG,stepG.exec,Frame.atR])
theorem A' {b:Frame} {a:Act} {k:List Item} {cs:List Frame} {w:World} {c:Code}:Go.step P (lone (b.atR a (.inScope c :: k)) cs w)=.next (lone (b.atR a k) cs w) :=
 step_lone_go (by simp[stepG,stepG.exec,Frame.atR])
structure Below (P:Program) (E:Env) (n:Nat):Prop where
 exec:∀ R fn c st cE,run E n (.exec R fn c st)=some cE->gx P R c st cE
 scope:∀ R fn b c st cE,run E n (.scope R fn b c st)=some cE->Iv P R b c st cE
 region:∀ ops rest st cE,run E n (.region ops rest st)=some cE->nb P ops rest st cE
 call:∀ f args h cE,run E n (.call f args h)=some cE->ai P f args h cE
 round:∀ l args h cE,run E n (.round l args h)=some cE->mM P l args h cE
theorem YJ {n:Nat} (B:Below P E n) {R:Option Nat} {fn:FuncId} {x y:Code} {st:St} {cE:ik} (hr:run E (n+1) (.exec R fn (.seq x y) st)=some cE):gx P R (.seq x y) st cE:=by
 obtain⟨r,h1,h2⟩:=bind_some (show ((run E n) (.exec R fn x st)).bind (Afh (run E n) R fn y)=some cE from hr)
 obtain⟨e1,j,rfl,o⟩:=B.exec _ _ _ _ _ h1
 cases e1 with
 | normal =>
  obtain⟨e2,I,he,J⟩:=B.exec _ _ _ _ _ (show run E n (.exec R fn y j)=some cE from h2)
  refine⟨e2,I,he,fun p base ρ a W C hb U hH hM=>?_⟩
  refine j7 (fun _ q=>by cases q) (wpIn_seq (x:=x) (y:=y) (cA ((o p base ρ a W C hb U hH hM).mono ?_)))
  rintro e a1 W1 ⟨rfl,YK,k1,k2,k3,k4⟩
  refine cA ((J p base YK a1 W1 C (Nat.le_trans hb k3.size) k1 k2 k4).mono ?_)
  intro e a2 W2 hA
  exact Dd.trans k3 hA
 | _ =>
  refine⟨_,j,(Option.some.inj (show some _=some cE from h2)).symm,fun p base ρ a W C hb U hH hM=>?_⟩
  refine j7 (fun _ q=>by cases q) (wpIn_seq (x:=x) (y:=y) (cA ((o p base ρ a W C hb U hH hM).mono ?_)))
  rintro e a1 W1 ⟨rfl,q⟩
  exact⟨rfl,q⟩
theorem Vk {n:Nat} (B:Below P E n) {R:Option Nat} {fn:FuncId} {c:Operand} {x y:Code} {st:St} {cE:ik} (hr:run E (n+1) (.exec R fn (.cond c x y) st)=some cE):gx P R (.cond c x y) st cE:=by
 have j:AbE (run E n) R fn x y st (ev st.tmps c)=some cE:=hr
 generalize hv:ev st.tmps c=v at j
 cases v with
 | bool t =>
  have h2:run E n (.exec R fn (if t then x else y) st)=some cE:=by cases t <;> exact j
  obtain⟨e,o,he,hw⟩:=B.exec _ _ _ _ _ h2
  refine⟨e,o,he,fun C base ρ a W I hb p J U=>?_⟩
  have hc:a.eval c=.bool t:=by
   have:=Ir p c
   rw[hv] at this
   revert this;generalize a.eval c=q;intro this;cases this;rfl
  exact j7 (fun _ q=>by cases q) (wpIn_cond hc (cA (hw C base ρ a W I hb p J U)))
 | _=>cases j
theorem QZ {n:Nat} (B:Below P E n) {R:Option Nat} {fn:FuncId} {id:Nat} {x:Code} {st:St} {cE:ik} (hr:run E (n+1) (.exec R fn (.block id x) st)=some cE):gx P R (.block id x) st cE:=by
 obtain⟨r,h1,h2⟩:=bind_some (show ((run E n) (.exec R fn x st)).bind (Yj id)=some cE from hr)
 obtain⟨e1,j,rfl,o⟩:=B.exec _ _ _ _ _ h1
 cases e1 with
 | exit k =>
  have p:some (ik.a (bif Nat.beq k id then .normal else .exit k) j)=some cE:=h2
  rw[ax] at p
  refine⟨_,j,(Option.some.inj p).symm,fun C base ρ a W I hb J U hM=>?_⟩
  refine j7 (fun _ q=>by cases q) (wpIn_block (cA ((o C base ρ a W I hb J U hM).mono ?_)))
  rintro e a1 W1 ⟨rfl,q⟩
  show if k=id then _ else _
  by_cases hk:k=id
  . rw[if_pos hk];simp only[hk,decide_true,cond_true];exact⟨rfl,q⟩
  . rw[if_neg hk];simp only[hk,decide_false,cond_false];exact⟨rfl,q⟩
 | _ =>
  refine⟨_,j,(Option.some.inj (show some _=some cE from h2)).symm,fun C base ρ a W I hb J U hM=>?_⟩
  refine j7 (fun _ q=>by cases q) (wpIn_block (cA ((o C base ρ a W I hb J U hM).mono ?_)))
  rintro e a1 W1 ⟨rfl,q⟩
  exact⟨rfl,q⟩
theorem Vl {n:Nat} (B:Below P E n) {R:Option Nat} {fn:FuncId} {x:Code} {st:St} {cE:ik} (hr:run E (n+1) (.exec R fn (.loop x) st)=some cE):gx P R (.loop x) st cE:=by
 obtain⟨r,h1,h2⟩:=bind_some (show ((run E n) (.exec R fn x st)).bind (AbD (run E n) R fn x)=some cE from hr)
 obtain⟨J,p,rfl,I⟩:=B.exec _ _ _ _ _ h1
 have tail:∀ e,e≠.normal->J=e->some (ik.a J p)=some cE->gx P R (.loop x) st cE:=by
  intro e im he h2
  subst he
  refine⟨_,p,(Option.some.inj h2).symm,fun U base ρ a W hR hb hT hH hM b k cs o=>?_⟩
  obtain⟨e',a1,W1,⟨rfl,q⟩,j⟩:=cA (I U base ρ a W hR hb hT hH hM) b (.inLoop x :: k) cs o trivial (pV _ _)
  refine⟨_,a1,W1,⟨rfl,q⟩,.pass (x:=.inLoop x) rfl (fun _ _=>.inl ?_) j⟩
  cases J <;> first | exact absurd rfl im | (intro h;cases h)
 cases J with
 | normal =>
  obtain⟨e2,st2,he,Qm⟩:=B.exec _ _ _ _ _ (show run E n (.exec R fn (.loop x) p)=some cE from h2)
  refine⟨e2,st2,he,fun U base ρ a W hR hb hT hH hM b k cs o=>?_⟩
  obtain⟨e',a1,W1,⟨rfl,YK,k1,k2,k3,k4⟩,j⟩:=cA (I U base ρ a W hR hb hT hH hM) b (.inLoop x :: k) cs o trivial (pV _ _)
  obtain⟨e'',a2,W2,hA,C⟩:=Qm U base YK a1 W1 hR (Nat.le_trans hb k3.size) k1 k2 k4 b k cs o
  exact⟨e'',a2,W2,Dd.trans k3 hA,.of_steps (StepsIn.trans j (si1 stepR_inLoop)) C⟩
 | exit k=>exact tail _ (by intro h;cases h) rfl h2
 | goto k=>exact tail _ (by intro h;cases h) rfl h2
 | ret=>exact tail _ (by intro h;cases h) rfl h2
theorem Pd {n:Nat} (B:Below P E n) {R:Option Nat} {fn:FuncId} {b c:Code} {st:St} {cE:ik} (hr:run E (n+1) (.scope R fn b c st)=some cE):Iv P R b c st cE:=by
 obtain⟨r,h1,h2⟩:=bind_some (show ((run E n) (.exec R fn c st)).bind (Yo (run E n) R fn b)=some cE from hr)
 obtain⟨e1,p,rfl,C⟩:=B.exec _ _ _ _ _ h1
 cases e1 with
 | normal =>
  refine⟨.normal,p,(Option.some.inj (show some _=some cE from h2)).symm,fun I base ρ a W J hb U hH hM fr k cs o=>?_⟩
  obtain⟨e',a1,W1,⟨rfl,q⟩,j⟩:=cA (C I base ρ a W J hb U hH hM) fr (.inScope b :: k) cs o trivial (pV _ _)
  exact⟨_,a1,W1,⟨rfl,q⟩,StepsIn.trans j (si1 A')⟩
 | exit id =>
  refine⟨.exit id,p,(Option.some.inj (show some _=some cE from h2)).symm,fun I base ρ a W J hb U hH hM fr k cs o=>?_⟩
  obtain⟨e',a1,W1,⟨rfl,q⟩,j⟩:=cA (C I base ρ a W J hb U hH hM) fr (.inScope b :: k) cs o trivial (pV _ _)
  exact⟨_,a1,W1,⟨rfl,q⟩,⟨fun k' hk=>j.1 k' (by simpa [exitTo] using hk),fun h1 h2=>j.2 h1 (by simpa [exitTo] using h2)⟩⟩
 | ret =>
  refine⟨.ret,p,(Option.some.inj (show some _=some cE from h2)).symm,fun I base ρ a W J hb U hH hM fr k cs o=>?_⟩
  obtain⟨e',a1,W1,⟨rfl,q⟩,j⟩:=cA (C I base ρ a W J hb U hH hM) fr (.inScope b :: k) cs o trivial (pV _ _)
  exact⟨_,a1,W1,⟨rfl,q⟩,j⟩
 | goto l =>
  have h2':(match findLabel b l with
   | some rest=>run E n (.scope R fn b rest p)
   | none=>some (.a (.goto l) p))=some cE:=h2
  split at h2'
  . rename_i rest hf
    obtain⟨e2,st2,he,Qm⟩:=B.scope _ _ _ _ _ _ h2'
    refine⟨e2,st2,he,fun I base ρ a W J hb U hH hM fr k cs o=>?_⟩
    obtain⟨e',a1,W1,⟨rfl,YK,k1,k2,k3,k4⟩,j⟩:=cA (C I base ρ a W J hb U hH hM) fr (.inScope b :: k) cs o trivial (pV _ _)
    obtain⟨e'',a2,W2,hA,AfA⟩:=Qm I base YK a1 W1 J (Nat.le_trans hb k3.size) k1 k2 k4 fr k cs o
    exact⟨e'',a2,W2,Dd.trans k3 hA,.of_steps (j.1 _ (by simp[gotoIn,hf])) AfA⟩
  . rename_i hf
    refine⟨.goto l,p,(Option.some.inj h2').symm,fun I base ρ a W J hb U hH hM fr k cs o=>?_⟩
    obtain⟨e',a1,W1,⟨rfl,q⟩,j⟩:=cA (C I base ρ a W J hb U hH hM) fr (.inScope b :: k) cs o trivial (pV _ _)
    exact⟨_,a1,W1,⟨rfl,q⟩,⟨fun k' hk=>j.1 k' (by simpa [gotoIn,hf] using hk),fun h1 h2=>j.2 h1 (by simpa [gotoIn,hf] using h2)⟩⟩
theorem Q0 {n:Nat} (B:Below P E n) {R:Option Nat} {fn:FuncId} {x:Code} {st:St} {cE:ik} (hr:run E (n+1) (.exec R fn (.scope x) st)=some cE):gx P R (.scope x) st cE:=by
 obtain⟨e,o,he,hw⟩:=B.scope _ _ _ _ _ _ (show run E n (.scope R fn x x st)=some cE from hr)
 refine⟨e,o,he,fun C base ρ a W I hb J U hM fr k cs p=>?_⟩
 obtain⟨e',a1,W1,hA,j⟩:=hw C base ρ a W I hb J U hM fr k cs p
 exact⟨e',a1,W1,hA,.of_steps (si1 Fb) j⟩
theorem vX {R:Option Nat} {c:Code} {st:St} (e:AE) (hc:∀ (j:Option Nat) (Q:Exit->Act->World->Prop) (a:Act) (w:World),Q (El e) a w->c.wpIn (FW j) 0 P Q a w) (im:∀ b,c≠.loop b):gx P R c st (.a e st) :=
 ⟨e,st,rfl,fun j base ρ a W _ _ o p C=>j7 im (hc j _ _ _ ⟨rfl,ρ,o,p,Ext.refl _ _ _,C⟩)⟩
theorem aX.AaR {ρ:bS} {h:H} {W W':World} (p:aX ρ h W) {B:Nat} (hB:∃ o,W.heap[B]?=some o/\∀ C e F,o≠.cells C e F) (hn:∀ b x r,h.get b=some x->MB x=false->ρ b=some r->r.dH≠B)
 (hs:W'.heap.size=W.heap.size) (hk:∀ C,C≠B->W'.heap[C]?=W.heap[C]?):aX ρ h W':=by
 refine⟨fun b x r R h2=>?_,p.inj,fun b r e=>by rw[hs];exact p.we b r e,p.fresh⟩
 have U:=p.obj b x r R h2
 have im:r.dH≠B:=by
  by_cases j:MB x=false
  . exact hn b x r R j h2
  . intro e
    obtain⟨o,I,J⟩:=hB
    cases x with
    | row x =>
     obtain⟨C,F,q,_⟩:=U
     rw[e,I] at q
     cases q;exact J _ _ _ rfl
    | _=>exact j rfl
 exact U.mono ρ.le_refl (hk _ im)
theorem Df {fn:Func} {tmps:Array Value} {base:Nat} {Rp:Ending->World->Prop} {ρ:bS} {h:H}:∀ (p:List Nat) (W:World),p.Nodup->(∀ B ∈ p,base<=B/\B<W.heap.size/\W.heap[B]?=some (.deferred (some []))/\∀ b x r,h.get b=some x->MB x=false->ρ b=some r->r.dH≠B)->aX ρ h W ->
 (∀ W',aX ρ h W'->W'.heap.size=W.heap.size->W'.os=W.os->W'.tape=W.tape->W'.output=W.output->(∀ B,B<base->W'.heap[B]?=W.heap[B]?)->∃ V,(results fn tmps).run P W'=.ok V W'/\Rp (.returned V) W') ->
 LeavesInM Fence.wide 0 P fn tmps Rp (p.map vq) .returning W:=by
 intro p
 induction p with
 | nil =>
  intro W _ _ J R
  obtain⟨V,h1,h2⟩:=R W J rfl rfl rfl rfl (fun _ _=>rfl)
  exact⟨V,h1,h2⟩
 | cons B p ih =>
  intro W U hB J R
  obtain⟨h0,h1,h2,h3⟩:=hB B (.head _)
  have o:=List.nodup_cons.1 U
  have j:∀ C,C≠B->(W.putObj B (.deferred none)).heap[C]?=W.heap[C]?:=fun C I=>World.putObj_heap_other I
  refine⟨(fun q=>by cases q),.inl ⟨B,W.putObj B (.deferred none),rfl,run_takeDeferred h2,?_⟩⟩
  have hH':aX ρ h (W.putObj B (.deferred none)):=J.AaR ⟨_,h2,fun _ _ _ q=>by cases q⟩ h3 World.putObj_size j
  refine ih _ o.2 (fun C I=>?_) hH' fun W' k1 k2 k3 k4 k5 k6=>?_
  . obtain⟨l0,l1,l2,l3⟩:=hB C (.tail _ I)
    have im:C≠B:=fun e=>o.1 (e ▸ I)
    exact⟨l0,by rw[World.putObj_size];exact l1,(j C im).trans l2,l3⟩
  . exact R W' k1 (k2.trans World.putObj_size) k3 k4 k5 fun C I=>(k6 C I).trans (j C om)
theorem Q_ (hE:bj P E) (hX:∀ f,h_ f E.xs≠some 3) {n:Nat} (B:Below P E n) {f:FuncId} {args:List Value} {h:H} {cE:ik} (hr:run E (n+1) (.call f args h)=some cE):ai P f args h cE:=by
 have o:H6 E (run E n) f args h=some cE:=hr
 unfold H6 at o
 split at o
 . rename_i k hk
   split at o
   . exact absurd hk (hX f)
   . cases o
 . obtain⟨fd,U,GB⟩:=bind_some o
   obtain⟨body,p,IR⟩:=bind_some GB
   obtain⟨r,h1,h2⟩:=bind_some IR
   have hP:=hE.funcs f fd U
   refine⟨⟨fd,body,hP,p⟩,?_⟩
   obtain⟨e1,j,rfl,WK⟩:=B.exec _ _ _ _ _ h1
   have J:∃ vs,mr E j fd.results.toList=some vs/\cE=.v (cN vs) j.h/\(e1=.normal\/e1=.ret):=by
    cases e1 with
    | normal=>obtain⟨vs,hv,he⟩:=map_some (show (mr E j fd.results.toList).map (fun vs=>ik.v (cN vs) j.h)=some cE from h2);exact⟨vs,hv,he.symm,.inl rfl⟩
    | ret=>obtain⟨vs,hv,he⟩:=map_some (show (mr E j fd.results.toList).map (fun vs=>ik.v (cN vs) j.h)=some cE from h2);exact⟨vs,hv,he.symm,.inr rfl⟩
    | exit k=>cases h2
    | goto k=>cases h2
   obtain⟨vs,hvs,rfl,hee⟩:=J
   refine⟨_,_,rfl,fun ρ ARGS W hA hH=>?_⟩
   refine (callsIn_wide (n:=0)).1 (callsIn_of_wp_marks hP p trivial ?_)
   have hT:=Pb hA fd.ntmps
   have:=cA (WK none W.heap.size ρ { tmps:=ARGS.toArray++Array.replicate (fd.ntmps-ARGS.toArray.size) Go.undef,defers:=[] } W (fun _=>rfl) nlr hT hH (Marks.nil _ _ _ _))
   refine Go.Code.wpIn_mono ?_ this
   rintro e a1 W1 ⟨rfl,YK,k1,k2,I,Bs,hD,hnd,hB⟩
   have fin:LeavesInM Fence.wide 0 P fd a1.tmps (oq ρ h W (cN vs) j.h) a1.defers .returning W1:=by
    rw[hD]
    refine Df Bs W1 hnd hB k2 fun W' q1 q2 q3 q4 q5 q6=>?_
    obtain⟨V,hV,R⟩:=A_ hE k1 q1 fd vs hvs
    refine⟨V,hV,YK,R,q1,I.le,by rw[q2];exact I.size,q3.trans I.os,q4.trans I.tape,q5.trans I.output,?_,I.own,I.next,I.cK⟩
    intro C hC hn
    exact (q6 C hC).trans (I.kept C hC hn)
   rcases hee with rfl | rfl
   . exact fin
   . exact fin
theorem qM {W:World} {B:Nat} {o p:Obj} (h:W.heap[B]?=some p):(W.putObj B o).heap[B]?=some o:=by
 have j:B<W.heap.size:=by
  rcases Nat.lt_or_ge B W.heap.size with g | g
  . exact g
  . rw[Array.getElem?_eq_none g] at h;cases h
 simp[World.putObj,j]
theorem Fc {ρ:bS}:∀ (ps:List Tmp) (args ARGS:List Value) (tm:B) (T:Array Value),bc ρ args ARGS->args.length=ps.length->gr ρ tm T->gr ρ (kZ tm ps args) ((ps.zip ARGS).foldl (fun tmps x=>tmps.setIfInBounds x.1 x.2) T):=by
 intro ps
 induction ps with
 | nil =>
  intro args ARGS tm T j hl o
  have:args=[]:=List.eq_nil_of_length_eq_zero hl
  subst this;cases j;exact o
 | cons p ps C =>
  intro args ARGS tm T j hl o
  cases j with
  | nil=>simp at hl
  | cons v V l L hv I =>
   show gr ρ (kZ (tm.set p v) ps l) (((p,V) :: ps.zip L).foldl _ T)
   exact C l L _ _ I (sp hl) (o.set p hv)
def Ix:AE->Option Code | .normal=>none | .ret=>some .ret | .exit id=>some (.exit id) | .goto t=>some (.goto t)
theorem Pe {n:Nat} (B:Below P E n) {l:Nat} {args:List Value} {h:H} {cE:ik} (hr:run E (n+1) (.round l args h)=some cE):mM P l args h cE:=by
 have I:KC (run E n) l args h (h.get l)=some cE:=hr
 cases hg:h.get l with
 | none=>rw[hg] at I;cases I
 | some o =>
  rw[hg] at I
  cases o with
  | loop st pd f0 tm ps zQq bd d0 =>
   obtain⟨an,h1,h2⟩:=bind_some (show ((run E n) (.exec (some l) f0 zQq ⟨kZ tm ps args,[],h⟩)).bind (Ta (run E n) l f0 bd)=some cE from I)
   obtain⟨e1,J,rfl,WK⟩:=B.exec _ _ _ _ _ h1
   cases e1 with
   | normal =>
    have h3:S' (run E n) l f0 bd J (J.h.get l)=some cE:=h2
    cases R:J.h.get l with
    | none=>rw[R] at h3;cases h3
    | some o1 =>
     rw[R] at h3
     cases o1 with
     | loop s1 pd1 f1 Zp ps1 as1 bd1 d1 =>
      cases s1 with
      | ready =>
       obtain⟨an2,h4,h5⟩:=bind_some (show ((run E n) (.exec (some l) f0 bd ⟨J.tmps,[],J.h.put l (.loop .busy pd1 f1 Zp ps1 as1 bd1 d1)⟩)).bind (S_ l)=some cE from h3)
       obtain⟨e2,U,rfl,Qm⟩:=B.exec _ _ _ _ _ h4
       have h6:O0 l e2 U (U.h.get l)=some cE:=h5
       cases hg2:U.h.get l with
       | none=>rw[hg2] at h6;cases h6
       | some o2 =>
        rw[hg2] at h6
        cases o2 with
        | loop s2 pd2 f2 tm2 ps2 as2 bd2 d2 =>
         have Ahk:∃ (v:Bool) (j:Option Code),cE=.v (.bool v) (U.h.put l (.loop (if j.isNone then .ready else .done) j f2 tm2 ps2 as2 bd2 d2))/\v=j.isNone ∧
          j=Ix e2:=by
          cases e2 with
          | normal=>cases h6;exact⟨true,none,rfl,rfl,rfl⟩
          | ret=>cases h6;exact⟨false,some .ret,rfl,rfl,rfl⟩
          | exit id=>cases h6;exact⟨false,some (.exit id),rfl,rfl,rfl⟩
          | goto t=>cases h6;exact⟨false,some (.goto t),rfl,rfl,rfl⟩
         obtain⟨v,j,rfl,hvj,hj⟩:=Ahk
         refine⟨_,_,rfl,?_⟩
         intro rr st0 pd0 f00 tm0 ps0 as0 bd0 d00 ri T fn d ρ ARGS W e1 Jl e3 e4 e5 e6 hH
         rw[hg] at e1;cases e1
         have hT0:=Fc ps args ARGS tm T e5 e6 e3
         have AdH:gr ρ (kZ tm ps args) ((ps.toArray.zip ARGS.toArray).foldl (fun tmps x=>tmps.setIfInBounds x.1 x.2) T):=by
          have:(ps.toArray.zip ARGS.toArray).foldl (fun tmps x=>tmps.setIfInBounds x.1 x.2) T=(ps.zip ARGS).foldl (fun tmps x=>tmps.setIfInBounds x.1 x.2) T:=sm
          rw[this];exact hT0
         refine roundIn_of_wpIn (F:=FW rr) trivial ?_
         have hw:=cA (WK (some ri.dH) W.heap.size ρ { tmps:=(ps.toArray.zip ARGS.toArray).foldl (fun tmps x=>tmps.setIfInBounds x.1 x.2) T,defers:=[] } W (fun q=>by cases q) nlr AdH hH (Marks.nil _ _ _ _))
         refine Go.Code.wpIn_mono ?_ hw
         rintro e a1 W1 ⟨rfl,YK,k1,k2,k3,kM⟩
         have p:=k3.le _ _ Jl
         obtain⟨T1,fn1,dd1,q1,q2⟩:=k2.obj l _ ri R p
         refine⟨_,run_beginRound q2 rfl,?_⟩
         have Pf:∀ C,C≠ri.dH->(W1.putObj ri.dH (.loop { state:=.busy,pending:=pd1,fn:=fn1,tmps:=T1,params:=ps1.toArray,assign:=as1,body:=bd1,defers:=dd1 })).heap[C]?=W1.heap[C]?:=fun C hC=>World.putObj_heap_other hC
         have hH1:=k2.put l _ (.loop .busy pd1 f1 Zp ps1 as1 bd1 d1) ri R rfl rfl p World.putObj_size Pf ⟨T1,fn1,dd1,q1,qM q2⟩
         have hX1:=Ext.put l _ (.loop .busy pd1 f1 Zp ps1 as1 bd1 d1) ri R rfl p World.putObj_size Pf rfl rfl rfl
         have ZU:=cA (Qm (some ri.dH) W.heap.size YK a1 _ (fun q=>by cases q) (by rw[World.putObj_size];exact k3.size) k1 hH1 (kM.ext hX1))
         refine Go.Code.wpIn_mono ?_ ZU
         rintro e a2 W2 ⟨rfl,ρ2,l1,l2,l3,lM⟩
         have MH:=l3.le _ _ p
         obtain⟨T2,Zq,dd2,r1,r2⟩:=l2.obj l _ ri hg2 MH
         have hX2:=(k3.trans hX1).trans l3
         have fin:∃ v' w',(Instr.endRound ri.dH j).run P W2=.ok v' w'/\oq ρ h W (.bool v) (U.h.put l (.loop (if j.isNone then .ready else .done) j f2 tm2 ps2 as2 bd2 d2)) (.returned v') w':=by
          refine⟨_,_,run_endRound j r2,ρ2,?_,?_,?_⟩
          . rw[hvj];exact .bool _
          . exact l2.put l _ _ ri hg2 rfl rfl MH World.putObj_size (fun C hC=>World.putObj_heap_other hC) ⟨T2,Zq,dd2,r1,qM r2⟩
          . exact hX2.trans (Ext.put l _ _ ri hg2 rfl MH World.putObj_size (fun C hC=>World.putObj_heap_other hC) rfl rfl rfl)
         subst hj
         cases e2 with
         | normal=>exact fin
         | ret=>exact fin
         | exit id=>exact fin
         | goto t=>exact fin
        | _=>cases h6
      | _=>cases h3
     | _=>cases h3
   | _=>cases h2
  | _=>cases I
theorem Iy (hE:bj P E) {f:Operand} {ps:Array Tmp} {zQq bd:Code} {st:St} {gf:FuncId} {first captured:Array Value} (hv:ev st.tmps f=.func (.func gf) first captured) {fd:Func} {body:Code} (Zo:P.funcs[gf]?=some fd) (YL:fd.body=some body)
 {Qc:Value->H->Prop} (Zi:∀ (ρ:bS) (ARGS:List Value) (W:World),bc ρ (cW (cW first.toList [Value.func (.yield st.h.next) #[] #[]]) captured.toList) ARGS->aX ρ (j6 st ps zQq bd) W->Calls P gf ARGS.toArray W fun e W'=>∃ v h',Qc v h'/\oq ρ (j6 st ps zQq bd) W v h' e W')
 {K:AE->H->Prop} (hK:∀ v h',Qc v h'->∃ e s f1 Zp I J R d1,h'.get st.h.next=some (.loop s (Ix e) f1 Zp I J R d1)/\s≠.busy/\K e (h'.del st.h.next))
 {base:Nat} {ρ:bS} {a:Act} {W:World} (hb:base<=W.heap.size) (hT:gr ρ st.tmps a.tmps) (hH:aX ρ st.h W) (hM:Marks base ρ st.h W a.defers) :
 Iu none P (entry (.rangeFunc f ps zQq bd)) (fun e' a' W'=>∃ e h',K e h'/\e'=El e/\a'.tmps=a.tmps/\∃ bY,ρ.le bY/\aX bY h' W'/\Ext ρ st.h W bY h' W'/\Marks base bY h' W' a'.defers) a W:=by
  refine j7 (fun _ q=>by cases q) (wpIn_rangeFunc fun fn' _=>?_)
  -- DB record is laid
  have hfv:=Ir hT f
  rw[hv] at hfv
  generalize hq:a.eval f=q at hfv
  cases hfv with
  | func _ F _ A _ C hfn ha hca =>
   cases hfn
   let W1:=(W.alloc (.deferred (some []))).alloc (.loop { state:=.ready,pending:=none,fn:=fn',tmps:=a.tmps,params:=ps,assign:=zQq,body:=bd,defers:=W.heap.size })
   have hW0:aX ρ st.h (W.alloc (.deferred (some []))):=by
    refine⟨fun b x r o e2=>(hH.obj b x r o e2).mono ρ.le_refl ?_,hH.inj,fun b r e=>?_,hH.fresh⟩
    . show (W.heap.push _)[_]?=_
      rw[Array.getElem?_push,if_neg (by have:=(hH.we b r e2).2;omega)]
    . have:=hH.we b r e
      refine⟨this.1,?_⟩
      show r.dH<(W.heap.push _).size
      rw[Array.size_push];omega
   have hX0:Ext ρ st.h W ρ st.h (W.alloc (.deferred (some []))):=by
    refine⟨ρ.le_refl,?_,rfl,rfl,rfl,fun C hC _=>?_,fun b x r k1 k2 k3 _=>⟨b,x,r,k1,k2,k3,rfl⟩,Nat.le_refl _,fun _ _=>rfl⟩
    . show W.heap.size<=(W.heap.push _).size
      rw[Array.size_push];omega
    . show (W.heap.push _)[C]?=_
      rw[Array.getElem?_push,if_neg om]
   have O':(W.alloc (.deferred (some []))).heap.size=W.heap.size+1:=by show (W.heap.push _).size=_;simp
   let p:RI:=⟨W.heap.size+1,0,0,0,0⟩
   have YD:ρ st.h.next=none:=by
    cases q2:ρ st.h.next with
    | none=>rfl
    | some r=>have:=(hH.we _ _ q2).1;omega
   have hle:=ρ.xC st.h.next p YD
   have hWp:W1.heap=(W.alloc (.deferred (some []))).heap.push (.loop { state:=.ready,pending:=none,fn:=fn',tmps:=a.tmps,params:=ps,assign:=zQq,body:=bd,defers:=W.heap.size }):=rfl
   have cq:W1.heap[p.dH]?=some (.loop { state:=.ready,pending:=none,fn:=fn',tmps:=a.tmps,params:=ps.toList.toArray,assign:=zQq,body:=bd,defers:=W.heap.size }):=by
    rw[hWp,Array.getElem?_push,if_pos (show p.dH=_ from O'.symm)]
   have hH1:aX (ρ.add st.h.next p) (j6 st ps zQq bd) W1:=hW0.new _ _ p hWp O'.symm ⟨a.tmps,fn',W.heap.size,hT.mono hle,cq⟩
   have hX1:Ext ρ st.h W (ρ.add st.h.next p) (j6 st ps zQq bd) W1:=hX0.trans (Ext.new hW0 _ _ p hWp O'.symm rfl rfl rfl)
   have hAr:bc (ρ.add st.h.next p) (cW (cW first.toList [Value.func (.yield st.h.next) #[] #[]]) captured.toList) ((A.toList++[Value.func (.yield (W.heap.size+1)) #[] #[]])++C.toList):=by
    rw[dF,dF]
    exact ((ha.mono hle).append (.cons _ _ _ _ (.func _ _ _ _ _ _ (.yield _ p (bS.add_same _ _ _)) .nil .nil) .nil)).append (hca.mono hle)
   have hC:=Zi _ _ W1 hAr hH1
   have Ahl:=hE.num gf fd Zo
   refine⟨W.heap.size+1,[vq W.heap.size],W1,{ target:=.fn (.func gf) C,args:=A++#[.func (.yield (W.heap.size+1)) #[] #[]] },W1,gf,((A.toList++[Value.func (.yield (W.heap.size+1)) #[] #[]])++C.toList).toArray,W1,
    run_enterLoop_outer _ _ _ _ _,?_,fun _ _=>trivial,?_,(fun q=>by cases q),It (hC.mono ?_)⟩
   . simp[resolve,hq,Deferred.ofValue,Sem.run_bind,Sem.run_pure]
     rfl
   . simp only[Go.invoke]
     unfold callFunc
     simp only[Sem.run_bind,run_program,Result.andThen_ok,Zo]
     simp[Ahl,YL,Sem.run_pure]
   . intro en W2 hp
     cases en with
     | returned V =>
      obtain⟨v,h',hQ,U,p1,p2,p3⟩:=hp
      obtain⟨e,s,f1,Zp,I,J,R,d1,hg,AfB,hKe⟩:=hK v h' hQ
      generalize hpe:Ix e=bQ at hg
      have MH:U st.h.next=some p:=p3.le _ _ (bS.add_same _ _ _)
      obtain⟨T,Zq,dd,t1,t2⟩:=p2.obj _ _ p hg MH
      refine⟨bQ,_,run_endLoop t2 AfB,?_⟩
      have Pf:∀ C,C≠p.dH->(W2.putObj p.dH (.loop { state:=.exhausted,pending:=bQ,fn:=Zq,tmps:=T,params:=I.toArray,assign:=J,body:=R,defers:=dd })).heap[C]?=W2.heap[C]?:=fun C hC=>World.putObj_heap_other hC
      have hH2:=p2.put _ _ (.loop .exhausted bQ f1 Zp I J R d1) p hg rfl rfl MH World.putObj_size Pf ⟨T,Zq,dd,t1,qM t2⟩
      have hX2:=Ext.put _ _ (.loop .exhausted bQ f1 Zp I J R d1) p hg rfl MH World.putObj_size Pf rfl rfl rfl
      have PQ:aX U (h'.del st.h.next) (W2.putObj p.dH (.loop { state:=.exhausted,pending:=bQ,fn:=Zq,tmps:=T,params:=I.toArray,assign:=J,body:=R,defers:=dd })):=by
       have:=hH2.del st.h.next
       refine⟨fun b x r o e2=>?_,fun b b' x x' r r' o BA=>?_,this.we,fun b hb'=>?_⟩
       . rw[H.mu] at o
         by_cases j:b=st.h.next
         . rw[if_pos j] at o;cases o
         . rw[if_neg j] at o
           exact hH2.obj b x r (by rw[H.d',if_neg j];exact o) e2
       . rw[H.mu] at o BA
         by_cases j:b=st.h.next
         . rw[if_pos j] at o;cases o
         . by_cases AdI:b'=st.h.next
           . rw[if_pos AdI] at BA;cases BA
           . rw[if_neg j] at o;rw[if_neg AdI] at BA
             exact hH2.inj b b' x x' r r' (by rw[H.d',if_neg j];exact o) (by rw[H.d',if_neg AdI];exact BA)
       . rw[H.mu]
         by_cases j:b=st.h.next
         . rw[if_pos j]
         . rw[if_neg j];exact p2.fresh b hb'
      have QT:Ext ρ st.h W U (h'.del st.h.next) (W2.putObj p.dH (.loop { state:=.exhausted,pending:=bQ,fn:=Zq,tmps:=T,params:=I.toArray,assign:=J,body:=R,defers:=dd })):=by
       have x:=(hX1.trans p3).trans hX2
       refine⟨x.le,x.size,x.os,x.tape,x.output,x.kept,fun b y r o e2 e3 e4=>?_,x.next,x.cK⟩
       rw[H.mu] at o
       by_cases j:b=st.h.next
       . rw[if_pos j] at o;cases o
       . rw[if_neg j] at o
         exact x.own b y r (by rw[H.d',if_neg j];exact o) e2 e3 e4
      have hM3:Marks base U (h'.del st.h.next) (W2.putObj p.dH (.loop { state:=.exhausted,pending:=bQ,fn:=Zq,tmps:=T,params:=I.toArray,assign:=J,body:=R,defers:=dd })) ([vq W.heap.size]++a.defers):=by
       obtain⟨Bs,hD,hnd,hB⟩:=hM
       -- DB new Ahm block is not DB AbH
       have m1:Marks W.heap.size (ρ.add st.h.next p) (j6 st ps zQq bd) W1 [vq W.heap.size]:=by
        refine⟨[W.heap.size],rfl,sm,fun B hBm=>?_⟩
        obtain rfl:B=W.heap.size:=sp hBm
        refine⟨Nat.le_refl _,?_,?_,fun b x r k1 k2 k3 k4=>?_⟩
        . rw[hWp,Array.size_push,O'];omega
        . rw[hWp,Array.getElem?_push,if_neg (by rw[O'];omega)]
          show (W.heap.push _)[W.heap.size]?=_
          simp
        . rw[show (j6 st ps zQq bd).get b=_ from H.eF _ _ _] at k1
          by_cases j:b=st.h.next
          . subst j
            rw[bS.add_same] at k3;cases k3
            have:p.dH=W.heap.size+1:=rfl
            omega
          . rw[if_neg j] at k1
            have k3':ρ b=some r:=by
             have:(ρ.add st.h.next p) b=ρ b:=if_neg j
             rw[this] at k3;exact k3
            have:=(hH.we b r k3').2
            omega
       have x23:Ext (ρ.add st.h.next p) (j6 st ps zQq bd) W1 U (h'.del st.h.next) (W2.putObj p.dH (.loop { state:=.exhausted,pending:=bQ,fn:=Zq,tmps:=T,params:=I.toArray,assign:=J,body:=R,defers:=dd })):=by
        have x:=p3.trans hX2
        refine⟨x.le,x.size,x.os,x.tape,x.output,x.kept,fun b y r o e2 e3 e4=>?_,x.next,x.cK⟩
        rw[H.mu] at o
        by_cases j:b=st.h.next
        . rw[if_pos j] at o;cases o
        . rw[if_neg j] at o
          exact x.own b y r (by rw[H.d',if_neg j];exact o) e2 e3 e4
       have m2:=m1.ext x23
       obtain⟨Bs0,hD0,AhZ,Nn⟩:=Marks.ext ⟨Bs,hD,hnd,hB⟩ QT
       obtain⟨Bs1,hD1,Ah0,hB1⟩:=m2
       have o:Bs1=[W.heap.size]:=by
        cases Bs1 with
        | nil=>cases hD1
        | cons B1 Bs1 =>
         cases Bs1 with
         | nil=>simp[vq] at hD1;rw[hD1]
         | cons _ _=>simp at hD1
       subst o
       have Ahn:∀ (l l':List Nat),l.map vq=l'.map vq->l=l':=by
        intro l
        induction l with
        | nil=>intro l' h;cases l' with
         | nil=>rfl
         | cons _ _=>simp at h
        | cons x l ih=>intro l' h;cases l' with
         | nil=>simp at h
         | cons y l'=>simp[vq] at h;rw[h.1,ih l' (by simpa [vq] using h.2)]
       have e2:Bs0=Bs:=Ahn _ _ (hD0.symm.trans hD)
       subst e2
       refine⟨W.heap.size :: Bs0,by rw[hD];rfl,List.nodup_cons.2 ⟨fun hm=>?_,hnd⟩,fun B hBm=>?_⟩
       . have:=(hB _ hm).2.1;omega
       . cases hBm with
         | head=>obtain⟨_,k2,k3,k4⟩:=hB1 W.heap.size sm;exact⟨hb,k2,k3,k4⟩
         | tail _ hm=>exact Nn B hm
      subst hpe
      cases e with
      | normal=>exact⟨.normal,_,hKe,rfl,rfl,U,QT.le,PQ,QT,hM3⟩
      | ret=>exact wpIn_ret ⟨.ret,_,hKe,rfl,rfl,U,QT.le,PQ,QT,hM3⟩
      | exit id=>exact wpIn_exit ⟨.exit id,_,hKe,rfl,rfl,U,QT.le,PQ,QT,hM3⟩
      | goto t=>exact wpIn_goto ⟨.goto t,_,hKe,rfl,rfl,U,QT.le,PQ,QT,hM3⟩
     | panicked _=>obtain⟨_,_,_,hp⟩:=hp;exact hp.elim
     | outgrown=>obtain⟨_,_,_,hp⟩:=hp;exact hp.elim
theorem Q' (hE:bj P E) {n:Nat} (B:Below P E n) {fn:FuncId} {f:Operand} {ps:Array Tmp} {zQq bd:Code} {st:St} {cE:ik} (hr:run E (n+1) (.exec none fn (.rangeFunc f ps zQq bd) st)=some cE):gx P none (.rangeFunc f ps zQq bd) st cE:=by
 have C:SZ E (run E n) st st.h.next (j6 st ps zQq bd) (ev st.tmps f)=some cE:=hr
 generalize hv:ev st.tmps f=fv at C
 cases fv with
 | func g first captured =>
  obtain⟨an,h1,h2⟩:=bind_some (show ((mK E (j6 st ps zQq bd) g captured.toList (cW first.toList [Value.func (.yield st.h.next) #[] #[]])).bind (KB (run E n) (j6 st ps zQq bd))).bind (Yp st st.h.next)=some cE from C)
  obtain⟨r,U,h4⟩:=bind_some h1
  cases g with
  | func gf =>
   have hr0:r=.enter gf (cW (cW first.toList [Value.func (.yield st.h.next) #[] #[]]) captured.toList):=by
    have j:vm E (j6 st ps zQq bd) gf (cW (cW first.toList [Value.func (.yield st.h.next) #[] #[]]) captured.toList)=some r:=U
    unfold vm at j
    split at j
    . cases j;rfl
    . split at j
      . cases j;rfl
      . obtain⟨v,hv,IS⟩:=map_some j
        subst IS;cases h4
   subst hr0
   have hc:=B.call _ _ _ _ (show run E n (.call gf _ (j6 st ps zQq bd))=some an from h4)
   obtain⟨⟨fd,body,Zo,I⟩,v,h',rfl,Zi⟩:=hc
   have p:endLoop st st.h.next h' (h'.get st.h.next)=some cE:=h2
   cases hg:h'.get st.h.next with
   | none=>rw[hg] at p;cases p
   | some o =>
    rw[hg] at p
    cases o with
    | row _=>cases p
    | map _ _=>cases p
    | iter _ _=>cases p
    | deferred _=>cases p
    | loop s bQ f1 Zp ps1 as1 bd1 d1 =>
     have h6:Mt s=some ()/\∃ e:AE,bQ=Ix e/\cE=.a e ⟨st.tmps,st.xy,h'.del st.h.next⟩:=by
      obtain⟨u,hu,h7⟩:=bind_some (show (Mt s).bind _=some cE from p)
      refine⟨hu,?_⟩
      cases bQ with
      | none=>cases h7;exact⟨.normal,rfl,rfl⟩
      | some c =>
       cases c with
       | ret=>cases h7;exact⟨.ret,rfl,rfl⟩
       | exit id=>cases h7;exact⟨.exit id,rfl,rfl⟩
       | goto t=>cases h7;exact⟨.goto t,rfl,rfl⟩
       | _=>cases h7
     obtain⟨hs,e,hpe,rfl⟩:=h6
     have J:s≠.busy:=fun q=>by subst q;cases hs
     refine⟨e,_,rfl,fun rr base ρ a W hR hb hT hH hM=>?_⟩
     obtain rfl:rr=none:=hR rfl
     refine (Iy hE hv Zo I (Qc:=fun v0 h0=>v0=v/\h0=h') (K:=fun e0 h0=>e0=e/\h0=h'.del st.h.next) (fun ρ ARGS W hA hH=>(Zi ρ ARGS W hA hH).mono fun e0 W' hp=>⟨v,h',⟨rfl,rfl⟩,hp⟩) ?_ hb hT hH hM).mono ?_
     . rintro _ _ ⟨rfl,rfl⟩
       exact⟨e,s,f1,Zp,ps1,as1,bd1,d1,hpe ▸ hg,J,rfl,rfl⟩
     . rintro e' a' W' ⟨e0,h0,⟨rfl,rfl⟩,h1,h2,bY,U,h4,p,h6⟩
       exact⟨h1,bY,by rw[h2];exact hT.mono U,h4,p,h6⟩
  | yield l =>
   have j:(match (j6 st ps zQq bd).get l with | some (.loop _ _ _ _ ps _ _ _)=>bif Nat.beq (len (cW first.toList [Value.func (.yield st.h.next) #[] #[]])) (len ps) then some (R.round l (cW first.toList [Value.func (.yield st.h.next) #[] #[]])) else none | _=>none)=some r:=U
   split at j
   . obtain⟨_,j⟩:=bx j
     cases j;cases h4
   . cases j
  | _=>cases U
 | _=>cases C
end Go.X
namespace Go.X
open Go
variable {P:Program} {E:Env}
theorem Ba {a b:Option Addr} (h:xz a b=true):a=b:=by
 unfold xz at h
 split at h
 . rfl
 . rw[ax,ax] at h;simp at h;rw[h.1,h.2]
 . cases h
theorem MI {a b:Option Nat} (h:Ee a b=true):a=b:=by
 unfold Ee at h
 split at h
 . rfl
 . rw[ax] at h;simp at h;rw[h]
 . cases h
theorem MJ {a b:Value} (h:U9 a b=true):a=b:=by
 unfold U9 at h
 split at h
 . simp at h;rw[h]
 . rw[Bool.and_eq_true,iF] at h;simp at h;rw[xB h.1,h.2]
 . rename_i a b
   rw[kF] at h
   have h':a.data.toList=b.data.toList:=sp h
   have:a=b:=by cases a;cases b;simp at h';rw[h']
   rw[this]
 . rw[Ba h]
 . rw[Bool.and_eq_true,Bool.and_eq_true,ax,ax] at h
   simp at h
   rw[Ba h.1.1,h.1.2,h.2]
 . rw[MI h]
 . rfl
 . rfl
 . rw[ax] at h;simp at h;rw[h]
 . rfl
 . cases h
theorem Dg (a:List Value):∀ b,ON a b=true->a=b:=by
 induction a with
 | nil=>intro b h;cases b with
  | nil=>rfl
  | cons _ _=>cases h
 | cons v a j=>intro b h;cases b with
  | nil=>cases h
  | cons u b =>
   have h':(U9 v u&&ON a b)=true:=h
   rw[Bool.and_eq_true] at h'
   rw[MJ h'.1,j b h'.2]
theorem AaS {a b:Value} (h:Adr a b=true):a=b:=by
 unfold Adr at h
 split at h
 . rename_i a b;have:=Dg _ _ h;cases a;cases b;simp at this;rw[this]
 . rename_i a b;have:=Dg _ _ h;cases a;cases b;simp at this;rw[this]
 . rw[Bool.and_eq_true,ax] at h;simp at h;rw[h.1,MJ h.2]
 . rename_i a c g b d
   rw[Bool.and_eq_true,Bool.and_eq_true,ax] at h;simp at h
   have j:=Dg _ _ h.1.2
   have h2:=Dg _ _ h.2
   cases a;cases b;cases c;cases d
   simp at j h2
   rw[h.1.1,j,h2]
 . exact MJ h
theorem Iz {al:List (Nat × Nat)} {i:Nat} {o:Oper} {t:B} {v:Value} {h:H} (e:Ae E al i o t v h=true):Av E al i o t h=some v:=by
 unfold Ae at e
 cases q:Av E al i o t h with
 | none=>rw[q] at e;cases e
 | some u=>rw[q] at e;rw[AaS e]
theorem Ra {o:Op} {h h':H} {a:Operand->Value} {v:Value} (hc:oE E o=0) (hr:Kz o E h a=some (.val v h')):h'=h:=by
 have j:∀ {x:Option Value} {v:Value} {h':H},lit x h=some (.val v h')->h'=h:=by
  intro x v h' e
  obtain⟨_,_,e⟩:=map_some e
  cases e;rfl
 cases o with
 | move x=>cases hr;rfl
 | assign x=>cases hr;rfl
 | pick x y z=>obtain⟨_,_,e⟩:=bind_some (show xw E h a x y z=_ from hr);cases e;rfl
 | build t parts =>
  obtain⟨_,_,e⟩:=bind_some (show qI E h a t parts=_ from hr)
  obtain⟨_,_,e⟩:=bind_some e
  split at e
  . obtain⟨_,_,e⟩:=bind_some e;obtain⟨_,_,e⟩:=bind_some e;cases e;rfl
  . obtain⟨_,_,e⟩:=bind_some e;obtain⟨_,_,e⟩:=bind_some e;cases e;rfl
  . cases e
 | load t x=>obtain⟨_,_,e⟩:=bind_some (show Ab E h a t x=_ from hr);exact j e
 | nilCheck x =>
  have e:eT E h a x=_:=hr
  unfold eT at e
  split at e <;> first | (cases e;rfl) | cases e
 | binOp op t x y R=>exact j (show zz E h a op t x y=_ from hr)
 | unOp op t x=>exact j (show CX E h a op x=_ from hr)
 | convert s d x =>
  have p:Afj (E.under d)=0:=hc
  obtain⟨_,_,e⟩:=bind_some (show pn E h a s d x=_ from hr)
  obtain⟨U,C,e⟩:=bind_some e
  rw[C] at p
  split at e
  . cases e;rfl
  . cases e;rfl
  . cases p
  . split at e
    . obtain⟨_,_,e⟩:=bind_some e
      split at e
      . obtain⟨_,_,e⟩:=bind_some e;obtain⟨_,_,e⟩:=bind_some e;cases e;rfl
      . cases e
    . cases e
  . exact j e
  . exact j e
  . cases e
 | makeInterface t x =>
  obtain⟨_,_,e⟩:=bind_some (show dB E h a t x=_ from hr)
  split at e
  . cases e
  . cases e;rfl
 | makeFunc fn first captured=>obtain⟨_,e⟩:=bx (show jc E h a fn first captured=_ from hr);cases e;rfl
 | slice t x lo hi mx=>exact j (show zA E h a t x lo hi mx=_ from hr)
 | fieldAddr s x f =>
  obtain⟨_,_,e⟩:=bind_some (show gP E h a s x f=_ from hr)
  split at e
  . obtain⟨_,_,e⟩:=bind_some e;obtain⟨_,_,e⟩:=bind_some e;obtain⟨_,_,e⟩:=bind_some e
    revert e
    cases Nat.beq _ 0 with
    | true=>intro e;cases e
    | false=>intro e;cases e;rfl
  . cases e
 | field t x f =>
  obtain⟨_,_,e⟩:=bind_some (show qJ E h a t x f=_ from hr)
  split at e
  . obtain⟨_,_,e⟩:=bind_some e;exact j e
  . cases e
 | indexAddr t x ix =>
  obtain⟨_,_,e⟩:=bind_some (show gQ E h a t x ix=_ from hr)
  split at e
  . obtain⟨_,_,e⟩:=bind_some e;obtain⟨_,e⟩:=bx e;cases e;rfl
  . obtain⟨_,_,e⟩:=bind_some e;obtain⟨_,e⟩:=bx e;cases e;rfl
  . cases e
 | index t x ix =>
  obtain⟨_,_,e⟩:=bind_some (show qK E h a t x ix=_ from hr)
  split at e
  . obtain⟨_,_,e⟩:=bind_some e;obtain⟨_,e⟩:=bx e;exact j e
  . obtain⟨_,_,e⟩:=bind_some e;cases e;rfl
  . cases e
 | extract t ix =>
  have e:fV E h a t ix=_:=hr
  unfold fV at e
  split at e
  . exact j e
  . cases e
 | call J =>
  have e:Ad E h a J=_:=hr
  have p:Afi J.callee=0:=hc
  unfold Ad at e
  split at e
  . rename_i b hb
    rw[hb] at p
    have I:Ads b=0:=p
    cases b <;> first | cases I | skip
    unfold bq at e
    split at e <;> first | contradiction | skip
    . obtain⟨_,_,e⟩:=bind_some e
      obtain⟨_,_,e⟩:=bind_some e
      split at e <;> first | (cases e;rfl) | cases e
  . rename_i f hb;rw[hb] at p;cases p
  . rename_i x n hb;rw[hb] at p;cases p
 | lookup t x ix ok =>
  obtain⟨_,_,e⟩:=bind_some (show Ac E h a t x ix ok=_ from hr)
  split at e
  . obtain⟨_,_,e⟩:=bind_some e
    obtain⟨_,_,e⟩:=bind_some e
    obtain⟨_,_,e⟩:=bind_some e
    split at e
    . cases e;rfl
    . obtain⟨_,_,e⟩:=bind_some e;cases e;rfl
  . cases e
 | alloc e=>cases hc
 | _=>first | (cases hc;done) | (cases hr;done)
theorem MK {ρ:bS} {t:B} {a:Act} (ops:Array Oper) (o:Oper) (h:∀ d,Yr ops.toList o.guard=some d->aK ρ (t.get d) (a.tmps.getD d undef)) {g:Bool} (p:cr ops t o=some g):Region.wanted o (yielded ops a.tmps)=g:=by
 unfold cr at p
 unfold Region.wanted
 split at p
 . cases p;rename_i e;simp[e]
 . rename_i j I e
   rw[e] at h
   simp only[e]
   unfold yielded
   rw[fD,Array.getElem?_toList] at p
   split at p
   . rename_i d hd
     have h0:=h d (by show (gN ops.toList j).bind _=_;rw[fD,Array.getElem?_toList];exact hd)
     rw[hd]
     simp only[Option.bind_some]
     rw[Array.getD_eq_getD_getElem?] at h0
     revert h0 p
     generalize t.get d=v
     intro p hv
     cases J:a.tmps[d]? with
     | none =>
      rw[J] at hv
      have C:aK ρ v Go.undef:=hv
      simp only
      cases C with
      | Aj=>cases p
      | tuple=>cases p;rfl
     | some V =>
      rw[J] at hv
      have C:aK ρ v V:=hv
      cases C <;> first | (cases p;done) | skip
      . rename_i b;cases p;cases b <;> cases I <;> rfl
      . cases p;rfl
   . rename_i hd
     cases p
     rw[hd];rfl
structure Tr where
 Bt:Nat->B
 Gt:Nat->H
 val:Nat->Value
def Tr.wanted (T:Tr) (ops:Array Oper) (k:Nat) (o:Oper) (g:Bool):Prop:=cr ops (T.Bt k) o=some g
def YM (P:Program) (E:Env) (ops:Array Oper) (al:List (Nat × Nat)) (T:Tr) (k:Nat) (o:Oper):Prop :=
 T.Bt (k+1)=nr (T.Bt k) o.dst (T.val k)/\∃ g,T.wanted ops k o g ∧
  (g=false->T.val k=undef/\T.Gt (k+1)=T.Gt k) ∧
  (g=true->oE E o.op≠2->Av E al k o (T.Bt k) (T.Gt k)=some (T.val k)/\T.Gt (k+1)=T.Gt k)
def Rb (P:Program) (E:Env) (ops:Array Oper) (ps:List Nat) (rest:List Oper) (i:Nat) (al:List (Nat × Nat)) (cB:List (Nat × H)) (bQ:List (Nat × Oper × B × Value)) (t:B) (h:H) (T:Tr):Prop :=
 T.Bt i=t/\T.Gt i=h ∧
  ∀ k o,i<=k->rest[k-i]?=some o->∃ p,ps[k]?=some p/\YM P E ops al T k o ∧
   (T.wanted ops k o true->oE E o.op≠2 ->
    (∀ x ∈ cB,bit p x.1=false->Av E al k o (T.Bt k) x.2=some (T.val k)) ∧
    (∀ j oj,i<=j->j<k->rest[j-i]?=some oj->T.wanted ops j oj true->oE E oj.op=2->bit p j=false->Av E al k o (T.Bt k) (T.Gt j)=some (T.val k))) ∧
   (T.wanted ops k o true->oE E o.op=2 ->
    (∀ x ∈ bQ,bit p x.1=false->Av E al x.1 x.2.1 x.2.2.1 (T.Gt (k+1))=some x.2.2.2) ∧
    (∀ j oj,i<=j->j<k->rest[j-i]?=some oj->T.wanted ops j oj true->oE E oj.op≠2->bit p j=false->Av E al j oj (T.Bt j) (T.Gt (k+1))=some (T.val j)))
def dg (i k:Nat) (T T':Tr):Prop:=(∀ j,i<=j->j<=k->T'.Bt j=T.Bt j/\T'.Gt j=T.Gt j)/\∀ j,i<=j->j<k->T'.val j=T.val j
def fX (P:Program) (E:Env) (ops:Array Oper) (ps:List Nat) (rest:List Oper) (i:Nat) (al:List (Nat × Nat)) (cB:List (Nat × H)) (bQ:List (Nat × Oper × B × Value)) (t:B) (h:H) (K:B->H->Prop):Prop :=
 ∃ mem:Tr->Prop,(∃ T,mem T)/\(∀ T,mem T->Rb P E ops ps rest i al cB bQ t h T/\K (T.Bt (i+rest.length)) (T.Gt (i+rest.length))) ∧
  ∀ T,mem T->∀ k o,i<=k->rest[k-i]?=some o->T.wanted ops k o true->oE E o.op=2->zJ P o (T.Bt k) (T.Gt k) fun v h'=>∃ T',mem T'/\dg i k T T'/\T'.val k=v/\T'.Gt (k+1)=h'
def Tr.FF (T:Tr) (i:Nat) (t:B) (h:H) (v:Value):Tr:=⟨fun k=>if k=i then t else T.Bt k,fun k=>if k=i then h else T.Gt k,fun k=>if k=i then v else T.val k⟩
theorem Rc {al:List (Nat × Nat)} {p i:Nat} {o:Oper} {t:B} {v:Value} (cB:List (Nat × H)) (h:Mv E al p i o t v cB=true):∀ x ∈ cB,bit p x.1=false->Av E al i o t x.2=some v:=by
 induction cB with
 | nil=>intro x hx;cases hx
 | cons y l j =>
  have h':((bit p y.1||Ae E al i o t v y.2)&&Mv E al p i o t v l)=true:=h
  rw[Bool.and_eq_true,Bool.or_eq_true] at h'
  intro x hx hb
  cases hx with
  | head=>rcases h'.1 with q | q
          . rw[hb] at q;cases q
          . exact Iz q
  | tail _ hm=>exact j h'.2 x hm hb
theorem Rd {al:List (Nat × Nat)} {p:Nat} {h:H} (bQ:List (Nat × Oper × B × Value)) (hh:Mw E al p h bQ=true):∀ x ∈ bQ,bit p x.1=false->Av E al x.1 x.2.1 x.2.2.1 h=some x.2.2.2:=by
 induction bQ with
 | nil=>intro x hx;cases hx
 | cons y l j =>
  have h':((bit p y.1||Ae E al y.1 y.2.1 y.2.2.1 y.2.2.2 h)&&Mw E al p h l)=true:=hh
  rw[Bool.and_eq_true,Bool.or_eq_true] at h'
  intro x hx hb
  cases hx with
  | head=>rcases h'.1 with q | q
          . rw[hb] at q;cases q
          . exact Iz q
  | tail _ hm=>exact j h'.2 x hm hb
theorem IA {ops:Array Oper} {ps:List Nat} {o:Oper} {rest:List Oper} {i:Nat} {al:List (Nat × Nat)} {cB J:List (Nat × H)} {bQ R:List (Nat × Oper × B × Value)} {t:B} {h:H} {v:Value} {h1:H} {g:Bool} {p:Nat} {T:Tr}
 (hT:Rb P E ops ps rest (i+1) al J R (nr t o.dst v) h1 T) (hp:ps[i]?=some p) (hg:cr ops t o=some g)
 (h0:g=false->v=undef/\h1=h) (hl:g=true->oE E o.op≠2->Av E al i o t h=some v/\h1=h)
 (hx:g=true->oE E o.op≠2->∀ x ∈ cB,bit p x.1=false->Av E al i o t x.2=some v) (hy:g=true->oE E o.op=2->∀ x ∈ bQ,bit p x.1=false->Av E al x.1 x.2.1 x.2.2.1 h1=some x.2.2.2)
 (s1:∀ x ∈ cB,x ∈ J) (s2:g=true->oE E o.op=2->(i,h) ∈ J) (s3:∀ x ∈ bQ,x ∈ R) (s4:g=true->oE E o.op≠2->(i,o,t,v) ∈ R):Rb P E ops ps (o :: rest) i al cB bQ t h (T.FF i t h v):=by
 obtain⟨hB,hG,hk⟩:=hT
 refine⟨if_pos rfl,if_pos rfl,?_⟩
 unfold Tr.FF
 . intro k ok hik hok
   by_cases I:k=i
   . subst I
     have VJ:o=ok:=sp hok
     subst VJ
     refine⟨p,hp,⟨?_,g,?_,?_,?_⟩,?_,?_⟩
     . simp only[if_true,if_neg (show k+1≠k by omega)];exact hB
     . show cr ops (if k=k then t else _) o=some g
       rw[if_pos rfl];exact hg
     . intro q;simp only[if_true,if_neg (show k+1≠k by omega)];exact⟨(h0 q).1,hG.trans (h0 q).2⟩
     . intro q c;simp only[if_true,if_neg (show k+1≠k by omega)]
       exact⟨(hl q c).1,hG.trans (hl q c).2⟩
     . intro w c
       have w':cr ops (if k=k then t else T.Bt k) o=some true:=w
       rw[if_pos rfl,hg] at w';cases w'
       simp only[if_true]
       exact⟨hx rfl c,fun j oj a1 a2=>by omega⟩
     . intro w c
       have w':cr ops (if k=k then t else T.Bt k) o=some true:=w
       rw[if_pos rfl,hg] at w';cases w'
       simp only[if_true,if_neg (show k+1≠k by omega),hG]
       exact⟨hy rfl c,fun j oj a1 a2=>by omega⟩
   . have hgt:i+1<=k:=om
     have QQ:∀ (j:Nat),i+1<=j->(o :: rest)[j-i]?=rest[j-(i+1)]?:=by
      intro j hj
      rw[show j-i=(j-(i+1))+1 by omega];rfl
     rw[QQ k hgt] at hok
     obtain⟨pk,hpk,⟨c1,gk,c2,c3,c4⟩,c5,c6⟩:=hk k ok hgt hok
     have n1:k+1≠i:=om
     refine⟨pk,hpk,⟨?_,gk,?_,?_,?_⟩,?_,?_⟩
     . simp only[if_neg I,if_neg n1];exact c1
     . show cr ops (if k=i then t else _) ok=some gk
       rw[if_neg I];exact c2
     . simp only[if_neg I,if_neg n1];exact c3
     . simp only[if_neg I,if_neg n1];exact c4
     . intro w c
       have w':cr ops (if k=i then t else T.Bt k) ok=some true:=w
       rw[if_neg I] at w'
       obtain⟨d1,d2⟩:=c5 w' c
       simp only[if_neg I]
       refine⟨fun x hx=>d1 x (s1 x hx),fun j oj a1 a2 a3 a4 a5 a6=>?_⟩
       by_cases U:j=i
       . subst U
         have VJ:o=oj:=sp a3
         subst VJ
         have C:cr ops (if j=j then t else T.Bt j) o=some true:=a4
         rw[if_pos rfl,hg] at C;cases C
         rw[if_pos rfl]
         exact d1 _ (s2 rfl a5) a6
       . have C:cr ops (if j=i then t else T.Bt j) oj=some true:=a4
         rw[if_neg U] at C ⊢
         rw[QQ j om] at a3
         exact d2 j oj om a2 a3 C a5 a6
     . intro w c
       have w':cr ops (if k=i then t else T.Bt k) ok=some true:=w
       rw[if_neg I] at w'
       obtain⟨d1,d2⟩:=c6 w' c
       simp only[if_neg n1]
       refine⟨fun x hx=>d1 x (s3 x hx),fun j oj a1 a2 a3 a4 a5 a6=>?_⟩
       by_cases U:j=i
       . subst U
         have VJ:o=oj:=sp a3
         subst VJ
         have C:cr ops (if j=j then t else T.Bt j) o=some true:=a4
         rw[if_pos rfl,hg] at C;cases C
         rw[if_pos rfl,if_pos rfl]
         exact d1 _ (s4 rfl a5) a6
       . have C:cr ops (if j=i then t else T.Bt j) oj=some true:=a4
         rw[if_neg U] at C ⊢
         rw[if_neg U]
         rw[QQ j om] at a3
         exact d2 j oj om a2 a3 C a5 a6
theorem Tr.Re {T:Tr} {ops:Array Oper} {i k:Nat} {t:B} {h:H} {v:Value} {o:Oper} {g:Bool} (hk:k≠i):(T.FF i t h v).wanted ops k o g<->T.wanted ops k o g:=by
 unfold Tr.wanted Tr.FF;simp only[if_neg hk]
theorem Vm {i k:Nat} {t:B} {h:H} {v:Value} {T T':Tr} (x:dg (i+1) k T T'):dg i k (T.FF i t h v) (T'.FF i t h v):=by
 refine⟨fun j o h2=>?_,fun j o h2=>?_⟩
 . unfold Tr.FF
   by_cases e:j=i
   . simp[e]
   . simp only[if_neg e];exact x.1 j om h2
 . unfold Tr.FF
   by_cases e:j=i
   . simp[e]
   . simp only[if_neg e];exact x.2 j om h2
theorem Fe {ops:Array Oper} {i k:Nat} {o ok:Oper} {rest:List Oper} {t:B} {h:H} {v:Value} {mem p:Tr->Prop} {T:Tr} (hm:∀ T,mem T->p (T.FF i t h v))
 (J:∀ k o,i+1<=k->rest[k-(i+1)]?=some o->T.wanted ops k o true->oE E o.op=2->zJ P o (T.Bt k) (T.Gt k) fun v h'=>∃ T',mem T'/\dg (i+1) k T T'/\T'.val k=v/\T'.Gt (k+1)=h')
 (hk:i+1<=k) (C:(o :: rest)[k-i]?=some ok) (hw:(T.FF i t h v).wanted ops k ok true) (hc:oE E ok.op=2) :
 zJ P ok ((T.FF i t h v).Bt k) ((T.FF i t h v).Gt k) fun w h'=>∃ T',p T'/\dg i k (T.FF i t h v) T'/\T'.val k=w/\T'.Gt (k+1)=h':=by
 have j:k≠i:=om
 have I:k+1≠i:=om
 rw[show k-i=(k-(i+1))+1 by omega] at C
 have R:=J k ok hk C ((Tr.Re j).1 hw) hc
 have U:(T.FF i t h v).Gt k=T.Gt k:=if_neg j
 have eB:(T.FF i t h v).Bt k=T.Bt k:=if_neg j
 rw[U,eB]
 refine R.mono ?_
 rintro w h' ⟨T',m1,m2,m3,m4⟩
 exact⟨_,hm T' m1,Vm m2,by show (if k=i then v else T'.val k)=w;rw[if_neg j];exact m3,by show (if k+1=i then h else T'.Gt (k+1))=h';rw[if_neg I];exact m4⟩
theorem Th {T:Tr} {i n:Nat} {t:B} {h:H} {v:Value}:(T.FF i t h v).Bt (i+(n+1))=T.Bt (i+1+n)/\(T.FF i t h v).Gt (i+(n+1))=T.Gt (i+1+n):=by
 have e:i+(n+1)=i+1+n:=om
 rw[e]
 exact⟨if_neg om,if_neg om⟩
theorem uG {ops:Array Oper} {ps:List Nat} {o:Oper} {rest:List Oper} {i:Nat} {al:List (Nat × Nat)} {cB:List (Nat × H)} {bQ j:List (Nat × Oper × B × Value)} {t:B} {h:H} {v:Value} {g:Bool} {p:Nat} {K:B->H->Prop}
 (hT:fX P E ops ps rest (i+1) al cB j (nr t o.dst v) h K) (hp:ps[i]?=some p) (hg:cr ops t o=some g)
 (h0:g=false->v=undef) (hc:g=true->oE E o.op≠2) (hl:g=true->oE E o.op≠2->Av E al i o t h=some v)
 (hx:g=true->oE E o.op≠2->∀ x ∈ cB,bit p x.1=false->Av E al i o t x.2=some v)
 (s3:∀ x ∈ bQ,x ∈ j) (s4:g=true->oE E o.op≠2->(i,o,t,v) ∈ j):fX P E ops ps (o :: rest) i al cB bQ t h K:=by
 obtain⟨mem,⟨T0,J⟩,h1,h2⟩:=hT
 refine⟨fun T=>∃ T',mem T'/\T=T'.FF i t h v,⟨_,T0,J,rfl⟩,?_,?_⟩
 . rintro _ ⟨T,hm,rfl⟩
   obtain⟨k1,k2⟩:=h1 T hm
   refine⟨IA k1 hp hg (fun q=>⟨h0 q,rfl⟩) (fun q c=>⟨hl q c,rfl⟩) hx (fun q c=>absurd c (hc q)) (fun x hx=>hx) (fun q c=>absurd c (hc q)) s3 s4,?_⟩
   obtain⟨e1,e2⟩:=@Th T i rest.length t h v
   rw[List.length_cons,e1,e2];exact k2
 . rintro _ ⟨T,hm,rfl⟩ k ok hik C hw I
   by_cases R:k=i
   . exfalso
     subst R
     have U:o=ok:=sp C
     subst U
     have w':cr ops (if k=k then t else T.Bt k) o=some true:=hw
     rw[if_pos rfl,hg] at w';cases w'
     exact hc rfl I
   . exact Fe (fun T' m=>⟨T',m,rfl⟩) (h2 T hm) om C hw I
theorem Ff {ops:Array Oper} {ps:List Nat} {o:Oper} {rest:List Oper} {i:Nat} {al:List (Nat × Nat)} {cB:List (Nat × H)} {bQ:List (Nat × Oper × B × Value)} {t:B} {h:H} {p:Nat} {K:B->H->Prop}
 (hp:ps[i]?=some p) (hg:cr ops t o=some true) (hc:oE E o.op=2)
 (hT:zJ P o t h fun v C=>(∀ x ∈ bQ,bit p x.1=false->Av E al x.1 x.2.1 x.2.2.1 C=some x.2.2.2)/\fX P E ops ps rest (i+1) al ((i,h) :: cB) bQ (nr t o.dst v) C K):fX P E ops ps (o :: rest) i al cB bQ t h K:=by
 refine⟨fun T=>∃ v C,∃ q:fX P E ops ps rest (i+1) al ((i,h) :: cB) bQ (nr t o.dst v) C K,(∀ x ∈ bQ,bit p x.1=false->Av E al x.1 x.2.1 x.2.2.1 C=some x.2.2.2)/\∃ T',Classical.choose q T'/\T=T'.FF i t h v,?_,?_,?_⟩
 . obtain⟨v,C,J,q⟩:=hT.1
   obtain⟨T',I⟩:=(Classical.choose_spec q).1
   exact⟨_,v,C,q,J,T',I,rfl⟩
 . rintro _ ⟨v,C,q,J,T,hm,rfl⟩
   obtain⟨k1,k2⟩:=(Classical.choose_spec q).2.1 T hm
   refine⟨IA k1 hp hg (fun q=>by cases q) (fun _ q=>absurd hc q) (fun _ q=>absurd hc q) (fun _ _=>J) (fun x hx=>.tail _ hx) (fun _ _=>.head _) (fun x hx=>hx) (fun _ q=>absurd hc q),?_⟩
   obtain⟨e1,e2⟩:=@Th T i rest.length t h v
   rw[List.length_cons,e1,e2];exact k2
 . rintro _ ⟨v,C,q,J,T,hm,rfl⟩ k ok hik R hw Zi
   by_cases hki:k=i
   . subst hki
     have VJ:o=ok:=sp R
     subst VJ
     have eG:(T.FF k t h v).Gt k=h:=if_pos rfl
     have eB:(T.FF k t h v).Bt k=t:=if_pos rfl
     rw[eG,eB]
     refine hT.mono ?_
     rintro v' U ⟨hy',q'⟩
     obtain⟨T',I⟩:=(Classical.choose_spec q').1
     refine⟨_,⟨v',U,q',hy',T',I,rfl⟩,⟨fun j e1 e2=>?_,fun j e1 e2=>by omega⟩,if_pos rfl,?_⟩
     . have:j=k:=om
       subst this
       exact⟨by rw[eB];exact if_pos rfl,by rw[eG];exact if_pos rfl⟩
     . show (if k+1=k then h else T'.Gt (k+1))=U
       rw[if_neg om]
       exact ((Classical.choose_spec q').2.1 T' I).1.2.1
   . exact Fe (fun T' m=>⟨v,C,q,J,T',m,rfl⟩) ((Classical.choose_spec q).2.2 T hm) om R hw Zi
theorem KM {ops:Array Oper} {ps:List Nat} {i:Nat} {al:List (Nat × Nat)} {cB:List (Nat × H)} {bQ:List (Nat × Oper × B × Value)} {t:B} {h:H} {K:B->H->Prop} (hk:K t h):fX P E ops ps [] i al cB bQ t h K :=
 ⟨fun T=>T=⟨fun _=>t,fun _=>h,fun _=>undef⟩,⟨_,rfl⟩,fun T e=>by subst e;exact⟨⟨rfl,rfl,fun k o _ h=>by simp at h⟩,hk⟩,fun T e k o _ h=>by simp at h⟩
theorem Pg {ops:Array Oper} {ps:List Nat} {al:List (Nat × Nat)} (hE:bj P E) (hps:vn E ops.toList=some ps):∀ (rest:List Oper) (n i:Nat) (cB:List (Nat × H)) (bQ:List (Nat × Oper × B × Value)) (st:St) (cE:ik),
 (∀ m,m<n->∀ f args h cE,run E m (.call f args h)=some cE->ai P f args h cE)->(∀ m,m<n->∀ l args h cE,run E m (.round l args h)=some cE->mM P l args h cE)->run E n (.drawn ops rest i al cB bQ st)=some cE->fX P E ops ps rest i al cB bQ st.tmps st.h fun t' h'=>cE=.a .normal ⟨t',st.xy,h'⟩:=by
 intro rest
 induction rest with
 | nil =>
  intro n i cB bQ st cE _ _ hr
  cases n with
  | zero=>cases hr
  | succ n =>
   cases hr
   exact KM rfl
 | cons o rest ih =>
  intro n i cB bQ st cE C j hr
  cases n with
  | zero=>cases hr
  | succ n =>
   have hr':((vn E ops.toList).bind fun ps=>(gN ps i).bind fun p=>(cr ops st.tmps o).bind fun g=>Bool.rec (motive:=fun _=>Option ik) ((run E n) (.drawn ops rest (Nat.add i 1) al cB bQ ⟨nr st.tmps o.dst undef,st.xy,st.h⟩))
    (S0 E (run E n) ops o rest i p al cB bQ st) g)=some cE:=hr
   rw[hps] at hr'
   obtain⟨p,hp,GB⟩:=bind_some (show (gN ps i).bind _=_ from hr')
   obtain⟨g,hg,IR⟩:=bind_some GB
   rw[fD] at hp
   have Un:∀ m,m<n->∀ f args h cE,run E m (.call f args h)=some cE->ai P f args h cE:=fun m hm=>C m om
   have I:∀ m,m<n->∀ l args h cE,run E m (.round l args h)=some cE->mM P l args h cE:=fun m hm=>j m om
   cases g with
   | false =>
    have:=ih n (i+1) cB bQ _ cE Un I IR
    exact uG this hp hg (fun _=>rfl) (fun q=>by cases q) (fun q=>by cases q) (fun q=>by cases q) (fun x hx=>hx) (fun q=>by cases q)
   | true =>
    have J:Bool.rec (motive:=fun _=>Option ik)
     ((Av E al i o st.tmps st.h).bind fun v=>Bool.rec (motive:=fun _=>Option ik) none
      ((run E n) (.drawn ops rest (Nat.add i 1) al cB ((i,o,st.tmps,v) :: bQ) ⟨nr st.tmps o.dst v,st.xy,st.h⟩)) (Mv E al p i o st.tmps v cB))
     ((Kz o.op E st.h (ev st.tmps)).bind (Yt E (run E n) ops rest i p al cB bQ o.dst st))
     (Nat.beq (oE E o.op) 2)=some cE:=IR
    rw[ax] at J
    by_cases hc:oE E o.op=2
    . simp only[hc,decide_true] at J
      obtain⟨r,hop,R⟩:=bind_some J
      have key:∀ v U,AaQ P r st.h v U->QO E (run E n) ops rest i p al cB bQ o.dst st v U=some cE->fX P E ops ps (o :: rest) i al cB bQ st.tmps st.h fun t' h'=>cE=.a .normal ⟨t',st.xy,h'⟩:=by
       intro v U hv hq
       obtain⟨hpd,hq⟩:=jI (show Bool.rec (motive:=fun _=>Option ik) none _ (Mw E al p U bQ)=some cE from hq)
       have:=ih n (i+1) ((i,st.h) :: cB) bQ ⟨nr st.tmps o.dst v,st.xy,U⟩ cE Un I hq
       exact Ff hp hg hc (.of hE hop (.of hv ⟨Rd bQ hpd,this⟩))
      cases r with
      | val v U=>exact key v U (.inl rfl) R
      | enter f args =>
       obtain⟨an,TA,hq⟩:=bind_some (show ((run E n) (.call f args st.h)).bind (Mx E (run E n) ops rest i p al cB bQ o.dst st)=some cE from R)
       cases an with
       | a e s=>cases hq
       | v v U=>exact key v U (.inr (.inl ⟨f,args,rfl,C n om _ _ _ _ TA⟩)) hq
      | round l args =>
       obtain⟨an,TA,hq⟩:=bind_some (show ((run E n) (.round l args st.h)).bind (Mx E (run E n) ops rest i p al cB bQ o.dst st)=some cE from R)
       cases an with
       | a e s=>cases hq
       | v v U=>exact key v U (.inr (.inr ⟨l,args,rfl,j n om _ _ _ _ TA⟩)) hq
    . simp only[hc,decide_false] at J
      obtain⟨v,hv,R⟩:=bind_some J
      obtain⟨hho,hq⟩:=jI R
      have:=ih n (i+1) cB ((i,o,st.tmps,v) :: bQ) ⟨nr st.tmps o.dst v,st.xy,st.h⟩ cE Un I hq
      exact uG this hp hg (fun q=>by cases q) (fun _=>hc) (fun _ _=>hv) (fun _ _=>Rc cB hho) (fun x hx=>.tail _ hx) (fun _ _=>.head _)
end Go.X
namespace Go.X
open Go
variable {P:Program} {E:Env}
structure Laid (base Ft:Nat) (i:Nat) (al:List (Nat × Nat)):Prop where
 range:∀ (j b:Nat),h_ j al=some b->base<=b/\b<Ft/\j<i
 inj:∀ (j j' b:Nat),h_ j al=some b->h_ j' al=some b->j=j'
theorem IB (j i b:Nat) (al:List (Nat × Nat)):h_ j ((i,b) :: al)=if i=j then some b else h_ j al:=by
 show Bool.rec (motive:=fun _=>Option Nat) (h_ j al) (some b) (Nat.beq i j)=_
 rw[ax]
 by_cases q:i=j <;> simp[q]
theorem Ph (l:List Oper):∀ (base i:Nat) (h:H) (al:List (Nat × Nat)) (h':H) (p:List (Nat × Nat)),fW E l i h al=some (h',p)->base<=h.next->Laid base h.next i al->(∀ c,h.next<=c->h.get c=none) ->
 h.next<=h'.next/\(∀ c,c<h.next->h'.get c=h.get c)/\(∀ c,h'.next<=c->h'.get c=none)/\Laid base h'.next (i+l.length) p:=by
 induction l with
 | nil =>
  intro base i h al h' p e hb hl hf
  cases e
  exact⟨Nat.le_refl _,fun _ _=>rfl,hf,hl⟩
 | cons o l J =>
  intro base i h al h' p e hb hl hf
  have hlen:i+(o :: l).length=(i+1)+l.length:=by simp only[List.length_cons];omega
  have C:∀ {h':H} {p},fW E l (i+1) h al=some (h',p)->h.next<=h'.next/\(∀ c,c<h.next->h'.get c=h.get c)/\(∀ c,h'.next<=c->h'.get c=none)/\Laid base h'.next (i+(o :: l).length) p:=by
   intro h' p e
   rw[hlen]
   exact J base (i+1) h al h' p e hb ⟨fun j b q=>by have:=hl.range j b q;omega,hl.inj⟩ hf
  cases R:o.op with
  | alloc t =>
   have e':((E.cz t).bind fun z=>fW E l (i+1) (newRow h t z 0) ((i,h.next) :: al))=some (h',p):=by
    have:fW E (o :: l) i h al=(match o.op with
     | .alloc e=>(E.cz e).bind fun z=>fW E l (i+1) (newRow h e z 0) ((i,h.next) :: al)
     | _=>fW E l (i+1) h al):=rfl
    rw[this,R] at e;exact e
   obtain⟨z,hz,e2⟩:=bind_some e'
   have hn:(newRow h t z 0).next=h.next+1:=rfl
   obtain⟨k1,U,k3,k4⟩:=J base (i+1) _ _ _ _ e2 (by rw[hn];omega) (by
    rw[hn]
    constructor
    . intro j b q
      rw[IB] at q
      split at q
      . cases q;omega
      . have:=hl.range j b q;omega
    . intro j j' b q I
      rw[IB] at q I
      split at q <;> split at I
      . omega
      . cases q;have:=hl.range j' _ I;omega
      . cases I;have:=hl.range j _ q;omega
      . exact hl.inj j j' b q I) (by
    intro c hc
    rw[hn] at hc
    show (h.new _).get c=none
    rw[H.eF,if_neg om]
    exact hf c om)
   rw[hn] at k1 U
   refine⟨om,fun c hc=>?_,k3,by rw[hlen];exact k4⟩
   rw[U c om]
   show (h.new _).get c=_
   rw[H.eF,if_neg om]
  | _ =>
   refine C ?_
   have:fW E (o :: l) i h al=(match o.op with
    | .alloc e=>(E.cz e).bind fun z=>fW E l (i+1) (newRow h e z 0) ((i,h.next) :: al)
    | _=>fW E l (i+1) h al):=rfl
   rw[this,R] at e;exact e
theorem ML (m i:Nat):bit m i=m.testBit i:=by
 show Nat.beq (Nat.mod (m >>> i) 2) 1=_
 rw[ax,Nat.testBit_eq_decide_div_mod_eq,Nat.shiftRight_eq_div_pow]
 rfl
theorem KN (ps:List Nat) (i:Nat):∀ (es:List Edge) (m:Nat),QM ps i es=some m->(∀ e ∈ es,Region.binds .any e=true->e.on<i)/\∀ j,bit m j=true->∃ e ∈ es,Region.binds .any e=true/\(e.on=j\/∃ q,ps[e.on]?=some q/\bit q j=true):=by
 intro es
 induction es with
 | nil =>
  intro m h;cases h
  refine⟨fun e he=>(by cases he),fun j C=>?_⟩
  rw[ML] at C;simp at C
 | cons e es ih =>
  intro m h
  have h':Bool.rec (motive:=fun _=>Option Nat) (QM ps i es) (Bool.rec (motive:=fun _=>Option Nat) none ((QM ps i es).bind fun m=>(gN ps e.on).bind fun p=>some (Nat.lor m (Nat.lor (Nat.shiftLeft 1 e.on) p))) (Nat.blt e.on i)) (Region.binds .any e)=some m:=h
  cases hb:Region.binds .any e with
  | false =>
   rw[hb] at h'
   obtain⟨R,h2⟩:=ih m h'
   refine⟨fun x hx o=>?_,fun j C=>?_⟩
   . cases hx with
     | head=>rw[hb] at o;cases o
     | tail _ hm=>exact R x hm o
   . obtain⟨x,hx,q⟩:=h2 j C
     exact⟨x,.tail _ hx,q⟩
  | true =>
   rw[hb] at h'
   obtain⟨I,h'⟩:=jI (show Bool.rec (motive:=fun _=>Option Nat) none _ (Nat.blt e.on i)=some m from h')
   rw[dx,decide_eq_true_eq] at I
   obtain⟨m0,U,h3⟩:=bind_some h'
   obtain⟨p,hp,h4⟩:=bind_some h3
   cases h4
   rw[fD] at hp
   obtain⟨R,h2⟩:=ih m0 U
   refine⟨fun x hx o=>?_,fun j C=>?_⟩
   . cases hx with
     | head=>exact I
     | tail _ hm=>exact R x hm o
   . rw[ML] at C
     have J:(m0 ||| (1 <<< e.on ||| p)).testBit j=true:=C
     rw[Nat.testBit_or,Nat.testBit_or,Bool.or_eq_true,Bool.or_eq_true] at J
     rcases J with q | q | q
     . obtain⟨x,hx,r⟩:=h2 j (by rw[ML];exact q)
       exact⟨x,.tail _ hx,r⟩
     . refine⟨e,.head _,hb,.inl ?_⟩
       rw[Nat.one_shiftLeft,Nat.testBit_two_pow] at q
       simpa using q
     . exact⟨e,.head _,hb,.inr ⟨p,hp,by rw[ML];exact q⟩⟩
theorem Vn (l:List Oper):∀ (ps C:List Nat) (i:Nat),QN l ps i=some C->ps.length=i->C.length=i+l.length/\(∀ k,k<i->C[k]?=ps[k]?) ∧
 ∀ k o,i<=k->l[k-i]?=some o->∃ p q,C[k]?=some p/\q=C.take k/\QM q k o.after.toList=some p:=by
 induction l with
 | nil=>intro ps C i h hl;cases h;exact⟨sp hl,fun _ _=>rfl,fun k o _ h=>by simp at h⟩
 | cons o l ih =>
  intro ps C i h hl
  obtain⟨m,hm,h2⟩:=bind_some (show (QM ps i o.after.toList).bind (fun m=>QN l (cW ps [m]) (i+1))=some C from h)
  rw[dF] at h2
  obtain⟨k1,J,k3⟩:=ih (ps++[m]) C (i+1) h2 (by simp[hl])
  refine⟨by rw[k1];simp only[List.length_cons];omega,fun k hk=>?_,fun k ok hik I=>?_⟩
  . rw[J k om,List.getElem?_append_left om]
  . by_cases R:k=i
    . subst R
      have U:o=ok:=sp I
      subst U
      have ht:C.take k=ps:=by
       apply List.ext_getElem?
       intro j
       rw[List.getElem?_take]
       by_cases q:j<k
       . rw[if_pos q,J j om,List.getElem?_append_left om]
       . rw[if_neg q,List.getElem?_eq_none om]
      refine⟨m,_,?_,rfl,by rw[ht];exact hm⟩
      rw[J k om,List.getElem?_append_right om]
      simp[hl]
    . refine k3 k ok om ?_
      rw[show k-i=(k-(i+1))+1 by omega] at I
      exact I
theorem Ti {t:Option Nat} {l:List Nat}:inO t l=true<->∃ d,t=some d/\d ∈ l:=by
 cases t with
 | none=>exact⟨fun h=>(by cases h),fun ⟨d,h,_⟩=>(by cases h)⟩
 | some d=>exact⟨fun h=>⟨d,rfl,Ef d l h⟩,fun ⟨j,h,hm⟩=>(by cases h;exact My d l hm)⟩
def AbI (E:Env) (ops:List Oper) (o q:Oper):Prop:=(∃ d,q.dst=some d/\d ∈ iA ops o)\/(∃ d,o.dst=some d/\d ∈ iA ops q)\/(oE E q.op=2/\oE E o.op=2)
theorem Vo (ops:List Oper) (p:Nat) (o:Oper) (l:List Oper):∀ i,BI E ops p o l i=true->∀ k q,l[k]?=some q->AbI E ops o q->bit p (i+k)=true:=by
 induction l with
 | nil=>intro i _ k q h;simp at h
 | cons x l I =>
  intro i h k q C hc
  have h':Bool.rec (motive:=fun _=>Bool) (Bool.rec (motive:=fun _=>Bool) (BI E ops p o l (i+1)) false (inO x.dst (iA ops o)||inO o.dst (iA ops x)||(Nat.beq (oE E x.op) 2&&Nat.beq (oE E o.op) 2)))
   (BI E ops p o l (i+1)) (bit p i)=true:=h
  have j:BI E ops p o l (i+1)=true:=by
   cases hb:bit p i with
   | true=>rw[hb] at h';exact h'
   | false =>
    rw[hb] at h'
    cases hx:(inO x.dst (iA ops o)||inO o.dst (iA ops x)||(Nat.beq (oE E x.op) 2&&Nat.beq (oE E o.op) 2)) with
    | true=>rw[hx] at h';cases h'
    | false=>rw[hx] at h';exact h'
  cases k with
  | zero =>
   simp at C;subst C
   cases hb:bit p i with
   | true=>rfl
   | false =>
    rw[hb] at h'
    exfalso
    have hx:(inO x.dst (iA ops o)||inO o.dst (iA ops x)||(Nat.beq (oE E x.op) 2&&Nat.beq (oE E o.op) 2))=true:=by
     rw[Bool.or_eq_true,Bool.or_eq_true,Bool.and_eq_true,ax,ax,decide_eq_true_eq,decide_eq_true_eq,Ti,Ti]
     rcases hc with q | q | q
     . exact .inl (.inl q)
     . exact .inl (.inr q)
     . exact .inr q
    rw[hx] at h';cases h'
  | succ k =>
   have:=I (i+1) j k q (sp C) hc
   rw[show i+(k+1)=i+1+k by omega];exact this
theorem Rg (ops:List Oper) (l:List Oper):∀ (ahead:List Oper) (ps:List Nat),Mu E ops l ahead ps=true->∀ k o p,l[k]?=some o->ps[k]?=some p->BI E ops p o (ahead++l.take k) 0=true:=by
 induction l with
 | nil=>intro a ps _ k o p h;simp at h
 | cons x l I =>
  intro ahead ps h k o p j C
  cases ps with
  | nil=>cases h
  | cons J ps =>
   have h':(BI E ops J x ahead 0&&Mu E ops l (cW ahead [x]) ps)=true:=h
   rw[Bool.and_eq_true,dF] at h'
   cases k with
   | zero=>simp at j C;subst j C;simpa using h'.1
   | succ k =>
    have:=I _ _ h'.2 k o p (sp j) (sp C)
    simpa using this
structure KO (E:Env) (ops:Array Oper) (ps:List Nat):Prop where
 AfC:∀ (i:Nat) (o:Oper),ops[i]?=some o->∀ e ∈ o.after.toList,Region.binds .any e=true->e.on<i
 bits:∀ (i:Nat) (o:Oper) (p:Nat),ops[i]?=some o->ps[i]?=some p->∀ j,bit p j=true->∃ e ∈ o.after.toList,Region.binds .any e=true/\(e.on=j\/∃ q,ps[e.on]?=some q/\bit q j=true)
 IC:∀ (i j:Nat) (o q:Oper) (p:Nat),ops[i]?=some o->ops[j]?=some q->j<i->ps[i]?=some p->AbI E ops.toList o q->bit p j=true
theorem Vp {ops:Array Oper} {ps:List Nat} (h:vn E ops.toList=some ps):KO E ops ps/\∀ (i:Nat) (o:Oper),ops[i]?=some o->∃ p,ps[i]?=some p:=by
 obtain⟨ps',h1,h2⟩:=bind_some h
 obtain⟨h3,h4⟩:=jI h2
 cases h4
 obtain⟨k1,k2,k3⟩:=Vn ops.toList [] ps 0 h1 rfl
 have key:∀ (i:Nat) (o:Oper),ops[i]?=some o->∃ p,ps[i]?=some p/\QM (ps.take i) i o.after.toList=some p:=by
  intro i o C
  obtain⟨p,q,I,R,a3⟩:=k3 i o (Nat.zero_le _) (by rw[Nat.sub_zero,Array.getElem?_toList];exact C)
  subst R
  exact⟨p,I,a3⟩
 refine⟨⟨?_,?_,?_⟩,fun i o C=>?_⟩
 . intro i o C e he hb
   obtain⟨p,I,R⟩:=key i o C
   exact (KN _ _ _ _ R).1 e he hb
 . intro i o p C U j hj
   obtain⟨p',I,R⟩:=key i o C
   rw[U] at I;cases I
   obtain⟨e,he,hb,q⟩:=(KN _ _ _ _ R).2 j hj
   refine⟨e,he,hb,?_⟩
   rcases q with q | ⟨q,J,hbq⟩
   . exact .inl q
   . rw[List.getElem?_take] at J
     split at J
     . exact .inr ⟨q,J,hbq⟩
     . cases J
 . intro i j o q p C J hji U hc
   have:=Rg ops.toList ops.toList [] ps h3 i o p (by rw[Array.getElem?_toList];exact C) U
   rw[List.nil_append] at this
   have:=Vo ops.toList p o _ 0 this j q (by rw[List.getElem?_take,if_pos hji,Array.getElem?_toList];exact J) hc
   rw[Nat.zero_add] at this;exact this
 . obtain⟨p,I,_⟩:=key i o C
   exact⟨p,I⟩
end Go.X
