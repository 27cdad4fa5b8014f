/- PrintAgain: of any text that is read as a formula, the text that is told of it is read as the same formula and told as it was. No conditions of its own. -/
import Derived.Laws.MakeOwn
import Derived.Great.BuildSlice
import Derived.Laws.BytesString
import Derived.Laws.Strings2
import Derived.Laws.NewFold
import Derived.Laws.Slices
import Derived.Laws.Append
import Derived.Laws.AppendOwn
import Derived.Test.YtikojelnedfmpaaGreatDoorA
set_option linter.unusedSimpArgs false
set_option linter.unusedVariables false
namespace Go.X
open Go
variable {P:Program} {E:Env}
def mc (P:Program) (ρ:bS) (h:H) (W:World) (v:Value) (h':H) (s:Sem Next):Prop :=
 ∃ bY W' V j,s.run P W=.ok j W'/\(j=.value V\/(j=.skip/\V=Go.undef))/\aK bY v V/\aX bY h' W'/\Ext ρ h W bY h' W'
theorem mc.pure {ρ:bS} {h:H} {W:World} {v V:Value} {s:Sem Next} (j:aX ρ h W) (hs:s.run P W=.ok (.value V) W) (hv:aK ρ v V):mc P ρ h W v h s :=
 ⟨ρ,W,V,.value V,hs,.inl rfl,hv,j,Ext.refl _ _ _⟩
theorem rT {ρ:bS} {h:H} {W W':World} (I:aX ρ h W) {c:List Value} {C:Array Value} {e:TypeId} {osz:Nat} (hle:c.length<=C.size) (hc:∀ (i:Nat) (v:Value),c[i]?=some v->∃ V,C[i]?=some V/\aK ρ v V)
 {F:Nat × Nat} (R:(∀ j,j<C.size+(if osz=0 then 1 else 0)->¬ (F.1<=j/\j<F.2))/\(osz=0->F.2=0))
 (J:W'.heap=W.heap.push (.cells C e F)) (U:W'.os=W.os) (h2:W'.tape=W.tape) (h3:W'.output=W.output) :
 aX (ρ.add h.next ⟨W.heap.size,0,c.length,osz,C.size⟩) (newRow h e c osz) W'/\Ext ρ h W (ρ.add h.next ⟨W.heap.size,0,c.length,osz,C.size⟩) (newRow h e c osz) W':=by
 have p:ρ h.next=none:=by
  cases e:ρ h.next with
  | none=>rfl
  | some q=>have:=(I.we _ _ e).1;omega
 have ho:CZ (ρ.add h.next ⟨W.heap.size,0,c.length,osz,C.size⟩) ⟨W.heap.size,0,c.length,osz,C.size⟩ W' (.row ⟨c,e,osz,0,false⟩):=by
  refine⟨C,F,?_,rfl,rfl,⟨rfl,fun _=>rfl⟩,sp hle,?_,?_⟩
  . rw[J];simp
  . intro i v hv
    obtain⟨V,hV,hr⟩:=hc i v hv
    exact⟨V,sp hV,hr.mono (ρ.xC _ _ p)⟩
  . exact⟨fun _ j _ hj=>R.1 j hj,fun _ q=>by rw[R.2 q];exact Nat.zero_le _⟩
 exact⟨I.new _ _ _ J rfl ho,Ext.new I _ _ _ J rfl U h2 h3⟩
theorem zD {ρ:bS} {c:List Value} {C:Array Value} (h:bc ρ c C.toList):c.length<=C.size/\∀ (i:Nat) (v:Value),c[i]?=some v->∃ V,C[i]?=some V/\aK ρ v V:=by
 refine⟨by have:=h.length;simpa using Nat.le_of_eq this,fun i v e=>?_⟩
 obtain⟨V,j,hv⟩:=h.get i v e
 exact⟨V,by rw[<-Array.getElem?_toList];exact j,hv⟩
theorem xE (W:World) (e:TypeId) (C:Array Value):(Go.newRow e C).run P W=.ok ⟨W.heap.size,0,none⟩ { W with heap:=W.heap.push (.cells C e (0,0)) }:=by
 simp[Go.newRow,newObj,Sem.run]
theorem noF {osz:Nat} (n:Nat):(∀ j,j<n->¬ (((0,0):Nat × Nat).1<=j/\j<((0,0):Nat × Nat).2))/\(osz=0->((0,0):Nat × Nat).2=0):=by
 exact⟨fun j _ q=>Nat.not_lt_zero _ q.2,fun _=>rfl⟩
theorem Ic (ρ:bS) (h:H) (r:RI) (hb:r.base=0):aK (ρ.add h.next r) (li h) (.pointer (some ⟨r.dH,0,none⟩)):=by
 have:=aK.ptr (ρ:=ρ.add h.next r) h.next 0 r (bS.add_same _ _ _)
 rw[hb] at this
 exact this
variable {ρ:bS} {h:H} {W:World} {a c:Operand->Value} {o:Oper}
theorem A8 (p:aX ρ h W) (x:Operand) (j:o.op=.move x\/o.op=.assign x) (hx:aK ρ (a x) (c x)):mc P ρ h W (a x) h (execOp c o):=by
 refine .pure p ?_ hx
 rcases j with j | j <;> simp only[execOp,j] <;> rfl
theorem JD (p:aX ρ h W) (x y z:Operand) (C:o.op=.pick x y z) (hx:aK ρ (a x) (c x)) (I:aK ρ (a y) (c y)) (hz:aK ρ (a z) (c z)) {v:Value} {h':H} (hr:xw E h a x y z=some (.val v h')):mc P ρ h W v h' (execOp c o):=by
 obtain⟨t,j,hv⟩:=bind_some hr
 have hb:a x=.bool t:=by
  revert j;cases a x <;> intro j <;> first | (cases j;rfl) | cases j
 rw[hb] at hx
 cases hv
 have hc:c x=.bool t:=by
  revert hx;generalize c x=q;intro hx;cases hx;rfl
 cases t with
 | true=>exact .pure p (by simp[execOp,C,hc,asBool,Sem.run_pure]) I
 | false=>exact .pure p (by simp[execOp,C,hc,asBool,Sem.run_pure]) hz
theorem Ie (p:bj P E) (C:aX ρ h W) (e:TypeId) (I:o.op=.alloc e) {v:Value} {h':H} (hr:CW E h a e=some (.val v h')):mc P ρ h W v h' (execOp c o):=by
 obtain⟨z,hz,hv⟩:=bind_some hr
 cases hv
 obtain⟨Z,J,_,j⟩:=p.cz hz W
 obtain⟨R,h2⟩:=zD (j ρ)
 obtain⟨U,k2⟩:=rT (e:=e) (osz:=0) C R h2 (noF _) (W':={ W with heap:=W.heap.push (.cells Z.cells e (0,0)) }) rfl rfl rfl rfl
 refine⟨_,_,.pointer (some ⟨W.heap.size,0,none⟩),.value _,?_,.inl rfl,Ic _ _ _ rfl,U,k2⟩
 simp only[execOp,I,Instr.alloc,newVar,Sem.run_bind,J,Result.andThen_ok,xE,Sem.run_pure]
theorem MD (j:aX ρ h W) (e:TypeId) (x:Operand) (p:o.op=.box e x) (hx:aK ρ (a x) (c x)) {v:Value} {h':H} (hr:Mq E h a e x=some (.val v h')):mc P ρ h W v h' (execOp c o):=by
 obtain⟨cs,hc,hv⟩:=bind_some hr
 cases hv
 obtain⟨C,h2⟩:=zD (m_ hc hx)
 obtain⟨I,J⟩:=rT (e:=e) (osz:=0) j C h2 (noF _) (W':={ W with heap:=W.heap.push (.cells (c x).cells e (0,0)) }) rfl rfl rfl rfl
 refine⟨_,_,.pointer (some ⟨W.heap.size,0,none⟩),.value _,?_,.inl rfl,Ic _ _ _ rfl,I,J⟩
 simp only[execOp,p,Instr.box,newVar,Sem.run_bind,Result.andThen_ok,xE,Sem.run_pure]
theorem JE (C:bj P E) (p:aX ρ h W) (t:TypeId) (x:Operand) (I:o.op=.load t x) (hx:aK ρ (a x) (c x)) {v:Value} {h':H} (hr:Ab E h a t x=some (.val v h')):mc P ρ h W v h' (execOp c o):=by
 obtain⟨A,J,hl⟩:=bind_some hr
 obtain⟨u,hu,hv⟩:=map_some hl
 cases hv
 obtain⟨b,of,he,rfl⟩:=uE J
 rw[he] at hx
 revert hx;generalize hc:c x=q;intro hx
 cases hx with
 | ptr _ _ r hr =>
  obtain⟨V,R,j⟩:=A7 C p hr hu
  refine .pure p ?_ j
  simp only[execOp,I,Instr.loadAt,Instr.sureAddr,hc,Sem.run_bind,Sem.run_pure,Result.andThen_ok,R]
theorem aX.store {ρ:bS} {h h':H} {W:World} (hH:aX ρ h W) {b of:Nat} {r:RI} {vs VS:List Value} (hr:ρ b=some r) (hs:storeCells h ⟨b,of,none⟩ vs=some h') (hv:bc ρ vs VS) :
 ∃ W',(Go.storeCells ⟨r.dH,r.base+of,none⟩ VS).run P W=.ok () W'/\aX ρ h' W'/\Ext ρ h W ρ h' W':=by
 obtain⟨x,hx,hs⟩:=bind_some hs
 have I:=H.pS hx
 have p:(x.ro||!(Nat.ble x.ib of)||!(Nat.ble (of+len vs) (len x.cs))||!(da vs))=false:=by
  cases e:(x.ro||!(Nat.ble x.ib of)||!(Nat.ble (of+len vs) (len x.cs))||!(da vs)) with
  | false=>rfl
  | true =>
   have J:(bif (x.ro||!(Nat.ble x.ib of)||!(Nat.ble (of+len vs) (len x.cs))||!(da vs)) then none else some (h.put b (.row { x with cs:=ep x.cs of vs })))=some h':=hs
   rw[e] at J;cases J
 have J:(bif (x.ro||!(Nat.ble x.ib of)||!(Nat.ble (of+len vs) (len x.cs))||!(da vs)) then none else some (h.put b (.row { x with cs:=ep x.cs of vs })))=some h':=hs
 rw[p] at J
 cases J
 clear hs
 rw[br,br,aP,aP] at p
 simp only[Bool.or_eq_false_iff,Bool.not_eq_false',decide_eq_true_eq] at p
 obtain⟨⟨⟨U,h1⟩,h2⟩,h3⟩:=p
 . skip
   have AdA:=H7 vs h3
   have AdB:=hH.obj b _ r I hr
   obtain⟨C,F,k1,k2,k3,k4,k5,k6,k7⟩:=AdB
   have AhI:=hv.length
   have AdC:∀ V ∈ VS,bX V=true:=by
    intro V hV
    obtain⟨i,hi⟩:=List.getElem?_of_mem hV
    have oz:i<vs.length:=by
     rcases Nat.lt_or_ge i VS.length with q | q
     . omega
     . rw[List.getElem?_eq_none q] at hi;cases hi
    obtain⟨V',e',R⟩:=hv.get i _ (List.getElem?_eq_getElem oz)
    rw[hi] at e';cases e'
    exact R.bX (AdA _ (List.getElem_mem oz))
   obtain⟨W',C',QP,⟨s1,s2,s3,s4,s5,s6,s7⟩,tH,QQ⟩:=zC (P:=P) r.dH x.elem F (r.base+of) VS 0 W C k1 om (fun j q1 q2=>k7.1 U j om om) AdC
   refine⟨W',QP,?_,?_⟩
   . refine hH.put b _ _ r I (by show x.ro=false;exact U) (by show x.ro=false;exact U) hr s3 s4 ?_
     refine⟨C',F,s2,by rw[tH];exact k2,?_,k4,k5,?_,?_⟩
     . rw[k3];exact (x9 _ _ _ h2).symm
     . intro i v e
       have e':(x.cs.take of++vs++x.cs.drop (of+vs.length))[i]?=some v:=by
        rw[<-m6 x.cs of vs h2];exact e
       rw[QQ]
       by_cases q:of<=i/\i<of+vs.length
       . rw[if_pos om]
         have:vs[i-of]?=some v:=by
          rw[List.append_assoc,List.getElem?_append_right (by rw[List.length_take];omega),List.length_take,Nat.min_eq_left om,List.getElem?_append_left om] at e'
          exact e'
         obtain⟨V,hV,R⟩:=hv.get _ _ this
         exact⟨V,by rw[show r.base+i-(r.base+of+0)=i-of from by omega];exact hV,R⟩
       . rw[if_neg om]
         have:x.cs[i]?=some v:=by
          by_cases q1:i<of
          . rw[List.append_assoc,List.getElem?_append_left (by rw[List.length_take];omega),List.getElem?_take,if_pos q1] at e'
            exact e'
          . rw[List.getElem?_append_right (by rw[List.length_append,List.length_take];omega),List.length_append,List.length_take,Nat.min_eq_left om,List.getElem?_drop] at e'
            rw[<-e'];congr 1;omega
         exact k6 i v this
     . exact k7
   . exact Ext.put b _ _ r I (by show x.ro=false;exact U) hr s3 s4 s5 s6 s7
theorem Ig (C:bj P E) (I:aX ρ h W) {t:TypeId} {b of:Nat} {r:RI} {v V:Value} {h':H} (hr:ρ b=some r) (hs:storeVar E h t ⟨b,of,none⟩ v=some h') (hv:aK ρ v V) :
 ∃ W',(Go.storeVar t ⟨r.dH,r.base+of,none⟩ V).run P W=.ok () W'/\aX ρ h' W'/\Ext ρ h W ρ h' W':=by
 obtain⟨n,hn,hs⟩:=bind_some hs
 obtain⟨cs,hc,hs⟩:=bind_some hs
 rw[br,ax] at hs
 by_cases hl:cs.length=n
 . simp only[hl,decide_true,cond_true] at hs
   have j:=m_ hc hv
   obtain⟨W',J,h2,R⟩:=I.store (P:=P) hr hs j
   refine⟨W',?_,h2,R⟩
   have p:V.cells.size=n:=by have:=j.length;rw[hl,Array.length_toList] at this;exact this.symm
   simp only[Go.storeVar,Sem.run_bind,C.size hn,Result.andThen_ok,p,ne_eq,not_true,if_false]
   exact J
 . simp[hl] at hs
theorem Ih (j:bj P E) (p:aX ρ h W) (t:TypeId) (x y:Operand) (C:o.op=.store t x y) (hx:aK ρ (a x) (c x)) (I:aK ρ (a y) (c y)) {v:Value} {h':H} (hr:zw E h a t x y=some (.val v h')):mc P ρ h W v h' (execOp c o):=by
 obtain⟨A,J,hl⟩:=bind_some hr
 obtain⟨u,hu,hv⟩:=map_some hl
 cases hv
 obtain⟨b,of,he,rfl⟩:=uE J
 rw[he] at hx
 revert hx;generalize hc:c x=q;intro hx
 cases hx with
 | ptr _ _ r hr =>
  obtain⟨W',R,h2,U⟩:=Ig j p hr hu I
  refine⟨ρ,W',Go.undef,.skip,?_,.inr ⟨rfl,rfl⟩,aK.undef _,h2,U⟩
  simp only[execOp,C,Instr.storeAt,Instr.sureAddr,hc,Sem.run_bind,Sem.run_pure,Result.andThen_ok,R]
theorem C4 (I:aX ρ h W) (x:Operand) (J:o.op=.nilCheck x) (hx:aK ρ (a x) (c x)) {v:Value} {h':H} (hr:eT E h a x=some (.val v h')):mc P ρ h W v h' (execOp c o):=by
 unfold eT at hr
 revert hx hr
 generalize a x=p
 generalize hc:c x=q
 intro hx hr
 split at hr
 . cases hr;cases hx with | ptr b R r e=>exact .pure I (by simp only[execOp,J,hc];rfl) (.ptr b R r e)
 . cases hr;cases hx with | iface _ _ _ e=>exact .pure I (by simp only[execOp,J,hc];rfl) (.iface _ _ _ e)
 . cases hr
   cases hx with
   | func f F a A c C hf ha j =>
    cases hf
    exact .pure I (by simp only[execOp,J,hc];rfl) (.func _ _ _ _ _ _ (.func _) ha j)
 . cases hr
   cases hx with
   | func f F a A c C hf ha j =>
    cases hf with
    | yield l r e=>exact .pure I (by simp only[execOp,J,hc];rfl) (.func _ _ _ _ _ _ (.yield _ r e) ha j)
 . cases hr
end Go.X
namespace Go.X
open Go
variable {P:Program} {E:Env}
theorem aK.ee {ρ:bS} {k:IntKind} {n:Int} {V:Value} (h:aK ρ (.int k n) V):V=.int k n:=by cases h;rfl
theorem aK.C5 {ρ:bS} {s:ByteArray} {V:Value} (h:aK ρ (.string s) V):V=.string s:=by cases h;rfl
theorem Af {v:Value} {p:IntKind × Int} (h:OZ v=some p):v=.int p.1 p.2:=by
 unfold OZ at h;split at h
 . cases h;rfl
 . cases h
theorem KD {v:Value} {p:ByteArray} (h:U0 v=some p):v=.string p:=by
 unfold U0 at h;split at h
 . cases h;rfl
 . cases h
theorem BL (ρ:bS) {op:BinOp} {k k':IntKind} {a b:Int} {v:Value} (h:HY op k a k' b=some v):aK ρ v v:=by
 cases op
 case shl=>change AaB k a b=some v at h;unfold AaB at h;split at h <;> first | (cases h;exact .int _ _) | cases h
 case shr=>change AaC k a b=some v at h;unfold AaC at h;split at h <;> first | (cases h;exact .int _ _) | cases h
 all_goals
  obtain⟨hk,hv⟩:=c8 h
  first
   | (cases hv;first | exact .int _ _ | exact .bool _)
   | (cases e:cx b 0 with
    | true=>rw[e] at hv;cases hv
    | false=>rw[e] at hv;cases hv;exact .int _ _)
theorem Va (ρ:bS) {op:BinOp} {a b:ByteArray} {v:Value} (h:OY op a b=some v):aK ρ v v:=by
 unfold OY at h
 cases op <;> simp only at h <;> first | (cases h;done) | (cases h;exact .bool _) | skip
 cases e:Nat.ble (len a.data.toList+len b.data.toList) 9223372036854775807 with
 | true=>rw[e] at h;cases h;exact .string _
 | false=>rw[e] at h;cases h
theorem pU (op:BinOp) (t:TypeId) (x y:Operand) (A B:Value) (W:World) (p:A≠.nilIface\/B≠.nilIface) (h2:(∀ c,A≠.agg c)\/(∀ c,B≠.agg c)\/P.eqGuardType P.depth t=false):(eqGuard op t x y A B).run P W=.ok () W:=by
 have key:∀ op,op=.eql\/op=.neq->(eqGuard op t x y A B).run P W=.ok () W:=by
  intro op j
  have hm:(!(op matches .eql | .neq))=false:=by rcases j with rfl | rfl <;> rfl
  unfold eqGuard
  rcases j with rfl | rfl <;>
  . simp only[Bool.not_true,Bool.false_eq_true,if_false]
    split
    . rcases p with h | h <;> exact absurd rfl h
    . rcases h2 with h | h | h
      . exact absurd rfl (h _)
      . exact absurd rfl (h _)
      . simp[run_program,h]
    . simp[Sem.run_pure]
 cases op
 case eql=>exact key _ (.inl rfl)
 case neq=>exact key _ (.inr rfl)
 all_goals simp[eqGuard,Sem.run_pure]
theorem binOp_eql (t:TypeId) (X Y:Value) (hx:∀ k n,X≠.int k n) (hs:∀ s,X≠.string s) (hf:∀ k n,X≠.float k n) (hc:∀ k n m,X≠.complex k n m) (p:∀ k n,Y≠.int k n) (j:∀ s,Y≠.string s) (b:Bool) (W:World) (h:(Op.equalIn 10000 t X Y).run P W=.ok b W) :
 (Go.binOp .eql t X Y).run P W=.ok (.bool b) W:=by
 have e:Go.binOp .eql t X Y=(do pure (.bool (<-Op.equal t X Y))):=by
  cases X <;> first | exact absurd rfl (hx _ _) | exact absurd rfl (hs _) | exact absurd rfl (hf _ _) | exact absurd rfl (hc _ _ _) | (cases Y <;> first | rfl | exact absurd rfl (p _ _) | exact absurd rfl (j _))
 rw[e]
 simp only[Op.equal,Op.maxDepth,Sem.run_bind,h,Result.andThen_ok,Sem.run_pure]
theorem binOp_neq (t:TypeId) (X Y:Value) (hx:∀ k n,X≠.int k n) (hs:∀ s,X≠.string s) (hf:∀ k n,X≠.float k n) (hc:∀ k n m,X≠.complex k n m) (p:∀ k n,Y≠.int k n) (j:∀ s,Y≠.string s) (b:Bool) (W:World) (h:(Op.equalIn 10000 t X Y).run P W=.ok b W) :
 (Go.binOp .neq t X Y).run P W=.ok (.bool (!b)) W:=by
 have e:Go.binOp .neq t X Y=(do pure (.bool (!(<-Op.equal t X Y)))):=by
  cases X <;> first | exact absurd rfl (hx _ _) | exact absurd rfl (hs _) | exact absurd rfl (hf _ _) | exact absurd rfl (hc _ _ _) | (cases Y <;> first | rfl | exact absurd rfl (p _ _) | exact absurd rfl (j _))
 rw[e]
 simp only[Op.equal,Op.maxDepth,Sem.run_bind,h,Result.andThen_ok,Sem.run_pure]
theorem KE (I:bj P E) {ρ:bS} {t:TypeId} {x y X Y:Value} {b:Bool} (h:Ze E 100 t x y=some b) (hx:aK ρ x X) (j:aK ρ y Y) (p:OZ x=none) (C:U0 x=none) :
 (∀ k n,X≠.int k n)/\(∀ s,X≠.string s)/\(∀ k n,X≠.float k n)/\(∀ k n m,X≠.complex k n m)/\(∀ k n,Y≠.int k n)/\(∀ s,Y≠.string s)/\(X≠.nilIface\/Y≠.nilIface)/\((∀ c,X≠.agg c)\/(∀ c,Y≠.agg c)\/P.eqGuardType P.depth t=false):=by
 obtain⟨u,hu,hs⟩:=bind_some h
 unfold QJ at hs
 split at hs
 case h_2=>cases p
 case h_3=>cases C
 case h_6 =>
  cases hx <;> cases j <;> (refine⟨?_,?_,?_,?_,?_,?_,?_,.inl ?_⟩ <;> simp)
 case h_7 =>
  rename_i fields xs J
  cases hm:A0 t E.eqs with
  | false=>rw[hm] at hs;cases hs
  | true =>
   obtain⟨R,h2,U⟩:=I.eqs t (Ef _ _ hm)
   cases hx;cases j
   refine⟨?_,?_,?_,?_,?_,?_,?_,.inr (.inr h2)⟩ <;> simp
 all_goals first
  | (cases hs;done)
  | (cases hx <;> cases j <;> (refine⟨?_,?_,?_,?_,?_,?_,?_,.inl ?_⟩ <;> simp))
variable {ρ:bS} {h:H} {W:World} {a c:Operand->Value} {o:Oper}
theorem Ii (I:bj P E) (hH:aX ρ h W) (op:BinOp) (t yt:TypeId) (x y:Operand) (ho:o.op=.binOp op t x y yt) (hx:aK ρ (a x) (c x)) (j:aK ρ (a y) (c y)) {v:Value} {h':H} (hr:zz E h a op t x y=some (.val v h')):mc P ρ h W v h' (execOp c o):=by
 obtain⟨u,hu,hv⟩:=map_some hr
 cases hv
 have main:∃ V,aK ρ v V/\(eqGuard op t x y (c x) (c y)).run P W=.ok () W/\(Go.binOp op t (c x) (c y)).run P W=.ok V W:=by
  unfold binOp at hu
  cases e:OZ (a x) with
  | some p =>
   rw[e] at hu
   obtain⟨q,J,hb⟩:=bind_some hu
   rw[Af e] at hx
   rw[Af J] at j
   rw[hx.ee,j.ee]
   exact⟨v,BL ρ hb,pU _ _ _ _ _ _ _ (.inl sm) (.inl sm),xD hb W⟩
  | none =>
   rw[e] at hu
   change QK E op t (a x) (a y)=some v at hu
   unfold QK at hu
   cases C:U0 (a x) with
   | some p =>
    rw[C] at hu
    obtain⟨q,J,hb⟩:=bind_some hu
    rw[KD C] at hx
    rw[KD J] at j
    rw[hx.C5,j.C5]
    exact⟨v,Va ρ hb,pU _ _ _ _ _ _ _ (.inl sm) (.inl sm),O4 hb W⟩
   | none =>
    rw[C] at hu
    change Afd E t (a x) (a y) op=some v at hu
    cases op <;> first | cases hu | skip
    . obtain⟨b,hb,hv⟩:=bind_some hu
      cases hv
      obtain⟨R,U,q3,q4,q5,q6,q7,q8⟩:=KE I hb hx j e C
      exact⟨_,.bool b,pU _ _ _ _ _ _ _ q7 q8,binOp_eql t _ _ R U q3 q4 q5 q6 b W (Eg I 100 t _ _ _ _ b hb hx j 9900 W)⟩
    . obtain⟨b,hb,hv⟩:=bind_some hu
      cases hv
      obtain⟨R,U,q3,q4,q5,q6,q7,q8⟩:=KE I hb hx j e C
      exact⟨_,.bool (!b),pU _ _ _ _ _ _ _ q7 q8,binOp_neq t _ _ R U q3 q4 q5 q6 b W (Eg I 100 t _ _ _ _ b hb hx j 9900 W)⟩
 obtain⟨V,h1,h2,h3⟩:=main
 exact .pure hH (by simp only[execOp,ho,Sem.run_bind,h2,h3,Result.andThen_ok,Sem.run_pure]) h1
theorem JF (C:aX ρ h W) (op:UnOp) (t:TypeId) (x:Operand) (I:o.op=.unOp op t x) (hx:aK ρ (a x) (c x)) {v:Value} {h':H} (hr:CX E h a op x=some (.val v h')):mc P ρ h W v h' (execOp c o):=by
 obtain⟨u,hu,hv⟩:=map_some hr
 cases hv
 have main:∃ V,aK ρ v V/\(Op.unary op (c x)).run P W=.ok V W:=by
  cases op with
  | neg =>
   obtain⟨p,j,hb⟩:=bind_some hu
   rw[Af j] at hx
   rw[hx.ee]
   refine⟨v,BL ρ hb,?_⟩
   have:=xD (P:=P) (t:=t) hb W
   simpa [Go.binOp,Op.unary] using this
  | xor =>
   obtain⟨p,j,hb⟩:=bind_some hu
   rw[Af j] at hx
   rw[hx.ee]
   refine⟨v,BL ρ hb,?_⟩
   have:=xD (P:=P) (t:=t) hb W
   simpa [Go.binOp,Op.unary] using this
  | not =>
   change Adm (a x)=some v at hu
   revert hu hx
   generalize a x=p
   intro hx hu
   unfold Adm at hu
   split at hu
   . cases hu
     revert hx;generalize c x=q;intro hx
     cases hx
     exact⟨_,.bool _,by simp[Op.unary,Sem.run_pure]⟩
   . cases hu
  | plus=>cases hu
 obtain⟨V,J,h2⟩:=main
 exact .pure C (by simp only[execOp,I,Sem.run_bind,h2,Result.andThen_ok,Sem.run_pure]) J
end Go.X
namespace Go.X
open Go
variable {P:Program} {E:Env}
theorem bx {α:Type} {b:Bool} {x:Option α} {y:α} (h:(bif b then x else none)=some y):b=true/\x=some y:=by
 cases b with
 | true=>exact⟨rfl,h⟩
 | false=>cases h
theorem jI {α:Type} {b:Bool} {x:Option α} {y:α} (h:Bool.rec (motive:=fun _=>Option α) none x b=some y):b=true/\x=some y:=by
 cases b with
 | true=>exact⟨rfl,h⟩
 | false=>cases h
theorem foldl_set (p:List Value):∀ (off:Nat) (k:Nat) (C:Array Value),off+k+p.length<=C.size ->
 ((p.zipIdx k).foldl (fun cs x=>cs.setIfInBounds (off+x.2) x.1) C).size=C.size/\∀ j:Nat,((p.zipIdx k).foldl (fun cs x=>cs.setIfInBounds (off+x.2) x.1) C)[j]?=if off+k<=j/\j<off+k+p.length then p[j-(off+k)]? else C[j]?:=by
 induction p with
 | nil=>intro off k C _;exact⟨rfl,fun j=>by simp;intro J h2;omega⟩
 | cons V p U =>
  intro off k C hlen
  simp only[List.length_cons] at hlen
  simp only[List.zipIdx_cons,List.foldl_cons]
  obtain⟨J,h2⟩:=U off (k+1) (C.setIfInBounds (off+k) V) so
  refine⟨by rw[J];simp,fun j=>?_⟩
  rw[h2]
  by_cases R:j=off+k
  . subst R
    rw[if_neg om,if_pos sm]
    have:off+k<C.size:=om
    simp[this]
  . by_cases I:off+(k+1)<=j/\j<off+(k+1)+p.length
    . rw[if_pos I,if_pos so]
      have:j-(off+k)=(j-(off+(k+1)))+1:=om
      rw[this];simp
    . rw[if_neg I,if_neg so]
      simp[Ne.symm R]
theorem O5 {ρ:bS} {c:List Value} {C:Array Value} {cs:List Value} {V:Value} {off:Nat} (hc:bc ρ c C.toList) (hv:bc ρ cs V.cells.toList) (hle:off+cs.length<=c.length) :
 bc ρ (ep c off cs) (V.cells.zipIdx.foldl (fun C x=>C.setIfInBounds (off+x.2) x.1) C).toList:=by
 have j:c.length=C.size:=by have:=hc.length;simpa using this
 have I:cs.length=V.cells.size:=by have:=hv.length;simpa using this
 have e:V.cells.zipIdx.foldl (fun C x=>C.setIfInBounds (off+x.2) x.1) C=(V.cells.toList.zipIdx 0).foldl (fun C x=>C.setIfInBounds (off+x.2) x.1) C:=by
  rw[<-Array.foldl_toList,Array.toList_zipIdx]
 rw[e]
 obtain⟨J,h2⟩:=foldl_set V.cells.toList off 0 C (by rw[Array.length_toList];omega)
 refine bc.BK ?_ ?_
 . rw[x9 _ _ _ hle]
   show c.length=(Array.toList _).length
   rw[Array.length_toList];exact j.trans J.symm
 . intro i v hi
   rw[m6 _ _ _ hle] at hi
   rw[Array.getElem?_toList,h2]
   rw[Array.length_toList]
   by_cases q:off<=i/\i<off+cs.length
   . rw[if_pos om]
     have:cs[i-off]?=some v:=by
      rw[List.append_assoc,List.getElem?_append_right (by rw[List.length_take];omega),List.length_take,Nat.min_eq_left om,List.getElem?_append_left om] at hi
      exact hi
     exact hv.get _ _ this
   . rw[if_neg om]
     have:c[i]?=some v:=by
      by_cases R:i<off
      . rw[List.append_assoc,List.getElem?_append_left (by rw[List.length_take];omega),List.getElem?_take,if_pos R] at hi
        exact hi
      . rw[List.getElem?_append_right (by rw[List.length_append,List.length_take];omega),List.length_append,List.length_take,Nat.min_eq_left om,List.getElem?_drop] at hi
        rw[<-hi];congr 1;omega
     obtain⟨U,p,hr⟩:=hc.get _ _ this
     exact⟨U,by rw[<-Array.getElem?_toList];exact p,hr⟩
inductive KF (ρ:bS):List (Nat × Value)->List (Nat × Value)->Prop
 | nil:KF ρ [] []
 | cons (i:Nat) (v V:Value) (l L:List (Nat × Value)) (h:aK ρ v V) (hl:KF ρ l L):KF ρ ((i,v) :: l) ((i,V) :: L)
theorem AbG {ρ:bS} {a c:Operand->Value} (l:List (Nat × Operand)) (h:∀ x ∈ l,aK ρ (a x.2) (c x.2)):KF ρ (FN a l) (l.map fun x=>(x.1,c x.2)):=by
 rw[AaI]
 induction l with
 | nil=>exact .nil
 | cons x l j=>exact .cons _ _ _ _ _ (h x (.head _)) (j fun y p=>h y (.tail _ p))
theorem KG {ρ:bS} {place:Nat->Option (Nat × Nat)} {i off s:Nat} {v V:Value} {cs c:List Value} {C:Array Value} {L:List (Nat × Value)} (p:place i=some (off,s)) (j:cells v=some cs) (hv:aK ρ v V) (U:cs.length=s) (I:bc ρ c C.toList) (h2:off+cs.length<=c.length) :
 Instr.fill place C ((i,V) :: L)=Instr.fill place (V.cells.zipIdx.foldl (fun C x=>C.setIfInBounds (off+x.2) x.1) C) L:=by
 have hr:=m_ j hv
 have hl:cs.length=V.cells.size:=by have:=hr.length;simpa using this
 have J:c.length=C.size:=by have:=I.length;simpa using this
 have R:¬ (V.cells.size≠s\/off+V.cells.size > C.size):=om
 simp only[Instr.fill,p]
 rw[if_neg (sp R)]
theorem KH {ρ:bS} (s:Nat):∀ (ps J:List (Nat × Value)) (c:List Value) (C:Array Value) (j:List Value),KF ρ ps J->bc ρ c C.toList->xS s c ps=some j ->
 ∃ U,Instr.fill (fun i=>some (i * s,s)) C J=some U/\bc ρ j U.toList:=by
 intro ps
 induction ps with
 | nil=>intro J c C j R hc h;cases R;cases h;exact⟨C,rfl,hc⟩
 | cons p ps ih =>
  intro J c C j R hc h
  cases R with
  | cons i v V l L hv hl =>
   obtain⟨cs,I,h⟩:=bind_some h
   obtain⟨h1,h⟩:=bx h
   obtain⟨h2,h⟩:=bx h
   rw[br,ax,decide_eq_true_eq] at h1
   rw[br,br,aP,decide_eq_true_eq] at h2
   rw[KG (off:=i * s) (s:=s) rfl I hv h1 hc h2]
   exact ih L _ _ j hl (O5 hc (m_ I hv) h2) h
theorem Vb (hE:bj P E) {ρ:bS} (fields:Array Field) (place:Nat->Option (Nat × Nat)) (j:∀ (i:Nat) (f:Field) (s:Nat),fields.toList[i]?=some f->E.size f.type=some s->place i=some (f.offset,s)):∀ (ps R:List (Nat × Value)) (c:List Value) (C:Array Value) (I:List Value),KF ρ ps R->bc ρ c C.toList->HZ E fields c ps=some I ->
 ∃ C',Instr.fill place C R=some C'/\bc ρ I C'.toList:=by
 intro ps
 induction ps with
 | nil=>intro R c C I U hc h;cases U;cases h;exact⟨C,rfl,hc⟩
 | cons p ps ih =>
  intro R c C I U hc h
  cases U with
  | cons i v V l L hv hl =>
   obtain⟨f,hf,h⟩:=bind_some h
   obtain⟨s,hs,h⟩:=bind_some h
   obtain⟨cs,J,h⟩:=bind_some h
   rw[fD] at hf
   obtain⟨h1,h⟩:=bx h
   obtain⟨h2,h⟩:=bx h
   rw[br,ax,decide_eq_true_eq] at h1
   rw[br,br,aP,decide_eq_true_eq] at h2
   rw[KG (j i f s hf hs) J hv h1 hc h2]
   exact ih L _ _ I hl (O5 hc (m_ J hv) h2) h
theorem ME (R:bj P E) (fs:List Field):Ed E fs=some ()->∃ places,fs.mapM (fun f=>(P.info? f.type).map fun i=>(f.offset,i.size))=some places/\∀ (i:Nat) (f:Field) (s:Nat),fs[i]?=some f->E.size f.type=some s->places[i]?=some (f.offset,s):=by
 induction fs with
 | nil=>intro _;exact⟨[],rfl,fun i f s h=>by simp at h⟩
 | cons f fs U =>
  intro h
  obtain⟨s,hs,h⟩:=bind_some h
  obtain⟨pl,h1,h2⟩:=U h
  obtain⟨ti,C,p⟩:=bind_some hs
  cases p
  obtain⟨j,hj,I,_⟩:=R.dO _ _ C
  refine⟨(f.offset,j.size) :: pl,by simp[List.mapM_cons,hj,h1],?_⟩
  intro i g s' J p
  cases i with
  | zero =>
   simp at J;subst J
   rw[hs] at p;cases p
   simp[I]
  | succ i=>simpa using h2 i g s' (sp J) p
variable {ρ:bS} {h:H} {W:World} {a c:Operand->Value} {o:Oper}
theorem Ij (hE:bj P E) (hH:aX ρ h W) (t:TypeId) (parts:Array (Nat × Operand)) (ho:o.op=.build t parts) (hx:∀ x ∈ parts.toList,aK ρ (a x.2) (c x.2)) {v:Value} {h':H} (hr:qI E h a t parts=some (.val v h')):mc P ρ h W v h' (execOp c o):=by
 obtain⟨z,hz,hr⟩:=bind_some hr
 obtain⟨u,hu,hr⟩:=bind_some hr
 have hU:=hE.dk hu
 obtain⟨i,hi,hd⟩:=bind_some hu
 obtain⟨j,hj,YA,Vc,QR,_⟩:=hE.dO _ _ hi
 obtain⟨zv,hzv,Zl⟩:=bind_some hz
 have hzz:E.zero t=some zv:=hzv
 obtain⟨i',vt,hz0⟩:=bind_some hzz
 rw[hi] at vt;cases vt
 rw[QR] at hz0
 obtain⟨y,hy,hyz⟩:=bind_some hz0
 obtain⟨rfl,Vd⟩:=tA hyz ρ
 have p:bc ρ z zv.cells.toList:=m_ Zl Vd
 have hpr:=AbG (a:=a) (c:=c) parts.toList hx
 have I:(parts.map fun (x:Nat × Operand)=>(x.1,c x.2)).toList=parts.toList.map fun x=>(x.1,c x.2):=sm
 split at hr
 . rename_i fields
   obtain⟨_,tH,hr⟩:=bind_some hr
   obtain⟨cs,J,hv⟩:=bind_some hr
   cases hv
   obtain⟨pl,hp1,Uw⟩:=ME hE _ tH
   obtain⟨R,U,C⟩:=Vb hE fields (fun k=>pl.toArray[k]?) (fun k f s q1 q2=>by simpa using Uw k f s q1 q2) _ _ _ _ _ hpr p J
   refine .pure hH ?_ (.agg _ _ (sp C):aK ρ (.agg ⟨cs⟩) (.agg R))
   have hb:P.built t (parts.map fun (x:Nat × Operand)=>(x.1,c x.2)).toList=some R:=by
    unfold Program.built
    rw[hj,hU]
    simp only[hy,hp1]
    rw[I];exact U
   simp only[execOp,ho,Sem.run_bind,run_build W t _ R hb,Result.andThen_ok,Sem.run_pure]
 . rename_i n e
   obtain⟨s,hs,hr⟩:=bind_some hr
   obtain⟨cs,J,hv⟩:=bind_some hr
   cases hv
   obtain⟨R,U,C⟩:=KH s _ _ _ _ _ hpr p J
   refine .pure hH ?_ (.agg _ _ (sp C):aK ρ (.agg ⟨cs⟩) (.agg R))
   obtain⟨ie,Zz,O6⟩:=bind_some hs
   cases O6
   obtain⟨je,hje,Ahd,_⟩:=hE.dO _ _ Zz
   have hb:P.built t (parts.map fun (x:Nat × Operand)=>(x.1,c x.2)).toList=some R:=by
    unfold Program.built
    rw[hj,hU]
    simp only[hy,hje,Ahd]
    rw[I];exact U
   simp only[execOp,ho,Sem.run_bind,run_build W t _ R hb,Result.andThen_ok,Sem.run_pure]
 . cases hr
theorem Eh (z:List Value) (n:Nat):∀ i:Nat,(dZ z n)[i]?=if i<n * z.length then z[i % z.length]? else none:=by
 induction n with
 | zero=>intro i;rw[if_neg om];rfl
 | succ n j =>
  intro i
  show (cW z (dZ z n))[i]?=_
  rw[dF]
  by_cases hi:i<z.length
  . rw[List.getElem?_append_left hi,Nat.mod_eq_of_lt hi,if_pos (by rw[Nat.succ_mul];omega)]
  . rw[List.getElem?_append_right om,j,Nat.succ_mul]
    have:(i-z.length) % z.length=i % z.length:=(Nat.mod_eq_sub_mod om).symm
    rw[this]
    by_cases h2:i<n * z.length+z.length
    . rw[if_pos h2,if_pos om]
    . rw[if_neg h2,if_neg om]
theorem KJ {ρ:bS} {z:List Value} {Z:Array Value} (hz:bc ρ z Z.toList) (n k:Nat) (hk:n * z.length=k):bc ρ (dZ z n) (madeCells Z k).toList:=by
 have hl:z.length=Z.size:=by have:=hz.length;simpa using this
 refine bc.BK ?_ ?_
 . have:(madeCells Z k).toList.length=k:=by simp[madeCells]
   exact (xA z n).trans (hk.trans this.symm)
 . intro i v e
   rw[Eh] at e
   by_cases hi:i<n * z.length
   . rw[if_pos hi] at e
     obtain⟨V,j,hr⟩:=hz.get _ _ e
     refine⟨V,?_,hr⟩
     rw[Array.getElem?_toList] at j ⊢
     have p:i<k:=om
     simp only[madeCells,Array.getElem?_map,Array.getElem?_range,p,if_true,Option.map_some]
     rw[hl] at j
     rw[Array.getElem!_eq_getD,Array.getD_eq_getD_getElem?,j];rfl
   . rw[if_neg hi] at e;cases e
theorem bj.KK (hE:bj P E) {t:TypeId} {z:List Value} (h:E.cz t=some z):∃ i j C,E.dO t=some i/\P.info? t=some j/\j.size=i.size/\j.bytes=i.bytes/\j.zero=some C/\C.cells.toList=z/\∀ ρ,bc ρ z C.cells.toList:=by
 obtain⟨C,R,p⟩:=bind_some h
 obtain⟨i,hi,I⟩:=bind_some R
 obtain⟨j,hj,U,Vc,QR,_⟩:=hE.dO _ _ hi
 rw[QR] at I
 obtain⟨y,hy,J⟩:=bind_some I
 obtain⟨rfl,_⟩:=tA J (fun _=>none)
 refine⟨i,j,C,hi,hj,U,Vc,hy,?_,fun ρ=>m_ p (tA J ρ).2⟩
 cases C <;> first | (cases p;rfl) | cases p
theorem YB {α:Type} (f:Nat->α):(Array.range 0).map f=#[]:=Array.eq_empty_of_size_eq_zero sm
theorem FO (W:World) (t e:TypeId) (len:Nat) (parts:Array (Nat × Value)) (cells:Array Value) (p:TypeInfo) (z:Value)
 (hu:P.underlying t=some (.slice e)) (I:P.info? e=some p) (hz:p.zero=some z) (C:¬ len * p.size > 2 ^ 24)
 (h:Instr.fill (fun i=>some (i * p.size,p.size)) (madeCells z.cells (len * p.size)) parts.toList=some cells) :
 (Instr.buildSlice t len parts).run P W=.ok (.slice (some ⟨W.heap.size,0,none⟩) len len) (W.alloc (.cells cells e)):=by
 by_cases j:len * p.size=0
 . have h':Instr.fill (fun i=>some (i * p.size,p.size)) #[] parts.toList=some cells:=by rw[j] at h;rw[<-YB (z.cells[· % z.cells.size]!)];exact h
   simp[Instr.buildSlice,run_underlying hu,sizeOf,typeInfo,I,j,YB,h',Go.newRow]
 . exact run_buildSlice W t e len parts cells p z hu I hz C j h
theorem E9 {ρ:bS} {h:H} {n S l:Nat} {B:Nat} {osz:Nat} (c:Nat) (hn:¬ (osz≠0/\c * osz=n)\/c * osz<=S):aK (ρ.add h.next ⟨B,0,n,osz,S⟩) (.slice (some ⟨h.next,0,none⟩) l c) (.slice (some ⟨B,0,none⟩) l c):=by
 refine .slice _ _ _ _ _ _ _ (bS.add_same _ _ _) ?_
 unfold lA
 by_cases q:osz≠0/\0+c * osz=n
 . rw[if_pos q]
   refine⟨Nat.le_refl _,.inl ⟨rfl,?_⟩⟩
   rcases hn with k | k
   . exact absurd ⟨q.1,by have:=q.2;omega⟩ k
   . show 0+0+c * osz<=S;omega
 . rw[if_neg q];exact⟨rfl,rfl⟩
theorem Aw (hE:bj P E) (hH:aX ρ h W) (t:TypeId) (n:Nat) (parts:Array (Nat × Operand)) (ho:o.op=.buildSlice t n parts) (hx:∀ x ∈ parts.toList,aK ρ (a x.2) (c x.2)) {v:Value} {h':H} (hr:ma E h a t n parts=some (.val v h')):mc P ρ h W v h' (execOp c o):=by
 obtain⟨u,hu,hr⟩:=bind_some hr
 have hU:=hE.dk hu
 split at hr
 . rename_i e
   obtain⟨s,hs,hr⟩:=bind_some hr
   obtain⟨z,hz,hr⟩:=bind_some hr
   obtain⟨cs,IQ,hr⟩:=bind_some hr
   obtain⟨hb,hv⟩:=bx hr
   cases hv
   rw[aP,ax,br,Bool.and_eq_true,decide_eq_true_eq,decide_eq_true_eq] at hb
   obtain⟨i,j,zv,hi,hj,p,Vc,QR,_,Vd⟩:=hE.KK hz
   have C:i.size=s:=by
    obtain⟨i2,I,O6⟩:=bind_some hs
    rw[show E.types.get e=some i from hi] at I;cases I;cases O6;rfl
   have hpr:=AbG (a:=a) (c:=c) parts.toList hx
   obtain⟨C',hC',J⟩:=KH s _ _ _ _ _ hpr (KJ (Vd ρ) n (n * s) (by rw[hb.2])) IQ
   have R:=FO (P:=P) W t e n (parts.map fun (x:Nat × Operand)=>(x.1,c x.2)) C' j zv hU hj QR (by rw[p,C];omega) (by
    rw[p,C]
    have U:(parts.map fun (x:Nat × Operand)=>(x.1,c x.2)).toList=parts.toList.map fun x=>(x.1,c x.2):=sm
    rw[U];exact hC')
   obtain⟨r1,r2⟩:=zD J
   obtain⟨k1,k2⟩:=rT (e:=e) (osz:=0) (W':=W.alloc (.cells C' e)) hH r1 r2 (noF _) rfl rfl rfl rfl
   refine⟨_,_,_,.value _,?_,.inl rfl,E9 (ρ:=ρ) (h:=h) (l:=n) n (.inl (fun q=>q.1 rfl)),k1,k2⟩
   simp only[execOp,ho,Sem.run_bind,R,Result.andThen_ok,Sem.run_pure]
 . cases hr
theorem BM (hE:bj P E) (hH:aX ρ h W) (t:TypeId) (x y:Operand) (ho:o.op=.makeSlice t x y) (hx:aK ρ (a x) (c x)) (U:aK ρ (a y) (c y)) {v:Value} {h':H} (hr:oi E h a t x y=some (.val v h')):mc P ρ h W v h' (execOp c o):=by
 obtain⟨u,hu,hr⟩:=bind_some hr
 have hU:=hE.dk hu
 revert hx U hr
 generalize a x=p
 generalize a y=q
 intro hx U hr
 split at hr
 . rename_i e kl l kc n
   obtain⟨i,hi,hr⟩:=bind_some hr
   obtain⟨z,hz,hr⟩:=bind_some hr
   obtain⟨hb,hv⟩:=bx hr
   cases hv
   rw[aP,aP,aP,ax,br] at hb
   simp only[Bool.and_eq_true,decide_eq_true_eq] at hb
   obtain⟨⟨⟨ZC,RG⟩,hb3⟩,hb4⟩:=hb
   obtain⟨i',j,zv,C,hj,YA,Vc,QR,_,Vd⟩:=hE.KK hz
   rw[hi] at C;cases C
   have hcx:=hx.ee
   have hcy:=U.ee
   have qS:j.bytes * n<=1099511627776:=by rw[Vc];exact RG
   have I:((j.bytes:Int) * Int.ofNat n)<=281474976710656:=by
    have:((j.bytes * n:Nat):Int)<=((1099511627776:Nat):Int):=Int.ofNat_le.2 qS
    have e1:((j.bytes:Int) * Int.ofNat n)=((j.bytes * n:Nat):Int):=sm
    rw[e1];omega
   have J:=run_make (P:=P) W t e j zv hU hj QR kl kc (Int.ofNat l) (Int.ofNat n) (Int.natCast_nonneg l) (Int.ofNat_le.2 ZC) I (by
    have:((n:Nat):Int)<=((1099511627776:Nat):Int):=Int.ofNat_le.2 hb3
    show (n:Int)<=_
    omega)
   have R:=KJ (Vd ρ) n (n * j.size) (by rw[hb4,YA])
   obtain⟨r1,r2⟩:=zD R
   obtain⟨k1,k2⟩:=rT (e:=e) (osz:=0) (W':=W.alloc (.cells (madeCells zv.cells (n * j.size)) e)) hH r1 r2 (noF _) rfl rfl rfl rfl
   refine⟨_,_,_,.value _,?_,.inl rfl,E9 (ρ:=ρ) (h:=h) (l:=l) n (.inl (fun q=>q.1 rfl)),k1,k2⟩
   simp only[execOp,ho,Sem.run_bind]
   rw[hcx,hcy,J]
   rfl
 . cases hr
end Go.X
namespace Go.X
open Go
variable {P:Program} {E:Env}
variable {ρ:bS} {h:H} {W:World} {a c:Operand->Value} {o:Oper}
theorem xF (j:bj P E) (p:aX ρ h W) (t:TypeId) (x:Operand) (C:o.op=.makeInterface t x) (hx:aK ρ (a x) (c x)) {v:Value} {h':H} (hr:dB E h a t x=some (.val v h')):mc P ρ h W v h' (execOp c o):=by
 obtain⟨u,hu,hr⟩:=bind_some hr
 have I:=j.dk hu
 have key:(∀ m,u≠.interface m)->(execOp c o).run P W=.ok (.value (.iface t (c x))) W:=by
  intro hn
  have:(Instr.makeInterface t (c x)).run P W=.ok (.iface t (c x)) W:=by
   unfold Instr.makeInterface
   simp only[Sem.run_bind,aB I,Result.andThen_ok]
   cases u <;> first | rfl | exact absurd rfl (hn _)
  simp only[execOp,C,Sem.run_bind,this,Result.andThen_ok,Sem.run_pure]
 split at hr
 . cases hr
 . rename_i hn
   cases hr
   exact .pure p (key fun m e=>hn m e) (.iface _ _ _ hx)
theorem C6 (l:List Operand) (hx:∀ x ∈ l,aK ρ (a x) (c x)):bc ρ (lK a l) (l.map c):=by
 rw[AaH]
 induction l with
 | nil=>exact .nil
 | cons x l j=>exact .cons _ _ _ _ (hx x (.head _)) (j fun y p=>hx y (.tail _ p))
theorem C7 (p:aX ρ h W) (fn:Fn) (first captured:Array Operand) (C:o.op=.makeFunc fn first captured) (hx:∀ x ∈ first.toList,aK ρ (a x) (c x)) (I:∀ x ∈ captured.toList,aK ρ (a x) (c x)) {v:Value} {h':H} (hr:jc E h a fn first captured=some (.val v h')):mc P ρ h W v h' (execOp c o):=by
 obtain⟨j,hr⟩:=bx hr
 cases hr
 refine .pure p (V:=.func fn (first.map c) (captured.map c)) ?_ ?_
 . simp only[execOp,C,Instr.makeFunc,Sem.run_bind,Sem.run_pure,Result.andThen_ok]
 . refine .func _ _ _ _ _ _ ?_ ?_ ?_
   . cases fn with
     | func f=>exact .func f
     | method s=>exact .method s
     | _=>cases j
   . simpa using C6 _ hx
   . simpa using C6 _ I
theorem Ei (R:aX ρ h W) (t:Operand) (ix:Nat) (U:o.op=.extract t ix) (hx:aK ρ (a t) (c t)) {v:Value} {h':H} (hr:fV E h a t ix=some (.val v h')):mc P ρ h W v h' (execOp c o):=by
 unfold fV at hr
 revert hx hr
 generalize a t=p
 generalize hc:c t=q
 intro hx hr
 split at hr
 . obtain⟨u,hu,hv⟩:=map_some hr
   cases hv
   cases hx with
   | tuple A C j =>
    rw[DV] at hu
    obtain⟨V,J,I⟩:=j.get _ _ hu
    rw[Array.getElem?_toList] at J
    refine .pure R ?_ I
    simp only[execOp,U,hc,Instr.extract,J,Sem.run_bind,Sem.run_pure,Result.andThen_ok]
 . cases hr
theorem Ik (R:bj P E) (U:aX ρ h W) (t:TypeId) (x:Operand) (f:Nat) (ho:o.op=.field t x f) (hx:aK ρ (a x) (c x)) {v:Value} {h':H} (hr:qJ E h a t x f=some (.val v h')):mc P ρ h W v h' (execOp c o):=by
 obtain⟨u,hu,hr⟩:=bind_some hr
 have hU:=R.dk hu
 revert hx hr
 generalize a x=p
 generalize hc:c x=q
 intro hx hr
 split at hr
 . rename_i fields cs
   obtain⟨fd,j,hr⟩:=bind_some hr
   obtain⟨w,hw,hv⟩:=map_some hr
   cases hv
   rw[fD,Array.getElem?_toList] at j
   cases hx with
   | agg A C I =>
    obtain⟨V,hV,J⟩:=tB R hw I W
    refine .pure U ?_ J
    have:(Instr.field t (.agg C) f).run P W=.ok V W:=by
     simp only[Instr.field,Sem.run_bind,aB hU,Result.andThen_ok,j,asAgg,Sem.run_pure,hV]
    simp only[execOp,ho,hc,Sem.run_bind,this,Result.andThen_ok,Sem.run_pure]
 . cases hr
theorem BN (C:bj P E) (I:aX ρ h W) (t:TypeId) (x:Operand) (f:Nat) (J:o.op=.fieldAddr t x f) (hx:aK ρ (a x) (c x)) {v:Value} {h':H} (hr:gP E h a t x f=some (.val v h')):mc P ρ h W v h' (execOp c o):=by
 obtain⟨u,hu,hr⟩:=bind_some hr
 have R:=C.dk hu
 split at hr
 . rename_i fields
   obtain⟨fd,j,hr⟩:=bind_some hr
   obtain⟨A,U,hr⟩:=bind_some hr
   obtain⟨sz,p,hr⟩:=bind_some hr
   obtain⟨b,of,he,rfl⟩:=uE U
   rw[he] at hx
   rw[ax] at hr
   by_cases hz:sz=0
   . simp[hz] at hr
   . simp only[hz,decide_false,cond_false] at hr
     cases hr
     rw[fD,Array.getElem?_toList] at j
     revert hx;generalize hc:c x=q;intro hx
     cases hx with
     | ptr _ _ r hr =>
      refine .pure I (V:=.pointer (some ⟨r.dH,r.base+(of+fd.offset),none⟩)) ?_ (.ptr _ _ r hr)
      have:(Instr.fieldAt t (.pointer (some ⟨r.dH,r.base+of,none⟩)) f).run P W=.ok (.pointer (some ⟨r.dH,r.base+(of+fd.offset),none⟩)) W:=by
       simp only[Instr.fieldAt,Sem.run_bind,aB R,Result.andThen_ok,j,Instr.sureAddr,Sem.run_pure,fieldPlace,C.size p,hz,if_false,mb,Nat.add_assoc]
      simp only[execOp,J,hc,Sem.run_bind,this,Result.andThen_ok,Sem.run_pure]
 . cases hr
theorem dx (a b:Nat):Nat.blt a b=decide (a<b):=by
 show Nat.ble (a+1) b=_
 rw[aP];rfl
theorem BO (U:bj P E) (hH:aX ρ h W) (t:TypeId) (x ix:Operand) (ho:o.op=.indexAddr t x ix) (hx:aK ρ (a x) (c x)) (R:aK ρ (a ix) (c ix)) {v:Value} {h':H} (hr:gQ E h a t x ix=some (.val v h')):mc P ρ h W v h' (execOp c o):=by
 obtain⟨u,hu,hr⟩:=bind_some hr
 have hU:=U.dk hu
 revert hx R hr
 generalize a x=p
 generalize hc:c x=q
 generalize a ix=pi
 generalize J:c ix=qi
 intro hx R hr
 split at hr
 . rename_i n e A k i
   obtain⟨s,hs,hr⟩:=bind_some hr
   obtain⟨hb,hv⟩:=bx hr
   cases hv
   rw[dx,decide_eq_true_eq] at hb
   have j:=R.ee
   subst j
   cases hx with
   | ptr b of r C =>
    refine .pure hH (V:=.pointer (some ⟨r.dH,r.base+(of+i * s),none⟩)) ?_ (.ptr _ _ r C)
    have I:(0:Int)<=Int.ofNat i/\Int.ofNat i<(n:Int):=⟨Int.natCast_nonneg i,Int.ofNat_lt.2 hb⟩
    have:(Instr.indexAt t (.pointer (some ⟨r.dH,r.base+of,none⟩)) (.int k (Int.ofNat i))).run P W=.ok (.pointer (some ⟨r.dH,r.base+(of+i * s),none⟩)) W:=by
     simp only[Instr.indexAt,asIntOf,Sem.run_bind,Sem.run_pure,aB hU,Result.andThen_ok,Instr.sureAddr,I,and_self,if_true,U.size hs,mb,Nat.add_assoc]
     rfl
    simp only[execOp,ho,hc,J,Sem.run_bind,this,Result.andThen_ok,Sem.run_pure]
 . rename_i e A n cap k i
   obtain⟨s,hs,hr⟩:=bind_some hr
   obtain⟨hb,hv⟩:=bx hr
   cases hv
   rw[dx,decide_eq_true_eq] at hb
   have j:=R.ee
   subst j
   cases hx with
   | slice b of _ _ AA CC r C hsr =>
    have hA:AA=⟨r.dH,r.base+of,none⟩:=by
     unfold lA at hsr
     split at hsr
     . rcases hsr.2 with hh | hh
       . exact hh.1
       . omega
     . exact hsr.1
    subst hA
    refine .pure hH (V:=.pointer (some ⟨r.dH,r.base+(of+i * s),none⟩)) ?_ (.ptr _ _ r C)
    have I:(0:Int)<=Int.ofNat i/\Int.ofNat i<(n:Int):=⟨Int.natCast_nonneg i,Int.ofNat_lt.2 hb⟩
    have:(Instr.indexAt t (.slice (some ⟨r.dH,r.base+of,none⟩) n CC) (.int k (Int.ofNat i))).run P W=.ok (.pointer (some ⟨r.dH,r.base+(of+i * s),none⟩)) W:=by
     simp only[Instr.indexAt,asIntOf,Sem.run_bind,Sem.run_pure,aB hU,Result.andThen_ok,I,and_self,if_true,U.size hs,mb,Nat.add_assoc]
     rfl
    simp only[execOp,ho,hc,J,Sem.run_bind,this,Result.andThen_ok,Sem.run_pure]
 . cases hr
theorem Ve {s:ByteArray} {i:Nat} {b:UInt8} (h:s.data.toList[i]?=some b):s[i]?=some b:=by
 rw[Array.getElem?_toList] at h
 have j:i<s.data.size:=by
  rcases Nat.lt_or_ge i s.data.size with q | q
  . exact q
  . rw[Array.getElem?_eq_none q] at h;cases h
 rw[getElem?_pos s i j]
 rw[Array.getElem?_eq_getElem j] at h
 exact h
theorem Il (U:bj P E) (hH:aX ρ h W) (t:TypeId) (x ix:Operand) (ho:o.op=.index t x ix) (hx:aK ρ (a x) (c x)) (R:aK ρ (a ix) (c ix)) {v:Value} {h':H} (hr:qK E h a t x ix=some (.val v h')):mc P ρ h W v h' (execOp c o):=by
 obtain⟨u,hu,hr⟩:=bind_some hr
 have hU:=U.dk hu
 revert hx R hr
 generalize a x=p
 generalize hc:c x=q
 generalize a ix=pi
 generalize I:c ix=qi
 intro hx R hr
 split at hr
 . rename_i n e cs k i
   obtain⟨s,hs,hr⟩:=bind_some hr
   obtain⟨hb,hv⟩:=bx hr
   obtain⟨w,hw,hv⟩:=map_some hv
   cases hv
   rw[dx,decide_eq_true_eq] at hb
   have j:=R.ee
   subst j
   cases hx with
   | agg A C J =>
    obtain⟨V,hV,IS⟩:=tB U hw J W
    refine .pure hH ?_ IS
    have oz:(0:Int)<=Int.ofNat i/\Int.ofNat i<(n:Int):=⟨Int.natCast_nonneg i,Int.ofNat_lt.2 hb⟩
    have:(Instr.index t (.agg C) (.int k (Int.ofNat i))).run P W=.ok V W:=by
     simp only[Instr.index,asIntOf,Sem.run_bind,Sem.run_pure,aB hU,Result.andThen_ok,oz,and_self,if_true,U.size hs]
     exact hV
    simp only[execOp,ho,hc,I,Sem.run_bind,this,Result.andThen_ok,Sem.run_pure]
 . rename_i s k i
   obtain⟨b,hb,hv⟩:=bind_some hr
   cases hv
   have j:=R.ee
   subst j
   cases hx with
   | string _ =>
    rw[Tc] at hb
    refine .pure hH ?_ (.int .u8 b.toNat)
    have hnn:(0:Int)<=Int.ofNat i:=Int.natCast_nonneg i
    have:(Instr.index t (.string s) (.int k (Int.ofNat i))).run P W=.ok (.int .u8 b.toNat) W:=by
     simp only[Instr.index,asIntOf,Sem.run_bind,Sem.run_pure,aB hU,Result.andThen_ok,hnn,if_true]
     have e:s[(Int.ofNat i).toNat]?=some b:=Ve hb
     simp only[e]
     rfl
    simp only[execOp,ho,hc,I,Sem.run_bind,this,Result.andThen_ok,Sem.run_pure]
 . cases hr
end Go.X
namespace Go.X
open Go
variable {P:Program} {E:Env}
variable {ρ:bS} {h:H} {W:World} {a c:Operand->Value} {o:Oper}
def KL (ρ:bS) (a c:Operand->Value) (x:Option Operand):Prop:=∀ y,x=some y->aK ρ (a y) (c y)
theorem mL {d y n:Nat} (h:jD none d y=some n):n=d:=by cases h;rfl
theorem BP {v:Value} {d y n:Nat} (h:jD (some v) d y=some n):∃ k,v=.int k (Int.ofNat n)/\n<=y:=by
 unfold jD at h
 split at h
 . rename_i hh;cases hh
 . rename_i k i hh
   cases hh
   obtain⟨hb,hv⟩:=bx h
   cases hv
   rw[aP,decide_eq_true_eq] at hb
   exact⟨k,rfl,hb⟩
 . cases h
theorem po {v V:Value} {d y n Y:Nat} (code:BoundsCode) (h:jD (some v) d y=some n) (hv:aK ρ v V) (j:y<=Y):(Instr.sliceBound V Y code).run P W=.ok n W:=by
 obtain⟨k,rfl,hn⟩:=BP h
 rw[hv.ee]
 exact run_sliceBound (P:=P) W k (n:Int) Y code (Int.natCast_nonneg n) (Int.ofNat_le.2 (Nat.le_trans hn j))
theorem xG (isSlice:Bool) {len cap C l hh m:Nat} {lo hi mx:Option Operand} (hC:cap<=C) (hm:jD (zm a mx) cap cap=some m) (p:jD (zm a hi) len m=some hh) (hl:jD (zm a lo) 0 hh=some l)
 (J:IW (zm a hi) (zm a mx)=true) (j:KL ρ a c lo) (I:KL ρ a c hi) (R:KL ρ a c mx) :
 l<=hh/\∃ M,(Instr.sliceBounds isSlice len C (lo.map c) (hi.map c) (mx.map c)).run P W=.ok (l,hh,M) W/\((mx=none/\M=C/\m=cap)\/(M=m/\m<=cap)):=by
 have U:l<=hh:=by
  cases lo with
  | none=>have:=mL hl;omega
  | some x=>exact (BP hl).choose_spec.2
 refine⟨U,?_⟩
 have Aeb:∀ code,(match lo.map c with | some v=>Instr.sliceBound v hh code | none=>pure 0).run P W=.ok l W:=by
  intro code
  cases lo with
  | none=>have:=mL hl;subst this;rfl
  | some x=>exact po code hl (j x rfl) nlr
 cases mx with
 | none =>
  have hm':=mL hm
  subst hm'
  refine⟨C,?_,.inl ⟨rfl,rfl,rfl⟩⟩
  cases hi with
  | none =>
   have:=mL p;subst this
   cases lo with
   | none=>have:=mL hl;subst this;simp[Instr.sliceBounds,Sem.run_pure]
   | some x=>simp[Instr.sliceBounds,Sem.run_pure,po (P:=P) (W:=W) .sliceB hl (j x rfl) nlr]
  | some y =>
   have e:=fun code=>po (P:=P) (W:=W) (Y:=C) code p (I y rfl) hC
   cases lo with
   | none=>have:=mL hl;subst this;simp[Instr.sliceBounds,Sem.run_pure,e]
   | some x=>simp[Instr.sliceBounds,Sem.run_pure,e,po (P:=P) (W:=W) .sliceB hl (j x rfl) nlr]
 | some z =>
  have hmc:=(BP hm).choose_spec.2
  refine⟨m,?_,.inr ⟨rfl,hmc⟩⟩
  have em:=fun code=>po (P:=P) (W:=W) (Y:=C) code hm (R z rfl) hC
  cases hi with
  | none=>cases J
  | some y =>
   have e:=fun code=>po (P:=P) (W:=W) (Y:=m) code p (I y rfl) nlr
   cases lo with
   | none=>have:=mL hl;subst this;simp[Instr.sliceBounds,Sem.run_pure,e,em]
   | some x=>simp[Instr.sliceBounds,Sem.run_pure,e,em,po (P:=P) (W:=W) .slice3C hl (j x rfl) nlr]
theorem O7 (hE:bj P E) (hH:aX ρ h W) {elem:TypeId} {b of n cap l m hh sz:Nat} {A:Addr} {C M:Nat} {r:RI} {a':Option Addr} (hr:ρ b=some r) (hs:lA r of n cap A C) (tH:E.size elem=some sz)
 (hm:yC E h elem (some ⟨b,of,none⟩) cap l m=some a') (hl:l<=hh) (hhm:hh<=m) (p:(M=C/\m=cap)\/(M=m/\m<=cap)) :
 aK ρ (.slice a' (hh-l) (m-l)) (.slice (some (if M=l then A else A.add (l * sz))) (hh-l) (M-l)):=by
 obtain⟨sz',Afl,hm⟩:=bind_some hm
 rw[tH] at Afl;cases Afl
 obtain⟨x,hx,hm⟩:=bind_some hm
 obtain⟨_,_,_,_,hn,AaM,hbn,_,_⟩:=hH.obj b _ r (H.pS hx) hr
 have hlen:len x.cs=r.n:=by rw[br];exact hn.symm
 rw[hlen,<-AaM.1,ax,ax,ax,ax,ax] at hm
 by_cases j:r.osz≠0/\of+cap * r.osz=r.n/\m=cap
 . obtain⟨J,R,ho3⟩:=j
   have I:=hs
   unfold lA at I
   rw[if_pos ⟨J,R⟩] at I
   obtain⟨hcC,I⟩:=I
   by_cases hos:r.osz=sz
   . have e:(!decide (r.osz=0)&&decide (of+cap * r.osz=r.n)&&decide (m=cap))=true:=by simp[J,R,ho3]
     rw[show (⟨b,of,none⟩:Addr).off=of from rfl,e] at hm
     simp only[hos,decide_true] at hm
     cases hm
     subst hos ho3
     refine .slice _ _ _ _ _ _ _ hr ?_
     unfold lA
     have hme:of+l * r.osz+(m-l) * r.osz=r.n:=by
      rw[Nat.add_assoc,<-Nat.add_mul]
      rw[show l+(m-l)=m from by omega];exact R
     rw[if_pos ⟨J,hme⟩]
     have hMC:m<=M/\M<=C:=by rcases p with p | p <;> omega
     refine⟨om,?_⟩
     by_cases hMl:M=l
     . right;omega
     . left
       rw[if_neg hMl]
       rcases I with hA | hA
       . rw[hA.1,mb]
         refine⟨by rw[Nat.add_assoc],?_⟩
         have:(l+(M-l)) * r.osz<=C * r.osz:=Nat.mul_le_mul_right _ om
         rw[Nat.add_mul] at this
         have:=hA.2
         show r.base+(of+l * r.osz)+(M-l) * r.osz<=r.S
         omega
       . exfalso;omega
   . have e:(!decide (r.osz=0)&&decide (of+cap * r.osz=r.n)&&decide (m=cap))=true:=by simp[J,R,ho3]
     rw[show (⟨b,of,none⟩:Addr).off=of from rfl,e] at hm
     simp[hos] at hm
 . have e:(!decide (r.osz=0)&&decide (of+cap * r.osz=r.n)&&decide (m=cap))=false:=by
    cases hq:(!decide (r.osz=0)&&decide (of+cap * r.osz=r.n)&&decide (m=cap)) with
    | false=>rfl
    | true=>simp at hq;exact absurd ⟨hq.1.1,hq.1.2,hq.2⟩ j
   rw[show (⟨b,of,none⟩:Addr).off=of from rfl,e] at hm
   have hAM:A=⟨r.dH,r.base+of,none⟩/\M=m:=by
    unfold lA at hs
    by_cases ho:r.osz≠0/\of+cap * r.osz=r.n
    . rw[if_pos ho] at hs
      have hmc:m≠cap:=fun q=>j ⟨ho.1,ho.2,q⟩
      rcases p with p | p
      . exact absurd p.2 hmc
      . rcases hs.2 with q | q
        . exact⟨q.1,p.1⟩
        . exfalso;omega
    . rw[if_neg ho] at hs
      refine⟨hs.1,?_⟩
      rcases p with p | p <;> omega
   obtain⟨rfl,rfl⟩:=hAM
   by_cases U:M=l
   . have:(some ⟨b,of,none⟩:Option Addr)=a':=by
      have:=hm
      simp[U] at this
      exact this
     subst this
     rw[if_pos U]
     refine .slice _ _ _ _ _ _ _ hr ?_
     unfold lA
     split
     . rename_i q
       refine⟨Nat.le_refl _,.inl ⟨rfl,?_⟩⟩
       have:=q.2;omega
     . exact⟨rfl,rfl⟩
   . have:(some (nE ⟨b,of,none⟩ (l * sz)):Option Addr)=a':=by
      have:=hm
      simp[U] at this
      exact this
     subst this
     rw[if_neg U,mb]
     refine .slice _ _ _ _ _ _ _ hr ?_
     unfold lA
     split
     . rename_i q
       refine⟨Nat.le_refl _,.inl ⟨by rw[Nat.add_assoc],?_⟩⟩
       have q2:of+l * sz+(M-l) * r.osz=r.n:=q.2
       show r.base+(of+l * sz)+(M-l) * r.osz<=r.S
       omega
     . exact⟨by rw[Nat.add_assoc],rfl⟩
theorem AaN (s:ByteArray) (l h:Nat):Afe s l h=s.extract l h:=by
 have e:s=ByteArray.mk s.data.toList.toArray:=by cases s;rfl
 rw[e,ByteArray.extract_mk]
 show (⟨⟨Np (Cc s.data.toList h) l⟩⟩:ByteArray)=_
 rw[GG,Nq,List.drop_take]
theorem Im (hE:bj P E) (hH:aX ρ h W) (t:TypeId) (x:Operand) (lo hi mx:Option Operand) (ho:o.op=.slice t x lo hi mx) (hx:aK ρ (a x) (c x)) (R:KL ρ a c lo) (U:KL ρ a c hi) (rmx:KL ρ a c mx) {v:Value} {h':H} (hr:zA E h a t x lo hi mx=some (.val v h')):mc P ρ h W v h' (execOp c o):=by
 obtain⟨w,hw,hv⟩:=map_some hr
 cases hv
 obtain⟨u,hu,hw⟩:=bind_some hw
 have hU:=hE.dk hu
 have fin:∀ V,(Instr.sliceAt t (c x) (lo.map c) (hi.map c) (mx.map c)).run P W=.ok V W->(execOp c o).run P W=.ok (.value V) W:=by
  intro V e
  simp only[execOp,ho,Sem.run_bind,e,Result.andThen_ok,Sem.run_pure]
 revert hx hw fin
 generalize a x=p
 generalize c x=q
 intro hx hw fin
 split at hw
 . rename_i s
   cases hx with
   | string _ =>
    obtain⟨_,hmx,WK⟩:=bind_some hw
    clear hw
    cases mx with
    | some z=>cases hmx
    | none =>
     obtain⟨hh,I,Qm⟩:=bind_some WK
     obtain⟨l,hl,ZU⟩:=bind_some Qm
     cases ZU
     have hlen:len s.data.toList=s.size:=by rw[br,Array.length_toList];rfl
     rw[hlen] at I
     obtain⟨hle,M,hM,_⟩:=xG (P:=P) (W:=W) (c:=c) false (m:=s.size) (cap:=s.size) (C:=s.size) (mx:=none) nlr rfl I hl (by cases (zm a hi) <;> rfl) R U rmx
     refine .pure hH (fin (.string (s.extract l hh)) ?_) (by rw[AaN];exact .string _)
     have hM':(Instr.sliceBounds false s.size s.size (Option.map c lo) (Option.map c hi) none).run P W=.ok (l,hh,M) W:=hM
     simp[Instr.sliceAt,Instr.slice,aB hU,hM']
 . rename_i elem base n cap
   obtain⟨m,hm,hw⟩:=bind_some hw
   obtain⟨hh,I,hw⟩:=bind_some hw
   obtain⟨l,hl,hw⟩:=bind_some hw
   obtain⟨j,hw⟩:=jI hw
   obtain⟨a',VG,hw⟩:=bind_some hw
   cases hw
   have j:IW (zm a hi) (zm a mx)=true/\hh<=m/\(E.size elem).isSome=true:=by
    rw[Bool.and_eq_true,Bool.and_eq_true,aP,decide_eq_true_eq] at j
    exact⟨j.1.1,j.1.2,j.2⟩
   cases hx with
   | snil =>
    obtain⟨hle,M,hM,hMm⟩:=xG (P:=P) (W:=W) (c:=c) true (Nat.le_refl cap) hm I hl j.1 R U rmx
    cases VG
    have hMe:M=m:=by rcases hMm with q | q <;> omega
    subst hMe
    obtain⟨sz,J⟩:=Option.isSome_iff_exists.1 j.2.2
    refine .pure hH (fin _ ?_) (.snil _ _)
    simp only[Instr.sliceAt,Instr.slice,aB hU,hM,hE.size J,Sem.run_bind,Result.andThen_ok,Sem.run_pure]
    by_cases q:M=l <;> simp[q]
   | slice b of _ _ A C r Te hsr =>
    have hcC:cap<=C:=by unfold lA at hsr;split at hsr <;> omega
    obtain⟨hle,M,hM,hMm⟩:=xG (P:=P) (W:=W) (c:=c) true hcC hm I hl j.1 R U rmx
    obtain⟨sz,J,_⟩:=bind_some VG
    have:=O7 hE hH Te hsr J VG hle j.2.1 (by rcases hMm with q | q;exact .inl q.2;exact .inr q)
    refine .pure hH (fin _ ?_) this
    simp only[Instr.sliceAt,Instr.slice,aB hU,hM,hE.size J,Sem.run_bind,Result.andThen_ok,Sem.run_pure]
    by_cases q:M=l <;> simp[q]
 . cases hw
end Go.X
namespace Go.X
open Go
variable {P:Program} {E:Env}
variable {ρ:bS} {h:H} {W:World} {a c:Operand->Value} {o:Oper}
theorem zE {x X:Value} {L:Nat} (j:lenOf x=some L) (hx:aK ρ x X) (W:World):(Builtin.lenOf X).run P W=.ok L W:=by
 cases hx <;> first | (cases j;done) | skip
 all_goals (cases j;simp[Builtin.lenOf,Sem.run_pure,br])
theorem na (hH:aX ρ h W) {sz n L:Nat} {x X:Value} {cs:List Value} (hx:aK ρ x X) (hL:lenOf x=some L) (hn:n<=L) (hs:cV h sz n x=some cs) :
 ∃ R:List Value,(Builtin.firstCells sz n X).run P W=.ok R.toArray W/\bc ρ cs R/\cs.length=n * sz:=by
 cases hx <;> first | (cases hL;done) | skip
 case string s =>
  obtain⟨hb,hv⟩:=bx hs
  rw[ax,decide_eq_true_eq] at hb
  cases hv;cases hL
  rw[br] at hn
  rw[GG,qf]
  refine⟨(s.data.toList.take n).map fun b=>Value.int .u8 b.toNat,?_,?_,?_⟩
  . have e:s=ByteArray.mk s.data.toList.toArray:=by cases s;rfl
    have e2:s.extract 0 n=ByteArray.mk (s.data.toList.take n).toArray:=by
     conv=>lhs;rw[e]
     rw[ByteArray.extract_mk];simp
    simp only[Builtin.firstCells,e2,Sem.run_pure]
    simp
  . refine bc.BK rfl ?_
    intro i v hv
    refine⟨v,hv,?_⟩
    rw[List.getElem?_map] at hv
    obtain⟨b,_,rfl⟩:=Option.map_eq_some_iff.1 hv
    exact .int _ _
  . rw[List.length_map,List.length_take,Nat.min_eq_left hn,hb];omega
 case snil l cc =>
  obtain⟨hb,hv⟩:=bx hs
  rw[ax,decide_eq_true_eq] at hb
  cases hv
  refine⟨[],by simp[Builtin.firstCells],.nil,by simp[hb]⟩
 case slice b of l cc A C r hr hsr =>
  cases hL
  have p:(bif Nat.beq (n * sz) 0 then some [] else loadCells h ⟨b,of,none⟩ (n * sz))=some cs:=hs
  rw[ax] at p
  by_cases hz:n * sz=0
  . simp[hz] at p
    subst p
    refine⟨[],?_,.nil,by simp[hz]⟩
    simp[Builtin.firstCells,hz,Go.loadCells,loadCellsFrom,Sem.run_pure]
  . simp[hz] at p
    have hn0:n≠0:=fun q=>hz (by rw[q];simp)
    have hA:A=⟨r.dH,r.base+of,none⟩:=by
     unfold lA at hsr
     split at hsr
     . rcases hsr.2 with hh | hh
       . exact hh.1
       . omega
     . exact hsr.1
    subst hA
    obtain⟨LL,U,I,J⟩:=hH.cells hr p
    refine⟨LL,?_,I,by rw[I.length,U]⟩
    simp only[Builtin.firstCells]
    rw[<-U]
    exact run_loadCells _ LL (fun j V e=>by rw[mb];exact J j V e)
theorem Ag {x X:Value} {L:Nat} (j:lenOf x=some L) (hx:aK ρ x X):(∃ A C,X=.slice A L C)\/∃ s,X=.string s/\s.size=L:=by
 cases hx <;> first | (cases j;done) | skip
 . cases j;exact .inr ⟨_,rfl,by rw[br];rfl⟩
 . cases j;exact .inl ⟨_,_,rfl⟩
 . cases j;exact .inl ⟨_,_,rfl⟩
theorem zF (A:Addr) (i:Nat) (W:World):(Go.storeCells A [] i).run P W=.ok () W:=by simp[Go.storeCells,Sem.run_pure]
theorem O8 (hE:bj P E) (hH:aX ρ h W) (ats:Array TypeId) (ty st:TypeId) (I:gN ats.toList 0=some st) {d s D S:Value} (hd:aK ρ d D) (hs:aK ρ s S) {v:Value} {h':H} (hr:copyV E h st d s=some (.val v h')) :
 ∃ W',(Builtin.copy_ ats ty #[D,S]).run P W=.ok v W'/\aK ρ v v/\aX ρ h' W'/\Ext ρ h W ρ h' W':=by
 rw[fD,Array.getElem?_toList] at I
 obtain⟨u,hu,hr⟩:=bind_some hr
 have hU:=hE.dk hu
 split at hr
 . rename_i elem base U dc hcp
   obtain⟨sz,tH,hr1⟩:=bind_some hr
   obtain⟨sl,T_,GB⟩:=bind_some hr1
   obtain⟨cs,IQ,j⟩:=bind_some GB
   clear hr hr1 GB
   have hl:=zE (P:=P) T_ hs W
   obtain⟨J,cq,p,hlen⟩:=na (P:=P) hH hs T_ (Nat.min_le_left sl U) IQ
   have head:∀ (B:Option Addr) (DC:Nat),D=.slice B U DC->∀ (W':World),(match B with | some a=>Go.storeCells a J 0 | none=>pure ()).run P W=.ok () W'->(Builtin.copy_ ats ty #[D,S]).run P W=.ok (.int .i64 (Nat.min sl U:Nat)) W':=by
    intro B DC hB W' R
    subst hB
    cases B with
    | none =>
     have:W'=W:=by simp[Sem.run_pure] at R;exact R.symm
     subst this
     simp[Builtin.copy_,I,aB hU,hl,hE.size tH,cq,goInt]
    | some A =>
     have Ahe:(Go.storeCells A J 0).run P W=.ok () W':=R
     simp[Builtin.copy_,I,aB hU,hl,hE.size tH,cq,goInt,Ahe]
   split at j
   . rename_i ad
     cases hd with
     | slice b of _ _ A C r Te hsr =>
      rw[ax] at j
      by_cases hz:Nat.min sl U * sz=0
      . simp only[hz,decide_true,cond_true] at j
        cases j
        have hN:J=[]:=List.eq_nil_of_length_eq_zero (by rw[<-p.length,hlen,hz])
        subst hN
        exact⟨W,head _ _ rfl W (zF _ _ _),.int _ _,hH,Ext.refl _ _ _⟩
      . simp only[hz,decide_false,cond_false] at j
        obtain⟨h2,hh2,hv⟩:=map_some j
        cases hv
        have Wb:U≠0:=fun q=>hz (by rw[q];simp[Nat.min_zero])
        have hA:A=⟨r.dH,r.base+of,none⟩:=by
         unfold lA at hsr
         split at hsr
         . rcases hsr.2 with hh | hh
           . exact hh.1
           . omega
         . exact hsr.1
        subst hA
        obtain⟨W',k1,k2,k3⟩:=hH.store (P:=P) Te hh2 p
        exact⟨W',head _ _ rfl W' k1,.int _ _,k2,k3⟩
   . cases j
     cases hd with
     | snil=>exact⟨W,head _ _ rfl W rfl,.int _ _,hH,Ext.refl _ _ _⟩
 . cases hr
theorem aX.del (j:aX ρ h W) (b:Nat):aX ρ (h.del b) W:=by
 have p:∀ c x,(h.del b).get c=some x->h.get c=some x/\c≠b:=by
  intro c x e
  rw[H.mu] at e
  by_cases q:c=b
  . rw[if_pos q] at e;cases e
  . rw[if_neg q] at e;exact⟨e,q⟩
 refine⟨fun c x r I J=>j.obj c x r (p c x I).1 J,fun c C x x' r r' e R f U q q'=>j.inj c C x x' r r' (p c x e).1 (p C x' R).1 f U q q',j.we,fun c hc=>?_⟩
 rw[H.mu]
 split
 . rfl
 . exact j.fresh c hc
theorem Ext.del (I:aX ρ h W) (b:Nat):Ext ρ h W ρ (h.del b) W:=by
 refine⟨ρ.le_refl,Nat.le_refl _,rfl,rfl,rfl,fun _ _ _=>rfl,?_,Nat.le_refl _,fun _ _=>rfl⟩
 intro c x r j p C _
 rw[H.mu] at j
 by_cases q:c=b
 . rw[if_pos q] at j;cases j
 . rw[if_neg q] at j;exact⟨c,x,r,j,p,C,rfl⟩
theorem aX.YC {W':World} (I:aX ρ h W) (b:Nat) (x x':kJ) (r r':RI) (hx:h.get b=some x) (J:MB x=false) (Afm:MB x'=false) (hr:ρ b=some r) (hb:r'.dH=r.dH)
 (hs:W'.heap.size=W.heap.size) (hk:∀ B,B≠r.dH->W'.heap[B]?=W.heap[B]?) (ho:CZ (ρ.add h.next r') r' W' x'):aX (ρ.add h.next r') ((h.del b).new x') W':=by
 have R:ρ h.next=none:=by
  cases e:ρ h.next with
  | none=>rfl
  | some q=>have:=(I.we _ _ e).1;omega
 have hle:=ρ.xC h.next r' R
 have AhW:=I.we b r hr
 have hg:∀ c y,((h.del b).new x').get c=some y->(c=h.next/\y=x')\/(c≠h.next/\c≠b/\h.get c=some y):=by
  intro c y e
  rw[H.eF,H.tz,H.mu] at e
  by_cases q:c=h.next
  . rw[if_pos q] at e;cases e;exact .inl ⟨q,rfl⟩
  . rw[if_neg q] at e
    by_cases q2:c=b
    . rw[if_pos q2] at e;cases e
    . rw[if_neg q2] at e;exact .inr ⟨q,q2,e⟩
 have p:∀ c,c≠h.next->(ρ.add h.next r') c=ρ c:=fun c q=>if_neg q
 refine⟨?_,?_,?_,?_⟩
 . intro c y q e1 C
   rcases hg c y e1 with ⟨rfl,rfl⟩ | ⟨n1,n2,e⟩
   . rw[bS.add_same] at C;cases C;exact ho
   . rw[p c n1] at C
     exact (I.obj c y q e C).mono hle (hk _ (I.inj c b y x q r e hx C hr n2 (by rw[J];simp)))
 . intro c c' y y' q q' e1 BA C j im Ahf
   rcases hg c y e1 with ⟨rfl,rfl⟩ | ⟨n1,n2,e⟩
   . rcases hg c' y' BA with ⟨rfl,rfl⟩ | ⟨U,n2',e'⟩
     . exact absurd rfl im
     . rw[bS.add_same] at C;cases C
       rw[p c' U] at j
       rw[hb]
       exact I.inj b c' x y' r q' hx e' hr j n2'.symm (by rw[J];rfl)
   . rw[p c n1] at C
     rcases hg c' y' BA with ⟨rfl,rfl⟩ | ⟨U,n2',e'⟩
     . rw[bS.add_same] at j;cases j
       rw[hb]
       exact I.inj c b y x q r e hx C hr n2 (by rw[J];simp)
     . rw[p c' U] at j
       exact I.inj c c' y y' q q' e e' C j im Ahf
 . intro c q e
   rw[H.fM,H.tz,hs]
   by_cases qc:c=h.next
   . subst qc;rw[bS.add_same] at e;cases e
     rw[hb];omega
   . rw[p c qc] at e
     have:=I.we c q e;omega
 . intro c hc
   rw[H.fM,H.tz] at hc
   rw[H.eF,H.tz,if_neg om,H.mu]
   split
   . rfl
   . exact I.fresh c om
theorem Ext.YC {W':World} (U:aX ρ h W) (b:Nat) (x x':kJ) (r r':RI) (hx:h.get b=some x) (C:MB x=false) (hr:ρ b=some r) (hb:r'.dH=r.dH)
 (hs:W'.heap.size=W.heap.size) (hk:∀ B,B≠r.dH->W'.heap[B]?=W.heap[B]?) (h1:W'.os=W.os) (h2:W'.tape=W.tape) (h3:W'.output=W.output):Ext ρ h W (ρ.add h.next r') ((h.del b).new x') W':=by
 have j:ρ h.next=none:=by
  cases e:ρ h.next with
  | none=>rfl
  | some q=>have:=(U.we _ _ e).1;omega
 refine⟨ρ.xC h.next r' j,om,h1,h2,h3,?_,?_,by rw[H.fM,H.tz];omega,?_⟩
 . intro B _ hn;exact hk B (fun e=>hn b x r hx C hr e.symm)
 . intro c y q p e2 I _
   rw[H.eF,H.tz,H.mu] at p
   by_cases J:c=h.next
   . subst J
     rw[bS.add_same] at I;cases I
     exact⟨b,x,r,hx,C,hr,hb.symm⟩
   . rw[if_neg J] at p
     have:(ρ.add h.next r') c=ρ c:=if_neg J
     rw[this] at I
     by_cases R:c=b
     . rw[if_pos R] at p;cases p
     . rw[if_neg R] at p;exact⟨c,y,q,p,e2,I,rfl⟩
 . intro c hc;exact if_neg om
end Go.X
namespace Go.X
open Go
variable {P:Program} {E:Env}
variable {ρ:bS} {h:H} {W:World} {a c:Operand->Value} {o:Oper}
theorem lA.addr {r:RI} {o l c:Nat} {A:Addr} {C:Nat} (hs:lA r o l c A C) (hl:l≠0\/C≠0):A=⟨r.dH,r.base+o,none⟩:=by
 unfold lA at hs
 split at hs
 . rcases hs.2 with q | q
   . exact q.1
   . omega
 . exact hs.1
theorem lA.cap {r:RI} {o l c:Nat} {A:Addr} {C:Nat} (hs:lA r o l c A C):c<=C:=by
 unfold lA at hs
 split at hs
 . exact hs.1
 . omega
theorem lA.AdD {r:RI} {o l c m:Nat} {A:Addr} {C:Nat} (hs:lA r o l c A C) (hm:l+m<=c):lA r o (l+m) c A C:=by
 unfold lA at hs ⊢
 split at hs
 . rename_i q
   rw[if_pos q]
   refine⟨hs.1,?_⟩
   rcases hs.2 with k | k
   . exact .inl k
   . right;omega
 . rename_i q
   rw[if_neg q];exact hs
theorem O9 (hH:aX ρ h W) {base:Option Addr} {B:Option Addr} {l sz m cp C:Nat} {new p:List Value} {v:Value} {h':H} (hv:aK ρ (.slice base l cp) (.slice B l C)) (cq:bc ρ new p) (hlen:new.length=m * sz) (J:l+m<=cp) (hr:vW h base l sz m cp new=some (.val v h')) :
 cp<=C/\∃ W',(match B with | some A=>Go.storeCells (A.add (l * sz)) p 0 | none=>pure ()).run P W=.ok () W'/\aK ρ v (.slice B (l+m) C)/\aX ρ h' W'/\Ext ρ h W ρ h' W':=by
 cases hv with
 | snil=>cases hr;exact⟨Nat.le_refl _,W,rfl,.snil _ _,hH,Ext.refl _ _ _⟩
 | slice b of _ _ A _ r U hsr =>
  refine⟨hsr.cap,?_⟩
  have j:Bool.rec (motive:=fun _=>Option R) ((storeCells h (nE ⟨b,of,none⟩ (l * sz)) new).bind fun h=>some (.val (.slice (some ⟨b,of,none⟩) (l+m) cp) h)) (some (.val (.slice (some ⟨b,of,none⟩) (l+m) cp) h)) (Nat.beq (m * sz) 0)=some (.val v h'):=hr
  have I:aK ρ (.slice (some ⟨b,of,none⟩) (l+m) cp) (.slice (some A) (l+m) C):=.slice _ _ _ _ _ _ _ U (hsr.AdD J)
  rw[ax] at j
  by_cases hz:m * sz=0
  . simp only[hz,decide_true] at j
    cases j
    have hN:p=[]:=List.eq_nil_of_length_eq_zero (by rw[<-cq.length,hlen,hz])
    subst hN
    exact⟨W,zF _ _ _,I,hH,Ext.refl _ _ _⟩
  . simp only[hz,decide_false] at j
    obtain⟨h2,hh2,hv⟩:=bind_some j
    cases hv
    have hm:m≠0:=fun q=>hz (by rw[q];simp)
    have hA:=hsr.addr (by right;have:=hsr.cap;omega)
    subst hA
    obtain⟨W',k1,k2,k3⟩:=hH.store (P:=P) U hh2 cq
    refine⟨W',?_,I,k2,k3⟩
    show (Go.storeCells (Addr.add ⟨r.dH,r.base+of,none⟩ (l * sz)) p 0).run P W=_
    rw[mb,Nat.add_assoc];exact k1
theorem A9 {ats:Array TypeId} {ty st elem:TypeId} {S X:Value} {sz l m C:Nat} {B:Option Addr} {R:List Value} {W':World} (p:ats[0]?=some st) (hU:P.underlying st=some (.slice elem)) (I:(sizeOf elem).run P W=.ok sz W)
 (VD:∀ t,ats[1]?=some t->∃ d,P.underlying t=some d/\ku d=false) (hS:S=.slice B l C) (hl:(Builtin.lenOf X).run P W=.ok m W) (hf:(Builtin.firstCells sz m X).run P W=.ok R.toArray W) (j:l+m<=C)
 (U:(match B with | some A=>Go.storeCells (A.add (l * sz)) R 0 | none=>pure ()).run P W=.ok () W') :
 (Builtin.append_ ats ty #[S,X]).run P W=.ok (.slice B (l+m) C) W':=by
 subst hS
 have hx:(∃ t d,ats[1]?=some t/\P.underlying t=some d/\ku d=false)\/ats[1]?=none:=by
  cases hx:ats[1]? with
  | none=>exact .inr rfl
  | some t=>obtain⟨d,hd,hi⟩:=VD t hx;exact .inl ⟨t,d,rfl,hd,hi⟩
 have J:∀ A,B=some A->(Go.storeCells (A.add (l * sz)) R 0).run P W=.ok () W':=by
  intro A e;subst e;exact U
 have hWn:B=none->W'=W:=by
  intro e;subst e;simp[Sem.run_pure] at U;exact U.symm
 rcases hx with ⟨t,d,hx,hd,hi⟩ | hx
 . cases d <;> first | (cases hi;done) | skip
   all_goals
    cases B with
    | none=>simp[Builtin.append_,p,hx,aB hU,aB hd,I,hl,hf,j,hWn rfl]
    | some A=>simp[Builtin.append_,p,hx,aB hU,aB hd,I,hl,hf,j,J A rfl]
 . cases B with
   | none=>simp[Builtin.append_,p,hx,aB hU,I,hl,hf,j,hWn rfl]
   | some A=>simp[Builtin.append_,p,hx,aB hU,I,hl,hf,j,J A rfl]
theorem zG {ats:Array TypeId} {ty st elem:TypeId} {S X:Value} {sz l m C:Nat} {B:Option Addr} {OLD I:List Value} {j:TypeInfo} {z:Value} (J:ats[0]?=some st) (hU:P.underlying st=some (.slice elem)) (hj:P.info? elem=some j) (R:j.size=sz) (hz:j.zero=some z)
 (U:∀ t,ats[1]?=some t->∃ d,P.underlying t=some d/\ku d=false) (hS:S=.slice B l C) (hl:(Builtin.lenOf X).run P W=.ok m W) (ho:(Builtin.firstCells sz l S).run P W.drew=.ok OLD.toArray W.drew) (hf:(Builtin.firstCells sz m X).run P W.drew=.ok I.toArray W.drew) (p:¬ l+m<=C)
 (h63:l+m<=70368744177664) (TY:Builtin.nextslicecap (l+m) C * j.bytes<=281474976710656) :
 (Builtin.append_ ats ty #[S,X]).run P W=.ok (.slice (some ⟨W.heap.size,0,none⟩) (l+m) (grownCap W (l+m) C elem)) (W.drew.alloc (.cells (OLD.toArray++I.toArray++Builtin.zeroCells z.cells (grownCap W (l+m) C elem-(l+m))) elem)):=by
 subst hS
 subst R
 have hx:(∃ t d,ats[1]?=some t/\P.underlying t=some d/\ku d=false)\/ats[1]?=none:=by
  cases hx:ats[1]? with
  | none=>exact .inr rfl
  | some t=>obtain⟨d,hd,hi⟩:=U t hx;exact .inl ⟨t,d,rfl,hd,hi⟩
 have n1:¬ (9223372036854775807<((l:Int)+(m:Int))):=om
 have n2:¬ (281474976710656<Builtin.nextslicecap (l+m) C * j.bytes):=om
 rcases hx with ⟨t,d,hx,hd,hi⟩ | hx
 . cases d <;> first | (cases hi;done) | skip
   all_goals
    simp[Builtin.append_,J,hx,aB hU,aB hd,sizeOf,typeInfo,zeroValue,hj,hz,hl,ho,hf,p,n1,n2,Question.forced,Go.newRow,grownCap]
    congr 2
    apply Array.ext'
    simp[List.append_assoc]
 . simp[Builtin.append_,J,hx,aB hU,sizeOf,typeInfo,zeroValue,hj,hz,hl,ho,hf,p,n1,n2,Question.forced,Go.newRow,grownCap]
   congr 2
   apply Array.ext'
   simp[List.append_assoc]
theorem C8 {b of cp:Nat} {r:RI} {o:Bool} (p:aX ρ h W) (hr:ρ b=some r) (C:oh h (some ⟨b,of,none⟩) cp=some o):∃ x,h.row b=some x/\x.osz=r.osz/\x.cs.length=r.n/\o=decide (r.osz≠0/\of+cp * r.osz=r.n):=by
 obtain⟨x,hx,he⟩:=map_some C
 obtain⟨_,_,_,_,hn,⟨j,_⟩,_⟩:=p.obj b _ r (H.pS hx) hr
 refine⟨x,hx,j.symm,hn.symm,?_⟩
 rw[<-he,ax,ax,br,<-hn,<-j]
 show (!decide (r.osz=0)&&decide (of+cp * r.osz=r.n))=_
 by_cases q:r.osz=0 <;> simp[q]
theorem Vf (hE:bj P E) (hH:aX ρ h W) {elem:TypeId} {b of l sz m cp C:Nat} {A:Addr} {r:RI} {cK new OLD p:List Value} {h2:H} {o:Bool} (J:ρ b=some r) (hsr:lA r of l cp A C)
 (hold:cV h sz l (.slice (some ⟨b,of,none⟩) l cp)=some cK) (ho:oh h (some ⟨b,of,none⟩) cp=some o) (hc:Mp h elem sz (some ⟨b,of,none⟩) new o=some h2) (cq:bc ρ new p) (hlen:new.length=m * sz) (AhX:¬ l+m<=cp) (tH:sz≠0) (R:l+m<=C) :
 ∃ r' W',(Go.storeCells (A.add (l * sz)) p 0).run P W=.ok () W'/\aK (ρ.add h.next r') (.slice (some ⟨h2.next,0,none⟩) (l+m) (l+m)) (.slice (some A) (l+m) C)/\aX (ρ.add h.next r') (newRow h2 elem (cW cK new) sz) W'/\Ext ρ h W (ρ.add h.next r') (newRow h2 elem (cW cK new) sz) W':=by
 obtain⟨x,hx,hxo,hxn,hoe⟩:=C8 hH J ho
 have hcC:cp<C:=om
 have I:r.osz≠0/\of+cp * r.osz=r.n:=by
  unfold lA at hsr
  split at hsr
  . assumption
  . omega
 have hA:=hsr.addr (.inr om)
 have hbound:r.base+of+C * r.osz<=r.S:=by
  unfold lA at hsr
  rw[if_pos I] at hsr
  rcases hsr.2 with q | q
  . exact q.2
  . omega
 have ho':o=true:=by rw[hoe];simp[I]
 subst ho'
 obtain⟨x',hx',hc⟩:=bind_some hc
 have Sf:h.row b=some x':=hx'
 rw[hx] at Sf;cases Sf
 obtain⟨U,hc⟩:=jI hc
 cases hc
 simp only[ax,Bool.and_eq_true,Bool.not_eq_true',decide_eq_true_eq] at U
 obtain⟨⟨⟨⟨PK,Afn⟩,AaM⟩,Afo⟩,AdE⟩:=U
 have Gx:=H.pS hx
 have AdB:=hH.obj b _ r Gx J
 obtain⟨D,F,k1,k2,k3,k4,k5,k6,k7⟩:=AdB
 have AdA:=H7 new AdE
 have AdC:∀ V ∈ p,bX V=true:=by
  intro V hV
  obtain⟨i,hi⟩:=List.getElem?_of_mem hV
  have oz:i<new.length:=by
   rcases Nat.lt_or_ge i p.length with q | q
   . rw[cq.length];exact q
   . rw[List.getElem?_eq_none q] at hi;cases hi
  obtain⟨V',e',FP⟩:=cq.get i _ (List.getElem?_eq_getElem oz)
  rw[hi] at e';cases e'
  exact FP.bX (AdA _ (List.getElem_mem oz))
 have Afm:r.osz=sz:=by rw[<-hxo];exact AaM
 rw[Afm] at hbound I
 have hCl:(l+m) * sz<=C * sz:=Nat.mul_le_mul_right _ R
 rw[Nat.add_mul] at hCl
 have hN:p.length=m * sz:=by rw[<-cq.length,hlen]
 obtain⟨W',D',QP,⟨s1,s2,s3,s4,s5,s6,s7⟩,Ahg,QQ⟩:=zC (P:=P) r.dH x.elem F (r.base+(of+l * sz)) p 0 W D k1 (by rw[k2];omega) (fun j q1 q2=>k7.1 PK j (by rw[Afn];omega) om) AdC
 -- DB cK cells
 have hvv:aK ρ (.slice (some ⟨b,of,none⟩) l cp) (.slice (some A) l C):=.slice _ _ _ _ _ _ _ J hsr
 have AaO:cK.length=l * sz/\∀ (i:Nat) (v:Value),cK[i]?=some v->x.cs[of+i]?=some v:=by
  have O6:(bif Nat.beq (l * sz) 0 then some [] else loadCells h ⟨b,of,none⟩ (l * sz))=some cK:=hold
  rw[ax] at O6
  by_cases hz:l * sz=0
  . simp only[hz,decide_true,cond_true] at O6
    cases O6
    exact⟨by simp[hz],fun i v e=>by simp at e⟩
  . simp only[hz,decide_false,cond_false] at O6
    obtain⟨y,hy,ht⟩:=bind_some O6
    have hy2:h.row b=some y:=hy
    rw[hx] at hy2;cases hy2
    obtain⟨t1,t2⟩:=CY _ _ _ ht
    rw[qg] at t1 t2
    have hof:(⟨b,of,none⟩:Addr).off=of:=rfl
    rw[hof] at t1 t2
    refine⟨by rw[t1,List.length_take];omega,fun i v e=>?_⟩
    rw[t1,List.getElem?_take] at e
    split at e
    . rw[List.getElem?_drop] at e;exact e
    . cases e
 obtain⟨hol,hog⟩:=AaO
 have IQ:cW cK new=cK++new:=dF _ _
 have Afp:(cW cK new).length=(l+m) * sz:=by rw[IQ,List.length_append,hol,hlen,Nat.add_mul]
 let r':RI:=⟨r.dH,r.base+of,(cW cK new).length,sz,r.S⟩
 have YD:ρ h.next=none:=by
  cases e:ρ h.next with
  | none=>rfl
  | some q=>have:=(hH.we _ _ e).1;omega
 have hle:=ρ.xC h.next r' YD
 have Afq:CZ (ρ.add h.next r') r' W' (.row ⟨cW cK new,elem,sz,0,false⟩):=by
  refine⟨D',F,?_,by rw[Ahg];exact k2,rfl,⟨rfl,fun q=>absurd q tH⟩,?_,?_,?_⟩
  . rw[<-Afo];exact s2
  . show r.base+of+(cW cK new).length<=r.S
    rw[Afp,Nat.add_mul];omega
  . intro i v e
    have e2:(cW cK new)[i]?=some v:=e
    rw[IQ] at e2
    show ∃ V,D'[r.base+of+i]?=some V/\_
    rw[QQ]
    by_cases q:i<cK.length
    . rw[List.getElem?_append_left q] at e2
      rw[if_neg om]
      obtain⟨V,hV,IS⟩:=k6 _ _ (hog i v e2)
      exact⟨V,by rw[Nat.add_assoc];exact hV,IS.mono hle⟩
    . rw[List.getElem?_append_right om] at e2
      obtain⟨V,hV,IS⟩:=cq.get _ _ e2
      have oz:i-cK.length<p.length:=by
       rcases Nat.lt_or_ge (i-cK.length) p.length with g | g
       . exact g
       . rw[List.getElem?_eq_none g] at hV;cases hV
      rw[if_pos om]
      refine⟨V,?_,IS.mono hle⟩
      rw[<-hV];congr 1;omega
  . refine⟨fun _ j q1 q2=>k7.1 PK j (by rw[Afn];simp only[r'] at q1;omega) (by rw[AaM];exact q2),fun _ q=>absurd q tH⟩
 refine⟨r',W',?_,?_,?_,?_⟩
 . rw[hA,mb,Nat.add_assoc];exact QP
 . have hn:(h.del b).next=h.next:=rfl
   refine .slice _ _ _ _ _ _ r' (bS.add_same _ _ _) ?_
   unfold lA
   rw[if_pos ⟨tH,by show 0+(l+m) * sz=(cW cK new).length;omega⟩]
   refine⟨R,.inl ⟨by rw[hA];rfl,?_⟩⟩
   show r.base+of+0+C * sz<=r.S
   omega
 . exact aX.YC hH b _ _ r r' Gx (by show x.ro=false;exact PK) rfl J rfl s3 s4 Afq
 . exact Ext.YC hH b _ _ r r' Gx (by show x.ro=false;exact PK) J rfl s3 s4 s5 s6 s7
theorem QS (hE:bj P E) (hH:aX ρ h W) {elem:TypeId} {base:Option Addr} {B:Option Addr} {l sz m cp C:Nat} {cK new OLD j:List Value} {h2:H} {o:Bool} {z:List Value} {I:Value} (hold:bc ρ cK OLD) (R:cK.length=l * sz)
 (hc:Mp h elem sz base new o=some h2) (cq:bc ρ new j) (hlen:new.length=m * sz) (tH:sz≠0) (hz:I.cells.size=sz) {G:Nat} (hG:l+m<=G) :
 ∃ bY,aK bY (.slice (some ⟨h2.next,0,none⟩) (l+m) (l+m)) (.slice (some ⟨W.heap.size,0,none⟩) (l+m) G)/\aX bY (newRow h2 elem (cW cK new) sz) (W.drew.alloc (.cells (OLD.toArray++j.toArray++Builtin.zeroCells I.cells (G-(l+m))) elem))
  ∧ Ext ρ h W bY (newRow h2 elem (cW cK new) sz) (W.drew.alloc (.cells (OLD.toArray++j.toArray++Builtin.zeroCells I.cells (G-(l+m))) elem)):=by
 have U:aX ρ h2 W/\Ext ρ h W ρ h2 W:=by
  cases o with
  | false=>cases hc;exact⟨hH,Ext.refl _ _ _⟩
  | true =>
   cases base with
   | none=>cases hc
   | some ad =>
    obtain⟨x',hx',hc⟩:=bind_some hc
    obtain⟨_,hc⟩:=jI hc
    cases hc
    exact⟨hH.del _,Ext.del hH _⟩
 obtain⟨hH2,hX2⟩:=U
 have PQ:aX ρ h2 W.drew:=hH2.drew rfl
 have QT:Ext ρ h2 W ρ h2 W.drew:=Ext.drew rfl rfl rfl rfl
 have IQ:cW cK new=cK++new:=dF _ _
 have J:(cW cK new).length=(l+m) * sz:=by rw[IQ,List.length_append,R,hlen,Nat.add_mul]
 have hzs:(Builtin.zeroCells I.cells (G-(l+m))).size=(G-(l+m)) * sz:=by simp[Builtin.zeroCells,hz]
 have p:(OLD.toArray++j.toArray++Builtin.zeroCells I.cells (G-(l+m))).size=G * sz:=by
  rw[Array.size_append,Array.size_append,hzs,List.size_toArray,List.size_toArray,<-hold.length,<-cq.length,R,hlen,<-Nat.add_mul,<-Nat.add_mul]
  congr 1;omega
 have Ahh:(l+m) * sz<=G * sz:=Nat.mul_le_mul_right _ hG
 have FP:bc ρ (cK++new) (OLD++j):=hold.append cq
 obtain⟨k1,k2⟩:=rT (e:=elem) (osz:=sz) (c:=cW cK new) (C:=OLD.toArray++j.toArray++Builtin.zeroCells I.cells (G-(l+m))) (W':=W.drew.alloc (.cells (OLD.toArray++j.toArray++Builtin.zeroCells I.cells (G-(l+m))) elem)) PQ (by rw[p,J];exact Ahh) (by
  intro i v e
  rw[IQ] at e
  obtain⟨V,hV,IS⟩:=FP.get i v e
  refine⟨V,?_,IS⟩
  have oz:i<(OLD++j).length:=by
   rcases Nat.lt_or_ge i (OLD++j).length with g | g
   . exact g
   . rw[List.getElem?_eq_none g] at hV;cases hV
  rw[Array.getElem?_append_left (sp oz)]
  simpa using hV) (noF _) rfl rfl rfl rfl
 refine⟨_,?_,k1,hX2.trans (QT.trans k2)⟩
 refine .slice _ _ _ _ _ _ _ (bS.add_same _ _ _) ?_
 unfold lA
 rw[if_pos ⟨tH,by show 0+(l+m) * sz=(cW cK new).length;omega⟩]
 refine⟨hG,.inl ⟨rfl,?_⟩⟩
 show 0+0+G * sz<=(OLD.toArray++j.toArray++Builtin.zeroCells I.cells (G-(l+m))).size
 rw[p];omega
theorem MF (hE:bj P E) (hH:aX ρ h W) (ats:Array TypeId) (ty st:TypeId) (O_:gN ats.toList 0=some st) {s x S X:Value} (hs:aK ρ s S) (hx:aK ρ x X) {v:Value} {h':H} (hr:append E h st (gN ats.toList 1) s x=some (.val v h')) :
 ∃ bY W' V,(Builtin.append_ ats ty #[S,X]).run P W=.ok V W'/\aK bY v V/\aX bY h' W'/\Ext ρ h W bY h' W':=by
 rw[fD,Array.getElem?_toList] at O_
 rw[fD,Array.getElem?_toList] at hr
 obtain⟨u,hu,hr⟩:=bind_some hr
 have hU:=hE.dk hu
 split at hr
 . rename_i elem base l cp hcp
   obtain⟨sz,tH,hr1⟩:=bind_some hr
   obtain⟨zs,hzs,GB⟩:=bind_some hr1
   clear hr hr1 hcp
   cases zs with
   | true=>cases GB
   | false =>
    have IR:((lenOf x).bind fun m=>(cV h sz m x).bind fun new =>
     Bool.rec (motive:=fun _=>Option R) (X9 E h elem base l sz m cp (.slice base l cp) new) (vW h base l sz m cp new) (Nat.ble (l+m) cp))=some (.val v h'):=GB
    clear GB
    obtain⟨m,hm,Zm⟩:=bind_some IR
    obtain⟨new,hnw,J⟩:=bind_some Zm
    clear IR Zm
    have VD:∀ t,ats[1]?=some t->∃ d,P.underlying t=some d/\ku d=false:=by
     intro t ht
     rw[ht] at hzs
     obtain⟨d,hd,hi⟩:=map_some hzs
     exact⟨d,hE.dk hd,hi⟩
    have hl:=zE (P:=P) hm hx W
    obtain⟨NEW,hfn,cq,hlen⟩:=na (P:=P) hH hx hm (Nat.le_refl m) hnw
    obtain⟨BB,CC,hS⟩:∃ B C,S=.slice B l C:=by
     rcases Ag (x:=.slice base l cp) (L:=l) rfl hs with ⟨B,C,e⟩ | ⟨s',e,_⟩
     . exact⟨B,C,e⟩
     . subst e;cases hs
    subst hS
    rw[aP] at J
    by_cases p:l+m<=cp
    . simp only[p,decide_true] at J
      obtain⟨hcC,W',hW',k1,k2,k3⟩:=O9 (P:=P) hH hs cq hlen p J
      exact⟨ρ,W',_,A9 O_ hU (hE.size tH W) VD rfl hl hfn om hW',k1,k2,k3⟩
    . simp only[p,decide_false] at J
      obtain⟨i,hi,hr6⟩:=bind_some J
      obtain⟨z,hz,hr7⟩:=bind_some hr6
      obtain⟨U,hr8⟩:=jI hr7
      obtain⟨cK,hold,hr9⟩:=bind_some hr8
      obtain⟨oo,ho,Afr⟩:=bind_some hr9
      obtain⟨h2,hc,Ahi⟩:=bind_some Afr
      cases Ahi
      clear J hr6 hr7 hr8 hr9 Afr
      simp only[ax,aP,br,Bool.and_eq_true,Bool.not_eq_true',decide_eq_true_eq,decide_eq_false_iff_not] at U
      obtain⟨⟨⟨TY,h63⟩,hzl⟩,O'⟩:=U
      obtain⟨i',j,zv,vt,hj,YA,Vc,QR,Zl,Vd⟩:=hE.KK hz
      rw[hi] at vt;cases vt
      have YE:i.size=sz:=by
       obtain⟨i2,ZB,O6⟩:=bind_some tH
       rw[show E.types.get elem=some i from hi] at ZB;cases ZB;cases O6;rfl
      by_cases I:l+m<=CC
      . cases hs with
        | snil=>exact absurd I p
        | slice b of _ _ A _ r Te hsr =>
         obtain⟨r',W',k0,k1,k2,k3⟩:=Vf (P:=P) (OLD:=[]) hE hH Te hsr hold ho hc cq hlen p O' I
         exact⟨_,W',_,A9 O_ hU (hE.size tH W) VD rfl hl hfn I k0,k1,k2,k3⟩
      . have PQ:aX ρ h W.drew:=hH.drew rfl
        obtain⟨OLD,hfo,PK,hlo⟩:=na (P:=P) PQ hs (L:=l) rfl (Nat.le_refl l) hold
        obtain⟨AhY,AdF,YF,_⟩:=na (P:=P) PQ hx hm (Nat.le_refl m) hnw
        have hzz:zv.cells.size=sz:=by rw[<-hzl,<-Zl,Array.length_toList]
        have hns:Builtin.nextslicecap (l+m) CC * j.bytes<=281474976710656:=by
         have h1:Builtin.nextslicecap (l+m) CC * j.bytes<=2 * (l+m) * j.bytes:=Nat.mul_le_mul_right _ (nextslicecap_le om)
         have h2:2 * (l+m) * j.bytes<=(l+m+64) * 4 * j.bytes:=Nat.mul_le_mul_right _ om
         rw[Vc] at *
         omega
        obtain⟨bY,k1,k2,k3⟩:=QS (P:=P) (B:=none) (C:=0) (cp:=cp) (z:=z) (G:=grownCap W (l+m) CC elem) hE hH PK hlo hc YF hlen O' hzz (grownCap_ge _ _ _ _)
        exact⟨bY,_,_,zG O_ hU hj (YA.trans YE) QR VD rfl hl hfo AdF I h63 hns,k1,k2,k3⟩
 . cases hr
end Go.X
namespace Go.X
open Go
variable {P:Program} {E:Env}
variable {ρ:bS} {h:H} {W:World} {a c:Operand->Value} {o:Oper}
theorem C9 (W:World) (e:TypeId) (s:ByteArray):∃ D:Array Value,D=s.data.map (fun b=>Value.int .u8 b.toNat)++Array.replicate (grownCap W s.size 0 e-s.size) (.int .u8 0) ∧
 (Conv.stringToBytes e s).run P W=.ok (.slice (some ⟨W.heap.size,0,none⟩) s.size (grownCap W s.size 0 e)) { W.drew with heap:=W.heap.push (.cells D e (D.size,D.size+1)) }:=by
 refine⟨_,rfl,?_⟩
 unfold Conv.stringToBytes
 simp only[Sem.run_bind,run_choose_drew,Question.forced,Bool.false_eq_true,if_false,Result.andThen_ok,xE]
 unfold markStringish
 simp only[Sem.run_bind,shape,freeze,Sem.run,World.shape?,World.drew,Array.getElem?_push_size,Result.andThen_ok,World.freeze]
 simp[grownCap]
 apply Array.ext
 . simp
 . intro i j h2
   simp[Array.getElem_modify,Array.getElem_push]
   split
   . simp_all
   . have:i<W.heap.size:=by
      have q:i<W.heap.size+1:=sp j
      omega
     simp[this]
theorem Ej (hE:bj P E) (U:aX ρ h W) (s d:TypeId) (x:Operand) (ho:o.op=.convert s d x) (hx:aK ρ (a x) (c x)) {v:Value} {h':H} (hr:pn E h a s d x=some (.val v h')):mc P ρ h W v h' (execOp c o):=by
 obtain⟨us,hus,hr⟩:=bind_some hr
 obtain⟨ud,hud,hr⟩:=bind_some hr
 have hS:=hE.dk hus
 have hD:=hE.dk hud
 have fin:∀ V W',(convert s d (c x)).run P W=.ok V W'->(execOp c o).run P W=.ok (.value V) W':=by
  intro V W' e
  simp only[execOp,ho,Sem.run_bind,e,Result.andThen_ok,Sem.run_pure]
 revert hx hr fin
 generalize a x=p
 generalize c x=q
 intro hx hr fin
 split at hr
 . rename_i k k2 n
   cases hr
   have:=hx.ee
   subst this
   refine .pure U (fin (.int k (k.wrap n)) W ?_) (by rw[cU];exact .int _ _)
   simp[convert,aB hS,aB hD,Conv.intToInt,Sem.run_pure]
 . rename_i b
   cases hr
   have:=hx.C5
   subst this
   refine .pure U (fin (.string b) W ?_) (.string _)
   simp[convert,aB hS,aB hD,Sem.run_pure]
 . rename_i e b
   obtain⟨ue,hue,J⟩:=bind_some hr
   have hU:=hE.dk hue
   split at J
   . cases J
     have:=hx.C5
     subst this
     obtain⟨D,hDD,QP⟩:=C9 (P:=P) W e b
     have TA:(eN b.data.toList).length=b.size:=by rw[qf,List.length_map,Array.length_toList];rfl
     have Afs:=grownCap_ge W b.size 0 e
     have hDs:D.size=grownCap W b.size 0 e:=by
      rw[hDD,Array.size_append,Array.size_map,Array.size_replicate]
      have:b.data.size=b.size:=rfl
      omega
     obtain⟨k1,k2⟩:=rT (e:=e) (osz:=1) (c:=eN b.data.toList) (C:=D) (F:=(D.size,D.size+1)) (W':={ W.drew with heap:=W.heap.push (.cells D e (D.size,D.size+1)) }) U (by rw[TA,hDs];exact Afs) (by
      intro i v hv
      refine⟨v,?_,?_⟩
      . rw[qf,List.getElem?_map,Array.getElem?_toList] at hv
        rw[hDD,Array.getElem?_append_left ?_,Array.getElem?_map]
        . exact hv
        . rw[Array.size_map]
          rcases Nat.lt_or_ge i b.data.size with g | g
          . exact g
          . rw[Array.getElem?_eq_none g] at hv;cases hv
      . rw[qf,List.getElem?_map] at hv
        obtain⟨b',_,rfl⟩:=Option.map_eq_some_iff.1 hv
        exact .int _ _) ⟨by intro j hj q;have:=q.1;simp only at this;simp at hj ⊢;omega,fun q=>by cases q⟩ rfl rfl rfl rfl
     refine⟨_,_,.slice (some ⟨W.heap.size,0,none⟩) b.size (grownCap W b.size 0 e),.value _,fin _ _ ?_,.inl rfl,?_,k1,k2⟩
     . simp only[convert,Sem.run_bind,aB hS,aB hD,aB hU,Result.andThen_ok]
       cases us <;> exact QP
     . have hl:len b.data.toList=b.size:=by rw[br,Array.length_toList];rfl
       rw[hl]
       refine .slice _ _ _ _ _ _ _ (bS.add_same _ _ _) ?_
       unfold lA
       rw[if_pos ⟨Nat.one_ne_zero,by show 0+b.size * 1=(eN b.data.toList).length;rw[TA];omega⟩]
       exact⟨Afs,.inl ⟨rfl,by show 0+0+_ * 1<=D.size;rw[hDs];omega⟩⟩
   . cases J
 . rename_i base n cp
   split at hr
   . rename_i e
     obtain⟨ue,hue,J⟩:=bind_some hr
     have hU:=hE.dk hue
     split at J
     . obtain⟨cs,IQ,GB⟩:=bind_some J
       obtain⟨bs,ZA,IR⟩:=bind_some GB
       cases IR
       obtain⟨R,hf,FP,hlen⟩:=na (P:=P) U hx (L:=n) rfl (Nat.le_refl n) IQ
       have Aft:∀ (cs R:List Value) (bs:List UInt8),bytesOf cs=some bs->bc ρ cs R->∃ ns:List Int,R=ns.map (Value.int .u8)/\bs=ns.map fun n=>UInt8.ofNat n.toNat:=by
        intro cs
        induction cs with
        | nil=>intro R bs h1 h2;cases h1;cases h2;exact⟨[],rfl,rfl⟩
        | cons v cs ih =>
         intro R bs h1 h2
         cases h2 with
         | cons _ V _ L hv hl =>
          obtain⟨b,hb,h1⟩:=bind_some h1
          have h1':Option.rec (motive:=fun _=>Option (List UInt8)) none (fun r=>some (b :: r)) (bytesOf cs)=some bs:=h1
          cases hq:bytesOf cs with
          | none=>rw[hq] at h1';cases h1'
          | some r =>
           rw[hq] at h1';cases h1'
           obtain⟨ns,hn1,hn2⟩:=ih L r hq hl
           unfold byteOf at hb
           split at hb
           . rename_i m
             cases hb
             have:=hv.ee
             subst this
             exact⟨m :: ns,by rw[hn1];rfl,by rw[hn2];rfl⟩
           . cases hb
       obtain⟨ns,hn1,hn2⟩:=Aft cs R bs ZA FP
       have Afu:∀ (ns:List Int) (s:ByteArray),(ns.foldl (fun r n=>r.push (UInt8.ofNat n.toNat)) s)=⟨⟨s.data.toList++ns.map fun n=>UInt8.ofNat n.toNat⟩⟩:=by
        intro ns
        induction ns with
        | nil=>intro s;simp
        | cons m ns ih=>intro s;rw[List.foldl_cons,ih];simp[ByteArray.push]
       obtain⟨BB,CC,hS'⟩:∃ B C,q=.slice B n C:=by
        rcases Ag (x:=.slice base n cp) (L:=n) rfl hx with ⟨B,C,e⟩ | ⟨s',e,_⟩
        . exact⟨B,C,e⟩
        . subst e;cases hx
       subst hS'
       refine .pure U (fin (.string ⟨⟨bs⟩⟩) W ?_) (.string _)
       rw[run_convert_bytes_string W s d _ BB n CC hS hU hD]
       cases BB with
       | none =>
        have hN:R.toArray=#[]:=by
         simp only[Builtin.firstCells,Sem.run_pure] at hf
         cases hf;rfl
        have:ns=[]:=by
         cases ns with
         | nil=>rfl
         | cons _ _=>rw[hn1] at hN;simp at hN
        subst this
        rw[hn2]
        rfl
       | some A =>
        have hf':(Go.loadCells A n).run P W=.ok (ns.map (Value.int .u8)).toArray W:=by
         simp only[Builtin.firstCells,Nat.mul_one] at hf
         rw[hf,hn1]
        rw[run_bytesToString W A n CC ns hf',Afu,hn2]
        rfl
     . cases J
   . cases hr
 . rename_i p1
   obtain⟨u1,I,hv1⟩:=map_some hr
   cases hv1
   unfold DS at I
   split at I
   . cases I;cases hx
     exact .pure U (fin (.pointer none) W (by simp[convert,aB hS,aB hD,Conv.unsafePointer,Sem.run_pure])) .Lz
   . rename_i t1 a1
     obtain⟨sz,tH,I⟩:=bind_some I
     obtain⟨xr,hxr,I⟩:=bind_some I
     obtain⟨hc,I⟩:=bx I
     cases I
     cases hx with
     | ptr b1 o1 r1 J =>
      rw[Bool.and_eq_true] at hc
      obtain⟨c1,c2⟩:=hc
      rw[dx,decide_eq_true_eq] at c1 c2
      rw[br] at c2
      obtain⟨C,F,k1,k2,k3,k4,k5,k6,_⟩:=U.obj _ _ r1 (H.pS hxr) J
      have hz:sz≠0:=om
      refine .pure U (fin (.pointer (some ⟨r1.dH,r1.base+o1,none⟩)) W ?_) (.ptr _ _ _ J)
      have oz:¬ C.size<=r1.base+o1:=by show ¬ _;simp only at c2;omega
      have hsh:W.shape? r1.dH=some (xr.elem,C.size):=by simp[World.shape?,k1]
      simp[convert,aB hS,aB hD,Conv.unsafePointer,Conv.seenAt,viewAt,cellsIn,shape,Sem.run_pure,hE.size tH,hz,hsh,oz,Sem.run]
   . cases I
 . rename_i u2 p1
   obtain⟨u1,I,hv1⟩:=map_some hr
   cases hv1
   unfold J9 at I
   split at I
   . cases I;cases hx
     exact .pure U (fin (.pointer none) W (by simp[convert,aB hS,aB hD,Conv.unsafePointer,Sem.run_pure])) .Lz
   . rename_i a1
     obtain⟨sz,tH,I⟩:=bind_some I
     obtain⟨xr,hxr,I⟩:=bind_some I
     obtain⟨hc,I⟩:=bx I
     cases I
     cases hx with
     | ptr b1 o1 r1 J =>
      simp only[Bool.and_eq_true,dx,ax,aP,decide_eq_true_eq,br] at hc
      obtain⟨⟨⟨⟨c1,c2⟩,c3⟩,c4⟩,c5⟩:=hc
      obtain⟨C,F,k1,k2,k3,k4,k5,k6,_⟩:=U.obj _ _ r1 (H.pS hxr) J
      have hz:sz≠0:=om
      have gz:r1.base=0:=k4.2 c2
      refine .pure U (fin (.pointer (some ⟨r1.dH,r1.base+o1,none⟩)) W ?_) (.ptr _ _ _ J)
      have hco:P.cellsOf u2=sz:=by
       obtain⟨i,hi,hd⟩:=bind_some tH
       cases hd
       obtain⟨j,hj,hs,_⟩:=hE.dO u2 i hi
       unfold Program.cellsOf
       rw[hj];exact hs
      have hl:liesAt P P.depth u2 (C.size / P.cellsOf u2) (r1.base+o1) u2 1=true:=by
       have hd:P.depth=(2 * (P.types.size+Made.depth)+1)+1:=rfl
       rw[hd]
       simp only[liesAt,Bool.or_eq_true]
       left
       rw[hd]
       have hm:(r1.base+o1) % sz=0:=by rw[gz,Nat.zero_add];exact c4
       have hq:(r1.base+o1) / sz+1<=C.size / sz:=by
        rw[Nat.le_div_iff_mul_le om]
        have:=Nat.div_add_mod (r1.base+o1) sz
        rw[hm] at this
        have e1:((r1.base+o1) / sz+1) * sz=sz * ((r1.base+o1) / sz)+sz:=by rw[Nat.add_mul,Nat.mul_comm];simp
        omega
       simp[rowAt,hco,hz,hm,hq,sameLayout]
      subst c3
      have hsh:W.shape? r1.dH=some (xr.elem,C.size):=by simp[World.shape?,k1]
      simp[convert,aB hS,aB hD,Conv.unsafePointer,Conv.seenAt,viewAt,shape,Sem.run_pure,hE.size tH,hz,hsh,Sem.run,variablesAt,hl]
   . cases I
 . cases hr
end Go.X
namespace Go.X
open Go
variable {P:Program} {E:Env}
theorem Fi (p:bj P E) {ρ:bS} {C:TypeId} {k K:Value} (h:X_ E C k=some ()) (hk:aK ρ k K) (em:Bool) (n:Nat) (W:World):(Instr.checkKey em (n+2) C K).run P W=.ok () W/\∃ fs,P.underlying C=some (.struct fs):=by
 obtain⟨u,hu,h⟩:=bind_some h
 have I:=p.dk hu
 split at h
 . rename_i fs cs _
   obtain⟨hf,_⟩:=bx h
   refine⟨?_,fs,I⟩
   cases hk with
   | agg _ CS J =>
    rw[show n+2=(n+1)+1 from rfl,Instr.checkKey]
    simp only[Sem.run_bind,aB I,Result.andThen_ok]
    rw[<-Array.forIn_toList]
    clear I hu h
    generalize fs.toList=L at hf
    induction L with
    | nil=>simp
    | cons f L R =>
     have j:(match E.under f.type,part E f.type cs.toList f.offset with | some d,some _=>AbC d&&Aff E cs.toList L | _,_=>false)=true:=hf
     split at j
     . rename_i d w hd hw
       rw[Bool.and_eq_true] at j
       obtain⟨V,U,_⟩:=tB p hw J W
       have hc:(Instr.checkKey em (n+1) f.type V).run P W=.ok () W:=by
        have hD:=p.dk hd
        cases d <;> first | (exact absurd j.1 Bool.false_ne_true) | (rw[Instr.checkKey];simp only[Sem.run_bind,aB hD,Result.andThen_ok];rfl)
       rw[List.forIn_cons]
       by_cases hn:f.name="_"
       . simp only[hn,ne_eq,not_true_eq_false,if_false,Sem.run_bind,Sem.run_pure,Result.andThen_ok]
         exact R j.2
       . simp only[hn,ne_eq,not_false_eq_true,if_true,Sem.run_bind,Sem.run_pure,Result.andThen_ok,U,hc]
         exact R j.2
     . cases j
 . cases h
theorem Fj (hE:bj P E) {ρ:bS} {R:TypeId} {k K:Value} (hk:aK ρ k K):∀ (es I:List MapEntry) (i:Nat) (q:Option (Nat × Value)),m8 ρ es I->SS E R k es i=some q ->
 ∃ Q,(∀ W,(Instr.findAsking R K I i).run P W=.ok Q W)/\((q=none/\Q=none)\/∃ j v V,q=some (i+j,v)/\Q=some (i+j,V)/\aK ρ v V/\∃ e p,es[j]?=some e/\I[j]?=some p/\aK ρ e.key p.key):=by
 intro es
 induction es with
 | nil=>intro I i q h C;cases C;cases h;exact⟨none,fun W=>by simp[Instr.findAsking],.inl ⟨rfl,rfl⟩⟩
 | cons e es ih =>
  intro I i q h C
  cases h with
  | cons _ p _ L J U hb hl =>
   obtain⟨b,ZC,C⟩:=bind_some C
   have he:∀ W,(Op.equal R K p.key).run P W=.ok b W:=fun W=>Eg hE 100 R _ _ _ _ b ZC hk J 9900 W
   cases b with
   | true =>
    cases C
    refine⟨some (i,p.val),fun W=>by simp[Instr.findAsking,he W],.inr ⟨0,e.val,p.val,rfl,rfl,U,e,p,rfl,rfl,J⟩⟩
   | false =>
    obtain⟨Q,h1,h2⟩:=ih L (i+1) q hl C
    refine⟨Q,fun W=>by simp[Instr.findAsking,he W,h1 W],?_⟩
    rcases h2 with h2 | ⟨j,v,V,g1,g2,g3,g4⟩
    . exact .inl h2
    . exact .inr ⟨j+1,v,V,by rw[g1];congr 2;omega,by rw[g2];congr 2;omega,g3,g4⟩
theorem zK {p:TypeId} {fs:Array Field} (C:P.underlying p=some (.struct fs)) (K:Value) (j:List MapEntry) {Q:Option (Nat × Value)} (W:World) (h:(Instr.findAsking p K j 0).run P W=.ok Q W):(Instr.findKey p K j).run P W=.ok Q W:=by
 unfold Instr.findKey
 simp only[Sem.run_bind,aB C,Result.andThen_ok]
 cases j with
 | nil =>
  have:Q=none:=by simp[Instr.findAsking] at h;exact h.symm
  subst this
  simp[Instr.findNow]
 | cons e j=>simp[Instr.findNow,Instr.sameNow,h]
variable {ρ:bS} {h:H} {W:World} {a c:Operand->Value} {o:Oper}
theorem Ek (j:aX ρ h W) (t:TypeId) (r:Option Operand) (p:o.op=.makeMap t r) {v:Value} {h':H} (hr:tw E h a r=some (.val v h')):mc P ρ h W v h' (execOp c o):=by
 unfold tw at hr
 split at hr
 . cases hr
   refine⟨ρ.add h.next ⟨W.heap.size,0,0,0,0⟩,{ W with heap:=W.heap.push (.map #[] 0) },.map (some W.heap.size),.value _,?_,.inl rfl,.map _ ⟨W.heap.size,0,0,0,0⟩ (bS.add_same _ _ _),?_,?_⟩
   . simp[execOp,p,Instr.makeMap,newObj,Sem.run]
   . exact j.new _ _ _ rfl rfl ⟨#[],sm,.nil⟩
   . exact Ext.new j _ _ _ rfl rfl rfl rfl rfl
 . cases hr
theorem Iq (I:bj P E) (C:aX ρ h W) (t:TypeId) (x:Operand) (J:o.op=.range t x) (hx:aK ρ (a x) (c x)) {v:Value} {h':H} (hr:H0 E h a t x=some (.val v h')):mc P ρ h W v h' (execOp c o):=by
 obtain⟨r,j,e⟩:=map_some hr
 clear hr
 obtain⟨u,hu,hr⟩:=bind_some j
 clear j
 have R:=I.dk hu
 revert hx hr
 generalize a x=p
 generalize hc:c x=q
 intro hx hr
 split at hr
 . rename_i s
   cases hr;cases e;cases hx
   refine⟨ρ.add h.next ⟨W.heap.size,0,0,0,0⟩,{ W with heap:=W.heap.push (.stringIter s 0) },.pointer (some ⟨W.heap.size,0,none⟩),.value _,?_,.inl rfl,.ptr _ 0 ⟨W.heap.size,0,0,0,0⟩ (bS.add_same _ _ _),?_,?_⟩
   . simp only[execOp,J,hc,Instr.range,Sem.run_bind,aB R,Result.andThen_ok]
     simp[newObj,Sem.run]
   . exact C.new _ _ _ rfl rfl ⟨sm,rfl⟩
   . exact Ext.new C _ _ _ rfl rfl rfl rfl rfl
 . cases hr
theorem JH (hH:aX ρ h W) (it:Operand) (s:Bool) (ho:o.op=.next it s) (hx:aK ρ (a it) (c it)) {v:Value} {h':H} (hr:Ms h a it s=some (.val v h')):mc P ρ h W v h' (execOp c o):=by
 obtain⟨r,R,e⟩:=map_some hr
 clear hr
 unfold EU at R
 revert hx R
 generalize a it=p
 generalize hc:c it=q
 intro hx hr
 split at hr
 . rename_i b
   split at hr
   . rename_i s pos hg
     cases hr
     cases hx with
     | ptr _ _ j C =>
      obtain⟨k1,k2⟩:=hH.obj b _ j hg C
      have U:len s.data.toList=s.size:=by rw[br];rfl
      by_cases I:pos<s.size
      . have e':Value.tuple ⟨[.bool true,.int .i64 pos,.int .i32 (Utf8.decode s pos).1]⟩=v/\h.put b (.iter s (pos+(Utf8.decode s pos).2))=h':=by
         unfold EV at e
         rw[dx,U] at e
         simp only[I,decide_true,cond_true] at e
         cases e;exact⟨rfl,rfl⟩
        obtain⟨rfl,rfl⟩:=e'
        have hl:j.dH<W.heap.size:=(hH.we b j C).2
        have J:(getObj j.dH).run P W=.ok (.stringIter s pos) W:=by simp[getObj,Sem.run,k1]
        have TZ:(setObj j.dH (.stringIter s (pos+(Utf8.decode s pos).2))).run P W=.ok () { W with heap:=W.heap.set! j.dH (.stringIter s (pos+(Utf8.decode s pos).2)) }:=by
         simp[setObj,Sem.run,k1]
        refine⟨ρ,{ W with heap:=W.heap.set! j.dH (.stringIter s (pos+(Utf8.decode s pos).2)) },.tuple #[.bool true,goInt pos,.int .i32 (Utf8.decode s pos).1],.value _,?_,.inl rfl,.tuple _ _ (.cons _ _ _ _ (.bool _) (.cons _ _ _ _ (.int _ _) (.cons _ _ _ _ (.int _ _) .nil))),?_,?_⟩
        . simp only[execOp,ho,hc,Instr.next,k2,Nat.add_zero,Sem.run_bind,J,Result.andThen_ok,I,if_true,TZ,Sem.run_pure]
        . exact hH.AaK b _ _ j hg rfl C sm (fun B hB=>by simp[Array.getElem?_setIfInBounds,Ne.symm hB]) ⟨by simp[hl],k2⟩
        . exact Ext.put b _ _ j hg rfl C sm (fun B hB=>by simp[Array.getElem?_setIfInBounds,Ne.symm hB]) rfl rfl rfl
      . have e':Value.tuple ⟨[.bool false]⟩=v/\h=h':=by
         unfold EV at e
         rw[dx,U] at e
         simp only[I,decide_false,cond_false] at e
         cases e;exact⟨rfl,rfl⟩
        obtain⟨rfl,rfl⟩:=e'
        have J:(getObj j.dH).run P W=.ok (.stringIter s pos) W:=by simp[getObj,Sem.run,k1]
        refine⟨ρ,W,.tuple #[.bool false],.value _,?_,.inl rfl,.tuple _ _ (.cons _ _ _ _ (.bool _) .nil),hH,Ext.refl _ _ _⟩
        simp only[execOp,ho,hc,Instr.next,k2,Nat.add_zero,Sem.run_bind,J,Result.andThen_ok,I,if_false,Sem.run_pure]
   . cases hr
 . cases hr
theorem Fk (C:aX ρ h W) {v V:Value} {m:List MapEntry × Nat} (hm:mapOf h v=some m) (hv:aK ρ v V) :
 (v=.map none/\V=.map none/\m=([],0))\/∃ b r j,v=.map (some b)/\V=.map (some r.dH)/\ρ b=some r/\h.get b=some (.map m.1 m.2)/\W.heap[r.dH]?=some (.map j m.2)/\m8 ρ m.1 j.toList:=by
 unfold mapOf at hm
 split at hm
 . cases hm;cases hv;exact .inl ⟨rfl,rfl,rfl⟩
 . rename_i b
   split at hm
   . rename_i es I p
     cases hm
     cases hv with
     | map _ r hr =>
      obtain⟨j,J,h2⟩:=C.obj b _ r p hr
      exact .inr ⟨b,r,j,rfl,rfl,hr,p,J,h2⟩
   . cases hm
 . cases hm
theorem FU (U:bj P E) (hH:aX ρ h W) (t:TypeId) (x ix:Operand) (ok:Bool) (ho:o.op=.lookup t x ix ok) (hx:aK ρ (a x) (c x)) (hi:aK ρ (a ix) (c ix)) {v:Value} {h':H} (hr:Ac E h a t x ix ok=some (.val v h')):mc P ρ h W v h' (execOp c o):=by
 obtain⟨u,hu,hr⟩:=bind_some hr
 have hU:=U.dk hu
 split at hr
 . rename_i kt et
   obtain⟨m,hm,hr⟩:=bind_some hr
   obtain⟨_,hko,hr⟩:=bind_some hr
   obtain⟨q,hq,hr⟩:=bind_some hr
   have main:∀ (em:Bool) (p:List MapEntry),m8 ρ m.1 p->∃ V,aK ρ v V/\h'=h ∧
    (do
     Instr.checkKey em 10000 kt (c ix)
     let (v,ok')<-match<-Instr.findKey kt (c ix) p with
      | some (_,v)=>pure (v,true)
      | none=>pure (<-zeroValue et,false)
     pure (if ok then .tuple #[v,.bool ok'] else v):Sem Value).run P W=.ok V W:=by
    intro em p J
    obtain⟨C,fs,hfs⟩:=Fi U hko hi em 9998 W
    obtain⟨Q,R,h2⟩:=Fj U hi m.1 p 0 q J hq
    have I:=zK hfs (c ix) p W (R W)
    rcases h2 with ⟨rfl,rfl⟩ | ⟨j,w,V,rfl,rfl,g3,_⟩
    . obtain⟨z,hz,hr⟩:=bind_some hr
      obtain⟨z1,z2⟩:=U.zero hz W
      cases ok with
      | true =>
       cases hr
       exact⟨.tuple #[z,.bool false],.tuple _ _ (.cons _ _ _ _ (z2 ρ) (.cons _ _ _ _ (.bool _) .nil)),rfl,by simp[C,I,z1]⟩
      | false =>
       cases hr
       exact⟨z,z2 ρ,rfl,by simp[C,I,z1]⟩
    . cases ok with
      | true =>
       cases hr
       exact⟨.tuple #[V,.bool true],.tuple _ _ (.cons _ _ _ _ g3 (.cons _ _ _ _ (.bool _) .nil)),rfl,by simp[C,I]⟩
      | false =>
       cases hr
       exact⟨V,g3,rfl,by simp[C,I]⟩
   rcases Fk hH hm hx with ⟨e1,e2,rfl⟩ | ⟨b,r,p,e1,e2,hρ,hg,hw,J⟩
   . obtain⟨V,R,rfl,h2⟩:=main true [] .nil
     refine .pure hH (V:=V) ?_ R
     have:(Instr.lookup t (c x) (c ix) ok).run P W=.ok V W:=by
      unfold Instr.lookup
      rw[e2]
      simp only[Sem.run_bind,aB hU,Result.andThen_ok,Sem.run_pure] at h2 ⊢
      exact h2
     simp only[execOp,ho,Sem.run_bind,this,Result.andThen_ok,Sem.run_pure]
   . obtain⟨V,R,rfl,h2⟩:=main p.isEmpty p.toList J
     refine .pure hH (V:=V) ?_ R
     have YI:(getObj r.dH).run P W=.ok (.map p m.2) W:=by simp[getObj,Sem.run,hw]
     have:(Instr.lookup t (c x) (c ix) ok).run P W=.ok V W:=by
      unfold Instr.lookup
      rw[e2]
      simp only[Sem.run_bind,aB hU,YI,Result.andThen_ok,Sem.run_pure] at h2 ⊢
      exact h2
     simp only[execOp,ho,Sem.run_bind,this,Result.andThen_ok,Sem.run_pure]
 . cases hr
theorem IE {x y X Y:Value} (h:CV x y=true) (hx:aK ρ x X) (j:aK ρ y Y):X=Y/\∀ n,Instr.sameBits n X Y=true:=by
 unfold CV at h
 split at h
 . rename_i k i k' I
   rw[Bool.and_eq_true] at h
   have:=xB h.1
   subst this
   have e:i=I:=by have:=h.2;rw[iF] at this;simpa using this
   subst e
   cases hx;cases j
   exact⟨rfl,fun n=>by cases n <;> simp[Instr.sameBits]⟩
 . rename_i s C
   have e:s=C:=by
    rw[kF] at h
    have:s.data.toList=C.data.toList:=sp h
    obtain⟨⟨l⟩⟩:=s
    obtain⟨⟨l'⟩⟩:=C
    simp only at this
    rw[this]
   subst e
   cases hx;cases j
   have hs:(s == s)=true:=by rw[beq_toListBytes];simp
   exact⟨rfl,fun n=>by cases n <;> simp[Instr.sameBits,hs]⟩
 . rename_i p q
   have e:p=q:=sp h
   subst e
   cases hx;cases j
   exact⟨rfl,fun n=>by cases n <;> simp[Instr.sameBits]⟩
 . cases h
theorem Eo:∀ {l m L M:List Value},xu l m=true->bc ρ l L->bc ρ m M->L=M/\∀ n,((L.zip M).all fun (x,y)=>Instr.sameBits n x y)=true:=by
 intro l
 induction l with
 | nil =>
  intro m L M h hl hm
  cases m with
  | nil=>cases hl;cases hm;exact⟨rfl,fun n=>rfl⟩
  | cons b m=>cases h
 | cons x l j =>
  intro m L M h hl hm
  cases m with
  | nil=>cases h
  | cons b m =>
   have h':(CV x b&&xu l m)=true:=h
   rw[Bool.and_eq_true] at h'
   cases hl with
   | cons _ X _ L hx hl =>
    cases hm with
    | cons _ Y _ M p hm =>
     obtain⟨C,I⟩:=IE h'.1 hx p
     obtain⟨f1,f2⟩:=j h'.2 hl hm
     refine⟨by rw[C,f1],fun n=>?_⟩
     rw[List.zip_cons_cons,List.all_cons,f2 n,Bool.and_true]
     exact I n
theorem JJ {x y X Y:Value} (h:sameKey x y=true) (hx:aK ρ x X) (j:aK ρ y Y):X=Y/\Instr.sameBits 10000 X Y=true:=by
 unfold sameKey at h
 split at h
 . cases hx with
   | agg _ L hl =>
    cases j with
    | agg _ M hm =>
     obtain⟨p,C⟩:=Eo h hl hm
     have:L=M:=by rw[<-Array.toList_inj];exact p
     subst this
     refine⟨rfl,?_⟩
     show (L.size == L.size&&((L.toList.zip L.toList).all fun (x,y)=>Instr.sameBits 9999 x y))=true
     rw[C 9999];simp
 . cases h
theorem AaY:∀ (es:List MapEntry) (i:Nat),Ado es i=es[i]?:=by
 intro es
 induction es with
 | nil=>intro i;rfl
 | cons e es j=>intro i;cases i with | zero=>rfl | succ i=>exact j i
theorem YR {k K v V:Value} (hk:aK ρ k K) (hv:aK ρ v V):∀ {es j:List MapEntry},m8 ρ es j->∀ i,m8 ρ (Adn es i k v) (j.modify i fun e=>{ e with key:=K,val:=V }):=by
 intro es j h
 induction h with
 | nil=>intro i;cases i <;> exact .nil
 | cons e J l L C h2 p hl I =>
  intro i
  cases i with
  | zero=>exact .cons _ _ _ _ hk hv p hl
  | succ i=>exact .cons _ _ _ _ C h2 p (I i)
theorem m8.snoc {es p:List MapEntry} (h:m8 ρ es p) {e j:MapEntry} (C:aK ρ e.key j.key) (h2:aK ρ e.val j.val) (I:e.born=j.born):m8 ρ (es++[e]) (p++[j]):=by
 induction h with
 | nil=>exact .cons _ _ _ _ C h2 I .nil
 | cons e j l L J R U _ ih=>exact .cons _ _ _ _ J R U ih
theorem BQ (hE:bj P E) (hH:aX ρ h W) (t:TypeId) (x k y:Operand) (ho:o.op=.mapUpdate t x k y) (hx:aK ρ (a x) (c x)) (hk:aK ρ (a k) (c k)) (hy:aK ρ (a y) (c y)) {v:Value} {h':H} (hr:xx E h a t x k y=some (.val v h')):mc P ρ h W v h' (execOp c o):=by
 obtain⟨u,hu,hr⟩:=bind_some hr
 have hU:=hE.dk hu
 split at hr
 . rename_i kt et b hb
   obtain⟨m,hm,hr⟩:=bind_some hr
   obtain⟨_,hko,hr⟩:=bind_some hr
   obtain⟨q,hq,hr⟩:=bind_some hr
   rw[hb] at hx
   rcases Fk hH hm hx with ⟨e1,_⟩ | ⟨b',r,ES,e1,e2,I,hg,hw,J⟩
   . cases e1
   . cases e1
     obtain⟨hck,fs,hfs⟩:=Fi hE hko hk false 9998 W
     obtain⟨Q,h1,h2⟩:=Fj hE hk m.1 ES.toList 0 q J hq
     have hfk:=zK hfs (c k) ES.toList W (h1 W)
     have YI:(getObj r.dH).run P W=.ok (.map ES m.2) W:=by simp[getObj,Sem.run,hw]
     have oz:r.dH<W.heap.size:=(hH.we _ _ I).2
     have fin:∀ (U:List MapEntry) (n':Nat) (p:Array MapEntry),m8 ρ U p.toList->(Instr.mapUpdate t (c x) (c k) (c y)).run P W=(setObj r.dH (.map p n')).run P W->some (R.val undef (h.put b (.map U n')))=some (R.val v h')->mc P ρ h W v h' (execOp c o):=by
      intro U n' p g1 g2 g3
      cases g3
      have TZ:(setObj r.dH (.map p n')).run P W=.ok () { W with heap:=W.heap.set! r.dH (.map p n') }:=by
       simp[setObj,Sem.run,hw]
      refine⟨ρ,{ W with heap:=W.heap.set! r.dH (.map p n') },Go.undef,.skip,?_,.inr ⟨rfl,rfl⟩,.tuple _ _ .nil,?_,?_⟩
      . simp only[execOp,ho,Sem.run_bind,g2,TZ,Result.andThen_ok,Sem.run_pure]
      . exact hH.AaK b _ _ r hg rfl I sm (fun B hB=>by simp[Array.getElem?_setIfInBounds,Ne.symm hB]) ⟨p,by simp[oz],g1⟩
      . exact Ext.put b _ _ r hg rfl I sm (fun B hB=>by simp[Array.getElem?_setIfInBounds,Ne.symm hB]) rfl rfl rfl
     rcases h2 with ⟨rfl,rfl⟩ | ⟨j,w,V,rfl,rfl,g3,e,E',g4,g5,g6⟩
     . refine fin _ _ (ES.push { key:=c k,val:=c y,born:=m.2 }) ?_ ?_ hr
       . rw[Array.toList_push];exact J.snoc hk hy rfl
       . unfold Instr.mapUpdate
         rw[e2]
         simp only[Sem.run_bind,aB hU,YI,hck,hfk,Result.andThen_ok]
     . obtain⟨e',C,hr⟩:=bind_some hr
       obtain⟨hsk,GB⟩:=bx hr
       clear hr
       rw[AaY] at C
       simp only[Nat.zero_add] at C g4 GB
       rw[g4] at C;cases C
       obtain⟨s1,s2⟩:=JJ hsk g6 hk
       refine fin _ _ (ES.modify j fun e=>{ e with key:=c k,val:=c y }) ?_ ?_ GB
       . rw[Array.toList_modify]
         have:=YR hk hy J j
         simpa using this
       . unfold Instr.mapUpdate
         rw[e2]
         have g5':ES[j]?=some E':=by rw[<-Array.getElem?_toList];exact g5
         simp only[Sem.run_bind,aB hU,YI,hck,hfk,Result.andThen_ok,Nat.zero_add,g5',Option.map_some,Option.getD_some,Instr.keyThatStays,s2,if_true,Sem.run_pure]
 . cases hr
end Go.X
