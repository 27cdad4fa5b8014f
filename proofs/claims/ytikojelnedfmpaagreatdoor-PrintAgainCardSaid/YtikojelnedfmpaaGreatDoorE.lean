/- PrintAgain: of any text that is read as a formula, the text that is told of it is read as the same formula and told as it was. No conditions of its own. -/
import Derived.Test.YtikojelnedfmpaaGreatDoorRows
import Derived.KernelRfl
import Derived.Deep.Slices
import Derived.RowKit
import Derived.ChangeSame
import Derived.Below
import Derived.Test.YtikojelnedfmpaaGreatDoorD
set_option linter.unusedSimpArgs false
set_option linter.unusedVariables false
namespace Go.X
open Go
variable {P:Program} {E:Env}
theorem PA {K:Prop} {e:AE} (h:IF e K (fun _=>False) (fun _=>False) False):e=.normal/\K:=by
 cases e with
 | normal=>exact⟨rfl,h⟩
 | exit id=>exact h.elim
 | goto l=>exact h.elim
 | ret=>exact h.elim
theorem mN.mono {N base:Nat} {ρ:bS} {h:H} {W:World} {K j:gj} (hk:∀ e t h,K e t h->j e t h) {e:Exit} {a:Act} {w:World} (x:mN N base ρ h W K e a w):mN N base ρ h W j e a w:=by
 obtain⟨o,p,h',k,r⟩:=x
 exact⟨o,p,h',hk _ _ _ k,r⟩
theorem mN.trans {N base:Nat} {ρ j:bS} {h o:H} {W p:World} {K:gj} (x:Ext ρ h W j o p) {e:Exit} {a:Act} {w:World} (y:mN N base j o p K e a w):mN N base ρ h W K e a w:=by
 obtain⟨C,I,h',k,J,R,bY,U,k5,k6,k7⟩:=y
 exact⟨C,I,h',k,J,R,bY,U,k5,x.trans k6,k7⟩
theorem Ax.mono {top:Bool} {N:Nat} {c:Code} {t:B} {h:H} {K j:gj} (x:Ax P top N c t h K) (hk:∀ e t h,K e t h->j e t h):Ax P top N c t h j :=
 fun o base ρ a W p hb C I hn J=>(x o base ρ a W p hb C I hn J).mono fun e a w q=>q.mono hk
theorem B.Y3 (f:Nat):∀ n,n<=f->Sz (B.mkU f n) n:=by
 induction f with
 | zero=>intro n h;have:n=0:=om
         subst this;exact .nil
 | succ f j =>
  intro n hn
  show Sz (Bool.rec (motive:=fun _=>B) (Bool.rec (motive:=fun _=>B) .nil (.leaf Aj) (Nat.beq n 1)) (.node (B.mkU f (Nat.div (Nat.add n 1) 2)) (B.mkU f (Nat.div n 2))) (Nat.ble 2 n)) n
  cases e:Nat.ble 2 n with
  | true =>
   have h2:=Nat.le_of_ble_eq_true e
   exact .node _ _ _ h2 (j _ (by show (n+1) / 2<=_;omega)) (j _ (by show n / 2<=_;omega))
  | false =>
   have h2:¬ 2<=n:=fun h=>by rw[Nat.ble_eq_true_of_le h] at e;cases e
   cases n with
   | zero=>exact .nil
   | succ n=>cases n with
    | zero=>exact .leaf _
    | succ n=>omega
theorem B.Aa3 (f:Nat):∀ n k,n<=f->(B.mkU f n).get k=if k<n then Aj else undef:=by
 induction f with
 | zero=>intro n k h;have:n=0:=om
         subst this;rfl
 | succ f j =>
  intro n k hn
  show (Bool.rec (motive:=fun _=>B) (Bool.rec (motive:=fun _=>B) .nil (.leaf Aj) (Nat.beq n 1)) (.node (B.mkU f (Nat.div (Nat.add n 1) 2)) (B.mkU f (Nat.div n 2))) (Nat.ble 2 n):B).get k=_
  cases e:Nat.ble 2 n with
  | true =>
   have h2:=Nat.le_of_ble_eq_true e
   show (B.node (B.mkU f ((n+1) / 2)) (B.mkU f (n / 2))).get k=_
   rw[B.qL,j _ _ om,j _ _ om]
   by_cases hk:k % 2=0
   . rw[if_pos hk]
     by_cases hl:k<n
     . rw[if_pos hl,if_pos om]
     . rw[if_neg hl,if_neg om]
   . rw[if_neg hk]
     by_cases hl:k<n
     . rw[if_pos hl,if_pos om]
     . rw[if_neg hl,if_neg om]
  | false =>
   have h2:¬ 2<=n:=fun h=>by rw[Nat.ble_eq_true_of_le h] at e;cases e
   cases n with
   | zero=>show B.nil.get k=_;rw[if_neg om];rfl
   | succ n=>cases n with
    | zero =>
     show (B.leaf Aj).get k=_
     rw[B.zB]
     by_cases hk:k=0
     . rw[if_pos hk,if_pos om]
     . rw[if_neg hk,if_neg om]
    | succ n=>omega
theorem Aa4 (l:List Value):∀ i,aI l i=(l[i]?).getD undef:=by
 induction l with
 | nil=>intro i;rfl
 | cons a l j=>intro i;cases i with
  | zero=>rfl
  | succ i=>show aI l i=_;rw[j];rfl
theorem Y4 {ρ:bS} {T:Array Value} {t:B} (o:gr ρ t T) (s:List Value):∀ (ks:List Nat) (i:Nat) (b:B),(∀ j k,ks[j]?=some k->aI s (i+j)=t.get k)->gr ρ b T->gr ρ (Tl s ks i b) T:=by
 intro ks
 induction ks with
 | nil=>intro i b _ hb;exact hb
 | cons k ks p =>
  intro i b hs hb
  show gr ρ (Tl s ks (i+1) (b.set k (aI s i))) T
  refine p _ _ (fun j k' e=>by rw[show i+1+j=i+(j+1) by omega];exact hs (j+1) k' (sp e)) ⟨hb.1.set k _,fun j=>?_⟩
  rw[hb.1.su]
  by_cases e:j=k/\k<T.size
  . rw[if_pos e,e.1,show aI s i=t.get k from by simpa using hs 0 k rfl];exact o.2 k
  . rw[if_neg e];exact hb.2 j
theorem Y5 (t:B) (ks:List Nat):jd t ks=ks.map t.get:=by
 induction ks with
 | nil=>rfl
 | cons k ks j=>show t.get k :: jd t ks=_;rw[j];rfl
theorem tE {n:Nat} {ρ:bS} {T:Array Value} {t:B} (ks:List Nat) (o:gr ρ t T) (hn:T.size=n):gr ρ (Ah n ks (jd t ks)) T:=by
 refine Y4 o _ ks 0 _ (fun j k e=>by rw[Aa4,Y5,Nat.zero_add,List.getElem?_map,e];rfl) ⟨by rw[hn];exact B.Y3 n n nlr,fun k=>?_⟩
 rw[B.Aa3 _ _ _ nlr]
 by_cases hk:k<n
 . rw[if_pos hk];exact .Aj _
 . rw[if_neg hk]
   have:T.getD k undef=undef:=by rw[Array.getD_eq_getD_getElem?,Array.getElem?_eq_none om];rfl
   rw[this];exact aK.undef ρ
theorem JL (j:bj P E) {top:Bool} {N id:Nat} {ops:Array Oper} {draw:Bool} {t:B} {h:H} {K:B->H->Prop} (hh:Di P E ops draw t h K):Ax P top N (.region id ops draw) t h (fun e t h=>IF e (K t h) (fun _=>False) (fun _=>False) False):=by
 intro rr base ρ a W hR hb o R hn U
 cases draw with
 | false=>exact j7 (fun _ q=>by cases q) (wpIn_region_list (Rs j ops.toList 0 [] t h ρ a W hh o R (Ext.refl _ _ _) U hn))
 | true =>
  obtain⟨ps,p,h1⟩:=aD.1 (show af (vn E ops.toList) _ from hh)
  obtain⟨h',al,hl,h2⟩:=IK ops.toList 0 h [] h1
  have C:=Fp j (N:=a.tmps.size) ops.toList 0 [] [] [] t h' o.1 (fun x hx=>by cases hx) h2
  refine (Fh j p hl C o R U).mono ?_
  rintro e a1 W1 ⟨t',I,⟨tH,hk⟩,rfl,hs,J,k1,k2,k3,k4⟩
  exact⟨.normal,t',I,hk,rfl,hs.trans hn,J,k1,k2,k3,k4⟩
theorem Rv {top:Bool} {N:Nat} {x y:Code} {t:B} {h:H} {K1 K:gj} (h1:Ax P top N x t h K1) (hn:∀ t h,K1 .normal t h->Ax P top N y t h K) (he:∀ e t h,e≠.normal->K1 e t h->K e t h):Ax P top N (.seq x y) t h K:=by
 intro U base ρ a W hR hb hT hH hs hM
 refine j7 (fun _ q=>by cases q) (wpIn_seq (x:=x) (y:=y) (cA ((h1 U base ρ a W hR hb hT hH hs hM).mono ?_)))
 rintro e a1 W1 ⟨e',R,h',k,rfl,j,o,C,I,p,J⟩
 cases e' with
 | normal =>
  refine cA ((hn _ _ k U base o a1 W1 hR (Nat.le_trans hb p.size) C I j J).mono ?_)
  intro e a2 W2 hA
  exact mN.trans p hA
 | exit id=>exact⟨.exit id,R,h',he _ _ _ (fun q=>by cases q) k,rfl,j,o,C,I,p,J⟩
 | goto l=>exact⟨.goto l,R,h',he _ _ _ (fun q=>by cases q) k,rfl,j,o,C,I,p,J⟩
 | ret=>exact⟨.ret,R,h',he _ _ _ (fun q=>by cases q) k,rfl,j,o,C,I,p,J⟩
theorem Fq {top:Bool} {N:Nat} {c:Operand} {x y:Code} {t:B} {h:H} {K:gj} (b:Bool) (j:ev t c=.bool b) (p:Ax P top N (if b then x else y) t h K):Ax P top N (.cond c x y) t h K:=by
 intro C base ρ a W I hb o J hs R
 have hc:a.eval c=.bool b:=by
  have:=Ir o c
  rw[j] at this
  revert this;generalize a.eval c=q;intro this;cases this;rfl
 exact j7 (fun _ q=>by cases q) (wpIn_cond hc (cA (p C base ρ a W I hb o J hs R)))
theorem MO {top:Bool} {N id:Nat} {x:Code} {t:B} {h:H} {K:gj} (h1:Ax P top N x t h (Tm id K)):Ax P top N (.block id x) t h K:=by
 intro rr base ρ a W hR hb hT hH hs hM
 refine j7 (fun _ q=>by cases q) (wpIn_block (cA ((h1 rr base ρ a W hR hb hT hH hs hM).mono ?_)))
 rintro e a1 W1 ⟨e',C,h',k,rfl,o,p,I,J,R,U⟩
 cases e' with
 | normal=>exact⟨.normal,C,h',k,rfl,o,p,I,J,R,U⟩
 | goto l=>exact⟨.goto l,C,h',k,rfl,o,p,I,J,R,U⟩
 | ret=>exact⟨.ret,C,h',k,rfl,o,p,I,J,R,U⟩
 | exit j =>
  have k':Bool.rec (motive:=fun _=>Prop) (K (.exit j) C h') (K .normal C h') (Nat.beq j id):=k
  rw[ax] at k'
  show if j=id then _ else _
  by_cases e:j=id
  . rw[if_pos e];simp only[e,decide_true] at k';exact⟨.normal,C,h',k',rfl,o,p,I,J,R,U⟩
  . rw[if_neg e];simp only[e,decide_false] at k';exact⟨.exit j,C,h',k',rfl,o,p,I,J,R,U⟩
theorem PB {top:Bool} {N:Nat} {b:Code} {t:B} {h:H} {K1 K:gj} (h1:Ax P top N b t h K1) (hn:∀ t h,K1 .normal t h->Ax P top N (.loop b) t h K) (he:∀ e t h,e≠.normal->K1 e t h->K e t h):Ax P top N (.loop b) t h K:=by
 intro rr base ρ a W hR hb hT hH hs hM fr k cs J
 obtain⟨e',U,W1,⟨e,t',h',q,rfl,p,C,k1,k2,R,k4⟩,o⟩:=cA (h1 rr base ρ a W hR hb hT hH hs hM) fr (.inLoop b :: k) cs J trivial (pV _ _)
 cases e with
 | normal =>
  obtain⟨e'',a2,W2,hA,I⟩:=hn _ _ q rr base C U W1 hR (Nat.le_trans hb R.size) k1 k2 p k4 fr k cs J
  exact⟨e'',a2,W2,mN.trans R hA,.of_steps (StepsIn.trans o (si1 stepR_inLoop)) I⟩
 | exit j=>exact⟨_,U,W1,⟨_,t',h',he _ _ _ (fun q=>by cases q) q,rfl,p,C,k1,k2,R,k4⟩,.pass (x:=.inLoop b) rfl (fun _ _=>.inl (fun q=>by cases q)) o⟩
 | goto j=>exact⟨_,U,W1,⟨_,t',h',he _ _ _ (fun q=>by cases q) q,rfl,p,C,k1,k2,R,k4⟩,.pass (x:=.inLoop b) rfl (fun _ _=>.inl (fun q=>by cases q)) o⟩
 | ret=>exact⟨_,U,W1,⟨_,t',h',he _ _ _ (fun q=>by cases q) q,rfl,p,C,k1,k2,R,k4⟩,.pass (x:=.inLoop b) rfl (fun _ _=>.inl (fun q=>by cases q)) o⟩
theorem Ax.le {top:Bool} {N:Nat} {c:Code} {t j:B} {h:H} {K:gj} (hw:Ax P top N c j h K) (hle:∀ ρ T,T.size=N->gr ρ t T->gr ρ j T):Ax P top N c t h K :=
 fun o base ρ a W p hb C I hs J=>hw o base ρ a W p hb (hle ρ _ hs C) I hs J
theorem mN.le {N base:Nat} {ρ:bS} {h:H} {W:World} {K o:gj} (hk:∀ e t h,K e t h->∃ j,o e j h/\∀ ρ T,T.size=N->gr ρ t T->gr ρ j T) {e:Exit} {a:Act} {w:World} (x:mN N base ρ h W K e a w):mN N base ρ h W o e a w:=by
 obtain⟨C,j,h',k,I,p,bY,J,k5,k6,R⟩:=x
 obtain⟨t2,U,q2⟩:=hk _ _ _ k
 exact⟨C,t2,h',U,I,p,bY,q2 _ _ p J,k5,k6,R⟩
theorem Ax.Y6 {top:Bool} {N:Nat} {c:Code} {t:B} {h:H} {K j:gj} (x:Ax P top N c t h K) (hk:∀ e t h,K e t h->∃ o,j e o h/\∀ ρ T,T.size=N->gr ρ t T->gr ρ o T):Ax P top N c t h j :=
 fun p base ρ a W C hb I J hn R=>(x p base ρ a W C hb I J hn R).mono fun e a w q=>q.le hk
def Rw (P:Program) (top:Bool) (N:Nat) (b c:Code) (t:B) (h:H) (K:gj):Prop :=
 ∀ (j:Option Nat) (base:Nat) (ρ:bS) (a:Act) (W:World),(top=true->j=none)->base<=W.heap.size->gr ρ t a.tmps->aX ρ h W->a.tmps.size=N->Marks base ρ h W a.defers->Iu j P (fun k=>.code c :: .inScope b :: k) (mN N base ρ h W K) a W
theorem sv {top:Bool} {N:Nat} {b c:Code} {t:B} {h:H} {K1 K:gj} (R:Ax P top N c t h K1) (hg:∀ l t h,K1 (.goto l) t h->(findLabel b l=none/\K (.goto l) t h)\/∃ rest,findLabel b l=some rest/\Rw P top N b rest t h K) (he:∀ e t h,(∀ l,e≠.goto l)->K1 e t h->K e t h):Rw P top N b c t h K:=by
 intro rr base ρ a W hR hb hT hH hs hM fr k cs U
 obtain⟨e',a1,W1,⟨e,t',h',q,rfl,p,C,k1,k2,J,k4⟩,o⟩:=cA (R rr base ρ a W hR hb hT hH hs hM) fr (.inScope b :: k) cs U trivial (pV _ _)
 cases e with
 | normal=>exact⟨_,a1,W1,⟨.normal,t',h',he _ _ _ (fun _ q=>by cases q) q,rfl,p,C,k1,k2,J,k4⟩,StepsIn.trans o (si1 A')⟩
 | exit j=>exact⟨_,a1,W1,⟨.exit j,t',h',he _ _ _ (fun _ q=>by cases q) q,rfl,p,C,k1,k2,J,k4⟩,⟨fun k' hk=>o.1 k' (by simpa [exitTo] using hk),fun R h2=>o.2 R (by simpa [exitTo] using h2)⟩⟩
 | ret=>exact⟨_,a1,W1,⟨.ret,t',h',he _ _ _ (fun _ q=>by cases q) q,rfl,p,C,k1,k2,J,k4⟩,o⟩
 | goto l =>
  rcases hg _ _ _ q with ⟨hf,hk⟩ | ⟨rest,hf,hw⟩
  . exact⟨_,a1,W1,⟨.goto l,t',h',hk,rfl,p,C,k1,k2,J,k4⟩,⟨fun k' hk=>o.1 k' (by simpa [gotoIn,hf] using hk),fun R h2=>o.2 R (by simpa [gotoIn,hf] using h2)⟩⟩
  . obtain⟨e'',a2,W2,hA,I⟩:=hw rr base C a1 W1 hR (Nat.le_trans hb J.size) k1 k2 p k4 fr k cs U
    exact⟨e'',a2,W2,mN.trans J hA,.of_steps (o.1 _ (by simp[gotoIn,hf])) I⟩
theorem PC {top:Bool} {N:Nat} {b:Code} {t:B} {h:H} {K:gj} (hw:Rw P top N b b t h K):Ax P top N (.scope b) t h K:=by
 intro p base ρ a W C hb I J hs R fr k cs o
 obtain⟨U,a1,W1,hA,j⟩:=hw p base ρ a W C hb I J hs R fr k cs o
 exact⟨U,a1,W1,hA,.of_steps (si1 Fb) j⟩
theorem qN {top:Bool} {N:Nat} {c:Code} {t:B} {h:H} {K:gj} (e:AE) (hc:∀ (j:Option Nat) (Q:Exit->Act->World->Prop) (a:Act) (w:World),Q (El e) a w->c.wpIn (FW j) 0 P Q a w) (im:∀ b,c≠.loop b) (hk:K e t h):Ax P top N c t h K :=
 fun j base ρ a W _ _ o p hs C=>j7 im (hc j _ _ _ ⟨e,t,h,hk,rfl,hs,ρ,o,p,Ext.refl _ _ _,C⟩)
theorem MP {N:Nat} {t:B} {ps:List Tmp} {zQq bd:Code} {f0:FuncId} {d0:Nat} {l:Nat} {args:List Value} {h:H} {pd:Option Code} {Q:Value->H->Prop} (hS:Sz t N) {KA:gj}
 (hg:h.get l=some (.loop .ready pd f0 t ps zQq bd d0)) (ha:Ax P false N zQq (kZ t ps args) h KA)
 (hn:∀ e t1 h1,KA e t1 h1->e=.normal/\∃ o,h1.get l=some (.loop .ready o f0 t ps zQq bd d0) ∧
  Ax P false N bd t1 (h1.put l (.loop .busy o f0 t ps zQq bd d0)) fun e _ h2=>(∃ s2 pd2,h2.get l=some (.loop s2 pd2 f0 t ps zQq bd d0))/\Q (.bool (jv e)) (h2.put l (.loop (jst e) (Zs e) f0 t ps zQq bd d0)))
 (hl:∃ v h',Q v h'):Em P l args h Q:=by
 refine⟨hl,?_⟩
 intro rr st0 pd0 f00 tm0 ps0 as0 bd0 d00 p T fn d ρ ARGS W e1 Jl e3 e4 e5 e6 hH
 rw[hg] at e1;cases e1
 have hN:T.size=N:=e3.1.Aht _ hS
 have hT0:=Fc ps args ARGS t T e5 e6 e3
 have AdH:gr ρ (kZ t ps args) ((ps.toArray.zip ARGS.toArray).foldl (fun tmps x=>tmps.setIfInBounds x.1 x.2) T):=by
  have:(ps.toArray.zip ARGS.toArray).foldl (fun tmps x=>tmps.setIfInBounds x.1 x.2) T=(ps.zip ARGS).foldl (fun tmps x=>tmps.setIfInBounds x.1 x.2) T:=sm
  rw[this];exact hT0
 refine roundIn_of_wpIn (F:=FW rr) trivial ?_
 have tH:((ps.toArray.zip ARGS.toArray).foldl (fun tmps x=>tmps.setIfInBounds x.1 x.2) T).size=N:=by
  have gen:∀ (l:List (Tmp × Value)) (T:Array Value),(l.foldl (fun tmps x=>tmps.setIfInBounds x.1 x.2) T).size=T.size:=by
   intro l
   induction l with
   | nil=>intro T;rfl
   | cons x l ih=>intro T;rw[List.foldl_cons,ih];simp
  rw[<-Array.foldl_toList,gen,hN]
 have hw:=cA (ha (some p.dH) W.heap.size ρ { tmps:=(ps.toArray.zip ARGS.toArray).foldl (fun tmps x=>tmps.setIfInBounds x.1 x.2) T,defers:=[] } W (fun q=>by cases q) nlr AdH hH tH (Marks.nil _ _ _ _))
 refine Go.Code.wpIn_mono ?_ hw
 rintro e a1 W1 ⟨e0,t1,h1,hka,rfl,hs1,YK,k1,k2,k3,kM⟩
 obtain⟨rfl,o,hg1,hwb⟩:=hn _ _ _ hka
 have j:=k3.le _ _ Jl
 obtain⟨T1,fn1,dd1,q1,q2⟩:=k2.obj l _ p hg1 j
 refine⟨_,run_beginRound q2 rfl,?_⟩
 have I:∀ C,C≠p.dH->(W1.putObj p.dH (.loop { state:=.busy,pending:=o,fn:=fn1,tmps:=T1,params:=ps.toArray,assign:=zQq,body:=bd,defers:=dd1 })).heap[C]?=W1.heap[C]?:=fun C hC=>World.putObj_heap_other hC
 have hH1:=k2.put l _ (.loop .busy o f0 t ps zQq bd d0) p hg1 rfl rfl j World.putObj_size I ⟨T1,fn1,dd1,q1,qM q2⟩
 have hX1:=Ext.put l _ (.loop .busy o f0 t ps zQq bd d0) p hg1 rfl j World.putObj_size I rfl rfl rfl
 have ZU:=cA (hwb (some p.dH) W.heap.size YK a1 _ (fun q=>by cases q) (by rw[World.putObj_size];exact k3.size) k1 hH1 hs1 (kM.ext hX1))
 refine Go.Code.wpIn_mono ?_ ZU
 rintro e a2 W2 ⟨R,t2,h2,⟨⟨s2,pd2,hg2⟩,hQ⟩,rfl,hs2,ρ2,l1,l2,l3,lM⟩
 have J:=l3.le _ _ j
 obtain⟨T2,Zq,dd2,r1,r2⟩:=l2.obj l _ p hg2 J
 have hX2:=(k3.trans hX1).trans l3
 have Ahu:(if (Zs R).isNone then LoopState.ready else .done)=jst R:=by cases R <;> rfl
 have hjv:(Zs R).isNone=jv R:=by cases R <;> rfl
 have fin:∃ v' w',(Instr.endRound p.dH (Zs R)).run P W2=.ok v' w'/\∃ v h',Q v h'/\oq ρ h W v h' (.returned v') w':=by
  have U:=run_endRound (P:=P) (Zs R) r2
  rw[Ahu,hjv] at U
  refine⟨_,_,U,_,_,hQ,ρ2,.bool _,?_,?_⟩
  . exact l2.put l _ _ p hg2 rfl rfl J World.putObj_size (fun C hC=>World.putObj_heap_other hC) ⟨T2,Zq,dd2,r1,qM r2⟩
  . exact hX2.trans (Ext.put l _ _ p hg2 rfl J World.putObj_size (fun C hC=>World.putObj_heap_other hC) rfl rfl rfl)
 cases R with
 | normal=>exact fin
 | ret=>exact fin
 | exit id=>exact fin
 | goto t=>exact fin
theorem Tt {e:AE} {K:gj} {t:B} {h:H} {ids:List Nat} (x:onJ e (K .normal t h) (JC (fun id=>(id,K (.exit id) t h)) ids) (K .ret t h)):K e t h:=by
 cases e with
 | normal=>exact x
 | ret=>exact x
 | goto l=>exact x.elim
 | exit id =>
  have x':YZ id (JC (fun id=>(id,K (.exit id) t h)) ids):=x
  clear x
  induction ids with
  | nil=>exact x'.elim
  | cons j ids p =>
   have o:Bool.rec (motive:=fun _=>Prop) (YZ id (JC (fun id=>(id,K (.exit id) t h)) ids)) (K (.exit j) t h) (Nat.beq id j):=x'
   rw[ax] at o
   by_cases q:id=j
   . subst q;simp only[decide_true] at o;exact o
   . simp only[q,decide_false] at o;exact p o
theorem Rx {n:Nat}:∀ (ps:List Tmp) (args:List Value) {t:B},Sz t n->Sz (kZ t ps args) n:=by
 intro ps
 induction ps with
 | nil=>intro args t h;exact h
 | cons p ps j =>
  intro args t h
  cases args with
  | nil=>exact h
  | cons v args=>exact j args (h.set p v)
theorem Ev {n:Nat} (ks:List Nat) (s:List Value):Sz (Ah n ks s) n:=by
 have gen:∀ (ks:List Nat) (i:Nat) (b:B),Sz b n->Sz (Tl s ks i b) n:=by
  intro ks
  induction ks with
  | nil=>intro i b h;exact h
  | cons k ks j=>intro i b h;exact j _ _ (h.set k _)
 exact gen ks 0 _ (B.Y3 n n nlr)
theorem Vv (s:List Value):∀ (l:List Value) (i:Nat),(∀ j,aI s (i+j)=aI l j)->BS s l.length i=l:=by
 intro l
 induction l with
 | nil=>intro i _;rfl
 | cons v l o =>
  intro i h
  show aI s i :: BS s l.length (i+1)=_
  rw[o (i+1) fun j=>by rw[show i+1+j=i+(j+1) by omega];exact h (j+1)]
  rw[show aI s i=v from h 0]
theorem PD (s:List Value):BS s s.length 0=s:=Vv s s 0 fun j=>by rw[Nat.zero_add]
theorem IL {A:Ann} {d key:Nat} {t:B} {fv:Value} {ps:Array Tmp} {zQq bd:Code} {h:H} {K:AE->H->Prop} (hS:Sz t A.n)
 (C:∀ (top:Bool) (c:Code) (key:Nat) (t:B) (h:H) (K:gj),oG P E A d top c key t h K->Ax P top A.n c t h K)
 (I:∀ (top:Bool) (c:Code) (key:Nat) (t:B) (h:H) (K:gj),Sz t A.n->oG P E A d top c key t h K->∃ e t h,Sz t A.n/\K e t h)
 (hh:uN P fv ps.toList.length (fun args h bz KR=>oG P E A d false zQq key (kZ t ps.toList (BS args (len ps.toList) 0)) h (KS (fun t h=>bz h fun h=>oG P E A d false bd key t h (fun e _ h=>KR e h)) (fun _ _ _=>False))) h K) :
 ∃ g first captured Q,fv=.func (.func g) ⟨first⟩ ⟨captured⟩/\aj P g (cW (cW first [.func (.yield h.next) ⟨[]⟩ ⟨[]⟩]) captured) (h.new (.loop .ready none 0 t ps.toList zQq bd 0)) Q ∧
  ∀ v h',Q v h'->∃ e s,h'.get h.next=some (.loop s (Zs e) 0 t ps.toList zQq bd 0)/\s≠.busy/\K e (h'.del h.next):=by
 refine hh.w (fun s p=>.loop s p 0 t ps.toList zQq bd 0) (fun s p=>rfl) (fun h l s p e=>⟨s,p,0,t,ps.toList,zQq,bd,0,e,rfl⟩) ?_
 intro l args h pd Q hg hlen o
 rw[br,<-hlen,PD] at o
 have live:∃ v h',Q v h':=by
  obtain⟨e,t1,j,R,x⟩:=I _ _ _ _ _ _ (Rx _ _ hS) o
  cases e with
  | normal =>
   obtain⟨J,_,x⟩:=(show ∃ pd,j.get l=some (.loop .ready pd 0 t ps.toList zQq bd 0)/\oG P E A d false bd key t1 (j.put l (.loop .busy pd 0 t ps.toList zQq bd 0)) _ from x)
   obtain⟨e2,t2,h2,_,_,q⟩:=I _ _ _ _ _ _ R x
   exact⟨_,_,q⟩
  | ret=>exact x.elim
  | exit id=>exact x.elim
  | goto id=>exact x.elim
 refine MP (KA:=KS (fun t1 j=>∃ pd,j.get l=some (.loop .ready pd 0 t ps.toList zQq bd 0)/\oG P E A d false bd key t1 (j.put l (.loop .busy pd 0 t ps.toList zQq bd 0)) fun e _ h2=>(∃ s2 pd2,h2.get l=some (.loop s2 pd2 0 t ps.toList zQq bd 0))/\Q (.bool (jv e)) (h2.put l (.loop (jst e) (Zs e) 0 t ps.toList zQq bd 0))) (fun _ _ _=>False)) hS hg (C _ _ _ _ _ _ o) ?_ live
 intro e t1 j x
 cases e with
 | normal =>
  obtain⟨J,U,x⟩:=(show ∃ pd,j.get l=some (.loop .ready pd 0 t ps.toList zQq bd 0)/\oG P E A d false bd key t1 (j.put l (.loop .busy pd 0 t ps.toList zQq bd 0)) _ from x)
  exact⟨rfl,J,U,C _ _ _ _ _ _ x⟩
 | ret=>exact x.elim
 | exit id=>exact x.elim
 | goto id=>exact x.elim
theorem IM (hE:bj P E) (A:Ann) (d:Nat)
 (C:∀ (top:Bool) (c:Code) (key:Nat) (t:B) (h:H) (K:gj),oG P E A d top c key t h K->Ax P top A.n c t h K)
 (ihL:∀ (top:Bool) (c:Code) (key:Nat) (t:B) (h:H) (K:gj),Sz t A.n->oG P E A d top c key t h K->∃ e t h,Sz t A.n/\K e t h) :
 ∀ (top:Bool) (c:Code) (key:Nat) (t:B) (h:H) (K:gj),oG P E A (d+1) top c key t h K->Ax P top A.n c t h K:=by
 intro top c key t h K hh
 cases c with
 | skip=>exact qN .normal (fun rr Q a w q=>wpIn_skip q) (fun b q=>by cases q) hh
 | region id ops draw=>exact (JL hE (show Di P E ops draw t h _ from hh)).mono fun e t h q=>by obtain⟨rfl,q⟩:=PA q;exact q
 | seq a b =>
  refine Rv (C top a key t h _ hh) (fun t h q=>C top b key t h K q) fun e t h im q=>?_
  cases e with
  | normal=>exact absurd rfl im
  | exit _=>exact q
  | goto _=>exact q
  | ret=>exact q
 | cond c a b =>
  have RM:aG (ev t c) (oG P E A d top a key t h K) (oG P E A d top b key t h K):=hh
  cases RM with
  | yes e x=>exact Fq true e (C _ _ _ _ _ _ x)
  | no e x=>exact Fq false e (C _ _ _ _ _ _ x)
 | block id b=>exact MO (C top b id t h _ hh)
 | loop b =>
  have RM:aL (fun I s h=>oG P E A d top b key (Ah A.n (gS A.loops key).1 s) h (Rm (gS A.loops key).1 (gS A.loops key).2 I fun e s h=>K e (Ah A.n (gS A.loops key).2 s) h)) (jd t (gS A.loops key).1) h:=hh
  refine (RM.w (fun s h=>Ax P top A.n (.loop b) (Ah A.n (gS A.loops key).1 s) h K) ?_).le fun ρ T hs p=>tE _ p hs
  intro s h J hJ hG
  refine PB (K1:=fun e t h=>IF e (Ax P top A.n (.loop b) t h K) (fun id=>K (.exit id) t h) (fun l=>K (.goto l) t h) (K .ret t h)) ((C _ _ _ _ _ _ hG).Y6 ?_) (fun t h q=>q) (fun e t h im q=>?_)
  . intro e t h q
    cases e with
    | normal=>exact⟨_,hJ _ _ q,fun ρ T hs p=>tE _ p hs⟩
    | exit _=>exact⟨_,q,fun ρ T hs p=>tE _ p hs⟩
    | goto _=>exact⟨_,q,fun ρ T hs p=>tE _ p hs⟩
    | ret=>exact⟨_,q,fun ρ T hs p=>tE _ p hs⟩
  . cases e with
    | normal=>exact absurd rfl im
    | exit _=>exact q
    | goto _=>exact q
    | ret=>exact q
 | rangeFunc f ps zQq bd =>
  cases top with
  | false=>exact hh.elim
  | true =>
   have R:uN P (ev t f) ps.toList.length
    (fun args h bz KR=>oG P E A d false zQq key (kZ t ps.toList (BS args (len ps.toList) 0)) h (KS (fun t h=>bz h fun h=>oG P E A d false bd key t h (fun e _ h=>KR e h)) (fun _ _ _=>False))) h
    (fun e h=>onJ e (K .normal t h) (JC (fun id=>(id,K (.exit id) t h)) (MM bd)) (K .ret t h)):=hh
   intro rr base ρ a W hR hb p hH hs hM
   obtain rfl:rr=none:=hR rfl
   have hS:Sz t A.n:=by rw[<-hs];exact p.1
   obtain⟨g,first,captured,Q,hfv,hcw,hQ⟩:=IL hS C ihL R
   obtain⟨⟨fd,body,Zo,YL⟩,_,Zi⟩:=hcw
   refine (Iy hE (st:=⟨t,[],h⟩) (ps:=ps) (zQq:=zQq) (bd:=bd) hfv Zo YL (Qc:=Q) (K:=fun e h=>K e t h) ?_ ?_ hb p hH hM).mono ?_
   . intro ρ ARGS W hA hH
     exact Zi ρ ARGS W hA hH
   . intro v h' hq
     obtain⟨e,s,h1,h2,h3⟩:=hQ v h' hq
     refine⟨e,s,0,t,ps.toList,zQq,bd,0,?_,h2,Tt h3⟩
     have:Zs e=Ix e:=by cases e <;> rfl
     rw[<-this];exact h1
   . rintro e' a' W' ⟨e,h',hk,rfl,ht,bY,k1,k2,k3,k4⟩
     exact⟨e,t,h',hk,rfl,by rw[ht];exact hs,bY,by rw[ht];exact p.mono k1,k2,k3,k4⟩
 | exit id=>exact qN (.exit id) (fun rr Q a w q=>wpIn_exit q) (fun b q=>by cases q) hh
 | scope b =>
  refine PC ?_
  have R:List.casesOn (motive:=fun _=>Prop) (gS A.scopes key).1 (oG P E A d top b key t h (jumps (oG P E A d top) b key K 2)) (fun l ks=>Option.rec (motive:=fun _=>Prop) False (fun rest =>
   oG P E A d top b key t h (g_ b l ks (aL fun I s h=>oG P E A d top rest key (Ah A.n ks s) h (g_ b l ks I fun e t h=>K e (Ah A.n (gS A.scopes key).2 (jd t (gS A.scopes key).2)) h)) K)) (findLabel b l)):=hh
  revert R
  generalize (gS A.scopes key).2=out
  cases (gS A.scopes key).1 with
  | cons l ks =>
   intro R
   cases hfl:findLabel b l with
   | none =>
    have Rt:Option.rec (motive:=fun _=>Prop) False (fun rest =>
     oG P E A d top b key t h (g_ b l ks (aL fun I s h=>oG P E A d top rest key (Ah A.n ks s) h (g_ b l ks I fun e t h=>K e (Ah A.n out (jd t out)) h)) K)) (findLabel b l):=R
    rw[hfl] at Rt;exact Rt.elim
   | some rest =>
    have Rt:Option.rec (motive:=fun _=>Prop) False (fun rest =>
     oG P E A d top b key t h (g_ b l ks (aL fun I s h=>oG P E A d top rest key (Ah A.n ks s) h (g_ b l ks I fun e t h=>K e (Ah A.n out (jd t out)) h)) K)) (findLabel b l):=R
    rw[hfl] at Rt
    have hh2:oG P E A d top b key t h (g_ b l ks (aL fun I s h=>oG P E A d top rest key (Ah A.n ks s) h (g_ b l ks I fun e t h=>K e (Ah A.n out (jd t out)) h)) K):=Rt
    have Ahv:∀ s h,aL (fun I s h=>oG P E A d top rest key (Ah A.n ks s) h (g_ b l ks I fun e t h=>K e (Ah A.n out (jd t out)) h)) s h->Rw P top A.n b rest (Ah A.n ks s) h K:=by
     intro s h hL
     refine hL.w (fun s h=>Rw P top A.n b rest (Ah A.n ks s) h K) ?_
     intro s h J hJ hG
     refine sv (K1:=fun e t h=>IF e (K .normal t h) (fun id=>K (.exit id) t h) (fun l=>(findLabel b l=none/\K (.goto l) t h)\/∃ rest,findLabel b l=some rest/\Rw P top A.n b rest t h K) (K .ret t h)) ((C _ _ _ _ _ _ hG).Y6 ?_) (fun l t h q=>q) (fun e t h im q=>?_)
     . intro e t h q
       cases e with
       | normal=>exact⟨_,q,fun ρ T hs p=>tE _ p hs⟩
       | exit _=>exact⟨_,q,fun ρ T hs p=>tE _ p hs⟩
       | ret=>exact⟨_,q,fun ρ T hs p=>tE _ p hs⟩
       | goto l' =>
        have o:Bool.rec (motive:=fun _=>Prop) (Option.rec (motive:=fun _=>Prop) (K (.goto l') (Ah A.n out (jd t out)) h) (fun _=>False) (findLabel b l')) (J (jd t ks) h) (Nat.beq l' l):=q
        rw[ax] at o
        by_cases e:l'=l
        . subst e
          simp only[decide_true] at o
          exact⟨_,.inr ⟨rest,hfl,hJ _ _ o⟩,fun ρ T hs p=>tE _ p hs⟩
        . simp only[e,decide_false] at o
          cases U:findLabel b l' with
          | none=>rw[U] at o;exact⟨_,.inl ⟨U,o⟩,fun ρ T hs p=>tE _ p hs⟩
          | some r2=>rw[U] at o;exact o.elim
     . cases e with
       | normal=>exact q
       | exit _=>exact q
       | goto l=>exact absurd rfl (im l)
       | ret=>exact q
    refine sv (C _ _ _ _ _ _ hh2) (fun l' t h q=>?_) (fun e t h im q=>?_)
    . have o:Bool.rec (motive:=fun _=>Prop) (Option.rec (motive:=fun _=>Prop) (K (.goto l') t h) (fun _=>False) (findLabel b l')) (aL (fun I s h=>oG P E A d top rest key (Ah A.n ks s) h (g_ b l ks I fun e t h=>K e (Ah A.n out (jd t out)) h)) (jd t ks) h) (Nat.beq l' l):=q
      rw[ax] at o
      by_cases e:l'=l
      . subst e
        simp only[decide_true] at o
        have w:=Ahv _ _ o
        exact .inr ⟨rest,hfl,fun rr base ρ a W hR hb p hH hs hM=>w rr base ρ a W hR hb (tE _ p hs) hH hs hM⟩
      . simp only[e,decide_false] at o
        cases U:findLabel b l' with
        | none=>rw[U] at o;exact .inl ⟨rfl,o⟩
        | some r2=>rw[U] at o;exact o.elim
    . cases e with
      | normal=>exact q
      | exit _=>exact q
      | goto l=>exact absurd rfl (im l)
      | ret=>exact q
  | nil =>
  intro hh
  have Ahw:∀ (j:Nat) (c:Code) (t:B) (h:H),oG P E A d top c key t h (jumps (oG P E A d top) b key K j)->Rw P top A.n b c t h K:=by
   intro j
   induction j with
   | zero =>
    intro c t h hh
    refine sv (C _ _ _ _ _ _ hh) (fun l t h q=>?_) (fun e t h im q=>?_)
    . have o:Option.rec (motive:=fun _=>Prop) (K (.goto l) t h) (fun rest=>False) (findLabel b l):=q
      cases hf:findLabel b l with
      | none=>rw[hf] at o;exact .inl ⟨rfl,o⟩
      | some r2=>rw[hf] at o;exact o.elim
    . cases e with
      | normal=>exact q
      | exit _=>exact q
      | goto l=>exact absurd rfl (im l)
      | ret=>exact q
   | succ j ihj =>
    intro c t h hh
    refine sv (C _ _ _ _ _ _ hh) (fun l t h q=>?_) (fun e t h im q=>?_)
    . have o:Option.rec (motive:=fun _=>Prop) (K (.goto l) t h) (fun rest=>oG P E A d top rest key t h (jumps (oG P E A d top) b key K j)) (findLabel b l):=q
      cases hf:findLabel b l with
      | none=>rw[hf] at o;exact .inl ⟨rfl,o⟩
      | some r2=>rw[hf] at o;exact .inr ⟨r2,rfl,ihj _ _ _ o⟩
    . cases e with
      | normal=>exact q
      | exit _=>exact q
      | goto l=>exact absurd rfl (im l)
      | ret=>exact q
  exact Ahw 2 b t h hh
 | label l=>exact qN .normal (fun rr Q a w q=>wpIn_label q) (fun b q=>by cases q) hh
 | goto l=>exact qN (.goto l) (fun rr Q a w q=>wpIn_goto q) (fun b q=>by cases q) hh
 | ret=>exact qN .ret (fun rr Q a w q=>wpIn_ret q) (fun b q=>by cases q) hh
 | refuse w=>exact hh.elim
theorem Vw (hE:bj P E) {ops:Array Oper} {K:B->H->Prop} {N:Nat}:∀ (rest:List Oper) (i:Nat) (p:List Nat) (t:B) (h:H),Sz t N->Rk P E ops.toList K rest i p t h->∃ t h,Sz t N/\K t h:=by
 intro rest
 induction rest with
 | nil=>intro i p t h C hh;exact⟨t,h,C,hh⟩
 | cons o rest U =>
  intro i p t h C hh
  have J:Eu ops.toList p t (fun t=>opC P E o.op (ev t) h fun v h'=>Rk P E ops.toList K rest (Nat.add i 1) p (nr t o.dst v) h') (fun t=>Rk P E ops.toList K rest (Nat.add i 1) (i :: p) (nr t o.dst undef) h) o.guard:=hh
  obtain⟨b,hg,R,j⟩:=xI (o:=o) C J
  have I:∀ v,Sz (nr t o.dst v) N:=fun v=>by cases o.dst with | none=>exact C | some d=>exact C.set d v
  cases b with
  | false=>exact U _ _ _ _ (I _) (j rfl)
  | true =>
   obtain⟨v,h',hk⟩:=(BT hE (R rfl)).1
   exact U _ _ _ _ (I _) hk
theorem MQ (j:bj P E) {ops:Array Oper} {draw:Bool} {N:Nat} {t:B} {h:H} {K:B->H->Prop} (o:Sz t N) (hh:Di P E ops draw t h K):∃ t h,Sz t N/\K t h:=by
 cases draw with
 | false=>exact Vw j ops.toList 0 [] t h o hh
 | true =>
  obtain⟨ps,p,C⟩:=aD.1 (show af (vn E ops.toList) _ from hh)
  obtain⟨h',al,hl,h2⟩:=IK ops.toList 0 h [] C
  obtain⟨mem,⟨T,hm⟩,I,_⟩:=Fp j (N:=N) ops.toList 0 [] [] [] t h' o (fun x hx=>by cases hx) h2
  exact⟨_,_,(I T hm).2⟩
theorem JM (hE:bj P E) (A:Ann) (d:Nat)
 (ihS:∀ (top:Bool) (c:Code) (key:Nat) (t:B) (h:H) (K:gj),oG P E A d top c key t h K->Ax P top A.n c t h K)
 (p:∀ (top:Bool) (c:Code) (key:Nat) (t:B) (h:H) (K:gj),Sz t A.n->oG P E A d top c key t h K->∃ e t h,Sz t A.n/\K e t h) :
 ∀ (top:Bool) (c:Code) (key:Nat) (t:B) (h:H) (K:gj),Sz t A.n->oG P E A (d+1) top c key t h K->∃ e t h,Sz t A.n/\K e t h:=by
 intro top c key t h K R hh
 have jl:∀ (b:Code) (j:Nat) (c:Code) (t:B) (h:H),Sz t A.n->oG P E A d top c key t h (jumps (oG P E A d top) b key K j)->∃ e t h,Sz t A.n/\K e t h:=by
  intro b j
  induction j with
  | zero =>
   intro c t h R hh
   obtain⟨e,t1,C,o,x⟩:=p _ _ _ _ _ _ R hh
   cases e with
   | normal=>exact⟨_,_,_,o,x⟩
   | exit id=>exact⟨_,_,_,o,x⟩
   | ret=>exact⟨_,_,_,o,x⟩
   | goto l =>
    have q':Option.rec (motive:=fun _=>Prop) (K (.goto l) t1 C) (fun rest=>False) (findLabel b l):=x
    cases hf:findLabel b l with
    | none=>rw[hf] at q';exact⟨_,_,_,o,q'⟩
    | some r2=>rw[hf] at q';exact q'.elim
  | succ j ihj =>
   intro c t h R hh
   obtain⟨e,t1,C,o,x⟩:=p _ _ _ _ _ _ R hh
   cases e with
   | normal=>exact⟨_,_,_,o,x⟩
   | exit id=>exact⟨_,_,_,o,x⟩
   | ret=>exact⟨_,_,_,o,x⟩
   | goto l =>
    have q':Option.rec (motive:=fun _=>Prop) (K (.goto l) t1 C) (fun rest=>oG P E A d top rest key t1 C (jumps (oG P E A d top) b key K j)) (findLabel b l):=x
    cases hf:findLabel b l with
    | none=>rw[hf] at q';exact⟨_,_,_,o,q'⟩
    | some r2=>rw[hf] at q';exact ihj _ _ _ o q'
 cases c with
 | skip=>exact⟨_,_,_,R,hh⟩
 | region id ops draw =>
  obtain⟨t1,C,k⟩:=MQ hE R (show Di P E ops draw t h _ from hh)
  exact⟨_,t1,C,k⟩
 | seq a b =>
  obtain⟨e,t1,C,o,x⟩:=p _ _ _ _ _ _ R hh
  cases e with
  | normal=>exact p _ _ _ _ _ _ o x
  | exit _=>exact⟨_,_,_,o,x⟩
  | goto _=>exact⟨_,_,_,o,x⟩
  | ret=>exact⟨_,_,_,o,x⟩
 | cond c a b =>
  have RM:aG (ev t c) (oG P E A d top a key t h K) (oG P E A d top b key t h K):=hh
  cases RM with
  | yes e x=>exact p _ _ _ _ _ _ R x
  | no e x=>exact p _ _ _ _ _ _ R x
 | block id b =>
  obtain⟨e,t1,C,o,x⟩:=p _ _ _ _ _ _ R hh
  cases e with
  | normal=>exact⟨_,_,_,o,x⟩
  | goto _=>exact⟨_,_,_,o,x⟩
  | ret=>exact⟨_,_,_,o,x⟩
  | exit k =>
   have x':Bool.rec (motive:=fun _=>Prop) (K (.exit k) t1 C) (K .normal t1 C) (Nat.beq k id):=x
   cases q:Nat.beq k id with
   | true=>rw[q] at x';exact⟨_,_,_,o,x'⟩
   | false=>rw[q] at x';exact⟨_,_,_,o,x'⟩
 | loop b =>
  have RM:aL (fun I s h=>oG P E A d top b key (Ah A.n (gS A.loops key).1 s) h (Rm (gS A.loops key).1 (gS A.loops key).2 I fun e s h=>K e (Ah A.n (gS A.loops key).2 s) h)) (jd t (gS A.loops key).1) h:=hh
  refine RM.w (fun _ _=>∃ e t h,Sz t A.n/\K e t h) ?_
  intro s h J hJ hG
  obtain⟨e,t1,C,o,x⟩:=p _ _ _ _ _ _ (Ev _ _) hG
  cases e with
  | normal=>exact hJ _ _ x
  | exit _=>exact⟨_,_,_,Ev _ _,x⟩
  | goto _=>exact⟨_,_,_,Ev _ _,x⟩
  | ret=>exact⟨_,_,_,Ev _ _,x⟩
 | rangeFunc f ps zQq bd =>
  cases top with
  | false=>exact hh.elim
  | true =>
   have U:uN P (ev t f) ps.toList.length
    (fun args h bz KR=>oG P E A d false zQq key (kZ t ps.toList (BS args (len ps.toList) 0)) h (KS (fun t h=>bz h fun h=>oG P E A d false bd key t h (fun e _ h=>KR e h)) (fun _ _ _=>False))) h
    (fun e h=>onJ e (K .normal t h) (JC (fun id=>(id,K (.exit id) t h)) (MM bd)) (K .ret t h)):=hh
   obtain⟨g,first,captured,Q,hfv,hcw,hQ⟩:=IL R ihS p U
   obtain⟨v,h',q⟩:=hcw.2.1
   obtain⟨e,s,_,_,x⟩:=hQ _ _ q
   exact⟨_,_,_,R,Tt x⟩
 | exit id=>exact⟨_,_,_,R,hh⟩
 | scope b =>
  have U:List.casesOn (motive:=fun _=>Prop) (gS A.scopes key).1 (oG P E A d top b key t h (jumps (oG P E A d top) b key K 2)) (fun l ks=>Option.rec (motive:=fun _=>Prop) False (fun rest =>
   oG P E A d top b key t h (g_ b l ks (aL fun I s h=>oG P E A d top rest key (Ah A.n ks s) h (g_ b l ks I fun e t h=>K e (Ah A.n (gS A.scopes key).2 (jd t (gS A.scopes key).2)) h)) K)) (findLabel b l)):=hh
  revert U
  generalize (gS A.scopes key).2=out
  cases (gS A.scopes key).1 with
  | nil=>intro U;exact jl b 2 b t h R U
  | cons l ks =>
   intro U
   cases hfl:findLabel b l with
   | none =>
    have Rt:Option.rec (motive:=fun _=>Prop) False (fun rest =>
     oG P E A d top b key t h (g_ b l ks (aL fun I s h=>oG P E A d top rest key (Ah A.n ks s) h (g_ b l ks I fun e t h=>K e (Ah A.n out (jd t out)) h)) K)) (findLabel b l):=U
    rw[hfl] at Rt;exact Rt.elim
   | some rest =>
    have Rt:Option.rec (motive:=fun _=>Prop) False (fun rest =>
     oG P E A d top b key t h (g_ b l ks (aL fun I s h=>oG P E A d top rest key (Ah A.n ks s) h (g_ b l ks I fun e t h=>K e (Ah A.n out (jd t out)) h)) K)) (findLabel b l):=U
    rw[hfl] at Rt
    have sl:∀ (e:AE) (t1:B) (C:H) (X:List Value->H->Prop) (K':gj) (F:Prop),(∀ s h,X s h->F)->(∀ e t h,Sz t A.n->K' e t h->F)->Sz t1 A.n->g_ b l ks X K' e t1 C->F:=by
     intro e t1 C X K' F hX hK o x
     cases e with
     | normal=>exact hK _ _ _ o x
     | exit _=>exact hK _ _ _ o x
     | ret=>exact hK _ _ _ o x
     | goto l' =>
      have x':Bool.rec (motive:=fun _=>Prop) (Option.rec (motive:=fun _=>Prop) (K' (.goto l') t1 C) (fun _=>False) (findLabel b l')) (X (jd t1 ks) C) (Nat.beq l' l):=x
      cases q:Nat.beq l' l with
      | true=>rw[q] at x';exact hX _ _ x'
      | false =>
       rw[q] at x'
       have x2:Option.rec (motive:=fun _=>Prop) (K' (.goto l') t1 C) (fun _=>False) (findLabel b l'):=x'
       cases hf2:findLabel b l' with
       | none=>rw[hf2] at x2;exact hK _ _ _ o x2
       | some r2=>rw[hf2] at x2;exact x2.elim
    obtain⟨e,t1,C,o,x⟩:=p _ _ _ _ _ _ R (show oG P E A d top b key t h (g_ b l ks (aL fun I s h=>oG P E A d top rest key (Ah A.n ks s) h (g_ b l ks I fun e t h=>K e (Ah A.n out (jd t out)) h)) K) from Rt)
    refine sl e t1 C _ K _ ?_ (fun e t h R k=>⟨e,t,h,R,k⟩) o x
    intro s h2 hL
    refine hL.w (fun _ _=>∃ e t h,Sz t A.n/\K e t h) ?_
    intro s h J hJ hG
    obtain⟨e,t1,C,o,x⟩:=p _ _ _ _ _ _ (Ev _ _) hG
    exact sl e t1 C J _ _ (fun s h j=>hJ s h j) (fun e t h _ k=>⟨e,_,h,Ev _ _,k⟩) o x
 | label l=>exact⟨_,_,_,R,hh⟩
 | goto l=>exact⟨_,_,_,R,hh⟩
 | ret=>exact⟨_,_,_,R,hh⟩
 | refuse w=>exact hh.elim
theorem PE (o:bj P E) (A:Ann) (d:Nat):(∀ (top:Bool) (c:Code) (key:Nat) (t:B) (h:H) (K:gj),oG P E A d top c key t h K->Ax P top A.n c t h K) ∧
 ∀ (top:Bool) (c:Code) (key:Nat) (t:B) (h:H) (K:gj),Sz t A.n->oG P E A d top c key t h K->∃ e t h,Sz t A.n/\K e t h:=by
 induction d with
 | zero=>exact⟨fun top c key t h K hh=>hh.elim,fun top c key t h K _ hh=>hh.elim⟩
 | succ d j=>exact⟨IM o A d j.1 j.2,JM o A d j.1 j.2⟩
theorem Vx (j:bj P E) (A:Ann) (d:Nat):∀ (top:Bool) (c:Code) (key:Nat) (t:B) (h:H) (K:gj),oG P E A d top c key t h K->Ax P top A.n c t h K:=(PE j A d).1
theorem body_sound (R:bj P E) {f:FuncId} {fd:Func} (hf:E.funcs.get f=some fd) {A:Ann} {args:List Value} {h:H} {Q:Value->H->Prop} (hn:A.n=args.length+(fd.ntmps-args.length)) (hh:AbP P E A fd args h Q):aj P f args h Q:=by
 obtain⟨body,j,hw⟩:=aD.1 hh
 have hP:=R.funcs f fd hf
 have live:∃ v h',Q v h':=by
  have p:=B.AbF (args.length+(fd.ntmps+1)) (args.length+(fd.ntmps-args.length)) om
  have hS:=(Dc args _ _ 0 0 p).1
  rw[<-hn] at hS
  have I:=hw
  rw[br] at I
  obtain⟨e,t,h1,_,k⟩:=(PE R A 200).2 _ _ _ _ _ _ (by rw[hn];exact (Dc args _ _ 0 0 p).1) I
  cases e with
  | normal=>obtain⟨vs,_,q⟩:=aD.1 (show af _ _ from k);exact⟨_,_,q⟩
  | ret=>obtain⟨vs,_,q⟩:=aD.1 (show af _ _ from k);exact⟨_,_,q⟩
  | exit _=>exact k.elim
  | goto _=>exact k.elim
 refine⟨⟨fd,body,hP,j⟩,live,fun ρ ARGS W hA hH=>?_⟩
 refine (callsIn_wide (n:=0)).1 (callsIn_of_wp_marks hP j trivial ?_)
 have hT:=Pb hA fd.ntmps
 have hl:=hA.length
 have:=cA (Vx R A 200 true body 0 _ h _ hw none W.heap.size ρ { tmps:=ARGS.toArray++Array.replicate (fd.ntmps-ARGS.toArray.size) Go.undef,defers:=[] } W (fun _=>rfl) nlr hT hH (by simp[hn,hl]) (Marks.nil _ _ _ _))
 refine Go.Code.wpIn_mono ?_ this
 rintro e a1 W1 ⟨e',t',h',k,rfl,hs,U,k1,k2,o,Bs,hD,hnd,hB⟩
 have fin:af (mr E ⟨t',[],h'⟩ fd.results.toList) (fun vs=>Q (cN vs) h')->LeavesInM Fence.wide 0 P fd a1.tmps (fun e W'=>∃ v h',Q v h'/\oq ρ h W v h' e W') a1.defers .returning W1:=by
  intro hq
  obtain⟨vs,hvs,q⟩:=aD.1 hq
  rw[hD]
  refine Df Bs W1 hnd hB k2 fun W' q1 q2 q3 q4 q5 q6=>?_
  obtain⟨V,hV,J⟩:=A_ R (st:=⟨t',[],h'⟩) k1 q1 fd vs hvs
  refine⟨V,hV,cN vs,h',q,U,J,q1,o.le,by rw[q2];exact o.size,q3.trans o.os,q4.trans o.tape,q5.trans o.output,?_,o.own,o.next,o.cK⟩
  intro C hC hn
  exact (q6 C hC).trans (o.kept C hC hn)
 cases e' with
 | normal=>exact fin k
 | ret=>exact fin k
 | exit _=>exact k.elim
 | goto _=>exact k.elim
#print axioms body_sound
end Go.X
namespace Go.X
open Go
noncomputable def aw (h:H) (a:Value):Option Value:=(addrOf a).bind fun a=>(h.row a.block).bind fun x=>nth x.cs a.off
noncomputable def fJ (n:Nat) (h:H) (a:Value):Option Value:=(addrOf a).bind fun a=>SR h a n
noncomputable def wa (n:Nat) (h:H) (a x:Value):Option H:=(addrOf a).bind fun a=>(cells x).bind fun cs=>bif Nat.beq (len cs) n then storeCells h a cs else none
noncomputable def jx (o:Nat) (x:Value):Option Value:=(addrOf x).bind fun a=>some (.pointer (some (nE a o)))
noncomputable def cq (h:H) (e:TypeId) (c:List Value) (K:Value->H->Prop):Prop:=K (li h) (newRow h e c 0)
noncomputable def dW (h:H) (e:TypeId) (x:Value) (K:Value->H->Prop):Prop:=af (cells x) fun c=>K (li h) (newRow h e c 0)
noncomputable def gh (E:Env) (h:H) (t n:Nat) (ps:List (Nat × Value)) (K:Value->H->Prop):Prop:=af (dM E h t n ps) fun h'=>K (.slice (some ⟨h.next,0,none⟩) n n) h'
noncomputable def Oa (o:Nat) (x:Value):Option Value:=match x with | .agg cs=>nth cs.toList o | _=>none
noncomputable def blt (E:Env) (h:H) (b:Builtin) (ats:Array TypeId) (xs:List Value) (K:Value->H->Prop):Prop:=af (bq E h b ats xs) (Fx K)
def bs (l:List Nat):ByteArray:=⟨⟨l.map UInt8.ofNat⟩⟩
end Go.X
namespace Go.X
open Go
variable {P:Program} {E:Env}
structure Fr (h h':H):Prop where
 next:h.next<=h'.next
 cK:∀ b,b<h.next->h'.get b=h.get b
theorem Fr.refl (h:H):Fr h h:=⟨Nat.le_refl _,fun _ _=>rfl⟩
theorem Fr.trans {a b c:H} (x:Fr a b) (y:Fr b c):Fr a c:=⟨Nat.le_trans x.next y.next,fun k hk=>(y.cK k (Nat.lt_of_lt_of_le hk x.next)).trans (x.cK k hk)⟩
theorem Fr.newRow {h0 h:H} (x:Fr h0 h) (e:TypeId) (c:List Value) (k:Nat):Fr h0 (newRow h e c k):=by
 refine⟨?_,fun b hb=>?_⟩
 . show h0.next<=h.next+1;have:=x.next;omega
 . show (h.new _).get b=_
   rw[H.eF,if_neg (by have:=x.next;omega)];exact x.cK b hb
theorem Fr.put {h0 h:H} (x:Fr h0 h) {b:Nat} (o:kJ) (hb:h0.next<=b):Fr h0 (h.put b o) :=
 ⟨x.next,fun c hc=>by rw[H.d',if_neg om];exact x.cK c hc⟩
mutual
/-- a value Uo leads to nothing -/
def flat:Value->Bool
 | .bool _ | .int _ _ | .float _ _ | .string _ | .pointer none | .slice none _ _ | .map none | .nilFunc | .nilIface=>true
 | .agg ⟨l⟩=>xO l
 | .tuple ⟨l⟩=>xO l
 | .iface _ v=>flat v
 | _=>false
def xO:List Value->Bool
 | []=>true
 | v :: l=>flat v&&xO l
end
def Tu (ρ bY:bS) (n:Nat):Prop:=∀ b,b<n->bY b=ρ b
theorem aK.back {ρ bY:bS} {n:Nat} (ha:Tu ρ bY n) (hd:∀ b r,ρ b=some r->b<n) {v R:Value} (h0:aK ρ v R):∀ V,aK bY v V->aK ρ v V:=by
 refine aK.rec (motive_1:=fun v R _=>∀ V,aK bY v V->aK ρ v V) (motive_2:=fun l L0 _=>∀ L,bc bY l L->bc ρ l L) ?_ ?_ ?_ ?_ ?_ ?_ ?_ ?_ ?_ ?_ ?_ ?_ ?_ ?_ ?_ ?_ ?_ ?_ ?_ h0
 . exact fun _ V _=>.Aj V
 . intro b V h;cases h;exact .bool b
 . intro k n V h;cases h;exact .int k n
 . intro k n V h;cases h;exact .float k n
 . intro s V h;cases h;exact .string s
 . intro V h;cases h;exact .Lz
 . intro b o r e V h
   cases h with | ptr _ _ r' j=>exact .ptr b o r' ((ha b (hd b r e)) ▸ j)
 . intro l c V h;cases h;exact .snil l c
 . intro b o l c A C r e hs V h
   cases h with | slice _ _ _ _ U p r' j O6=>exact .slice b o l c U p r' ((ha b (hd b r e)) ▸ j) O6
 . intro V h;cases h;exact .AaJ
 . intro b r e V h
   cases h with | map _ r' j=>exact .map b r' ((ha b (hd b r e)) ▸ j)
 . intro f F a A c C hf _ _ ia ic V h
   cases h with
   | func _ F' _ U _ p I VG Un =>
    refine .func f F' a U c p ?_ (ia _ VG) (ic _ Un)
    cases hf with
    | func f=>cases I;exact .func f
    | method s=>cases I;exact .method s
    | yield l r e=>cases I with | yield _ r' j=>exact .yield l r' ((ha l (hd l r e)) ▸ j)
 . intro V h;cases h;exact .nilFunc
 . intro t v R _ J V h
   cases h with | iface _ _ V' hv=>exact .iface t v V' (J _ hv)
 . intro V h;cases h;exact .nilIface
 . intro c C _ J V h
   cases h with | agg _ p hc=>exact .agg c p (J _ hc)
 . intro c C _ J V h
   cases h with | tuple _ p hc=>exact .tuple c p (J _ hc)
 . intro L h;cases h;exact .nil
 . intro v R l L0 _ _ J il L h
   cases h with | cons _ V _ L hv hl=>exact .cons v V l L (J _ hv) (il _ hl)
theorem m8.back {ρ bY:bS} {n:Nat} (ha:Tu ρ bY n) (hd:∀ b r,ρ b=some r->b<n) {l J:List MapEntry} (h0:m8 ρ l J):∀ L,m8 bY l L->m8 ρ l L:=by
 induction h0 with
 | nil=>intro L h;cases h;exact .nil
 | cons e E l L hk hv hb _ R =>
  intro I h
  cases h with | cons _ U _ I j o p C=>exact .cons e U l I (hk.back ha hd _ j) (hv.back ha hd _ o) p (R _ C)
theorem CZ.back {ρ bY:bS} {n:Nat} (ha:Tu ρ bY n) (hd:∀ b r,ρ b=some r->b<n) {r:RI} {W W':World} {x:kJ} (h0:CZ ρ r W x) (h:CZ bY r W' x):CZ ρ r W' x:=by
 cases x with
 | row x =>
  obtain⟨C0,F0,a1,j,a3,a4,a5,R,a7⟩:=h0
  obtain⟨C,F,p,h2,U,I,h5,h6,h7⟩:=h
  refine⟨C,F,p,h2,U,I,h5,fun i v e=>?_,h7⟩
  obtain⟨V0,_,J⟩:=R i v e
  obtain⟨V,e',hv⟩:=h6 i v e
  exact⟨V,e',J.back ha hd _ hv⟩
 | map es clock =>
  obtain⟨ES0,_,j⟩:=h0
  obtain⟨ES,p,h2⟩:=h
  exact⟨ES,p,j.back ha hd _ h2⟩
 | iter s pos=>exact h
 | loop state pending fn tmps params assign body d =>
  obtain⟨T0,_,_,j,_⟩:=h0
  obtain⟨T,fn,d,h2,I⟩:=h
  exact⟨T,fn,d,⟨h2.1,fun k=>(j.2 k).back ha hd _ (h2.2 k)⟩,I⟩
 | deferred o=>exact h
theorem aX.back {ρ bY:bS} {h h':H} {W W':World} (h0:aX ρ h W) (R:aX bY h' W') (hx:Ext ρ h W bY h' W') (hf:Fr h h'):aX ρ h W'/\Ext ρ h W ρ h W':=by
 have ha:Tu ρ bY h.next:=fun b hb=>hx.cK b hb
 have hd:∀ b r,ρ b=some r->b<h.next:=fun b r e=>(h0.we b r e).1
 refine⟨⟨?_,?_,?_,h0.fresh⟩,⟨ρ.le_refl,hx.size,hx.os,hx.tape,hx.output,hx.kept,?_,Nat.le_refl _,fun _ _=>rfl⟩⟩
 . intro b x r o j
   have hb:=hd b r j
   exact (h0.obj b x r o j).back ha hd (R.obj b x r ((hf.cK b hb).trans o) ((ha b hb).trans j))
 . intro b b' x x' r r' o I j p im J
   have hb:=hd b r j
   have C:=hd b' r' p
   exact R.inj b b' x x' r r' ((hf.cK b hb).trans o) ((hf.cK b' C).trans I) ((ha b hb).trans j) ((ha b' C).trans p) im J
 . intro b r e
   have:=h0.we b r e
   exact⟨this.1,Nat.lt_of_lt_of_le this.2 hx.size⟩
 . intro b x r o j U _
   exact⟨b,x,r,o,j,U,rfl⟩
theorem M2 {v:Value}:∀ {ρ bY:bS} {V:Value},flat v=true->aK bY v V->aK ρ v V:=by
 intro ρ bY V hf h
 revert hf
 refine aK.rec (motive_1:=fun v V _=>flat v=true->aK ρ v V) (motive_2:=fun l L _=>xO l=true->bc ρ l L) ?_ ?_ ?_ ?_ ?_ ?_ ?_ ?_ ?_ ?_ ?_ ?_ ?_ ?_ ?_ ?_ ?_ ?_ ?_ h
 . exact fun V _=>.Aj V
 . exact fun b _=>.bool b
 . exact fun k n _=>.int k n
 . exact fun k n _=>.float k n
 . exact fun s _=>.string s
 . exact fun _=>.Lz
 . intro b o r e h;simp[flat] at h
 . exact fun l c _=>.snil l c
 . intro b o l c A C r e hs h;simp[flat] at h
 . exact fun _=>.AaJ
 . intro b r e h;simp[flat] at h
 . intro f F a A c C hf _ _ I J h;simp[flat] at h
 . exact fun _=>.nilFunc
 . intro t v V _ j h;exact .iface t v V (j (by simpa [flat] using h))
 . exact fun _=>.nilIface
 . intro c C _ j h;exact .agg c C (j (by obtain⟨l⟩:=c;simpa [flat] using h))
 . intro c C _ j h;exact .tuple c C (j (by obtain⟨l⟩:=c;simpa [flat] using h))
 . exact fun _=>.nil
 . intro v V l L _ _ j p h
   simp only[xO,Bool.and_eq_true] at h
   exact .cons v V l L (j h.1) (p h.2)
theorem aj.flat {f:FuncId} {args:List Value} {h:H} {Q:Value->Prop} (x:aj P f args h fun v h'=>(flat v=true/\Q v)/\Fr h h'):aj P f args h fun v h'=>h'=h/\Q v:=by
 refine⟨x.1,?_,fun ρ ARGS W p o=>(x.2.2 ρ ARGS W p o).mono fun e W'=>?_⟩
 . obtain⟨v,_,⟨_,q⟩,_⟩:=x.2.1
   exact⟨v,h,rfl,q⟩
 . rintro⟨v,h',⟨⟨hr,q⟩,hf⟩,j⟩
   refine⟨v,h,⟨rfl,q⟩,?_⟩
   cases e with
   | returned V =>
    obtain⟨bY,C,I,J⟩:=j
    obtain⟨R,U⟩:=o.back I J hf
    exact⟨ρ,M2 hr C,R,U⟩
   | panicked _=>exact j.elim
   | outgrown=>exact j.elim
theorem aj.pure {f:FuncId} {args:List Value} {h:H} {r:Value} (x:aj P f args h fun v h'=>v=r/\Fr h h') (hr:X.flat r=true):ai P f args h (.v r h) :=
 ((aj.flat (Q:=fun v=>v=r) (x.mono fun v h' q=>⟨⟨by rw[q.1];exact hr,q.1⟩,q.2⟩)).mono fun v h' q=>⟨q.2,q.1⟩).one
theorem ar {f:FuncId} {args:List Value} {h:H} {v:Value} {h':H} {K:Value->H->Prop} (hc:ai P f args h (.v v h')) (hk:K v h'):xR P f args h K:=.call (.of hc hk)
end Go.X
namespace Go.Proofs.YtikojelnedfmpaaGreatDoor
open Go Go.X
set_option maxRecDepth 1000000
def PU:List TypeId:=[7,8,24,25,38,39,41,42,43,44,50,51,52,53,64,65,66,70,71,91,92,102,103,141,142,178,179,181,182,227]
noncomputable abbrev PP:Program:=Tryz.prog
noncomputable def EE:Env:=Env.of Tryz.prog [] PU
theorem b1:YQ Tryz.prog=true:=by kernel_rfl
theorem b2:AfK Tryz.prog=true:=by kernel_rfl
theorem b3:Tryz.prog.types.size<2 ^ 20:=of_decide_eq_true (by kernel_rfl)
theorem b4:Tryz.prog.funcs.size<2 ^ 20:=of_decide_eq_true (by kernel_rfl)
theorem b6:Tryz.prog.follows .mixedOrders=true:=Tryz.checked.mixed
theorem b5:AfL Tryz.prog PU=true:=by kernel_rfl
theorem JU:bj PP EE:=M3 _ _ _ b3 b4 b1 b2 b6 b5 (fun f k h=>by cases h)
noncomputable abbrev CP (f:FuncId) (args:List Value) (h:H) (K:Value->H->Prop):Prop:=xR PP f args h K
noncomputable abbrev DP (v:Value) (args:List Value) (h:H) (K:Value->H->Prop):Prop:=AdJ PP EE v args h K
abbrev KQ:Type:=Value->H->Prop
abbrev KI:Type:=List Value->H->Prop
theorem okF{n:FuncId}{l:List Value}{h:H}{Q:KQ}{X:Prop}(F:Func)(A:Ann)(x:X)(g:EE.funcs.get n=some F:=by kernel_rfl)(a:A.n=l.length+(F.ntmps-l.length):=by kernel_rfl)(e:AbP PP EE A F l h Q=X:=by kernel_rfl):aj PP n l h Q:=body_sound JU g a (e.mpr x)
abbrev cv:FuncId:=3
abbrev mo:FuncId:=4
abbrev gT:FuncId:=5
abbrev e_:FuncId:=6
abbrev xn:FuncId:=7
abbrev DT:FuncId:=8
abbrev cy:FuncId:=9
abbrev cZ:FuncId:=10
abbrev me:FuncId:=11
abbrev lY:FuncId:=12
abbrev zj:FuncId:=13
abbrev xc:FuncId:=14
abbrev Bx:FuncId:=15
abbrev gK:FuncId:=16
abbrev cg:FuncId:=17
abbrev bV:FuncId:=18
abbrev bO:FuncId:=19
abbrev kz:FuncId:=24
abbrev zh:FuncId:=25
abbrev eQ:FuncId:=26
abbrev ky:FuncId:=27
abbrev gJ:FuncId:=28
abbrev nM:FuncId:=29
abbrev sk:FuncId:=30
abbrev sA:FuncId:=31
abbrev wW:FuncId:=32
abbrev fG:FuncId:=33
abbrev wX:FuncId:=34
abbrev Bw:FuncId:=35
abbrev yX:FuncId:=36
abbrev sg:FuncId:=37
abbrev Bv:FuncId:=38
abbrev cP:FuncId:=39
abbrev jz:FuncId:=40
abbrev fC:FuncId:=41
abbrev bh:FuncId:=42
abbrev uI:FuncId:=47
abbrev zg:FuncId:=48
abbrev va:FuncId:=49
abbrev dN:FuncId:=50
abbrev aC:FuncId:=51
abbrev aW:FuncId:=52
abbrev ml:FuncId:=53
abbrev wI:FuncId:=54
abbrev pC:FuncId:=55
abbrev jt:FuncId:=56
abbrev ta:FuncId:=57
abbrev nK:FuncId:=58
abbrev jM:FuncId:=59
abbrev bo:FuncId:=60
abbrev dC:FuncId:=61
abbrev ju:FuncId:=62
abbrev jy:FuncId:=63
abbrev c_:FuncId:=64
abbrev rq:FuncId:=75
abbrev rC:FuncId:=76
abbrev nt:FuncId:=77
abbrev zY:FuncId:=78
abbrev BF:FuncId:=79
abbrev BH:FuncId:=80
abbrev cH:FuncId:=81
abbrev jk:FuncId:=82
abbrev kq:FuncId:=83
abbrev kp:FuncId:=84
abbrev dY:FuncId:=85
abbrev sw:FuncId:=86
abbrev gv:FuncId:=87
abbrev sN:FuncId:=88
abbrev oU:FuncId:=89
abbrev uU:FuncId:=90
abbrev sR:FuncId:=91
abbrev py:FuncId:=92
abbrev mY:FuncId:=93
abbrev s0:FuncId:=94
abbrev zk:FuncId:=95
abbrev kv:FuncId:=96
abbrev kO:FuncId:=97
abbrev yO:FuncId:=98
abbrev wM:FuncId:=99
abbrev kQ:FuncId:=100
abbrev fU:FuncId:=101
abbrev ca:FuncId:=102
abbrev uQ:FuncId:=103
abbrev pB:FuncId:=104
abbrev jZ:FuncId:=105
abbrev oy:FuncId:=113
abbrev eD:FuncId:=114
abbrev de:FuncId:=115
abbrev xa:FuncId:=117
abbrev D2:FuncId:=118
abbrev y_:FuncId:=119
abbrev bJ:FuncId:=120
abbrev eO:FuncId:=121
abbrev Bj:FuncId:=122
abbrev qt:FuncId:=123
abbrev Cl:FuncId:=124
abbrev pv:FuncId:=125
abbrev Dy:FuncId:=126
abbrev dh:FuncId:=127
abbrev kg:FuncId:=128
abbrev lz:FuncId:=129
abbrev iv:FuncId:=130
abbrev jg:FuncId:=131
abbrev dK:FuncId:=132
abbrev iC:FuncId:=133
abbrev wK:FuncId:=134
abbrev gB:FuncId:=135
abbrev tV:FuncId:=136
abbrev wA:FuncId:=137
abbrev fK:FuncId:=138
abbrev mj:FuncId:=139
abbrev ei:FuncId:=140
abbrev yJ:FuncId:=141
abbrev qH:FuncId:=142
abbrev mX:FuncId:=143
abbrev jN:FuncId:=144
abbrev tq:FuncId:=145
abbrev gm:FuncId:=146
abbrev DH:FuncId:=147
abbrev Dz:FuncId:=148
abbrev rR:FuncId:=149
abbrev uV:FuncId:=150
abbrev lE:FuncId:=151
abbrev cG:FuncId:=161
abbrev iS:FuncId:=162
abbrev tF:FuncId:=163
abbrev jJ:FuncId:=164
abbrev o6:FuncId:=165
abbrev uf:FuncId:=166
abbrev wJ:FuncId:=167
abbrev Bk:FuncId:=168
abbrev qT:FuncId:=169
abbrev b_:FuncId:=170
abbrev fP:FuncId:=171
abbrev fy:FuncId:=172
abbrev sH:FuncId:=173
abbrev lu:FuncId:=174
abbrev ly:FuncId:=175
abbrev lk:FuncId:=176
abbrev mf:FuncId:=177
abbrev ct:FuncId:=178
abbrev fS:FuncId:=179
abbrev mn:FuncId:=180
abbrev ft:FuncId:=181
abbrev xL:FuncId:=182
abbrev v_:FuncId:=183
abbrev tQ:FuncId:=184
abbrev Dm:FuncId:=185
abbrev nG:FuncId:=186
abbrev oe:FuncId:=187
abbrev uC:FuncId:=188
abbrev vj:FuncId:=189
abbrev ry:FuncId:=190
abbrev nc:FuncId:=191
abbrev lF:FuncId:=192
abbrev fm:FuncId:=193
abbrev aV:FuncId:=206
abbrev oZ:FuncId:=208
abbrev kT:FuncId:=209
abbrev wu:FuncId:=210
abbrev bw:FuncId:=211
abbrev j3:FuncId:=212
abbrev bL:FuncId:=213
abbrev uJ:FuncId:=214
abbrev jK:FuncId:=217
abbrev vc:FuncId:=218
abbrev eu:FuncId:=219
abbrev rK:FuncId:=220
abbrev eK:FuncId:=221
abbrev kU:FuncId:=222
abbrev gZ:FuncId:=236
abbrev rD:FuncId:=237
abbrev oH:FuncId:=238
abbrev qO:FuncId:=239
abbrev uk:FuncId:=240
abbrev iz:FuncId:=250
abbrev xi:FuncId:=251
abbrev dP:FuncId:=257
abbrev w_:FuncId:=258
abbrev ve:FuncId:=259
abbrev xb:FuncId:=260
end Go.Proofs.YtikojelnedfmpaaGreatDoor
namespace Go.X
open Go
attribute [simp] aa
@[simp] theorem AdN {α:Type} (k:α->Prop):af none k=False:=rfl
theorem B7 (X Y:Prop):aG (.bool true) X Y=X:=propext ⟨fun h=>(by cases h with | yes e x=>exact x | no e x=>cases e),fun h=>aG.yes rfl h⟩
theorem zL (X Y:Prop):aG (.bool false) X Y=Y:=propext ⟨fun h=>(by cases h with | yes e x=>cases e | no e x=>exact x),fun h=>aG.no rfl h⟩
@[simp] theorem ae (b:Bool) (X Y:Prop):aG (.bool b) X Y=if b=true then X else Y:=by
 cases b
 . rw[zL];simp
 . rw[B7];simp
@[simp] theorem ag (b w:Bool) (X Y:Prop):aH (.bool b) w X Y=if b=w then X else Y:=by cases b <;> cases w <;> rfl
@[simp] theorem AdX (h:H):li h=.pointer (some ⟨h.next,0,none⟩):=rfl
@[simp] theorem wq (h:H) (e:TypeId) (c:List Value) (K:Value->H->Prop):cq h e c K=K (.pointer (some ⟨h.next,0,none⟩)) (newRow h e c 0):=rfl
@[simp] theorem NA (h:H) (e:TypeId) (c:List Value) (K:Value->H->Prop):dW h e (.agg ⟨c⟩) K=K (.pointer (some ⟨h.next,0,none⟩)) (newRow h e c 0):=rfl
@[simp] theorem No (h:H) (e:TypeId) (k:IntKind) (n:Int) (K:Value->H->Prop):dW h e (.int k n) K=K (.pointer (some ⟨h.next,0,none⟩)) (newRow h e [.int k n] 0):=rfl
@[simp] theorem AdY (h:H) (e:TypeId) (b:Bool) (K:Value->H->Prop):dW h e (.bool b) K=K (.pointer (some ⟨h.next,0,none⟩)) (newRow h e [.bool b] 0):=rfl
@[simp] theorem AfQ (h:H) (e:TypeId) (s:ByteArray) (K:Value->H->Prop):dW h e (.string s) K=K (.pointer (some ⟨h.next,0,none⟩)) (newRow h e [.string s] 0):=rfl
@[simp] theorem Gv (h:H) (e:TypeId) (a:Option Addr) (n c:Nat) (K:Value->H->Prop):dW h e (.slice a n c) K=K (.pointer (some ⟨h.next,0,none⟩)) (newRow h e [.slice a n c] 0):=rfl
@[simp] theorem Ot (h:H) (e:TypeId) (a:Option Addr) (K:Value->H->Prop):dW h e (.pointer a) K=K (.pointer (some ⟨h.next,0,none⟩)) (newRow h e [.pointer a] 0):=rfl
@[simp] theorem AdZ (h:H) (e:TypeId) (f:Fn) (a c:Array Value) (K:Value->H->Prop):dW h e (.func f a c) K=K (.pointer (some ⟨h.next,0,none⟩)) (newRow h e [.func f a c] 0):=rfl
@[simp] theorem AbQ (h:H) (e:TypeId) (c:List Value) (k:Nat):(newRow h e c k).next=h.next+1:=rfl
@[simp] theorem O2 (h:H) (b:Nat) (o:kJ):(h.put b o).next=h.next:=rfl
@[simp] theorem tz (h:H) (b:Nat):(h.del b).next=h.next:=rfl
theorem bg {h h':H} {b b':Nat} (e:h.get b=h'.get b'):h.row b=h'.row b':=by unfold H.row;rw[e]
theorem aS (h:H) (e:TypeId) (c:List Value) (k b:Nat):(newRow h e c k).row b=if b=h.next then some ⟨c,e,k,0,false⟩ else h.row b:=by
 by_cases hb:b=h.next
 . rw[if_pos hb];unfold H.row;rw[show (newRow h e c k).get b=some (.row ⟨c,e,k,0,false⟩) from (H.eF _ _ _).trans (if_pos hb)]
 . rw[if_neg hb];exact bg ((H.eF _ _ _).trans (if_neg hb))
theorem eH (h:H) (b c:Nat) (x:IP):(h.put b (.row x)).row c=if c=b then some x else h.row c:=by
 by_cases hb:c=b
 . rw[if_pos hb];unfold H.row;rw[show (h.put b (.row x)).get c=some (.row x) from (H.d' _ _ _ _).trans (if_pos hb)]
 . rw[if_neg hb];exact bg ((H.d' _ _ _ _).trans (if_neg hb))
attribute [simp] aS eH
theorem fa {h h':H} (hf:Fr h h') {b:Nat} (hb:b<h.next):h'.row b=h.row b:=bg (hf.cK b hb)
@[simp] theorem km (b o:Nat):addrOf (.pointer (some ⟨b,o,none⟩))=some ⟨b,o,none⟩:=rfl
@[simp] theorem zS (b o n:Nat):nE ⟨b,o,none⟩ n=⟨b,o+n,none⟩:=rfl
@[simp] theorem c9 (h:H) (b o:Nat):aw h (.pointer (some ⟨b,o,none⟩))=(h.row b).bind fun x=>nth x.cs o:=rfl
@[simp] theorem qo (n:Nat) (h:H) (b o:Nat):fJ n h (.pointer (some ⟨b,o,none⟩))=(h.row b).bind fun x=>(takeN n (mT o x.cs)).bind fun c=>some (.agg ⟨c⟩):=by
 show ((h.row b).bind fun x=>takeN n (mT o x.cs)).bind _=_
 cases h.row b <;> rfl
@[simp] theorem aE (b o n:Nat):jx n (.pointer (some ⟨b,o,none⟩))=some (.pointer (some ⟨b,o+n,none⟩)):=rfl
theorem bK (h:H) (b o:Nat) (vs:List Value):storeCells h ⟨b,o,none⟩ vs=(h.row b).bind fun x=>if x.ro=false/\x.ib<=o/\o+vs.length<=x.cs.length/\da vs=true then some (h.put b (.row { x with cs:=ep x.cs o vs })) else none:=by
 unfold storeCells
 show (h.row b).bind _=_
 cases h.row b with
 | none=>rfl
 | some x =>
  simp only[Option.bind_some]
  rw[aP,aP,br,br]
  by_cases c:x.ro=false/\x.ib<=o/\o+vs.length<=x.cs.length/\da vs=true
  . rw[if_pos c];simp[c.1,c.2.1,c.2.2.1,c.2.2.2]
  . rw[if_neg c]
    cases q:x.ro
    . have j:¬ (x.ib<=o/\o+vs.length<=x.cs.length/\da vs=true):=fun r=>c ⟨q,r⟩
      by_cases c1:x.ib<=o
      . by_cases c2:o+vs.length<=x.cs.length
        . have p:da vs=false:=by cases e:da vs with
           | false=>rfl
           | true=>exact absurd ⟨c1,c2,e⟩ j
          simp[c1,c2,p]
        . simp[c1,c2]
      . simp[c1]
    . simp
@[simp] theorem Lo (n:Nat) (h:H) (b o:Nat) (cs:List Value):wa n h (.pointer (some ⟨b,o,none⟩)) (.agg ⟨cs⟩)=if cs.length=n then storeCells h ⟨b,o,none⟩ cs else none:=by
 show (bif Nat.beq (len cs) n then storeCells h ⟨b,o,none⟩ cs else none)=_
 rw[ax,br];by_cases e:cs.length=n <;> simp[e]
theorem tT (n:Nat) (h:H) (b o:Nat) (v:Value) (hv:cells v=some [v]):wa n h (.pointer (some ⟨b,o,none⟩)) v=if n=1 then storeCells h ⟨b,o,none⟩ [v] else none:=by
 show (cells v).bind _=_
 rw[hv]
 show (bif Nat.beq (len [v]) n then storeCells h ⟨b,o,none⟩ [v] else none)=_
 rw[ax,br]
 by_cases e:n=1
 . subst e;simp
 . have:¬ [v].length=n:=fun q=>e (sp q.symm)
   have j:¬ 1=n:=fun q=>e q.symm
   simp[e,j]
@[simp] theorem K0 (n:Nat) (h:H) (b o:Nat) (k:IntKind) (m:Int):wa n h (.pointer (some ⟨b,o,none⟩)) (.int k m)=if n=1 then storeCells h ⟨b,o,none⟩ [.int k m] else none:=tT _ _ _ _ _ rfl
attribute [simp] bK
@[simp] theorem AdO:da []=true:=rfl
@[simp] theorem qp (v:Value) (l:List Value):da (v :: l)=(bX v&&da l):=by
 show Bool.rec (motive:=fun _=>Bool) false (da l) (bX v)=_
 cases bX v <;> rfl
@[simp] theorem AbR (k:IntKind) (n:Int):bX (.int k n)=true:=rfl
@[simp] theorem Aa5 (b:Bool):bX (.bool b)=true:=rfl
@[simp] theorem AbS (s:ByteArray):bX (.string s)=true:=rfl
@[simp] theorem Zu (a:Option Addr) (l c:Nat):bX (.slice a l c)=true:=rfl
@[simp] theorem AbT (a:Option Addr):bX (.pointer a)=true:=rfl
@[simp] theorem Aa6 (f:Fn) (a c:Array Value):bX (.func f a c)=true:=rfl
@[simp] theorem AfW (i:Nat):nth [] i=none:=rfl
@[simp] theorem ao (a:Value) (l:List Value):nth (a :: l) 0=some a:=rfl
@[simp] theorem ay (a:Value) (l:List Value) (i:Nat):nth (a :: l) (i+1)=nth l i:=rfl
@[simp] theorem mA (l:List Value):mT 0 l=l:=rfl
@[simp] theorem AdP (n:Nat) (a:Value) (l:List Value):mT (n+1) (a :: l)=mT n l:=rfl
@[simp] theorem AdQ (l:List Value):takeN 0 l=some []:=rfl
@[simp] theorem Ry (n:Nat) (a:Value) (l:List Value):takeN (n+1) (a :: l)=(takeN n l).map (a :: ·):=by
 show Option.rec (motive:=fun _=>Option (List Value)) none (fun r=>some (a :: r)) (takeN n l)=_
 cases takeN n l <;> rfl
theorem ki {n:Nat} {l:List Value} (h:n<=l.length):takeN n l=some (l.take n):=by
 induction n generalizing l with
 | zero=>simp
 | succ n j =>
  cases l with
  | nil=>simp at h
  | cons a l=>rw[Ry,j (sp h)];rfl
@[simp] theorem oT (c:List Value):sV c []=c:=by cases c <;> rfl
@[simp] theorem kb (a v:Value) (c vs:List Value):sV (a :: c) (v :: vs)=v :: sV c vs:=rfl
@[simp] theorem gU (a:Value) (c vs:List Value):ep (a :: c) 0 vs=sV (a :: c) vs:=rfl
@[simp] theorem JN (a:Value) (c vs:List Value) (k:Nat):ep (a :: c) (k+1) vs=a :: ep c k vs:=rfl
@[simp] theorem au (l:List Value) (i:Nat):dl (.tuple ⟨l⟩) i=nth l i:=rfl
@[simp] theorem Wr (o:Nat) (l:List Value):Oa o (.agg ⟨l⟩)=nth l o:=rfl
@[simp] theorem sO (a:Addr):db (.pointer (some a))=some (.pointer (some a)):=rfl
@[simp] theorem Ad0 (f:FuncId) (a c:Array Value):db (.func (.func f) a c)=some (.func (.func f) a c):=rfl
@[simp] theorem aY (b:Bool):X.unOp .not (.bool b)=some (.bool !b):=rfl
@[simp] theorem MR (k:IntKind):uD k k=true:=by cases k <;> rfl
section ints
variable (E:Env) (t:TypeId) (k:IntKind) (a b:Int)
theorem ey (v:Option Value):fF k k v=v:=by unfold fF;rw[MR]
@[simp] theorem binOp_lss:X.binOp E .lss t (.int k a) (.int k b)=some (.bool (decide (a<b))):=by
 show fF k k (some (.bool (!gn b a)))=_;rw[ey,fI];simp[<-decide_not]
@[simp] theorem binOp_leq:X.binOp E .leq t (.int k a) (.int k b)=some (.bool (decide (a<=b))):=by
 show fF k k (some (.bool (gn a b)))=_;rw[ey,fI]
@[simp] theorem binOp_gtr:X.binOp E .gtr t (.int k a) (.int k b)=some (.bool (decide (b<a))):=by
 show fF k k (some (.bool (!gn a b)))=_;rw[ey,fI];simp[<-decide_not]
@[simp] theorem binOp_geq:X.binOp E .geq t (.int k a) (.int k b)=some (.bool (decide (b<=a))):=by
 show fF k k (some (.bool (gn b a)))=_;rw[ey,fI]
@[simp] theorem ak:X.binOp E .eql t (.int k a) (.int k b)=some (.bool (decide (a=b))):=by
 show fF k k (some (.bool (cx a b)))=_;rw[ey,iF]
 by_cases h:a=b <;> simp[h]
@[simp] theorem sJ:X.binOp E .neq t (.int k a) (.int k b)=some (.bool (decide (a≠b))):=by
 show fF k k (some (.bool (!cx a b)))=_;rw[ey,iF]
 by_cases h:a=b <;> simp[h]
@[simp] theorem binOp_add:X.binOp E .add t (.int k a) (.int k b)=some (.int k (k.wrap (a+b))):=by
 show fF k k (some (.int k (mS k (a+b))))=_;rw[ey,cU]
@[simp] theorem binOp_sub:X.binOp E .sub t (.int k a) (.int k b)=some (.int k (k.wrap (a-b))):=by
 show fF k k (some (.int k (mS k (a-b))))=_;rw[ey,cU]
@[simp] theorem binOp_mul:X.binOp E .mul t (.int k a) (.int k b)=some (.int k (k.wrap (a * b))):=by
 show fF k k (some (.int k (mS k (a * b))))=_;rw[ey,cU]
end ints
theorem wrap64 {n:Int} (o:-9223372036854775808<=n) (h2:n<=9223372036854775807):IntKind.i64.wrap n=n:=by
 rw[<-cU]
 cases n with
 | ofNat m =>
  show E5 _ _ (Int.ofNat m)=_
  have:Nat.blt m 9223372036854775808=true:=by rw[dx];simp;have j:(m:Int)<=9223372036854775807:=h2;omega
  unfold E5;simp only;rw[this]
 | negSucc m =>
  show E5 _ _ (Int.negSucc m)=_
  have:Nat.blt m 9223372036854775808=true:=by rw[dx];simp;omega
  unfold E5;simp only;rw[this]
abbrev st (l:List UInt8):Value:=.string ⟨⟨l⟩⟩
section strs
variable (E:Env) (t:TypeId) (a b:List UInt8)
@[simp] theorem bf:X.binOp E .eql t (.string ⟨⟨a⟩⟩) (.string ⟨⟨b⟩⟩)=some (.bool (decide (a=b))):=by
 show some (Value.bool (dU a b))=_;rw[kF];by_cases h:a=b <;> simp[h]
@[simp] theorem di:X.binOp E .neq t (.string ⟨⟨a⟩⟩) (.string ⟨⟨b⟩⟩)=some (.bool (decide (a≠b))):=by
 show some (Value.bool !(dU a b))=_;rw[kF];by_cases h:a=b <;> simp[h]
@[simp] theorem gW:X.binOp E .add t (.string ⟨⟨a⟩⟩) (.string ⟨⟨b⟩⟩)=if a.length+b.length<=9223372036854775807 then some (.string ⟨⟨a++b⟩⟩) else none:=by
 show (bif Nat.ble (len a+len b) 9223372036854775807 then some (Value.string ⟨⟨cW a b⟩⟩) else none)=_
 rw[aP,br,br,dF];by_cases h:a.length+b.length<=9223372036854775807 <;> simp[h]
end strs
@[simp] theorem Kt (s b o n c:Nat) (k:IntKind) (i:Int):AB s (.slice (some ⟨b,o,none⟩) n c) (.int k i)=if 0<=i/\i.toNat<n then some (.pointer (some ⟨b,o+i.toNat * s,none⟩)) else none:=by
 cases i with
 | ofNat i =>
  show (bif Nat.blt i n then some (Value.pointer (some ⟨b,o+i * s,none⟩)) else none)=_
  rw[dx]
  by_cases h:i<n <;> simp[h]
 | negSucc i=>rw[if_neg om];rfl
@[simp] theorem AfX (s n c:Nat) (i:Value):AB s (.slice none n c) i=none:=rfl
@[simp] theorem rO (l:List UInt8) (k:IntKind) (i:Int):MV (.string ⟨⟨l⟩⟩) (.int k i)=if 0<=i then (l[i.toNat]?).bind fun b=>some (.int .u8 b.toNat) else none:=by
 cases i with
 | ofNat i=>show (Mo l i).bind _=_;rw[Tc];simp
 | negSucc i=>rw[if_neg om];rfl
theorem pW {E:Env} {t e:TypeId} (hu:E.under t=some (.slice e)) (h:H) (a:Option Addr) (n c:Nat) (K:Value->H->Prop):blt E h .len #[t] [.slice a n c] K=K (.int .i64 n) h:=by
 show af ((some t).bind fun t=>(E.under t).bind _) (Fx K)=_
 simp only[Option.bind_some,hu];rfl
theorem bb {E:Env} {t:TypeId} (hu:E.under t=some .string) (h:H) (l:List UInt8) (K:Value->H->Prop):blt E h .len #[t] [.string ⟨⟨l⟩⟩] K=K (.int .i64 l.length) h:=by
 show af ((some t).bind fun t=>(E.under t).bind _) (Fx K)=_
 simp only[Option.bind_some,hu]
 show K (.int .i64 ((len l:Nat):Int)) h=_
 rw[br]
theorem pw {E:Env} {t e:TypeId} (hu:E.under t=some (.slice e)) (h:H) (a:Option Addr) (n c:Nat):(bq E h .len #[t] [.slice a n c]).bind dw=some (.int .i64 n):=by
 show ((some t).bind fun t=>(E.under t).bind _).bind dw=_
 simp only[Option.bind_some,hu];rfl
theorem ED {E:Env} {t:TypeId} (hu:E.under t=some .string) (h:H) (l:List UInt8):(bq E h .len #[t] [.string ⟨⟨l⟩⟩]).bind dw=some (.int .i64 l.length):=by
 show ((some t).bind fun t=>(E.under t).bind _).bind dw=_
 simp only[Option.bind_some,hu]
 show some (Value.int .i64 ((len l:Nat):Int))=_
 rw[br]
@[simp] theorem Ad1:xO []=true:=by simp[xO]
@[simp] theorem AdR (v:Value) (l:List Value):xO (v :: l)=(flat v&&xO l):=by simp[xO]
@[simp] theorem zN (a:Value) (l:List Value):aI (a :: l) 0=a:=rfl
@[simp] theorem zO (a:Value) (l:List Value) (i:Nat):aI (a :: l) (i+1)=aI l i:=rfl
theorem xJ (a b:Int):cx a b=decide (a=b):=by rw[iF];by_cases h:a=b <;> simp[h]
theorem uH (a b:List UInt8):dU a b=decide (a=b):=by rw[kF];by_cases h:a=b <;> simp[h]
theorem Gl (a b:Bool):(a == b)=decide (a=b):=by cases a <;> cases b <;> rfl
theorem xK (x b:Bool):cm (some x) b=some (b&&x):=by cases b <;> rfl
end Go.X
namespace Go.Proofs.YtikojelnedfmpaaGreatDoor
open Go Go.X
set_option maxRecDepth 1000000
theorem un2:EE.under 2=some (.int .i64):=by kernel_rfl
theorem Zh:EE.under 3=some (.int .i64):=by kernel_rfl
theorem sz3:EE.size 3=some 1:=by kernel_rfl
theorem by3:(EE.dO 3).map (·.bytes)=some 8:=by kernel_rfl
theorem zc3:EE.cz 3=some [.int .i64 0]:=by kernel_rfl
theorem yj:EE.under 5=some (.int .u8):=by kernel_rfl
theorem sz5:EE.size 5=some 1:=by kernel_rfl
theorem by5:(EE.dO 5).map (·.bytes)=some 1:=by kernel_rfl
theorem zc5:EE.cz 5=some [.int .u8 0]:=by kernel_rfl
theorem kH:EE.under 9=some .string:=by kernel_rfl
theorem sz9:EE.size 9=some 1:=by kernel_rfl
theorem by9:(EE.dO 9).map (·.bytes)=some 16:=by kernel_rfl
theorem zc9:EE.cz 9=some [.string ⟨⟨[]⟩⟩]:=by kernel_rfl
theorem Aew:EE.under 22=some (.slice 53):=by kernel_rfl
theorem Aey:EE.under 23=some (.slice 3):=by kernel_rfl
theorem Aad:EE.size 25=some 2:=by kernel_rfl
theorem Aet:EE.under 34=some (.slice 44):=by kernel_rfl
theorem Aco:EE.size 42=some 3:=by kernel_rfl
theorem Ul:EE.size 44=some 6:=by kernel_rfl
theorem AgA:(EE.dO 44).map (·.bytes)=some 72:=by kernel_rfl
theorem Aeu:EE.cz 44=some [.int .i64 0,.string ⟨⟨[]⟩⟩,.int .i64 0,.bool false,.string ⟨⟨[]⟩⟩,.string ⟨⟨[]⟩⟩]:=by kernel_rfl
theorem Aef:EE.under 48=some (.slice 9):=by kernel_rfl
theorem Uj:EE.size 51=some 5:=by kernel_rfl
theorem Acy:EE.size 53=some 19:=by kernel_rfl
theorem AgD:(EE.dO 53).map (·.bytes)=some 176:=by kernel_rfl
theorem Aex:EE.cz 53=some [.int .i64 0,.int .i64 0,.int .i64 0,.int .i64 0,.bool false,.string ⟨⟨[]⟩⟩,.string ⟨⟨[]⟩⟩,.string ⟨⟨[]⟩⟩,.bool false,.string ⟨⟨[]⟩⟩,.int .i64 0,.int .i64 0,.bool false,.bool false,.string ⟨⟨[]⟩⟩,.int .i64 0,.int .i64 0,.bool false,.bool false]:=by kernel_rfl
theorem AeW (a0:Int) (a1:Int) (a2:Int) (a3:Int) (a4:Bool) (a5:List UInt8) (a6:List UInt8) (a7:List UInt8) (a8:Bool) (a9:List UInt8) (j:Int) (o:Int) (p:Bool) (C:Bool) (I:List UInt8) (J:Int) (R:Int) (U:Bool) (a18:Bool) (b0:Int) (b1:Int) (b2:Int) (b3:Int) (b4:Bool) (b5:List UInt8) (b6:List UInt8) (b7:List UInt8) (b8:Bool) (b9:List UInt8) (b10:Int) (b11:Int) (b12:Bool) (b13:Bool) (b14:List UInt8) (b15:Int) (b16:Int) (b17:Bool) (b18:Bool):X.binOp EE .eql 53 (.agg ⟨[.int .i64 a0,.int .i64 a1,.int .i64 a2,.int .i64 a3,.bool a4,.string ⟨⟨a5⟩⟩,.string ⟨⟨a6⟩⟩,.string ⟨⟨a7⟩⟩,.bool a8,.string ⟨⟨a9⟩⟩,.int .i64 j,.int .i64 o,.bool p,.bool C,.string ⟨⟨I⟩⟩,.int .i64 J,.int .i64 R,.bool U,.bool a18]⟩) (.agg ⟨[.int .i64 b0,.int .i64 b1,.int .i64 b2,.int .i64 b3,.bool b4,.string ⟨⟨b5⟩⟩,.string ⟨⟨b6⟩⟩,.string ⟨⟨b7⟩⟩,.bool b8,.string ⟨⟨b9⟩⟩,.int .i64 b10,.int .i64 b11,.bool b12,.bool b13,.string ⟨⟨b14⟩⟩,.int .i64 b15,.int .i64 b16,.bool b17,.bool b18]⟩)=some (.bool (decide (a0=b0/\a1=b1/\a2=b2/\a3=b3/\a4=b4/\a5=b5/\a6=b6/\a7=b7/\a8=b8/\a9=b9/\j=b10/\o=b11/\p=b12/\C=b13/\I=b14/\J=b15/\R=b16/\U=b17/\a18=b18))):=by
 have e:X.binOp EE .eql 53 (.agg ⟨[.int .i64 a0,.int .i64 a1,.int .i64 a2,.int .i64 a3,.bool a4,.string ⟨⟨a5⟩⟩,.string ⟨⟨a6⟩⟩,.string ⟨⟨a7⟩⟩,.bool a8,.string ⟨⟨a9⟩⟩,.int .i64 j,.int .i64 o,.bool p,.bool C,.string ⟨⟨I⟩⟩,.int .i64 J,.int .i64 R,.bool U,.bool a18]⟩) (.agg ⟨[.int .i64 b0,.int .i64 b1,.int .i64 b2,.int .i64 b3,.bool b4,.string ⟨⟨b5⟩⟩,.string ⟨⟨b6⟩⟩,.string ⟨⟨b7⟩⟩,.bool b8,.string ⟨⟨b9⟩⟩,.int .i64 b10,.int .i64 b11,.bool b12,.bool b13,.string ⟨⟨b14⟩⟩,.int .i64 b15,.int .i64 b16,.bool b17,.bool b18]⟩)=(cm (cm (cm (cm ((cm (cm (cm (some true) (dU a6 b6)) (dU a5 b5)) (a4 == b4)).bind (cm (cm (cm ((cm (cm (cm (cm (cm (some true) (C == b13)) (p == b12)) (cx o b11)) (cx j b10)) (dU a9 b9)).bind (cm ((cm (cm (cm (cm (cm (some true) (a18 == b18)) (U == b17)) (cx R b16)) (cx J b15)) (dU I b14)).bind (cm (some true))))) (a8 == b8)) (dU a7 b7)))) (cx a3 b3)) (cx a2 b2)) (cx a1 b1)) (cx a0 b0)).bind fun b=>some (.bool b):=by kernel_rfl
 rw[e];simp[xK,xJ,uH,Gl,and_assoc,Bool.and_assoc,Bool.or_assoc]
theorem Ae9 (a0:Int) (a1:Int) (a2:Int) (a3:Int) (a4:Bool) (a5:List UInt8) (a6:List UInt8) (a7:List UInt8) (a8:Bool) (a9:List UInt8) (j:Int) (o:Int) (p:Bool) (C:Bool) (I:List UInt8) (J:Int) (R:Int) (U:Bool) (a18:Bool) (b0:Int) (b1:Int) (b2:Int) (b3:Int) (b4:Bool) (b5:List UInt8) (b6:List UInt8) (b7:List UInt8) (b8:Bool) (b9:List UInt8) (b10:Int) (b11:Int) (b12:Bool) (b13:Bool) (b14:List UInt8) (b15:Int) (b16:Int) (b17:Bool) (b18:Bool):X.binOp EE .neq 53 (.agg ⟨[.int .i64 a0,.int .i64 a1,.int .i64 a2,.int .i64 a3,.bool a4,.string ⟨⟨a5⟩⟩,.string ⟨⟨a6⟩⟩,.string ⟨⟨a7⟩⟩,.bool a8,.string ⟨⟨a9⟩⟩,.int .i64 j,.int .i64 o,.bool p,.bool C,.string ⟨⟨I⟩⟩,.int .i64 J,.int .i64 R,.bool U,.bool a18]⟩) (.agg ⟨[.int .i64 b0,.int .i64 b1,.int .i64 b2,.int .i64 b3,.bool b4,.string ⟨⟨b5⟩⟩,.string ⟨⟨b6⟩⟩,.string ⟨⟨b7⟩⟩,.bool b8,.string ⟨⟨b9⟩⟩,.int .i64 b10,.int .i64 b11,.bool b12,.bool b13,.string ⟨⟨b14⟩⟩,.int .i64 b15,.int .i64 b16,.bool b17,.bool b18]⟩)=some (.bool (!decide (a0=b0/\a1=b1/\a2=b2/\a3=b3/\a4=b4/\a5=b5/\a6=b6/\a7=b7/\a8=b8/\a9=b9/\j=b10/\o=b11/\p=b12/\C=b13/\I=b14/\J=b15/\R=b16/\U=b17/\a18=b18))):=by
 have e:X.binOp EE .neq 53 (.agg ⟨[.int .i64 a0,.int .i64 a1,.int .i64 a2,.int .i64 a3,.bool a4,.string ⟨⟨a5⟩⟩,.string ⟨⟨a6⟩⟩,.string ⟨⟨a7⟩⟩,.bool a8,.string ⟨⟨a9⟩⟩,.int .i64 j,.int .i64 o,.bool p,.bool C,.string ⟨⟨I⟩⟩,.int .i64 J,.int .i64 R,.bool U,.bool a18]⟩) (.agg ⟨[.int .i64 b0,.int .i64 b1,.int .i64 b2,.int .i64 b3,.bool b4,.string ⟨⟨b5⟩⟩,.string ⟨⟨b6⟩⟩,.string ⟨⟨b7⟩⟩,.bool b8,.string ⟨⟨b9⟩⟩,.int .i64 b10,.int .i64 b11,.bool b12,.bool b13,.string ⟨⟨b14⟩⟩,.int .i64 b15,.int .i64 b16,.bool b17,.bool b18]⟩)=(cm (cm (cm (cm ((cm (cm (cm (some true) (dU a6 b6)) (dU a5 b5)) (a4 == b4)).bind (cm (cm (cm ((cm (cm (cm (cm (cm (some true) (C == b13)) (p == b12)) (cx o b11)) (cx j b10)) (dU a9 b9)).bind (cm ((cm (cm (cm (cm (cm (some true) (a18 == b18)) (U == b17)) (cx R b16)) (cx J b15)) (dU I b14)).bind (cm (some true))))) (a8 == b8)) (dU a7 b7)))) (cx a3 b3)) (cx a2 b2)) (cx a1 b1)) (cx a0 b0)).bind fun b=>some (.bool !b):=by kernel_rfl
 rw[e];simp[xK,xJ,uH,Gl,and_assoc,Bool.and_assoc,Bool.or_assoc]
theorem OJ:EE.size 71=some 4:=by kernel_rfl
theorem Ag1:(EE.dO 71).map (·.bytes)=some 32:=by kernel_rfl
theorem AeX:EE.cz 71=some [.int .i64 0,.int .i64 0,.int .i64 0,.int .i64 0]:=by kernel_rfl
theorem AeB:EE.size 87=some 15:=by kernel_rfl
theorem pY:EE.under 90=some (.slice 5):=by kernel_rfl
theorem Acp:EE.size 92=some 2:=by kernel_rfl
theorem Abd:EE.size 103=some 7:=by kernel_rfl
theorem Abf (j:Int) (o:Bool) (p:List UInt8) (C:List UInt8) (I:List UInt8) (J:Bool) (R:Int) (b0:Int) (b1:Bool) (b2:List UInt8) (b3:List UInt8) (b4:List UInt8) (b5:Bool) (b6:Int):X.binOp EE .eql 103 (.agg ⟨[.int .i64 j,.bool o,.string ⟨⟨p⟩⟩,.string ⟨⟨C⟩⟩,.string ⟨⟨I⟩⟩,.bool J,.int .i64 R]⟩) (.agg ⟨[.int .i64 b0,.bool b1,.string ⟨⟨b2⟩⟩,.string ⟨⟨b3⟩⟩,.string ⟨⟨b4⟩⟩,.bool b5,.int .i64 b6]⟩)=some (.bool (decide (j=b0/\o=b1/\p=b2/\C=b3/\I=b4/\J=b5/\R=b6))):=by
 have e:X.binOp EE .eql 103 (.agg ⟨[.int .i64 j,.bool o,.string ⟨⟨p⟩⟩,.string ⟨⟨C⟩⟩,.string ⟨⟨I⟩⟩,.bool J,.int .i64 R]⟩) (.agg ⟨[.int .i64 b0,.bool b1,.string ⟨⟨b2⟩⟩,.string ⟨⟨b3⟩⟩,.string ⟨⟨b4⟩⟩,.bool b5,.int .i64 b6]⟩)=(cm ((cm (cm (cm (some true) (dU C b3)) (dU p b2)) (o == b1)).bind (cm (cm (cm (cm (some true) (cx R b6)) (J == b5)) (dU I b4)))) (cx j b0)).bind fun b=>some (.bool b):=by kernel_rfl
 rw[e];simp[xK,xJ,uH,Gl,and_assoc,Bool.and_assoc,Bool.or_assoc]
theorem Abt:EE.under 119=some (.slice 71):=by kernel_rfl
theorem lQ:EE.under 132=some (.int .u64):=by kernel_rfl
theorem Abe:EE.size 136=some 8:=by kernel_rfl
theorem Wp:EE.size 142=some 2:=by kernel_rfl
theorem AbW:EE.under 156=some (.slice 160):=by kernel_rfl
theorem iB:EE.under 160=some (.int .u32):=by kernel_rfl
theorem PI:EE.size 160=some 1:=by kernel_rfl
theorem AbV:(EE.dO 160).map (·.bytes)=some 4:=by kernel_rfl
theorem Zd:EE.cz 160=some [.int .u32 0]:=by kernel_rfl
theorem AbU:EE.under 162=some (.slice 160):=by kernel_rfl
theorem Nw:EE.under 165=some (.int .u64):=by kernel_rfl
theorem RX:EE.size 182=some 4:=by kernel_rfl
theorem Abl (j:Int) (o:Int) (p:Int) (C:Int) (b0:Int) (b1:Int) (b2:Int) (b3:Int):X.binOp EE .eql 182 (.agg ⟨[.int .i64 j,.int .i64 o,.int .i64 p,.int .i64 C]⟩) (.agg ⟨[.int .i64 b0,.int .i64 b1,.int .i64 b2,.int .i64 b3]⟩)=some (.bool (decide (j=b0/\o=b1/\p=b2/\C=b3))):=by
 have e:X.binOp EE .eql 182 (.agg ⟨[.int .i64 j,.int .i64 o,.int .i64 p,.int .i64 C]⟩) (.agg ⟨[.int .i64 b0,.int .i64 b1,.int .i64 b2,.int .i64 b3]⟩)=(cm (cm (cm (cm (some true) (cx C b3)) (cx p b2)) (cx o b1)) (cx j b0)).bind fun b=>some (.bool b):=by kernel_rfl
 rw[e];simp[xK,xJ,uH,Gl,and_assoc,Bool.and_assoc,Bool.or_assoc]
attribute [simp] un2 Zh sz3 zc3 yj sz5 zc5 kH sz9 zc9 Aew Aey Aad Aet Aco Ul Aeu Aef Uj Acy Aex Ae9 AeW OJ AeX AeB pY Acp Abd Abf Abt lQ Abe Wp AbW iB PI Zd AbU Nw RX Abl
end Go.Proofs.YtikojelnedfmpaaGreatDoor
namespace Go.X
open Go Go.ChangeShapes Go.WideShapes Go.Deep
section
variable {HH:Type} {enc:TypeId × Value->HH} {P:Program} {w:World} {base:Nat} {spare:Nat->Bool} {held:Bool}
end
theorem Zv {P:Program} {f:FuncId} {j:List Value} {h h':H} {b:Bool} (hs:ai P f j h (.v (.bool b) h')) {ρ:bS} {W:World} (C:aX ρ h W) (o:∀ b x,h.get b=some x->MB x=true) {ARGS:List Value} (I:bc ρ j ARGS) :
 Calls P f ARGS.toArray W fun e W'=>e=.returned (.bool b)/\RowKit.Below W.heap.size W W':=by
 obtain⟨_,v',h2,e,hc⟩:=hs
 cases e
 refine (hc ρ ARGS W I C).mono ?_
 intro e W' p
 cases e with
 | returned V =>
  obtain⟨bY,hv,_,hx⟩:=p
  cases hv
  exact⟨rfl,hx.os,hx.tape,hx.output,hx.size,fun k hk=>hx.kept k hk fun b x r J h2=>by rw[o b x J] at h2;cases h2⟩
 | panicked _=>exact p.elim
 | outgrown=>exact p.elim
theorem Ad4 (W:World):aX (fun _=>none) ⟨.e,0⟩ W:=⟨fun b x r h=>(by cases h),fun b b' x x' r r' h=>(by cases h),fun b r h=>(by cases h),fun b _=>rfl⟩
theorem ro0:∀ b x,(⟨.e,0⟩:H).get b=some x->MB x=true:=fun b x h=>by cases h
end Go.X
namespace Go.X
open Go
structure Tz (E:Env) (t e:TypeId) (z:Value):Prop where
 un:E.under t=some (.slice e)
 sz:E.size e=some 1
 zc:E.cz e=some [z]
 inf:∃ i,E.dO e=some i/\i.bytes<=16/\i.size=1
 one:bX z=true
structure eV (b:Nat) (h h':H):Prop where
 next:h.next<=h'.next
 cK:∀ c,c<h.next->c≠b->h'.get c=h.get c
theorem eV.refl (b:Nat) (h:H):eV b h h:=⟨Nat.le_refl _,fun _ _ _=>rfl⟩
theorem eV.trans {b:Nat} {j h2 o:H} (x:eV b j h2) (y:eV b h2 o):eV b j o:=⟨Nat.le_trans x.next y.next,fun c hc hb=>(y.cK c (Nat.lt_of_lt_of_le hc x.next) hb).trans (x.cK c hc hb)⟩
theorem Fr.x {h h':H} (f:Fr h h') (b:Nat):eV b h h':=⟨f.next,fun c hc _=>f.cK c hc⟩
theorem eV.fr {b:Nat} {h0 h h':H} (f:Fr h0 h) (x:eV b h h') (hb:h0.next<=b):Fr h0 h':=⟨Nat.le_trans f.next x.next,fun c hc=>(x.cK c (Nat.lt_of_lt_of_le hc f.next) om).trans (f.cK c hc)⟩
theorem eV.put (h:H) (b:Nat) (o:kJ):eV b h (h.put b o):=⟨Nat.le_refl _,fun c _ hc=>(H.d' _ _ _ _).trans (if_neg hc)⟩
theorem eV.row {b:Nat} {h h':H} (x:eV b h h') {c:Nat} (hc:c<h.next) (hb:c≠b):h'.row c=h.row c:=bg (x.cK c hc hb)
inductive bk (h:H):Value->List Value->Prop
 | nil:bk h (.slice none 0 0) []
 | at (b o c:Nat) (vs:List Value) (hb:b<h.next) (hr:∃ x,h.row b=some x/\(x.cs.drop o).take vs.length=vs) (hc:vs.length<=c):bk h (.slice (some ⟨b,o,none⟩) vs.length c) vs
inductive bp (e:TypeId) (h0 h:H):Value->List Value->Prop
 | nil:bp e h0 h (.slice none 0 0) []
 | at (b n:Nat) (L:List Value) (gz:h0.next<=b) (hb:b<h.next) (hr:h.row b=some ⟨L,e,0,0,false⟩) (hn:n<=L.length):bp e h0 h (.slice (some ⟨b,0,none⟩) n L.length) (L.take n)
theorem bk.fr {h h':H} {v:Value} {vs:List Value} (r:bk h v vs) (f:Fr h h'):bk h' v vs:=by
 cases r with
 | nil=>exact .nil
 | «at» b o c _ hb hr hc=>exact .at b o c _ (Nat.lt_of_lt_of_le hb f.next) (by rw[fa f hb];exact hr) hc
theorem bp.fr {e:TypeId} {h0 h h':H} {v:Value} {vs:List Value} (r:bp e h0 h v vs) (f:Fr h h'):bp e h0 h' v vs:=by
 cases r with
 | nil=>exact .nil
 | «at» b n L gz hb hr hn=>exact .at b n L gz (Nat.lt_of_lt_of_le hb f.next) (by rw[fa f hb];exact hr) hn
theorem bp.read {e:TypeId} {h0 h:H} {v:Value} {vs:List Value} (r:bp e h0 h v vs):bk h v vs:=by
 cases r with
 | nil=>exact .nil
 | «at» b n L gz hb hr hn =>
  have hl:(L.take n).length=n:=so
  have:=bk.at (h:=h) b 0 L.length (L.take n) hb ⟨_,hr,sm⟩ (by rw[hl];exact hn)
  rw[hl] at this;exact this
section
variable {E:Env} {t e:TypeId} {z:Value}
theorem bk.len {h:H} {v:Value} {vs:List Value} (r:bk h v vs) (T:Tz E t e z) (K:Value->H->Prop):blt E h .len #[t] [v] K=K (.int .i64 vs.length) h:=by
 cases r with
 | nil=>rw[pW T.un];rfl
 | «at» b o c _ hr hc=>rw[pW T.un]
theorem bk.ix {h:H} {v:Value} {vs:List Value} (r:bk h v vs) {i:Nat} (hi:i<vs.length):∃ b o,AB 1 v (.int .i64 i)=some (.pointer (some ⟨b,o,none⟩))/\aw h (.pointer (some ⟨b,o,none⟩))=some vs[i]:=by
 cases r with
 | nil=>cases hi
 | «at» b o c _ hb hr hc =>
  refine⟨b,o+i,by simp[hi],?_⟩
  obtain⟨x,hx,j⟩:=hr
  rw[c9,hx]
  show nth x.cs (o+i)=_
  rw[DV]
  have:vs[i]?=((x.cs.drop o).take vs.length)[i]?:=by rw[j]
  rw[List.getElem?_take_of_lt hi,List.getElem?_drop] at this
  rw[<-this,List.getElem?_eq_getElem hi]
theorem bk.rd {h:H} {v:Value} {vs:List Value} (r:bk h v vs) {i:Nat} (hi:i<vs.length) (K:Value->Prop):(af (AB 1 v (.int .i64 i)) fun p=>af (aw h p) K)=K vs[i]:=by
 obtain⟨b,o,j,C⟩:=r.ix hi
 rw[j,aa,C,aa]
theorem MS (n:Nat):dZ [z] n=List.replicate n z:=by
 induction n with
 | zero=>rfl
 | succ n j=>show cW [z] (dZ [z] n)=_;rw[j];rfl
theorem Rz:∀ {l:List Value},(∀ v ∈ l,bX v=true)->da l=true:=by
 intro l
 induction l with
 | nil=>intro _;rfl
 | cons a l j=>intro h;rw[qp,h a (.head _),j fun v hv=>h v (.tail _ hv)];rfl
theorem xk:∀ (L:List Value) (i:Nat) (x:Value),i<L.length->ep L i [x]=L.set i x:=by
 intro L
 induction L with
 | nil=>intro i x h;cases h
 | cons a L j =>
  intro i x h
  cases i with
  | zero=>simp
  | succ i=>rw[JN,j i x (sp h)];rfl
theorem bp.set {h0 h:H} {v:Value} {vs:List Value} (r:bp e h0 h v vs) {i:Nat} (hi:i<vs.length) {x:Value} (hx:bX x=true) (hc:cells x=some [x]) {K:H->Prop}
 (C:∀ b h',h0.next<=b->eV b h h'->h'.next=h.next->(∀ b' o n c,v=.slice (some ⟨b',o,none⟩) n c->b'=b)->bp e h0 h' v (vs.set i x)->K h'):af (AB 1 v (.int .i64 i)) fun p=>af (wa 1 h p x) K:=by
 cases r with
 | nil=>cases hi
 | «at» b n L gz hb hr hn =>
  have j:i<n:=by simp at hi;omega
  rw[Kt,if_pos ⟨om,sp j⟩,aa,tT _ _ _ _ _ hc,if_pos rfl,bK,hr]
  simp only[Option.bind_some,Int.toNat_natCast,Nat.zero_add,Nat.mul_one]
  rw[if_pos ⟨trivial,Nat.zero_le _,so,by simp[hx]⟩,aa]
  refine C b _ gz (eV.put h b _) rfl (fun b' o n c q=>by cases q;rfl) ?_
  rw[xk L i x om]
  have:=bp.at (e:=e) (h0:=h0) (h:=h.put b (.row ⟨L.set i x,e,0,0,false⟩)) b n (L.set i x) gz hb (by rw[eH,if_pos rfl]) (sp hn)
  rw[List.length_set] at this
  rw[show (L.take n).set i x=(L.set i x).take n by rw[List.take_set]]
  exact this
theorem Be (T:Tz E t e z) (h:H) (n:Nat) (hn:n<=10000000000):∃ v h',vU E h t (.int .i64 n) (.int .i64 n)=some (v,h')/\Fr h h'/\bp e h h' v (List.replicate n z):=by
 obtain⟨i,hi,hb,hs⟩:=T.inf
 refine⟨.slice (some ⟨h.next,0,none⟩) n n,newRow h e (List.replicate n z) 0,?_,(Fr.refl h).newRow _ _ _,?_⟩
 . unfold vU
   rw[T.un]
   simp only[Option.bind_some]
   show (E.dO e).bind _=_
   rw[hi]
   simp only[Option.bind_some,T.zc]
   have j:i.bytes * n<=16 * n:=Nat.mul_le_mul_right _ hb
   have hc:(Nat.ble n n&&Nat.ble (i.bytes * n) 1099511627776&&Nat.ble n 1099511627776&&Nat.beq (X.len [z]) i.size)=true:=by
    simp only[aP,ax,br,Bool.and_eq_true,decide_eq_true_eq,hs]
    exact⟨⟨⟨Nat.le_refl _,om⟩,om⟩,rfl⟩
   show (bif (Nat.ble n n&&Nat.ble (i.bytes * n) 1099511627776&&Nat.ble n 1099511627776&&Nat.beq (X.len [z]) i.size) then some (Value.slice (some ⟨h.next,0,none⟩) n n,newRow h e (dZ [z] n) 0) else none)=_
   rw[hc,MS];rfl
 . have:=bp.at (e:=e) (h0:=h) (h:=newRow h e (List.replicate n z) 0) h.next n (List.replicate n z) nlr sm (by rw[aS,if_pos rfl]) sm
   simpa using this
theorem TC (T:Tz E t e z) {h0 h:H} {v:Value} {vs:List Value} (hf:Fr h0 h) (r:bp e h0 h v vs) (hl:vs.length<=10000000000) {x:Value} (hx:bX x=true) (I:xS 1 (dZ [z] 1) [(0,x)]=some [x]) {K:Value->H->Prop}
 (hK:∀ v' h',Fr h0 h'->bp e h0 h' v' (vs++[x])->K v' h'):gh E h t 1 [(0,x)] fun w j=>ir E j #[t,t] v w K:=by
 have hb:dM E h t 1 [(0,x)]=some (newRow h e [x] 0):=by
  unfold dM
  rw[T.un]
  simp only[Option.bind_some,T.sz,T.zc,I]
  rfl
 unfold gh
 rw[hb,aa]
 have f1:Fr h (newRow h e [x] 0):=(Fr.refl h).newRow _ _ _
 have r1:=r.fr f1
 have hr0:(newRow h e [x] 0).row h.next=some ⟨[x],e,0,0,false⟩:=by rw[aS,if_pos rfl]
 have J:=hf.trans f1
 have hn1:(newRow h e [x] 0).next=h.next+1:=rfl
 generalize newRow h e [x] 0=j at *
 have U:((E.under t).map ku)=some false:=by rw[T.un];rfl
 have p:cV j 1 1 (.slice (some ⟨h.next,0,none⟩) 1 1)=some [x]:=by
  show (bif Nat.beq (1 * 1) 0 then some [] else X.loadCells j ⟨h.next,0,none⟩ (1 * 1))=_
  show (j.row h.next).bind _=_
  rw[hr0];rfl
 obtain⟨i,hi,qS,hs⟩:=T.inf
 show ir E j #[t,t] v (.slice (some ⟨h.next,0,none⟩) 1 1) K
 have C:∀ (base:Option Addr) (c:Nat),¬ vs.length+1<=c->v=.slice base vs.length c->X.oh j base c=some false->cV j 1 vs.length v=some vs->ir E j #[t,t] v (.slice (some ⟨h.next,0,none⟩) 1 1) K:=by
  intro base c o hv ho hold
  refine⟨.inr (.inl ?_)⟩
  show rz E j [t,t] v _ K
  unfold rz
  show af (some t) _
  rw[aa,T.un,aa]
  rw[hv] at hold ⊢
  show af (E.size e) _
  rw[T.sz,aa]
  show af ((E.under t).map ku) _
  rw[U,aa]
  rw[cond_false]
  rw[show X.lenOf (.slice (some ⟨h.next,0,none⟩) 1 1)=some 1 from rfl,aa,p,aa,hold,aa,ho,aa]
  show (bif Nat.ble (vs.length+1) c then False else _)
  rw[aP]
  simp only[o,decide_false,cond_false]
  unfold tD
  rw[hi,aa,T.zc,aa]
  have h1b:(vs.length+1+64) * 4 * i.bytes<=(vs.length+1+64) * 4 * 16:=Nat.mul_le_mul_left _ qS
  have hc:(Nat.ble ((vs.length+1+64) * 4 * i.bytes) 70368744177664&&Nat.ble (vs.length+1) 70368744177664&&Nat.beq (X.len [z]) 1)=true:=by
   simp only[aP,ax,br,Bool.and_eq_true,decide_eq_true_eq]
   exact⟨⟨om,om⟩,rfl⟩
  rw[hc]
  show ∀ G,_->_
  intro G hG
  rw[dF,dF,MS]
  have:=bp.at (e:=e) (h0:=h0) (h:=newRow j e (vs++[x]++List.replicate (G-(vs.length+1)) z) 0) j.next (vs.length+1) (vs++[x]++List.replicate (G-(vs.length+1)) z) J.next sm (by rw[aS,if_pos rfl]) sm
  have e1:(vs++[x]++List.replicate (G-(vs.length+1)) z).length=G:=so
  have e2:(vs++[x]++List.replicate (G-(vs.length+1)) z).take (vs.length+1)=vs++[x]:=by
   have:vs.length+1=(vs++[x]).length:=sm
   rw[this,List.take_left]
  rw[e1,e2] at this
  exact hK _ _ (J.newRow _ _ _) this
 cases r1 with
 | nil=>exact C none 0 sm rfl rfl rfl
 | «at» b n L gz hb hr hn =>
  have hl:(L.take n).length=n:=so
  by_cases o:n+1<=L.length
  . refine⟨.inl ?_⟩
    have O_:X.storeCells j (nE ⟨b,0,none⟩ (n * 1)) [x]=some (j.put b (.row ⟨L.set n x,e,0,0,false⟩)):=by
     rw[zS,bK,hr]
     simp only[Option.bind_some,Nat.zero_add,Nat.mul_one]
     rw[if_pos ⟨trivial,Nat.zero_le _,so,by simp[hx]⟩,xk L n x om]
    have:bq E j .append #[t,t] [.slice (some ⟨b,0,none⟩) n L.length,.slice (some ⟨h.next,0,none⟩) 1 1]=some (.val (.slice (some ⟨b,0,none⟩) (n+1) L.length) (j.put b (.row ⟨L.set n x,e,0,0,false⟩))):=by
     show X.append E j t (some t) _ _=_
     unfold X.append
     rw[T.un]
     simp only[Option.bind_some,T.sz]
     rw[U]
     simp only[Option.bind_some]
     show (some 1).bind _=_
     simp only[Option.bind_some,p,aP,o,decide_true]
     show X.vW j (some ⟨b,0,none⟩) n 1 1 L.length [x]=_
     show Bool.rec (motive:=fun _=>Option R) ((X.storeCells j (nE ⟨b,0,none⟩ (n * 1)) [x]).bind fun h=>some (.val (.slice (some ⟨b,0,none⟩) (n+1) L.length) h)) (some (.val (.slice (some ⟨b,0,none⟩) (n+1) L.length) j)) (Nat.beq (1 * 1) 0)=_
     rw[O_];rfl
    rw[this]
    show K _ _
    refine hK _ _ (J.put _ gz) ?_
    have:=bp.at (e:=e) (h0:=h0) (h:=j.put b (.row ⟨L.set n x,e,0,0,false⟩)) b (n+1) (L.set n x) gz hb (by rw[eH,if_pos rfl]) (sp o)
    rw[List.length_set] at this
    have e1:(L.set n x).take (n+1)=L.take n++[x]:=by
     rw[List.take_add_one,List.take_set_of_le (Nat.le_refl n)]
     simp[show n<L.length by omega]
    rw[e1] at this
    exact this
  . refine C _ L.length (by rw[hl];omega) (by rw[hl]) ?_ ?_
    . show (j.row b).map _=_
      rw[hr];rfl
    . rw[hl]
      show (bif Nat.beq (n * 1) 0 then some [] else X.loadCells j ⟨b,0,none⟩ (n * 1))=_
      rw[ax]
      by_cases q:n * 1=0
      . have:n=0:=om
        subst this;simp
      . simp only[q,decide_false,cond_false]
        show (j.row b).bind _=_
        rw[hr]
        show takeN (n * 1) (mT 0 L)=_
        rw[mA,Nat.mul_one,ki hn]
end
section
variable {E:Env} {t e:TypeId} {z:Value}
def Dl (L:List Value) (i:Nat) (xs:List Value):List Value:=L.take i++xs++L.drop (i+xs.length)
theorem PF (L:List Value) (i:Nat) (xs:List Value) (h:i+xs.length<=L.length):(Dl L i xs).length=L.length:=by unfold Dl;simp;omega
theorem Ahx (T:Tz E t e z) {h0 h:H} {v w:Value} {vs xs:List Value} (hf:Fr h0 h) (r:bp e h0 h v vs) (rx:bk h w xs) (o:cV h 1 xs.length w=some xs) (J:X.lenOf w=some xs.length) (hl:vs.length<=10000000000) (PL:xs.length<=10000000000) (hx:da xs=true) {K:Value->H->Prop}
 (hK:∀ v' h',Fr h0 h'->bp e h0 h' v' (vs++xs)->K v' h'):ir E h #[t,t] v w K:=by
 have U:((E.under t).map ku)=some false:=by rw[T.un];rfl
 obtain⟨i,hi,qS,hs⟩:=T.inf
 have p:∀ (base:Option Addr) (c:Nat),¬ vs.length+xs.length<=c->v=.slice base vs.length c->X.oh h base c=some false->cV h 1 vs.length v=some vs->ir E h #[t,t] v w K:=by
  intro base c j hv ho hold
  refine⟨.inr (.inl ?_)⟩
  show rz E h [t,t] v _ K
  unfold rz
  show af (some t) _
  rw[aa,T.un,aa]
  rw[hv] at hold ⊢
  show af (E.size e) _
  rw[T.sz,aa]
  show af ((E.under t).map ku) _
  rw[U,aa]
  rw[cond_false]
  rw[J,aa,o,aa,hold,aa,ho,aa]
  show (bif Nat.ble (vs.length+xs.length) c then False else _)
  rw[aP]
  simp only[j,decide_false,cond_false]
  unfold tD
  rw[hi,aa,T.zc,aa]
  have h1b:(vs.length+xs.length+64) * 4 * i.bytes<=(vs.length+xs.length+64) * 4 * 16:=Nat.mul_le_mul_left _ qS
  have hc:(Nat.ble ((vs.length+xs.length+64) * 4 * i.bytes) 70368744177664&&Nat.ble (vs.length+xs.length) 70368744177664&&Nat.beq (X.len [z]) 1)=true:=by
   simp only[aP,ax,br,Bool.and_eq_true,decide_eq_true_eq]
   exact⟨⟨om,om⟩,rfl⟩
  rw[hc]
  show ∀ G,_->_
  intro G hG
  rw[dF,dF,MS]
  have:=bp.at (e:=e) (h0:=h0) (h:=newRow h e (vs++xs++List.replicate (G-(vs.length+xs.length)) z) 0) h.next (vs.length+xs.length) (vs++xs++List.replicate (G-(vs.length+xs.length)) z) hf.next sm (by rw[aS,if_pos rfl]) sm
  have e1:(vs++xs++List.replicate (G-(vs.length+xs.length)) z).length=G:=so
  have e2:(vs++xs++List.replicate (G-(vs.length+xs.length)) z).take (vs.length+xs.length)=vs++xs:=by
   have:vs.length+xs.length=(vs++xs).length:=sm
   rw[this,List.take_left]
  rw[e1,e2] at this
  exact hK _ _ (hf.newRow _ _ _) this
 have C:∀ (base:Option Addr) (n c:Nat) (h':H),v=.slice base n c->n+xs.length<=c->X.vW h base n 1 xs.length c xs=some (.val (.slice base (n+xs.length) c) h')->K (.slice base (n+xs.length) c) h'->ir E h #[t,t] v w K:=by
  intro base n c h' hv j I hk
  subst hv
  refine⟨.inl ?_⟩
  have:bq E h .append #[t,t] [.slice base n c,w]=some (.val (.slice base (n+xs.length) c) h'):=by
   show X.append E h t (some t) _ _=_
   unfold X.append
   rw[T.un]
   simp only[Option.bind_some,T.sz]
   rw[U]
   simp only[Option.bind_some,J,o,aP,j,decide_true]
   exact I
  rw[this]
  exact hk
 cases r with
 | nil =>
  by_cases hm:xs.length=0
  . have:xs=[]:=List.eq_nil_of_length_eq_zero hm
    subst this
    exact C none 0 0 h rfl nlr rfl (hK _ _ hf .nil)
  . exact p none 0 (by simp;exact fun q=>hm (by rw[q];rfl)) rfl rfl rfl
 | «at» b n L gz hb hr hn =>
  have hl:(L.take n).length=n:=so
  by_cases j:n+xs.length<=L.length
  . by_cases hm:xs.length=0
    . have hxs:xs=[]:=List.eq_nil_of_length_eq_zero hm
      subst hxs
      refine C _ n _ h rfl j rfl (hK _ _ hf ?_)
      rw[List.append_nil]
      exact bp.at b n L gz hb hr hn
    . have O_:X.storeCells h (nE ⟨b,0,none⟩ (n * 1)) xs=some (h.put b (.row ⟨Dl L n xs,e,0,0,false⟩)):=by
       rw[zS,bK,hr]
       simp only[Option.bind_some,Nat.zero_add,Nat.mul_one]
       rw[if_pos ⟨trivial,Nat.zero_le _,j,hx⟩,m6 _ _ _ j];rfl
      have I:X.vW h (some ⟨b,0,none⟩) n 1 xs.length L.length xs=some (.val (.slice (some ⟨b,0,none⟩) (n+xs.length) L.length) (h.put b (.row ⟨Dl L n xs,e,0,0,false⟩))):=by
       show Bool.rec (motive:=fun _=>Option R) ((X.storeCells h (nE ⟨b,0,none⟩ (n * 1)) xs).bind fun h=>some (.val (.slice (some ⟨b,0,none⟩) (n+xs.length) L.length) h)) (some (.val (.slice (some ⟨b,0,none⟩) (n+xs.length) L.length) h)) (Nat.beq (xs.length * 1) 0)=_
       rw[ax,Nat.mul_one xs.length]
       simp only[hm,decide_false]
       rw[O_];rfl
      refine C _ n _ _ rfl j I (hK _ _ (hf.put _ gz) ?_)
      have T_:=PF L n xs j
      have:=bp.at (e:=e) (h0:=h0) (h:=h.put b (.row ⟨Dl L n xs,e,0,0,false⟩)) b (n+xs.length) (Dl L n xs) gz hb (by rw[eH,if_pos rfl]) (by rw[T_];exact j)
      rw[T_] at this
      have e1:(Dl L n xs).take (n+xs.length)=L.take n++xs:=by
       unfold Dl
       have:n+xs.length=(L.take n++xs).length:=so
       rw[this,List.take_left]
      rw[e1] at this
      exact this
  . refine p _ L.length (by rw[hl];omega) (by rw[hl]) ?_ ?_
    . show (h.row b).map _=_
      rw[hr];rfl
    . rw[hl]
      show (bif Nat.beq (n * 1) 0 then some [] else X.loadCells h ⟨b,0,none⟩ (n * 1))=_
      rw[ax]
      by_cases q:n * 1=0
      . have:n=0:=om
        subst this;simp
      . simp only[q,decide_false,cond_false]
        show (h.row b).bind _=_
        rw[hr]
        show takeN (n * 1) (mT 0 L)=_
        rw[mA,Nat.mul_one,ki hn]
theorem Ab7 (T:Tz E t e z) {h0 h:H} {v:Value} {vs xs:List Value} (hf:Fr h0 h) (r:bp e h0 h v vs) (hl:vs.length<=10000000000) (j:xs.length<=10000000000) (hx:da xs=true) {n:Nat} {ps:List (Nat × Value)} (hb:dM E h t n ps=some (newRow h e xs 0)) (hn:n=xs.length) {K:Value->H->Prop}
 (o:∀ v' h',Fr h0 h'->bp e h0 h' v' (vs++xs)->K v' h'):gh E h t n ps fun w p=>ir E p #[t,t] v w K:=by
 unfold gh
 rw[hb,aa]
 subst hn
 have f1:Fr h (newRow h e xs 0):=(Fr.refl h).newRow _ _ _
 have rd:bk (newRow h e xs 0) (.slice (some ⟨h.next,0,none⟩) xs.length xs.length) xs:=.at h.next 0 xs.length xs sm ⟨_,by rw[aS,if_pos rfl],sm⟩ nlr
 show ir E _ #[t,t] v (.slice (some ⟨h.next,0,none⟩) xs.length xs.length) K
 refine Ahx T (hf.trans f1) (r.fr f1) rd ?_ rfl hl j hx o
 show (bif Nat.beq (xs.length * 1) 0 then some [] else X.loadCells _ ⟨h.next,0,none⟩ (xs.length * 1))=_
 rw[ax,Nat.mul_one]
 by_cases q:xs.length=0
 . have:xs=[]:=List.eq_nil_of_length_eq_zero q
   subst this;rfl
 . simp only[q,decide_false,cond_false]
   show ((newRow h e xs 0).row h.next).bind _=_
   rw[aS,if_pos rfl]
   show takeN xs.length (mT 0 xs)=_
   rw[mA,ki nlr,List.take_length]
end
def H.cap (h:H) (n:Nat):H:=⟨h.t,n⟩
theorem Fr.cap {h h':H} {n:Nat} (f:Fr h h') (hn:n<=h.next):Fr (h.cap n) h':=⟨Nat.le_trans hn f.next,fun c hc=>f.cK c (Nat.lt_of_lt_of_le hc hn)⟩
theorem Fr.Ad7 (h:H) {n:Nat} (hn:n<=h.next):Fr (h.cap n) h:=(Fr.refl h).cap hn
theorem bp.base {e:TypeId} {h0 h0' h:H} {v:Value} {vs:List Value} (r:bp e h0 h v vs) (hn:h0'.next=h0.next):bp e h0' h v vs:=by
 cases r with
 | nil=>exact .nil
 | «at» b n L gz hb hr hm=>exact .at b n L (by rw[hn];exact gz) hb hr hm
def bt (v:Value) (b:Nat):Prop:=∀ b' o n c,v=.slice (some ⟨b',o,none⟩) n c->b'≠b
theorem bk.mR {h h':H} {v:Value} {vs:List Value} {b:Nat} (r:bk h v vs) (x:eV b h h') (j:bt v b):bk h' v vs:=by
 cases r with
 | nil=>exact .nil
 | «at» b' o c _ hb hr hc=>exact .at b' o c _ (Nat.lt_of_lt_of_le hb x.next) (by rw[x.row hb (j _ _ _ _ rfl)];exact hr) hc
theorem bp.mR {e:TypeId} {h0 h h':H} {v:Value} {vs:List Value} {b:Nat} (r:bp e h0 h v vs) (x:eV b h h') (j:bt v b):bp e h0 h' v vs:=by
 cases r with
 | nil=>exact .nil
 | «at» b' n L gz hb hr hn=>exact .at b' n L gz (Nat.lt_of_lt_of_le hb x.next) (by rw[x.row hb (j _ _ _ _ rfl)];exact hr) hn
theorem bp.off {e:TypeId} {h0 h:H} {v:Value} {vs:List Value} (r:bp e h0 h v vs) {b:Nat} (hb:b<h0.next):bt v b:=by
 intro b' o n c q
 cases r with
 | nil=>cases q
 | «at» b2 n L gz hb hr hn=>cases q;omega
theorem bp.lt {e:TypeId} {h0 h:H} {v:Value} {vs:List Value} (r:bp e h0 h v vs) {b:Nat} (hb:h.next<=b):bt v b:=by
 intro b' o n c q
 cases r with
 | nil=>cases q
 | «at» b2 n L gz hb hr hn=>cases q;omega
theorem bk.lt {h:H} {v:Value} {vs:List Value} (r:bk h v vs) {b:Nat} (hb:h.next<=b):bt v b:=by
 intro b' o n c q
 cases r with
 | nil=>cases q
 | «at» b2 o c _ hb hr hc=>cases q;omega
theorem bp.ne {e p:TypeId} {h0 h:H} {v:Value} {vs:List Value} (r:bp e h0 h v vs) {b:Nat} {cs:List Value} {osz ib:Nat} {ro:Bool} (hb:h.row b=some ⟨cs,p,osz,ib,ro⟩) (he:e≠p):bt v b:=by
 intro b' o n c q
 cases r with
 | nil=>cases q
 | «at» b2 n L gz C hr hn=>cases q;intro j;subst j;rw[hb] at hr;cases hr;exact he rfl
theorem jh {h:H} {b c:Nat} {o:kJ} (hc:c≠b):(h.put b o).get c=h.get c:=(H.d' _ _ _ _).trans (if_neg hc)
theorem dL {h:H} {b c:Nat} {o:kJ} (hc:c≠b):(h.put b o).row c=h.row c:=bg (jh hc)
theorem bp.cell {e:TypeId} {h0 h:H} {v:Value} {vs:List Value} (r:bp e h0 h v vs):cells v=some [v]/\bX v=true:=by cases r <;> exact⟨rfl,rfl⟩
theorem bk.dH {h:H} {v:Value} {vs:List Value} (r:bk h v vs):∀ b o n c,v=.slice (some ⟨b,o,none⟩) n c->b<h.next:=by
 intro b o n c q
 cases r with
 | nil=>cases q
 | «at» b2 o c _ hb hr hc=>cases q;exact hb
theorem bk.dg {h h':H} {v:Value} {vs:List Value} (r:bk h v vs) (hn:∀ b o n c,v=.slice (some ⟨b,o,none⟩) n c->b<h'.next/\h'.get b=h.get b):bk h' v vs:=by
 cases r with
 | nil=>exact .nil
 | «at» b o c _ hb hr hc=>exact .at b o c _ (hn _ _ _ _ rfl).1 (by rw[bg (hn _ _ _ _ rfl).2];exact hr) hc
theorem eV.del (h:H) (b:Nat):eV b h (h.del b):=⟨Nat.le_refl _,fun c _ hc=>(H.mu _ _ _).trans (if_neg hc)⟩
end Go.X
namespace Go.X
def aJ (l:List UInt8):Nat:=l.foldl (fun n c=>n * 256+c.toNat) 0
theorem Gu:aJ []=0:=rfl
theorem Dv (l:List UInt8) (c:UInt8):aJ (l++[c])=aJ l * 256+c.toNat:=by simp[aJ,List.foldl_append]
theorem P3 (l:List UInt8):∀ n,l.foldl (fun n c=>n * 256+c.toNat) n=n * 256 ^ l.length+aJ l:=by
 induction l with
 | nil=>intro n;simp[aJ]
 | cons c l j =>
  intro n
  have e:aJ (c :: l)=c.toNat * 256 ^ l.length+aJ l:=by
   show List.foldl _ (0 * 256+c.toNat) l=_
   rw[j,Nat.zero_mul,Nat.zero_add]
  rw[List.foldl_cons,j,e,List.length_cons,Nat.pow_succ]
  simp only[Nat.add_mul]
  rw[Nat.mul_assoc,Nat.mul_comm 256,Nat.add_assoc]
theorem pZ (a b:List UInt8):aJ (a++b)=aJ a * 256 ^ b.length+aJ b:=by
 rw[aJ,List.foldl_append,P3];rfl
theorem DA (c:UInt8) (l:List UInt8):aJ (c :: l)=c.toNat * 256 ^ l.length+aJ l:=by
 have:=pZ [c] l
 simpa [aJ] using this
theorem wj (l:List UInt8):aJ l<256 ^ l.length:=by
 induction l with
 | nil=>simp[aJ]
 | cons c l j =>
  rw[DA,List.length_cons,Nat.pow_succ]
  have:c.toNat<256:=c.toNat_lt
  have h2:c.toNat * 256 ^ l.length+256 ^ l.length<=256 * 256 ^ l.length:=by
   rw[<-Nat.succ_mul];exact Nat.mul_le_mul_right _ this
  rw[Nat.mul_comm (256 ^ l.length)]
  omega
def trim (l:List UInt8):List UInt8:=l.dropWhile (· == 0)
theorem V3:trim []=[]:=rfl
theorem mP (l:List UInt8):trim (0 :: l)=trim l:=by simp[trim]
theorem ny (c:UInt8) (l:List UInt8) (h:c≠0):trim (c :: l)=c :: l:=by simp[trim,h]
theorem JS (l:List UInt8):aJ (trim l)=aJ l:=by
 induction l with
 | nil=>rfl
 | cons c l j =>
  by_cases h:c=0
  . subst h;rw[mP,j,DA];simp
  . rw[ny c l h]
theorem Nm (l:List UInt8):(trim l).length<=l.length:=by
 induction l with
 | nil=>simp[trim]
 | cons c l j =>
  by_cases h:c=0
  . subst h;rw[mP];simp;omega
  . rw[ny c l h];simp
theorem TG (l:List UInt8):trim (trim l)=trim l:=by
 induction l with
 | nil=>rfl
 | cons c l j =>
  by_cases h:c=0
  . subst h;rw[mP,j]
  . rw[ny c l h,ny c l h]
def enc (n:Nat):List UInt8:=if h:n=0 then [] else enc (n / 256)++[UInt8.ofNat (n % 256)]
 termination_by n
 decreasing_by omega
theorem du:enc 0=[]:=by rw[enc];simp
theorem FY {n:Nat} (h:n≠0):enc n=enc (n / 256)++[UInt8.ofNat (n % 256)]:=by rw[enc];simp[h]
theorem ofNat_toNat {n:Nat} (h:n<256):(UInt8.ofNat n).toNat=n:=so
theorem a_ (n:Nat):aJ (enc n)=n:=by
 induction n using Nat.strongRecOn with
 | ind n j =>
  by_cases h:n=0
  . subst h;rw[du];rfl
  . rw[FY h,Dv,j (n / 256) om,ofNat_toNat (Nat.mod_lt _ om)]
    omega
theorem TQ (l:List UInt8) (c:UInt8):trim (l++[c])=if trim l=[] then (if c=0 then [] else [c]) else trim l++[c]:=by
 induction l with
 | nil =>
  simp only[List.nil_append,V3,if_true]
  by_cases h:c=0
  . subst h;rfl
  . rw[if_neg h,ny c [] h]
 | cons d l j =>
  by_cases h:d=0
  . subst h;rw[List.cons_append,mP,mP,j]
  . rw[List.cons_append,ny _ _ h,ny _ _ h];simp
theorem rP (l:List UInt8):trim l=[]<->aJ l=0:=by
 constructor
 . intro h;rw[<-JS,h];rfl
 . intro h
   induction l with
   | nil=>rfl
   | cons c l j =>
    rw[DA] at h
    by_cases hc:c=0
    . subst hc;rw[mP];exact j (sp h)
    . exfalso
      have o:c.toNat≠0:=fun q=>hc (UInt8.toNat_inj.1 q)
      have h2:0<256 ^ l.length:=Nat.pos_of_ne_zero sm
      have:=Nat.mul_pos (Nat.pos_of_ne_zero o) h2
      omega
theorem yh (l:List UInt8):enc (aJ l)=trim l:=by
 have key:∀ n (l:List UInt8),l.length=n->enc (aJ l)=trim l:=by
  intro n
  induction n with
  | zero=>intro l h;have:l=[]:=List.eq_nil_of_length_eq_zero h;subst this;rw[Gu,du];rfl
  | succ n o =>
   intro l h
   obtain⟨a,c,rfl⟩:∃ a c,l=a++[c]:=⟨l.dropLast,l.getLast (by intro q;subst q;cases h),(List.dropLast_concat_getLast _).symm⟩
   have ha:a.length=n:=sp h
   have hc:c.toNat<256:=c.toNat_lt
   rw[TQ,Dv]
   by_cases h0:aJ a * 256+c.toNat=0
   . have hb:aJ a=0:=om
     have j:c=0:=UInt8.toNat_inj.1 (by show c.toNat=0;omega)
     rw[h0,du,if_pos ((rP a).2 hb),if_pos j]
   . rw[FY h0]
     have p:(aJ a * 256+c.toNat) / 256=aJ a:=om
     have C:(aJ a * 256+c.toNat) % 256=c.toNat:=om
     rw[p,C,o a ha,UInt8.ofNat_toNat]
     by_cases hb:aJ a=0
     . have:=(rP a).2 hb
       rw[this,if_pos rfl,if_neg (fun q=>h0 (by subst q;rw[hb];rfl))];rfl
     . rw[if_neg (fun q=>hb ((rP a).1 q))]
 exact key _ l rfl
theorem La {a b:Nat} (h:enc a=enc b):a=b:=by rw[<-a_ a,h,a_]
theorem fE (n:Nat):enc n=[]<->n=0:=⟨fun h=>La (h.trans du.symm),fun h=>by subst h;exact du⟩
theorem mg {n k:Nat} (h:n<256 ^ k):(enc n).length<=k:=by
 induction k generalizing n with
 | zero=>have:n=0:=sp h
         subst this;rw[du];simp
 | succ k j =>
  by_cases h0:n=0
  . subst h0;rw[du];simp
  . rw[FY h0]
    have:n / 256<256 ^ k:=by
     rw[Nat.div_lt_iff_lt_mul om];rw[Nat.pow_succ] at h;exact h
    simpa using j this
theorem gV {n k:Nat} (h:(enc n).length<=k):n<256 ^ k:=by
 have:=wj (enc n)
 rw[a_] at this
 exact Nat.lt_of_lt_of_le this (Nat.pow_le_pow_right om h)
theorem FZ:enc 1=[1]:=by rw[FY om,show 1 / 256=0 by rfl,du];rfl
def aN (ns:List Nat):Nat:=ns.foldr (fun d n=>d+4294967296 * n) 0
def iu (ns:List Nat):Prop:=∀ n ∈ ns,n<4294967296
def Norm (ns:List Nat):Prop:=iu ns/\ns.getLast?≠some 0
theorem sF:aN []=0:=rfl
theorem oS (d:Nat) (ns:List Nat):aN (d :: ns)=d+4294967296 * aN ns:=rfl
theorem gC (a b:List Nat):aN (a++b)=aN a+4294967296 ^ a.length * aN b:=by
 induction a with
 | nil=>simp[aN]
 | cons d a j=>rw[List.cons_append,oS,j,oS,List.length_cons,Nat.pow_succ,Nat.mul_add,Nat.add_assoc,<-Nat.mul_assoc,Nat.mul_comm 4294967296 (4294967296 ^ a.length)]
theorem mQ (a:List Nat) (d:Nat):aN (a++[d])=aN a+4294967296 ^ a.length * d:=by rw[gC];simp[aN]
theorem pr {ns:List Nat} (h:iu ns):aN ns<4294967296 ^ ns.length:=by
 induction ns with
 | nil=>simp[aN]
 | cons d ns j =>
  rw[oS,List.length_cons,Nat.pow_succ]
  have o:=h d (.head _)
  have h2:=j fun n hn=>h n (.tail _ hn)
  rw[Nat.mul_comm (4294967296 ^ ns.length)]
  omega
theorem iu.nil:iu []:=fun n h=>by cases h
theorem iu.cons {d:Nat} {ns:List Nat} (h:d<4294967296) (hs:iu ns):iu (d :: ns):=fun n hn=>by cases hn with | head=>exact h | tail _ q=>exact hs n q
theorem iu.snoc {d:Nat} {ns:List Nat} (hs:iu ns) (h:d<4294967296):iu (ns++[d]):=fun n hn=>by
 rcases List.mem_append.1 hn with q | q
 . exact hs n q
 . have:n=d:=sp q
   subst this;exact h
def tI:List Nat->List Nat:=fun ns=>(ns.reverse.dropWhile (· == 0)).reverse
theorem sD (ns:List Nat):tI (ns++[0])=tI ns:=by simp[tI]
theorem uM (ns:List Nat) (d:Nat) (h:d≠0):tI (ns++[d])=ns++[d]:=by simp[tI,h]
theorem sC (ns:List Nat):ns=[]\/∃ a d,ns=a++[d]:=by
 cases ns with
 | nil=>exact .inl rfl
 | cons x xs=>exact .inr ⟨(x :: xs).dropLast,(x :: xs).getLast sm,(List.dropLast_concat_getLast _).symm⟩
theorem JQ (ns:List Nat):aN (tI ns)=aN ns:=by
 have key:∀ n (ns:List Nat),ns.length=n->aN (tI ns)=aN ns:=by
  intro n
  induction n with
  | zero=>intro ns h;have:ns=[]:=List.eq_nil_of_length_eq_zero h;subst this;rfl
  | succ n j =>
   intro ns h
   rcases sC ns with rfl | ⟨a,d,rfl⟩
   . rfl
   . by_cases hd:d=0
     . subst hd;rw[sD,j a (sp h),mQ];simp
     . rw[uM a d hd]
 exact key _ ns rfl
theorem JP {ns:List Nat} (h:iu ns):Norm (tI ns):=by
 have key:∀ n (ns:List Nat),ns.length=n->iu ns->Norm (tI ns):=by
  intro n
  induction n with
  | zero=>intro ns h _;have:ns=[]:=List.eq_nil_of_length_eq_zero h;subst this;exact⟨iu.nil,by simp[tI]⟩
  | succ n j =>
   intro ns h hl
   rcases sC ns with rfl | ⟨a,d,rfl⟩
   . exact⟨iu.nil,by simp[tI]⟩
   . by_cases hd:d=0
     . subst hd;rw[sD];exact j a (sp h) fun n hn=>hl n (List.mem_append_left _ hn)
     . rw[uM a d hd];exact⟨hl,by simp[hd]⟩
 exact key _ ns rfl h
theorem Norm.Ft {ns:List Nat} (h:Norm ns):iu ns:=h.1
theorem Norm.tail {d:Nat} {ns:List Nat} (h:Norm (d :: ns)):Norm ns:=by
 refine⟨fun n hn=>h.1 n (.tail _ hn),?_⟩
 have:=h.2
 cases ns with
 | nil=>simp
 | cons x xs=>simpa using this
theorem Norm.zero {ns:List Nat} (h:Norm ns) (h0:aN ns=0):ns=[]:=by
 induction ns with
 | nil=>rfl
 | cons d ns j =>
  rw[oS] at h0
  have hd:d=0:=om
  have:=j h.tail om
  subst this;subst hd
  exact absurd rfl h.2
theorem JT {a:List Nat} {d:Nat} (h:Norm (a++[d])):d≠0/\d<4294967296/\iu a:=by
 refine⟨fun q=>h.2 (by simp[q]),h.1 d sm,fun n hn=>h.1 n (List.mem_append_left _ hn)⟩
theorem yn {a b:List Nat} (ha:iu a) (hb:Norm b) (h:a.length<b.length):aN a<aN b:=by
 rcases sC b with rfl | ⟨c,d,rfl⟩
 . cases h
 . obtain⟨j,h2,o⟩:=JT hb
   have p:=pr ha
   rw[mQ]
   have C:4294967296 ^ a.length<=4294967296 ^ c.length:=Nat.pow_le_pow_right om (by simp at h;omega)
   have I:4294967296 ^ c.length * 1<=4294967296 ^ c.length * d:=Nat.mul_le_mul_left _ (Nat.pos_of_ne_zero j)
   omega
theorem wx {a:List Nat} (h:Norm a) {k:Nat} (hk:aN a<4294967296 ^ k):a.length<=k:=by
 rcases sC a with rfl | ⟨c,d,rfl⟩
 . simp
 . obtain⟨j,h2,o⟩:=JT h
   rw[mQ] at hk
   have p:4294967296 ^ c.length * 1<=4294967296 ^ c.length * d:=Nat.mul_le_mul_left _ (Nat.pos_of_ne_zero j)
   have:4294967296 ^ c.length<4294967296 ^ k:=om
   have:=(Nat.pow_lt_pow_iff_right om).1 this
   simp;omega
end Go.X
namespace Go.X
open Go
abbrev vI (n:Nat):Value:=.int .i64 (n:Int)
abbrev dD (n:Nat):Value:=.int .u64 (n:Int)
abbrev xN (n:Nat):Value:=.int .u32 (n:Int)
abbrev v8 (n:Nat):Value:=.int .u8 (n:Int)
theorem bB (n:Nat):IntKind.u64.wrap (n:Int)=((n % 18446744073709551616:Nat):Int):=by rw[<-cU];rfl
theorem wrap_u32 (n:Nat):IntKind.u32.wrap (n:Int)=((n % 4294967296:Nat):Int):=by rw[<-cU];rfl
theorem wrap_u8 (n:Nat):IntKind.u8.wrap (n:Int)=((n % 256:Nat):Int):=by rw[<-cU];rfl
theorem wrap_i64 {n:Nat} (h:n<=9223372036854775807):IntKind.i64.wrap (n:Int)=(n:Int):=wrap64 om om
theorem P5 (n:Nat) (h0:0<n) (h:n<=18446744073709551616):IntKind.u64.wrap (-(n:Int))=((18446744073709551616-n:Nat):Int):=by
 rw[<-cU]
 obtain⟨m,rfl⟩:∃ m,n=m+1:=⟨n-1,om⟩
 show ((Nat.sub (Nat.sub 18446744073709551616 1) (Nat.mod m 18446744073709551616):Nat):Int)=_
 have:Nat.mod m 18446744073709551616=m:=Nat.mod_eq_of_lt om
 rw[this]
 congr 1
 show 18446744073709551616-1-m=_
 omega
section
variable (E:Env) (t:TypeId) (k k':IntKind) (a b:Nat)
theorem fq:X.binOp E .add t (.int k (a:Int)) (.int k (b:Int))=some (.int k (k.wrap ((a+b:Nat):Int))):=by rw[binOp_add,Int.natCast_add]
theorem Ds:X.binOp E .mul t (.int k (a:Int)) (.int k (b:Int))=some (.int k (k.wrap ((a * b:Nat):Int))):=by rw[binOp_mul,Int.natCast_mul]
theorem uK (h:b<=a):X.binOp E .sub t (.int k (a:Int)) (.int k (b:Int))=some (.int k (k.wrap ((a-b:Nat):Int))):=by rw[binOp_sub,Int.natCast_sub h]
theorem VW (h:a<b) (hb:b<=a+18446744073709551616):X.binOp E .sub t (dD a) (dD b)=some (dD (18446744073709551616+a-b)):=by
 rw[binOp_sub]
 have e:((a:Int)-(b:Int))=-((b-a:Nat):Int):=om
 rw[e,P5 _ om om]
 congr 2
 show ((_:Nat):Int)=_
 congr 1;omega
theorem qR:X.binOp E .shr t (.int k (a:Int)) (.int k' (b:Int))=some (.int k ((a >>> min b k.bits:Nat):Int)):=rfl
theorem Gs:X.binOp E .shl t (.int k (a:Int)) (.int k' (b:Int))=some (.int k (k.wrap ((a <<< min b k.bits:Nat):Int))):=by
 show some (Value.int k (mS k (Int.ofNat (Nat.shiftLeft a (Nat.min b k.bits)))))=_
 rw[cU];rfl
theorem M9:X.binOp E .or t (.int k (a:Int)) (.int k (b:Int))=some (.int k (k.wrap ((a ||| b:Nat):Int))):=by
 show fF k k (some (.int k (mS k (Int.ofNat (Nat.lor a b)))))=_
 rw[ey,cU];rfl
theorem Lc:X.binOp E .and t (.int k (a:Int)) (.int k (b:Int))=some (.int k (k.wrap ((a &&& b:Nat):Int))):=by
 show fF k k (some (.int k (mS k (Int.ofNat (Nat.land a b)))))=_
 rw[ey,cU];rfl
theorem GA (h:b≠0):X.binOp E .quo t (.int k (a:Int)) (.int k (b:Int))=some (.int k (k.wrap ((a / b:Nat):Int))):=by
 show fF k k (Bool.rec (motive:=fun _=>Option Value) (some (.int k (mS k ((a:Int).tdiv b)))) none (cx b 0))=_
 rw[ey,iF,cU]
 have:((b:Int) == 0)=false:=sp h
 rw[this]
 show some (Value.int k (k.wrap ((a:Int).tdiv b)))=_
 rw[show (a:Int).tdiv b=((a / b:Nat):Int) from rfl]
theorem Le (h:b≠0):X.binOp E .rem t (.int k (a:Int)) (.int k (b:Int))=some (.int k ((a % b:Nat):Int)):=by
 show fF k k (Bool.rec (motive:=fun _=>Option Value) (some (.int k ((a:Int).tmod b))) none (cx b 0))=_
 rw[ey,iF]
 have:((b:Int) == 0)=false:=sp h
 rw[this]
 show some (Value.int k ((a:Int).tmod b))=_
 rw[show (a:Int).tmod b=((a % b:Nat):Int) from rfl]
theorem bI:X.binOp E .lss t (.int k (a:Int)) (.int k (b:Int))=some (.bool (decide (a<b))):=by rw[binOp_lss];simp
theorem nD:X.binOp E .leq t (.int k (a:Int)) (.int k (b:Int))=some (.bool (decide (a<=b))):=by rw[binOp_leq];simp
theorem fu:X.binOp E .gtr t (.int k (a:Int)) (.int k (b:Int))=some (.bool (decide (b<a))):=by rw[binOp_gtr];simp
theorem wg:X.binOp E .geq t (.int k (a:Int)) (.int k (b:Int))=some (.bool (decide (b<=a))):=by rw[binOp_geq];simp
theorem cn:X.binOp E .eql t (.int k (a:Int)) (.int k (b:Int))=some (.bool (decide (a=b))):=by rw[ak];simp;omega
theorem cX:X.binOp E .neq t (.int k (a:Int)) (.int k (b:Int))=some (.bool (decide (a≠b))):=by rw[sJ];simp;omega
end
theorem dI {E:Env} {s d:TypeId} {j:TypeDesc} {k':IntKind} (hs:E.under s=some j) (hd:E.under d=some (.int k')) (h:H) (k:IntKind) (n:Int):aT E h s d (.int k n)=some (.int k' (k'.wrap n),h):=by
 unfold aT
 rw[hs,Option.bind_some,hd,Option.bind_some]
 show some (Value.int k' (mS k' n),h)=_
 rw[cU]
theorem wz (l:List UInt8):eN l=l.map fun b=>v8 b.toNat:=qf l
theorem AF {E:Env} {s d e:TypeId} (hs:E.under s=some .string) (hd:E.under d=some (.slice e)) (he:E.under e=some (.int .u8)) (h:H) (l:List UInt8) :
 ∃ v h',aT E h s d (st l)=some (v,h')/\Fr h h'/\bk h' v (l.map fun b=>v8 b.toNat):=by
 refine⟨.slice (some ⟨h.next,0,none⟩) l.length l.length,newRow h e (eN l) 1,?_,(Fr.refl h).newRow e (eN l) 1,?_⟩
 . unfold aT
   rw[hs,Option.bind_some,hd,Option.bind_some]
   show (E.under e).bind _=_
   rw[he,Option.bind_some]
   show some (Value.slice (some ⟨h.next,0,none⟩) (len l) (len l),newRow h e (eN l) 1)=_
   rw[br]
 . have:=bk.at (h:=newRow h e (eN l) 1) h.next 0 l.length (l.map fun b=>v8 b.toNat) sm ⟨⟨eN l,e,1,0,false⟩,by rw[aS,if_pos rfl],by rw[wz];simp;exact List.take_of_length_le sm⟩ sm
   simpa using this
theorem EB (l:List UInt8):bytesOf (l.map fun b=>v8 b.toNat)=some l:=by
 induction l with
 | nil=>rfl
 | cons b l j =>
  show ((byteOf (v8 b.toNat)).bind fun b=>Option.rec (motive:=fun _=>Option (List UInt8)) none (fun r=>some (b :: r)) (bytesOf (l.map fun b=>v8 b.toNat)))=_
  rw[j]
  show some (UInt8.ofNat ((b.toNat:Int)).toNat :: l)=_
  simp
theorem Agf {h:H} {v:Value} {vs:List Value} (r:bk h v vs):cV h 1 vs.length v=some vs:=by
 cases r with
 | nil=>rfl
 | «at» b o c _ hb hr hc =>
  show (bif Nat.beq (vs.length * 1) 0 then some [] else X.loadCells h ⟨b,o,none⟩ (vs.length * 1))=_
  rw[ax,Nat.mul_one]
  by_cases q:vs.length=0
  . have:vs=[]:=List.eq_nil_of_length_eq_zero q
    subst this;simp
  . simp only[q,decide_false,cond_false]
    obtain⟨x,hx,j⟩:=hr
    show (h.row b).bind _=_
    rw[hx]
    show takeN vs.length (mT o x.cs)=_
    have hl:vs.length<=(x.cs.drop o).length:=by
     have:=congrArg List.length j
     rw[List.length_take] at this;omega
    rw[qg,ki hl,j]
theorem Nf {E:Env} {s d e:TypeId} (hs:E.under s=some (.slice e)) (he:E.under e=some (.int .u8)) (hd:E.under d=some .string) {h:H} {v:Value} {l:List UInt8} (r:bk h v (l.map fun b=>v8 b.toNat)):aT E h s d v=some (st l,h):=by
 have key:∀ a c,v=.slice a l.length c->aT E h s d v=some (st l,h):=by
  intro a c C
  have j:=Agf r
  rw[List.length_map,C] at j
  subst C
  unfold aT
  rw[hs,Option.bind_some,hd,Option.bind_some]
  show (E.under e).bind _=_
  rw[he,Option.bind_some]
  show (cV h 1 l.length (.slice a l.length c)).bind _=_
  rw[j,Option.bind_some,EB]
  rfl
 cases r':l with
 | nil =>
  subst r'
  generalize p:([]:List UInt8).map (fun b=>v8 b.toNat)=vs at r
  cases r with
  | nil=>exact key none 0 rfl
  | «at» b o c _ hb hr hc=>exact key _ c (by rw[<-p];rfl)
 | cons b l' =>
  rw[<-r']
  generalize p:l.map (fun b=>v8 b.toNat)=vs at r
  have hlen:vs.length=l.length:=by rw[<-p];simp
  cases r with
  | nil=>rw[r'] at hlen;cases hlen
  | «at» b o c _ hb hr hc=>exact key _ c (by rw[hlen])
theorem dJ {E:Env} {t:TypeId} (j:E.under t=some .string) (h:H) (l:List UInt8) (lo hi:Option Value) {a b:Nat} (hb:jD hi l.length l.length=some b) (ha:jD lo 0 b=some a):aO E h t (st l) lo hi none=some (st ((l.take b).drop a)):=by
 unfold aO
 rw[j,Option.bind_some]
 show (some ()).bind _=_
 show (jD hi (len l) (len l)).bind _=_
 rw[br,hb,Option.bind_some,ha,Option.bind_some]
 show some (Value.string ⟨⟨Np (Cc l b) a⟩⟩)=_
 rw[Nq,GG]
theorem bm (k:IntKind) (i d y:Nat) (h:i<=y):jD (some (.int k (i:Int))) d y=some i:=by
 show (bif Nat.ble i y then some i else none)=_
 rw[aP];simp[h]
theorem fw (d y:Nat):jD none d y=some d:=rfl
theorem bp.take {E:Env} {t e:TypeId} {z:Value} (T:Tz E t e z) {h0 h:H} {v:Value} {vs:List Value} (r:bp e h0 h v vs) {n:Nat} (hn:n<=vs.length):∃ w,aO E h t v none (some (vI n)) none=some w/\bp e h0 h w (vs.take n):=by
 cases r with
 | nil =>
  have:n=0:=sp hn
  subst this
  refine⟨.slice none 0 0,?_,.nil⟩
  unfold aO
  rw[T.un,Option.bind_some]
  show sK E h e none 0 0 none (some (.int .i64 (0:Nat))) none=_
  unfold sK
  rw[fw,Option.bind_some,bm _ 0 0 0 nlr,Option.bind_some,fw,Option.bind_some,T.sz]
  rfl
 | «at» b m L gz hb hr hm =>
  have hl:(L.take m).length=m:=so
  rw[hl] at hn
  refine⟨.slice (some ⟨b,0,none⟩) n L.length,?_,?_⟩
  . unfold aO
    rw[T.un,Option.bind_some]
    show sK E h e (some ⟨b,0,none⟩) m L.length none (some (vI n)) none=_
    unfold sK
    rw[fw,Option.bind_some,bm _ n m L.length om,Option.bind_some,fw,Option.bind_some]
    have o:(IW (some (vI n)) (none:Option Value)&&Nat.ble n L.length&&Option.isSome (E.size e))=true:=by
     rw[T.sz,aP];simp[IW];omega
    rw[o]
    have j:yC E h e (some ⟨b,0,none⟩) L.length 0 L.length=some (some ⟨b,0,none⟩):=by
     unfold yC
     simp only[T.sz,Option.bind_some,hr]
     have p:(!(Nat.beq 0 0)&&Nat.beq ((⟨b,0,none⟩:Addr).off+L.length * 0) (len L)&&Nat.beq L.length L.length)=false:=rfl
     rw[p,ax]
     by_cases q:L.length=0 <;> simp[q,nE]
    show (yC E h e (some ⟨b,0,none⟩) L.length 0 L.length).bind _=_
    rw[j];rfl
  . have:=bp.at (e:=e) (h0:=h0) (h:=h) b n L gz hb hr om
    rwa [List.take_take,Nat.min_eq_left hn]
theorem wk (E:Env) (h:H) (ats:Array TypeId) (k:IntKind) (x y:Int) (K:Value->H->Prop):blt E h .max ats [.int k x,.int k y] K=K (.int k (max x y)) h:=by
 show K (.int k (Bool.rec (motive:=fun _=>Int) y x (gn y x))) h=_
 rw[fI]
 by_cases q:y<=x
 . simp only[q,decide_true];rw[Int.max_eq_left q]
 . simp only[q,decide_false];rw[Int.max_eq_right om]
theorem Li (E:Env) (h:H) (ats:Array TypeId) (k:IntKind) (x y:Int) (K:Value->H->Prop):blt E h .min ats [.int k x,.int k y] K=K (.int k (min x y)) h:=by
 show K (.int k (Bool.rec (motive:=fun _=>Int) y x (gn x y))) h=_
 rw[fI]
 by_cases q:x<=y
 . simp only[q,decide_true];rw[Int.min_eq_left q]
 . simp only[q,decide_false];rw[Int.min_eq_right om]
theorem xR.mono {P:Program} {f:FuncId} {args:List Value} {h:H} {K j:Value->H->Prop} (x:xR P f args h K) (o:∀ v h,K v h->j v h):xR P f args h j:=by
 cases x with
 | call w=>exact .call (w.mono o)
 | ext w=>exact .ext (w.mono o)
end Go.X
namespace Go.Proofs.YtikojelnedfmpaaGreatDoor
open Go Go.X
set_option maxRecDepth 1000000
noncomputable section
abbrev za(n:Nat)(h:H)(p:Value)(K:Value->Prop):Prop:=af (fJ n h p) K
abbrev oB(a b:Value)(K:Value->Prop):Prop:=af (X.binOp EE .add 3 a b) K
abbrev cM(a:Value)(n:Int)(K:Value->Prop):Prop:=af (X.binOp EE .add 3 a (.int .i64 n)) K
abbrev zb(o:BinOp)(t:TypeId)(a b:Value)(K:Value->Prop):Prop:=af (X.binOp EE o t a b) K
abbrev PS(o:BinOp)(t:TypeId)(a:Value)(n:Int)(K:Value->Prop):Prop:=af (X.binOp EE o t a (.int .i64 n)) K
abbrev tR(o:BinOp)(t:TypeId)(a:Value)(n:Int)(U V:Prop):Prop:=af (X.binOp EE o t a (.int .i64 n)) fun v=>aG v U V
abbrev Bb(o:BinOp)(t:TypeId)(a b:Value)(U V:Prop):Prop:=af (X.binOp EE o t a b) fun v=>aG v U V
abbrev lL(t:TypeId)(l:List (Nat × Value))(K:Value->Prop):Prop:=af (bC EE t l) K
abbrev zc(h:H)(p:Value)(K:Value->Prop):Prop:=af (aw h p) K
abbrev ze(v:Value)(n:Nat)(K:Value->Prop):Prop:=af (dl v n) K
abbrev zeq(a b:Value)(K:Value->Prop):Prop:=af (X.binOp EE .eql 3 a b) K
abbrev tS(a:Value)(n:Int)(K:Value->Prop):Prop:=af (X.binOp EE .eql 3 a (.int .i64 n)) K
abbrev bZ(a:Value)(n:Int)(U V:Prop):Prop:=af (X.binOp EE .eql 3 a (.int .i64 n)) fun v=>aG v U V
abbrev AdT(a b:Value)(U V:Prop):Prop:=af (X.binOp EE .eql 3 a b) fun v=>aG v U V
abbrev zf:Value:=.bool false
abbrev zge(a b:Value)(K:Value->Prop):Prop:=af (X.binOp EE .geq 3 a b) K
abbrev PG(a:Value)(n:Int)(K:Value->Prop):Prop:=af (X.binOp EE .geq 3 a (.int .i64 n)) K
abbrev IN(a:Value)(n:Int)(U V:Prop):Prop:=af (X.binOp EE .geq 3 a (.int .i64 n)) fun v=>aG v U V
abbrev Aa9(a b:Value)(U V:Prop):Prop:=af (X.binOp EE .geq 3 a b) fun v=>aG v U V
abbrev zgt(a b:Value)(K:Value->Prop):Prop:=af (X.binOp EE .gtr 3 a b) K
abbrev BU(a:Value)(n:Int)(K:Value->Prop):Prop:=af (X.binOp EE .gtr 3 a (.int .i64 n)) K
abbrev rL(a:Value)(n:Int)(U V:Prop):Prop:=af (X.binOp EE .gtr 3 a (.int .i64 n)) fun v=>aG v U V
abbrev Aba(a b:Value)(U V:Prop):Prop:=af (X.binOp EE .gtr 3 a b) fun v=>aG v U V
abbrev zi(n:Int):Value:=.int .i64 n
abbrev zl1(F:KI->Value->H->Prop)(s:List Value)(h:H):Prop:=aL (fun I s h=>F I (aI s 0) h) s h
abbrev AfS(F:KI->Value->Value->Value->Value->Value->Value->Value->Value->Value->Value->Value->Value->Value->Value->H->Prop)(s:List Value)(h:H):Prop:=aL (fun I s h=>F I (aI s 0) (aI s 1) (aI s 2) (aI s 3) (aI s 4) (aI s 5) (aI s 6) (aI s 7) (aI s 8) (aI s 9) (aI s 10) (aI s 11) (aI s 12) (aI s 13) h) s h
abbrev VK(F:KI->Value->Value->H->Prop)(s:List Value)(h:H):Prop:=aL (fun I s h=>F I (aI s 0) (aI s 1) h) s h
abbrev VL(F:KI->Value->Value->Value->H->Prop)(s:List Value)(h:H):Prop:=aL (fun I s h=>F I (aI s 0) (aI s 1) (aI s 2) h) s h
abbrev VM(F:KI->Value->Value->Value->Value->H->Prop)(s:List Value)(h:H):Prop:=aL (fun I s h=>F I (aI s 0) (aI s 1) (aI s 2) (aI s 3) h) s h
abbrev Y_(F:KI->Value->Value->Value->Value->Value->H->Prop)(s:List Value)(h:H):Prop:=aL (fun I s h=>F I (aI s 0) (aI s 1) (aI s 2) (aI s 3) (aI s 4) h) s h
abbrev zl6(F:KI->Value->Value->Value->Value->Value->Value->H->Prop)(s:List Value)(h:H):Prop:=aL (fun I s h=>F I (aI s 0) (aI s 1) (aI s 2) (aI s 3) (aI s 4) (aI s 5) h) s h
abbrev zl7(F:KI->Value->Value->Value->Value->Value->Value->Value->H->Prop)(s:List Value)(h:H):Prop:=aL (fun I s h=>F I (aI s 0) (aI s 1) (aI s 2) (aI s 3) (aI s 4) (aI s 5) (aI s 6) h) s h
abbrev zl8(F:KI->Value->Value->Value->Value->Value->Value->Value->Value->H->Prop)(s:List Value)(h:H):Prop:=aL (fun I s h=>F I (aI s 0) (aI s 1) (aI s 2) (aI s 3) (aI s 4) (aI s 5) (aI s 6) (aI s 7) h) s h
abbrev zl9(F:KI->Value->Value->Value->Value->Value->Value->Value->Value->Value->H->Prop)(s:List Value)(h:H):Prop:=aL (fun I s h=>F I (aI s 0) (aI s 1) (aI s 2) (aI s 3) (aI s 4) (aI s 5) (aI s 6) (aI s 7) (aI s 8) h) s h
abbrev zle(a b:Value)(K:Value->Prop):Prop:=af (X.binOp EE .leq 3 a b) K
abbrev yg(a:Value)(n:Int)(K:Value->Prop):Prop:=af (X.binOp EE .leq 3 a (.int .i64 n)) K
abbrev Tv(a:Value)(n:Int)(U V:Prop):Prop:=af (X.binOp EE .leq 3 a (.int .i64 n)) fun v=>aG v U V
abbrev cF(t:TypeId)(h:H)(v:Value)(K:KQ):Prop:=blt EE h .len #[t] [v] K
abbrev zls(a b:Value)(K:Value->Prop):Prop:=af (X.binOp EE .lss 3 a b) K
abbrev MT(a:Value)(n:Int)(K:Value->Prop):Prop:=af (X.binOp EE .lss 3 a (.int .i64 n)) K
abbrev Bc(a:Value)(n:Int)(U V:Prop):Prop:=af (X.binOp EE .lss 3 a (.int .i64 n)) fun v=>aG v U V
abbrev j0(a b:Value)(U V:Prop):Prop:=af (X.binOp EE .lss 3 a b) fun v=>aG v U V
abbrev MU:Option (List Value):=some []
abbrev FX(a:Value):Option (List Value):=(some []).map (a :: ·)
abbrev MZ(a b:Value):Option (List Value):=((some []).map (b :: ·)).map (a :: ·)
abbrev zn:Value:=.slice none 0 0
abbrev zne(a b:Value)(K:Value->Prop):Prop:=af (X.binOp EE .neq 3 a b) K
abbrev AdU(a:Value)(n:Int)(K:Value->Prop):Prop:=af (X.binOp EE .neq 3 a (.int .i64 n)) K
abbrev PH(a:Value)(n:Int)(U V:Prop):Prop:=af (X.binOp EE .neq 3 a (.int .i64 n)) fun v=>aG v U V
abbrev Y'(a b:Value)(U V:Prop):Prop:=af (X.binOp EE .neq 3 a b) fun v=>aG v U V
abbrev tG(v:Value)(K:Value->Prop):Prop:=af (X.unOp .not v) K
abbrev zo(n:Nat)(h:H)(p:Value)(K:Value->Prop):Prop:=af (jx n p) fun q=>af (aw h q) K
abbrev VN(n m:Nat)(h:H)(p:Value)(K:Value->Prop):Prop:=af (jx n p) fun q=>af (fJ m h q) K
abbrev zp(n:Nat)(p:Value)(K:Value->Prop):Prop:=af (jx n p) K
abbrev zr(a:Value)(t:TypeId)(h:H)(Q:KQ)(m:Option (List Value)):Prop:=af ((addrOf a).bind fun j=>(X.loadVar EE h t j).bind fun o=>m.map (o :: ·)) fun v=>Q (cN v) h
abbrev zs:Value:=.string (bs [])
abbrev bW(n:Nat)(h:H)(p v:Value)(K:H->Prop):Prop:=af (wa n h p v) K
abbrev M1(a b:Value)(K:Value->Prop):Prop:=af (X.binOp EE .sub 3 a b) K
abbrev oJ(a:Value)(n:Int)(K:Value->Prop):Prop:=af (X.binOp EE .sub 3 a (.int .i64 n)) K
abbrev zt:Value:=.bool true
abbrev zu(n:Int):Value:=.int .u8 n
abbrev zx(t:Nat)(v i:Value)(K:Value->Prop):Prop:=af (AB t v i) K
abbrev zy(v i:Value)(K:Value->Prop):Prop:=af (MV v i) K
abbrev aq(A:Prop){B:Prop}(_:A=B:=by (try delta za oB cM zb PS tR Bb lL zc ze zeq tS bZ AdT zf zge PG IN Aa9 zgt BU rL Aba zi zl1 AfS VK VL VM Y_ zl6 zl7 zl8 zl9 zle yg Tv cF zls MT Bc j0 MU FX MZ zn zne AdU PH Y' tG zo VN zp zr zs bW M1 oJ zt zu zx zy);rfl):Prop:=B
end
end Go.Proofs.YtikojelnedfmpaaGreatDoor
