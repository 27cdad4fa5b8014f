/- PrintAgain: of any text that is read as a formula, the text that is told of it is read as the same formula and told as it was. No conditions of its own. -/
import Derived.Test.YtikojelnedfmpaaGreatDoorK
set_option linter.unusedSimpArgs false
set_option linter.unusedVariables false
namespace Go.Proofs.YtikojelnedfmpaaGreatDoor
open Go Go.X
set_option maxRecDepth 100000
section
variable {N:List Nd} {A:List Int} {k m:Nat} {e:Ex} {nv av tv:Value} {S:List (List UInt8)}
theorem AgX {h j:H} {v:Value} {vs:List Value} (r:bk j v vs) {e:TypeId} {K:Value->H->Prop} (k:∀ h',Fr h h'->h'.row h.next=some ⟨[v],e,0,0,false⟩->h'.next=h.next+1->K (pT h.next) h'):dW h e v K:=by
 rw[zM r]
 exact k _ (lB (Fr.refl h) _ _ _) (by rw[aS,if_pos rfl]) rfl
abbrev ptG (Q:Value->H->Prop):(List Value->H->Prop)->List Value->H->Prop:=fun j s h=>iM Q j (aI s 0) (aI s 1) (aI s 2) (aI s 3) (aI s 4) (aI s 5) h
def AeV (e:Ex) (k:Nat) (S:List (List UInt8)):Prop:=∀ (j:Nat) (c:Ex) (t:Nat),e.ks.qF[j]?=some c->(e.ks.gF k)[j]?=some t->S[t]?=some c.sh
theorem Sy {hs:H} {c2 C:Nat} {e2 e4:TypeId} {f:List UInt8} {l:bi} {lv:Value} {Q:Value->H->Prop} (r2:hs.row c2=some ⟨(Ex.tn (.call f l) k m).c,e2,0,0,false⟩) (l2:c2<hs.next) (r4:hs.row C=some ⟨[tv],e4,0,0,false⟩) (l4:C<hs.next)
 (rS:bk hs tv (cD S)) (hk:AeV (.call f l) k S) (sm:(Ex.call f l).sm) (J:(Ex.call f l).sz<=400) (rl:aZ wc hs lv ((l.gF k).map Int.ofNat)) (hQ:∀ h',Fr hs h'->Q (st (Ex.sh (.call f l))) h') :
 ∀ (d j:Nat) (h:H) (I:Value),j+d=l.len->Fr hs h->bp 9 hs h I (cD (l.BY.take j))->aL (ptG Q) [pT c2,pT C,I,lv,vI l.len,vI j] h
 | 0,j,h,I,hj,F,o=>by
  have R:j=l.len:=om
  subst R
  rw[<-l.zX,List.take_length] at o
  refine aL.unfold ?_
  show iM Q _ (pT c2) (pT C) I lv (vI l.len) (vI l.len) h
  unfold iM aq
  have U:=F.aQ r2 l2
  have c7:aw h (.pointer (some ⟨c2,0+7,none⟩))=some (st f):=by rw[aA U];rfl
  have hf:=L7 sm.1.1
  have h3:l.BY.length<=20:=by rw[bi.zX];exact sm.1.2
  have hlL:eC l.BY<=200100 * (Ex.call f l).sz:=Sx sm
  have hj2:=(BG l.BY).2
  rw[bI,aa,ae,if_neg (by simp),aM,aF c7,show (bs [40])=⟨⟨[40]⟩⟩ from rfl,Bq _ _ so,aa,show (bs [44])=⟨⟨[44]⟩⟩ from rfl]
  refine ar (NS o [44] (by simp) om om) ?_
  refine⟨c7,?_⟩
  rw[Bq _ _ (by simp only[List.length_append,List.length_singleton];omega),aa,show (bs [41])=⟨⟨[41]⟩⟩ from rfl,Bq _ _ (by simp only[List.length_append,List.length_singleton];omega),aa,<-bi.Gc]
  exact hQ h F
 | d+1,j,h,I,hj,F,o=>by
  have p:j<l.len:=om
  obtain⟨c,hc⟩:=bi.Aai l j p
  obtain⟨t,ht⟩:=bi.OG l k j p
  refine aL.unfold ?_
  show iM Q _ (pT c2) (pT C) I lv (vI l.len) (vI j) h
  unfold iM aq
  have r4':=F.aQ r4 l4
  have k4:aw h (pT C)=some tv:=by rw[aA r4'];rfl
  rw[bI,aa,ae,if_pos (sp p)]
  have hjt:j<((l.gF k).map Int.ofNat).length:=by rw[List.length_map,bi.gG];exact p
  obtain⟨b1,o1,e1,e3⟩:=(rl.fr F).ZZ hjt 0 dc
  have ec:((l.gF k).map Int.ofNat)[j]=(t:Int):=by
   rw[List.getElem_map,(List.getElem?_eq_some_iff.1 ht).2];rfl
  rw[ec] at e3
  have BA:AB 1 lv (vI j)=some (.pointer (some ⟨b1,o1,none⟩)):=e1
  have e3':aw h (.pointer (some ⟨b1,o1,none⟩))=some (vI t):=e3
  have hS:=hk j c t hc ht
  obtain⟨Zg,hSt⟩:=List.getElem?_eq_some_iff.1 hS
  have Qt:t<(cD S).length:=by rw[cD,List.length_map];exact Zg
  have hg:(cD S)[t]=st c.sh:=by simp[cD,hSt]
  rw[BA,aa,aF e3',aF k4]
  refine (congrArg (fun P:Prop=>P) ((rS.fr F).rd Qt _)).mpr ?_
  rw[hg]
  have ht1:l.BY.take (j+1)=l.BY.take j++[c.sh]:=by
   have Un:l.BY[j]?=some c.sh:=by rw[l.Sv,hc];rfl
   rw[List.take_add_one,Un];rfl
  have h3:l.BY.length<=20:=by rw[bi.zX];exact sm.1.2
  refine Hj F o (by rw[List.length_take];omega) _ fun v' h' F' o'=>?_
  rw[show (.int .i64 1:Value)=vI 1 from rfl,dm EE 3 j 1 (by have:=l.zX;omega),aa]
  rw[<-ht1] at o'
  exact Sy r2 l2 r4 l4 rS hk sm J rl hQ d (j+1) h' v' om F' o'
theorem HL {h:H} (rN:aZ Gn h nv N) (rA:aZ wc h av A) (hA:A.length<=100000) (rS:bk h tv (cD S)) (hN:N.length=S.length) (em:BW N A e k m) (sm:e.sm) (J:e.sz<=400) (hk:AeV e k S) :
 ai PP xc [.agg ⟨[nv,av]⟩,Aq (e.tn k m),tv] h (.v (st e.sh) h):=by
 refine aj.pure (Js ?_) (by simp[flat])
 unfold HM aq
 refine fz fun h1 f1 q1 n1=>fz fun h2 f2 q2 n2=>?_
 refine AgX rS fun p f3 q3 n3=>?_
 have R:Fr h p:=(f1.trans f2).trans f3
 have U:=f3.aQ (f2.aQ q1 om) om
 have o:=f3.aQ q2 om
 have rN3:=rN.fr R
 have rA3:=rA.fr R
 have rS3:=rS.fr R
 rw[cO (n:=19) o rfl,aa]
 refine ar (lX (e.tn k m) p) ?_
 have c0:aw p (.pointer (some ⟨h1.next,0+0,none⟩))=some (.int .i64 (e.tn k m).kind):=by rw[aA o];rfl
 have c1:aw p (.pointer (some ⟨h1.next,0+1,none⟩))=some (.int .i64 (e.tn k m).op):=by rw[aA o];rfl
 have c2:aw p (.pointer (some ⟨h1.next,0+2,none⟩))=some (.int .i64 (e.tn k m).a):=by rw[aA o];rfl
 have c3:aw p (.pointer (some ⟨h1.next,0+3,none⟩))=some (.int .i64 (e.tn k m).b):=by rw[aA o];rfl
 rw[aM,aF c0,Go.X.ak,aa,ae]
 -- a child,held or not
 have held:∀ (j:Nat) (c:Ex) (t n:Nat),e.ks.qF[j]?=some c->(e.ks.gF k)[j]?=some t->∀ K:Value->H->Prop,K (st (dG c.sh c.bA n)) p->DP (.func (.func eQ) ⟨[]⟩ ⟨[pT h.next,pT h2.next]⟩) [vI t,vI n] p K:=by
  intro j c t n hc ht K hK
  obtain⟨k',m',ec,rfl,oz,hsm,_⟩:=em.kid hc ht
  obtain⟨hi,hNt⟩:=ec.ix
  have hS:=hk j c _ hc ht
  obtain⟨Zg,hSt⟩:=List.getElem?_eq_some_iff.1 hS
  have r:=UJ (n:=n) U q3 rN3 rS3 hi Zg (by rw[hSt];exact AeU (hsm sm) om)
  rw[hSt,hNt,Ex.D6] at r
  exact EM (show CP eQ [vI (k'+c.ks.sz),vI n,pT h.next,pT h2.next] p K from ar r hK)
 cases e with
 | leaf l =>
  have C:=UL l
  rw[if_neg (by rw[decide_eq_true_eq];exact C.1),Go.X.ak,aa,ae,if_neg (by rw[decide_eq_true_eq];exact C.2.1),Go.X.ak,aa,ae,if_neg (by rw[decide_eq_true_eq];exact C.2.2),cO (n:=19) o rfl,aa]
  exact ar (W6 l sm p) ⟨rfl,R⟩
 | un op a =>
  have hl:=Xz sm J (s:=dG a.sh a.bA (Ex.bA (.un op a))) (by simp[Ex.hs])
  have hh:=held 0 a (k+a.sz-1) (VE (Ex.tn (.un op a) k m)) rfl rfl
  rw[Ex.D6] at hh
  have h3':=CL (op:Int)
  have ea:(Ex.tn (.un op a) k m).a=((k+a.sz-1:Nat):Int):=rfl
  have eo:(Ex.tn (.un op a) k m).op=(op:Int):=rfl
  rw[ea] at c2
  rw[eo] at c1
  rw[if_pos (by simp[Ex.tn]),aM,aF c1,Go.X.ak,aa,ae,Ex.D6]
  by_cases q:op=13
  . subst q
    rw[if_pos (by simp),aM,aF c1]
    refine ar (vK _ p) ?_
    rw[aM,aF c2]
    refine⟨c2,hh _ ?_⟩
    rw[Bq _ _ om,aa]
    exact⟨rfl,R⟩
  . have q14:op=14:=sm.1.resolve_left q
    subst q14
    rw[if_neg (by simp),aM,aF c2]
    refine hh _ ?_
    rw[aM,aF c1]
    refine⟨c1,ar (vK _ p) ?_⟩
    rw[Bq _ _ om,aa]
    exact⟨rfl,R⟩
 | bin op a b =>
  have hl0:=Xz sm J (s:=dG a.sh a.bA (fH op)) (by simp[Ex.hs])
  have hl1:=Xz sm J (s:=dG b.sh b.bA (fH op+1)) (by simp[Ex.hs])
  have h0:=held 0 a (k+a.sz-1) (fH op) rfl rfl
  have h1':=held 1 b (k+a.sz+b.sz-1) (fH op+1) rfl rfl
  have h3':=CL (op:Int)
  have ea:(Ex.tn (.bin op a b) k m).a=((k+a.sz-1:Nat):Int):=rfl
  have eb:(Ex.tn (.bin op a b) k m).b=((k+a.sz+b.sz-1:Nat):Int):=rfl
  have eo:(Ex.tn (.bin op a b) k m).op=(op:Int):=rfl
  have el:VE (Ex.tn (.bin op a b) k m)=fH op:=Ex.D6 _ _ _
  rw[ea] at c2
  rw[eb] at c3
  rw[eo] at c1
  rw[if_neg (by simp[Ex.tn]),Go.X.ak,aa,ae,if_pos (by simp[Ex.tn]),aM,aF c2,el]
  refine h0 _ ?_
  rw[aM,aF c1]
  refine⟨c1,ar (vK _ p) ?_⟩
  have h8:fH (op:Int)<=8:=by unfold fH;split;omega;split;omega;split;omega;split;omega;split <;> omega
  rw[Bq _ _ om,aa,aM,aF c3]
  refine⟨c3,c3,?_⟩
  rw[show (.int .i64 1:Value)=vI 1 from rfl,dm EE 3 _ 1 om,aa]
  refine h1' _ ?_
  rw[Bq _ _ (by simp only[List.length_append];omega),aa]
  exact⟨rfl,R⟩
 | call f l =>
  have k1:aw p (.pointer (some ⟨h.next,0+1,none⟩))=some av:=by rw[aA U];rfl
  rw[if_neg (by simp[Ex.tn]),Go.X.ak,aa,ae,if_neg (by simp[Ex.tn]),Go.X.ak,aa,ae,if_pos (by simp[Ex.tn]),aM,aF k1,aM,aF c2,aM,aF c2,aM,aF c3]
  have hle:=em.le.2
  rw[show (Ex.call f l).az=l.az+l.len from rfl] at hle
  have hAl:A.length<=9223372036854775807\/True:=.inr trivial
  obtain⟨I,ea,ha⟩:∃ I:Nat,(Ex.tn (.call f l) k m).a=(I:Int)/\I=if l.len=0 then 0 else m+l.az:=⟨_,rfl,rfl⟩
  have eb:(Ex.tn (.call f l) k m).b=(l.len:Int):=rfl
  have h20:=sm.1.2
  rw[ea,eb]
  have C:=em.kids
  have hkd:Ss (Ex.tn (.call f l) k m) A=(A.take (I+l.len)).drop I:=by
   show (A.take ((Ex.tn (.call f l) k m).a.toNat+(Ex.tn (.call f l) k m).b.toNat)).drop (Ex.tn (.call f l) k m).a.toNat=_
   rw[ea,eb,Int.toNat_natCast,Int.toNat_natCast]
  rw[hkd] at C
  have hin:I+l.len<=A.length:=by rw[ha];split <;> omega
  have e2:X.binOp EE .add 3 (.int .i64 (I:Nat)) (.int .i64 (l.len:Nat))=some (vI (I+l.len)):=dm EE 3 I l.len om
  rw[e2,aa]
  obtain⟨w,ew,rw'⟩:=aZ.tO MX rA3 (i:=I) (j:=I+l.len) om hin
  have ew':aO EE p 23 av (some (.int .i64 (I:Nat))) (some (vI (I+l.len))) none=some w:=ew
  rw[ew',aa]
  rw[C] at rw'
  have rl:aZ wc p w ((l.gF k).map Int.ofNat):=rw'
  rw[rl.len MX,show (Value.int .i64 (((l.gF k).map Int.ofNat).length:Nat))=vI l.len by rw[List.length_map,bi.gG]]
  exact Sy o om q3 om rS3 hk sm J rl (fun h' F'=>⟨rfl,R.trans F'⟩) l.len 0 p _ om (Fr.refl p) .nil
end
inductive NdF:Nd->Bool->Prop
 | leaf (l:Lf) (h:l.sm):NdF l.nd l.ok
 | un (op a:Nat) (h:op=13\/op=14):NdF { tM with kind:=7,op:=op,a:=a } true
 | bin (op a b:Nat) (h:1<=op/\op<=12):NdF { tM with kind:=8,op:=op,a:=a,b:=b } true
 | call (f:List UInt8) (a b:Nat) (hf:Kj f=true) (hb:b<=20) (h0:b=0->a=0):NdF { tM with kind:=9,text:=f,a:=a,b:=b } true
theorem Ex.AgY {e:Ex} (sm:e.sm) (k m:Nat):NdF (e.tn k m) e.tok:=by
 cases e with
 | leaf l=>exact .leaf l sm
 | un op a=>exact .un op _ sm.1
 | bin op a b=>exact .bin op _ _ sm.1
 | call f l=>exact .call f _ _ sm.1.1 sm.1.2 (fun q=>if_pos q)
theorem AgZ (n:Nd):X.binOp EE .eql 53 (Aq n) (Aq n)=some (.bool true):=by
 refine (AeW n.kind n.op n.a n.b n.num.neg n.num.num n.num.den n.text n.uc n.ref.aU n.ref.gX n.ref.row n.ref.fc n.ref.fr n.to.aU n.to.gX n.to.row n.to.fc n.to.fr n.kind n.op n.a n.b n.num.neg n.num.num n.num.den n.text n.uc n.ref.aU n.ref.gX n.ref.row n.ref.fc n.ref.fr n.to.aU n.to.gX n.to.row n.to.fc n.to.fr).trans ?_
 simp
theorem L_ (n:Int):bC EE 53 [(0,.int .i64 n)]=some (Aq { tM with kind:=n }):=by kernel_rfl
theorem stA {h:H} {b o n:Nat} {cs j:List Value} {e:TypeId} {osz:Nat} {K:H->Prop} (hr:h.row b=some ⟨cs,e,osz,0,false⟩) (hl:j.length=n) (ha:da j=true) (p:o+n<=cs.length)
 (k:∀ h',eV b h h'->h'.row b=some ⟨ep cs o j,e,osz,0,false⟩->h'.next=h.next->K h'):af (wa n h (.pointer (some ⟨b,o,none⟩)) (.agg ⟨j⟩)) K:=by
 rw[Lo,if_pos hl,bK,hr,Option.bind_some,if_pos ⟨rfl,Nat.zero_le _,by show o+j.length<=cs.length;omega,ha⟩,aa]
 refine k _ (eV.put _ _ _) ?_ rfl
 rw[eH,if_pos rfl]
theorem OH {h:H} {n:Nat} {p v:Value} {K:Value->Prop} (e:fJ n h p=some v):af (fJ n h p) K=K v:=by rw[e,aa]
theorem Jt (s:List UInt8) (hs:Kj s=true) (h:H):ai PP y_ [st s] h (.v (.bool true) h):=by
 have hl:=L7 hs
 have h0:=hs
 rw[F9,decide_eq_true_eq] at h0
 obtain⟨U,_,p3,p4⟩:=h0
 refine aj.pure (L' ?_) (by simp[flat])
 unfold Kn aq
 obtain⟨v2,h2,c1,c2,c3⟩:=AF kH pY yj h s
 rw[c1,aa]
 show blt EE h2 .len #[90] [v2] _
 rw[c3.len TB,List.length_map]
 refine aL.ind (fun C h'=>h'=h2/\∃ i:Nat,C=[st s,v2,vI s.length,vI i]/\i<=s.length) (fun C _=>match aI C 3 with | .int _ i=>s.length-i.toNat | _=>0) ?_ ⟨rfl,0,rfl,Nat.zero_le _⟩
 rintro C h' ⟨rfl,i,rfl,hi⟩
 show xd _ _ (st s) v2 (vI s.length) (vI i) h'
 unfold xd aq
 rw[bI,aa,ae]
 by_cases j:i<s.length
 . rw[if_pos (by simp[j])]
   have I:i<(s.map fun b=>v8 b.toNat).length:=sp j
   rw[c3.rd I,List.getElem_map]
   have J:eL (fun v o=>v=.bool true/\Fr h o) (fun p R=>(R=h'/\∃ i:Nat,p=[st s,v2,vI s.length,vI i]/\i<=s.length)/\(match aI p 3 with | .int _ i=>s.length-i.toNat | _=>0)<(match aI [st s,v2,vI s.length,vI i] 3 with | .int _ i=>s.length-i.toNat | _=>0)) (st s) v2 (vI s.length) (vI i) (.bool false) h':=by
    unfold eL aq
    rw[ae,if_neg sm,show (.int .i64 1:Value)=vI 1 from rfl,dm EE 3 i 1 om,aa]
    refine⟨⟨rfl,i+1,rfl,j⟩,?_⟩
    show s.length-((i+1:Nat):Int).toNat<s.length-(i:Int).toNat
    omega
   have hc:bN s[i]=true\/(i≠0/\aR s[i]=true):=by
    have hm:=(List.all_eq_true.1 p4) _ (List.getElem_mem j)
    unfold fnC at hm
    rw[Bool.or_eq_true] at hm
    rcases hm with q | q
    . exact .inl q
    . by_cases z:i=0
      . subst z
        left
        cases s with
        | nil=>simp at j
        | cons c r=>simpa using p3
      . exact .inr ⟨z,q⟩
   simp only[Go.X.binOp_lss,Go.X.binOp_gtr,aa,ag]
   by_cases q:bN s[i]=true
   . have:=wQ q
     rw[if_pos so,if_neg so]
     exact J
   . obtain⟨z,d⟩:=hc.resolve_left q
     have:=DW.1 d
     rw[if_neg so,show (.int .i64 0:Value)=vI 0 from rfl,cn,aa,ag,if_pos (by simp[z]),if_pos so]
     have e:decide ((57:Int)<(s[i].toNat:Int))=false:=decide_eq_false om
     rw[e]
     exact J
 . rw[if_neg (by simp[j]),GH,Go.X.di,aa,ag]
   have im:s≠[]:=by intro q;rw[q] at U;simp at U
   rw[if_pos (by simp[im]),bb kH,show (.int .i64 12:Value)=vI 12 from rfl,nD,aa]
   unfold vg aq
   exact⟨by simp[hl],c2⟩
theorem n_ {h h0:H} {c0 j:Nat} {o p:TypeId} {n:Nd} {b:Bool} (r0:h.row c0=some ⟨n.c,o,0,0,false⟩) (C:h.row j=some ⟨n.c,p,0,0,false⟩) (F:Fr h0 h):d_ (fun v h'=>v=.bool b/\Fr h0 h') (pT c0) (pT j) (.bool b) h:=by
 unfold d_ xe aq
 rw[ag]
 cases b with
 | false=>rw[if_neg sm];exact⟨rfl,F⟩
 | true=>rw[if_pos rfl,cO (n:=19) C rfl,aa,cO (n:=19) r0 rfl,aa,AgZ,aa];exact⟨rfl,F⟩
theorem Ma (l:Lf) (sm:l.sm) (h:H):ai PP zY [Aq l.nd] h (.v (.bool l.ok) h):=by
 have qS:bl=1000000000:=rfl
 cases l with
 | num r =>
  refine aj.pure (jA ?_) (by simp[flat])
  unfold pO aq
  refine fz fun I f1 C n1=>?_
  have c0:aw I (.pointer (some ⟨h.next,0+0,none⟩))=some (.int .i64 1):=by rw[aA C];rfl
  rw[aM,aF c0,L_,aa]
  refine bP fun h2 f2 J n2=>lV J rfl rfl rfl fun j f3 R n3=>?_
  have U:Fr h j:=f3.fr (f1.trans f2) om
  have o:=f3.aQ (f2.aQ C om) om om
  have p:aw j (.pointer (some ⟨h.next,0+0,none⟩))=some (.int .i64 1):=by rw[aA o];rfl
  rw[aM,aF p,Go.X.ak,aa,ae,if_pos (show decide ((1:Int)=1)=true by decide)]
  have a4:fJ 3 j (.pointer (some ⟨h.next,0+4,none⟩))=some (rv r):=Qe o (by show _<=19;omega)
  rw[aM,OH a4,aM,OH a4]
  refine ar (Hz r j) ⟨a4,?_⟩
  rw[aM]
  refine stA R rfl rfl (by show _<=19;omega) fun h4 f4 q4 n4=>?_
  exact n_ (n:=(Lf.num r).nd) (f4.aQ o om om) q4 (f4.fr U om)
 | Of s =>
  refine aj.pure (jA ?_) (by simp[flat])
  unfold pO aq
  refine fz fun I f1 C n1=>?_
  have c0:aw I (.pointer (some ⟨h.next,0+0,none⟩))=some (.int .i64 2):=by rw[aA C];rfl
  rw[aM,aF c0,L_,aa]
  refine bP fun h2 f2 J n2=>lV J rfl rfl rfl fun j f3 R n3=>?_
  have U:Fr h j:=f3.fr (f1.trans f2) om
  have o:=f3.aQ (f2.aQ C om) om om
  have p:aw j (.pointer (some ⟨h.next,0+0,none⟩))=some (.int .i64 2):=by rw[aA o];rfl
  rw[aM,aF p,Go.X.ak,aa,ae,if_neg (show ¬ decide ((2:Int)=1)=true by decide),Go.X.ak,aa,ae,if_pos (show decide ((2:Int)=2)=true by decide)]
  have hb:s.length<=bl:=by have:s.length<=100000:=sm;omega
  have a7:aw j (.pointer (some ⟨h.next,0+7,none⟩))=some (st s):=by rw[aA o];rfl
  rw[aM,aF a7,aM,aF a7]
  refine ar (sT s hb j) ⟨a7,?_⟩
  have hf:Oa 0 (vv (yI s))=some (.int .i64 (yI s).kind):=rfl
  rw[hf,aa,Go.X.ak,aa,aM]
  refine qY R rfl rfl (by show _<19;omega) fun h4 f4 q4 n4=>?_
  have e:decide ((yI s).kind=2)=(Lf.Of s).ok:=by
   show _=jV s
   unfold yI
   cases jV s with
   | true=>rfl
   | false=>rfl
  rw[e]
  exact n_ (n:=(Lf.Of s).nd) (f4.aQ o om om) q4 (f4.fr U om)
 | Qq b =>
  refine aj.pure (jA ?_) (by simp[flat])
  unfold pO aq
  refine fz fun I f1 C n1=>?_
  have c0:aw I (.pointer (some ⟨h.next,0+0,none⟩))=some (.int .i64 3):=by rw[aA C];rfl
  rw[aM,aF c0,L_,aa]
  refine bP fun h2 f2 J n2=>lV J rfl rfl rfl fun j f3 R n3=>?_
  have U:Fr h j:=f3.fr (f1.trans f2) om
  have o:=f3.aQ (f2.aQ C om) om om
  have p:aw j (.pointer (some ⟨h.next,0+0,none⟩))=some (.int .i64 3):=by rw[aA o];rfl
  rw[aM,aF p,Go.X.ak,aa,ae,if_neg (show ¬ decide ((3:Int)=1)=true by decide),Go.X.ak,aa,ae,if_neg (show ¬ decide ((3:Int)=2)=true by decide),Go.X.ak,aa,ae,if_pos (show decide ((3:Int)=3)=true by decide)]
  have a7:aw j (.pointer (some ⟨h.next,0+8,none⟩))=some (.bool b):=by rw[aA o];rfl
  rw[aM,aF a7,aM]
  refine qY R rfl rfl (by show _<19;omega) fun h4 f4 q4 n4=>?_
  exact n_ (n:=(Lf.Qq b).nd) (b:=true) (f4.aQ o om om) q4 (f4.fr U om)
 | Og n =>
  refine aj.pure (jA ?_) (by simp[flat])
  unfold pO aq
  refine fz fun I f1 C n1=>?_
  have c0:aw I (.pointer (some ⟨h.next,0+0,none⟩))=some (.int .i64 4):=by rw[aA C];rfl
  rw[aM,aF c0,L_,aa]
  refine bP fun h2 f2 J n2=>lV J rfl rfl rfl fun j f3 R n3=>?_
  have U:Fr h j:=f3.fr (f1.trans f2) om
  have o:=f3.aQ (f2.aQ C om) om om
  have p:aw j (.pointer (some ⟨h.next,0+0,none⟩))=some (.int .i64 4):=by rw[aA o];rfl
  rw[aM,aF p,Go.X.ak,aa,ae,if_neg (show ¬ decide ((4:Int)=1)=true by decide),Go.X.ak,aa,ae,if_neg (show ¬ decide ((4:Int)=2)=true by decide),Go.X.ak,aa,ae,if_neg (show ¬ decide ((4:Int)=3)=true by decide),Go.X.ak,aa,ae,if_pos (show decide ((4:Int)=4)=true by decide)]
  have a7:aw j (.pointer (some ⟨h.next,0+1,none⟩))=some (.int .i64 (n:Int)):=by rw[aA o];rfl
  rw[aM,aF a7,aM,aF a7]
  refine ar (ko (n:Int) j) ⟨a7,?_⟩
  rw[GH,Go.X.di,aa,aM]
  refine qY R rfl rfl (by show _<19;omega) fun h4 f4 q4 n4=>?_
  have e:decide (lP (n:Int)≠[])=(Lf.Og n).ok:=by
   show _=(decide (1<=n)&&decide (n<=7))
   rw[<-Bool.decide_and]
   refine decide_eq_decide.2 ?_
   rw[Ne,Qd]
   omega
  first | rw[e] | rw[show (!decide (lP (n:Int)=[]))=(Lf.Og n).ok by rw[<-e,decide_not]]
  exact n_ (n:=(Lf.Og n).nd) (f4.aQ o om om) q4 (f4.fr U om)
 | cell r =>
  refine aj.pure (jA ?_) (by simp[flat])
  unfold pO aq
  refine fz fun I f1 C n1=>?_
  have c0:aw I (.pointer (some ⟨h.next,0+0,none⟩))=some (.int .i64 5):=by rw[aA C];rfl
  rw[aM,aF c0,L_,aa]
  refine bP fun h2 f2 J n2=>lV J rfl rfl rfl fun j f3 R n3=>?_
  have U:Fr h j:=f3.fr (f1.trans f2) om
  have o:=f3.aQ (f2.aQ C om) om om
  have p:aw j (.pointer (some ⟨h.next,0+0,none⟩))=some (.int .i64 5):=by rw[aA o];rfl
  rw[aM,aF p,Go.X.ak,aa,ae,if_neg (show ¬ decide ((5:Int)=1)=true by decide),Go.X.ak,aa,ae,if_neg (show ¬ decide ((5:Int)=2)=true by decide),Go.X.ak,aa,ae,if_neg (show ¬ decide ((5:Int)=3)=true by decide),Go.X.ak,aa,ae,if_neg (show ¬ decide ((5:Int)=4)=true by decide),Go.X.ak,aa,ae,if_pos (show decide ((5:Int)=5)=true by decide)]
  have hb:r.aU.length<=bl:=by have:r.aU.length<=1000:=sm;omega
  have a9:fJ 5 j (.pointer (some ⟨h.next,0+9,none⟩))=some (NV r):=Qe o (by show _<=19;omega)
  rw[aM,OH a9,aM,OH a9]
  refine ar (pE r hb j) ⟨a9,?_⟩
  rw[aM]
  refine stA R rfl rfl (by show _<=19;omega) fun h4 f4 q4 n4=>?_
  exact n_ (n:=(Lf.cell r).nd) (f4.aQ o om om) q4 (f4.fr U om)
 | vu a b =>
  refine aj.pure (jA ?_) (by simp[flat])
  unfold pO aq
  refine fz fun I f1 C n1=>?_
  have c0:aw I (.pointer (some ⟨h.next,0+0,none⟩))=some (.int .i64 6):=by rw[aA C];rfl
  rw[aM,aF c0,L_,aa]
  refine bP fun h2 f2 J n2=>lV J rfl rfl rfl fun j f3 R n3=>?_
  have U:Fr h j:=f3.fr (f1.trans f2) om
  have o:=f3.aQ (f2.aQ C om) om om
  have p:aw j (.pointer (some ⟨h.next,0+0,none⟩))=some (.int .i64 6):=by rw[aA o];rfl
  rw[aM,aF p,Go.X.ak,aa,ae,if_neg (show ¬ decide ((6:Int)=1)=true by decide),Go.X.ak,aa,ae,if_neg (show ¬ decide ((6:Int)=2)=true by decide),Go.X.ak,aa,ae,if_neg (show ¬ decide ((6:Int)=3)=true by decide),Go.X.ak,aa,ae,if_neg (show ¬ decide ((6:Int)=4)=true by decide),Go.X.ak,aa,ae,if_neg (show ¬ decide ((6:Int)=5)=true by decide),Go.X.ak,aa,ae,if_pos (show decide ((6:Int)=6)=true by decide)]
  have hb:a.aU.length<=bl:=by have:a.aU.length<=1000:=sm.1;omega
  have RG:b.aU.length<=bl:=by have:b.aU.length<=1000:=sm.2;omega
  have a9:fJ 5 j (.pointer (some ⟨h.next,0+9,none⟩))=some (NV a):=Qe o (by show _<=19;omega)
  have a14:fJ 5 j (.pointer (some ⟨h.next,0+14,none⟩))=some (NV b):=Qe o (by show _<=19;omega)
  rw[aM,OH a9,aM,OH a14,aM,OH a9,aM,OH a14]
  refine ar (Ow a b hb RG j) ⟨a14,a9,?_⟩
  rw[aM]
  refine stA R rfl rfl (by show _<=19;omega) fun h4 f4 q4 n4=>?_
  have p4:=f4.aQ o om om
  have Ag0:fJ 5 h4 (.pointer (some ⟨h.next,0+14,none⟩))=some (NV b):=Qe p4 (by show _<=19;omega)
  refine⟨Ag0,?_⟩
  rw[aM]
  refine stA q4 rfl rfl (by show _<=19;omega) fun h5 f5 q5 n5=>?_
  exact n_ (n:=(Lf.vu a b).nd) (f5.aQ p4 om om) q5 (f5.fr (f4.fr U om) om)
theorem OI {n:Nd} {b:Bool} (x:NdF n b) (h:H):ai PP zY [Aq n] h (.v (.bool b) h):=by
 have qS:bl=1000000000:=rfl
 cases x with
 | leaf l sm=>exact Ma l sm h
 | un op a ho =>
  refine aj.pure (jA ?_) (by simp[flat])
  unfold pO aq
  refine fz fun h1 f1 q1 n1=>?_
  have c0:aw h1 (.pointer (some ⟨h.next,0+0,none⟩))=some (.int .i64 7):=by rw[aA q1];rfl
  rw[aM,aF c0,L_,aa]
  refine bP fun h2 f2 q2 n2=>lV q2 rfl rfl rfl fun j f3 q3 n3=>?_
  have F3:Fr h j:=f3.fr (f1.trans f2) om
  have o:=f3.aQ (f2.aQ q1 om) om om
  have R:aw j (.pointer (some ⟨h.next,0+0,none⟩))=some (.int .i64 7):=by rw[aA o];rfl
  rw[aM,aF R,Go.X.ak,aa,ae,if_neg (show ¬ decide ((7:Int)=1)=true by decide),Go.X.ak,aa,ae,if_neg (show ¬ decide ((7:Int)=2)=true by decide),Go.X.ak,aa,ae,if_neg (show ¬ decide ((7:Int)=3)=true by decide),Go.X.ak,aa,ae,if_neg (show ¬ decide ((7:Int)=4)=true by decide),Go.X.ak,aa,ae,if_neg (show ¬ decide ((7:Int)=5)=true by decide),Go.X.ak,aa,ae,if_neg (show ¬ decide ((7:Int)=6)=true by decide),Go.X.ak,aa,ae,if_pos (show decide ((7:Int)=7)=true by decide)]
  have c1:∀ h':H,h'.row h.next=j.row h.next->aw h' (.pointer (some ⟨h.next,0+1,none⟩))=some (.int .i64 (op:Int)):=fun h' e=>by rw[aA (e.trans o)];rfl
  have c2:∀ h':H,h'.row h.next=j.row h.next->aw h' (.pointer (some ⟨h.next,0+2,none⟩))=some (.int .i64 (a:Int)):=fun h' e=>by rw[aA (e.trans o)];rfl
  rw[aM,aF (c1 j rfl),aM,aF (c2 j rfl),aM,aF (c1 j rfl),Go.X.ak,aa,ag]
  unfold zd aq
  rcases ho with rfl | rfl
  . rw[if_neg (by simp),aM]
    refine qY q3 rfl rfl (by show _<19;omega) fun C f4 q4 n4=>?_
    have p:=f4.aQ o om om
    refine⟨c2 C (p.trans o.symm),?_⟩
    rw[aM]
    refine qY q4 rfl rfl (by show _<19;omega) fun U f5 q5 n5=>?_
    exact n_ (n:={ tM with kind:=7,op:=(13:Nat),a:=a }) (f5.aQ p om om) q5 (f5.fr (f4.fr F3 om) om)
  . rw[if_pos (by simp),aM,aF (c1 j rfl),Go.X.ak,aa,aM]
    refine qY q3 rfl rfl (by show _<19;omega) fun C f4 q4 n4=>?_
    have p:=f4.aQ o om om
    refine⟨c1 C (p.trans o.symm),c2 C (p.trans o.symm),?_⟩
    rw[aM]
    refine qY q4 rfl rfl (by show _<19;omega) fun U f5 q5 n5=>?_
    have I:=f5.aQ p om om
    refine⟨c1 U (I.trans o.symm),?_⟩
    exact n_ (n:={ tM with kind:=7,op:=(14:Nat),a:=a }) I q5 (f5.fr (f4.fr F3 om) om)
 | bin op a b ho =>
  refine aj.pure (jA ?_) (by simp[flat])
  unfold pO aq
  refine fz fun h1 f1 q1 n1=>?_
  have c0:aw h1 (.pointer (some ⟨h.next,0+0,none⟩))=some (.int .i64 8):=by rw[aA q1];rfl
  rw[aM,aF c0,L_,aa]
  refine bP fun h2 f2 q2 n2=>lV q2 rfl rfl rfl fun j f3 q3 n3=>?_
  have F3:Fr h j:=f3.fr (f1.trans f2) om
  have o:=f3.aQ (f2.aQ q1 om) om om
  have R:aw j (.pointer (some ⟨h.next,0+0,none⟩))=some (.int .i64 8):=by rw[aA o];rfl
  rw[aM,aF R,Go.X.ak,aa,ae,if_neg (show ¬ decide ((8:Int)=1)=true by decide),Go.X.ak,aa,ae,if_neg (show ¬ decide ((8:Int)=2)=true by decide),Go.X.ak,aa,ae,if_neg (show ¬ decide ((8:Int)=3)=true by decide),Go.X.ak,aa,ae,if_neg (show ¬ decide ((8:Int)=4)=true by decide),Go.X.ak,aa,ae,if_neg (show ¬ decide ((8:Int)=5)=true by decide),Go.X.ak,aa,ae,if_neg (show ¬ decide ((8:Int)=6)=true by decide),Go.X.ak,aa,ae,if_neg (show ¬ decide ((8:Int)=7)=true by decide),Go.X.ak,aa,ae,if_pos (show decide ((8:Int)=8)=true by decide)]
  have c1:∀ h':H,h'.row h.next=j.row h.next->aw h' (.pointer (some ⟨h.next,0+1,none⟩))=some (.int .i64 (op:Int)):=fun h' e=>by rw[aA (e.trans o)];rfl
  have c2:∀ h':H,h'.row h.next=j.row h.next->aw h' (.pointer (some ⟨h.next,0+2,none⟩))=some (.int .i64 (a:Int)):=fun h' e=>by rw[aA (e.trans o)];rfl
  have J:∀ h':H,h'.row h.next=j.row h.next->aw h' (.pointer (some ⟨h.next,0+3,none⟩))=some (.int .i64 (b:Int)):=fun h' e=>by rw[aA (e.trans o)];rfl
  rw[aM,aF (c1 j rfl),aM,aF (c2 j rfl),aM,aF (J j rfl),aM,aF (c1 j rfl),Go.X.binOp_geq,aa,ag,if_pos so,aM,aF (c1 j rfl),Go.X.binOp_leq,aa,aM]
  refine qY q3 rfl rfl (by show _<19;omega) fun C f4 q4 n4=>?_
  have p:=f4.aQ o om om
  refine⟨c1 C (p.trans o.symm),J C (p.trans o.symm),c2 C (p.trans o.symm),?_⟩
  rw[aM]
  refine qY q4 rfl rfl (by show _<19;omega) fun U f5 q5 n5=>?_
  have I:=f5.aQ p om om
  refine⟨c1 U (I.trans o.symm),J U (I.trans o.symm),?_⟩
  rw[aM]
  refine qY q5 rfl rfl (by show _<19;omega) fun h6 f6 q6 n6=>?_
  have p6:=f6.aQ I om om
  refine⟨c1 h6 (p6.trans o.symm),?_⟩
  unfold xf aq
  have e:decide ((op:Int)<=12)=true:=decide_eq_true om
  rw[e]
  exact n_ (n:={ tM with kind:=8,op:=op,a:=a,b:=b }) p6 q6 (f6.fr (f5.fr (f4.fr F3 om) om) om)
 | call f a b hf hb h0 =>
  refine aj.pure (jA ?_) (by simp[flat])
  unfold pO aq
  refine fz fun h1 f1 q1 n1=>?_
  have c0:aw h1 (.pointer (some ⟨h.next,0+0,none⟩))=some (.int .i64 9):=by rw[aA q1];rfl
  rw[aM,aF c0,L_,aa]
  refine bP fun h2 f2 q2 n2=>lV q2 rfl rfl rfl fun j f3 q3 n3=>?_
  have F3:Fr h j:=f3.fr (f1.trans f2) om
  have o:=f3.aQ (f2.aQ q1 om) om om
  have R:aw j (.pointer (some ⟨h.next,0+0,none⟩))=some (.int .i64 9):=by rw[aA o];rfl
  rw[aM,aF R,Go.X.ak,aa,ae,if_neg (show ¬ decide ((9:Int)=1)=true by decide),Go.X.ak,aa,ae,if_neg (show ¬ decide ((9:Int)=2)=true by decide),Go.X.ak,aa,ae,if_neg (show ¬ decide ((9:Int)=3)=true by decide),Go.X.ak,aa,ae,if_neg (show ¬ decide ((9:Int)=4)=true by decide),Go.X.ak,aa,ae,if_neg (show ¬ decide ((9:Int)=5)=true by decide),Go.X.ak,aa,ae,if_neg (show ¬ decide ((9:Int)=6)=true by decide),Go.X.ak,aa,ae,if_neg (show ¬ decide ((9:Int)=7)=true by decide),Go.X.ak,aa,ae,if_neg (show ¬ decide ((9:Int)=8)=true by decide),Go.X.ak,aa,ae,if_pos (show decide ((9:Int)=9)=true by decide)]
  have c7:∀ h':H,h'.row h.next=j.row h.next->aw h' (.pointer (some ⟨h.next,0+7,none⟩))=some (st f):=fun h' e=>by rw[aA (e.trans o)];rfl
  have c2:∀ h':H,h'.row h.next=j.row h.next->aw h' (.pointer (some ⟨h.next,0+2,none⟩))=some (.int .i64 (a:Int)):=fun h' e=>by rw[aA (e.trans o)];rfl
  have J:∀ h':H,h'.row h.next=j.row h.next->aw h' (.pointer (some ⟨h.next,0+3,none⟩))=some (.int .i64 (b:Int)):=fun h' e=>by rw[aA (e.trans o)];rfl
  rw[aM,aF (c7 j rfl),aM,aF (c2 j rfl),aM,aF (J j rfl),aM,aF (c7 j rfl)]
  refine ar (Jt f hf j) ⟨J j rfl,c2 j rfl,c7 j rfl,?_⟩
  rw[ag,if_pos rfl,aM,aF (J j rfl),Go.X.binOp_geq,aa,ag,if_pos (by simp),aM,aF (J j rfl),Go.X.binOp_leq,aa,ag,if_pos so,aM,aF (J j rfl),Go.X.binOp_gtr,aa,ag]
  unfold kW aq
  by_cases q:b=0
  . have q2:=h0 q
    subst q;subst q2
    rw[if_pos (by simp),aM,aF (c2 j rfl),Go.X.ak,aa,aM]
    refine qY q3 rfl rfl (by show _<19;omega) fun C f4 q4 n4=>?_
    have p:=f4.aQ o om om
    refine⟨c2 C (p.trans o.symm),J C (p.trans o.symm),c2 C (p.trans o.symm),?_⟩
    rw[aM]
    refine qY q4 rfl rfl (by show _<19;omega) fun U f5 q5 n5=>?_
    have I:=f5.aQ p om om
    refine⟨c2 U (I.trans o.symm),J U (I.trans o.symm),?_⟩
    rw[aM]
    refine qY q5 rfl rfl (by show _<19;omega) fun h6 f6 q6 n6=>?_
    have p6:=f6.aQ I om om
    refine⟨c2 h6 (p6.trans o.symm),?_⟩
    exact n_ (n:={ tM with kind:=9,text:=f,a:=(0:Nat),b:=(0:Nat) }) (b:=true) p6 q6 (f6.fr (f5.fr (f4.fr F3 om) om) om)
  . rw[if_neg so,aM]
    refine qY q3 rfl rfl (by show _<19;omega) fun C f4 q4 n4=>?_
    have p:=f4.aQ o om om
    refine⟨J C (p.trans o.symm),c2 C (p.trans o.symm),?_⟩
    rw[aM]
    refine qY q4 rfl rfl (by show _<19;omega) fun U f5 q5 n5=>?_
    have I:=f5.aQ p om om
    refine⟨J U (I.trans o.symm),?_⟩
    rw[aM]
    refine qY q5 rfl rfl (by show _<19;omega) fun h6 f6 q6 n6=>?_
    have p6:=f6.aQ I om om
    exact n_ (n:={ tM with kind:=9,text:=f,a:=a,b:=b }) (b:=true) p6 q6 (f6.fr (f5.fr (f4.fr F3 om) om) om)
structure Pt where
 node:Nat
 first:Nat
 level:Nat
 nest:Nat
def Pt.c (p:Pt):List Value:=[vI p.node,vI p.first,vI p.level,vI p.nest]
def FK:Kd Pt:=⟨Pt.c,4,⟨0,0,0,0⟩,dc,fun _=>rfl,fun _=>rfl⟩
theorem SPt:PM EE 119 71 FK:=⟨Abt,OJ,AeX,ZX Ag1 OJ dc⟩
def Ex.pt (e:Ex) (k:Nat):Pt:=⟨k+e.ks.sz,k,e.bA,e.ja⟩
def bi.Gd:bi->Nat->List Pt
 | .nil,_=>[] | .cons a l,k=>a.pt k :: l.Gd (k+a.sz)
theorem bi.Mb:∀ (l:bi) (k:Nat),(l.Gd k).length=l.len
 | .nil,_=>rfl
 | .cons a l,k=>by simp[bi.Gd,bi.len,l.Mb (k+a.sz)]
theorem bi.SA:∀ (l:bi) (k i:Nat) (c:Ex),l.qF[i]?=some c->∃ k',(l.Gd k)[i]?=some (c.pt k')
 | .nil,_,_,_,h=>by simp[bi.qF] at h
 | .cons a l,k,0,c,h=>by
  have:a=c:=by simpa [bi.qF] using h
  subst this
  exact⟨k,rfl⟩
 | .cons a l,k,i+1,c,h=>l.SA (k+a.sz) i c (by simpa [bi.qF] using h)
theorem bi.OK:∀ (l:bi) (k i t:Nat),(l.gF k)[i]?=some t->∃ p,(l.Gd k)[i]?=some p/\p.node=t
 | .nil,_,_,_,h=>by simp[bi.gF] at h
 | .cons a l,k,0,t,h=>by
  have e:=a.nY
  have h':k+a.sz-1=t:=by simpa [bi.gF] using h
  exact⟨a.pt k,rfl,by show k+a.ks.sz=t;omega⟩
 | .cons a l,k,i+1,t,h=>l.OK (k+a.sz) i t (by simpa [bi.gF] using h)
theorem bi.UM:∀ (l:bi) (k:Nat),0<l.len->∃ p,(l.Gd k)[0]?=some p/\p.first=k
 | .nil,_,h=>by simp[bi.len] at h
 | .cons a l,k,_=>⟨a.pt k,rfl,rfl⟩
theorem Ex.Mc (e:Ex) (k m:Nat):(e.tn k m).kind=9<->e.isC=true:=by
 have h:=e.AcM k m
 constructor
 . intro q
   rw[decide_eq_false (by simp[q])] at h
   cases hh:e.isC with
   | true=>rfl
   | false=>rw[hh] at h;cases h
 . intro q
   rw[q] at h
   have:=of_decide_eq_false h
   exact Decidable.not_not.1 this
theorem SB (e:Ex):∀ (l:List Ex) (j acc B:Nat),acc<=B->(∀ c ∈ l,c.ja+1<=B)->Jr e j acc l<=B
 | [],_,acc,B,h,_=>h
 | c :: l,j,acc,B,h,hc=>by
  unfold Jr
  refine SB e l _ _ B ?_ fun d hd=>hc d (.tail _ hd)
  have:=hc c (.head _)
  split <;> omega
theorem Ex.AcR:∀ e:Ex,e.ja<=2 * e.sz:=by
 refine Ex.post (L:=fun l=>∀ a ∈ l.qF,a.ja<=2 * a.sz/\a.sz<=l.sz) (fun a h=>by cases h) (fun a l ha hl b hb=>?_) fun e j=>?_
 . simp only[bi.qF,List.mem_cons] at hb
   simp only[bi.sz]
   rcases hb with rfl | hb
   . exact⟨ha,om⟩
   . have:=hl b hb;exact⟨this.1,om⟩
 . have o:=e.W9
   have h2:=e.nY
   have p:=SB e e.ks.qF 0 0 (2 * e.ks.sz+1) om fun c hc=>by have:=j c hc;omega
   split at o <;> omega
section
variable {hs:H} {wv:Value} {k m c0:Nat} {e0:TypeId} {e:Ex} {Q:Value->H->Prop}
abbrev Abu (Q:Value->H->Prop):(List Value->H->Prop)->List Value->H->Prop:=fun j s h=>m5 Q j (aI s 0) (aI s 1) (aI s 2) (aI s 3) (aI s 4) (aI s 5) h
theorem D9 (r0:hs.row c0=some ⟨(e.tn k m).c,e0,0,0,false⟩) (l0:c0<hs.next) (rW:aZ FK hs wv (e.ks.Gd k)) (tH:e.sz<=400) (hQ:∀ h',Fr hs h'->Q (vI e.ja) h') :
 ∀ (rest:List Ex) (i acc:Nat) (h:H),e.ks.qF.drop i=rest->i<=e.ks.len->Fr hs h->acc<=100000->Jr e i acc rest+(if e.up=true then 1 else 0)=e.ja->aL (Abu Q) [pT c0,vI acc,vI e.bA,wv,vI e.ks.len,vI i] h
 | [],i,acc,h,hd,hi,F,ha,hn=>by
  have vt:i=e.ks.len:=by
   have:=congrArg List.length hd
   rw[List.length_drop,bi.CK] at this
   simp at this;omega
  subst vt
  refine aL.unfold ?_
  show m5 Q _ (pT c0) (vI acc) (vI e.bA) wv (vI e.ks.len) (vI e.ks.len) h
  unfold m5 aq
  have C:=F.aQ r0 l0
  have k0:aw h (.pointer (some ⟨c0,0+0,none⟩))=some (.int .i64 (e.tn k m).kind):=by rw[aA C];rfl
  rw[bI,aa,ae,if_neg sm,aM,aF k0,Go.X.ak,aa,ag]
  have I:acc+(if e.up=true then 1 else 0)=e.ja:=hn
  have J:∀ y:Bool,y=e.up->sr Q (vI acc) (.bool y) h:=by
   rintro y rfl
   unfold sr xg aq
   rw[ae]
   by_cases q:e.up=true
   . rw[if_pos q] at I ⊢
     rw[show (.int .i64 1:Value)=vI 1 from rfl,dm EE 3 acc 1 om,aa,I]
     exact hQ h F
   . rw[if_neg q] at I ⊢
     rw[show acc=e.ja by omega]
     exact hQ h F
  have hc:=e.Mc k m
  by_cases q:e.isC=true
  . rw[if_neg (by simp[hc.2 q])]
    exact J true (by unfold Ex.up;rw[q];rfl)
  . have q':¬ (e.tn k m).kind=9:=fun z=>q (hc.1 z)
    rw[if_pos (sp q'),show (.int .i64 6:Value)=vI 6 from rfl,cn,aa]
    refine J _ ?_
    unfold Ex.up
    rw[Bool.not_eq_true] at q
    rw[q,Bool.false_or]
 | c :: rest,i,acc,h,hd,hi,F,ha,hn=>by
  have hc:e.ks.qF[i]?=some c:=by
   have:=congrArg (fun l:List Ex=>l[0]?) hd
   simpa using this
  have R:i<e.ks.len:=by rw[<-bi.CK];exact (List.getElem?_eq_some_iff.1 hc).1
  obtain⟨k',hp⟩:=e.ks.SA k i c hc
  obtain⟨hpl,hpe⟩:=List.getElem?_eq_some_iff.1 hp
  refine aL.unfold ?_
  show m5 Q _ (pT c0) (vI acc) (vI e.bA) wv (vI e.ks.len) (vI i) h
  unfold m5 aq
  rw[bI,aa,ae,if_pos (sp R)]
  refine (congrArg (fun P:Prop=>P) ((rW.fr F).rd hpl _)).mpr ?_
  rw[hpe]
  have e1:FK.val (c.pt k')=.agg ⟨[vI (k'+c.ks.sz),vI k',vI c.bA,vI c.ja]⟩:=rfl
  rw[e1]
  refine bP fun h2 f2 q2 n2=>lV q2 rfl rfl rfl fun o f3 q3 n3=>?_
  have F3:Fr hs o:=f3.fr (F.trans f2) F.next
  have F3':Fr h o:=f3.fr f2 nlr
  have k3:aw o (.pointer (some ⟨h.next,0+3,none⟩))=some (vI c.ja):=by rw[aA q3];rfl
  have k2:aw o (.pointer (some ⟨h.next,0+2,none⟩))=some (vI c.bA):=by rw[aA q3];rfl
  have C:=F3.aQ r0 l0
  have k0:aw o (.pointer (some ⟨c0,0+0,none⟩))=some (.int .i64 (e.tn k m).kind):=by rw[aA C];rfl
  rw[aM,aF k3,aM,aF k0,Go.X.sJ,aa,ag]
  have Ag2:c ∈ e.ks.qF:=List.mem_of_getElem? hc
  have IQ:c.ja<=800:=by
   have h1:=c.AcR
   have h2:c.sz<=e.sz:=by
    have:=bi.AcQ e.ks c Ag2
    have:=e.nY
    omega
   omega
  have j:Jr e (i+1) (max acc (c.ja+if OE e c i=true then 1 else 0)) rest+(if e.up=true then 1 else 0)=e.ja:=hn
  have hd2:e.ks.qF.drop (i+1)=rest:=by rw[<-List.drop_drop,hd];rfl
  have hl9:e.ks.len<=400:=by have:=e.ks.QE;have:=e.nY;omega
  have J:∀ y:Bool,y=OE e c i->kX Q (aL (Abu Q)) (pT c0) (vI acc) (vI e.bA) (vI c.ja) wv (vI e.ks.len) (vI i) (.bool y) o:=by
   rintro y rfl
   unfold kX xh aq
   rw[ae]
   by_cases q:OE e c i=true
   . rw[if_pos q] at j ⊢
     rw[show (.int .i64 1:Value)=vI 1 from rfl,dm EE 3 c.ja 1 om,aa,G_,dm EE 3 i 1 om,aa]
     exact D9 r0 l0 rW tH hQ rest (i+1) _ o hd2 R F3 om j
   . rw[if_neg q] at j ⊢
     rw[Nat.add_zero] at j
     rw[G_,show (.int .i64 1:Value)=vI 1 from rfl,dm EE 3 i 1 om,aa]
     exact D9 r0 l0 rW tH hQ rest (i+1) _ o hd2 R F3 om j
  have hk:=e.Mc k m
  by_cases p:e.isC=true
  . rw[if_neg (by simp[hk.2 p])]
    exact J false (by unfold OE;rw[p];rfl)
  have q9':¬ (e.tn k m).kind=9:=fun z=>p (hk.1 z)
  rw[Bool.not_eq_true] at p
  rw[if_pos (sp q9'),aM,aF k2,bI,aa,ag]
  by_cases g:c.bA<e.bA
  . rw[if_neg (by simp[g])]
    exact J true (by unfold OE;rw[p,decide_eq_true g];rfl)
  rw[if_pos (sp g),show (.int .i64 1:Value)=vI 1 from rfl,cn,aa,ag]
  by_cases g1:i=1
  . subst g1
    rw[if_pos sm,aM,aF k2,cn,aa]
    refine J _ ?_
    -- only a binary node has a second kid Uo is no U
    have hB:e.isB=true:=by
     cases e with
     | leaf l=>simp[Ex.ks,bi.qF] at hc
     | un op a=>simp[Ex.ks,bi.qF] at hc
     | bin op a b=>rfl
     | call f l=>cases p
    unfold OE
    rw[p,hB,decide_eq_false g]
    simp
  . rw[if_neg (sp g1)]
    exact J false (by unfold OE;rw[p,decide_eq_false g,decide_eq_false g1];simp)
theorem XA {h:H} (p:aZ FK h wv (e.ks.Gd k)) (j:e.sz<=400):ai PP BH [Aq (e.tn k m),wv] h (.v (vI e.ja) h):=by
 refine aj.pure (OL ?_) (by simp[flat])
 unfold OM aq
 refine fz fun o f1 C J=>?_
 rw[cO (n:=19) C rfl,aa]
 refine ar (lX (e.tn k m) o) ?_
 rw[(p.fr f1).len SPt,show (Value.int .i64 ((e.ks.Gd k).length:Nat))=vI e.ks.len by rw[bi.Mb],Ex.D6]
 exact D9 C om (p.fr f1) j (fun h' I=>⟨rfl,f1.trans I⟩) e.ks.qF 0 0 o rfl om (Fr.refl o) om e.W9.symm
end
abbrev SC:TypeId:=71
theorem AeY:bC EE 71 []=some (.agg ⟨Pt.c ⟨0,0,0,0⟩⟩):=by kernel_rfl
theorem bPt (a b c d:Int):bC EE 71 [(0,.int .i64 a),(1,.int .i64 b),(2,.int .i64 c),(3,.int .i64 d)]=some (.agg ⟨[.int .i64 a,.int .i64 b,.int .i64 c,.int .i64 d]⟩):=by kernel_rfl
theorem XB:(EE.dO 71).map (·.agg)=some true:=by kernel_rfl
theorem Aaj {h:H} {b:Nat} (hr:h.row b=some ⟨[(.int .i64 0),(.int .i64 0),(.int .i64 0),(.int .i64 0)],71,0,0,false⟩):X.ss EE h b (.alloc 71)=some (pT b):=by
 show ((EE.cz 71).bind fun z=>(h.row b).bind fun x=>Bool.rec (motive:=fun _=>Option Value) none (some (.pointer (some ⟨b,0,none⟩))) (X.ON x.cs z&&Nat.beq x.elem 71&&Nat.beq x.osz 0&&Nat.beq x.ib 0&&!x.ro))=_
 rw[hr]
 kernel_rfl
theorem cI.Ag3 {α:Type} {D:Kd α} {E:Env} {t e:TypeId} (T:PM E t e D) {h0 h:H} {v:Value} {l:List α} (r:cI D e h0 h v l) {j:Nat} (p:j<=l.length):∃ w,(∀ h',Fr h h'->aO E h' t v none (some (vI j)) none=some w)/\cI D e h0 h w (l.take j):=by
 obtain⟨w,C,R,_⟩:=cI.pre T r p
 refine⟨w,fun h' f=>?_,R⟩
 obtain⟨w',e2,o2,_⟩:=cI.pre T (r.fr f) p
 rw[e2]
 cases r with
 | nil =>
  have I:j=0:=sp p
  subst I
  rw[mJ T.un T.sz h rfl rfl rfl rfl] at C
  rw[mJ T.un T.sz h' rfl rfl rfl rfl] at e2
  rw[<-C,<-e2]
 | «at» b n L gz hb hr hn =>
  have U:j<=n:=by rw[List.length_take] at p;omega
  have k1:=D8 T.un T.sz (h:=h) (b:=b) (o:=0) (n:=n) (c:=L.length) (hh:=j) (m:=L.length) (hi:=some (vI j)) (mx:=none) ⟨_,hr,.inl rfl⟩ rfl (bm .i64 j n L.length om) om rfl
  have J:h'.row b=_:=(fa f hb).trans hr
  have k2:=D8 T.un T.sz (h:=h') (b:=b) (o:=0) (n:=n) (c:=L.length) (hh:=j) (m:=L.length) (hi:=some (vI j)) (mx:=none) ⟨_,J,.inl rfl⟩ rfl (bm .i64 j n L.length om) om rfl
  rw[k1] at C
  rw[k2] at e2
  rw[<-C,<-e2]
abbrev bG (Q:Value->H->Prop):(List Value->H->Prop)->List Value->H->Prop:=fun j s h=>jQ Q j (aI s 0) (aI s 1) (aI s 2) (aI s 3) (aI s 4) (aI s 5) (aI s 6) h
abbrev bH (Q:Value->H->Prop) (j:List Value->H->Prop):(List Value->H->Prop)->List Value->H->Prop:=fun o s h=>jR Q j o (aI s 0) (aI s 1) (aI s 2) (aI s 3) (aI s 4) (aI s 5) (aI s 6) (aI s 7) (aI s 8) (aI s 9) (aI s 10) (aI s 11) (aI s 12) (aI s 13) h
section
variable {hs:H} {nv av:Value} {N:List Nd} {A:List Int} {b0 b2:Nat} {e0 e2:TypeId} {cs2:List Value} {Q:Value->H->Prop}
abbrev BX (hs:H) (b2:Nat) (Q:Value->H->Prop):Prop:=∀ (h':H) (p:Pt),eV b2 hs h'->Q (.tuple ⟨[.agg ⟨p.c⟩,.bool false]⟩) h'
theorem UN (o:hs.row b2=some ⟨cs2,e2,0,0,false⟩) (p:cs2.length=4) (C:b2<hs.next) (I:BX hs b2 Q) {h:H} (F:Fr hs h) :
 af (bC EE 71 []) fun v=>af (wa 4 h (pT b2) v) fun j=>af ((addrOf (pT b2)).bind fun J=>(X.loadVar EE j 71 J).bind fun R=>((some []).map ((.bool false) :: ·)).map (R :: ·)) fun vs=>Q (cN vs) j:=by
 rw[AeY,aa]
 refine lV (F.aQ o C) rfl p rfl fun U f4 r4 n4=>?_
 rw[EW XB OJ r4 rfl,aa]
 exact I U _ ((F.x b2).trans f4)
variable {e:Ex} {k m:Nat} {W:List Pt} {wv lv:Value} {b7:Nat} {e7:TypeId}
theorem HN (rb0:hs.row b0=some ⟨[nv,av],e0,0,0,false⟩) (em:BW N A e k m) (hNl:N.length<=400) (hW:W.length<=k) {h:H} (F:Fr hs h) (own:cI FK SC hs h wv (W++e.ks.Gd k)) {p:Nat} {I:TypeId}
 (J:h.row p=some ⟨(e.pt k).c,I,0,0,false⟩) (hK:∀ C h',Fr hs h'->cI FK SC hs h' C (W++[e.pt k])->aL (bG Q) [pT b0,pT b2,C,vI (m+e.az),nv,vI N.length,vI (k+e.sz)] h') :
 oc Q (aL (bG Q)) (pT b0) (pT b2) wv (vI (m+e.az)) (vI W.length) (pT p) nv (vI N.length) (vI (k+e.ks.sz)) h:=by
 unfold oc aq
 obtain⟨w,U,ow⟩:=cI.Ag3 SPt own (j:=W.length) sm
 have R:=U h (Fr.refl h)
 have ht:(W++e.ks.Gd k).take W.length=W:=List.take_left
 rw[ht] at ow
 rw[R,aa,cO (n:=4) J rfl,aa]
 unfold gh
 have hb:dM EE h 119 1 [(0,.agg ⟨(e.pt k).c⟩)]=some (X.newRow h 71 (FK.c (e.pt k)) 0):=Acw SPt (e.pt k) h rfl dc
 rw[hb,aa]
 have f1:Fr h (X.newRow h 71 (FK.c (e.pt k)) 0):=(Fr.refl h).newRow _ _ _
 refine⟨U _ f1,?_⟩
 have hr:(X.newRow h 71 (FK.c (e.pt k)) 0).row h.next=some ⟨FK.flat [e.pt k],71,0,0,false⟩:=by rw[aS,if_pos rfl,FK.CH]
 have rd:=aZ.row (D:=FK) (h:=X.newRow h 71 (FK.c (e.pt k)) 0) sm hr 0 1 1 sm nlr
 have hle:=em.le.1
 refine WW SPt (F.trans f1) (ow.fr f1) (fs:=[e.pt k]) (sp rd) om sm fun v' h' f g o=>?_
 have hz:=e.nY
 rw[show (.int .i64 1:Value)=vI 1 from rfl,dm EE 3 (k+e.ks.sz) 1 om,aa,show k+e.ks.sz+1=k+e.sz by omega]
 exact hK v' h' f o
theorem UO (o:hs.row b0=some ⟨[nv,av],e0,0,0,false⟩) (em:BW N A e k m) (C:N.length<=400) (hW:W.length<=k) {h:H} (F:Fr hs h) (own:cI FK SC hs h wv (W++e.ks.Gd k))
 (r7:h.row b7=some ⟨(e.tn k m).c,e7,0,0,false⟩) (l7:b7<h.next) (rl:aZ wc h lv ((e.ks.gF k).map Int.ofNat)) (hK:∀ I h',Fr hs h'->cI FK SC hs h' I (W++[e.pt k])->aL (bG Q) [pT b0,pT b2,I,vI (m+e.az),nv,vI N.length,vI (k+e.sz)] h') :
 pP Q (aL (bG Q)) (pT b0) (pT b2) wv (vI (m+e.az)) (vI (k+e.ks.sz)) (pT b7) lv (vI W.length) nv (vI N.length) (vI (k+e.ks.sz)) h:=by
 have hle:=em.le.1
 have hz:=e.nY
 unfold pP aq
 refine bP fun h1 f1 q1 n1=>?_
 have J:=f1.aQ r7 l7
 rw[cO (n:=19) J rfl,aa]
 refine ar (lX (e.tn k m) h1) ?_
 rw[cO (n:=19) J rfl,aa]
 refine⟨rfl,?_⟩
 have R:=own.fr f1
 obtain⟨w,ew,U,_⟩:=R.read.drop SPt (i:=W.length) sm
 rw[List.drop_left] at U
 have ew':aO EE h1 119 wv (some (vI W.length)) none none=some w:=ew
 rw[ew',aa]
 refine⟨rfl,?_⟩
 refine ar (XA (m:=m) U om) ?_
 have ebp:=bPt ((k+e.ks.sz:Nat):Int) ((k+e.ks.sz:Nat):Int) ((e.bA:Nat):Int) ((e.ja:Nat):Int)
 have Ag4:bC EE 71 [(0,vI (k+e.ks.sz)),(1,vI (k+e.ks.sz)),(2,vI (VE (e.tn k m))),(3,vI e.ja)]=some (.agg ⟨Pt.c ⟨k+e.ks.sz,k+e.ks.sz,e.bA,e.ja⟩⟩):=by rw[Ex.D6];exact ebp
 rw[Ag4,aa,Aaj q1,aa]
 refine⟨rfl,rfl,?_⟩
 refine lV q1 rfl rfl rfl fun h2 f2 q2 n2=>?_
 have F2:Fr h h2:=f2.fr f1 nlr
 have j:=own.fr F2
 have FS:=F.trans F2
 rw[(rl.fr F2).len MX,show (Value.int .i64 (((e.ks.gF k).map Int.ofNat).length:Nat))=vI e.ks.len by rw[List.length_map,bi.gG],show (.int .i64 0:Value)=vI 0 from rfl,fu,aa,ae]
 by_cases g:0<e.ks.len
 . rw[if_pos (sp g)]
   obtain⟨p,hp,hpf⟩:=e.ks.UM k g
   obtain⟨hp1,Uw⟩:=List.getElem?_eq_some_iff.1 hp
   have oz:W.length<(W++e.ks.Gd k).length:=by rw[List.length_append];omega
   obtain⟨b1,o1,e1,e3⟩:=j.read.ZZ oz 1 dc
   have BA:AB 4 wv (vI W.length)=some (.pointer (some ⟨b1,o1,none⟩)):=e1
   have eg:(W++e.ks.Gd k)[W.length]=p:=by
    rw[List.getElem_append_right nlr]
    simp only[Nat.sub_self]
    exact Uw
   rw[eg] at e3
   have e3':aw h2 (.pointer (some ⟨b1,o1+1,none⟩))=some (vI k):=by
    rw[e3]
    show some (vI p.first)=_
    rw[hpf]
   rw[BA,aa,aM,aF e3',aM]
   refine qY q2 rfl rfl (by show _<4;omega) fun h4 f4 q4 n4=>?_
   have F4:Fr h h4:=f4.fr F2 nlr
   exact HN o em C hW (F.trans F4) (own.fr F4) q4 hK
 . rw[if_neg (sp g)]
   have hn:e.ks.sz=0:=by
    cases hh:e.ks with
    | nil=>rfl
    | cons a l=>rw[hh] at g;simp[bi.len] at g
   have q2':h2.row h.next=some ⟨(e.pt k).c,71,0,0,false⟩:=by
    rw[q2]
    show some (_:IP)=some ⟨Pt.c ⟨k+e.ks.sz,k,e.bA,e.ja⟩,_,_,_,_⟩
    rw[hn];rfl
   exact HN o em C hW FS j q2' hK
theorem UP (p:hs.row b0=some ⟨[nv,av],e0,0,0,false⟩) (em:BW N A e k m) (C:N.length<=400) (hA:A.length<=100000) (hW:W.length<=k) {h:H} (F:Fr hs h) (own:cI FK SC hs h wv (W++e.ks.Gd k)) (rb2:hs.row b2=some ⟨cs2,e2,0,0,false⟩)
 (o:h.row b7=some ⟨(e.tn k m).c,e7,0,0,false⟩) (l7:b7<h.next) (rl:aZ wc h lv ((e.ks.gF k).map Int.ofNat)) (hK:∀ j h',Fr hs h'->cI FK SC hs h' j (W++[e.pt k])->aL (bG Q) [pT b0,pT b2,j,vI (m+e.az),nv,vI N.length,vI (k+e.sz)] h') :
 aL (bH Q (aL (bG Q))) [pT b0,pT b2,wv,vI (m+e.ks.az),vI (k+e.ks.sz),pT b7,lv,vI W.length,nv,vI N.length,vI (k+e.ks.sz),lv,vI e.ks.len,vI e.ks.len] h:=by
 refine aL.unfold ?_
 show jR Q (aL (bG Q)) (aL (bH Q (aL (bG Q)))) (pT b0) (pT b2) wv (vI (m+e.ks.az)) (vI (k+e.ks.sz)) (pT b7) lv (vI W.length) nv (vI N.length) (vI (k+e.ks.sz)) lv (vI e.ks.len) (vI e.ks.len) h
 unfold jR aq
 have c0:aw h (.pointer (some ⟨b7,0+0,none⟩))=some (.int .i64 (e.tn k m).kind):=by rw[aA o];rfl
 have c2:aw h (.pointer (some ⟨b7,0+2,none⟩))=some (.int .i64 (e.tn k m).a):=by rw[aA o];rfl
 have I:aw h (.pointer (some ⟨b7,0+3,none⟩))=some (.int .i64 (e.tn k m).b):=by rw[aA o];rfl
 rw[bI,aa,ae,if_neg sm,aM,aF c0,Go.X.ak,aa,ag]
 have haz:=e.AcL k
 have hle:=em.le.2
 have J:=UO (lv:=lv) p em C hW F own o l7 rl hK
 have U:=e.Mc k m
 by_cases q:e.isC=true
 . rw[if_pos (by simp[U.2 q]),aM,aF I]
   cases e with
   | leaf l=>cases q
   | un op a=>cases q
   | bin op a b=>cases q
   | call f l =>
    have hz:(Ex.call f l).az=l.az+l.len:=rfl
    have eb:(Ex.tn (.call f l) k m).b=(l.len:Int):=rfl
    have ea:(Ex.tn (.call f l) k m).a=((if l.len=0 then 0 else m+l.az:Nat):Int):=rfl
    rw[eb,show (.int .i64 0:Value)=vI 0 from rfl,fu,aa]
    unfold pQ aq
    rw[ae]
    by_cases g:0<l.len
    . rw[if_neg om] at ea
      rw[ea] at c2
      rw[eb] at I
      have R:(Ex.call f l).ks.az=l.az:=rfl
      rw[if_pos (sp g),aM,aF c2,R,cX,aa,ae,if_neg sm,aM,aF I,dm EE 3 (m+l.az) l.len om,aa]
      rw[show m+l.az+l.len=m+(Ex.call f l).az by omega]
      exact J
    . rw[if_neg (sp g)]
      have R:(Ex.call f l).ks.az=l.az:=rfl
      rw[R,show m+l.az=m+(Ex.call f l).az by omega]
      exact J
 . have q':¬ (e.tn k m).kind=9:=fun z=>q (U.1 z)
   rw[if_neg (sp q')]
   unfold pQ aq
   rw[ae,if_neg sm]
   have:(e.oa k).length=0:=by
    cases e with
    | leaf l=>rfl
    | un op a=>rfl
    | bin op a b=>rfl
    | call f l=>exact absurd rfl q
   rw[show m+e.ks.az=m+e.az by omega]
   exact J
theorem HO (C:hs.row b0=some ⟨[nv,av],e0,0,0,false⟩) (em:BW N A e k m) (I:N.length<=400) (hA:A.length<=100000) (hW:W.length<=k) {h:H} (F:Fr hs h) (own:cI FK SC hs h wv (W++e.ks.Gd k)) (J:hs.row b2=some ⟨cs2,e2,0,0,false⟩)
 (r7:h.row b7=some ⟨(e.tn k m).c,e7,0,0,false⟩) (l7:b7<h.next) (U:aZ wc h lv ((e.ks.gF k).map Int.ofNat)) (hK:∀ R h',Fr hs h'->cI FK SC hs h' R (W++[e.pt k])->aL (bG Q) [pT b0,pT b2,R,vI (m+e.az),nv,vI N.length,vI (k+e.sz)] h') :
 ∀ (d j:Nat),j+d=e.ks.len->aL (bH Q (aL (bG Q))) [pT b0,pT b2,wv,vI (m+e.ks.az),vI (k+e.ks.sz),pT b7,lv,vI W.length,nv,vI N.length,vI (k+e.ks.sz),lv,vI e.ks.len,vI j] h
 | 0,j,hj=>by
  have:j=e.ks.len:=om
  subst this
  exact UP C em I hA hW F own J r7 l7 U hK
 | d+1,j,hj=>by
  have o:j<e.ks.len:=om
  obtain⟨t,ht⟩:=bi.OG _ k j o
  obtain⟨p,hp,hpn⟩:=e.ks.OK k j t ht
  obtain⟨hp1,Uw⟩:=List.getElem?_eq_some_iff.1 hp
  refine aL.unfold ?_
  show jR Q (aL (bG Q)) (aL (bH Q (aL (bG Q)))) (pT b0) (pT b2) wv (vI (m+e.ks.az)) (vI (k+e.ks.sz)) (pT b7) lv (vI W.length) nv (vI N.length) (vI (k+e.ks.sz)) lv (vI e.ks.len) (vI j) h
  unfold jR aq
  rw[bI,aa,ae,if_pos (sp o)]
  have hjt:j<((e.ks.gF k).map Int.ofNat).length:=by rw[List.length_map,bi.gG];exact o
  obtain⟨b1,o1,e1,e3⟩:=U.ZZ hjt 0 dc
  have ec:((e.ks.gF k).map Int.ofNat)[j]=(t:Int):=by
   rw[List.getElem_map,(List.getElem?_eq_some_iff.1 ht).2];rfl
  rw[ec] at e3
  have BA:AB 1 lv (vI j)=some (.pointer (some ⟨b1,o1,none⟩)):=e1
  have e3':aw h (.pointer (some ⟨b1,o1,none⟩))=some (vI t):=e3
  have hle:=em.le.1
  have PL:e.ks.len<=400:=by
   have:=bi.QE e.ks
   have:=e.nY
   omega
  rw[BA,aa,aF e3',dm EE 3 W.length j om,aa]
  have oz:W.length+j<(W++e.ks.Gd k).length:=by rw[List.length_append];omega
  obtain⟨b3,o3,e4,e5⟩:=own.read.ZZ oz 0 dc
  have e4':AB 4 wv (vI (W.length+j))=some (.pointer (some ⟨b3,o3,none⟩)):=e4
  have eg:(W++e.ks.Gd k)[W.length+j]=p:=by
   rw[List.getElem_append_right om]
   simp only[Nat.add_sub_cancel_left]
   exact Uw
  rw[eg] at e5
  have e5':aw h (.pointer (some ⟨b3,o3+0,none⟩))=some (vI t):=by
   rw[e5]
   show some (vI p.node)=_
   rw[hpn]
  rw[e4',aa,aM,aF e5',cX,aa,ae,if_neg sm,show (.int .i64 1:Value)=vI 1 from rfl,dm EE 3 j 1 om,aa]
  exact HO C em I hA hW F own J r7 l7 U hK d (j+1) om
theorem UQ (p:hs.row b0=some ⟨[nv,av],e0,0,0,false⟩) (lb0:b0<hs.next) (C:hs.row b2=some ⟨cs2,e2,0,0,false⟩) (hc2:cs2.length=4) (lb2:b2<hs.next) (rN:aZ Gn hs nv N) (rA:aZ wc hs av A) (em:BW N A e k m) (sm:e.sm) (hNl:N.length<=400) (hA:A.length<=100000) (hW:W.length<=k) {h:H} (F:Fr hs h) (own:cI FK SC hs h wv (W++e.ks.Gd k))
 (hX:e.tok=false->BX hs b2 Q) (hK:∀ j h',e.tok=true->Fr hs h'->cI FK SC hs h' j (W++[e.pt k])->aL (bG Q) [pT b0,pT b2,j,vI (m+e.az),nv,vI N.length,vI (k+e.sz)] h') :
 aL (bG Q) [pT b0,pT b2,wv,vI (m+e.ks.az),nv,vI N.length,vI (k+e.ks.sz)] h:=by
 refine aL.unfold ?_
 show jQ Q _ (pT b0) (pT b2) wv (vI (m+e.ks.az)) nv (vI N.length) (vI (k+e.ks.sz)) h
 unfold jQ aq
 obtain⟨hi,hN⟩:=em.ix
 rw[bI,aa,ae,if_pos (sp hi)]
 obtain⟨b1,o1,e1,Jl⟩:=(rN.fr F).ix hi
 have e3:=Jl.agg
 rw[hN] at e3
 have BA:AB 19 nv (vI (k+e.ks.sz))=some (.pointer (some ⟨b1,o1,none⟩)):=e1
 have e3':fJ 19 h (.pointer (some ⟨b1,o1,none⟩))=some (Aq (e.tn k m)):=e3
 rw[BA,aa,e3',aa]
 refine bP fun h2 f2 q2 n2=>lV q2 rfl rfl rfl fun J f3 q3 n3=>?_
 have I:Fr h J:=f3.fr f2 nlr
 have R:Fr hs J:=F.trans I
 rw[cO (n:=19) q3 rfl,aa]
 refine ar (OI (Ex.AgY sm k m) J) ?_
 rw[aY,aa,ae]
 by_cases tk:e.tok=true
 . have cav:aw J (.pointer (some ⟨b0,0+1,none⟩))=some av:=by rw[aA (R.aQ p lb0)];rfl
   rw[if_neg (by simp[tk]),cO (n:=19) q3 rfl,aa,aM,aF cav]
   refine (L8 (e.tn k m) (rA.fr R) hA em.k9).mono ?_
   rintro w h4 ⟨f4,l,rfl,U⟩
   rw[em.kids] at U
   have F4:=R.trans f4
   have o:=(own.fr I).fr f4
   have q4:=f4.aQ q3 om
   simp only[au,ao,ay,aa]
   have hk:=e.ks.Mb k
   rw[o.read.len SPt,show (Value.int .i64 ((W++e.ks.Gd k).length:Nat))=vI (W.length+e.ks.len) by rw[List.length_append,hk],U.len MX,show (Value.int .i64 (((e.ks.gF k).map Int.ofNat).length:Nat))=vI e.ks.len by rw[List.length_map,bi.gG]]
   have hle:=em.le.1
   have PL:e.ks.len<=9000000000000:=by
    have:=bi.QE e.ks
    have:=e.nY
    omega
   rw[pX EE 3 (W.length+e.ks.len) e.ks.len om om,aa,aY,aa,ag,if_pos (by simp),Nat.add_sub_cancel,show (.int .i64 0:Value)=vI 0 from rfl,bI,aa]
   unfold vh aq
   rw[ae,if_neg (by simp),U.len MX,show (Value.int .i64 (((e.ks.gF k).map Int.ofNat).length:Nat))=vI e.ks.len by rw[List.length_map,bi.gG]]
   exact HO p em hNl hA hW F4 o C q4 (by have:=f4.next;omega) U (fun j h'=>hK j h' tk) e.ks.len 0 om
 . rw[Bool.not_eq_true] at tk
   rw[if_pos (by simp[tk])]
   exact UN C hc2 lb2 (hX tk) R
end
section
variable {hs:H} {nv av:Value} {N:List Nd} {A:List Int} {b0 b2:Nat} {e0 e2:TypeId} {cs2:List Value} {Q:Value->H->Prop}
theorem UR (rb0:hs.row b0=some ⟨[nv,av],e0,0,0,false⟩) (lb0:b0<hs.next) (rb2:hs.row b2=some ⟨cs2,e2,0,0,false⟩) (hc2:cs2.length=4) (lb2:b2<hs.next) (rN:aZ Gn hs nv N) (rA:aZ wc hs av A) (hNl:N.length<=400) (hA:A.length<=100000) :
 ∀ e:Ex,∀ (k m:Nat) (W:List Pt) (C:Value) (h:H),BW N A e k m->e.sm->W.length<=k->Fr hs h->cI FK SC hs h C W->(e.ok=false->BX hs b2 Q) ->
  (∀ o h',e.ok=true->Fr hs h'->cI FK SC hs h' o (W++[e.pt k])->aL (bG Q) [pT b0,pT b2,o,vI (m+e.az),nv,vI N.length,vI (k+e.sz)] h')->aL (bG Q) [pT b0,pT b2,C,vI m,nv,vI N.length,vI k] h:=by
 refine Ex.post (L:=fun l=>∀ (k m:Nat) (W:List Pt) (C:Value) (h:H),HK N A l k m->l.sm->W.length<=k->Fr hs h->cI FK SC hs h C W->(l.ok=false->BX hs b2 Q) ->
  (∀ o h',l.ok=true->Fr hs h'->cI FK SC hs h' o (W++l.Gd k)->aL (bG Q) [pT b0,pT b2,o,vI (m+l.az),nv,vI N.length,vI (k+l.sz)] h')->aL (bG Q) [pT b0,pT b2,C,vI m,nv,vI N.length,vI k] h) ?_ ?_ ?_
 . intro k m W C h _ _ _ F own _ hK
   exact hK C h rfl F (by rw[show (bi.nil.Gd k)=[] from rfl,List.append_nil];exact own)
 . intro a l ha hl k m W C h em sm hW F own hX hK
   have p:(bi.cons a l).ok=(a.ok&&l.ok):=rfl
   refine ha k m W C h em.cons.1 sm.1 hW F own (fun q=>hX (by rw[p,q];rfl)) fun o h' oka F' I=>?_
   refine hl (k+a.sz) (m+a.az) (W++[a.pt k]) o h' em.cons.2 sm.2 ?_ F' I (fun q=>hX (by rw[p,q,Bool.and_false])) fun J R U F'' j=>?_
   . have:=a.Hr
     rw[List.length_append,List.length_singleton];omega
   . have e1:W++[a.pt k]++l.Gd (k+a.sz)=W++(bi.cons a l).Gd k:=by rw[List.append_assoc];rfl
     rw[e1] at j
     have:=hK J R (by rw[p,oka,U];rfl) F'' j
     rw[show m+(bi.cons a l).az=m+a.az+l.az from (Nat.add_assoc _ _ _).symm,show k+(bi.cons a l).sz=k+a.sz+l.sz from (Nat.add_assoc _ _ _).symm] at this
     exact this
 . intro e ih k m W C h em sm hW F own hX hK
   have p:=e.AeS sm
   refine ih k m W C h em.top.1 (Ex.OD sm) hW F own (fun q=>hX (by rw[p,q];rfl)) fun o h' U F' I=>?_
   exact UQ rb0 lb0 rb2 hc2 lb2 rN rA em sm hNl hA hW F' I (fun q=>hX (by rw[p,q,Bool.and_false])) fun J R tk F'' j=>hK J R (by rw[p,U,tk];rfl) F'' j
end
section
variable {h:H} {nv av:Value} {E:Ex}
theorem Ju (rN:aZ Gn h nv (E.lN 0 0)) (rA:aZ wc h av ((E.ars 0).map Int.ofNat)) (sm:E.sm) (tH:E.sz<=400) (haz:E.az<=10000) :
 CP zg [.agg ⟨[nv,av]⟩] h fun w h'=>Fr h h'/\∃ p:Pt,w=.tuple ⟨[.agg ⟨p.c⟩,.bool E.ok]⟩/\(E.ok=true->p=E.pt 0):=by
 refine .call (Md ?_)
 unfold Ko aq
 refine fz fun h1 f1 q1 n1=>bP fun U f3 q3 n3=>?_
 have J:=f1.trans f3
 have o:=f3.aQ q1 om
 have k0:aw U (.pointer (some ⟨h.next,0+0,none⟩))=some nv:=by rw[aA o];rfl
 have hN:(E.lN 0 0).length=E.sz:=E.cf 0 0
 have hAl:((E.ars 0).map Int.ofNat).length=E.az:=by rw[List.length_map,E.dR]
 have C:=rN.fr J
 have I:=rA.fr J
 rw[aM,aF k0,C.len WV]
 refine UR o om q3 rfl om C I om om E 0 0 [] _ U (BW.all E) sm nlr (Fr.refl U) .nil (fun j h' p F=>?_) fun wv h4 j R own=>?_
 . exact⟨F.fr J om,p,by rw[j],fun q=>by rw[j] at q;cases q⟩
 . refine aL.unfold ?_
   show jQ _ _ (pT h.next) (pT h1.next) wv (vI (0+E.az)) nv (vI (E.lN 0 0).length) (vI (0+E.sz)) h4
   unfold jQ aq
   have kA:aw h4 (.pointer (some ⟨h.next,0+1,none⟩))=some av:=by rw[aA (R.aQ o om)];rfl
   rw[bI,aa,ae,if_neg (by simp[hN]),own.read.len SPt,show (.int .i64 1:Value)=vI 1 from rfl,cX,aa,ag,if_pos (by simp),aM,aF kA,(I.fr R).len MX,cX,aa]
   unfold tr aq
   rw[ae,if_neg (by simp[hAl])]
   refine (congrArg (fun P:Prop=>P) (own.read.rd (i:=0) (by simp) _)).mpr ?_
   refine lV (R.aQ q3 om) rfl rfl rfl fun h5 f5 r5 n5=>?_
   rw[EW XB OJ r5 rfl,aa]
   refine⟨f5.fr (J.trans R) om,E.pt 0,?_,fun _=>rfl⟩
   rw[j];rfl
theorem Jv (rN:aZ Gn h nv (E.lN 0 0)) (rA:aZ wc h av ((E.ars 0).map Int.ofNat)) (sm:E.sm) (J:E.sz<=400) (R:E.az<=10000) :
 CP zh [.agg ⟨[nv,av]⟩] h fun w h'=>Fr h h'/\∃ p:Pt,w=.tuple ⟨[.agg ⟨p.c⟩,.bool E.right]⟩:=by
 refine .call (Me ?_)
 unfold Kp aq
 refine fz fun h1 f1 q1 n1=>bP fun h3 f3 q3 n3=>?_
 have I:=f1.trans f3
 have j:=f3.aQ q1 om
 have k0:aw h3 (.pointer (some ⟨h.next,0+0,none⟩))=some nv:=by rw[aA j];rfl
 have hN:(E.lN 0 0).length=E.sz:=E.cf 0 0
 have o:=rN.fr I
 have U:=rA.fr I
 rw[aM,aF k0,o.len WV,hN,Go.X.binOp_gtr,aa,ae]
 by_cases g:300<E.sz
 . rw[if_pos so,AeY,aa]
   refine lV q3 rfl rfl rfl fun h4 f4 r4 n4=>?_
   rw[EW XB OJ r4 rfl,aa]
   refine⟨f4.fr I om,⟨0,0,0,0⟩,?_⟩
   have:E.right=false:=by unfold Ex.right;rw[decide_eq_false (by omega:¬ E.sz<=300)];simp
   rw[this];rfl
 . rw[if_neg so,cO (n:=2) j rfl,aa]
   refine (Ju o U sm J R).mono ?_
   rintro w h4 ⟨f4,p,rfl,hp⟩
   simp only[au,ao,ay,aa]
   refine bP fun h5 f5 q5 n5=>lV q5 rfl rfl rfl fun h6 f6 q6 n6=>?_
   have F4:=I.trans f4
   have F6:Fr h h6:=f6.fr (F4.trans f5) F4.next
   have C:=f6.aQ (f5.aQ (f4.aQ q3 om) (by have:=f4.next;omega)) (by have:=f4.next;omega) (by have:=f4.next;omega)
   have c3:aw h6 (.pointer (some ⟨h4.next,0+3,none⟩))=some (vI p.nest):=by rw[aA q6];rfl
   rw[cO (n:=4) q6 rfl,aa,ag]
   unfold vi aq
   by_cases ok:E.ok=true
   . have hpe:=hp ok
     subst hpe
     rw[if_pos ok,aM,aF c3,show (.int .i64 24:Value)=vI 24 from rfl,nD,aa]
     refine lV C rfl rfl rfl fun h7 f7 r7 n7=>?_
     have c3':aw h7 (.pointer (some ⟨h4.next,0+3,none⟩))=some (vI (E.pt 0).nest):=by rw[aA (f7.aQ q6 (by have:=f4.next;omega) om)];rfl
     refine⟨c3',?_⟩
     rw[EW XB OJ r7 rfl,aa]
     refine⟨f7.fr F6 om,E.pt 0,?_⟩
     have:E.right=decide (E.ja<=24):=by unfold Ex.right;rw[ok,decide_eq_true (by omega:E.sz<=300)];simp
     rw[this];rfl
   . rw[if_neg ok]
     refine lV C rfl rfl rfl fun h7 f7 r7 n7=>?_
     rw[EW XB OJ r7 rfl,aa]
     refine⟨f7.fr F6 om,p,?_⟩
     rw[Bool.not_eq_true] at ok
     have:E.right=false:=by unfold Ex.right;rw[ok];rfl
     rw[this];rfl
theorem Jw (C:aZ Gn h nv (E.lN 0 0)) (I:aZ wc h av ((E.ars 0).map Int.ofNat)) (sm:E.sm) (j:E.sz<=400) (o:E.az<=10000) :
 ai PP zj [.agg ⟨[nv,av]⟩] h (.v (.bool E.right) h):=by
 refine aj.pure (Mf ?_) (by simp[flat])
 unfold Kq aq
 refine fz fun U f1 J n1=>?_
 rw[cO (n:=2) J rfl,aa]
 refine (Jv (C.fr f1) (I.fr f1) sm j o).mono ?_
 rintro w h4 ⟨f4,p,rfl⟩
 simp only[au,ao,ay,aa]
 refine bP fun h5 f5 R n5=>lV R rfl rfl rfl fun h6 f6 q6 n6=>?_
 exact⟨trivial,f6.fr ((f1.trans f4).trans f5) (f1.trans f4).next⟩
end
abbrev pfG (Q:Value->H->Prop):(List Value->H->Prop)->List Value->H->Prop:=fun j s h=>e9 Q j (aI s 0) (aI s 1) (aI s 2) (aI s 3) h
abbrev PX (hs:H) (Q:Value->H->Prop):Prop:=∀ h':H,Fr hs h'->Q (.tuple ⟨[st [],vI 9]⟩) h'
def AeZ (l:bi) (k:Nat) (S:List (List UInt8)):Prop:=∀ (j:Nat) (c:Ex) (t:Nat),l.qF[j]?=some c->(l.gF k)[j]?=some t->S[t]?=some c.sh
section
variable {hs:H} {nv av tv:Value} {N:List Nd} {A:List Int} {b0:Nat} {e0:TypeId} {Q:Value->H->Prop}
theorem AcS (C:hs.row b0=some ⟨[nv,av],e0,0,0,false⟩) (I:b0<hs.next) (rN:aZ Gn hs nv N) (rA:aZ wc hs av A) (hNl:N.length<=400) (hA:A.length<=100000) {e:Ex} {k m:Nat} {S:List (List UInt8)} {h:H} (em:BW N A e k m) (sm:e.sm) (hS:S.length=N.length) (F:Fr hs h) (own:bp 9 hs h tv (cD S)) (hk:AeZ e.ks k S)
 (hX:300<e.sh.length->PX hs Q) (hK:∀ p h',e.sh.length<=300->(∀ t,t<k+e.ks.sz->p[t]?=S[t]?)->p[k+e.ks.sz]?=some e.sh->p.length=N.length->Fr hs h'->bp 9 hs h' tv (cD p)->aL (pfG Q) [pT b0,tv,vI N.length,vI (k+e.sz)] h') :
 aL (pfG Q) [pT b0,tv,vI N.length,vI (k+e.ks.sz)] h:=by
 have hle:=em.le.1
 have hz:=e.nY
 refine aL.unfold ?_
 show e9 Q _ (pT b0) tv (vI N.length) (vI (k+e.ks.sz)) h
 unfold e9 aq
 obtain⟨hi,hN⟩:=em.ix
 have r0:=F.aQ C I
 have k0:aw h (.pointer (some ⟨b0,0+0,none⟩))=some nv:=by rw[aA r0];rfl
 rw[bI,aa,ae,if_pos (sp hi),cO (n:=2) r0 rfl,aa,aM,aF k0]
 obtain⟨b1,o1,e1,J⟩:=(rN.fr F).ix hi
 have e3:=J.agg
 rw[hN] at e3
 have R:AB 19 nv (vI (k+e.ks.sz))=some (.pointer (some ⟨b1,o1,none⟩)):=e1
 have U:fJ 19 h (.pointer (some ⟨b1,o1,none⟩))=some (Aq (e.tn k m)):=e3
 rw[R,aa,U,aa]
 refine ar (HL (rN.fr F) (rA.fr F) hA own.read hS.symm em sm om hk) ?_
 have T_:k+e.ks.sz<(cD S).length:=by rw[cD,List.length_map];omega
 refine own.set T_ (x:=st e.sh) rfl rfl fun b h' hb x hn hv j=>?_
 have es:(cD S).set (k+e.ks.sz) (st e.sh)=cD (S.set (k+e.ks.sz) e.sh):=by
  unfold cD;rw[List.map_set]
 rw[es] at j
 have F':Fr hs h':=x.fr F hb
 have o:k+e.ks.sz<(cD (S.set (k+e.ks.sz) e.sh)).length:=by rw[cD,List.length_map,List.length_set];omega
 refine (congrArg (fun P:Prop=>P) (j.read.rd o _)).mpr ?_
 have hg:(cD (S.set (k+e.ks.sz) e.sh))[k+e.ks.sz]=st e.sh:=by simp[cD]
 rw[hg,bb kH,show (.int .i64 300:Value)=vI 300 from rfl,fu,aa,ae]
 by_cases g:300<e.sh.length
 . rw[if_pos (sp g)]
   exact hX g h' F'
 . rw[if_neg (sp g),show (.int .i64 1:Value)=vI 1 from rfl,dm EE 3 (k+e.ks.sz) 1 om,aa,show k+e.ks.sz+1=k+e.sz by omega]
   refine hK (S.set (k+e.ks.sz) e.sh) h' om (fun t ht=>?_) ?_ (by rw[List.length_set];exact hS) F' j
   . rw[List.getElem?_set_ne om]
   . rw[List.getElem?_set_self om]
theorem AcT (rb0:hs.row b0=some ⟨[nv,av],e0,0,0,false⟩) (lb0:b0<hs.next) (rN:aZ Gn hs nv N) (rA:aZ wc hs av A) (hNl:N.length<=400) (hA:A.length<=100000) :
 ∀ e:Ex,∀ (k m:Nat) (S:List (List UInt8)) (h:H),BW N A e k m->e.sm->S.length=N.length->Fr hs h->bp 9 hs h tv (cD S)->(300<e.sh.length->PX hs Q) ->
  (∀ p h',e.sh.length<=300->(∀ t,t<k->p[t]?=S[t]?)->p[k+e.ks.sz]?=some e.sh->p.length=N.length->Fr hs h'->bp 9 hs h' tv (cD p)->aL (pfG Q) [pT b0,tv,vI N.length,vI (k+e.sz)] h')->aL (pfG Q) [pT b0,tv,vI N.length,vI k] h:=by
 refine Ex.post (L:=fun l=>∀ (k m:Nat) (S:List (List UInt8)) (h:H),HK N A l k m->l.sm->S.length=N.length->Fr hs h->bp 9 hs h tv (cD S)->(∀ c ∈ l.qF,300<c.sh.length->PX hs Q) ->
  (∀ p h',(∀ t,t<k->p[t]?=S[t]?)->AeZ l k p->p.length=N.length->Fr hs h'->bp 9 hs h' tv (cD p)->aL (pfG Q) [pT b0,tv,vI N.length,vI (k+l.sz)] h')->aL (pfG Q) [pT b0,tv,vI N.length,vI k] h) ?_ ?_ ?_
 . intro k m S h _ _ hS F own _ hK
   exact hK S h (fun _ _=>rfl) (fun j c t hc _=>by simp[bi.qF] at hc) hS F own
 . intro a l ha hl k m S h em sm hS F own hX hK
   have ea:=a.nY
   refine ha k m S h em.cons.1 sm.1 hS F own (fun g=>hX a (by simp[bi.qF]) g) fun p h' hs1 hs2 hs3 hs4 F' C=>?_
   refine hl (k+a.sz) (m+a.az) p h' em.cons.2 sm.2 hs4 F' C (fun c hc g=>hX c (by simp[bi.qF,hc]) g) fun I J h1 h2 h3 R o=>?_
   rw[show k+a.sz+l.sz=k+(bi.cons a l).sz from Nat.add_assoc _ _ _]
   refine hK I J (fun t U=>(h1 t om).trans (hs2 t U)) (fun j c t hc U=>?_) h3 R o
   cases j with
   | zero =>
    have q1:a=c:=by simpa [bi.qF] using hc
    have q2:k+a.sz-1=t:=by simpa [bi.gF] using U
    subst q1
    rw[h1 t om,show t=k+a.ks.sz by omega]
    exact hs3
   | succ j=>exact h2 j c t (by simpa [bi.qF] using hc) (by simpa [bi.gF] using U)
 . intro e ih k m S h em sm hS F own hX hK
   refine ih k m S h em.top.1 (Ex.OD sm) hS F own (fun c hc g=>hX (Nat.lt_of_lt_of_le g (Ex.Aah hc))) fun p h' h1 h2 h3 F' C=>?_
   exact AcS rb0 lb0 rN rA hNl hA em sm h3 F' C h2 hX fun I J hl h4 h5 h6 R o=>hK I J hl (fun t U=>(h4 t om).trans (h1 t U)) h5 h6 R o
end
def pfW (E:Ex):Value:=if E.right=false then .tuple ⟨[st [],vI 3]⟩ else if 300<E.sh.length then .tuple ⟨[st [],vI 9]⟩ else .tuple ⟨[st E.sh,vI 0]⟩
theorem nu {h:H} {nv av:Value} {E:Ex} (p:aZ Gn h nv (E.lN 0 0)) (C:aZ wc h av ((E.ars 0).map Int.ofNat)) (sm:E.sm) (I:E.sz<=400) (J:E.az<=10000) :
 ai PP e_ [.agg ⟨[nv,av]⟩] h (.v (pfW E) h):=by
 refine aj.pure (D_ ?_) (by unfold pfW;split;rfl;split <;> rfl)
 unfold AX aq
 refine fz fun R f1 o n1=>?_
 rw[cO (n:=2) o rfl,aa]
 refine ar (Jw (p.fr f1) (C.fr f1) sm I J) ?_
 have k0:aw R (.pointer (some ⟨h.next,0+0,none⟩))=some nv:=by rw[aA o];rfl
 have hN:(E.lN 0 0).length=E.sz:=E.cf 0 0
 have hAl:((E.ars 0).map Int.ofNat).length=E.az:=by rw[List.length_map,E.dR]
 rw[aY,aa,ae]
 unfold pfW
 by_cases rt:E.right=false
 . rw[if_pos (by simp[rt]),if_pos rt]
   exact⟨rfl,f1⟩
 . rw[if_neg (sp rt),if_neg rt,aM,aF k0,(p.fr f1).len WV]
   obtain⟨tv,h2,e2,f2,o2⟩:=Be TS R (E.lN 0 0).length om
   have U:vU EE R 48 (.int .i64 ((E.lN 0 0).length:Nat)) (.int .i64 ((E.lN 0 0).length:Nat))=some (tv,h2):=e2
   rw[U,aa]
   have F2:=f1.trans f2
   have q2:=f2.aQ o om
   have k0':aw h2 (.pointer (some ⟨h.next,0+0,none⟩))=some nv:=by rw[aA q2];rfl
   have rN2:=p.fr F2
   have rA2:=C.fr F2
   rw[aM]
   show af (aw h2 _) _
   rw[aF k0',rN2.len WV]
   have er:List.replicate (E.lN 0 0).length (st [])=cD (List.replicate (E.lN 0 0).length []):=by unfold cD;rw[List.map_replicate]
   rw[er] at o2
   refine AcT o om (p.fr f1) (C.fr f1) om om E 0 0 _ h2 (BW.all E) sm (by simp) f2 o2 (fun g h' F'=>?_) fun j h' hl h3 h4 h5 F' own=>?_
   . rw[if_pos g];exact⟨rfl,f1.trans F'⟩
   . rw[if_neg om]
     refine aL.unfold ?_
     show e9 _ _ (pT h.next) tv (vI (E.lN 0 0).length) (vI (0+E.sz)) h'
     unfold e9 aq
     have hz:=E.nY
     rw[bI,aa,ae,if_neg (by simp[hN]),own.read.len TS,show (Value.int .i64 ((cD j).length:Nat))=vI j.length by rw[cD,List.length_map],show (.int .i64 1:Value)=vI 1 from rfl,pX EE 3 j.length 1 om om,aa]
     have oz:j.length-1<(cD j).length:=by rw[cD,List.length_map];omega
     refine (congrArg (fun P:Prop=>P) (own.read.rd oz _)).mpr ?_
     have hg:(cD j)[j.length-1]=st E.sh:=by
      have:j[j.length-1]?=some E.sh:=by rw[show j.length-1=0+E.ks.sz by omega];exact h4
      obtain⟨o,q2⟩:=List.getElem?_eq_some_iff.1 this
      simp[cD,q2]
     rw[hg]
     exact⟨rfl,f1.trans F'⟩
theorem Ae8 (n:Nd):X.binOp EE .neq 53 (Aq n) (Aq n)=some (.bool false):=by
 refine (Ae9 n.kind n.op n.a n.b n.num.neg n.num.num n.num.den n.text n.uc n.ref.aU n.ref.gX n.ref.row n.ref.fc n.ref.fr n.to.aU n.to.gX n.to.row n.to.fc n.to.fr n.kind n.op n.a n.b n.num.neg n.num.num n.num.den n.text n.uc n.ref.aU n.ref.gX n.ref.row n.ref.fc n.ref.fr n.to.aU n.to.gX n.to.row n.to.fc n.to.fr).trans ?_
 simp
theorem Aay {h:H} {nv av U C:Value} {N:List Nd} {A:List Int} (rN:aZ Gn h nv N) (rA:aZ wc h av A) (rM:aZ Gn h U N) (rB:aZ wc h C A) (hN:N.length<=1000) (hA:A.length<=100000) :
 ai PP xn [.agg ⟨[nv,av]⟩,.agg ⟨[U,C]⟩] h (.v (.bool true) h):=by
 refine aj.pure (JB ?_) (by simp[flat])
 unfold HX aq
 refine fz fun R f1 q1 n1=>fz fun p f3 q3 n3=>?_
 have F3:=f1.trans f3
 have p3:=f3.aQ q1 om
 have a0:aw p (.pointer (some ⟨h.next,0+0,none⟩))=some nv:=by rw[aA p3];rfl
 have a1:aw p (.pointer (some ⟨h.next,0+1,none⟩))=some av:=by rw[aA p3];rfl
 have b0:aw p (.pointer (some ⟨R.next,0+0,none⟩))=some U:=by rw[aA q3];rfl
 have b1:aw p (.pointer (some ⟨R.next,0+1,none⟩))=some C:=by rw[aA q3];rfl
 have I:=rN.fr F3
 have J:=rA.fr F3
 have rM3:=rM.fr F3
 have rB3:=rB.fr F3
 have L2:∀ d i,i+d=A.length->aL (fun I59 s h0=>iP (fun v h'=>v=.bool true/\Fr h h') I59 (aI s 0) (aI s 1) (aI s 2) h0) [pT h.next,pT R.next,vI i] p:=by
  intro d
  induction d with
  | zero =>
   intro i hi
   refine aL.unfold ?_
   show iP _ _ (pT h.next) (pT R.next) (vI i) p
   unfold iP aq
   rw[aM,aF a1,J.len MX,bI,aa,ae,if_neg so]
   exact⟨rfl,F3⟩
  | succ d ih =>
   intro i hi
   have j:i<A.length:=om
   refine aL.unfold ?_
   show iP _ _ (pT h.next) (pT R.next) (vI i) p
   unfold iP aq
   rw[aM,aF a1,J.len MX,bI,aa,ae,if_pos (sp j),aM,aF a1]
   obtain⟨x,o,e1,e2⟩:=J.ZZ j 0 dc
   obtain⟨y,o',e3,e4⟩:=rB3.ZZ j 0 dc
   have BA:AB 1 av (vI i)=some (.pointer (some ⟨x,o,none⟩)):=e1
   have e3':AB 1 C (vI i)=some (.pointer (some ⟨y,o',none⟩)):=e3
   have Jl:aw p (.pointer (some ⟨x,o,none⟩))=some (.int .i64 A[i]):=e2
   have e4':aw p (.pointer (some ⟨y,o',none⟩))=some (.int .i64 A[i]):=e4
   rw[BA,aa,aF Jl,aM,aF b1,e3',aa,aF e4',Go.X.sJ,aa,ae,if_neg sm,show (.int .i64 1:Value)=vI 1 from rfl,dm EE 3 i 1 om,aa]
   exact ih (i+1) om
 have L1:∀ d i,i+d=N.length->aL (fun I32 s h0=>iQ (fun v h'=>v=.bool true/\Fr h h') I32 (aI s 0) (aI s 1) (aI s 2) h0) [pT h.next,pT R.next,vI i] p:=by
  intro d
  induction d with
  | zero =>
   intro i hi
   refine aL.unfold ?_
   show iQ _ _ (pT h.next) (pT R.next) (vI i) p
   unfold iQ aq
   rw[aM,aF a0,I.len WV,bI,aa,ae,if_neg so]
   exact L2 A.length 0 om
  | succ d ih =>
   intro i hi
   have j:i<N.length:=om
   refine aL.unfold ?_
   show iQ _ _ (pT h.next) (pT R.next) (vI i) p
   unfold iQ aq
   rw[aM,aF a0,I.len WV,bI,aa,ae,if_pos (sp j),aM,aF a0]
   refine (congrArg (fun P:Prop=>P) (I.rd j _)).mpr ?_
   rw[aM,aF b0]
   refine (congrArg (fun P:Prop=>P) (rM3.rd j _)).mpr ?_
   have e:X.binOp EE .neq 53 (Gn.val N[i]) (Gn.val N[i])=some (.bool false):=Ae8 N[i]
   rw[e,aa,ae,if_neg sm,show (.int .i64 1:Value)=vI 1 from rfl,dm EE 3 i 1 om,aa]
   exact ih (i+1) om
 rw[aM,aF a0,I.len WV,aM,aF b0,rM3.len WV,cX,aa,ag,if_pos sm,aM,aF a1,J.len MX,aM,aF b1,rB3.len MX,cX,aa]
 unfold vl aq
 rw[ae,if_neg sm]
 exact L1 N.length 0 om
theorem Gm (o:∀ h,ai PP gT [] h (.v (.bool true) h)) (s:List UInt8) (h:H) :
 ai PP cv [st s] h (.v (.bool true) h):=by
 refine aj.pure (Au ?_) (by simp[flat])
 unfold vV aq
 refine (E0 s h).mono ?_
 rintro w h1 ⟨f1,o1⟩
 cases J:VH s with
 | err e =>
  rw[J] at o1
  obtain⟨he,at',rfl⟩:=o1
  simp only[au,ao,ay,aa]
  refine bP fun h6 f6 q6 n6=>?_
  refine lV q6 rfl rfl rfl fun p f7 q7 n7=>?_
  have F7:Fr h p:=f7.fr (f1.trans f6) f1.next
  rw[show (.int .i64 0:Value)=vI 0 from rfl,cX,aa,ae,if_pos (sp he)]
  exact ar (o p) ⟨rfl,F7⟩
 | ok E =>
  rw[J] at o1
  obtain⟨nv,av,rfl,oN,oA⟩:=o1
  obtain⟨sm,R⟩:=AcJ J
  have rt:=Kw J
  have haz:=E.EY
  have hN:(E.lN 0 0).length=E.sz:=E.cf 0 0
  have hAl:((E.ars 0).map Int.ofNat).length=E.az:=by rw[List.length_map,E.dR]
  simp only[au,ao,ay,aa]
  refine bP fun h6 f6 q6 n6=>?_
  refine lV q6 rfl rfl (LX oN.cell.2 oA.cell.2) fun p f7 q7 n7=>?_
  have f17:Fr h1 p:=f7.fr f6 nlr
  have F7:Fr h p:=f1.trans f17
  rw[show (.int .i64 0:Value)=vI 0 from rfl,cX,aa,ae,if_neg (by simp),cO (n:=2) q7 rfl,aa]
  refine ar (nu (oN.read.fr f17) (oA.read.fr f17) sm R om) ?_
  unfold pfW
  rw[if_neg (by rw[rt];simp)]
  by_cases hl:300<E.sh.length
  . rw[if_pos hl]
    simp only[au,ao,ay,aa]
    rw[cX,aa,ae,if_pos (by simp),show (.int .i64 9:Value)=vI 9 from rfl,cn,aa,ag,if_pos (by simp)]
    refine ar (o p) ?_
    unfold kD aq
    exact⟨rfl,F7⟩
  . rw[if_neg hl]
    simp only[au,ao,ay,aa]
    rw[cX,aa,ae,if_neg (by simp)]
    refine (E0 E.sh p).mono ?_
    rintro w Qu ⟨f31,U⟩
    rw[X6 J om] at U
    obtain⟨nv2,av2,rfl,C,I⟩:=U
    simp only[au,ao,ay,aa]
    refine bP fun h36 f36 q36 n36=>?_
    refine lV q36 rfl rfl (LX C.cell.2 I.cell.2) fun j f37 q37 n37=>?_
    have f3:Fr Qu j:=f37.fr f36 nlr
    have F37:Fr h j:=(F7.trans f31).trans f3
    rw[cO (n:=2) q37 rfl,aa]
    refine ar (nu (C.read.fr f3) (I.read.fr f3) sm R om) ?_
    unfold pfW
    rw[if_neg (by rw[rt];simp),if_neg hl]
    have nx:=f1.next
    have q7':j.row h1.next=some ⟨[nv,av],_,0,0,false⟩:=(f31.trans f3).aQ q7 om
    simp only[au,ao,ay,aa]
    rw[cO (n:=2) q7' rfl,aa,cO (n:=2) q37 rfl,aa]
    refine ar (Aay ((oN.read.fr f17).fr (f31.trans f3)) ((oA.read.fr f17).fr (f31.trans f3)) (C.read.fr f3) (I.read.fr f3) om om) ?_
    rw[ag,if_pos rfl,cn,aa,ag,if_pos (by simp),Go.X.bf,aa,ag,if_pos (by simp),aa,ag,if_pos (by simp)]
    refine ar (o j) ?_
    unfold dA aq
    exact⟨rfl,F37⟩
end Go.Proofs.YtikojelnedfmpaaGreatDoor
