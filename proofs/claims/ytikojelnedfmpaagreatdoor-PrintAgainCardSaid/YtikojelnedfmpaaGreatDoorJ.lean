/- PrintAgain: of any text that is read as a formula, the text that is told of it is read as the same formula and told as it was. No conditions of its own. -/
import Derived.Test.YtikojelnedfmpaaGreatDoorI
set_option linter.unusedSimpArgs false
set_option linter.unusedVariables false
namespace Go.Proofs.YtikojelnedfmpaaGreatDoor
open Go Go.X
set_option maxRecDepth 100000
theorem WN:∀ (r:List UInt8),ni r=if r.contains 34=false then none else match iq 34 r with | []=>some (gD 34 r,(gD 34 r).length+1) | d :: b=>if d=34 then (ni b).map (fun p=>(gD 34 r++34 :: p.1,(gD 34 r).length+2+p.2)) else some (gD 34 r,(gD 34 r).length+1):=by
 intro r
 induction r with
 | nil=>rfl
 | cons c r I =>
  conv=>lhs;unfold ni
  by_cases hc:c=34
  . subst hc
    rw[if_pos rfl,if_neg sm]
    have o:gD 34 (34 :: r)=[]:=by unfold gD;simp
    have C:iq 34 (34 :: r)=r:=by unfold iq;simp
    rw[o,C]
    cases r with
    | nil=>rfl
    | cons d b =>
     simp only
     by_cases hd:d=34
     . rw[if_pos hd,if_pos hd]
       cases ni b with
       | none=>rfl
       | some p=>simp;omega
     . rw[if_neg hd,if_neg hd];rfl
  . rw[if_neg hc,I]
    have o:gD 34 (c :: r)=c :: gD 34 r:=by unfold gD;simp[List.takeWhile_cons,hc]
    have C:iq 34 (c :: r)=iq 34 r:=by unfold iq;simp[List.dropWhile_cons,hc]
    have J:(c :: r).contains 34=r.contains 34:=by
     have:(34 == c)=false:=by simp;exact fun e=>hc e.symm
     rw[List.contains_cons,this,Bool.false_or]
    rw[o,C,J]
    by_cases j:r.contains 34=false
    . rw[if_pos j,if_pos j];rfl
    . rw[if_neg j,if_neg j]
      cases iq 34 r with
      | nil=>rfl
      | cons d b =>
       simp only
       by_cases hd:d=34
       . rw[if_pos hd,if_pos hd]
         cases ni b with
         | none=>rfl
         | some p=>simp;omega
       . rw[if_neg hd,if_neg hd];rfl
def CE (s:List UInt8) (at':Nat):Tk × Nat × Nat :=
 match ni (s.drop (at'+1)) with
 | none=>(jW,0,10)
 | some (o,n)=>if jV o=true then (⟨2,o,at',r0⟩,n+1,0) else (jW,0,10)
def N7 (at':Nat) (o:List UInt8) (n:Nat) (r:List UInt8):Tk × Nat × Nat :=
 match ni r with
 | none=>(jW,0,10)
 | some (j,p)=>if jV (o++j)=true then (⟨2,o++j,at',r0⟩,n+p,0) else (jW,0,10)
theorem Um (s:List UInt8) (at':Nat):N7 at' [] 1 (s.drop (at'+1))=CE s at':=by
 unfold N7 CE
 cases ni (s.drop (at'+1)) with
 | none=>rfl
 | some p=>simp only[List.nil_append,Nat.add_comm 1]
theorem Qo (l:List UInt8):(yI l).kind=if jV l=true then 2 else 4:=by unfold yI GS;split <;> rfl
theorem LM (s:List UInt8) (hb:s.length<=300) (at':Nat) (TD:at'<s.length) (h:H) :
 CP Bw [st s,vI at'] h fun w h'=>Fr h h'/\yW (CE s at').2.2 (CE s at').1 (CE s at').2.1 w:=by
 have qS:bl=1000000000:=rfl
 refine .call (N_ ?_)
 rw[<-Um]
 generalize hF:N7 at' [] 1 (s.drop (at'+1))=F
 unfold N' aq
 refine bP fun C f1 q1 n1=>bP fun h2 f2 q2 n2=>?_
 have hw:X.binOp EE .add 3 (vI at') (.int .i64 1)=some (vI (at'+1)):=dm EE 3 at' 1 om
 rw[hw,aa,CB TD,aa]
 have hl0:(s.drop (at'+1)).length<=300:=so
 have ZS:∀ {U:H},Fr C U->U.row h.next=some ⟨[.int .i64 0,.string (bs []),.int .i64 0,.bool false,.string (bs []),.string (bs [])],44,0,0,false⟩:=fun f=>f.aQ q1 om
 have b0:qX C h2 C.next []:=⟨Nat.le_refl _,om,_,_,q2,.inl rfl,.nil,fun _ _ _ _ q=>by cases q⟩
 -- one round
 have step:∀ (I:List Value->H->Prop) (r o:List UInt8) (n:Nat) (U:H),Fr C U->qX C U C.next o->r.length<=300->o.length+r.length<=300->n+r.length<=1000->N7 at' o n r=F ->
  (∀ (r' o':List UInt8) (n':Nat) (h':H),Fr C h'->qX C h' C.next o'->r'.length<r.length->o'.length+r'.length<=300->n'+r'.length<=1000->N7 at' o' n' r'=F->I [vI at',pT h.next,pT C.next,st r',vI n'] h') ->
  qx (fun w h'=>Fr h h'/\yW F.2.2 F.1 F.2.1 w) I (vI at') (pT h.next) (pT C.next) (st r) (vI n) U:=by
  intro I r o n U f3 B3 hr hor hnr hG hI
  unfold qx aq
  have TA:=Ly 34 r
  have j:=hG
  unfold N7 at j
  rw[WN] at j
  refine ar (Lu r 34 om U) ?_
  simp only[au,ao,ay,aa,aY]
  rw[ae]
  have J:F=(jW,0,10)->∀ {h4:H},Fr C h4->af (bC EE 44 []) fun v11=>af (wa 6 h4 (pT h.next) v11) fun h12 =>
   af ((addrOf (pT h.next)).bind fun a0=>(X.loadVar EE h12 44 a0).bind fun w0=>(((some []).map ((.int .i64 10) :: ·)).map ((.int .i64 0) :: ·)).map (w0 :: ·)) fun vs=>(fun w h'=>Fr h h'/\yW F.2.2 F.1 F.2.1 w) (cN vs) h12:=by
   rintro rfl h4 f4
   rw[ZT,aa]
   exact LH (f1.trans f4) nlr (ZS f4) rfl jW (m:=0) (er:=10) (x:=jW) rfl fun q=>absurd q sm
  by_cases hc:r.contains 34=false
  . rw[if_pos (by rw[hc];rfl)]
    rw[if_pos hc] at j
    exact J j.symm f3
  . have Un:r.contains 34=true:=sp hc
    rw[if_neg (by rw[Un];decide)]
    rw[if_neg hc] at j
    have hBl:(iq 34 r).length<r.length:=by
     have im:r≠[]:=by rintro rfl;simp at Un
     have:0<r.length:=List.length_pos_iff.2 im
     unfold iq
     rw[List.length_drop]
     have h5:(r.dropWhile (· != 34)).length<=r.length:=by
      have:=congrArg List.length (List.takeWhile_append_dropWhile (p:=(· != 34)) (l:=r))
      rw[List.length_append] at this;omega
     omega
    have Acg:(gD 34 r).length+(iq 34 r).length+1<=r.length:=by
     have im:r.dropWhile (· != 34)≠[]:=by
      intro q
      have hm:=List.contains_iff_mem.1 Un
      have e:=List.takeWhile_append_dropWhile (p:=(· != 34)) (l:=r)
      rw[q,List.append_nil] at e
      have:=List.all_takeWhile (p:=(· != 34)) (l:=r)
      rw[e,List.all_eq_true] at this
      have:=this 34 hm
      simp at this
     have:=congrArg List.length (List.takeWhile_append_dropWhile (p:=(· != 34)) (l:=r))
     rw[List.length_append] at this
     have:=List.length_pos_iff.2 im
     unfold gD iq
     rw[List.length_drop];omega
    generalize gD 34 r=a at *
    generalize iq 34 r=b at *
    refine (cR f3 B3 a om om).mono ?_
    rintro w h4 ⟨f4,g4,B4⟩
    have WK:X.binOp EE .add 3 (vI a.length) (.int .i64 1)=some (vI (a.length+1)):=dm EE 3 a.length 1 om
    have Qm:X.binOp EE .add 3 (vI n) (vI (a.length+1))=some (vI (n+(a.length+1))):=dm EE 3 n (a.length+1) om
    rw[eY,WK,aa,Qm,aa]
    refine ar (lU b [34] om h4) ?_
    rw[ae]
    have fin:(match ni r with | none=>(jW,0,10) | some (o',n')=>if jV (o++o')=true then ((⟨2,o++o',at',r0⟩:Tk),n+n',0) else (jW,0,10))=F->(if jV (o++a)=true then ((⟨2,o++a,at',r0⟩:Tk),n+(a.length+1),0) else (jW,0,10))=F->CP aW [pT C.next] h4 fun v29 h30 =>
     CP ju [v29] h30 fun v31 h32 =>
     af (Oa 0 v31) fun v33 =>
     af (X.binOp EE .neq 3 v33 (.int .i64 2)) fun v34 =>
     aG v34
     (af (bC EE 44 []) fun v35 =>
     af (wa 6 h32 (pT h.next) v35) fun h36 =>
     af ((addrOf (pT h.next)).bind fun a0=>(X.loadVar EE h36 44 a0).bind fun w0=>(((some []).map ((.int .i64 10) :: ·)).map ((.int .i64 0) :: ·)).map (w0 :: ·)) fun vs=>(fun w h'=>Fr h h'/\yW F.2.2 F.1 F.2.1 w) (cN vs) h36)
     (CP aW [pT C.next] h32 fun v38 h39 =>
     af (bC EE 42 []) fun v40 =>
     af (bC EE 44 [(0,(.int .i64 2)),(1,v38),(2,vI at'),(3,v40)]) fun v41 =>
     af (wa 6 h39 (pT h.next) v41) fun h42 =>
     af ((addrOf (pT h.next)).bind fun a0=>(X.loadVar EE h42 44 a0).bind fun w0=>(((some []).map ((.int .i64 0) :: ·)).map (vI (n+(a.length+1)) :: ·)).map (w0 :: ·)) fun vs=>(fun w h'=>Fr h h'/\yW F.2.2 F.1 F.2.1 w) (cN vs) h42):=by
     intro _ hF'
     refine (kj f4 B4 so).mono ?_
     rintro w5 h5 ⟨rfl,f5,_,B5⟩
     refine ar (sT _ so h5) ?_
     have ek:Oa 0 (vv (yI (o++a)))=some (.int .i64 (yI (o++a)).kind):=rfl
     rw[ek,aa,Qo,Go.X.sJ,aa,ae]
     by_cases hp:jV (o++a)=true
     . rw[if_pos hp] at hF' ⊢
       rw[if_neg sm]
       refine (kj f5 B5 so).mono ?_
       rintro w6 h6 ⟨rfl,f6,_,B6⟩
       rw[yP,aa]
       have e:=bTk 2 at' (o++a) r0
       rw[e,aa,<-hF']
       exact LH (f1.trans f6) nlr (ZS f6) rfl ⟨2,o++a,at',r0⟩ (x:=jW) rfl fun _=>⟨rfl,rfl⟩
     . rw[if_neg hp] at hF' ⊢
       rw[if_pos sm]
       exact J hF'.symm f5
    cases b with
    | nil =>
     rw[if_neg (by rw[Uk];decide)]
     simp only at j
     exact fin hG j
    | cons d b' =>
     simp only at j
     by_cases hd:d=34
     . rw[if_pos (by rw[Abm,hd];rfl)]
       rw[if_pos hd] at j
       have hW:=Ja f4 B4 34 so
       refine hW.mono ?_
       rintro w5 h5 ⟨f5,g5,B5⟩
       have e1:=CB (h:=h5) (l:=d :: b') (i:=1) sm
       rw[show ((1:Nat):Int)=1 from rfl] at e1
       have ZU:X.binOp EE .add 3 (vI (n+(a.length+1))) (.int .i64 1)=some (vI (n+(a.length+1)+1)):=dm EE 3 _ 1 om
       rw[e1,aa,ZU,aa]
       simp only[List.length_cons] at hBl Acg
       refine hI b' (o++a++[34]) _ h5 f5 B5 om so om ?_
       rw[<-j]
       unfold N7
       cases ni b' with
       | none=>rfl
       | some p=>simp[List.append_assoc];rw[show n+(a.length+1)+1+p.2=n+(a.length+2+p.2) by omega]
     . rw[if_neg (by rw[Abm];simp[hd])]
       rw[if_neg hd] at j
       exact fin hG j
 refine step (aL (fun I2 s' h=>qx (fun w h'=>Fr _ h'/\yW F.2.2 F.1 F.2.1 w) I2 (aI s' 0) (aI s' 1) (aI s' 2) (aI s' 3) (aI s' 4) h)) (s.drop (at'+1)) [] 1 h2 f2 b0 hl0 (by rw[List.length_nil];omega) om hF ?_
 intro r' o' n' h' g1 g2 g3 g4 g5 g6
 refine aL.ind (fun VC R=>∃ (r o:List UInt8) (n:Nat),VC=[vI at',pT h.next,pT C.next,st r,vI n]/\Fr C R/\qX C R C.next o/\o.length+r.length<=300/\n+r.length<=1000/\N7 at' o n r=F) (fun VC _=>match aI VC 3 with | .string b=>b.data.toList.length | _=>0) ?_ ⟨r',o',n',rfl,g1,g2,g4,g5,g6⟩
 rintro VC R ⟨r,o,n,rfl,k1,k2,k3,k4,k5⟩
 show qx _ _ (vI at') (pT h.next) (pT C.next) (st r) (vI n) R
 refine step _ r o n R k1 k2 om k3 k4 k5 ?_
 intro r2 o2 n2 U l1 l2 l3 l4 l5 l6
 exact⟨⟨r2,o2,n2,rfl,l1,l2,l4,l5,l6⟩,l3⟩
theorem R' (s:List UInt8):(cY s).2<=s.length:=by
 cases s with
 | nil=>simp[cY]
 | cons c r =>
  unfold cY
  simp only
  repeat' split
  all_goals first | (simp;done) | skip
  all_goals
   rename_i h
   have:r≠[]:=by rintro rfl;simp at h
   have:=List.length_pos_iff.2 this
   simp;omega
theorem Sa:∀ (n:Nat) (r:List UInt8),r.length<=n->∀ p,ni r=some p->p.2<=r.length:=by
 intro n
 induction n with
 | zero =>
  intro r hr p h
  have:r=[]:=List.eq_nil_of_length_eq_zero om
  subst this
  cases h
 | succ n o =>
  intro r hr p h
  cases r with
  | nil=>cases h
  | cons c r =>
   unfold ni at h
   by_cases hc:c=34
   . rw[if_pos hc] at h
     cases r with
     | nil=>cases h;simp
     | cons d r =>
      simp only at h
      by_cases hd:d=34
      . rw[if_pos hd] at h
        cases j:ni r with
        | none=>rw[j] at h;cases h
        | some q =>
         rw[j] at h
         cases h
         have:=o r (by simp at hr;omega) q j
         simp;omega
      . rw[if_neg hd] at h
        cases h;simp
   . rw[if_neg hc] at h
     cases j:ni r with
     | none=>rw[j] at h;cases h
     | some q =>
      rw[j] at h
      cases h
      have:=o r (by simp at hr;omega) q j
      simp;omega
theorem ZV (s:List UInt8) (at':Nat) (hb:s.length<=300):(CE s at').2.1<=1000:=by
 unfold CE
 cases h:ni (s.drop (at'+1)) with
 | none=>simp
 | some p =>
  have h2:=Sa _ _ nlr p h
  rw[List.length_drop] at h2
  obtain⟨o,n⟩:=p
  simp only at h2 ⊢
  split <;> simp <;> omega
theorem ZW (s:List UInt8) (at':Nat) (hb:s.length<=300):(Ap s at').2.1<=1000:=by
 unfold Ap
 have j:(tL (s.drop at')).length<=10:=WL (s.drop at') 7
 generalize tL (s.drop at')=o at *
 split <;> simp;omega
def Sb (s:List UInt8) (at':Nat):Nat:=at'+fe (fun c=>decide (c=32)) (s.drop at')
theorem WO (s:List UInt8) (at':Nat) (h:at'<=s.length):Sb s at'<=s.length:=by
 unfold Sb
 have:=EP (p:=fun c=>decide (c=32)) (s.drop at')
 rw[List.length_drop] at this
 unfold fe;omega
theorem Sc (s:List UInt8) (at':Nat):nj s at'=if Sb s at'=s.length then (⟨0,[],Sb s at',r0⟩,Sb s at',0) else ((nk s (Sb s at')).1,Sb s at'+(nk s (Sb s at')).2.1,(nk s (Sb s at')).2.2):=rfl
theorem LN (s:List UInt8) (hb:s.length<=300) (at':Nat) (TD:at'<=s.length) (h:H) :
 CP Bx [st s,vI at'] h fun w h'=>Fr h h'/\yW (nj s at').2.2 (nj s at').1 (nj s at').2.1 w:=by
 have qS:bl=1000000000:=rfl
 refine .call (Ob ?_)
 rw[Sc]
 have T_:=WO s at' TD
 have J:Sb s at'=at'+fe (fun c=>decide (c=32)) (s.drop at'):=rfl
 unfold Oc aq
 refine bP fun h1 f1 q1 n1=>bP fun h2 f2 q2 n2=>?_
 have F2:=f1.trans f2
 have I:=f2.aQ q1 om
 rw[Go.X.binOp_lss,aa,ag,if_pos sm,eY,Go.X.binOp_gtr,aa,decide_eq_false om]
 unfold yY aq
 rw[ae,if_neg sm]
 refine ar (ul Jh s om at' om h2) ?_
 generalize fe (fun c=>decide (c=32)) (s.drop at')=m at *
 have hw:X.binOp EE .add 3 (vI at') (vI m)=some (vI (at'+m)):=dm EE 3 at' m om
 rw[hw,aa,<-J,eY,cn,aa,ae]
 clear hw J
 generalize Sb s at'=a at *
 by_cases he:a=s.length
 . rw[if_pos (sp he),if_pos he,Agy,aa]
   exact LH F2 nlr I rfl ⟨0,[],a,r0⟩ (m:=a) (er:=0) (x:=jW) rfl fun _=>⟨rfl,rfl⟩
 . have R:a<s.length:=om
   rw[if_neg (sp he),if_neg he,wix R,aa]
   have hd:s.drop a=s[a] :: s.drop (a+1):=List.drop_eq_getElem_cons R
   -- DB end
   have U:∀ (e n:Nat) (t:Tk) (o:H),Fr h o->o.row h.next=some ⟨[.int .i64 0,.string (bs []),.int .i64 0,.bool false,.string (bs []),.string (bs [])],44,0,0,false⟩->o.row h1.next=some ⟨t.c,44,0,0,false⟩->(e=0->n<=1000) ->
    ∀ p:Tk × Nat × Nat,p.2.2=e->(e=0->t=p.1/\n=p.2.1)->gE (fun w h'=>Fr h h'/\yW (p.1,a+p.2.1,p.2.2).2.2 (p.1,a+p.2.1,p.2.2).1 (p.1,a+p.2.1,p.2.2).2.1 w) (vI a) (pT h.next) (pT h1.next) (vI n) (vI e) o:=by
    rintro e n t o F3 r1 r2 hn ⟨T,N,E⟩ hE hT
    simp only at hE hT ⊢
    subst hE
    unfold gE aq
    rw[show (.int .i64 0:Value)=vI 0 from rfl,cX,aa,ae]
    by_cases h0:E=0
    . rw[if_neg (by simp[h0]),cO (n:=6) r2 rfl,aa]
      have:=hn h0
      have hw:X.binOp EE .add 3 (vI a) (vI n)=some (vI (a+n)):=dm EE 3 a n om
      rw[hw,aa]
      obtain⟨rfl,rfl⟩:=hT h0
      subst h0
      exact LH F3 nlr r1 rfl t (m:=a+n) (er:=0) (x:=jW) rfl fun _=>⟨rfl,rfl⟩
    . rw[if_pos (sp h0),ZT,aa]
      exact LH F3 nlr r1 rfl jW (m:=a) (er:=E) (x:=jW) rfl fun q=>absurd q h0
   -- a token Uo a Aes told
   have T31:∀ (p:Tk × Nat × Nat) (o:H) (w:Value),Fr h2 o->yW p.2.2 p.1 p.2.1 w->(p.2.2=0->p.2.1<=1000) ->
    af (dl w 0) fun v36=>af (dl w 1) fun v37=>af (dl w 2) fun v38=>af (wa 6 o (pT h1.next) v36) fun h39 =>
     gE (fun w h'=>Fr h h'/\yW (p.1,a+p.2.1,p.2.2).2.2 (p.1,a+p.2.1,p.2.2).1 (p.1,a+p.2.1,p.2.2).2.1 w) (vI a) (pT h.next) (pT h1.next) v37 v38 h39:=by
    rintro p o w f3 ⟨t',n',rfl,ht⟩ hp
    simp only[au,ao,ay,aa]
    refine lV (f3.aQ q2 om) rfl rfl rfl fun h4 f4 r4 n4=>?_
    refine U p.2.2 n' t' h4 (f4.fr (F2.trans f3) om) (f4.aQ (f3.aQ I om) om (by have:=f3.next;omega)) r4 (fun q=>?_) p rfl ht
    rw[(ht q).2];exact hp q
   have j:nk s a=if aR s[a]=true then (let p:=qv ((s.drop a).take (j9 (s.drop a)));if p.2≠0 then (jW,0,p.2) else (⟨1,(s.drop a).take (j9 (s.drop a)),a,p.1⟩,j9 (s.drop a),0))
    else if s[a]=34 then CE s a else if s[a]=35 then Ap s a
    else if fb s[a]=true then (⟨3,(s.drop a).take (fe fb (s.drop a)),a,r0⟩,fe fb (s.drop a),0)
    else if (cY (s.drop a)).2=0 then (jW,0,10) else (⟨(cY (s.drop a)).1,(s.drop a).take (cY (s.drop a)).2,a,r0⟩,(cY (s.drop a)).2,0):=by
    unfold nk
    simp only
    rw[hd]
    simp only
    rw[<-hd]
    rfl
   refine ar (pF _ h2) ?_
   rw[ae]
   by_cases c1:aR s[a]=true
   . rw[if_pos c1]
     rw[if_pos c1] at j
     refine (Ho s hb a om h2).mono ?_
     rintro w o ⟨f3,hw⟩
     have hle:=LI (s.drop a)
     rw[List.length_drop] at hle
     have Qm:yW (nk s a).2.2 (nk s a).1 (nk s a).2.1 w:=by
      rw[j]
      generalize qv ((s.drop a).take (j9 (s.drop a)))=p at *
      simp only
      by_cases z:p.2=0
      . rw[if_neg (by simp[z])];rw[z] at hw;exact hw
      . rw[if_pos z]
        obtain⟨t',n',e1,_⟩:=hw
        exact⟨t',n',e1,fun q=>absurd q z⟩
     refine T31 (nk s a) o w f3 Qm ?_
     rw[j]
     simp only
     split <;> simp <;> omega
   rw[if_neg c1]
   rw[if_neg c1] at j
   have E34:X.binOp EE .eql 5 (.int .u8 (s[a].toNat:Int)) (.int .u8 34)=some (.bool (decide (s[a]=34))):=by
    rw[Go.X.ak];exact congrArg (fun x=>some (Value.bool x)) (decide_eq_decide.2 (Qk _ 34 34 rfl))
   have E35:X.binOp EE .eql 5 (.int .u8 (s[a].toNat:Int)) (.int .u8 35)=some (.bool (decide (s[a]=35))):=by
    rw[Go.X.ak];exact congrArg (fun x=>some (Value.bool x)) (decide_eq_decide.2 (Qk _ 35 35 rfl))
   rw[E34,aa,ae]
   by_cases c2:s[a]=34
   . rw[if_pos (sp c2)]
     rw[if_pos c2] at j
     refine (LM s hb a R h2).mono ?_
     rintro w o ⟨f3,hw⟩
     rw[<-j] at hw
     exact T31 (nk s a) o w f3 hw fun _=>by rw[j];exact ZV s a hb
   rw[if_neg (sp c2),E35,aa,ae]
   rw[if_neg c2] at j
   by_cases c3:s[a]=35
   . rw[if_pos (sp c3)]
     rw[if_pos c3] at j
     refine (Jk s hb a om h2).mono ?_
     rintro w o ⟨f3,hw⟩
     rw[<-j] at hw
     exact T31 (nk s a) o w f3 hw fun _=>by rw[j];exact ZW s a hb
   rw[if_neg (sp c3)]
   rw[if_neg c3] at j
   refine ar (yV _ h2) ?_
   rw[ae]
   by_cases c4:fb s[a]=true
   . rw[if_pos c4]
     rw[if_pos c4] at j
     refine ar (ul yV s om a om h2) ?_
     have hle:fe fb (s.drop a)<=(s.drop a).length:=EP _
     rw[List.length_drop] at hle
     generalize fe fb (s.drop a)=m at *
     have hw:X.binOp EE .add 3 (vI a) (vI m)=some (vI (a+m)):=dm EE 3 a m om
     have C:(s.take (a+m)).drop a=(s.drop a).take m:=by rw[List.drop_take];congr 1;omega
     rw[hw,aa,Qn om om,aa,C,yP,aa]
     have e:=bTk 3 a ((s.drop a).take m) r0
     rw[e,aa]
     refine lV q2 rfl rfl rfl fun h4 f4 r4 n4=>?_
     refine U 0 m ⟨3,(s.drop a).take m,a,r0⟩ h4 (f4.fr F2 om) (f4.aQ I om om) r4 (fun _=>by omega) (nk s a) (by rw[j]) fun _=>by rw[j];exact⟨rfl,rfl⟩
   rw[if_neg c4,CB om,aa]
   rw[if_neg c4] at j
   have Agz:=R' (s.drop a)
   have hsg:=LK s[a] (s.drop (a+1)) (by rw[<-hd,List.length_drop];omega) h2
   rw[<-hd] at hsg
   rw[List.length_drop] at Agz
   refine ar hsg ?_
   generalize cY (s.drop a)=g at *
   simp only[au,ao,ay,aa,aE,Nat.zero_add]
   refine qY q2 rfl rfl sm fun h4 f4 r4 n4=>?_
   have F4:=f4.fr F2 om
   have q4:=f4.aQ I om om
   rw[show (.int .i64 0:Value)=vI 0 from rfl,cn,aa,ae]
   by_cases c5:g.2=0
   . rw[if_pos (sp c5),show (.int .i64 10:Value)=vI 10 from rfl,cX,aa,ae,if_pos dc,ZT,aa]
     rw[if_pos c5] at j
     rw[j]
     exact LH F4 nlr q4 rfl jW (m:=a) (er:=10) (x:=jW) rfl fun q=>absurd q sm
   . rw[if_neg (sp c5)]
     rw[if_neg c5] at j
     have hw:X.binOp EE .add 3 (vI a) (vI g.2)=some (vI (a+g.2)):=dm EE 3 a g.2 om
     have C:(s.take (a+g.2)).drop a=(s.drop a).take g.2:=by rw[List.drop_take];congr 1;omega
     rw[hw,aa,Qn om om,aa,C]
     refine qY r4 rfl rfl sm fun h5 f5 r5 n5=>?_
     refine qY r5 rfl rfl sm fun h6 f6 r6 n6=>?_
     have f46:=f5.trans f6
     refine U 0 g.2 ⟨g.1,(s.drop a).take g.2,a,r0⟩ h6 (f46.fr F4 om) (f46.aQ q4 om om) r6 (fun _=>by omega) (nk s a) (by rw[j]) fun _=>by rw[j];exact⟨rfl,rfl⟩
theorem ZX {e:TypeId} {n k:Nat} (j:(EE.dO e).map (·.bytes)=some n) (h2:EE.size e=some k) (hn:n<=1000):∃ i,EE.dO e=some i/\i.bytes<=1000/\i.size=k:=by
 cases hi:EE.dO e with
 | none=>rw[hi] at j;cases j
 | some i =>
  rw[hi] at j
  have o:EE.size e=some i.size:=by unfold Env.size;rw[show EE.types.get e=some i from hi];rfl
  rw[o] at h2
  exact⟨i,rfl,by have:i.bytes=n:=Option.some.inj j;omega,Option.some.inj h2⟩
def Up:Kd Tk:=⟨Tk.c,6,jW,dc,fun _=>rfl,fun _=>rfl⟩
theorem STk:PM EE 34 44 Up:=⟨Aet,Ul,Aeu,ZX AgA Ul dc⟩
theorem Abo (t:Tk) (h:H):dM EE h 34 1 [(0,Jf t)]=some (X.newRow h 44 t.c 0):=Acw STk t h rfl dc
theorem WQ {p:UInt8->Bool} {c:UInt8} {l:List UInt8} (h:p c=true):0<fe p (c :: l):=by unfold fe;rw[List.takeWhile_cons,if_pos h];simp
theorem ZY (s:List UInt8) (a:Nat) (ha:a<s.length):nk s a=if aR s[a]=true then (if (qv ((s.drop a).take (j9 (s.drop a)))).2≠0 then (jW,0,(qv ((s.drop a).take (j9 (s.drop a)))).2) else (⟨1,(s.drop a).take (j9 (s.drop a)),a,(qv ((s.drop a).take (j9 (s.drop a)))).1⟩,j9 (s.drop a),0))
 else if s[a]=34 then CE s a else if s[a]=35 then Ap s a
 else if fb s[a]=true then (⟨3,(s.drop a).take (fe fb (s.drop a)),a,r0⟩,fe fb (s.drop a),0)
 else if (cY (s.drop a)).2=0 then (jW,0,10) else (⟨(cY (s.drop a)).1,(s.drop a).take (cY (s.drop a)).2,a,r0⟩,(cY (s.drop a)).2,0):=by
 have hd:s.drop a=s[a] :: s.drop (a+1):=List.drop_eq_getElem_cons ha
 unfold nk
 simp only
 rw[hd]
 simp only
 rw[<-hd]
 rfl
theorem Uq (s:List UInt8) (a:Nat) (ha:a<s.length) (h:(CE s a).2.2=0):0<(CE s a).2.1/\a+(CE s a).2.1<=s.length/\(CE s a).1.kind≠0:=by
 unfold CE at h ⊢
 cases j:ni (s.drop (a+1)) with
 | none=>rw[j] at h;exact absurd h sm
 | some p =>
  rw[j] at h
  obtain⟨o,m⟩:=p
  have h2:=Sa _ _ nlr _ j
  rw[List.length_drop] at h2
  simp only at h h2 ⊢
  split at h
  . rename_i z
    rw[if_pos z]
    exact⟨by simp only;omega,by simp only;omega,sm⟩
  . exact absurd h sm
theorem Ur (s:List UInt8) (a:Nat) (ha:a<s.length) (h:(Ap s a).2.2=0):0<(Ap s a).2.1/\a+(Ap s a).2.1<=s.length/\(Ap s a).1.kind≠0:=by
 have hf:(tL (s.drop a)).length<=(s.drop a).length:=WM (s.drop a) 7
 rw[List.length_drop] at hf
 unfold Ap at h ⊢
 generalize tL (s.drop a)=j at *
 split at h
 . exact absurd h sm
 . rename_i z
   rw[if_neg z]
   have:=List.length_pos_iff.2 z
   exact⟨this,by simp only;omega,sm⟩
theorem Us (s:List UInt8) (q:(cY s).2≠0):(cY s).1≠0:=by
 cases s with
 | nil=>exact absurd rfl q
 | cons c r =>
  unfold cY at q ⊢
  simp only at q ⊢
  repeat' split
  all_goals first | (simp;done) | (simp_all;done)
theorem WR (s:List UInt8) (a:Nat) (ha:a<s.length) (h:(nk s a).2.2=0):0<(nk s a).2.1/\a+(nk s a).2.1<=s.length/\(nk s a).1.kind≠0:=by
 have hd:s.drop a=s[a] :: s.drop (a+1):=List.drop_eq_getElem_cons ha
 have I:(s.drop a).length=s.length-a:=sm
 have hn:=LI (s.drop a)
 have hw:fe fb (s.drop a)<=(s.drop a).length:=EP _
 have hs:=R' (s.drop a)
 have hk:=Us (s.drop a)
 have j:aR s[a]=true->0<j9 (s.drop a):=by
  intro q
  have:0<fe aR (s.drop a):=by rw[hd];exact WQ q
  unfold j9
  simp only
  split <;> omega
 have o:fb s[a]=true->0<fe fb (s.drop a):=by intro q;rw[hd];exact WQ q
 rw[ZY s a ha] at h ⊢
 generalize j9 (s.drop a)=n at *
 generalize fe fb (s.drop a)=w at *
 generalize cY (s.drop a)=g at *
 by_cases c1:aR s[a]=true
 . rw[if_pos c1] at h ⊢
   by_cases z:(qv ((s.drop a).take n)).2≠0
   . rw[if_pos z] at h;exact absurd h z
   . rw[if_neg z]
     exact⟨j c1,by simp only;omega,sm⟩
 rw[if_neg c1] at h ⊢
 by_cases c2:s[a]=34
 . rw[if_pos c2] at h ⊢
   exact Uq s a ha h
 rw[if_neg c2] at h ⊢
 by_cases C:s[a]=35
 . rw[if_pos C] at h ⊢
   exact Ur s a ha h
 rw[if_neg C] at h ⊢
 by_cases p:fb s[a]=true
 . rw[if_pos p]
   exact⟨o p,by simp only;omega,sm⟩
 rw[if_neg p] at h ⊢
 by_cases z:g.2=0
 . rw[if_pos z] at h;exact absurd h sm
 . rw[if_neg z]
   exact⟨by simp only;omega,by simp only;omega,hk z⟩
theorem Acx (s:List UInt8) (at':Nat):at'<=Sb s at':=by unfold Sb;omega
theorem Hq (s:List UInt8) (at':Nat) (j:at'<=s.length) (h:(nj s at').2.2=0):(nj s at').2.1<=s.length/\((nj s at').1.kind≠0->at'<(nj s at').2.1):=by
 rw[Sc] at h ⊢
 have o:=WO s at' j
 have h2:=Acx s at'
 generalize Sb s at'=a at *
 by_cases he:a=s.length
 . rw[if_pos he]
   exact⟨o,fun q=>absurd rfl q⟩
 . rw[if_neg he] at h ⊢
   obtain⟨C,p,I⟩:=WR s a om h
   simp only
   exact⟨p,fun _=>by omega⟩
structure Od (l:List Tk):Prop where
 ex:∃ i t,l=i++[t]/\t.kind=0/\∀ x ∈ i,x.kind≠0
theorem WS (s:List UInt8):∀ (f at':Nat) (acc:List Tk),at'<=s.length->s.length+2<=at'+f->(∀ x ∈ acc,x.kind≠0)->(tc f s at' acc).1=0->Od (tc f s at' acc).2/\(tc f s at' acc).2.length<=acc.length+f:=by
 intro f
 induction f with
 | zero=>intro at' acc j h2;omega
 | succ f p =>
  intro at' acc j h2 ha h
  unfold tc at h ⊢
  simp only at h ⊢
  by_cases z:(nj s at').2.2≠0
  . rw[if_pos z] at h;exact absurd h z
  . rw[if_neg z] at h ⊢
    have o:=Hq s at' j (sp z)
    by_cases k:(nj s at').1.kind=0
    . rw[if_pos k] at h ⊢
      exact⟨⟨acc,_,rfl,k,ha⟩,sm⟩
    . rw[if_neg k] at h ⊢
      have:=o.2 k
      obtain⟨r1,r2⟩:=p (nj s at').2.1 (acc++[(nj s at').1]) o.1 om (fun x hx=>by
       rcases List.mem_append.1 hx with q | q
       . exact ha x q
       . rw[List.mem_singleton.1 q];exact k) h
      exact⟨r1,by simp at r2;omega⟩
theorem WT (s:List UInt8) (h:(jX s).1=0):Od (jX s).2/\(jX s).2.length<=400:=by
 unfold jX at h ⊢
 by_cases z:300<s.length
 . rw[if_pos z] at h;exact absurd h sm
 . rw[if_neg z] at h ⊢
   obtain⟨r1,r2⟩:=WS s (s.length+2) 0 [] (Nat.zero_le _) om (fun x hx=>by cases hx) h
   exact⟨r1,by simp at r2;omega⟩
def AgB (e:TypeId) (h h':H) (s:List UInt8) (w:Value):Prop:=∃ (l:Value) (to:Nat),w=.tuple ⟨[l,vI to,vI (jX s).1]⟩/\((jX s).1=0->cI Up e h h' l (jX s).2)
theorem Oe (s:List UInt8) (h:H):CP DT [st s] h fun w h'=>Fr h h'/\AgB 44 h h' s w:=by
 have qS:bl=1000000000:=rfl
 refine .call (Qp ?_)
 unfold Sd aq
 rw[eY,Go.X.binOp_gtr,aa,ae]
 by_cases hl:300<s.length
 . rw[if_pos so]
   refine⟨Fr.refl _,.slice none 0 0,0,?_,?_⟩
   . unfold jX;rw[if_pos hl];rfl
   . intro q;unfold jX at q;rw[if_pos hl] at q;exact absurd q sm
 rw[if_neg so]
 have hL:jX s=tc (s.length+2) s 0 []:=by unfold jX;rw[if_neg hl]
 refine aL.ind (fun o h'=>Fr h h'/\∃ (l:Value) (at' f:Nat) (acc:List Tk),o=[st s,l,vI at']/\at'<=s.length/\s.length+2<=at'+f/\f<=400/\acc.length+f<=400/\cI Up 44 h h' l acc/\jX s=tc f s at' acc) (fun o _=>match aI o 2 with | .int _ i=>s.length+1-i.toNat | _=>0) ?_ ⟨Fr.refl _,_,0,s.length+2,[],rfl,Nat.zero_le _,om,om,so,.nil,hL⟩
 rintro o J ⟨f1,l,at',f,acc,rfl,h2,h3,h4,h5,C,j⟩
 show By _ _ (st s) l (vI at') J
 obtain⟨g,rfl⟩:∃ g,f=g+1:=⟨f-1,om⟩
 unfold tc at j
 simp only at j
 have hp:=Hq s at' h2
 unfold By aq
 refine (LN s om at' h2 J).mono ?_
 generalize nj s at'=p at *
 rintro w h6 ⟨f6,t',n',rfl,ht⟩
 simp only[au,ao,ay,aa]
 refine bP fun h7 f7 q7 n7=>lV q7 rfl rfl rfl fun I f8 R n8=>?_
 have U:Fr h I:=f8.fr ((f1.trans f6).trans f7) (by have:=f1.next;have:=f6.next;omega)
 rw[show (.int .i64 0:Value)=vI 0 from rfl,cX,aa,ae]
 by_cases z:p.2.2=0
 . rw[if_neg (by simp[z])]
   rw[if_neg (by simp[z])] at j
   obtain⟨rfl,rfl⟩:=ht z
   rw[cO (n:=6) R rfl,aa]
   have o8:cI Up 44 h I l acc:=((C.fr f6).fr f7).mR f8 ((C.fr f6).lt nlr)
   refine Aev STk U o8 om p.1 (Abo p.1 I) fun v9 h9 f9 g9 o9=>?_
   have q9:h9.row h6.next=some ⟨p.1.c,44,0,0,false⟩:=by rw[g9.row om ((C.fr f6).lt nlr)];exact R
   rw[aE,aa,aA q9]
   show af (some (vI p.1.kind)) _
   rw[aa,cn,aa,ae]
   by_cases k:p.1.kind=0
   . rw[if_pos (by simp[k])]
     rw[if_pos k] at j
     exact⟨f9,v9,0,by rw[j],fun _=>by rw[j];exact o9⟩
   . rw[if_neg (by simp[k])]
     rw[if_neg k] at j
     have hq:=hp z
     have hk:=hq.2 k
     refine⟨⟨f9,v9,p.2.1,g,acc++[p.1],rfl,hq.1,om,om,so,o9,j⟩,?_⟩
     show s.length+1-((p.2.1:Nat):Int).toNat<s.length+1-((at':Nat):Int).toNat
     omega
 . rw[if_pos (sp z)]
   rw[if_pos z] at j
   exact⟨U,.slice none 0 0,n',by rw[j],fun q=>by rw[j] at q;exact absurd q z⟩
def Gn:Kd Nd:=⟨Nd.c,19,tM,dc,fun _=>rfl,fun _=>rfl⟩
def wc:Kd Int:=⟨fun n=>[.int .i64 n],1,0,dc,fun _=>rfl,fun _=>rfl⟩
theorem WV:PM EE 22 53 Gn:=⟨Aew,Acy,Aex,ZX AgD Acy dc⟩
theorem MX:PM EE 23 3 wc:=⟨Aey,sz3,zc3,ZX by3 sz3 dc⟩
theorem Aez (n:Nd) (h:H):dM EE h 22 1 [(0,Aq n)]=some (X.newRow h 53 n.c 0):=Acw WV n h rfl dc
theorem Abp (n:Int) (h:H):dM EE h 23 1 [(0,.int .i64 n)]=some (X.newRow h 3 [.int .i64 n] 0):=by kernel_rfl
theorem Acz:(EE.dO 25).map (·.agg)=some true:=by kernel_rfl
theorem AQ.part {α:Type} {D:Kd α} {h:H} {v w:Value} {l:List α} {e:TypeId} (r:aZ D h v l) (o:∀ b,bt v b->bt w b) (t:AQ h v e):AQ h w e:=by
 intro b j n c q
 have hn:¬ bt v b:=fun k=>o b k b j n c q rfl
 cases r with
 | nil=>exact absurd (nP _ _ b) hn
 | «at» b2 p c2 _ hb hr hc =>
  have:b2=b:=by
   by_cases z:b2=b
   . exact z
   . exact absurd (fun b3 _ _ _ C=>by cases C;exact z) hn
  subst this
  obtain⟨I,y,J,R⟩:=t b2 p _ c2 rfl
  exact⟨I,y,J,R⟩
structure CF (b:Nat) (nv av:Value) (h:H) (gq i_:Value) (h':H):Prop where
 next:h.next<=h'.next
 get:∀ c,c<h.next->c≠b->bt nv c->bt av c->h'.get c=h.get c
 DU:∀ c,c<h.next->bt nv c->bt gq c
 CG:∀ c,c<h.next->bt av c->bt i_ c
theorem CF.trans {b:Nat} {nv av gq i_ o p:Value} {h h' C:H} (x:CF b nv av h gq i_ h') (y:CF b gq i_ h' o p C):CF b nv av h o p C :=
 ⟨Nat.le_trans x.next y.next,fun c j h2 I J=>(y.get c (Nat.lt_of_lt_of_le j x.next) h2 (x.DU c j I) (x.CG c j J)).trans (x.get c j h2 I J),
  fun c j q=>y.DU c (Nat.lt_of_lt_of_le j x.next) (x.DU c j q),fun c j q=>y.CG c (Nat.lt_of_lt_of_le j x.next) (x.CG c j q)⟩
theorem CF.AeA {b:Nat} {nv av:Value} {h h':H} (f:Fr h h'):CF b nv av h nv av h':=⟨f.next,fun c j _ _ _=>f.cK c j,fun _ _ q=>q,fun _ _ q=>q⟩
theorem CF.row {b:Nat} {nv av gq i_:Value} {h h':H} (x:CF b nv av h gq i_ h') {c:Nat} {y:IP} (hr:h.row c=some y) (j:c<h.next) (h2:c≠b) (o:bt nv c) (p:bt av c):h'.row c=some y:=by
 rw[bg (x.get c j h2 o p)];exact hr
abbrev TR:TypeId:=39
abbrev TT:TypeId:=44
abbrev TN:TypeId:=53
structure RS (h0 h:H) (b:Nat) (nv av:Value) (ts:List Tk) (ns:List Nd) (ars:List Int) (d x:Nat):Prop where
 row:∃ lv at',h.row b=some ⟨[lv,nv,av,vI d,at',vI x],TR,0,0,false⟩/\aZ Up h lv ts/\AQ h lv TT
 nodes:cI Gn TN h0 h nv ns
 args:cI wc 3 h0 h av ars
 lo:h0.next<=b
 hi:b<h.next
 PN:Fr h0 h
structure si (b:Nat) (h h':H):Prop where
 next:h.next<=h'.next
 get:∀ c,c<h.next->c≠b->h'.get c=h.get c
theorem si.refl (b:Nat) (h:H):si b h h:=⟨Nat.le_refl _,fun _ _ _=>rfl⟩
theorem si.fr {b:Nat} {h h' j:H} (a:si b h h') (f:Fr h' j):si b h j:=⟨Nat.le_trans a.next f.next,fun c o h2=>(f.cK c (Nat.lt_of_lt_of_le o a.next)).trans (a.get c o h2)⟩
theorem si.mR {b:Nat} {h h' j:H} (a:si b h h') (f:eV b h' j):si b h j:=⟨Nat.le_trans a.next f.next,fun c o h2=>(f.cK c (Nat.lt_of_lt_of_le o a.next) h2).trans (a.get c o h2)⟩
theorem si.new {b c0:Nat} {h h' j:H} (a:si b h h') (f:eV c0 h' j) (hc:h.next<=c0):si b h j:=⟨Nat.le_trans a.next f.next,fun c o h2=>(f.cK c (Nat.lt_of_lt_of_le o a.next) om).trans (a.get c o h2)⟩
theorem si.of {b:Nat} {h h':H} (f:Fr h h'):si b h h':=⟨f.next,fun c j _=>f.cK c j⟩
theorem si.p {b:Nat} {h h':H} (a:si b h h') (nv av:Value):CF b nv av h nv av h':=⟨a.next,fun c j h2 _ _=>a.get c j h2,fun _ _ q=>q,fun _ _ q=>q⟩
theorem si.aQ {b:Nat} {h h':H} (a:si b h h') {c:Nat} {y:IP} (hr:h.row c=some y) (j:c<h.next) (h2:c≠b):h'.row c=some y:=by rw[bg (a.get c j h2)];exact hr
def LP (h:H) (b c:Nat):Prop:=∀ lv nv av d at' x,h.row b=some ⟨[lv,nv,av,d,at',x],TR,0,0,false⟩->bt lv c
def EQ (b:Nat) (h h':H):Prop:=∀ c,c<h.next->LP h b c->LP h' b c
theorem LP.of {h:H} {b c:Nat} {lv nv av d at' x:Value} (hr:h.row b=some ⟨[lv,nv,av,d,at',x],TR,0,0,false⟩) (j:bt lv c):LP h b c:=by
 intro o gq i_ C p x' e
 rw[hr] at e;cases e;exact j
section
variable {h0 h h':H} {b:Nat} {nv av:Value} {ts:List Tk} {ns:List Nd} {ars:List Int} {d x:Nat}
theorem RS.fr (r:RS h0 h b nv av ts ns ars d x) (f:Fr h h'):RS h0 h' b nv av ts ns ars d x:=by
 obtain⟨⟨lv,at',r1,r2,o⟩,p,C,I,j,J⟩:=r
 exact⟨⟨lv,at',f.aQ r1 j,r2.fr f,o.fr f⟩,p.fr f,C.fr f,I,Nat.lt_of_lt_of_le j f.next,J.trans f⟩
theorem RS.AcA (r:RS h0 h b nv av ts ns ars d x):bt nv b/\bt av b:=by
 obtain⟨⟨lv,at',r1,r2,p⟩,j,o,C,I,J⟩:=r
 exact⟨j.ne r1 dc,o.ne r1 dc⟩
theorem RS.FF (r:RS h0 h b nv av ts ns ars d x) (a:si b h h') {lv at':Value} {p x':Nat} {bE:List Tk} (hr:h'.row b=some ⟨[lv,nv,av,vI p,at',vI x'],TR,0,0,false⟩) (hl:aZ Up h' lv bE) (C:AQ h' lv TT):RS h0 h' b nv av bE ns ars p x':=by
 have o:=r.AcA
 refine⟨⟨lv,at',hr,hl,C⟩,r.nodes.Ct a.next fun c j n cp q=>?_,r.args.Ct a.next fun c j n cp q=>?_,r.lo,Nat.lt_of_lt_of_le r.hi a.next,⟨Nat.le_trans r.PN.next a.next,fun c hc=>(a.get c (Nat.lt_of_lt_of_le hc r.PN.next) (by have:=r.lo;omega)).trans (r.PN.cK c hc)⟩⟩
 . exact a.get c (r.nodes.ty c j n cp q).1 (o.1 c j n cp q)
 . exact a.get c (r.args.ty c j n cp q).1 (o.2 c j n cp q)
theorem Se {lv:Value} {r1:IP} (hr:h.row b=some r1) (he:r1.elem=TR) (hl:aZ Up h lv ts) (j:AQ h lv TT) (a:si b h h'):aZ Up h' lv ts/\AQ h' lv TT:=by
 have p:∀ c o n cp,lv=.slice (some ⟨c,o,none⟩) n cp->h'.get c=h.get c:=fun c o n cp q=>by
  obtain⟨J,y,C,I⟩:=j c o n cp q
  refine a.get c J fun e=>?_
  subst e
  rw[hr] at C;cases C
  rw[he] at I
  exact absurd I dc
 exact⟨hl.Ct a.next p,j.Ct a.next p⟩
theorem Oh (b:Nat):db (pT b)=some (pT b):=rfl
theorem te (r:RS h0 h b nv av ts ns ars d x) {t:Tk} {bE:List Tk} (j:ts=t :: bE) (k:Nat):ai PP cg [pT b,vI k] h (.v (.bool (decide (t.kind=k))) h):=by
 refine aj.pure (Bz ?_) (by simp[flat])
 unfold x4 aq
 obtain⟨⟨lv,at',r1,r2,J⟩,R,U,r6,r7,r8⟩:=r
 subst j
 rw[Oh,aa,aE,aa,aA r1,ao,aa]
 obtain⟨b1,p,C,I⟩:=r2.ZZ (i:=0) sm 0 dc
 have o:AB 6 lv (.int .i64 0)=some (.pointer (some ⟨b1,p,none⟩)):=C
 rw[o,aa,aE,aa,I]
 show af (some (vI t.kind)) _
 rw[aa,cn,aa]
 exact⟨rfl,Fr.refl _⟩
theorem nQ (r:RS h0 h b nv av ts ns ars d x) {t:Tk} {bE:List Tk} (p:ts=t :: bE):CP bO [pT b] h fun w h'=>w=Jf t/\si b h h'/\EQ b h h'/\RS h0 h' b nv av (if t.kind=0 then ts else bE) ns ars d x:=by
 refine .call (yZ ?_)
 unfold ur aq
 have U:=r.hi
 obtain⟨⟨lv,at',r1,r2,r3⟩,r4,r5,r6,r7,r8⟩:=id r
 refine bP fun h1 f1 q1 n1=>?_
 rw[Oh,aa,aE,aa,aA (f1.aQ r1 U),ao,aa]
 obtain⟨b1,o1,e1,e2⟩:=(r2.fr f1).ix (i:=0) (by rw[p];simp)
 have BA:AB 6 lv (.int .i64 0)=some (.pointer (some ⟨b1,o1,none⟩)):=e1
 have Jl:=e2.agg
 have e0:ts[0]'(by rw[p];simp)=t:=by simp[p]
 rw[e0] at Jl
 have AgE:fJ 6 h1 (.pointer (some ⟨b1,o1,none⟩))=some (Jf t):=Jl
 rw[BA,aa,AgE,aa]
 refine bP fun h2 f2 q2 n2=>lV q2 rfl rfl rfl fun C f3 q3 n3=>?_
 have A3:si b h C:=(si.of (f1.trans f2)).new f3 om
 have ZS:=f3.aQ (f2.aQ q1 om) om om
 have I:C.row b=some ⟨[lv,nv,av,vI d,at',vI x],TR,0,0,false⟩:=f3.aQ ((f1.trans f2).aQ r1 U) om om
 obtain⟨l3,t3⟩:=Se r1 rfl r2 r3 A3
 rw[aE,aa,aA q3]
 show af (some (vI t.kind)) _
 rw[aa,show (.int .i64 0:Value)=vI 0 from rfl,cX,aa,ae]
 have fin:∀ (R:H) (j:Value),eV b C R->R.next=C.next->R.row b=some ⟨[j,nv,av,vI d,at',vI x],TR,0,0,false⟩->aZ Up C j (if t.kind=0 then ts else bE)->(∀ c,bt lv c->bt j c)->fY (fun w h'=>w=Jf t/\si b h h'/\EQ b h h'/\RS h0 h' b nv av (if t.kind=0 then ts else bE) ns ars d x) (pT h.next) (pT h1.next) R:=by
  intro R j f4 n4 J l4 o4
  unfold fY aq
  rw[cO (n:=6) (f4.aQ q3 om om) rfl,aa]
  refine lV (f4.aQ ZS om om) rfl rfl rfl fun h5 f5 r5' n5=>?_
  rw[AcB Acu Ul r5' rfl,aa]
  have A5:si b h h5:=(A3.mR f4).new f5 om
  refine⟨rfl,A5,fun c hc lo=>.of (f5.aQ J om om) (o4 c (lo _ _ _ _ _ _ r1)),?_⟩
  have ol:bt lv h.next:=r2.lt nlr
  have tl:AQ C j TT:=AQ.part l3 o4 t3
  have hg:∀ c o n cp,j=.slice (some ⟨c,o,none⟩) n cp->h5.get c=C.get c:=fun c o n cp q=>by
   obtain⟨k1,y,k2,k3⟩:=tl c o n cp q
   rw[f5.cK c om (o4 _ ol c o n cp q),f4.cK c k1 fun e=>?_]
   subst e
   rw[I] at k2;cases k2
   exact absurd (show TR=TT from k3) dc
  exact r.FF A5 (f5.aQ J om om) (l4.Ct om hg) (tl.Ct om hg)
 by_cases z:t.kind=0
 . rw[if_neg (by simp[z])]
   exact fin C lv (eV.refl _ _) rfl I (by rw[if_pos z];exact l3) fun _ q=>q
 . rw[if_pos (sp z),aa,aE,aa,aA I,ao,aa]
   obtain⟨w,ew,lw,ow⟩:=l3.drop STk (i:=1) (by rw[p];simp)
   have ew':aO EE C 34 lv (some (.int .i64 1)) none none=some w:=ew
   rw[ew',aa,aa]
   have hw:=lw.cell
   refine qY I hw.1 hw.2 sm fun R f4 J n4=>?_
   exact fin R w f4 n4 J (by rw[if_neg z];rw[p] at lw;exact lw) ow
theorem nR (r:RS h0 h b nv av ts ns ars d x) (t:Tk) (e:Nat) (he:e≠0):CP bV [pT b,Jf t,vI e] h fun w h'=>w=vI 0/\si b h h'/\EQ b h h'/\RS h0 h' b nv av [jW] ns ars d (if x=0 then e else x):=by
 refine .call (y2 ?_)
 unfold uu aq
 have U:=r.hi
 obtain⟨⟨lv,at',r1,r2,r3⟩,r4,r5,r6,r7,r8⟩:=id r
 refine fz fun h1 f1 q1 n1=>?_
 have p:=f1.aQ r1 U
 have fin:∀ (h2:H) (I:Value) (x2:Nat),si b h h2->h1.next<=h2.next->h2.row b=some ⟨[lv,nv,av,vI d,I,vI x2],TR,0,0,false⟩->x2=(if x=0 then e else x)->gH (fun w h'=>w=vI 0/\si b h h'/\EQ b h h'/\RS h0 h' b nv av [jW] ns ars d (if x=0 then e else x)) (pT b) h2:=by
  intro h2 I x2 A2 n2 C Sf
  unfold gH aq
  have eb:bC EE 44 [(0,(.int .i64 0))]=some (Jf jW):=by kernel_rfl
  rw[eb,aa]
  unfold gh
  rw[Abo,aa]
  show af (db (pT b)) _
  rw[Oh,aa,aE,aa]
  have f3:Fr h2 (X.newRow h2 TT jW.c 0):=lB (Fr.refl h2) _ _ _
  have RG:b<h2.next:=om
  refine qY (f3.aQ C RG) rfl rfl sm fun h4 f4 J n4=>?_
  have A4:si b h h4:=(A2.fr f3).mR f4
  refine⟨rfl,A4,fun c hc _=>.of J (Oi (h:=h2) 1 1 nlr c (by have:=A2.next;omega)),?_⟩
  have R:(X.newRow h2 TT jW.c 0).row h2.next=some ⟨Up.flat [jW],TT,0,0,false⟩:=by rw[aS,if_pos rfl];rfl
  have j:=f4.aQ R om sm
  have rk:=aZ.row (D:=Up) (h:=h4) (by rw[n4];simp) j 0 1 1 sm nlr
  have rk':aZ Up h4 (.slice (some ⟨h2.next,0,none⟩) 1 1) [jW]:=sp rk
  rw[<-Sf]
  refine r.FF A4 J rk' ?_
  intro c o n cp q
  cases q
  exact⟨by rw[n4];simp,_,j,rfl⟩
 rw[Oh,aa,aE,aa,aA p]
 show af (some (vI x)) _
 rw[aa,show (.int .i64 0:Value)=vI 0 from rfl,cn,aa,ae]
 by_cases z:x=0
 . rw[if_pos (sp z),aE,aa,aA q1]
   show af (some (vI t.pos)) _
   rw[aa,aa,aE,aa]
   refine qY p rfl rfl sm fun h2 f2 C n2=>?_
   rw[aa,aE,aa]
   refine qY C rfl rfl sm fun h3 f3 rb3 n3=>?_
   exact fin h3 (vI t.pos) e (((si.of f1).mR f2).mR f3) om rb3 (by rw[if_pos z])
 . rw[if_neg (sp z)]
   exact fin h1 at' x (si.of f1) nlr p (by rw[if_neg z])
theorem Sg {c:Nat} (I:h0.next<=c) (r:RS h0 h b nv av ts ns ars d x) (lo:LP h b c) (hc:c<h.next) (j:c≠b) (rc:h.row c=some ⟨jW.c,TT,0,0,false⟩) {t:Tk} {bE:List Tk} (J:ts=t :: bE) {Q:Value->H->Prop}
 (hQ:∀ h',(∀ e,e<h.next->e≠b->e≠c->h'.get e=h.get e)->h.next<=h'.next->(∀ e,e<h.next->LP h b e->LP h' b e)->RS h0 h' b nv av (if t.kind=0 then ts else bE) ns ars d x->Q (Jf t) h'):gI Q (pT b) (pT c) h:=by
 unfold gI aq
 refine (nQ r J).mono ?_
 rintro w h2 ⟨rfl,C,K2,R2⟩
 have R:=C.aQ rc hc j
 refine lV R rfl rfl rfl fun U f3 q3 n3=>?_
 rw[AcB Acu Ul q3 rfl,aa]
 obtain⟨⟨lv,at',r1,r2,r3⟩,r4,r5,r6,r7,r8⟩:=id R2
 have ol:bt lv c:=K2 c hc lo _ _ _ _ _ _ r1
 have p:=f3.aQ r1 (Ne.symm j) r7
 have hl:aZ Up U lv (if t.kind=0 then ts else bE):=r2.mR f3 ol
 have ht:AQ U lv TT:=r3.Ct om fun e o n cp q=>f3.cK e (r3 e o n cp q).1 (ol e o n cp q)
 have on:bt nv c:=R2.nodes.ne R dc
 have oa:bt av c:=R2.args.ne R dc
 refine hQ U (fun e e1 e2 e3=>?_) (by have:=C.next;omega) (fun e e1 e2=>?_) ⟨⟨lv,at',p,hl,ht⟩,r4.mR f3 on,r5.mR f3 oa,r6,om,f3.fr r8 I⟩
 . rw[f3.cK e (by have:=C.next;omega) e3,C.get e e1 e2]
 . exact .of p (K2 e e1 e2 _ _ _ _ _ _ r1)
theorem qy (r:RS h0 h b nv av ts ns ars d x) {t:Tk} {bE:List Tk} (j:ts=t :: bE) (k:Nat):CP cZ [pT b,vI k] h fun w h'=>si b h h'/\EQ b h h' ∧
 (t.kind=k->w=Jf t/\RS h0 h' b nv av (if t.kind=0 then ts else bE) ns ars d x)/\(t.kind≠k->w=Jf jW/\RS h0 h' b nv av [jW] ns ars d (if x=0 then 10 else x)):=by
 refine .call (y3 ?_)
 unfold uv aq
 have p:=r.hi
 obtain⟨⟨lv,at',r1,r2,r3⟩,r4,r5,r6,r7,r8⟩:=id r
 refine bP fun h1 f1 q1 n1=>?_
 have R1:=r.fr f1
 have I:LP h1 b h.next:=.of (f1.aQ r1 p) (r2.lt nlr)
 have o:∀ c,c<h.next->LP h b c->LP h1 b c:=fun c _ lo=>.of (f1.aQ r1 p) (lo _ _ _ _ _ _ r1)
 refine ar (te R1 j k) ?_
 rw[aY,aa,ae]
 by_cases hk:t.kind=k
 . rw[if_neg (by simp[hk])]
   refine Sg (c:=h.next) (by have:=r.PN.next;omega) R1 I om om q1 j fun h' g1 g2 g3 U=>?_
   refine⟨⟨om,fun c c1 c2=>by rw[g1 c om c2 om,f1.cK c c1]⟩,fun c c1 lo=>g3 c om (o c c1 lo),fun _=>⟨rfl,U⟩,fun q=>absurd hk q⟩
 . rw[if_pos (by simp[hk]),Oh,aa,aE,aa,aA (f1.aQ r1 p),ao,aa]
   obtain⟨b1,o1,e1,e2⟩:=(r2.fr f1).ix (i:=0) (by rw[j];simp)
   have BA:AB 6 lv (.int .i64 0)=some (.pointer (some ⟨b1,o1,none⟩)):=e1
   have J:=e2.agg
   have e0:ts[0]'(by rw[j];simp)=t:=by simp[j]
   rw[e0] at J
   have R:fJ 6 h1 (.pointer (some ⟨b1,o1,none⟩))=some (Jf t):=J
   rw[BA,aa,R,aa]
   refine (nR R1 t 10 om).mono ?_
   rintro w h2 ⟨rfl,C,K2,R2⟩
   refine Sg (c:=h.next) (by have:=r.PN.next;omega) R2 (K2 _ om I) (by have:=C.next;omega) om (C.aQ q1 om om) rfl fun h' g1 g2 g3 U=>?_
   rw[if_pos (show jW.kind=0 from rfl)] at U
   refine⟨⟨by have:=C.next;omega,fun c c1 c2=>by rw[g1 c (by have:=C.next;omega) c2 om,C.get c om c2,f1.cK c c1]⟩,fun c c1 lo=>g3 c (by have:=C.next;omega) (K2 c om (o c c1 lo)),fun q=>absurd q hk,fun _=>⟨rfl,U⟩⟩
end
theorem AgF:(EE.dO 87).map (·.agg)=some true:=by kernel_rfl
theorem Ut (h:H):ai PP va [] h (.v (.agg ⟨cD Hs⟩) h):=by
 refine aj.pure (Ht ?_) (by simp[flat,Hs,cD])
 unfold ER aq
 refine bP fun o f1 j p=>?_
 have e:bC EE 87 [(0,(.string (bs []))),(1,(.string (bs [43]))),(2,(.string (bs [45]))),(3,(.string (bs [42]))),(4,(.string (bs [47]))),(5,(.string (bs [94]))),(6,(.string (bs [38]))),(7,(.string (bs [61]))),(8,(.string (bs [60,62]))),(9,(.string (bs [60]))),(10,(.string (bs [60,61]))),(11,(.string (bs [62]))),(12,(.string (bs [62,61]))),(13,(.string (bs [45]))),(14,(.string (bs [37])))]=some (.agg ⟨cD Hs⟩):=by kernel_rfl
 rw[e,aa]
 exact stG AgF AeB f1 nlr j rfl rfl rfl rfl
theorem vK (op:Int) (h:H):ai PP gJ [.int .i64 op] h (.v (st (As op)) h):=by
 refine aj.pure (Jm ?_) (by simp[flat])
 unfold Hu aq
 refine ar (Ut h) ?_
 refine bP fun J f1 p R=>lV p rfl rfl rfl fun h2 f2 C U=>?_
 have j:=f2.fr f1 nlr
 have o:∀ x:Bool,(x=true<->(op<0\/15<=op))->pI (fun v h'=>v=st (As op)/\Fr h h') (.int .i64 op) (pT h.next) (.bool x) h2:=by
  intro x hx
  unfold pI As aq
  rw[ae]
  by_cases q:op<0\/15<=op
  . rw[if_pos (hx.2 q),if_neg om];exact⟨rfl,j⟩
  . rw[if_neg (fun z=>q (hx.1 z)),if_pos om]
    obtain⟨m,rfl⟩:∃ m:Nat,op=(m:Int):=⟨op.toNat,om⟩
    have hm:m<15:=om
    have I:ixP 15 1 (pT h.next) (.int .i64 (m:Int))=some (.pointer (some ⟨h.next,m,none⟩)):=by
     show (bif Nat.blt m 15 then some (Value.pointer (some (nE ⟨h.next,0,none⟩ (m * 1)))) else none)=_
     rw[dx,decide_eq_true hm,cond_true,zS,Nat.zero_add,Nat.mul_one]
    rw[I,aa,aA C]
    have hn:nth (cD Hs) m=some (st (Hs.getD m [])):=by
     have:∀ i:Fin 15,nth (cD Hs) i.val=some (st (Hs.getD i.val [])):=by
      intro i
      rw[DV]
      match i with
      | ⟨0,_⟩=>rfl | ⟨1,_⟩=>rfl | ⟨2,_⟩=>rfl | ⟨3,_⟩=>rfl | ⟨4,_⟩=>rfl | ⟨5,_⟩=>rfl | ⟨6,_⟩=>rfl | ⟨7,_⟩=>rfl | ⟨8,_⟩=>rfl | ⟨9,_⟩=>rfl | ⟨10,_⟩=>rfl | ⟨11,_⟩=>rfl | ⟨12,_⟩=>rfl | ⟨13,_⟩=>rfl | ⟨14,_⟩=>rfl
     exact this ⟨m,hm⟩
    rw[hn,aa]
    exact⟨rfl,j⟩
 rw[Go.X.binOp_lss,aa,ag]
 by_cases q:op<0
 . rw[if_neg (by simp[q])];exact o true (by simp[q])
 . rw[if_pos so,Go.X.binOp_geq,aa]
   exact o _ so
def VE (n:Nd):Nat:=if n.kind=7 then (if n.op=13 then 6 else if n.op=14 then 7 else 8) else if n.kind=8 then fH n.op else 8
theorem lX (n:Nd) (h:H):ai PP ky [Aq n] h (.v (vI (VE n)) h):=by
 refine aj.pure (LQ ?_) (by simp[flat])
 unfold Kh aq
 refine fz fun I f1 q1 n1=>?_
 have c0:aw I (.pointer (some ⟨h.next,0+0,none⟩))=some (.int .i64 n.kind):=by rw[aA q1];rfl
 have c1:aw I (.pointer (some ⟨h.next,0+1,none⟩))=some (.int .i64 n.op):=by rw[aA q1];rfl
 have j:VE n=8->nS (fun v h'=>v=vI (VE n)/\Fr h h') I:=by
  intro e;unfold nS aq;rw[e];exact⟨rfl,f1⟩
 unfold VE at *
 rw[aE,aa,c0,aa,Go.X.ak,aa,ae]
 by_cases k7:n.kind=7
 . rw[if_pos (sp k7),aE,aa,c1,aa,Go.X.ak,aa,ae]
   rw[if_pos k7] at j ⊢
   by_cases o:n.op=13
   . rw[if_pos (sp o),if_pos o];exact⟨rfl,f1⟩
   rw[if_neg (sp o),Go.X.ak,aa,ae]
   rw[if_neg o] at j ⊢
   by_cases p:n.op=14
   . rw[if_pos (sp p),if_pos p];exact⟨rfl,f1⟩
   rw[if_neg (sp p)]
   exact j (by rw[if_neg p])
 rw[if_neg (sp k7),Go.X.ak,aa,ae]
 rw[if_neg k7] at j ⊢
 by_cases k8:n.kind=8
 . rw[if_pos (sp k8),aE,aa,c1,aa]
   rw[if_pos k8] at j ⊢
   have J:∀ x:Bool,(x=true<->(n.op=3\/n.op=4))->n.op≠1->n.op≠2->pJ (fun v h'=>v=vI (fH n.op)/\Fr h h') (pT h.next) (.int .i64 n.op) (.bool x) I:=by
    intro x hx a1 a2
    unfold pJ aq
    rw[ae]
    by_cases q:n.op=3\/n.op=4
    . rw[if_pos (hx.2 q)]
      have:fH n.op=4:=by unfold fH;rcases q with q | q <;> simp[q]
      rw[this];exact⟨rfl,f1⟩
    rw[if_neg (fun z=>q (hx.1 z)),Go.X.ak,aa,ae]
    by_cases R:n.op=5
    . have:fH n.op=5:=by unfold fH;simp[R]
      rw[if_pos (sp R),this];exact⟨rfl,f1⟩
    rw[if_neg (sp R),Go.X.ak,aa,ae]
    by_cases U:n.op=6
    . have:fH n.op=2:=by unfold fH;simp[U]
      rw[if_pos (sp U),this];exact⟨rfl,f1⟩
    rw[if_neg (sp U),aE,aa,c1,aa,Go.X.binOp_geq,aa,ag]
    by_cases g7:7<=n.op
    . rw[if_pos (sp g7),aa,c1,aa,Go.X.binOp_leq,aa]
      unfold pK aq
      rw[ae]
      by_cases C:n.op<=12
      . have:fH n.op=1:=by unfold fH;rw[if_pos ⟨g7,C⟩]
        rw[if_pos (sp C),this];exact⟨rfl,f1⟩
      . rw[if_neg (sp C)]
        exact j (by unfold fH;rw[if_neg om,if_neg U,if_neg om,if_neg q,if_neg R])
    . rw[if_neg (sp g7)]
      unfold pK aq
      rw[ae,if_neg sm]
      exact j (by unfold fH;rw[if_neg om,if_neg U,if_neg om,if_neg q,if_neg R])
   have J19:∀ x:Bool,(x=true<->(n.op=1\/n.op=2))->pL (fun v h'=>v=vI (fH n.op)/\Fr h h') (pT h.next) (.int .i64 n.op) (.bool x) I:=by
    intro x hx
    unfold pL aq
    rw[ae]
    by_cases q:n.op=1\/n.op=2
    . rw[if_pos (hx.2 q)]
      have:fH n.op=3:=by unfold fH;rcases q with q | q <;> simp[q]
      rw[this];exact⟨rfl,f1⟩
    rw[if_neg (fun z=>q (hx.1 z)),Go.X.ak,aa,ae]
    by_cases o3:n.op=3
    . rw[if_pos (sp o3)]
      exact J _ (by simp[o3]) (fun z=>q (.inl z)) (fun z=>q (.inr z))
    . rw[if_neg (sp o3),Go.X.ak,aa]
      exact J _ (by simp[o3]) (fun z=>q (.inl z)) (fun z=>q (.inr z))
   rw[Go.X.ak,aa,ae]
   by_cases o1:n.op=1
   . rw[if_pos (sp o1)]
     exact J19 _ (by simp[o1])
   . rw[if_neg (sp o1),Go.X.ak,aa]
     exact J19 _ (by simp[o1])
 . rw[if_neg (sp k8)]
   rw[if_neg k8] at j ⊢
   exact j rfl
section
variable {h0 h:H} {b:Nat} {nv av:Value} {ts:List Tk} {ns:List Nd} {ars:List Int} {d x:Nat}
theorem AgG (op:Int):bC EE 53 [(0,.int .i64 8),(1,.int .i64 op)]=some (Aq { tM with kind:=8,op:=op }):=by kernel_rfl
theorem Z0 (t:Tk) (n:Nat):jw t n=if t.kind=4 then (((List.range 12).find? fun i=>decide (Hs.getD (i+1) []=t.text)&&decide (fH ((i+1:Nat):Int)=n)).map (·+1)).getD 0 else 0:=rfl
theorem uw (r:RS h0 h b nv av ts ns ars d x) {t:Tk} {bE:List Tk} (o:ts=t :: bE) (n:Nat):ai PP fC [pT b,vI n] h (.v (vI (jw t n)) h):=by
 refine aj.pure (vL ?_) (by simp[flat])
 unfold qz aq
 obtain⟨⟨lv,at',r1,r2,r3⟩,r4,r5,r6,r7⟩:=id r
 refine ar (te r o 4) ?_
 rw[aY,aa,ae,Z0]
 by_cases k4:t.kind=4
 . rw[if_neg (by simp[k4]),if_pos k4]
   obtain⟨b1,o1,e1,e2⟩:=r2.ZZ (i:=0) (by rw[o];simp) 1 dc
   have e0:ts[0]'(by rw[o];simp)=t:=by simp[o]
   rw[e0] at e2
   have BA:AB 6 lv (.int .i64 0)=some (.pointer (some ⟨b1,o1,none⟩)):=e1
   have Jl:aw h (.pointer (some ⟨b1,o1+1,none⟩))=some (st t.text):=e2
   have e3:aw h (.pointer (some ⟨b,0+0,none⟩))=some lv:=by rw[aA r1];rfl
   refine aL.ind (fun s' h'=>h'=h/\∃ k:Nat,s'=[pT b,vI n,vI (k+1)]/\k<=12/\∀ j<k,(decide (Hs.getD (j+1) []=t.text)&&decide (fH ((j+1:Nat):Int)=n))=false) (fun s' _=>match aI s' 2 with | .int _ i=>14-i.toNat | _=>0) ?_ ⟨rfl,0,rfl,om,fun j I=>by omega⟩
   rintro s' h' ⟨rfl,k,rfl,hk,p⟩
   show iK _ _ (pT b) (vI n) (vI (k+1)) h'
   unfold iK aq
   have hw:X.binOp EE .add 3 (vI (k+1)) (.int .i64 1)=some (vI (k+1+1)):=dm EE 3 (k+1) 1 om
   have J:14-((k+1+1:Nat):Int).toNat<14-((k+1:Nat):Int).toNat:=om
   rw[show (.int .i64 12:Value)=vI 12 from rfl,nD,aa,ae]
   by_cases R:k<12
   . rw[if_pos so]
     refine ar (vK _ h') ?_
     rw[Oh,aa,aE,aa,e3,aa]
     refine⟨rfl,?_⟩
     rw[BA,aa,aE,aa,Jl,aa]
     refine⟨rfl,?_⟩
     have hs:As ((k+1:Nat):Int)=Hs.getD (k+1) []:=by unfold As;rw[if_pos om,Int.toNat_natCast]
     rw[hs,Go.X.bf,aa,ag]
     have U:∀ y:Bool,y=(decide (Hs.getD (k+1) []=t.text)&&decide (fH ((k+1:Nat):Int)=n))->eJ (fun v C=>v=vI ((((List.range 12).find? fun i=>decide (Hs.getD (i+1) []=t.text)&&decide (fH ((i+1:Nat):Int)=n)).map (·+1)).getD 0)/\Fr h' C) (fun VC C=>(C=h'/\∃ k:Nat,VC=[pT b,vI n,vI (k+1)]/\k<=12/\∀ j<k,(decide (Hs.getD (j+1) []=t.text)&&decide (fH ((j+1:Nat):Int)=n))=false)/\(match aI VC 2 with | .int _ i=>14-i.toNat | _=>0)<(match aI [pT b,vI n,vI (k+1)] 2 with | .int _ i=>14-i.toNat | _=>0)) (pT b) (vI n) (vI (k+1)) (.bool y) h':=by
      intro y hy
      unfold eJ aq
      rw[ae]
      cases hyy:y with
      | true =>
       rw[if_pos rfl]
       have:((List.range 12).find? fun i=>decide (Hs.getD (i+1) []=t.text)&&decide (fH ((i+1:Nat):Int)=n))=some k:=by
        rw[List.find?_range_eq_some]
        exact⟨by rw[<-hy,hyy],sp R,fun j I=>by rw[p j I];rfl⟩
       rw[this]
       exact⟨rfl,Fr.refl _⟩
      | false =>
       rw[if_neg sm,hw,aa]
       refine⟨⟨rfl,k+1,rfl,R,fun j I=>?_⟩,J⟩
       by_cases e:j=k
       . subst e;rw[<-hy,hyy]
       . exact p j om
     by_cases q:Hs.getD (k+1) []=t.text
     . rw[if_pos (sp q),AgG,aa]
       refine ar (lX _ h') ?_
       have el:VE { tM with kind:=8,op:=((k+1:Nat):Int) }=fH ((k+1:Nat):Int):=by unfold VE;rw[if_neg (show ¬ ((8:Int)=7) by decide),if_pos rfl]
       rw[el,cn,aa]
       exact U _ (by rw[decide_eq_true q,Bool.true_and])
     . rw[if_neg (sp q)]
       exact U false (by rw[decide_eq_false q];rfl)
   . have AgH:k=12:=om
     subst AgH
     rw[if_neg sm]
     have:((List.range 12).find? fun i=>decide (Hs.getD (i+1) []=t.text)&&decide (fH ((i+1:Nat):Int)=n))=none:=by
      rw[List.find?_eq_none]
      intro j I
      rw[p j (sp I)];simp
     rw[this]
     exact⟨rfl,Fr.refl _⟩
 . rw[if_pos (by simp[k4]),if_neg k4]
   exact⟨rfl,Fr.refl _⟩
theorem jF (r:RS h0 h b nv av ts ns ars d x) (n:Nd) (hl:ns.length<100000000):CP bh [pT b,Aq n] h fun w h'=>w=vI ns.length/\∃ gq,CF b nv av h gq av h'/\RS h0 h' b gq av ts (ns++[n]) ars d x:=by
 refine .call (y4 ?_)
 unfold uy aq
 have hbi:=r.hi
 refine fz fun p f1 q1 n1=>?_
 have R1:=r.fr f1
 obtain⟨⟨lv,at',r1,r2,r3⟩,r4,r5,r6,r7⟩:=id R1
 have e3:aw p (.pointer (some ⟨b,0+1+0,none⟩))=some nv:=by rw[aA r1];rfl
 rw[Oh,aa,aE,aa,aE,aa,e3,aa,cO (n:=19) q1 rfl,aa]
 unfold gh
 rw[Aez,aa]
 have f2:Fr p (X.newRow p TN n.c 0):=lB (Fr.refl p) _ _ _
 have AgI:(X.newRow p TN n.c 0).row p.next=some ⟨Gn.flat [n],TN,0,0,false⟩:=by rw[aS,if_pos rfl,Gn.CH];rfl
 have n2:(X.newRow p TN n.c 0).next=p.next+1:=rfl
 generalize X.newRow p TN n.c 0=h2 at *
 have R2:=R1.fr f2
 refine⟨by rw[aA (f2.aQ r1 r7)];rfl,?_⟩
 have rd:=aZ.row (D:=Gn) (h:=h2) om AgI 0 1 1 sm nlr
 have rd':aZ Gn h2 (.slice (some ⟨p.next,0,none⟩) 1 1) [n]:=sp rd
 refine WW WV R2.PN R2.nodes rd' om sm fun v' h3 f3 C o3=>?_
 have ob:bt nv b:=R2.AcA.1
 have RG:b<h2.next:=om
 have I:=f2.aQ r1 r7
 have AgJ:h3.row b=some ⟨[lv,nv,av,vI d,at',vI x],TR,0,0,false⟩:=by rw[C.row RG ob];exact I
 rw[aa,aE,aa,aE,aa]
 refine qY AgJ o3.cell.1 o3.cell.2 sm fun U f4 rb4 n4=>?_
 have J:U.row b=some ⟨[lv,v',av,vI d,at',vI x],TR,0,0,false⟩:=rb4
 have ob3:bt v' b:=C.off b RG ob
 have o4:cI Gn TN h0 U v' (ns++[n]):=o3.mR f4 ob3
 have e4:aw U (.pointer (some ⟨b,0+1+0,none⟩))=some v':=by rw[aA J];rfl
 rw[aa,aE,aa,aE,aa,e4,aa,o4.read.len WV,List.length_append]
 have hw:X.binOp EE .sub 3 (.int .i64 ((ns.length+[n].length:Nat):Int)) (.int .i64 1)=some (vI ns.length):=pX EE 3 (ns.length+1) 1 om om
 rw[hw,aa]
 have j:Fr h h2:=f1.trans f2
 -- DB tokens and DB arguments
 obtain⟨⟨lv2,at2,s1,s2,s3⟩,s4,s5,s6,s7,s8⟩:=id R2
 rw[I] at s1
 cases s1
 have oln:∀ c o m cp,lv=.slice (some ⟨c,o,none⟩) m cp->U.get c=h2.get c:=fun c o m cp q=>by
  obtain⟨k1,y,R,k3⟩:=s3 c o m cp q
  have cb:c≠b:=fun e=>by subst e;rw[I] at R;cases R;exact absurd (show TR=TT from k3) dc
  rw[f4.cK c (by have:=C.next;omega) cb,C.get c k1 (s4.ty.off R (by rw[k3];decide))]
 have oan:∀ c o m cp,av=.slice (some ⟨c,o,none⟩) m cp->U.get c=h2.get c:=fun c o m cp q=>by
  obtain⟨k1,y,R,k3⟩:=s5.ty c o m cp q
  have cb:c≠b:=fun e=>by subst e;rw[I] at R;cases R;exact absurd (show TR=3 from k3) dc
  rw[f4.cK c (by have:=C.next;omega) cb,C.get c k1 (s4.ty.off R (by rw[k3];decide))]
 have nx:h2.next<=U.next:=by have:=C.next;omega
 refine⟨rfl,v',⟨by have:=j.next;omega,fun c c1 c2 c3 _=>?_,fun c c1 c3=>C.off c (by have:=j.next;omega) c3,fun _ _ q=>q⟩,⟨⟨lv,at',J,s2.Ct nx oln,s3.Ct nx oln⟩,o4,s5.Ct nx oan,s6,om,f4.fr f3 s6⟩⟩
 rw[f4.cK c (by have:=j.next;have:=C.next;omega) c2,C.get c (by have:=j.next;omega) c3,j.cK c c1]
end
theorem AeC (l:List UInt8) (i:Nat) (hi:i<l.length):(⟨⟨l⟩⟩:ByteArray).get! i=l[i]:=by
 show (⟨l⟩:Array UInt8)[i]! =l[i]
 rw[Array.getElem!_eq_getD,Array.getD_eq_getD_getElem?,List.getElem?_toArray,List.getElem?_eq_getElem hi];rfl
theorem Ki (l:List UInt8) (i:Nat) (hi:i<l.length) (h:l[i].toNat<128):Utf8.decode ⟨⟨l⟩⟩ i=(l[i].toNat,1):=by
 unfold Utf8.decode
 simp only[Nat.add_zero,AeC l i hi]
 rw[if_pos h]
theorem Uu (l:List UInt8) (i:Nat) (hi:i<l.length) (h:128<=l[i].toNat):128<=(Utf8.decode ⟨⟨l⟩⟩ i).1:=by
 unfold Utf8.decode
 simp only[Nat.add_zero,AeC l i hi]
 rw[if_neg om]
 repeat' split
 all_goals first | (simp only[Utf8.runeError];omega) | skip
 all_goals (rename_i q;first | exact q | (simp only[Bool.and_eq_true,decide_eq_true_eq] at q;have:=q.1;omega))
def fnC (c:UInt8):Bool:=bN c||aR c
theorem F9 (s:List UInt8):Kj s=decide (1<=s.length/\s.length<=12/\(s.take 1).all bN=true/\s.all fnC=true):=by
 unfold Kj
 rw[Bool.eq_iff_iff]
 simp only[Bool.and_eq_true,decide_eq_true_eq,and_assoc]
 rfl
theorem Z1 (h:H) (x:kJ):Fr h (h.new x):=⟨Nat.le_succ _,fun c hc=>(H.eF _ _ _).trans (if_neg om)⟩
theorem Uv (s:List UInt8) (hb:s.length<=bl) (h:H):ai PP vc [st s] h (.v (.bool (Kj s)) h):=by
 have qS:bl=1000000000:=rfl
 refine aj.pure (Hv ?_) (by simp[flat])
 unfold ET aq
 have er:BC EE h 9 (st s)=some (pT h.next,h.new (.iter ⟨⟨s⟩⟩ 0)):=by
  unfold BC
  rw[kH];rfl
 rw[er,aa]
 have g0:(h.new (.iter ⟨⟨s⟩⟩ 0)).get h.next=some (.iter ⟨⟨s⟩⟩ 0):=(H.eF _ _ _).trans (if_pos rfl)
 refine aL.ind (fun s' h'=>Fr h h'/\∃ i:Nat,s'=[st s,pT h.next]/\h'.get h.next=some (.iter ⟨⟨s⟩⟩ i)/\i<=s.length/\(s.take i).all fnC=true/\(0<i->(s.take 1).all bN=true)) (fun _ h'=>match h'.get h.next with | some (.iter _ i)=>s.length-i | _=>0) ?_ ⟨Z1 _ _,0,rfl,g0,Nat.zero_le _,rfl,fun q=>by omega⟩
 rintro s' p ⟨f1,i,rfl,g1,hi,ha,hf⟩
 show tf _ _ (st s) (pT h.next) p
 have hg:∀ e:Option kJ,p.get h.next=e->(match p.get h.next with | some (.iter _ i)=>s.length-i | _=>0)=(match e with | some (.iter _ i)=>s.length-i | _=>0):=fun e q=>by rw[q]
 have m1:(match p.get h.next with | some (.iter _ i)=>s.length-i | _=>0)=s.length-i:=by rw[g1]
 rw[m1]
 unfold tf aq
 have en:EU p (pT h.next) true=some (EV p h.next ⟨⟨s⟩⟩ i):=by
  unfold EU
  simp only[g1]
 have hl:X.len (⟨⟨s⟩⟩:ByteArray).data.toList=s.length:=by rw[br]
 by_cases j:i<s.length
 . have U:EV p h.next ⟨⟨s⟩⟩ i=(.tuple ⟨[.bool true,.int .i64 i,.int .i32 (Utf8.decode ⟨⟨s⟩⟩ i).1]⟩,p.put h.next (.iter ⟨⟨s⟩⟩ (i+(Utf8.decode ⟨⟨s⟩⟩ i).2))):=by
    unfold EV
    rw[dx,hl,decide_eq_true j,cond_true]
   rw[en,aa,U]
   simp only[au,ao,ay,aa]
   rw[ae,if_pos rfl]
   have R:s.length-(i+1)<s.length-i:=om
   have F2:Fr h (p.put h.next (.iter ⟨⟨s⟩⟩ (i+(Utf8.decode ⟨⟨s⟩⟩ i).2))):=Wo f1 nlr _
   -- behind DB AhA
   have o:∀ y:Bool,y=!(bN s[i]||(decide (i≠0)&&aR s[i]))->df (fun v h'=>v=.bool (Kj s)/\Fr h h') (fun VC J=>(Fr h J/\∃ i:Nat,VC=[st s,pT h.next]/\J.get h.next=some (.iter ⟨⟨s⟩⟩ i)/\i<=s.length/\(s.take i).all fnC=true/\(0<i->(s.take 1).all bN=true))/\(match J.get h.next with | some (.iter _ i)=>s.length-i | _=>0)<s.length-i) (st s) (pT h.next) (.bool y) (p.put h.next (.iter ⟨⟨s⟩⟩ (i+(Utf8.decode ⟨⟨s⟩⟩ i).2))):=by
    rintro y rfl
    unfold df aq
    rw[ae]
    cases I:(bN s[i]||(decide (i≠0)&&aR s[i])) with
    | true =>
     rw[if_neg sm]
     have C:s[i].toNat<128:=by
      rw[Bool.or_eq_true,Bool.and_eq_true] at I
      rcases I with q | q
      . have:=wQ q;omega
      . have:=DW.1 q.2;omega
     rw[Ki s i j C] at F2 ⊢
     have gp:(p.put h.next (.iter ⟨⟨s⟩⟩ (i+1))).get h.next=some (.iter ⟨⟨s⟩⟩ (i+1)):=(H.d' _ _ _ _).trans (if_pos rfl)
     have hfc:fnC s[i]=true:=by
      unfold fnC
      rw[Bool.or_eq_true,Bool.and_eq_true] at I
      rw[Bool.or_eq_true]
      rcases I with q | q
      . exact .inl q
      . exact .inr q.2
     refine⟨⟨F2,i+1,rfl,gp,j,by rw[cQ _ _ _ j,ha,hfc];rfl,fun _=>?_⟩,?_⟩
     . by_cases h0:i=0
       . subst h0
         have:bN s[0]=true:=sp I
         cases s with
         | nil=>simp at j
         | cons c r=>simpa using this
       . exact hf om
     . rw[gp];exact R
    | false =>
     rw[if_pos sm]
     refine⟨?_,F2⟩
     rw[F9,decide_eq_false]
     rintro⟨_,_,q1,q2⟩
     rw[Bool.or_eq_false_iff,Bool.and_eq_false_iff] at I
     have hm:=(List.all_eq_true.1 q2) _ (List.getElem_mem j)
     unfold fnC at hm
     rw[I.1,Bool.false_or] at hm
     rcases I.2 with z | z
     . have h0:i=0:=sp z
       subst h0
       cases s with
       | nil=>simp at j
       | cons c r =>
        simp only[List.take_succ_cons,List.take_zero,List.all_cons,List.all_nil,Bool.and_true] at q1
        have:=I.1
        simp only[List.getElem_cons_zero] at this
        rw[this] at q1;exact absurd q1 sm
     . rw[z] at hm;exact absurd hm sm
   -- AhU DB rune is
   have key:∃ c:Nat,(Utf8.decode ⟨⟨s⟩⟩ i).1=c/\(bN s[i]=decide (65<=c/\c<=90))/\(aR s[i]=decide (48<=c/\c<=57)):=by
    by_cases C:s[i].toNat<128
    . refine⟨s[i].toNat,by rw[Ki s i j C],?_,vH _⟩
      unfold bN;simp
    . have:=Uu s i j om
      refine⟨_,rfl,?_,?_⟩
      . rw[decide_eq_false om];exact wU.2 om
      . rw[decide_eq_false om];exact LR.2 om
   obtain⟨c,ec,k1,k2⟩:=key
   rw[k1,k2] at o
   rw[ec]
   generalize p.put h.next (.iter ⟨⟨s⟩⟩ (i+(Utf8.decode ⟨⟨s⟩⟩ i).2))=h2 at *
   simp only[Go.X.binOp_lss,Go.X.binOp_gtr,Go.X.ak,aa,ag,decide_eq_true_eq,decide_eq_false_iff_not]
   by_cases c65:65<=c
   . rw[if_pos om]
     by_cases c90:c<=90
     . rw[if_neg om]
       exact o false (by rw[decide_eq_true ⟨c65,c90⟩];rfl)
     . rw[if_pos om]
       by_cases i0:i=0
       . rw[if_neg (by simp[i0])]
         exact o true (by rw[decide_eq_false om,decide_eq_false (by simp[i0])];rfl)
       . rw[if_pos om,if_pos om]
         refine o _ ?_
         rw[decide_eq_false (show ¬ (65<=c/\c<=90) by omega),decide_eq_true (show i≠0 from i0),decide_eq_false (show ¬ (48<=c/\c<=57) by omega),decide_eq_true om];rfl
   . rw[if_neg om]
     by_cases i0:i=0
     . rw[if_neg (by simp[i0])]
       exact o true (by rw[decide_eq_false om,decide_eq_false (by simp[i0])];rfl)
     . rw[if_pos om]
       by_cases c48:48<=c
       . rw[if_pos om]
         refine o _ ?_
         rw[decide_eq_false (show ¬ (65<=c/\c<=90) by omega),decide_eq_true (show i≠0 from i0),Bool.false_or,Bool.true_and,<-decide_not]
         exact decide_eq_decide.2 om
       . rw[if_neg om]
         exact o true (by rw[decide_eq_false (show ¬ (65<=c/\c<=90) by omega),decide_eq_false (show ¬ (48<=c/\c<=57) by omega),Bool.and_false];rfl)
 . have U:EV p h.next ⟨⟨s⟩⟩ i=(.tuple ⟨[.bool false]⟩,p):=by
    unfold EV
    rw[dx,hl,decide_eq_false j,cond_false]
   rw[en,aa,U]
   simp only[au,ao,ay,aa]
   rw[ae,if_neg sm,GH,Go.X.di,aa,ag]
   have Zz:i=s.length:=om
   subst Zz
   rw[List.take_length] at ha
   unfold rh aq
   by_cases h0:s=[]
   . rw[if_neg (by simp[h0])]
     exact⟨by rw[F9,decide_eq_false (by simp[h0])],f1⟩
   . rw[if_pos (by simp[h0]),eY,Go.X.binOp_leq,aa]
     have hp:=List.length_pos_iff.2 h0
     refine⟨?_,f1⟩
     rw[F9]
     refine congrArg Value.bool (decide_eq_decide.2 ?_)
     constructor
     . intro q;exact⟨hp,om,hf hp,ha⟩
     . rintro⟨_,q,_⟩;omega
structure KA (b:Nat) (h h':H):Prop where
 a:si b h h'
 k:EQ b h h'
theorem LP.row {h h':H} {b c:Nat} (e:h'.row b=h.row b) (l:LP h b c):LP h' b c:=fun lv nv av d at' x q=>l lv nv av d at' x (e ▸ q)
theorem EQ.row {h h':H} {b:Nat} (e:h'.row b=h.row b):EQ b h h':=fun _ _ l=>l.row e
theorem KA.of {b:Nat} {h h':H} (f:Fr h h') (hb:b<h.next):KA b h h':=⟨.of f,.row (bg (f.cK b hb))⟩
theorem KA.trans {b:Nat} {h h' j:H} (x:KA b h h') (y:KA b h' j):KA b h j :=
 ⟨⟨Nat.le_trans x.a.next y.a.next,fun c o h2=>(y.a.get c (Nat.lt_of_lt_of_le o x.a.next) h2).trans (x.a.get c o h2)⟩,fun c o l=>y.k c (Nat.lt_of_lt_of_le o x.a.next) (x.k c o l)⟩
theorem KA.fr {b:Nat} {h h' j:H} (x:KA b h h') (f:Fr h' j) (hb:b<h.next):KA b h j:=x.trans (.of f (Nat.lt_of_lt_of_le hb x.a.next))
theorem KA.new {b c0:Nat} {h h' j:H} (x:KA b h h') (f:eV c0 h' j) (hc:h.next<=c0) (hb:b<h.next):KA b h j :=
 ⟨x.a.new f hc,fun c o l=>(x.k c o l).row (bg (f.cK b (Nat.lt_of_lt_of_le hb x.a.next) om))⟩
section
variable {h0 h h':H} {b:Nat} {nv av:Value} {ts:List Tk} {ns:List Nd} {ars:List Int} {d x:Nat}
theorem RS.mR (r:RS h0 h b nv av ts ns ars d x) {c:Nat} {y:IP} (f:eV c h h') (hc:h0.next<=c) (j:h.row c=some y) (U:y.elem≠TR) (e2:y.elem≠TT) (e3:y.elem≠TN) (e4:y.elem≠3):RS h0 h' b nv av ts ns ars d x:=by
 obtain⟨⟨lv,at',r1,r2,p⟩,C,I,r6,J,r8⟩:=r
 have cb:b≠c:=fun e=>by subst e;rw[r1] at j;cases j;exact U rfl
 have R:bt lv c:=fun b2 o n cp q=>by
  obtain⟨k1,z,k2,k3⟩:=p b2 o n cp q
  intro e;subst e;rw[k2] at j;cases j;exact e2 k3
 exact⟨⟨lv,at',f.aQ r1 cb J,r2.mR f R,p.Ct f.next fun e o n cp q=>f.cK e (p e o n cp q).1 (R e o n cp q)⟩,C.mR f (C.ne j (Ne.symm e3)),I.mR f (I.ne j (Ne.symm e4)),r6,Nat.lt_of_lt_of_le J f.next,f.fr r8 hc⟩
theorem RS.frl (r:RS h0 h b nv av ts ns ars d x) {c:Nat} {y:IP} (f:eV c h h') (hc:h0.next<=c) (j:h.row c=some y) (U:y.elem≠TR) (lo:LP h b c) (e3:y.elem≠TN) (e4:y.elem≠3):RS h0 h' b nv av ts ns ars d x:=by
 obtain⟨⟨lv,at',r1,r2,p⟩,C,I,r6,J,r8⟩:=r
 have cb:b≠c:=fun e=>by subst e;rw[r1] at j;cases j;exact U rfl
 have R:bt lv c:=lo _ _ _ _ _ _ r1
 exact⟨⟨lv,at',f.aQ r1 cb J,r2.mR f R,p.Ct f.next fun e o n cp q=>f.cK e (p e o n cp q).1 (R e o n cp q)⟩,C.mR f (C.ne j (Ne.symm e3)),I.mR f (I.ne j (Ne.symm e4)),r6,Nat.lt_of_lt_of_le J f.next,f.fr r8 hc⟩
theorem RS.new (r:RS h0 h b nv av ts ns ars d x):LP h b h.next:=by
 obtain⟨⟨lv,at',r1,r2,j⟩,o,p,C,I,J⟩:=r
 exact .of r1 (r2.lt nlr)
structure rH (ts:List Tk):Prop where
 e:Od ts
 t:∀ t ∈ ts,t.text.length<=100000
theorem Od.cons {ts:List Tk} (e:Od ts):∃ t r,ts=t :: r:=by
 obtain⟨i,t,rfl,_,_⟩:=e.ex
 cases i with
 | nil=>exact⟨t,[],rfl⟩
 | cons y i=>exact⟨y,i++[t],rfl⟩
theorem Od.tail {t:Tk} {ts:List Tk} (e:Od (t :: ts)) (k:t.kind≠0):Od ts:=by
 obtain⟨i,z,j,h2,o⟩:=e.ex
 cases i with
 | nil=>simp only[List.nil_append,List.cons.injEq] at j;exact absurd (j.1 ▸ h2) k
 | cons y i =>
  simp only[List.cons_append,List.cons.injEq] at j
  exact⟨i,z,j.2,h2,fun x hx=>o x (List.mem_cons_of_mem _ hx)⟩
theorem rH.tail {t:Tk} {ts:List Tk} (e:rH (t :: ts)) (k:t.kind≠0):rH ts:=⟨e.e.tail k,fun y j=>e.t y (List.mem_cons_of_mem _ j)⟩
inductive Out (h0 h:H) (b:Nat) (nv av:Value) (ts:List Tk) (ns:List Nd) (ars:List Int) (d:Nat):PR Ex->Value->H->Prop
 | ok (e:Ex) (bE:List Tk) (gq i_:Value) (h':H) (fr:CF b nv av h gq i_ h') (rs:RS h0 h' b gq i_ bE (ns++e.lN ns.length ars.length) (ars++(e.ars ns.length).map Int.ofNat) d 0):Out h0 h b nv av ts ns ars d (.ok e bE) (vI (ns.length+e.sz-1)) h'
 | err (x k:Nat) (F_:List Nd) (rj:List Int) (gq i_:Value) (h':H) (hx:x≠0) (fr:CF b nv av h gq i_ h') (hn:F_.length<=ns.length+ts.length) (ha:rj.length<=ars.length+21 * ts.length) (rs:RS h0 h' b gq i_ [jW] F_ rj d x):Out h0 h b nv av ts ns ars d (.err x) (vI k) h'
theorem Out.pre {C:H} {j:List Tk} {R:PR Ex} {w:Value} (a:si b h C) (hl:j.length<=ts.length) (o:Out h0 C b nv av j ns ars d R w h'):Out h0 h b nv av ts ns ars d R w h':=by
 cases o with
 | ok e bE gq i_ h' fr rs=>exact .ok e bE gq i_ h' ((a.p nv av).trans fr) rs
 | err x k F_ rj gq i_ h' hx fr hn ha rs=>exact .err x k F_ rj gq i_ h' hx ((a.p nv av).trans fr) om om rs
theorem Out.leaf {j:H} {gq:Value} {l:Lf} {bE:List Tk} (fr:CF b nv av h gq av j) (rs:RS h0 j b gq av bE (ns++[l.nd]) ars d 0):Out h0 h b nv av ts ns ars d (.ok (.leaf l) bE) (vI ns.length) j:=by
 have:=Out.ok (h0:=h0) (h:=h) (b:=b) (nv:=nv) (av:=av) (ts:=ts) (ns:=ns) (ars:=ars) (d:=d) (.leaf l) bE gq av j fr (by simpa [Ex.lN,Ex.ars] using rs)
 simpa [Ex.sz] using this
theorem Out.fail {j:H} {e:Nat} (he:e≠0) (fr:si b h j) (rs:RS h0 j b nv av [jW] ns ars d e) (k:Nat):Out h0 h b nv av ts ns ars d (.err e) (vI k) j :=
 .err e k ns ars nv av j he (fr.p nv av) om om rs
def Sh (h0 h:H) (b:Nat) (nv av:Value) (ts:List Tk) (ns:List Nd) (ars:List Int) (d x:Nat) (p:Rf × Nat) (v:Value) (h':H):Prop:=KA b h h' ∧
 ∃ j,v=.tuple ⟨[NV j,.bool (decide (x=0/\p.2=0))]⟩ ∧
  (x≠0->RS h0 h' b nv av ts ns ars d x)/\(x=0->p.2=0->j=p.1/\RS h0 h' b nv av ts ns ars d 0) ∧
  (x=0->p.2≠0->RS h0 h' b nv av [jW] ns ars d p.2)
theorem pM (r:RS h0 h b nv av ts ns ars d x) (w:Tk) (hw:w.text.length<=100000):CP eK [pT b,Jf w] h (Sh h0 h b nv av ts ns ars d x (se w.text)):=by
 refine .call (tN ?_)
 unfold nT aq
 have j:=r.hi
 have hlo:=r.lo
 have hP:=fun h=>Je w.text (Nat.le_trans hw dc) h
 generalize se w.text=p at hP ⊢
 obtain⟨rf,C⟩:=p
 have hP:∀ h,ai PP uk [st w.text] h (.v (.tuple ⟨[NV rf,vI C]⟩) h):=hP
 refine fz fun R f1 q1 n1=>bP fun h2 f2 q2 n2=>?_
 have R2:=(r.fr f1).fr f2
 obtain⟨⟨lv,at',r1,r2,r3⟩,r4,r5,r6,r7,r8⟩:=id R2
 rw[Oh,aa,aE,aa,aA r1]
 show af (some (vI x)) _
 rw[aa,show (.int .i64 0:Value)=vI 0 from rfl,cX,aa,ae]
 have K2:KA b h h2:=.of (f1.trans f2) j
 by_cases hx:x=0
 . subst hx
   rw[if_neg sm,aE,aa,aA (f2.aQ q1 om)]
   show af (some (st w.text)) _
   rw[aa]
   refine ar (hP h2) ?_
   simp only[au,ao,ay,aa]
   refine bP fun h3 f3 q3 n3=>lV q3 rfl rfl rfl fun I f4 q4 n4=>?_
   have R3:=R2.fr f3
   have R4:RS h0 I b nv av ts ns ars d 0:=R3.mR f4 (by have:=r8.next;omega) q3 dc dc dc dc
   have K4:KA b h I:=(K2.fr f3 j).new f4 om j
   have q24:I.row R.next=_:=f4.aQ (f3.aQ q2 om) om om
   have J:∀ o:H,KA b h o->I.next<=o.next->o.row R.next=I.row R.next->o.row h2.next=I.row h2.next->(C=0->RS h0 o b nv av ts ns ars d 0)->(C≠0->RS h0 o b nv av [jW] ns ars d C) ->
    dS (Sh h0 h b nv av ts ns ars d 0 (rf,C)) (pT R.next) (pT h2.next) (vI C) o:=by
    intro o K5 n5 e1 e2 R5 R5'
    unfold dS aq
    rw[q24] at e1;rw[q4] at e2
    rw[cO (n:=5) e2 rfl,aa,show (.int .i64 0:Value)=vI 0 from rfl,cn,aa]
    refine lV e1 rfl rfl rfl fun h6 f6 q6 n6=>?_
    rw[EW WG Uj q6 rfl,aa]
    have hh:h0.next<=R.next:=Nat.le_trans r.PN.next f1.next
    refine⟨K5.new f6 om j,rf,?_,fun z=>absurd rfl z,fun _ z=>⟨rfl,(R5 z).mR f6 hh e1 dc dc dc dc⟩,fun _ z=>(R5' z).mR f6 hh e1 dc dc dc dc⟩
    by_cases q:C=0
    . rw[decide_eq_true q,decide_eq_true ⟨rfl,q⟩];rfl
    . rw[decide_eq_false q,decide_eq_false (fun z=>q z.2)];rfl
   rw[cX,aa,ae]
   by_cases U:C=0
   . rw[if_neg (by simp[U])]
     exact J I K4 nlr rfl rfl (fun _=>R4) (fun z=>absurd U z)
   . rw[if_pos (by simp[U]),cO (n:=6) (f4.aQ (f3.aQ (f2.aQ q1 om) om) om om) rfl,aa]
     refine (nR R4 w C U).mono ?_
     rintro v o ⟨rfl,A5,L5,R5⟩
     rw[if_pos rfl] at R5
     have hr:∀ c,c<I.next->c≠b->o.row c=I.row c:=fun c c1 c2=>bg (A5.get c c1 c2)
     exact J o (K4.trans ⟨A5,L5⟩) A5.next (hr _ om om) (hr _ om om) (fun z=>absurd z U) fun _=>R5
 . rw[if_pos (by simp[hx]),Acs,aa]
   refine lV q2 rfl rfl rfl fun h3 f3 q3 n3=>?_
   rw[EW WG Uj q3 rfl,aa]
   refine⟨K2.new f3 om j,ZR,?_,fun _=>R2.mR f3 (Nat.le_trans r.PN.next f1.next) q2 dc dc dc dc,fun z=>absurd z hx,fun z=>absurd z hx⟩
   rw[decide_eq_false (fun z=>hx z.1)]
   rfl
end
theorem AgK (p:Rf):bC EE 53 [(0,.int .i64 5),(7,NV p)]=some (Aq { tM with kind:=5,ref:=p }):=by kernel_rfl
theorem AgL (p q:Rf):bC EE 53 [(0,.int .i64 6),(7,NV p),(8,NV q)]=some (Aq { tM with kind:=6,ref:=p,to:=q }):=by kernel_rfl
theorem aM {k b o:Nat} {K:Value->Prop}:af (jx k (.pointer (some ⟨b,o,none⟩))) K=K (.pointer (some ⟨b,o+k,none⟩)):=by rw[aE,aa]
theorem aF {h:H} {p v:Value} {K:Value->Prop} (e:aw h p=some v):af (aw h p) K=K v:=by rw[e,aa]
section
variable {h0 h h':H} {b:Nat} {nv av:Value} {ts:List Tk} {ns:List Nd} {ars:List Int} {d x:Nat}
abbrev Z2 (p:Rf):IP:=⟨p.c,51,0,0,false⟩
theorem RS.Qr (r:RS h0 h b nv av ts ns ars d x) {c:Nat} {cs:List Value} (f:eV c h h') (hc:h0.next<=c) (j:h.row c=some ⟨cs,51,0,0,false⟩):RS h0 h' b nv av ts ns ars d x :=
 r.mR f hc j (show (51:TypeId)≠TR by decide) (show (51:TypeId)≠TT by decide) (show (51:TypeId)≠TN by decide) (show (51:TypeId)≠3 by decide)
theorem RS.frT (r:RS h0 h b nv av ts ns ars d x) {c:Nat} {cs:List Value} (f:eV c h h') (hc:h0.next<=c) (j:h.row c=some ⟨cs,TT,0,0,false⟩) (lo:LP h b c):RS h0 h' b nv av ts ns ars d x :=
 r.frl f hc j (show TT≠TR by decide) lo (show TT≠TN by decide) (show TT≠3 by decide)
abbrev tkB (t:Tk):IP:=⟨t.c,TT,0,0,false⟩
theorem Oj (r:RS h0 h b nv av ts ns ars d 0) {c0 j o:Nat} {t:Tk} {p q:Rf} (q0:h.row c0=some (tkB t)) (I:h.row j=some (Z2 p)) (J:h.row o=some (Z2 q)) (l0:c0<h.next) (l7:j<h.next) (l9:o<h.next) (hl:ns.length<100000000) {Q:Value->H->Prop}
 (R:∀ v h',Out h0 h b nv av ts ns ars d (if (fj (jY p q)).2≠0 then .err (fj (jY p q)).2 else .ok (.leaf (.vu p q)) ts) v h'->Q v h'):fZ Q (pT b) (pT c0) (pT j) (pT o) h:=by
 unfold fZ aq
 have C:=r.hi
 have e1:aw h (.pointer (some ⟨j,0+1,none⟩))=some (.int .i64 p.gX):=by rw[aA I];rfl
 have e2:aw h (.pointer (some ⟨j,0+2,none⟩))=some (.int .i64 p.row):=by rw[aA I];rfl
 have e3:aw h (.pointer (some ⟨o,0+1,none⟩))=some (.int .i64 q.gX):=by rw[aA J];rfl
 have e4:aw h (.pointer (some ⟨o,0+2,none⟩))=some (.int .i64 q.row):=by rw[aA J];rfl
 rw[aE,aa,e1,aa,aE,aa,e2,aa,aE,aa,e3,aa,aE,aa,e4,aa,bAr,aa]
 refine ar (AS (jY p q) h) ?_
 generalize fj (jY p q)=P at R ⊢
 obtain⟨a,e⟩:=P
 rw[show NT (a,e)=.tuple ⟨[WC a,vI e]⟩ from rfl]
 simp only[au,ao,ay,aa]
 refine bP fun h1 f1 U n1=>lV U rfl rfl rfl fun h2 f2 q2 n2=>?_
 have R2:RS h0 h2 b nv av ts ns ars d 0:=(r.fr f1).mR f2 r.PN.next U dc dc dc dc
 have K2:KA b h h2:=(KA.of f1 C).new f2 nlr C
 rw[show (.int .i64 0:Value)=vI 0 from rfl,cX,aa,ae]
 by_cases z:e=0
 . rw[if_neg (by simp[z]),cO (n:=5) (f2.aQ (f1.aQ I l7) om om) rfl,aa,cO (n:=5) (f2.aQ (f1.aQ J l9) om om) rfl,aa]
   rw[AgL p q,aa]
   refine (jF R2 _ hl).mono ?_
   rintro w h3 ⟨rfl,gq,F3,R3⟩
   refine R _ _ ?_
   rw[if_neg (show ¬ ((a,e).2≠0) from fun y=>y z)]
   exact Out.leaf (l:=.vu p q) ((K2.a.p nv av).trans F3) R3
 . rw[if_pos (by simp[z]),cO (n:=6) (f2.aQ (f1.aQ q0 l0) om om) rfl,aa]
   refine (nR R2 t e z).mono ?_
   rintro w h3 ⟨rfl,A3,L3,R3⟩
   refine R _ _ ?_
   rw[if_pos (show (a,e).2≠0 from z)]
   exact Out.fail (show (a,e).2≠0 from z) (K2.trans ⟨A3,L3⟩).a (by rw[if_pos rfl] at R3;exact R3) 0
def Z3 (a b:Rf):Rf × Rf:=(if b.gX<a.gX then { a with gX:=b.gX,fc:=b.fc } else a,if b.gX<a.gX then { b with gX:=a.gX,fc:=a.fc } else b)
def LS (a b:Rf):Rf × Rf:=(if b.row<a.row then { a with row:=b.row,fr:=b.fr } else a,if b.row<a.row then { b with row:=a.row,fr:=a.fr } else b)
theorem Z4 (a b:Rf):w4 a b=LS (Z3 a b).1 (Z3 a b).2:=by
 unfold w4 LS Z3
 by_cases q:b.gX<a.gX
 . simp only[if_pos q]
 . simp only[if_neg q]
theorem Ok (r:RS h0 h b nv av ts ns ars d 0) {c0 C I:Nat} {t:Tk} {p q:Rf} (q0:h.row c0=some (tkB t)) (J:h.row C=some (Z2 p)) (R:h.row I=some (Z2 q)) (l0:c0<h.next) (l7:C<h.next) (l9:I<h.next) (j:C≠I) (U:c0≠C) (h09:c0≠I) (m7:h0.next<=C) (m9:h0.next<=I) (hl:ns.length<100000000) {Q:Value->H->Prop} {hs:H} (ks:KA b hs h) (s7:hs.next<=C) (s9:hs.next<=I) (bs:b<hs.next)
 (hQ:∀ v h',Out h0 hs b nv av ts ns ars d (if (fj (jY (LS p q).1 (LS p q).2)).2≠0 then .err (fj (jY (LS p q).1 (LS p q).2)).2 else .ok (.leaf (.vu (LS p q).1 (LS p q).2)) ts) v h'->Q v h'):f_ Q (pT b) (pT c0) (pT C) (pT I) h:=by
 unfold f_ aq
 have cb7:C≠b:=om
 have e2:aw h (.pointer (some ⟨C,0+2,none⟩))=some (.int .i64 p.row):=by rw[aA J];rfl
 have e4:aw h (.pointer (some ⟨I,0+2,none⟩))=some (.int .i64 q.row):=by rw[aA R];rfl
 have e5:aw h (.pointer (some ⟨C,0+4,none⟩))=some (.bool p.fr):=by rw[aA J];rfl
 have e6:aw h (.pointer (some ⟨I,0+4,none⟩))=some (.bool q.fr):=by rw[aA R];rfl
 rw[aM,aF e2,aM,aF e4,Go.X.binOp_gtr,aa,ae]
 unfold LS at hQ
 by_cases g:q.row<p.row
 . rw[if_pos (sp g)]
   simp only[if_pos g] at hQ
   rw[aM,aF e4,aM,aF e2,aM,aF e6,aM,aF e5,aM]
   refine qY J rfl rfl (by show _<5;omega) fun h1 f1 r1 n1=>?_
   rw[aM]
   refine qY (f1.aQ R (Ne.symm j) l9) rfl rfl (by show _<5;omega) fun h2 f2 r2 n2=>?_
   rw[aM]
   refine qY (f2.aQ r1 j om) rfl rfl (by show _<5;omega) fun h3 f3 r3 n3=>?_
   rw[aM]
   refine qY (f3.aQ r2 (Ne.symm j) om) rfl rfl (by show _<5;omega) fun h4 f4 r4 n4=>?_
   have R1:=r.Qr f1 m7 J
   have R2:=R1.Qr f2 m9 (f1.aQ R (Ne.symm j) l9)
   have R3:=R2.Qr f3 m7 (f2.aQ r1 j om)
   have R4:=R3.Qr f4 m9 (f3.aQ r2 (Ne.symm j) om)
   have K4:KA b hs h4:=(((ks.new f1 s7 bs).new f2 s9 bs).new f3 s7 bs).new f4 s9 bs
   refine Oj R4 (c0:=c0) (t:=t) (p:={ p with row:=q.row,fr:=q.fr }) (q:={ q with row:=p.row,fr:=p.fr }) ?_ (f4.aQ r3 j om) r4 om om om hl fun v h' o=>hQ v h' (o.pre K4.a nlr)
   exact f4.aQ (f3.aQ (f2.aQ (f1.aQ q0 U l0) h09 om) U om) h09 om
 . rw[if_neg (sp g)]
   simp only[if_neg g] at hQ
   exact Oj r q0 J R l0 l7 l9 hl fun v h' o=>hQ v h' (o.pre ks.a nlr)
theorem WX (r:RS h0 h b nv av ts ns ars d x) (hx:x≠0) (s:List UInt8) (w:Tk) (hw:w.text.length<=100000):CP fm [pT b,st s,Jf w] h fun v h'=>v=vI 0/\KA b h h'/\RS h0 h' b nv av ts ns ars d x:=by
 refine .call (qA ?_)
 unfold nU aq
 have j:=r.hi
 refine fz fun J f1 C R=>?_
 rw[cO (n:=6) C rfl,aa]
 refine (pM (r.fr f1) w hw).mono ?_
 rintro v U ⟨o,rf,rfl,I,X2,X3⟩
 simp only[au,ao,ay,aa]
 refine bP fun h8 f8 p n8=>lV p rfl rfl rfl fun h9 f9 q9 n9=>?_
 rw[decide_eq_false (fun z=>hx z.1),aY,aa,ae,if_pos sm]
 have:=o.a.next
 have:=r.PN.next
 exact⟨rfl,(((KA.of f1 j).trans o).fr f8 j).new f9 om j,((I hx).fr f8).Qr f9 om p⟩
theorem Ol (r:RS h0 h b nv av ts ns ars d 0) (ok:rH ts) (s:List UInt8) (w:Tk) (hw:w.text.length<=100000) (hl:ns.length<100000000):CP fm [pT b,st s,Jf w] h (Out h0 h b nv av ts ns ars d (vN s w ts)):=by
 refine .call (qA ?_)
 unfold nU aq
 have j:=r.hi
 have h0n:=r.PN.next
 refine fz fun h1 f1 q1 n1=>?_
 rw[cO (n:=6) q1 rfl,aa]
 refine (pM (r.fr f1) w hw).mono ?_
 rintro v h4 ⟨K4',rf,rfl,X1,X2,X3⟩
 have K4:KA b h h4:=(KA.of f1 j).trans K4'
 have n4:=K4'.a.next
 simp only[au,ao,ay,aa]
 refine bP fun h8 f8 q8 n8=>lV q8 rfl rfl rfl fun h9 f9 q9 n9=>?_
 have K9:KA b h h9:=(K4.fr f8 j).new f9 om j
 rw[aY,aa,ae]
 unfold vN
 by_cases hp:(se w.text).2=0
 . rw[if_neg (by simp[hp]),if_neg (fun z=>z hp)]
   obtain⟨rfl,R4⟩:=X2 rfl hp
   generalize (se w.text).1=rf at *
   have R9:RS h0 h9 b nv av ts ns ars d 0:=(R4.fr f8).Qr f9 om q8
   rw[aE,aa]
   have q9':h9.row h4.next=some (Z2 rf):=q9
   refine qY q9' rfl rfl (by show _<5;omega) fun h14 f14 q14 n14=>?_
   have AeD:h14.row h4.next=some (Z2 { rf with aU:=s }):=q14
   have R14:=R9.Qr f14 om q9'
   have K14:KA b h h14:=K9.new f14 om j
   obtain⟨t,bE,Qt⟩:=ok.e.cons
   have AeE:h14.row h.next=some (tkB w):=f14.aQ (f9.aQ (f8.aQ (K4'.a.aQ q1 om om) om) om om) om om
   refine ar (te R14 Qt 8) ?_
   have hhd:hd ts=t:=by rw[Qt];rfl
   rw[aY,aa,ae,hhd]
   by_cases k8:t.kind=8
   . rw[if_neg (by simp[k8]),if_neg (fun z=>z k8)]
     refine (nQ R14 Qt).mono ?_
     rintro v h25 ⟨rfl,A25,L25,R25⟩
     have K25:KA b h h25:=K14.trans ⟨A25,L25⟩
     have n25:=A25.next
     rw[if_neg om] at R25
     have ok':rH bE:=(Qt ▸ ok).tail om
     obtain⟨t2,VF,R⟩:=ok'.e.cons
     refine (qy R25 R 3).mono ?_
     rintro v ZF ⟨A27,L27,Y1,Y2⟩
     have K27:KA b h ZF:=K25.trans ⟨A27,L27⟩
     have n27:=A27.next
     have I:ZF.row h.next=some (tkB w):=A27.aQ (A25.aQ AeE om om) om om
     have AeF:ZF.row h4.next=some (Z2 { rf with aU:=s }):=A27.aQ (A25.aQ AeD om om) om om
     have AeG:LP ZF b h.next:=by
      have l1:LP h1 b h.next:=(r.new).row (bg (f1.cK b j))
      exact L27 _ om (L25 _ om ((K4'.k _ om l1).row ((bg (f14.cK b om om)).trans ((bg (f9.cK b om om)).trans (bg (f8.cK b om))))))
     have d1:ts.drop 1=bE:=by rw[Qt];rfl
     have d2:ts.drop 2=VF:=by rw[Qt,R];rfl
     have AgM:hd bE=t2:=by rw[R];rfl
     rw[d1,d2,AgM]
     have PL:VF.length<=ts.length:=by rw[Qt,R];simp;omega
     by_cases k3:t2.kind=3
     . obtain⟨rfl,R27⟩:=Y1 k3
       rw[if_neg om] at R27
       rw[if_neg (fun z=>z k3)]
       refine lV I rfl rfl rfl fun h28 f28 q28 n28=>?_
       have R28:=R27.frT f28 om I AeG
       have K28:KA b h h28:=K27.new f28 om j
       rw[cO (n:=6) q28 rfl,aa]
       have Qm:t2.text.length<=100000:=ok'.t t2 (by rw[R];simp)
       refine (pM R28 t2 Qm).mono ?_
       rintro v Qu ⟨K31,J,rfl,X1,X2,X3⟩
       have n31:=K31.a.next
       simp only[au,ao,ay,aa]
       refine bP fun h35 f35 q35 n35=>lV q35 rfl rfl rfl fun C f36 q36 n36=>?_
       have K36:KA b h C:=((K28.trans K31).fr f35 j).new f36 om j
       rw[aY,aa,ae]
       by_cases Uw:(se t2.text).2=0
       . rw[if_neg (by simp[Uw]),if_neg (fun z=>z Uw)]
         obtain⟨rfl,R31⟩:=X2 rfl Uw
         generalize (se t2.text).1=J at *
         have R36:RS h0 C b nv av VF ns ars d 0:=(R31.fr f35).Qr f36 om q35
         have p7:C.row h4.next=some (Z2 { rf with aU:=s }):=f36.aQ (f35.aQ (K31.a.aQ (f28.aQ AeF om om) om om) om) om om
         have p0:C.row h.next=some (tkB t2):=f36.aQ (f35.aQ (K31.a.aQ q28 om om) om) om om
         have p9:C.row Qu.next=some (Z2 J):=q36
         have e1:aw C (.pointer (some ⟨h4.next,0+1,none⟩))=some (.int .i64 rf.gX):=by rw[aA p7];rfl
         have e2:aw C (.pointer (some ⟨Qu.next,0+1,none⟩))=some (.int .i64 J.gX):=by rw[aA p9];rfl
         have e3:aw C (.pointer (some ⟨h4.next,0+3,none⟩))=some (.bool rf.fc):=by rw[aA p7];rfl
         have e4:aw C (.pointer (some ⟨Qu.next,0+3,none⟩))=some (.bool J.fc):=by rw[aA p9];rfl
         rw[aM,aF e1,aM,aF e2,Go.X.binOp_gtr,aa,ae]
         simp only[Z4]
         unfold Z3
         by_cases g:J.gX<rf.gX
         . rw[if_pos (sp g)]
           simp only[if_pos g]
           rw[aM,aF e2,aM,aF e1,aM,aF e4,aM,aF e3,aM]
           have U:h4.next≠Qu.next:=om
           refine qY p7 rfl rfl (by show _<5;omega) fun g1 f1' r1 m1=>?_
           rw[aM]
           refine qY (f1'.aQ p9 (Ne.symm U) om) rfl rfl (by show _<5;omega) fun g2 f2 r2 m2=>?_
           rw[aM]
           refine qY (f2.aQ r1 U om) rfl rfl (by show _<5;omega) fun g3 f3 r3 m3=>?_
           rw[aM]
           refine qY (f3.aQ r2 (Ne.symm U) om) rfl rfl (by show _<5;omega) fun g4 f4 r4 m4=>?_
           have R1:=R36.Qr f1' om p7
           have R2:=R1.Qr f2 om (f1'.aQ p9 (Ne.symm U) om)
           have R3:=R2.Qr f3 om (f2.aQ r1 U om)
           have R4:=R3.Qr f4 om (f3.aQ r2 (Ne.symm U) om)
           have K4:KA b h g4:=(((K36.new f1' om j).new f2 om j).new f3 om j).new f4 om j
           refine Ok R4 (c0:=h.next) (t:=t2) (p:={ rf with aU:=s,gX:=J.gX,fc:=J.fc }) (q:={ J with gX:=rf.gX,fc:=rf.fc }) ?_ (f4.aQ r3 U om) r4 om om om U om om om om hl K4 om om j fun v h' o=>o.pre (si.refl b h) PL
           exact f4.aQ (f3.aQ (f2.aQ (f1'.aQ p0 om om) om om) om om) om om
         . rw[if_neg (sp g)]
           simp only[if_neg g]
           exact Ok R36 p0 p7 p9 om om om om om om om om hl K36 om om j fun v h' o=>o.pre (si.refl b h) PL
       . rw[if_pos (by simp[Uw]),if_pos Uw]
         exact Out.fail Uw K36.a (((X3 rfl Uw).fr f35).Qr f36 om q35) 0
     . obtain⟨rfl,R27⟩:=Y2 k3
       rw[if_pos rfl] at R27
       rw[if_pos k3]
       refine lV I rfl rfl rfl fun h28 f28 q28 n28=>?_
       have R28:=R27.frT f28 om I AeG
       have K28:KA b h h28:=K27.new f28 om j
       rw[cO (n:=6) q28 rfl,aa]
       refine (pM R28 jW (by simp[jW])).mono ?_
       rintro v Qu ⟨K31,J,rfl,X1,X2,X3⟩
       have n31:=K31.a.next
       simp only[au,ao,ay,aa]
       refine bP fun h35 f35 q35 n35=>lV q35 rfl rfl rfl fun C f36 q36 n36=>?_
       have K36:KA b h C:=((K28.trans K31).fr f35 j).new f36 om j
       rw[aY,aa,ae,if_pos sm]
       exact Out.fail dc K36.a (((X1 dc).fr f35).Qr f36 om q35) 0
   . rw[if_pos (by simp[k8]),if_pos k8,cO (n:=5) AeD rfl,aa]
     rw[AgK { rf with aU:=s },aa]
     refine (jF R14 _ hl).mono ?_
     rintro w' h3 ⟨rfl,gq,F3,R3⟩
     exact Out.leaf (l:=.cell { rf with aU:=s }) ((K14.a.p nv av).trans F3) R3
 . rw[if_pos (by simp[hp]),if_pos hp]
   exact Out.fail hp K9.a (((X3 rfl hp).fr f8).Qr f9 om q8) 0
end
theorem rH.ij {ts:List Tk} (ok:rH ts) (k:(hd ts).kind≠0):rH (ts.drop 1)/\(ts.drop 1).length+1=ts.length:=by
 obtain⟨t,r,rfl⟩:=ok.e.cons
 exact⟨ok.tail k,sm⟩
theorem zW {t:Tk} {n:Nat} (h:jw t n≠0):t.kind=4:=by
 by_cases q:t.kind=4
 . exact q
 . exact absurd (by unfold jw;rw[if_neg q]) h
theorem o_ {t:Tk} {c:UInt8} (h:oD t c=true):t.kind=4:=by
 unfold oD at h
 rw[Bool.and_eq_true] at h
 simpa using h.1
theorem Om:∀ (ts:List Tk) (a:Ex),rH ts->rH (kV a ts).2/\(kV a ts).1.sz+(kV a ts).2.length<=a.sz+ts.length
 | [],a,ok=>by obtain⟨t,r,e⟩:=ok.e.cons;cases e
 | t :: ts,a,ok=>by
  unfold kV
  by_cases q:oD t 37=true
  . rw[if_pos q]
    have k:=o_ q
    have:=Om ts (.un 14 a) (ok.tail om)
    simp only[Ex.sz,List.length_cons] at this ⊢
    exact⟨this.1,om⟩
  . rw[if_neg q];exact⟨ok,Nat.le_refl _⟩
theorem On {s:List UInt8} {w:Tk} {ts bE:List Tk} {e:Ex} (ok:rH ts) (h:vN s w ts=.ok e bE):rH bE/\e.sz+bE.length<=1+ts.length:=by
 unfold vN at h
 by_cases j:(se w.text).2≠0
 . rw[if_pos j] at h;cases h
 rw[if_neg j] at h
 by_cases o:(hd ts).kind≠8
 . rw[if_pos o] at h;cases h;exact⟨ok,by simp[Ex.sz]⟩
 rw[if_neg o] at h
 have d1:=ok.ij om
 by_cases p:(hd (ts.drop 1)).kind≠3
 . rw[if_pos p] at h;cases h
 rw[if_neg p] at h
 have d2:=d1.1.ij om
 rw[List.drop_drop] at d2;change rH (ts.drop 2)/\(ts.drop 2).length+1=_ at d2
 by_cases C:(se (hd (ts.drop 1)).text).2≠0
 . rw[if_pos C] at h;cases h
 rw[if_neg C] at h
 simp only at h
 split at h
 . cases h
 . cases h
   exact⟨d2.1,by simp only[Ex.sz];omega⟩
structure AgN (f:Nat):Prop where
 bA:∀ n d ts e bE,rH ts->fp f n d ts=some (.ok e bE)->rH bE/\e.sz+bE.length<=ts.length
 Ux:∀ n d a ts e bE,rH ts->w7 f n d a ts=some (.ok e bE)->rH bE/\e.sz+bE.length<=a.sz+ts.length
 min:∀ d ts e bE,rH ts->rm f d ts=some (.ok e bE)->rH bE/\e.sz+bE.length<=ts.length
 Si:∀ d ts e bE,rH ts->At f d ts=some (.ok e bE)->rH bE/\e.sz+bE.length<=ts.length
 sin:∀ d ts e bE,rH ts->nV f d ts=some (.ok e bE)->rH bE/\e.sz+bE.length<=ts.length
 Z5:∀ d t ts e bE,rH ts->sj f d t ts=some (.ok e bE)->rH bE/\e.sz+bE.length<=1+ts.length
 arg:∀ d n ts e bE,rH ts->mH f d n ts=some (.ok e bE)->rH bE/\e.sz+bE.length+1<=ts.length/\e.len<=e.sz
theorem DX:∀ f,AgN f
 | 0=>⟨fun n d ts e bE _ h=>by simp[fp] at h,fun n d a ts e bE _ h=>by simp[w7] at h,fun d ts e bE _ h=>by simp[rm] at h,fun d ts e bE _ h=>by simp[At] at h,fun d ts e bE _ h=>by simp[nV] at h,fun d t ts e bE _ h=>by simp[sj] at h,fun d n ts e bE _ h=>by simp[mH] at h⟩
 | f+1=>by
  have C:=DX f
  refine⟨fun n d ts e bE ok h=>?_,fun n d a ts e bE ok h=>?_,fun d ts e bE ok h=>?_,fun d ts e bE ok h=>?_,fun d ts e bE ok h=>?_,fun d t ts e bE ok h=>?_,fun d n ts e bE ok h=>?_⟩
  . unfold fp at h
    by_cases q:5<n
    . rw[if_pos q] at h;exact C.min _ _ _ _ ok h
    rw[if_neg q] at h
    cases j:fp f (n+1) d ts with
    | none=>rw[j] at h;cases h
    | some R =>
     cases R with
     | err x=>rw[j] at h;cases h
     | ok a t1 =>
      rw[j] at h
      have k:=C.bA _ _ _ _ _ ok j
      have I:=C.Ux _ _ _ _ _ _ k.1 h
      exact⟨I.1,om⟩
  . unfold w7 at h
    by_cases q:jw (hd ts) n=0
    . rw[if_pos q] at h;cases h;exact⟨ok,Nat.le_refl _⟩
    rw[if_neg q] at h
    have k0:=zW q
    have d1:=ok.ij om
    cases j:fp f (n+1) d (ts.drop 1) with
    | none=>rw[j] at h;cases h
    | some R =>
     cases R with
     | err x=>rw[j] at h;cases h
     | ok b t1 =>
      rw[j] at h
      have k:=C.bA _ _ _ _ _ d1.1 j
      have I:=C.Ux _ _ _ _ _ _ k.1 h
      simp only[Ex.sz] at I
      exact⟨I.1,om⟩
  . unfold rm at h
    by_cases q:oD (hd ts) 45=true
    . rw[if_pos q] at h
      have k0:=o_ q
      have d1:=ok.ij om
      by_cases o:d=24
      . rw[if_pos o] at h;cases h
      rw[if_neg o] at h
      cases j:rm f (d+1) (ts.drop 1) with
      | none=>rw[j] at h;cases h
      | some R =>
       cases R with
       | err x=>rw[j] at h;cases h
       | ok b t1 =>
        rw[j] at h
        cases h
        have k:=C.min _ _ _ _ d1.1 j
        exact⟨k.1,by simp only[Ex.sz];omega⟩
    . rw[if_neg q] at h;exact C.Si _ _ _ _ ok h
  . unfold At at h
    cases j:nV f d ts with
    | none=>rw[j] at h;cases h
    | some R =>
     cases R with
     | err x=>rw[j] at h;cases h
     | ok b t1 =>
      rw[j] at h
      have k:=C.sin _ _ _ _ ok j
      have I:=Om t1 b k.1
      cases h
      exact⟨I.1,om⟩
  . unfold nV at h
    by_cases p:(hd ts).kind=1
    . rw[if_pos p] at h
      have d1:=ok.ij om
      cases h;exact⟨d1.1,by simp only[Ex.sz];omega⟩
    rw[if_neg p] at h
    by_cases p:(hd ts).kind=2
    . rw[if_pos p] at h
      have d1:=ok.ij om
      cases h;exact⟨d1.1,by simp only[Ex.sz];omega⟩
    rw[if_neg p] at h
    by_cases p:(hd ts).kind=10
    . rw[if_pos p] at h
      have d1:=ok.ij om
      cases h;exact⟨d1.1,by simp only[Ex.sz];omega⟩
    rw[if_neg p] at h
    by_cases p:(hd ts).kind=5
    . rw[if_pos p] at h
      have d1:=ok.ij om
      by_cases o:d=24
      . rw[if_pos o] at h;cases h
      rw[if_neg o] at h
      cases j:fp f 1 (d+1) (ts.drop 1) with
      | none=>rw[j] at h;cases h
      | some R =>
       cases R with
       | err x=>rw[j] at h;cases h
       | ok b t1 =>
        rw[j] at h
        have k:=C.bA _ _ _ _ _ d1.1 j
        simp only at h
        by_cases J:(hd t1).kind=6
        . rw[if_pos J] at h;cases h
          have d2:=k.1.ij om
          exact⟨d2.1,om⟩
        . rw[if_neg J] at h;cases h
    rw[if_neg p] at h
    by_cases p:(hd ts).kind=3
    . rw[if_pos p] at h
      have d1:=ok.ij om
      have k:=C.Z5 _ _ _ _ _ d1.1 h
      exact⟨k.1,om⟩
    . rw[if_neg p] at h;cases h
  . unfold sj at h
    by_cases p:(hd ts).kind=5
    . rw[if_pos p] at h
      have d1:=ok.ij om
      by_cases o:Kj t.text=false
      . rw[if_pos o] at h;cases h
      rw[if_neg o] at h
      by_cases o:d=24
      . rw[if_pos o] at h;cases h
      rw[if_neg o] at h
      by_cases o:(hd (ts.drop 1)).kind=6
      . rw[if_pos o] at h
        have d2:=d1.1.ij om
        rw[List.drop_drop] at d2;change rH (ts.drop 2)/\(ts.drop 2).length+1=_ at d2
        cases h;exact⟨d2.1,by simp only[Ex.sz,bi.sz];omega⟩
      rw[if_neg o] at h
      cases j:mH f (d+1) 0 (ts.drop 1) with
      | none=>rw[j] at h;cases h
      | some R =>
       cases R with
       | err x=>rw[j] at h;cases h
       | ok b t1 =>
        rw[j] at h
        have k:=C.arg _ _ _ _ _ d1.1 j
        cases h
        exact⟨k.1,by simp only[Ex.sz];omega⟩
    rw[if_neg p] at h
    by_cases p:(hd ts).kind=9
    . rw[if_pos p] at h
      have d1:=ok.ij om
      by_cases o:r_ t.text=false
      . rw[if_pos o] at h;cases h
      rw[if_neg o] at h
      by_cases o:(hd (ts.drop 1)).kind≠3
      . rw[if_pos o] at h;cases h
      rw[if_neg o] at h
      have d2:=d1.1.ij om
      rw[List.drop_drop] at d2;change rH (ts.drop 2)/\(ts.drop 2).length+1=_ at d2
      have h':vN t.text (hd (ts.drop 1)) (ts.drop 2)=.ok e bE:=by injection h
      have k:=On d2.1 h'
      exact⟨k.1,om⟩
    rw[if_neg p] at h
    by_cases o:t.text=bT\/t.text=bF
    . rw[if_pos o] at h;cases h;exact⟨ok,by simp[Ex.sz]⟩
    . rw[if_neg o] at h
      have h':vN [] t ts=.ok e bE:=by injection h
      exact On ok h'
  . unfold mH at h
    by_cases p:n=20
    . rw[if_pos p] at h;cases h
    rw[if_neg p] at h
    cases j:fp f 1 d ts with
    | none=>rw[j] at h;cases h
    | some R =>
     cases R with
     | err x=>rw[j] at h;cases h
     | ok a t1 =>
      rw[j] at h
      have k:=C.bA _ _ _ _ _ ok j
      have ap:=a.Hr
      simp only at h
      by_cases J:(hd t1).kind=6
      . rw[if_pos J] at h;cases h
        have d2:=k.1.ij om
        exact⟨d2.1,by simp only[bi.sz];omega,by simp only[bi.sz,bi.len];omega⟩
      rw[if_neg J] at h
      by_cases q4:(hd t1).kind≠7
      . rw[if_pos q4] at h;cases h
      rw[if_neg q4] at h
      have d2:=k.1.ij om
      cases U:mH f d (n+1) (t1.drop 1) with
      | none=>rw[U] at h;cases h
      | some R =>
       cases R with
       | err x=>rw[U] at h;cases h
       | ok l t2 =>
        rw[U] at h
        have I:=C.arg _ _ _ _ _ d2.1 U
        cases h
        exact⟨I.1,by simp only[bi.sz];omega,by simp only[bi.sz,bi.len];omega⟩
mutual
theorem Ex.EY:∀ e:Ex,e.az<e.sz
 | .leaf _=>by simp[Ex.az,Ex.sz]
 | .un _ a=>by have:=a.EY;simp only[Ex.az,Ex.sz];omega
 | .bin _ a b=>by have:=a.EY;have:=b.EY;simp only[Ex.az,Ex.sz];omega
 | .call _ l=>by have:=l.WY;simp only[Ex.az,Ex.sz];omega
theorem bi.WY:∀ l:bi,l.az+l.len<=l.sz
 | .nil=>by simp[bi.az,bi.len,bi.sz]
 | .cons a l=>by have:=a.EY;have:=l.WY;simp only[bi.az,bi.len,bi.sz];omega
end
structure St (h0 h:H) (b:Nat) (nv av:Value) (ts:List Tk) (ns:List Nd) (ars:List Int) (d:Nat):Prop where
 r:RS h0 h b nv av ts ns ars d 0
 ok:rH ts
 bn:ns.length+ts.length<=10000
 ba:ars.length+21 * ts.length<=100000
 d:d<=24
theorem AeH (op k:Nat):bC EE 53 [(0,.int .i64 7),(1,vI op),(2,vI k)]=some (Aq { tM with kind:=7,op:=op,a:=(k:Nat) }):=by kernel_rfl
theorem Abq (op k m:Nat):bC EE 53 [(0,.int .i64 8),(1,vI op),(2,vI k),(3,vI m)]=some (Aq { tM with kind:=8,op:=op,a:=(k:Nat),b:=(m:Nat) }):=by kernel_rfl
def PR.un (op:Nat):PR Ex->PR Ex
 | .err e=>.err e
 | .ok a ts=>.ok (.un op a) ts
section
variable {h0 h h':H} {b:Nat} {nv av:Value} {ts:List Tk} {ns:List Nd} {ars:List Int} {d x:Nat}
theorem RS.dp (r:RS h0 h b nv av ts ns ars d x) (j:Nat) {K:H->Prop} (k:∀ h',KA b h h'->RS h0 h' b nv av ts ns ars j x->K h'):af (wa 1 h (.pointer (some ⟨b,0+3,none⟩)) (vI j)) K:=by
 obtain⟨⟨lv,at',r1,r2,C⟩,_⟩:=id r
 refine qY r1 rfl rfl (by show _<6;omega) fun o f1 p I=>?_
 have A:si b h o:=(si.refl b h).mR f1
 have l:=Se r1 rfl r2 C A
 exact k o ⟨A,fun c hc lo=>.of p (lo _ _ _ _ _ _ r1)⟩ (r.FF A p l.1 l.2)
theorem RS.cd (r:RS h0 h b nv av ts ns ars d x):aw h (.pointer (some ⟨b,0+3,none⟩))=some (vI d):=by
 obtain⟨⟨lv,at',r1,r2,j⟩,_⟩:=r
 rw[aA r1];rfl
theorem RS.cw (r:RS h0 h b nv av ts ns ars d x):aw h (.pointer (some ⟨b,0+5,none⟩))=some (vI x):=by
 obtain⟨⟨lv,at',r1,r2,j⟩,_⟩:=r
 rw[aA r1];rfl
theorem pa {K:Value->Prop}:af (db (pT b)) K=K (pT b):=rfl
theorem St.ka (s:St h0 h b nv av ts ns ars d) (r:RS h0 h' b nv av ts ns ars d 0):St h0 h' b nv av ts ns ars d:=⟨r,s.ok,s.bn,s.ba,s.d⟩
theorem EZ (s:St h0 h b nv av ts ns ars d) (t:Tk) {x5:Value} {R:PR Ex}
 (hN:d≠24->∀ h',KA b h h'->St h0 h' b nv av ts ns ars (d+1)->∀ K,(∀ v C,Out h0 h' b nv av ts ns ars (d+1) R v C->K v C)->DP x5 [] h' K) :
 CP c_ [pT b,Jf t,x5] h (Out h0 h b nv av ts ns ars d (if d=24 then .err 8 else R)):=by
 refine .call (nW ?_)
 unfold lD aq
 have I:=s.r.hi
 have hd:=s.d
 refine fz fun h1 f1 q1 n1=>?_
 have R1:=s.r.fr f1
 rw[pa,aM,aF R1.cd,show (.int .i64 24:Value)=vI 24 from rfl,cn,aa,ae]
 by_cases z:d=24
 . rw[if_pos (sp z),if_pos z,cO (n:=6) q1 rfl,aa]
   refine (nR R1 t 8 dc).mono ?_
   rintro v h2 ⟨rfl,A2,L2,R2⟩
   exact Out.fail dc ((KA.of f1 I).trans ⟨A2,L2⟩).a (by rw[if_pos rfl] at R2;exact R2) 0
 . rw[if_neg (sp z),if_neg z,pa,aM,aF R1.cd]
   have hw:X.binOp EE .add 3 (vI d) (.int .i64 1)=some (vI (d+1)):=dm EE 3 d 1 om
   rw[hw,aa,pa,aM]
   refine R1.dp (d+1) fun h2 K2 R2=>?_
   have j:KA b h h2:=(KA.of f1 I).trans K2
   refine hN z h2 j ⟨R2,s.ok,s.bn,s.ba,om⟩ _ fun v h3 o=>?_
   have J:X.binOp EE .sub 3 (vI (d+1)) (.int .i64 1)=some (vI d):=pX EE 3 (d+1) 1 om om
   cases o with
   | ok e bE gq i_ _ fr rs =>
    rw[pa,aM,aF rs.cd,J,aa,pa,aM]
    refine rs.dp d fun U K4 R4=>?_
    exact .ok e bE gq i_ U (((j.a.p nv av).trans fr).trans (K4.a.p _ _)) R4
   | err x k F_ rj gq i_ _ hx fr hn ha rs =>
    rw[pa,aM,aF rs.cd,J,aa,pa,aM]
    refine rs.dp d fun U K4 R4=>?_
    exact .err x k F_ rj gq i_ U hx (((j.a.p nv av).trans fr).trans (K4.a.p _ _)) hn ha R4
theorem Out.un {R h2:H} {C:List Tk} {R1:PR Ex} {v:Value} (o:Out h0 R b nv av C ns ars d R1 v h2) (op:Nat) (a:si b h R) (hl:C.length+1<=ts.length) (bn:ns.length+ts.length<=10000) (hs:∀ e bE,R1=.ok e bE->e.sz<=10000) :
 ∃ k:Nat,v=vI k/\CP bh [pT b,Aq { tM with kind:=7,op:=op,a:=(k:Nat) }] h2 (Out h0 h b nv av ts ns ars d (R1.un op)):=by
 cases o with
 | ok e bE gq i_ _ fr rs =>
  refine⟨_,rfl,(jF rs _ (by rw[List.length_append,Ex.cf];have:=hs e bE rfl;omega)).mono ?_⟩
  rintro w I ⟨rfl,j,J,R3⟩
  have:=Out.ok (h0:=h0) (h:=h) (b:=b) (nv:=nv) (av:=av) (ts:=ts) (ns:=ns) (ars:=ars) (d:=d) (.un op e) bE j i_ I (((a.p nv av).trans fr).trans J) (by simpa [Ex.lN,Ex.ars,List.append_assoc] using R3)
  simp only[Ex.sz] at this
  rw[List.length_append,Ex.cf]
  exact this
 | err x k F_ rj gq i_ _ hx fr hn ha rs =>
  refine⟨k,rfl,(jF rs _ om).mono ?_⟩
  rintro w I ⟨rfl,j,J,R3⟩
  exact .err x _ _ rj j i_ I hx (((a.p nv av).trans fr).trans J) so om R3
abbrev LU (f:Nat):Prop:=∀ {h0 h:H} {b:Nat} {nv av:Value} {ts:List Tk} {ns:List Nd} {ars:List Int} {d n:Nat} {R:PR Ex},fp f n d ts=some R->n<=5->St h0 h b nv av ts ns ars d->CP gK [pT b,vI n] h (Out h0 h b nv av ts ns ars d R)
abbrev Z6 (f:Nat):Prop:=∀ {h0 h:H} {b:Nat} {nv av:Value} {ts:List Tk} {ns:List Nd} {ars:List Int} {d:Nat} {R:PR Ex},rm f d ts=some R->St h0 h b nv av ts ns ars d->CP cP [pT b] h (Out h0 h b nv av ts ns ars d R)
abbrev AcC (f:Nat):Prop:=∀ {h0 h:H} {b:Nat} {nv av:Value} {ts:List Tk} {ns:List Nd} {ars:List Int} {d:Nat} {R:PR Ex},At f d ts=some R->St h0 h b nv av ts ns ars d->CP jy [pT b] h (Out h0 h b nv av ts ns ars d R)
abbrev AcD (f:Nat):Prop:=∀ {h0 h:H} {b:Nat} {nv av:Value} {ts:List Tk} {ns:List Nd} {ars:List Int} {d:Nat} {R:PR Ex},nV f d ts=some R->St h0 h b nv av ts ns ars d->CP jZ [pT b] h (Out h0 h b nv av ts ns ars d R)
theorem St.rest (s:St h0 h b nv av ts ns ars d) {t:Tk} {bE:List Tk} (j:ts=t :: bE) (k:t.kind≠0) (r:RS h0 h' b nv av bE ns ars d 0):St h0 h' b nv av bE ns ars d :=
 ⟨r,(j ▸ s.ok).tail k,by have:=s.bn;rw[j,List.length_cons] at this;omega,by have:=s.ba;rw[j,List.length_cons] at this;omega,s.d⟩
theorem RS.tx (r:RS h0 h b nv av ts ns ars d x) {t:Tk} {bE:List Tk} (j:ts=t :: bE):∃ lv b1 o,aw h (.pointer (some ⟨b,0+0,none⟩))=some lv/\AB 6 lv (.int .i64 0)=some (.pointer (some ⟨b1,o,none⟩))/\aw h (.pointer (some ⟨b1,o+1,none⟩))=some (st t.text):=by
 obtain⟨⟨lv,at',r1,r2,J⟩,_⟩:=r
 obtain⟨b1,o,C,p⟩:=r2.ZZ (i:=0) (by rw[j];simp) 1 dc
 have I:ts[0]'(by rw[j];simp)=t:=by simp[j]
 rw[I] at p
 exact⟨lv,b1,o,by rw[aA r1];rfl,C,p⟩
theorem Z7 {f:Nat} (mh:Z6 f) (ph:AcC f):Z6 (f+1):=by
 intro h0 h b nv av ts ns ars d R p s
 refine .call (yc ?_)
 unfold tg aq
 unfold rm at p
 obtain⟨t,bE,j⟩:=s.ok.e.cons
 have U:hd ts=t:=by rw[j];rfl
 have WZ:ts.drop 1=bE:=by rw[j];rfl
 rw[U,WZ] at p
 refine ar (te s.r j 4) ?_
 rw[aY,aa,ag]
 have J:∀ y:Bool,y=!(oD t 45)->ga (Out h0 h b nv av ts ns ars d R) (pT b) (.bool y) h:=by
  intro y hy
  unfold ga aq
  rw[ae]
  by_cases q:oD t 45=true
  . rw[if_pos q] at p
    rw[hy,q,if_neg sm]
    have hk:=o_ q
    refine (nQ s.r j).mono ?_
    rintro v h1 ⟨rfl,A1,L1,R1⟩
    rw[if_neg om] at R1
    have s1:=s.rest j om R1
    have hl:bE.length+1<=ts.length:=by rw[j];simp
    have bn:=s.bn
    obtain⟨R2,e2,hs2,hR2⟩:∃ R2:PR Ex,(d≠24->rm f (d+1) bE=some R2)/\(d≠24->∀ e I,R2=.ok e I->e.sz<=10000)/\R=(if d=24 then PR.err 8 else R2).un 13:=by
     by_cases z:d=24
     . rw[if_pos z] at p;cases p
       exact⟨.err 0,fun y=>absurd z y,fun y=>absurd z y,by rw[if_pos z];rfl⟩
     . rw[if_neg z] at p
       cases C:rm f (d+1) bE with
       | none=>rw[C] at p;cases p
       | some R2 =>
        refine⟨R2,fun _=>rfl,fun _ e I q=>?_,?_⟩
        . subst q
          have:=(DX f).min _ _ _ _ s1.ok C
          omega
        . rw[C] at p
          rw[if_neg z]
          cases R2 with
          | err x=>cases p;rfl
          | ok a t1=>cases p;rfl
    refine (EZ s1 t (x5:=.func (.func cP) ⟨[pT b]⟩ ⟨[]⟩) (R:=R2) fun z h2 K2 s2 K hK=>EM (show CP cP [pT b] h2 K from (mh (e2 z) s2).mono hK)).mono ?_
    intro v h2 o
    obtain⟨k,rfl,c⟩:=o.un 13 A1 hl bn (fun e I q=>by
     by_cases z:d=24
     . rw[if_pos z] at q;cases q
     . rw[if_neg z] at q;exact hs2 z e I q)
    have eb:bC EE 53 [(0,.int .i64 7),(1,.int .i64 13),(2,vI k)]=some (Aq { tM with kind:=7,op:=(13:Nat),a:=(k:Nat) }):=AeH 13 k
    rw[eb,aa]
    refine c.mono fun w h3 o3=>?_
    rw[hR2];exact o3
  . rw[if_neg q] at p
    rw[hy,Bool.not_eq_true] at *
    rw[q,if_pos (by rfl)]
    exact (ph p s).mono fun v h1 o=>o
 by_cases k:t.kind=4
 . rw[if_pos (by simp[k])]
   obtain⟨lv,b1,o1,C,e2,e3⟩:=s.r.tx j
   rw[pa,aM,aF C,e2,aa,aM,aF e3]
   refine ar (vK 13 h) ?_
   refine⟨e3,C,?_⟩
   rw[show As 13=[45] from rfl,Go.X.di,aa]
   refine J _ ?_
   unfold oD
   rw[decide_eq_true k,Bool.true_and]
   by_cases q:t.text=[45] <;> simp[q]
 . rw[if_neg (by simp[k])]
   refine J true ?_
   unfold oD
   rw[decide_eq_false k];rfl
end
section
variable {h0 h h':H} {b:Nat} {nv av:Value} {ts:List Tk} {ns:List Nd} {ars:List Int} {d x:Nat}
abbrev AeI (Q:Value->H->Prop):(List Value->H->Prop)->List Value->H->Prop:=fun j s h=>cJ Q j (aI s 0) (aI s 1) h
theorem Z8 {I:H} {a:Ex} {p:List Tk} {C j:Value} (op:Nat) (rs:RS h0 I b C j p (ns++a.lN ns.length ars.length) (ars++(a.ars ns.length).map Int.ofNat) d 0) (hb:ns.length+a.sz<=10000) :
 CP bh [pT b,Aq { tM with kind:=7,op:=op,a:=((ns.length+a.sz-1:Nat):Int) }] I fun w h2=>w=vI (ns.length+(Ex.un op a).sz-1)/\∃ o,CF b C j I o j h2/\RS h0 h2 b o j p (ns++(Ex.un op a).lN ns.length ars.length) (ars++((Ex.un op a).ars ns.length).map Int.ofNat) d 0:=by
 refine (jF rs _ (by rw[List.length_append,Ex.cf];omega)).mono ?_
 rintro w R ⟨rfl,o,J,R3⟩
 refine⟨?_,o,J,by simpa [Ex.lN,Ex.ars,List.append_assoc] using R3⟩
 rw[List.length_append,Ex.cf];rfl
theorem W3 {I:H} {a c:Ex} {p:List Tk} {C j:Value} (op:Nat) (rs:RS h0 I b C j p ((ns++a.lN ns.length ars.length)++c.lN (ns++a.lN ns.length ars.length).length (ars++(a.ars ns.length).map Int.ofNat).length) ((ars++(a.ars ns.length).map Int.ofNat)++(c.ars (ns++a.lN ns.length ars.length).length).map Int.ofNat) d 0) (hb:ns.length+a.sz+c.sz<=10000) :
 CP bh [pT b,Aq { tM with kind:=8,op:=op,a:=((ns.length+a.sz-1:Nat):Int),b:=((ns.length+a.sz+c.sz-1:Nat):Int) }] I fun w h2=>w=vI (ns.length+(Ex.bin op a c).sz-1)/\∃ o,CF b C j I o j h2/\RS h0 h2 b o j p (ns++(Ex.bin op a c).lN ns.length ars.length) (ars++((Ex.bin op a c).ars ns.length).map Int.ofNat) d 0:=by
 refine (jF rs _ (by simp only[List.length_append,Ex.cf];omega)).mono ?_
 rintro w R ⟨rfl,o,J,R3⟩
 refine⟨?_,o,J,by simpa [Ex.lN,Ex.ars,List.append_assoc,Ex.cf,Ex.dR] using R3⟩
 simp only[List.length_append,Ex.cf,Ex.sz]
 exact congrArg (fun k:Nat=>vI k) om
theorem Oo (hb:ns.length+ts.length<=10000):∀ (j:List Tk) (a:Ex) (C o:Value) (I:H),rH j->a.sz+j.length<=ts.length->CF b nv av h C o I ->
 RS h0 I b C o j (ns++a.lN ns.length ars.length) (ars++(a.ars ns.length).map Int.ofNat) d 0->aL (AeI (Out h0 h b nv av ts ns ars d (.ok (kV a j).1 (kV a j).2))) [pT b,vI (ns.length+a.sz-1)] I
 | [],a,C,o,I,ok,_,_,_=>by obtain⟨t,r,e⟩:=ok.e.cons;cases e
 | t :: j,a,C,o,I,ok,hl,U,R1=>by
  refine aL.unfold ?_
  show cJ _ _ (pT b) (vI (ns.length+a.sz-1)) I
  unfold cJ aq
  refine ar (te R1 rfl 4) ?_
  rw[ag]
  have J:∀ y:Bool,y=oD t 37->dy (Out h0 h b nv av ts ns ars d (.ok (kV a (t :: j)).1 (kV a (t :: j)).2)) (aL (AeI (Out h0 h b nv av ts ns ars d (.ok (kV a (t :: j)).1 (kV a (t :: j)).2)))) (pT b) (vI (ns.length+a.sz-1)) (.bool y) I:=by
   rintro y rfl
   unfold dy aq
   rw[ae]
   unfold kV
   by_cases q:oD t 37=true
   . rw[q,if_pos rfl,if_pos rfl]
     have hk:=o_ q
     refine (nQ R1 rfl).mono ?_
     rintro v h2 ⟨rfl,A2,L2,R2⟩
     rw[if_neg om] at R2
     have eb:bC EE 53 [(0,.int .i64 7),(1,.int .i64 14),(2,vI (ns.length+a.sz-1))]=some (Aq { tM with kind:=7,op:=(14:Nat),a:=((ns.length+a.sz-1:Nat):Int) }):=AeH 14 _
     rw[eb,aa]
     refine (Z8 14 R2 (by rw[List.length_cons] at hl;omega)).mono ?_
     rintro w h3 ⟨rfl,R,F3,R3⟩
     exact Oo hb j (.un 14 a) R o h3 (ok.tail om) (by rw[List.length_cons] at hl;simp only[Ex.sz];omega) ((U.trans (A2.p _ _)).trans F3) R3
   . rw[Bool.not_eq_true] at q
     rw[q,if_neg sm,if_neg sm]
     exact .ok a (t :: j) C o I U R1
  by_cases k:t.kind=4
  . rw[if_pos (by simp[k])]
    obtain⟨lv,b1,o1,e1,e2,e3⟩:=R1.tx rfl
    rw[pa,aM,aF e1,e2,aa,aM,aF e3]
    refine ar (vK 14 I) ?_
    refine⟨e3,e1,?_⟩
    rw[show As 14=[37] from rfl,Go.X.bf,aa]
    refine J _ ?_
    unfold oD
    rw[decide_eq_true k,Bool.true_and]
  . rw[if_neg (by simp[k])]
    refine J false ?_
    unfold oD
    rw[decide_eq_false k];rfl
theorem Z9 {f:Nat} (sh:AcD f):AcC (f+1):=by
 intro h0 h b nv av ts ns ars d R j s
 refine .call (vO ?_)
 unfold qB aq
 unfold At at j
 cases p:nV f d ts with
 | none=>rw[p] at j;cases j
 | some R1 =>
  refine (sh p s).mono ?_
  intro v C o
  cases o with
  | ok a I J U _ F1 r1 =>
   rw[p] at j
   cases j
   have k:=(DX f).sin _ _ _ _ s.ok p
   exact Oo s.bn I a J U C k.1 k.2 F1 r1
  | err x k F_ rj gq i_ _ hx fr hn ha rs =>
   rw[p] at j
   cases j
   refine aL.unfold ?_
   show cJ _ _ (pT b) (vI k) C
   unfold cJ aq
   refine ar (te rs rfl 4) ?_
   rw[ag,if_neg (by simp[jW])]
   unfold dy aq
   rw[ae,if_neg sm]
   exact .err x k F_ rj gq i_ C hx fr hn ha rs
abbrev AgO (Q:Value->H->Prop):(List Value->H->Prop)->List Value->H->Prop:=fun j s h=>cj Q j (aI s 0) (aI s 1) (aI s 2) (aI s 3) (aI s 4) h
abbrev AeJ (g n b c0 c2:Nat) (x5:Value):Prop:=∀ {h0 h:H} {nv av:Value} {ts:List Tk} {ns:List Nd} {ars:List Int} {d:Nat} {R:PR Ex},fp g (n+1) d ts=some R->St h0 h b nv av ts ns ars d ->
 (∃ e,h.row c0=some ⟨[pT b],e,0,0,false⟩)->(∃ e,h.row c2=some ⟨[vI n],e,0,0,false⟩)->∀ K:Value->H->Prop,(∀ v h',Out h0 h b nv av ts ns ars d R v h'->K v h')->DP x5 [] h K
theorem Oq {Q:Value->H->Prop} {n c0 c2 F:Nat} {x5:Value} {R:PR Ex} {e0 e2:TypeId} (hN:∀ g ≤ F,AeJ g n b c0 c2 x5) (hb:ns.length+ts.length<=10000) (ha:ars.length+21 * ts.length<=100000) (AeK:d<=24) (hQ:∀ v h',Out h0 h b nv av ts ns ars d R v h'->Q v h')
 (r0:h.row c0=some ⟨[pT b],e0,0,0,false⟩) (r2:h.row c2=some ⟨[vI n],e2,0,0,false⟩) (l0:c0<h.next) (l2:c2<h.next) (n0:c0≠b) (n2:c2≠b) (o1:bt nv c0) (o2:bt av c0) (o3:bt nv c2) (o4:bt av c2) :
 ∀ (f:Nat) (j:List Tk) (a:Ex) (C I:Value) (h1:H),f<=F+1->w7 f n d a j=some R->rH j->a.sz+j.length<=ts.length->CF b nv av h C I h1 ->
 RS h0 h1 b C I j (ns++a.lN ns.length ars.length) (ars++(a.ars ns.length).map Int.ofNat) d 0->aL (AgO Q) [pT c0,pT c2,x5,vI (ns.length+a.sz-1),vI (jw (hd j) n)] h1
 | 0,j,a,C,I,h1,hf,hR,ok,hl,F1,R1=>by simp[w7] at hR
 | f+1,j,a,C,I,h1,hf,hR,ok,hl,F1,R1=>by
  refine aL.unfold ?_
  show cj _ _ (pT c0) (pT c2) x5 (vI (ns.length+a.sz-1)) (vI (jw (hd j) n)) h1
  unfold cj aq
  unfold w7 at hR
  rw[show (.int .i64 0:Value)=vI 0 from rfl,cX,aa,ae]
  by_cases q:jw (hd j) n=0
  . rw[if_neg (by simp[q])]
    rw[if_pos q] at hR
    cases hR
    exact hQ _ _ (.ok a j C I h1 F1 R1)
  . rw[if_pos (by simp[q])]
    rw[if_neg q] at hR
    have hk:=zW q
    obtain⟨t,U,rfl⟩:=ok.e.cons
    have WZ:(t :: U).drop 1=U:=rfl
    rw[WZ] at hR
    have hk:t.kind=4:=hk
    rw[aA (F1.row r0 l0 n0 o1 o2),ao,aa]
    refine (nQ R1 rfl).mono ?_
    rintro v h2 ⟨rfl,A2,L2,R2⟩
    rw[if_neg om] at R2
    have F2:=F1.trans (A2.p C I)
    have ok2:=ok.tail om
    rw[List.length_cons] at hl
    have az:=a.EY
    have s2:St h0 h2 b C I U (ns++a.lN ns.length ars.length) (ars++(a.ars ns.length).map Int.ofNat) d :=
     ⟨R2,ok2,by rw[List.length_append,Ex.cf];omega,by rw[List.length_append,List.length_map,Ex.dR];omega,AeK⟩
    cases e1:fp f (n+1) d U with
    | none=>rw[e1] at hR;cases hR
    | some R2' =>
     refine hN f om e1 s2 ⟨_,F2.row r0 l0 n0 o1 o2⟩ ⟨_,F2.row r2 l2 n2 o3 o4⟩ _ ?_
     intro v h3 o
     rw[e1] at hR
     cases o with
     | ok c Uy nv3 av3 _ F3 R3 =>
      have F3':=F2.trans F3
      have k:=(DX f).bA _ _ _ _ _ ok2 e1
      rw[aA (F3'.row r0 l0 n0 o1 o2),ao,aa,List.length_append,Ex.cf]
      rw[Abq,aa]
      refine (W3 (jw (hd (t :: U)) n) R3 om).mono ?_
      rintro w h4 ⟨rfl,nv4,F4,R4⟩
      have J:=F3'.trans F4
      rw[aA (J.row r0 l0 n0 o1 o2),ao,aa,aA (J.row r2 l2 n2 o3 o4),ao,aa]
      obtain⟨t3,ts4,e3⟩:=k.1.e.cons
      refine ar (uw R4 e3 n) ?_
      have:jw t3 n=jw (hd Uy) n:=by rw[e3];rfl
      rw[this]
      exact Oq hN hb ha AeK hQ r0 r2 l0 l2 n0 n2 o1 o2 o3 o4 f Uy (.bin (jw (hd (t :: U)) n) a c) nv4 av3 h4 om hR k.1 (by simp only[Ex.sz];omega) J R4
     | err x k F_ rj gq i_ _ hx fr hn VG rs =>
      cases hR
      have F3':=F2.trans fr
      rw[List.length_append,Ex.cf] at hn
      rw[List.length_append,List.length_map,Ex.dR] at VG
      rw[aA (F3'.row r0 l0 n0 o1 o2),ao,aa,Abq,aa]
      refine (jF rs _ om).mono ?_
      rintro w h4 ⟨rfl,nv4,F4,R4⟩
      have J:=F3'.trans F4
      rw[aA (J.row r0 l0 n0 o1 o2),ao,aa,aA (J.row r2 l2 n2 o3 o4),ao,aa]
      refine ar (uw R4 rfl n) ?_
      refine aL.unfold ?_
      show cj _ _ (pT c0) (pT c2) x5 (vI F_.length) (vI (jw jW n)) h4
      unfold cj aq
      have:jw jW n=0:=by unfold jw;rw[if_neg (by simp[jW])]
      rw[this,show (.int .i64 0:Value)=vI 0 from rfl,cX,aa,ae,if_neg sm]
      exact hQ _ _ (.err x _ _ rj nv4 i_ h4 hx J so om R4)
theorem Z_ {f:Nat} (lh:∀ g ≤ f,LU g) (mh:∀ g ≤ f,Z6 g):LU (f+1):=by
 intro h0 h b nv av ts ns ars d n R U hn s
 refine .call (yd ?_)
 unfold th aq
 have hbi:=s.r.hi
 rw[Ot,No]
 obtain⟨j,eA⟩:∃ j,j=X.newRow h 37 [pT b] 0:=⟨_,rfl⟩
 have fA:Fr h j:=by rw[eA];exact lB (Fr.refl h) _ _ _
 have rA:j.row h.next=some ⟨[pT b],37,0,0,false⟩:=by rw[eA,aS,if_pos rfl]
 have nA:j.next=h.next+1:=by rw[eA];rfl
 rw[<-eA]
 obtain⟨I,eB⟩:∃ I,I=X.newRow j 3 [vI n] 0:=⟨_,rfl⟩
 have fB:Fr j I:=by rw[eB];exact lB (Fr.refl j) _ _ _
 have rB:I.row j.next=some ⟨[vI n],3,0,0,false⟩:=by rw[eB,aS,if_pos rfl]
 have nB:I.next=j.next+1:=by rw[eB];rfl
 rw[<-eB]
 have p:=fB.aQ rA om
 have F:=fA.trans fB
 have RB:=s.r.fr F
 have sB:St h0 I b nv av ts ns ars d:=s.ka RB
 rw[aA p,ao,aa,aA rB,ao,aa,show (.int .i64 5:Value)=vI 5 from rfl,bI,aa,ae]
 unfold fp at U
 rw[if_neg om] at U
 have o1:bt nv h.next:=s.r.nodes.lt nlr
 have o2:bt av h.next:=s.r.args.lt nlr
 have o3:bt nv j.next:=s.r.nodes.lt om
 have o4:bt av j.next:=s.r.args.lt om
 have J:∀ x5,(∀ g ≤ f,AeJ g n b h.next j.next x5)->gd (Out h0 h b nv av ts ns ars d R) (pT h.next) (pT j.next) x5 I:=by
  intro x5 hN
  unfold gd aq
  cases C:fp f (n+1) d ts with
  | none=>rw[C] at U;cases U
  | some R1 =>
   rw[C] at U
   refine hN f nlr C sB ⟨_,p⟩ ⟨_,rB⟩ _ ?_
   intro v h3 o
   have pre:∀ {v h'},Out h0 I b nv av ts ns ars d R v h'->Out h0 h b nv av ts ns ars d R v h':=fun o=>o.pre (si.of F) nlr
   have e':(fun v h'=>Out h0 h b nv av ts ns ars d R v h')=Out h0 h b nv av ts ns ars d R:=rfl
   cases o with
   | ok a ts1 nv1 av1 _ F1 R1 =>
    have k:=(DX f).bA _ _ _ _ _ s.ok C
    have G1:CF b nv av h nv1 av1 h3:=(CF.AeA F).trans F1
    rw[aA (F1.row p om om o1 o2),ao,aa,aA (F1.row rB om om o3 o4),ao,aa]
    obtain⟨t3,ts4,e3⟩:=k.1.e.cons
    refine ar (uw R1 e3 n) ?_
    have:jw t3 n=jw (hd ts1) n:=by rw[e3];rfl
    rw[this]
    exact Oq (fun g hg=>hN g hg) s.bn s.ba s.d (fun v h' o=>pre o) p rB om om om om o1 o2 o3 o4 f ts1 a nv1 av1 h3 om U k.1 k.2 F1 R1
   | err x k F_ rj gq i_ _ hx fr hn VG rs =>
    cases U
    rw[aA (fr.row p om om o1 o2),ao,aa,aA (fr.row rB om om o3 o4),ao,aa]
    refine ar (uw rs rfl n) ?_
    refine aL.unfold ?_
    show cj _ _ (pT h.next) (pT j.next) x5 (vI k) (vI (jw jW n)) h3
    unfold cj aq
    have:jw jW n=0:=by unfold jw;rw[if_neg (by simp[jW])]
    rw[this,show (.int .i64 0:Value)=vI 0 from rfl,cX,aa,ae,if_neg sm]
    exact pre (.err x k F_ rj gq i_ h3 hx fr hn VG rs)
 by_cases q:n<5
 . rw[if_pos (sp q)]
   refine J _ fun g hg {h0 h1 nv av ts ns ars d R} C s1 ⟨t0,p0⟩ ⟨t2,p2⟩ K hK=>EM (show CP jz [pT h.next,pT j.next] h1 K from .call (vP ?_))
   unfold qC aq
   have hw:X.binOp EE .add 3 (vI n) (.int .i64 1)=some (vI (n+1)):=dm EE 3 n 1 om
   rw[aA p0,ao,aa,aA p2,ao,aa,hw,aa]
   exact (lh g hg C om s1).mono hK
 . rw[if_neg (sp q)]
   have hn5:n=5:=om
   subst hn5
   refine J _ fun g hg {h0 h1 nv av ts ns ars d R} C s1 _ _ K hK=>EM (show CP cP [pT b] h1 K from ?_)
   cases g with
   | zero=>simp[fp] at C
   | succ g =>
    unfold fp at C
    rw[if_pos om] at C
    exact (mh g om C s1).mono hK
end
theorem AgP (r:R3):bC EE 53 [(0,vI 1),(4,.agg ⟨[.bool r.neg,st r.num,st r.den]⟩)]=some (Aq { tM with kind:=1,num:=r }):=by kernel_rfl
theorem AgQ (s:List UInt8):bC EE 53 [(0,vI 2),(5,st s)]=some (Aq { tM with kind:=2,text:=s }):=by kernel_rfl
theorem AgR (b:Bool):bC EE 53 [(0,.int .i64 3),(6,.bool b)]=some (Aq { tM with kind:=3,uc:=b }):=by kernel_rfl
theorem AgS (n:Nat):bC EE 53 [(0,.int .i64 4),(1,vI n)]=some (Aq { tM with kind:=4,op:=n }):=by kernel_rfl
section
variable {h0 h h':H} {b:Nat} {nv av:Value} {ts:List Tk} {ns:List Nd} {ars:List Int} {d x:Nat}
abbrev AcE (f:Nat):Prop:=∀ {h0 h:H} {b:Nat} {nv av:Value} {ts:List Tk} {ns:List Nd} {ars:List Int} {d:Nat} {t:Tk} {R:PR Ex},sj f d t ts=some R->t.text.length<=100000->St h0 h b nv av ts ns ars d->CP lE [pT b,Jf t] h (Out h0 h b nv av ts ns ars d R)
abbrev AeL (f:Nat):Prop:=∀ {h0 h:H} {b:Nat} {nv av:Value} {ts:List Tk} {ns:List Nd} {ars:List Int} {d:Nat} {t:Tk} {R:PR Ex},(hd ts).kind=5->sj (f+1) d t ts=some R->t.text.length<=100000->St h0 h b nv av ts ns ars d->CP lF [pT b,Jf t] h (Out h0 h b nv av ts ns ars d R)
theorem y5 {f:Nat} (j:LU f) {R:PR Ex} (p:fp f 1 d ts=some R) (s:St h0 h b nv av ts ns ars d):CP cy [pT b] h (Out h0 h b nv av ts ns ars d R):=by
 refine .call (vQ ?_)
 unfold qD aq
 exact (j p om s).mono fun v h' o=>o
theorem Z' {f:Nat} (lh:LU f) (wh:AcE f):AcD (f+1):=by
 intro h0 h b nv av ts ns ars d R j s
 refine .call (w8 ?_)
 unfold rI aq
 unfold nV at j
 have hbi:=s.r.hi
 have bn:=s.bn
 have h0n:=s.r.PN.next
 obtain⟨t,bE,I⟩:=s.ok.e.cons
 have hhd:hd ts=t:=by rw[I];rfl
 have WZ:ts.drop 1=bE:=by rw[I];rfl
 rw[hhd,WZ] at j
 refine (nQ s.r I).mono ?_
 rintro v h1 ⟨rfl,A1,L1,R1⟩
 have K1:KA b h h1:=⟨A1,L1⟩
 have n1:=A1.next
 refine bP fun h2 f2 q2 n2=>lV q2 rfl rfl rfl fun h4 f4 q4 n4=>?_
 have lo:LP h2 b h1.next:=R1.new.row (bg (f2.cK b om))
 have R4:=(R1.fr f2).frT f4 om q2 lo
 have U:KA b h h4:=(K1.fr f2 hbi).new f4 om hbi
 have c0:aw h4 (.pointer (some ⟨h1.next,0+0,none⟩))=some (vI t.kind):=by rw[aA q4];rfl
 have c1:aw h4 (.pointer (some ⟨h1.next,0+1,none⟩))=some (st t.text):=by rw[aA q4];rfl
 have c3:fJ 3 h4 (.pointer (some ⟨h1.next,0+3,none⟩))=some (.agg ⟨[.bool t.num.neg,st t.num.num,st t.num.den]⟩):=by rw[qo,q4];rfl
 have hl:bE.length<=ts.length:=by rw[I];simp
 have hnl:ns.length<100000000:=om
 rw[aM,aF c0,show (.int .i64 1:Value)=vI 1 from rfl,cn,aa,ae]
 by_cases C:t.kind=1
 . rw[if_pos (sp C),aM,c3,aa,AgP,aa]
   rw[if_pos C] at j;cases j
   rw[if_neg om] at R4
   refine (jF R4 _ hnl).mono ?_
   rintro w h5 ⟨rfl,gq,F5,R5⟩
   exact Out.leaf (l:=.num t.num) ((U.a.p nv av).trans F5) R5
 rw[if_neg (sp C),show (.int .i64 2:Value)=vI 2 from rfl,cn,aa,ae]
 rw[if_neg C] at j
 by_cases C:t.kind=2
 . rw[if_pos (sp C),aM,aF c1,AgQ,aa]
   rw[if_pos C] at j;cases j
   rw[if_neg om] at R4
   refine (jF R4 _ hnl).mono ?_
   rintro w h5 ⟨rfl,gq,F5,R5⟩
   exact Out.leaf (l:=.Of t.text) ((U.a.p nv av).trans F5) R5
 rw[if_neg (sp C),show (.int .i64 10:Value)=vI 10 from rfl,cn,aa,ae]
 rw[if_neg C] at j
 by_cases C:t.kind=10
 . rw[if_pos (sp C),aM,aF c1]
   rw[if_pos C] at j;cases j
   rw[if_neg om] at R4
   refine ar (FA t.text h4) ?_
   simp only[au,ao,ay,aa]
   rw[AgS,aa]
   refine (jF R4 _ hnl).mono ?_
   rintro w h5 ⟨rfl,gq,F5,R5⟩
   exact Out.leaf (l:=.Og (MW t.text)) ((U.a.p nv av).trans F5) R5
 rw[if_neg (sp C),show (.int .i64 5:Value)=vI 5 from rfl,cn,aa,ae]
 rw[if_neg C] at j
 by_cases C:t.kind=5
 . rw[if_pos (sp C),cO (n:=6) q4 rfl,aa]
   rw[if_pos C] at j
   rw[if_neg om] at R4
   have s4:=s.rest I om R4
   obtain⟨R2,e2,J⟩:∃ R2:PR Ex,(d≠24->fp f 1 (d+1) bE=some R2)/\R=(match (if d=24 then PR.err 8 else R2) with | .err e=>.err e | .ok a t1=>if (hd t1).kind=6 then .ok a (t1.drop 1) else .err 10):=by
    by_cases z:d=24
    . rw[if_pos z] at j;cases j
      exact⟨.err 0,fun y=>absurd z y,by rw[if_pos z]⟩
    . rw[if_neg z] at j
      cases e1:fp f 1 (d+1) bE with
      | none=>rw[e1] at j;cases j
      | some R2 =>
       refine⟨R2,fun _=>rfl,?_⟩
       rw[e1] at j
       rw[if_neg z]
       cases R2 with
       | err x=>cases j;rfl
       | ok a t1 =>
        simp only at j ⊢
        split at j <;> cases j <;> simp[*]
   have hok:∀ a t1,(if d=24 then PR.err 8 else R2)=.ok a t1->rH t1/\a.sz+t1.length<=bE.length:=by
    intro a t1 q
    by_cases z:d=24
    . rw[if_pos z] at q;cases q
    . rw[if_neg z] at q;subst q
      exact (DX f).bA _ _ _ _ _ s4.ok (e2 z)
   refine (EZ s4 t (x5:=.func (.func cy) ⟨[pT b]⟩ ⟨[]⟩) (R:=R2) fun z h2 K2 s2 K hK=>EM (show CP cy [pT b] h2 K from (y5 lh (e2 z) s2).mono hK)).mono ?_
   intro v h5 o
   generalize (if d=24 then PR.err 8 else R2)=R3 at o J hok
   cases o with
   | ok a t1 nv1 av1 _ F5 R5 =>
    obtain⟨okk,pl⟩:=hok a t1 rfl
    obtain⟨t2,VF,Jl⟩:=okk.e.cons
    simp only at J
    have hh:hd t1=t2:=by rw[Jl];rfl
    have hd1:t1.drop 1=VF:=by rw[Jl];rfl
    rw[hh,hd1] at J
    refine (qy R5 Jl 6).mono ?_
    rintro w h6 ⟨A6,L6,Y1,Y2⟩
    by_cases k6:t2.kind=6
    . obtain⟨_,R6⟩:=Y1 k6
      rw[if_neg om] at R6
      rw[J,if_pos k6]
      exact .ok a VF nv1 av1 h6 (((U.a.p nv av).trans F5).trans (A6.p _ _)) R6
    . obtain⟨_,R6⟩:=Y2 k6
      rw[if_pos rfl] at R6
      rw[J,if_neg k6]
      have az:=a.EY
      exact .err 10 _ _ _ nv1 av1 h6 dc (((U.a.p nv av).trans F5).trans (A6.p _ _)) (by rw[List.length_append,Ex.cf];omega) (by rw[List.length_append,List.length_map,Ex.dR];omega) R6
   | err x k F_ rj gq i_ _ hx fr hn ha rs =>
    refine (qy rs rfl 6).mono ?_
    rintro w h6 ⟨A6,L6,Y1,Y2⟩
    obtain⟨_,R6⟩:=Y2 (by simp[jW])
    rw[if_neg hx] at R6
    rw[J]
    exact .err x k _ _ gq i_ h6 hx (((U.a.p nv av).trans fr).trans (A6.p _ _)) om om R6
 rw[if_neg (sp C),show (.int .i64 3:Value)=vI 3 from rfl,cn,aa,ae]
 rw[if_neg C] at j
 by_cases C:t.kind=3
 . rw[if_pos (sp C),cO (n:=6) q4 rfl,aa]
   rw[if_pos C] at j
   rw[if_neg om] at R4
   have s4:=s.rest I om R4
   exact (wh j (s.ok.t t (by rw[I];simp)) s4).mono fun v h' o=>o.pre U.a hl
 . rw[if_neg (sp C),cO (n:=6) q4 rfl,aa]
   rw[if_neg C] at j;cases j
   refine (nR R4 t 10 dc).mono ?_
   rintro v h5 ⟨rfl,A5,L5,R5⟩
   exact Out.fail dc (U.trans ⟨A5,L5⟩).a (by rw[if_pos rfl] at R5;exact R5) 0
theorem Aaa {f:Nat} (ch:AeL f):AcE (f+1):=by
 intro h0 h b nv av ts ns ars d t R C hw s
 refine .call (y6 ?_)
 unfold uz aq
 have hbi:=s.r.hi
 have bn:=s.bn
 have U:ns.length<100000000:=om
 refine fz fun h1 f1 q1 n1=>?_
 have K1:KA b h h1:=.of f1 hbi
 have R1:=s.r.fr f1
 have s1:=s.ka R1
 obtain⟨t2,VF,I⟩:=s.ok.e.cons
 have hhd:hd ts=t2:=by rw[I];rfl
 have WZ:ts.drop 1=VF:=by rw[I];rfl
 have c1:aw h1 (.pointer (some ⟨h.next,0+1,none⟩))=some (st t.text):=by rw[aA q1];rfl
 refine ar (te R1 I 5) ?_
 rw[ae]
 by_cases k5:t2.kind=5
 . rw[if_pos (sp k5),cO (n:=6) q1 rfl,aa]
   exact (ch (by rw[hhd];exact k5) C hw s1).mono fun v h' o=>o.pre K1.a nlr
 rw[if_neg (sp k5)]
 refine ar (te R1 I 9) ?_
 unfold sj at C
 rw[hhd,if_neg k5] at C
 rw[ae]
 by_cases k9:t2.kind=9
 . rw[if_pos (sp k9),aM,aF c1]
   rw[if_pos k9] at C
   refine ar (u7 t.text (by unfold bl;omega) h1) ?_
   rw[aY,aa,ae]
   by_cases hn:r_ t.text=false
   . rw[if_pos (by simp[hn]),cO (n:=6) q1 rfl,aa]
     rw[if_pos hn] at C;cases C
     refine (nR R1 t 10 dc).mono ?_
     rintro v h5 ⟨rfl,A5,L5,R5⟩
     exact Out.fail dc (K1.trans ⟨A5,L5⟩).a (by rw[if_pos rfl] at R5;exact R5) 0
   . rw[if_neg (by simp[Bool.not_eq_false] at hn ⊢;exact hn)]
     rw[if_neg hn] at C
     refine (nQ R1 I).mono ?_
     rintro v h2 ⟨rfl,A2,L2,R2⟩
     rw[if_neg om] at R2
     have K2:=K1.trans ⟨A2,L2⟩
     have s2:=s.rest I om R2
     have c2:aw h2 (.pointer (some ⟨h.next,0+1,none⟩))=some (st t.text):=by rw[aA (A2.aQ q1 om om)];rfl
     rw[aM,aF c2]
     obtain⟨t3,Uy,j⟩:=s2.ok.e.cons
     refine (qy R2 j 3).mono ?_
     rintro w h3 ⟨A3,L3,Y1,Y2⟩
     have K3:=K2.trans ⟨A3,L3⟩
     have n2:=A2.next
     have c3:aw h3 (.pointer (some ⟨h.next,0+1,none⟩))=some (st t.text):=by rw[aA (A3.aQ (A2.aQ q1 om om) om om)];rfl
     refine⟨c3,?_⟩
     have e1:hd (ts.drop 1)=t3:=by rw[WZ,j];rfl
     have e2:ts.drop 2=Uy:=by rw[I,j];rfl
     rw[e1,e2] at C
     have hl3:Uy.length<=ts.length:=by rw[I,j];simp;omega
     by_cases k3:t3.kind=3
     . obtain⟨rfl,R3⟩:=Y1 k3
       rw[if_neg om] at R3
       rw[if_neg (fun z=>z k3)] at C;cases C
       have s3:=s2.rest j om R3
       exact (Ol R3 s3.ok t.text t3 (s2.ok.t t3 (by rw[j];simp)) U).mono fun v h' o=>o.pre K3.a hl3
     . obtain⟨rfl,R3⟩:=Y2 k3
       rw[if_pos rfl] at R3
       rw[if_pos k3] at C;cases C
       refine (WX R3 dc t.text jW (by simp[jW])).mono ?_
       rintro v h4 ⟨rfl,K4,R4⟩
       exact Out.fail dc (K3.trans K4).a R4 0
 . rw[if_neg (sp k9),aM,aF c1]
   rw[if_neg k9] at C
   have J:∀ y:Bool,(y=true<->(t.text=bT\/t.text=bF))->gg (Out h0 h b nv av ts ns ars d R) (pT b) (pT h.next) (.bool y) h1:=by
    intro y hy
    unfold gg aq
    rw[ae]
    by_cases q:t.text=bT\/t.text=bF
    . rw[if_pos (hy.2 q),aM,aF c1,show (bs [84,82,85,69])=⟨⟨bT⟩⟩ from rfl,Go.X.bf,aa,AgR,aa]
      rw[if_pos q] at C;cases C
      refine (jF R1 _ U).mono ?_
      rintro w h5 ⟨rfl,gq,F5,R5⟩
      exact Out.leaf (l:=.Qq (decide (t.text=bT))) ((K1.a.p nv av).trans F5) R5
    . rw[if_neg (fun z=>q (hy.1 z)),cO (n:=6) q1 rfl,aa]
      rw[if_neg q] at C;cases C
      exact (Ol R1 s.ok [] t hw U).mono fun v h' o=>o.pre K1.a nlr
   rw[show (bs [84,82,85,69])=⟨⟨bT⟩⟩ from rfl,Go.X.bf,aa,ag]
   by_cases q:t.text=bT
   . rw[if_neg (by simp[q])]
     exact J true (by simp[q])
   . rw[if_pos (by simp[q]),aM,aF c1,show (bs [70,65,76,83,69])=⟨⟨bF⟩⟩ from rfl,Go.X.bf,aa]
     exact J _ (by simp[q])
end
def Dj (v w:Value):Prop:=∀ c o n cp,w=.slice (some ⟨c,o,none⟩) n cp->bt v c
theorem Dj.nil (v:Value) (n c:Nat):Dj v (.slice none n c):=fun _ _ _ _ q=>by cases q
structure Sj (b:Nat) (nv av l:Value) (h:H) (gq i_ l':Value) (h':H):Prop where
 next:h.next<=h'.next
 get:∀ c,c<h.next->c≠b->bt nv c->bt av c->bt l c->h'.get c=h.get c
 DU:∀ c,c<h.next->bt nv c->bt gq c
 CG:∀ c,c<h.next->bt av c->bt i_ c
 AcF:∀ c,c<h.next->bt l c->bt l' c
theorem Sj.trans {b:Nat} {nv av l gq i_ l' o p C:Value} {h h' I:H} (x:Sj b nv av l h gq i_ l' h') (y:Sj b gq i_ l' h' o p C I):Sj b nv av l h o p C I :=
 ⟨Nat.le_trans x.next y.next,fun c j h2 J R U=>(y.get c (Nat.lt_of_lt_of_le j x.next) h2 (x.DU c j J) (x.CG c j R) (x.AcF c j U)).trans (x.get c j h2 J R U),
  fun c j q=>y.DU c (Nat.lt_of_lt_of_le j x.next) (x.DU c j q),fun c j q=>y.CG c (Nat.lt_of_lt_of_le j x.next) (x.CG c j q),fun c j q=>y.AcF c (Nat.lt_of_lt_of_le j x.next) (x.AcF c j q)⟩
theorem CF.l {b:Nat} {nv av gq i_:Value} {h h':H} (x:CF b nv av h gq i_ h') (l:Value):Sj b nv av l h gq i_ l h':=⟨x.next,fun c j h2 o p _=>x.get c j h2 o p,x.DU,x.CG,fun _ _ q=>q⟩
theorem Abr {b:Nat} {l l':Value} {h h':H} (x:Sk l h l' h') (nv av:Value):Sj b nv av l h nv av l' h':=⟨x.next,fun c j _ _ _ o=>x.get c j o,fun _ _ q=>q,fun _ _ q=>q,x.off⟩
theorem Sj.p {b:Nat} {nv av gq i_ l':Value} {h h':H} {n c:Nat} (x:Sj b nv av (.slice none n c) h gq i_ l' h'):CF b nv av h gq i_ h':=⟨x.next,fun e j h2 o C=>x.get e j h2 o C (nP _ _ _),x.DU,x.CG⟩
section
variable {h0 h h':H} {b:Nat} {nv av gq i_ l l':Value} {ts:List Tk} {ns:List Nd} {ars:List Int} {d x:Nat} {fs:List Int}
theorem RS.frk (r:RS h0 h b nv av ts ns ars d x) (own:cI wc 3 h0 h l fs) (dj:Dj av l) (g:Sk l h l' h') (f:Fr h0 h'):RS h0 h' b nv av ts ns ars d x:=by
 obtain⟨⟨lv,at',r1,r2,I⟩,J,R,r6,U,r8⟩:=r
 have lb:bt l b:=own.ty.off r1 (show TR≠3 by decide)
 have hl:∀ c o n cp,lv=.slice (some ⟨c,o,none⟩) n cp->h'.get c=h.get c:=fun c o n cp q=>by
  obtain⟨j,y,p,C⟩:=I c o n cp q
  exact g.get c j (own.ty.off p (by rw[C];decide))
 refine⟨⟨lv,at',by rw[g.row U lb];exact r1,r2.Ct g.next hl,I.Ct g.next hl⟩,J.Ct g.next fun c o n cp q=>?_,R.Ct g.next fun c o n cp q=>?_,r6,Nat.lt_of_lt_of_le U g.next,f⟩
 . obtain⟨j,y,p,C⟩:=J.ty c o n cp q
   exact g.get c j (own.ty.off p (by rw[C];decide))
 . obtain⟨j,y,p,C⟩:=R.ty c o n cp q
   refine g.get c j fun b2 o2 n2 c2 e2 e3=>?_
   subst e3
   exact dj _ _ _ _ e2 _ _ _ _ q rfl
theorem Dj.frk (dj:Dj av l) (p:cI wc 3 h0 h av ars) (g:Sk l h l' h'):Dj av l':=by
 intro c o n cp q b2 U n2 c2 j C
 subst C
 have I:bt l b2:=fun b3 o3 n3 c3 J R=>by
  subst R
  exact dj _ _ _ _ J _ _ _ _ j rfl
 exact g.off b2 (p.ty _ _ _ _ j).1 I _ _ _ _ q rfl
theorem CI (own:cI wc 3 h0 h l fs) (r:RS h0 h b nv av ts ns ars d x) (dj:Dj av l) (F:CF b nv av h gq i_ h'):cI wc 3 h0 h' l fs/\Dj i_ l:=by
 obtain⟨⟨lv,at',r1,r2,J⟩,C,R,U,r7,r8⟩:=r
 refine⟨own.Ct F.next fun c o n cp q=>?_,fun c o n cp q=>F.CG c (own.ty c o n cp q).1 (dj c o n cp q)⟩
 obtain⟨I,y,j,p⟩:=own.ty c o n cp q
 exact F.get c I (fun e=>by subst e;rw[r1] at j;cases j;exact absurd p (show ¬ (TR=3) by decide)) (C.ty.off j (by rw[p];decide)) (dj c o n cp q)
inductive AcG (h0 h:H) (b:Nat) (nv av l:Value) (ts:List Tk) (ns:List Nd) (ars:List Int) (d:Nat) (fs:List Int):PR bi->Value->H->Prop
 | ok (L:bi) (t6:Tk) (bE:List Tk) (gq i_ l':Value) (h':H) (im:L.len≠0) (fr:Sj b nv av l h gq i_ l' h') (k6:t6.kind=6) (rs:RS h0 h' b gq i_ (t6 :: bE) (ns++L.lN ns.length ars.length) (ars++(L.ars ns.length).map Int.ofNat) d 0)
  (own:cI wc 3 h0 h' l' (fs++(L.gF ns.length).map Int.ofNat)) (dj:Dj i_ l'):AcG h0 h b nv av l ts ns ars d fs (.ok L bE) l' h'
 | err (x:Nat) (fs':List Int) (F_:List Nd) (rj:List Int) (gq i_ l':Value) (h':H) (hx:x≠0) (fr:Sj b nv av l h gq i_ l' h') (hn:F_.length<=ns.length+ts.length) (ha:rj.length<=ars.length+21 * ts.length) (hf:fs'.length<=20) (rs:RS h0 h' b gq i_ [jW] F_ rj d x)
  (own:cI wc 3 h0 h' l' fs') (dj:Dj i_ l'):AcG h0 h b nv av l ts ns ars d fs (.err x) l' h'
abbrev AeM (Q:Value->H->Prop):(List Value->H->Prop)->List Value->H->Prop:=fun j s h=>dz Q j (aI s 0) (aI s 1) h
theorem RS.tk (r:RS h0 h b nv av ts ns ars d x) {t:Tk} {bE:List Tk} (j:ts=t :: bE):∃ lv p,aw h (.pointer (some ⟨b,0+0,none⟩))=some lv/\AB 6 lv (.int .i64 0)=some p/\fJ 6 h p=some (Jf t):=by
 obtain⟨⟨lv,at',r1,r2,R⟩,_⟩:=r
 obtain⟨b1,U,C,I⟩:=r2.ix (i:=0) (by rw[j];simp)
 have o:=I.agg
 have J:ts[0]'(by rw[j];simp)=t:=by simp[j]
 rw[J] at o
 exact⟨lv,_,by rw[aA r1];rfl,C,o⟩
theorem Sl (r:RS h0 h b nv av ts ns ars d x) (own:cI wc 3 h0 h l fs) (dj:Dj av l) (hl:fs.length<=1000) (k:Nat) {K:Value->H->Prop}
 (j:∀ l' h',Sk l h l' h'->RS h0 h' b nv av ts ns ars d x->cI wc 3 h0 h' l' (fs++[(k:Int)])->Dj av l'->K l' h'):gh EE h 23 1 [(0,vI k)] fun w p=>ir EE p #[23,23] l w K:=by
 refine AcH MX r.PN own om (k:Int) (Abp k h) fun l' h' C g o=>?_
 exact j l' h' g (r.frk own dj g C) o (dj.frk r.args g)
theorem Sm (rs:RS h0 h b nv av [jW] ns ars d x) (hx:x≠0) {Q:Value->H->Prop} (j:Q l h):aL (AeM Q) [pT b,l] h:=by
 refine aL.unfold ?_
 show dz _ _ (pT b) l h
 unfold dz aq
 rw[pa,aM,aF rs.cw,show (.int .i64 0:Value)=vI 0 from rfl,cn,aa,ae,if_neg (by simp[hx])]
 exact j
theorem Ou {F:Nat} (lh:∀ g ≤ F,LU g):∀ (f:Nat) {h:H} {nv av l:Value} {ts:List Tk} {ns:List Nd} {ars fs:List Int} {R:PR bi} {Q:Value->H->Prop},f<=F+1->mH f d fs.length ts=some R->fs.length<=20->St h0 h b nv av ts ns ars d ->
 cI wc 3 h0 h l fs->Dj av l->(∀ v h',AcG h0 h b nv av l ts ns ars d fs R v h'->Q v h')->aL (AeM Q) [pT b,l] h
 | 0,h,nv,av,l,ts,ns,ars,fs,R,Q,hf,j,h20,s,own,dj,hQ=>by simp[mH] at j
 | f+1,h,nv,av,l,ts,ns,ars,fs,R,Q,hf,j,h20,s,own,dj,hQ=>by
  refine aL.unfold ?_
  show dz _ _ (pT b) l h
  unfold dz aq
  unfold mH at j
  have bn:=s.bn
  have ba:=s.ba
  rw[pa,aM,aF s.r.cw,show (.int .i64 0:Value)=vI 0 from rfl,cn,aa,ae,if_pos sm,own.read.len MX]
  rw[show (Value.int .i64 (fs.length:Nat))=vI fs.length from rfl,show (.int .i64 20:Value)=vI 20 from rfl,cn,aa,ae]
  obtain⟨t,bE,Qt⟩:=s.ok.e.cons
  by_cases q:fs.length=20
  . rw[if_pos (sp q)]
    rw[if_pos q] at j;cases j
    obtain⟨lv,p,e1,e2,e3⟩:=s.r.tk Qt
    have Jl:AB 6 lv (vI 0)=some p:=e2
    rw[pa,aM,aF e1,Jl,aa,e3,aa]
    refine (nR s.r t 2 dc).mono ?_
    rintro v h2 ⟨rfl,A2,L2,R2⟩
    rw[if_pos rfl] at R2
    obtain⟨o2,d2⟩:=CI own s.r dj (A2.p nv av)
    exact hQ _ _ (.err 2 fs ns ars nv av l h2 dc ((A2.p nv av).l l) om om om R2 o2 d2)
  rw[if_neg (sp q)]
  rw[if_neg q] at j
  cases e1:fp f 1 d ts with
  | none=>rw[e1] at j;cases j
  | some R1 =>
   rw[e1] at j
   refine (y5 (lh f om) e1 s).mono ?_
   intro v h2 o
   cases o with
   | ok a ts1 C I _ F1 R1 =>
    have k:=(DX f).bA _ _ _ _ _ s.ok e1
    have az:=a.EY
    simp only at j
    obtain⟨o1,d1⟩:=CI own s.r dj F1
    refine Sl R1 o1 d1 om _ fun l' h3 g3 R3 o3 d3=>?_
    have G3:Sj b nv av l h C I l' h3:=(F1.l l).trans (Abr g3 C I)
    obtain⟨t2,J,e2⟩:=k.1.e.cons
    have hh:hd ts1=t2:=by rw[e2];rfl
    have WZ:ts1.drop 1=J:=by rw[e2];rfl
    rw[hh,WZ] at j
    refine ar (te R3 e2 6) ?_
    rw[ae]
    by_cases k6:t2.kind=6
    . rw[if_pos (sp k6)]
      rw[if_pos k6] at j;cases j
      rw[e2] at R3
      exact hQ _ _ (.ok (.cons a .nil) t2 J C I l' h3 (by simp[bi.len]) G3 k6 (by simpa [bi.lN,bi.ars] using R3) (by simpa [bi.gF] using o3) d3)
    . rw[if_neg (sp k6)]
      rw[if_neg k6] at j
      refine (qy R3 e2 7).mono ?_
      rintro w h4 ⟨A4,L4,Y1,Y2⟩
      obtain⟨o4,d4⟩:=CI o3 R3 d3 (A4.p C I)
      have G4:Sj b nv av l h C I l' h4:=G3.trans ((A4.p C I).l l')
      have lt:ts1.length=J.length+1:=by rw[e2];rfl
      by_cases k7:t2.kind=7
      . obtain⟨_,R4⟩:=Y1 k7
        rw[if_neg om] at R4
        rw[if_neg (fun z=>z k7)] at j
        have s4:St h0 h4 b C I J (ns++a.lN ns.length ars.length) (ars++(a.ars ns.length).map Int.ofNat) d :=
         ⟨R4,(e2 ▸ k.1).tail om,by rw[List.length_append,Ex.cf];omega,by rw[List.length_append,List.length_map,Ex.dR];omega,s.d⟩
        have lf:(fs++[((ns.length+a.sz-1:Nat):Int)]).length=fs.length+1:=sm
        cases e3:mH f d (fs.length+1) J with
        | none=>rw[e3] at j;cases j
        | some R5 =>
         refine Ou lh f (fs:=fs++[((ns.length+a.sz-1:Nat):Int)]) (R:=R5) om (by rw[lf];exact e3) (by rw[lf];omega) s4 o4 d4 ?_
         intro v h5 o
         rw[e3] at j
         cases o with
         | ok L t6 ts6 nv6 av6 _ _ im fr k6' rs U dj' =>
          cases j
          refine hQ _ _ (.ok (.cons a L) t6 ts6 nv6 av6 _ h5 (by simp[bi.len]) (G4.trans fr) k6' ?_ ?_ dj')
          . simpa [bi.lN,bi.ars,List.append_assoc,Ex.cf,Ex.dR] using rs
          . simpa [bi.gF,List.append_assoc,Ex.cf] using U
         | err x fs' F_ rj nv6 av6 _ _ hx fr hn ha hf rs U dj' =>
          cases j
          rw[List.length_append,Ex.cf] at hn
          rw[List.length_append,List.length_map,Ex.dR] at ha
          exact hQ _ _ (.err x fs' F_ rj nv6 av6 _ h5 hx (G4.trans fr) om om hf rs U dj')
      . obtain⟨_,R4⟩:=Y2 k7
        rw[if_pos rfl] at R4
        rw[if_pos k7] at j;cases j
        refine Sm R4 dc (hQ _ _ (.err 10 _ _ _ C I l' h4 dc G4 ?_ ?_ ?_ R4 o4 d4))
        . rw[List.length_append,Ex.cf];omega
        . rw[List.length_append,List.length_map,Ex.dR];omega
        . simp;omega
   | err x k F_ rj gq i_ _ hx fr hn ha rs =>
    cases j
    obtain⟨o1,d1⟩:=CI own s.r dj fr
    refine Sl rs o1 d1 om k fun l' h3 g3 R3 o3 d3=>?_
    have G3:Sj b nv av l h gq i_ l' h3:=(fr.l l).trans (Abr g3 gq i_)
    refine ar (te R3 rfl 6) ?_
    rw[ae,if_neg (by simp[jW])]
    refine (qy R3 rfl 7).mono ?_
    rintro w h4 ⟨A4,L4,Y1,Y2⟩
    obtain⟨_,R4⟩:=Y2 (by simp[jW])
    rw[if_neg hx] at R4
    obtain⟨o4,d4⟩:=CI o3 R3 d3 (A4.p gq i_)
    have G4:Sj b nv av l h gq i_ l' h4:=G3.trans ((A4.p gq i_).l l')
    exact Sm R4 hx (hQ _ _ (.err x _ _ _ gq i_ l' h4 hx G4 hn ha so R4 o4 d4))
end
end Go.Proofs.YtikojelnedfmpaaGreatDoor
