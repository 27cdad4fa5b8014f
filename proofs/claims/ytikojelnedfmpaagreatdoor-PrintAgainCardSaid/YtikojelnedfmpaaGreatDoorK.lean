/- PrintAgain: of any text that is read as a formula, the text that is told of it is read as the same formula and told as it was. No conditions of its own. -/
import Derived.Lib.Bytealg
import Derived.Test.YtikojelnedfmpaaGreatDoorJ
set_option linter.unusedSimpArgs false
set_option linter.unusedVariables false
namespace Go.Proofs.YtikojelnedfmpaaGreatDoor
open Go Go.X
set_option maxRecDepth 100000
theorem AgT (s:List UInt8):bC EE 53 [(0,.int .i64 9),(5,st s)]=some (Aq { tM with kind:=9,text:=s }):=by kernel_rfl
section
variable {h0 h h':H} {b:Nat} {nv av gq i_ l l':Value} {ts:List Tk} {ns:List Nd} {ars:List Int} {d x:Nat} {fs:List Int}
abbrev ndB (n:Nd):IP:=⟨n.c,TN,0,0,false⟩
theorem RS.frN (r:RS h0 h b nv av ts ns ars d x) {c:Nat} {cs:List Value} (f:eV c h h') (hc:h0.next<=c) (j:h.row c=some ⟨cs,TN,0,0,false⟩) (on:bt nv c):RS h0 h' b nv av ts ns ars d x:=by
 obtain⟨⟨lv,at',r1,r2,p⟩,R,C,U,I,r8⟩:=r
 have cb:b≠c:=fun e=>by subst e;rw[r1] at j;cases j
 have J:bt lv c:=p.off j (show TN≠TT by decide)
 have oa:bt av c:=C.ty.off j (show TN≠3 by decide)
 exact⟨⟨lv,at',f.aQ r1 cb I,r2.mR f J,p.Ct f.next fun e o n cp q=>f.cK e (p e o n cp q).1 (J e o n cp q)⟩,R.mR f on,C.mR f oa,U,Nat.lt_of_lt_of_le I f.next,f.fr r8 hc⟩
theorem W4 (r:RS h0 h b nv av ts ns ars d x) {w:Value} (rx:aZ wc h w fs) {c0:Nat} {e0:TypeId} (r0:h.row c0=some ⟨[pT b],e0,0,0,false⟩) (l0:c0<h.next) (n0:c0≠b) (o0:bt av c0) (h1:ars.length<=1000000) (h2:fs.length<=1000000) {K:H->Prop}
 (hK:∀ i_ h',CF b nv av h nv i_ h'->RS h0 h' b nv i_ ts ns (ars++fs) d x->K h'):ir EE h #[23,23] av w fun v30 p=>(aw p (pT c0))=some (pT b)/\af (db (pT b)) fun xN=>af (jx 1 xN) fun R=>af (jx 1 R) fun U=>af (wa 1 p U v30) K:=by
 obtain⟨⟨lv,at',r1,r2,r3⟩,r4,r5,r6,r7,r8⟩:=id r
 refine WW MX r8 r5 rx om om fun v' h3 f3 j o3=>?_
 have ob:bt av b:=r.AcA.2
 refine⟨by rw[aA (by rw[j.row l0 o0];exact r0)];rfl,?_⟩
 rw[pa,aM,aM]
 have rb3:h3.row b=some ⟨[lv,nv,av,vI d,at',vI x],TR,0,0,false⟩:=by rw[j.row r7 ob];exact r1
 refine qY rb3 o3.cell.1 o3.cell.2 (by show _<6;omega) fun C f4 rb4 n4=>?_
 have I:C.row b=some ⟨[lv,nv,v',vI d,at',vI x],TR,0,0,false⟩:=rb4
 have ob3:bt v' b:=j.off b r7 ob
 have o4:cI wc 3 h0 C v' (ars++fs):=o3.mR f4 ob3
 have hg:∀ (v:Value) (e:TypeId),AQ h v e->e≠3->e≠TR->∀ c o m cp,v=.slice (some ⟨c,o,none⟩) m cp->C.get c=h.get c:=fun v e t he her c o m cp q=>by
  obtain⟨k1,y,k2,k3⟩:=t c o m cp q
  have cb:c≠b:=fun e2=>by subst e2;rw[r1] at k2;cases k2;exact her (Eq.symm k3)
  rw[f4.cK c (by have:=j.next;omega) cb,j.get c k1 (r5.ty.off k2 (by rw[k3];exact he))]
 have J:h.next<=C.next:=by have:=j.next;omega
 refine hK v' C ⟨J,fun c c1 c2 _ c4=>?_,fun _ _ q=>q,fun c c1 c3=>j.off c c1 c3⟩ ⟨⟨lv,at',I,r2.Ct J (hg lv TT r3 dc dc),r3.Ct J (hg lv TT r3 dc dc)⟩,r4.Ct J (hg nv TN r4.ty dc dc),o4,r6,om,f4.fr f3 r6⟩
 rw[f4.cK c (by have:=j.next;omega) c2,j.get c c1 c4]
theorem Ov {c0 j:Nat} {J:TypeId} {n:Nd} {t:Tk} {bE:List Tk} (r:RS h0 h b nv av (t :: bE) ns ars d x) (r0:h.row c0=some ⟨[pT b],J,0,0,false⟩) (R:c0<h.next) (U:c0≠b) (rn:h.row j=some (ndB n)) (o:j<h.next) (C:j≠b) (hl:ns.length<100000000) {Q:Value->H->Prop}
 (hQ:∀ gq h',CF b nv av h gq av h'->RS h0 h' b gq av (if t.kind=0 then t :: bE else bE) (ns++[n]) ars d x->Q (vI ns.length) h'):dT Q (pT c0) (pT j) h:=by
 unfold dT aq
 rw[aA r0,ao,aa]
 refine (nQ r rfl).mono ?_
 rintro v h1 ⟨rfl,I,L1,R1⟩
 rw[aA (I.aQ r0 R U),ao,aa,cO (n:=19) (I.aQ rn o C) rfl,aa]
 refine (jF R1 n hl).mono ?_
 rintro w h2 ⟨rfl,gq,F2,R2⟩
 exact hQ gq h2 ((I.p nv av).trans F2) R2
theorem Uz {f:Nat} (lh:∀ g ≤ f,LU g) {t:Tk} {R:PR Ex} {U:List Tk} {t5:Tk} (Qt:ts=t5 :: U) (k5:t5.kind=5) (s:St h0 h b nv av ts ns ars d)
 (hR:(if (hd U).kind=6 then some (PR.ok (.call t.text .nil) (U.drop 1)) else match mH f d 0 U with | none=>none | some (.err e)=>some (.err e) | some (.ok l bE)=>some (.ok (.call t.text l) bE))=some R)
 {c0 j:Nat} {e0:TypeId} (r0:h.row c0=some ⟨[pT b],e0,0,0,false⟩) (l0:c0<h.next) (n0:c0≠b) (o0:bt nv c0) (p0:bt av c0) (rn:h.row j=some (ndB { tM with kind:=9,text:=t.text })) (l18:j<h.next) (n18:j≠b) (o18:bt nv j) (p18:bt av j) (m18:h0.next<=j) (AeN:c0≠j)
 {Q:Value->H->Prop} {hs:H} (ah:si b hs h) (s18:hs.next<=j) (pre:∀ {v h'},Out h0 hs b nv av ts ns ars d R v h'->Q v h'):CP eu [pT c0,pT j] h Q:=by
 refine .call (w9 ?_)
 unfold rJ aq
 have hsn:=ah.next
 have bn:=s.bn
 have ba:=s.ba
 have hlen:ts.length=U.length+1:=by rw[Qt];rfl
 rw[aA r0,ao,aa]
 refine (nQ s.r Qt).mono ?_
 rintro v h2 ⟨rfl,A2,L2,R2⟩
 rw[if_neg om] at R2
 have s2:=s.rest Qt om R2
 have q0:=A2.aQ r0 l0 n0
 have qn:=A2.aQ rn l18 n18
 have nx2:=A2.next
 rw[aA q0,ao,aa]
 obtain⟨t6,VF,Aab⟩:=s2.ok.e.cons
 have hh:hd U=t6:=by rw[Aab];rfl
 have WZ:U.drop 1=VF:=by rw[Aab];rfl
 rw[hh,WZ] at hR
 refine ar (te R2 Aab 6) ?_
 rw[aY,aa,ae]
 by_cases k6:t6.kind=6
 . rw[if_neg (by simp[k6])]
   rw[if_pos k6] at hR;cases hR
   rw[Aab] at R2
   refine Ov R2 q0 om n0 qn om n18 om fun gq h3 F3 R3=>pre ?_
   rw[if_neg om] at R3
   have:=Out.ok (h0:=h0) (h:=hs) (b:=b) (nv:=nv) (av:=av) (ts:=ts) (ns:=ns) (ars:=ars) (d:=d) (.call t.text .nil) VF gq av h3 (((ah.p nv av).trans (A2.p nv av)).trans F3) (by simpa [Ex.lN,Ex.ars,bi.lN,bi.ars,bi.gF,bi.len,tM] using R3)
   simpa [Ex.sz,bi.sz] using this
 . rw[if_pos (by simp[k6]),aA q0,ao,aa]
   rw[if_neg k6] at hR
   cases e1:mH f d 0 U with
   | none=>rw[e1] at hR;cases hR
   | some R1 =>
    rw[e1] at hR
    refine .call (y7 ?_)
    unfold uA aq
    refine Ou lh f (fs:=[]) (R:=R1) om e1 sm s2 .nil (Dj.nil _ _ _) ?_
    intro v Lh o
    -- behind DB arguments
    have fin:∀ (J C l1:Value) (ns1:List Nd) (I fs1:List Int) (x:Nat) (t7:Tk) (Uy:List Tk),CF b nv av h2 J C Lh->RS h0 Lh b J C (t7 :: Uy) ns1 I d x->cI wc 3 h0 Lh l1 fs1->I.length<=200000->fs1.length<=200000->ns1.length<=20000 ->
     ∀ {Q:Value->H->Prop},(∀ nv2 av2 h4,CF b nv av hs nv2 av2 h4->RS h0 h4 b nv2 av2 (if t7.kind=0 then t7 :: Uy else Uy) (ns1++[{ tM with kind:=9,text:=t.text,a:=(I.length:Nat),b:=(fs1.length:Nat) }]) (I++fs1) d x->Q (vI ns1.length) h4) ->
     af (aw Lh (pT c0)) fun v11=>af (db v11) fun v12=>af (jx 1 v12) fun v13=>af (jx 1 v13) fun v14=>af (aw Lh v14) fun v15=>blt EE Lh .len #[23] [v15] fun v16 h17=>blt EE h17 .len #[23] [l1] fun v18 h19=>af (jx 2 (pT j)) fun v20=>af (wa 1 h19 v20 v16) fun h21 =>
      af (jx 3 (pT j)) fun v22=>af (wa 1 h21 v22 v18) fun Zx=>af (aw Zx (pT c0)) fun v24=>af (aw Zx (pT c0)) fun v25=>af (db v25) fun v26=>af (jx 1 v26) fun v27=>af (jx 1 v27) fun v28=>af (aw Zx v28) fun v29=>ir EE Zx #[23,23] v29 l1 fun v30 Qu =>
      (aw Qu (pT c0))=some v24/\af (db v24) fun xN=>af (jx 1 xN) fun v33=>af (jx 1 v33) fun v34=>af (wa 1 Qu v34 v30) fun h35=>dT Q (pT c0) (pT j) h35:=by
     intro J C l1 ns1 I fs1 x t7 Uy F1 R1 own ZC RG hb3 Q hQ
     have l0':c0<h2.next:=om
     have AcI:j<h2.next:=om
     have z0:=F1.row q0 l0' n0 o0 p0
     have zn:=F1.row qn AcI n18 o18 p18
     have on1:=F1.DU j AcI o18
     have oa1:=F1.CG j AcI p18
     have oa0:=F1.CG c0 l0' p0
     have on0:=F1.DU c0 l0' o0
     have nx1:=F1.next
     have cav:∀ {h:H} {ts:List Tk} {ns:List Nd} {ars:List Int} {x:Nat},RS h0 h b J C ts ns ars d x->aw h (.pointer (some ⟨b,0+1+1,none⟩))=some C:=fun r=>by
      obtain⟨⟨lv,at',r1,r2,r3⟩,_⟩:=r
      rw[aA r1];rfl
     rw[aA z0,ao,aa,pa,aM,aM,aF (cav R1),R1.args.read.len MX,own.read.len MX,aM]
     refine qY zn rfl rfl (by show _<19;omega) fun h21 f21 q21 n21=>?_
     have R21:=R1.frN f21 m18 zn on1
     have Abs:=own.mR f21 (own.ty.off zn (show TN≠3 by decide))
     rw[aM]
     refine qY q21 rfl rfl (by show _<19;omega) fun Zx f23 q23 n23=>?_
     have R23:=R21.frN f23 m18 q21 on1
     have AeO:=Abs.mR f23 (Abs.ty.off q21 (show TN≠3 by decide))
     have z23:=f23.aQ (f21.aQ z0 AeN om) AeN om
     rw[aA z23,ao,aa,aa,pa,aM,aM,aF (cav R23)]
     have AgU:Zx.row j=some (ndB { tM with kind:=9,text:=t.text,a:=(I.length:Nat),b:=(fs1.length:Nat) }):=q23
     refine W4 R23 AeO.read z23 om n0 oa0 om om fun av3 h35 F3 R35=>?_
     have nx3:=F3.next
     refine Ov R35 (F3.row z23 om n0 on0 oa0) om n0 (F3.row AgU om n18 on1 oa1) om n18 om fun nv4 h4 F4 R4=>?_
     have G:CF b nv av hs J C Zx:=⟨om,fun c c1 c2 c3 c4=>?_,fun c c1 q=>F1.DU c om q,fun c c1 q=>F1.CG c om q⟩
     . exact hQ nv4 av3 h4 ((G.trans F3).trans F4) R4
     . rw[f23.cK c om om,f21.cK c om om,F1.get c om c2 c3 c4,A2.get c om c2,ah.get c c1 c2]
    cases o with
    | ok L t7 Uy J C l1 _ im fr k7 rs own dj =>
     cases hR
     have k:=(DX f).arg _ _ _ _ _ s2.ok e1
     have az:=L.WY
     rw[List.nil_append] at own
     refine fin J C _ _ _ _ 0 t7 Uy fr.p rs own ?_ ?_ ?_ fun nv2 av2 h4 F4 R4=>pre ?_
     . rw[List.length_append,List.length_map,bi.dR];omega
     . rw[List.length_map,bi.gG];omega
     . rw[List.length_append,bi.cf];omega
     . rw[if_neg om] at R4
       have:=Out.ok (h0:=h0) (h:=hs) (b:=b) (nv:=nv) (av:=av) (ts:=ts) (ns:=ns) (ars:=ars) (d:=d) (.call t.text L) Uy nv2 av2 h4 F4 (by simpa [Ex.lN,Ex.ars,List.append_assoc,bi.gG,bi.dR,im] using R4)
       simpa [Ex.sz,bi.cf] using this
    | err x fs' F_ rj J C l1 _ hx fr hn ha hf rs own dj =>
     cases hR
     refine fin J C _ _ _ _ x jW [] fr.p rs own om om om fun nv2 av2 h4 F4 R4=>pre ?_
     rw[if_pos (show jW.kind=0 from rfl)] at R4
     exact .err x _ _ _ nv2 av2 h4 hx F4 so so R4
theorem Qx {hs:H} (ks:si b hs h) (s:St h0 h b nv av ts ns ars d) (t:Tk) {x5:Value} {R:PR Ex}
 (hN:d≠24->∀ h',KA b h h'->St h0 h' b nv av ts ns ars (d+1)->∀ K,(∀ v j,Out h0 hs b nv av ts ns ars (d+1) R v j->K v j)->DP x5 [] h' K) :
 CP c_ [pT b,Jf t,x5] h (Out h0 hs b nv av ts ns ars d (if d=24 then .err 8 else R)):=by
 refine .call (nW ?_)
 unfold lD aq
 have C:=s.r.hi
 have hd:=s.d
 refine fz fun h1 f1 q1 n1=>?_
 have R1:=s.r.fr f1
 rw[pa,aM,aF R1.cd,show (.int .i64 24:Value)=vI 24 from rfl,cn,aa,ae]
 by_cases z:d=24
 . rw[if_pos (sp z),if_pos z,cO (n:=6) q1 rfl,aa]
   refine (nR R1 t 8 dc).mono ?_
   rintro v h2 ⟨rfl,A2,L2,R2⟩
   have A:=((KA.of f1 C).trans ⟨A2,L2⟩).a
   exact Out.fail dc ⟨Nat.le_trans ks.next A.next,fun c c1 c2=>(A.get c (Nat.lt_of_lt_of_le c1 ks.next) c2).trans (ks.get c c1 c2)⟩ (by rw[if_pos rfl] at R2;exact R2) 0
 . rw[if_neg (sp z),if_neg z,pa,aM,aF R1.cd]
   have hw:X.binOp EE .add 3 (vI d) (.int .i64 1)=some (vI (d+1)):=dm EE 3 d 1 om
   rw[hw,aa,pa,aM]
   refine R1.dp (d+1) fun h2 K2 R2=>?_
   have J:KA b h h2:=(KA.of f1 C).trans K2
   refine hN z h2 J ⟨R2,s.ok,s.bn,s.ba,om⟩ _ fun v h3 o=>?_
   have I:X.binOp EE .sub 3 (vI (d+1)) (.int .i64 1)=some (vI d):=pX EE 3 (d+1) 1 om om
   cases o with
   | ok e bE gq i_ _ fr rs =>
    rw[pa,aM,aF rs.cd,I,aa,pa,aM]
    refine rs.dp d fun U K4 R4=>?_
    exact .ok e bE gq i_ U (fr.trans (K4.a.p _ _)) R4
   | err x k F_ rj gq i_ _ hx fr hn ha rs =>
    rw[pa,aM,aF rs.cd,I,aa,pa,aM]
    refine rs.dp d fun U K4 R4=>?_
    exact .err x k F_ rj gq i_ U hx (fr.trans (K4.a.p _ _)) hn ha R4
theorem si.trans {j h2 o:H} (x:si b j h2) (y:si b h2 o):si b j o:=⟨Nat.le_trans x.next y.next,fun c c1 c2=>(y.get c (Nat.lt_of_lt_of_le c1 x.next) c2).trans (x.get c c1 c2)⟩
theorem Aac {f:Nat} (lh:∀ g ≤ f,LU g):AeL f:=by
 intro h0 h b nv av ts ns ars d t R hk j hw s
 refine .call (y8 ?_)
 unfold uB aq
 have hbi:=s.r.hi
 have bn:=s.bn
 have h0n:=s.r.PN.next
 rw[Ot]
 obtain⟨I,eA⟩:∃ I,I=X.newRow h 37 [pT b] 0:=⟨_,rfl⟩
 have fA:Fr h I:=by rw[eA];exact lB (Fr.refl h) _ _ _
 have rA:I.row h.next=some ⟨[pT b],37,0,0,false⟩:=by rw[eA,aS,if_pos rfl]
 have nA:I.next=h.next+1:=by rw[eA];rfl
 rw[<-eA]
 refine fz fun J f1 q1 n1=>?_
 have F1:=fA.trans f1
 have R1:=s.r.fr F1
 have U:=f1.aQ rA om
 have c1:aw J (.pointer (some ⟨I.next,0+1,none⟩))=some (st t.text):=by rw[aA q1];rfl
 rw[aM,aF c1]
 refine ar (Uv t.text (by unfold bl;omega) J) ?_
 rw[aY,aa,ae]
 unfold sj at j
 rw[if_pos hk] at j
 by_cases hn:Kj t.text=false
 . rw[if_pos (by simp[hn]),aA U,ao,aa,cO (n:=6) q1 rfl,aa]
   rw[if_pos hn] at j;cases j
   refine (nR R1 t 10 dc).mono ?_
   rintro v h5 ⟨rfl,A5,L5,R5⟩
   exact Out.fail dc ((si.of F1).trans A5) (by rw[if_pos rfl] at R5;exact R5) 0
 . rw[if_neg (by simp[Bool.not_eq_false] at hn ⊢;exact hn),aM,aF c1,AgT,aa]
   rw[if_neg hn] at j
   refine bP fun h2 f2 q2 n2=>lV q2 rfl rfl rfl fun h3 f3 q3 n3=>?_
   have on:bt nv J.next:=s.r.nodes.lt om
   have oa:bt av J.next:=s.r.args.lt om
   have R3:=(R1.fr f2).frN f3 om q2 on
   have A3:si b h h3:=((si.of F1).fr f2).new f3 om
   have s3:=s.ka R3
   have rA3:=f3.aQ (f2.aQ U om) om om
   rw[aA rA3,ao,aa,cO (n:=6) (f3.aQ (f2.aQ q1 om) om om) rfl,aa]
   obtain⟨t5,p,C⟩:=s.ok.e.cons
   have k5:t5.kind=5:=by rw[C] at hk;exact hk
   obtain⟨R2,e2,hR2⟩:∃ R2:PR Ex,(d≠24->(if (hd p).kind=6 then some (PR.ok (.call t.text .nil) (p.drop 1)) else match mH f (d+1) 0 p with | none=>none | some (.err e)=>some (.err e) | some (.ok l bE)=>some (.ok (.call t.text l) bE))=some R2)/\R=(if d=24 then PR.err 8 else R2):=by
    by_cases z:d=24
    . rw[if_pos z] at j;cases j
      exact⟨.err 0,fun y=>absurd z y,by rw[if_pos z]⟩
    . rw[if_neg z,C] at j
      exact⟨R,fun _=>j,by rw[if_neg z]⟩
   rw[hR2]
   refine (Qx A3 s3 t (x5:=.func (.func eu) ⟨[]⟩ ⟨[pT h.next,pT J.next]⟩) (R:=R2) fun z h4 K4 s4 K hK=>EM (show CP eu [pT h.next,pT J.next] h4 K from ?_)).mono fun v h' o=>o
   have nx4:=K4.a.next
   exact Uz lh C k5 s4 (e2 z) (K4.a.aQ rA3 om om) om om (s.r.nodes.lt nlr) (s.r.args.lt nlr) (K4.a.aQ q3 om om) om om on oa om om (A3.trans K4.a) om fun o=>hK _ _ o
structure Par (f:Nat):Prop where
 bA:LU f
 min:Z6 f
 Si:AcC f
 sin:AcD f
 Z5:AcE f
theorem par:∀ f,(∀ g ≤ f,Par g)
 | 0=>fun g o=>by
  have:g=0:=om
  subst this
  exact⟨fun h=>by simp[fp] at h,fun h=>by simp[rm] at h,fun h=>by simp[At] at h,fun h=>by simp[nV] at h,fun h=>by simp[sj] at h⟩
 | f+1=>fun g o=>by
  have j:=par f
  by_cases q:g<=f
  . exact j g q
  . have:g=f+1:=om
    subst this
    exact⟨Z_ (fun g o=>(j g o).bA) (fun g o=>(j g o).min),Z7 (j f nlr).min (j f nlr).Si,Z9 (j f nlr).sin,Z' (j f nlr).bA (j f nlr).Z5,Aaa (Aac fun g o=>(j g o).bA)⟩
end
structure PFu (f:Nat):Prop where
 bA:∀ n d ts,rH ts->1<=n->n<=6->12 * ts.length+14<=f+n->fp f n d ts≠none
 Ux:∀ n d a ts,rH ts->1<=n->n<=5->12 * ts.length+2<=f->w7 f n d a ts≠none
 min:∀ d ts,rH ts->12 * ts.length+7<=f->rm f d ts≠none
 Si:∀ d ts,rH ts->12 * ts.length+6<=f->At f d ts≠none
 sin:∀ d ts,rH ts->12 * ts.length+5<=f->nV f d ts≠none
 Z5:∀ d t ts,rH ts->12 * ts.length+16<=f->sj f d t ts≠none
 arg:∀ d n ts,rH ts->12 * ts.length+14<=f->mH f d n ts≠none
theorem pfu:∀ f,PFu f
 | 0=>⟨fun n d ts ok J h2 I=>by obtain⟨t,r,e⟩:=ok.e.cons;rw[e,List.length_cons] at I;omega,fun n d a ts _ _ _ I=>by omega,fun d ts _ h=>by omega,fun d ts _ h=>by omega,fun d ts _ h=>by omega,fun d t ts _ h=>by omega,fun d n ts _ h=>by omega⟩
 | f+1=>by
  have C:=pfu f
  have pl:=DX f
  refine⟨fun n d ts ok J h2 I=>?_,fun n d a ts ok J h2 I=>?_,fun d ts ok I=>?_,fun d ts ok I=>?_,fun d ts ok I=>?_,fun d t ts ok I=>?_,fun d n ts ok I=>?_⟩
  . unfold fp
    by_cases q:5<n
    . rw[if_pos q];exact C.min _ _ ok om
    rw[if_neg q]
    cases o:fp f (n+1) d ts with
    | none=>exact absurd o (C.bA _ _ _ ok om om om)
    | some R =>
     cases R with
     | err x=>simp
     | ok a t1 =>
      have k:=pl.bA _ _ _ _ _ ok o
      have:=a.Hr
      exact C.Ux _ _ _ _ k.1 J om om
  . unfold w7
    by_cases q:jw (hd ts) n=0
    . rw[if_pos q];simp
    rw[if_neg q]
    have k0:=zW q
    have d1:=ok.ij om
    cases o:fp f (n+1) d (ts.drop 1) with
    | none=>exact absurd o (C.bA _ _ _ d1.1 om om om)
    | some R =>
     cases R with
     | err x=>simp
     | ok a t1 =>
      have k:=pl.bA _ _ _ _ _ d1.1 o
      exact C.Ux _ _ _ _ k.1 J h2 om
  . unfold rm
    by_cases q:oD (hd ts) 45=true
    . rw[if_pos q]
      have k0:=o_ q
      have d1:=ok.ij om
      by_cases p:d=24
      . rw[if_pos p];simp
      rw[if_neg p]
      cases o:rm f (d+1) (ts.drop 1) with
      | none=>exact absurd o (C.min _ _ d1.1 om)
      | some R=>cases R <;> simp
    . rw[if_neg q];exact C.Si _ _ ok om
  . unfold At
    cases o:nV f d ts with
    | none=>exact absurd o (C.sin _ _ ok om)
    | some R=>cases R <;> simp
  . unfold nV
    by_cases j:(hd ts).kind=1
    . rw[if_pos j];simp
    rw[if_neg j]
    by_cases j:(hd ts).kind=2
    . rw[if_pos j];simp
    rw[if_neg j]
    by_cases j:(hd ts).kind=10
    . rw[if_pos j];simp
    rw[if_neg j]
    by_cases j:(hd ts).kind=5
    . rw[if_pos j]
      have d1:=ok.ij om
      by_cases p:d=24
      . rw[if_pos p];simp
      rw[if_neg p]
      cases o:fp f 1 (d+1) (ts.drop 1) with
      | none=>exact absurd o (C.bA _ _ _ d1.1 om om om)
      | some R =>
       cases R with
       | err x=>simp
       | ok a t1=>simp only;split <;> simp
    rw[if_neg j]
    by_cases j:(hd ts).kind=3
    . rw[if_pos j]
      have d1:=ok.ij om
      exact C.Z5 _ _ _ d1.1 om
    . rw[if_neg j];simp
  . unfold sj
    by_cases j:(hd ts).kind=5
    . rw[if_pos j]
      have d1:=ok.ij om
      by_cases p:Kj t.text=false
      . rw[if_pos p];simp
      rw[if_neg p]
      by_cases p:d=24
      . rw[if_pos p];simp
      rw[if_neg p]
      by_cases p:(hd (ts.drop 1)).kind=6
      . rw[if_pos p];simp
      rw[if_neg p]
      cases o:mH f (d+1) 0 (ts.drop 1) with
      | none=>exact absurd o (C.arg _ _ _ d1.1 om)
      | some R=>cases R <;> simp
    rw[if_neg j]
    by_cases j:(hd ts).kind=9
    . rw[if_pos j]
      split
      . simp
      . split <;> simp
    rw[if_neg j]
    split <;> simp
  . unfold mH
    by_cases j:n=20
    . rw[if_pos j];simp
    rw[if_neg j]
    cases o:fp f 1 d ts with
    | none=>exact absurd o (C.bA _ _ _ ok om om om)
    | some R =>
     cases R with
     | err x=>simp
     | ok a t1 =>
      have k:=pl.bA _ _ _ _ _ ok o
      simp only
      by_cases U:(hd t1).kind=6
      . rw[if_pos U];simp
      rw[if_neg U]
      by_cases q4:(hd t1).kind≠7
      . rw[if_pos q4];simp
      rw[if_neg q4]
      have d2:=k.1.ij om
      cases e2:mH f d (n+1) (t1.drop 1) with
      | none=>exact absurd e2 (C.arg _ _ _ d2.1 (by have:=a.Hr;omega))
      | some R=>cases R <;> simp
inductive FR where
 | err (e:Nat)
 | ok (e:Ex)
def UA (ts:List Tk):FR :=
 match fp (12 * ts.length+20) 1 0 ts with
 | none=>.err 0
 | some (.err e)=>.err e
 | some (.ok e bE)=>if (hd bE).kind=0 then .ok e else .err 10
def VH (s:List UInt8):FR:=if (jX s).1≠0 then .err (jX s).1 else UA (jX s).2
theorem Hw:∀ (s o:List UInt8) (n:Nat),ni s=some (o,n)->o.length<=s.length
 | [],o,n,h=>by simp[ni] at h
 | c :: r,o,n,h=>by
  unfold ni at h
  by_cases q:c=34
  . rw[if_pos q] at h
    cases r with
    | nil=>simp only[Option.some.injEq,Prod.mk.injEq] at h;rw[<-h.1];simp
    | cons d r' =>
     simp only at h
     by_cases I:d=34
     . rw[if_pos I,Option.map_eq_some_iff] at h
       obtain⟨⟨j,p⟩,C,h2⟩:=h
       have:=Hw r' j p C
       simp only[Prod.mk.injEq] at h2
       rw[<-h2.1];simp only[List.length_cons];omega
     . rw[if_neg I] at h
       simp only[Option.some.injEq,Prod.mk.injEq] at h;rw[<-h.1];simp
  . rw[if_neg q,Option.map_eq_some_iff] at h
    obtain⟨⟨j,p⟩,C,h2⟩:=h
    have:=Hw r j p C
    simp only[Prod.mk.injEq] at h2
    rw[<-h2.1];simp only[List.length_cons];omega
theorem XR {n:Nat} (j:1<=n) (h2:n<=99):(eI n).head?≠some 48:=by
 by_cases g:n<10
 . rw[fQ g]
   intro q
   have e:(UInt8.ofNat (48+n)).toNat=48+n:=ofNat_toNat om
   rw[Option.some.inj q] at e
   have:(48:UInt8).toNat=48:=rfl
   omega
 . rw[qh g,fQ (show n / 10<10 by omega)]
   intro q
   have e:(UInt8.ofNat (48+n / 10)).toNat=48+n / 10:=ofNat_toNat om
   rw[Option.some.inj q] at e
   have:(48:UInt8).toNat=48:=rfl
   omega
theorem Ac6 {n:Nat} (j:1<=n) (h2:n<=99):vJ (eI n)=true:=by
 have a:=List.length_pos_iff.2 (Lk n)
 have b:=zU n om
 unfold vJ
 rw[CR,decide_eq_true (show 1<=(eI n).length by omega),decide_eq_true (show (eI n).length<=3 by omega),decide_eq_true (XR j h2)];rfl
theorem SL (b:Bool) {r:List UInt8} (h:r.head?≠some 36):iY [36] (mG b++r)=b/\yM [36] (mG b++r)=r:=by
 have e:iY [36] (mG b++r)=b:=by
  unfold iY
  cases b with
  | true=>exact decide_eq_true rfl
  | false =>
   refine decide_eq_false ?_
   cases r with
   | nil=>decide
   | cons c t =>
    intro q
    have j:[c]=[36]:=q
    exact h (by rw[List.head?_cons];exact congrArg some (sp j))
 refine⟨e,?_⟩
 unfold yM
 rw[e]
 cases b <;> rfl
theorem SM {r:Rf} (h:u5 r.gX r.row=true):se (MY r)=({ r with aU:=[] },0):=by
 have hw:=Abw r
 have p:(MY r).contains 33=false:=by
  rw[List.contains_eq_any_beq,List.any_eq_false]
  intro c hc q
  have:=List.all_eq_true.1 hw c hc
  rw[<-beq_iff_eq.1 q] at this
  exact absurd this dc
 unfold se
 rw[if_neg (by rw[p];simp)]
 have hi:=h
 unfold u5 at hi
 simp only[Bool.and_eq_true,decide_eq_true_eq] at hi
 have j:=Mn r.gX
 have R:=XN h
 have xl:=CD r.gX
 have xv:Am (re r.gX)=r.gX.toNat:=by
  have:=(Wz r.gX.toNat om om (re r.gX)).1 (by rw[Int.toNat_of_nonneg om])
  exact this
 have U:=CR r.row.toNat
 have dn:=Lk r.row.toNat
 have dr:=Ac6 (n:=r.row.toNat) om om
 have dv:=Kv r.row.toNat
 unfold MY
 generalize re r.gX=X at *
 generalize eI r.row.toNat=D at *
 have Dh:∃ c t,D=c :: t/\aR c=true:=by
  cases D with
  | nil=>exact absurd rfl dn
  | cons c t=>simp at U;exact⟨c,t,rfl,U.1⟩
 obtain⟨c,t,o,hc⟩:=Dh
 have cap:∀ c,aR c=true->bN c=false:=fun c q=>by
  by_cases z:bN c=true
  . rw[Mm z] at q;cases q
  . simpa using z
 have D0:fk D=0:=by unfold fk;rw[o,List.takeWhile_cons,if_neg (by rw[cap c hc];simp)];rfl
 have C:D.head?≠some 36:=by rw[o];rintro⟨⟩;cases hc
 have I:(X++(mG r.fr++D)).head?≠some 36:=by
  cases X with
  | nil=>exact absurd rfl R
  | cons a b=>simp at j;rintro⟨⟩;exact absurd j.1 dc
 have nX:fk (X++(mG r.fr++D))=X.length:=by
  unfold fk
  rw[Eb j]
  intro z hz
  revert hz
  cases r.fr with
  | true=>intro hz;cases hz;rfl
  | false=>intro hz;rw[o] at hz;cases hz;exact cap _ hc
 have J:fk (X++D)=X.length:=by
  unfold fk
  rw[Eb j]
  intro z hz
  rw[o] at hz;cases hz;exact cap _ hc
 obtain⟨f1,f2⟩:=SL r.fc I
 obtain⟨f3,f4⟩:=SL r.fr C
 have xp:=List.length_pos_iff.2 R
 have ap:yU (X++D)=(r.gX.toNat,r.row.toNat,0):=by
  unfold yU
  rw[J,List.drop_left,List.take_left,dr,xv,dv,if_neg (show ¬ (true=false\/X.length<1\/2<X.length) by rintro (q | q | q);cases q;omega;omega),if_neg]
  rw[Int.toNat_of_nonneg om,Int.toNat_of_nonneg om,h];simp
 unfold Ao
 rw[show mG r.fc++X++mG r.fr++D=mG r.fc++(X++(mG r.fr++D)) by simp]
 simp only[f1,f2,nX,List.drop_left,List.take_left,f3,f4,D0]
 rw[if_neg (by rintro⟨_,q | q⟩ <;> omega),ap]
 simp only[ne_eq,not_true,if_false]
 rw[Int.toNat_of_nonneg om,Int.toNat_of_nonneg om]
def qP (ts:List Tk) (L:List yf) (rest:List Tk):Prop:=∃ j:List Tk,j.map Tk.key=L/\ts=j++rest
theorem qP.cW {ts rest:List Tk} {L1 L2:List yf} (h:qP ts (L1++L2) rest):∃ tO,qP ts L1 tO/\qP tO L2 rest:=by
 obtain⟨I,k,rfl⟩:=h
 obtain⟨o,j,rfl,p,C⟩:=List.map_eq_append_iff.1 k
 exact⟨j++rest,⟨o,p,by rw[List.append_assoc]⟩,j,C,rfl⟩
theorem qP.one {ts rest:List Tk} {k:Nat} {t:List UInt8} {n:R3} (h:qP ts [(k,t,n)] rest):∃ u,ts=u :: rest/\u.kind=k/\u.text=t/\u.num=n:=by
 obtain⟨p,q,rfl⟩:=h
 obtain⟨u,l,rfl,j,o⟩:=List.map_eq_cons_iff.1 q
 rw[List.map_eq_nil_iff] at o
 subst o
 unfold Tk.key at j
 simp only[Prod.mk.injEq] at j
 exact⟨u,rfl,j.1,j.2.1,j.2.2⟩
theorem qP.len {ts rest:List Tk} {L:List yf} (h:qP ts L rest):ts.length=L.length+rest.length:=by
 obtain⟨j,rfl,rfl⟩:=h;simp
theorem bD (u:Tk) (l:List Tk):hd (u :: l)=u:=rfl
theorem g8 (u:Tk) (l:List Tk):(u :: l).drop 1=l:=rfl
def OQ (d:Nat) (ts:List Tk) (r:PR Ex):Prop:=∀ f,12 * ts.length+5<=f->nV f d ts=some r
def QH (d:Nat) (ts:List Tk) (r:PR Ex):Prop:=∀ f,12 * ts.length+7<=f->rm f d ts=some r
def JA (n d:Nat) (ts:List Tk) (r:PR Ex):Prop:=∀ f,12 * ts.length+14<=f+n->fp f n d ts=some r
def OR (n d:Nat) (a:Ex) (ts:List Tk) (r:PR Ex):Prop:=∀ f,12 * ts.length+2<=f->w7 f n d a ts=some r
def Ag5 (d n:Nat) (ts:List Tk) (r:PR bi):Prop:=∀ f,12 * ts.length+14<=f->mH f d n ts=some r
structure Fw (rest:List Tk):Prop where
 k5:(hd rest).kind≠5
 k8:(hd rest).kind≠8
 k9:(hd rest).kind≠9
structure Fo (n:Nat) (rest:List Tk):Prop where
 w:Fw rest
 pc:oD (hd rest) 37=false
 op:∀ m,n<=m->m<=5->jw (hd rest) m=0
theorem Fo.up {n m:Nat} {rest:List Tk} (h:Fo n rest) (g:n<=m):Fo m rest:=⟨h.w,h.pc,fun k a b=>h.op k om b⟩
theorem Fo.kind {rest:List Tk} (n:Nat) (j:(hd rest).kind≠4) (o:(hd rest).kind≠5) (p:(hd rest).kind≠8) (C:(hd rest).kind≠9):Fo n rest:=by
 refine⟨⟨o,p,C⟩,?_,fun m _ _=>?_⟩
 . unfold oD;rw[decide_eq_false j];rfl
 . unfold jw;rw[if_neg j]
theorem zZ {e:Ex} {rest:List Tk} (h:oD (hd rest) 37=false):kV e rest=(e,rest):=by
 cases rest with
 | nil=>rfl
 | cons t r=>unfold kV;rw[if_neg (by rw[bD] at h;rw[h];simp)]
theorem Gg {d:Nat} {ts tO rest:List Tk} {x e:Ex} (h:OQ d ts (.ok x tO)) (j:kV x tO=(e,rest)):QH d ts (.ok e rest):=by
 intro f hf
 obtain⟨g,rfl⟩:∃ g,f=g+3:=⟨f-3,om⟩
 have hs:=h (g+1) om
 have o:¬ oD (hd ts) 45=true:=by
  intro q
  have k:=o_ q
  unfold nV at hs
  rw[if_neg om,if_neg om,if_neg om,if_neg om,if_neg om] at hs
  cases hs
 unfold rm
 rw[if_neg o]
 unfold At
 rw[hs]
 simp only[j]
theorem HT {n d:Nat} {ts tO:List Tk} {x:Ex} {r:PR Ex} (j:1<=n) (o:n<=5) (h:JA (n+1) d ts (.ok x tO)) (hm:tO.length<=ts.length) (hr:OR n d x tO r):JA n d ts r:=by
 intro f hf
 obtain⟨g,rfl⟩:∃ g,f=g+1:=⟨f-1,om⟩
 unfold fp
 rw[if_neg om,h g om]
 exact hr g om
theorem HU {n d:Nat} {e:Ex} {rest:List Tk} (h:jw (hd rest) n=0):OR n d e rest (.ok e rest):=by
 intro f hf
 obtain⟨g,rfl⟩:∃ g,f=g+1:=⟨f-1,om⟩
 unfold w7
 rw[if_pos h]
theorem OS {d:Nat} {ts:List Tk} {r:PR Ex} (h:QH d ts r):JA 6 d ts r:=by
 intro f hf
 obtain⟨g,rfl⟩:∃ g,f=g+1:=⟨f-1,om⟩
 unfold fp
 rw[if_pos om]
 exact h g om
theorem OT {d:Nat} {ts rest:List Tk} {e:Ex} (h:QH d ts (.ok e rest)) (hl:rest.length<=ts.length):∀ j n,n+j=6->1<=n->(∀ m,n<=m->m<=5->jw (hd rest) m=0)->JA n d ts (.ok e rest):=by
 intro j
 induction j with
 | zero=>intro n q _ _;obtain rfl:n=6:=om
         exact OS h
 | succ j p=>intro n q C o;exact HT C om (p (n+1) om om fun m a b=>o m om b) hl (HU (o n om om))
structure Pz (e:Ex):Prop where
 Si:7<=e.bA->∀ d ts rest,qP ts e.cL rest->d+e.ja<=24->Fw rest->∃ x tO,OQ d ts (.ok x tO)/\tO.length<=ts.length/\kV x tO=kV e rest
 min:6<=e.bA->∀ d ts rest,qP ts e.cL rest->d+e.ja<=24->Fo 6 rest->QH d ts (.ok e rest)
 Ux:∀ k,1<=k->k<=5->k<=e.bA->∀ d ts rest,qP ts e.cL rest->d+e.ja<=24->Fo (k+1) rest->∃ x tO,JA (k+1) d ts (.ok x tO)/\tO.length<=ts.length/\∀ r,OR k d e rest r->OR k d x tO r
 bA:∀ n,1<=n->n<=6->n<=e.bA->∀ d ts rest,qP ts e.cL rest->d+e.ja<=24->Fo n rest->JA n d ts (.ok e rest)
theorem Pz.of (e:Ex) (Si:7<=e.bA->∀ d ts rest,qP ts e.cL rest->d+e.ja<=24->Fw rest->∃ x tO,OQ d ts (.ok x tO)/\tO.length<=ts.length/\kV x tO=kV e rest)
 (I:e.bA=6->∀ d ts rest,qP ts e.cL rest->d+e.ja<=24->Fo 6 rest->QH d ts (.ok e rest))
 (p:∀ k,e.bA=k->1<=k->k<=5->∀ d ts rest,qP ts e.cL rest->d+e.ja<=24->Fo (k+1) rest->∃ x tO,JA (k+1) d ts (.ok x tO)/\tO.length<=ts.length/\∀ r,OR k d e rest r->OR k d x tO r):Pz e:=by
 have min:6<=e.bA->∀ d ts rest,qP ts e.cL rest->d+e.ja<=24->Fo 6 rest->QH d ts (.ok e rest):=by
  intro J d ts rest t hd o
  by_cases g:e.bA=6
  . exact I g d ts rest t hd o
  . obtain⟨x,tO,a,_,b⟩:=Si om d ts rest t hd o.w
    exact Gg a (by rw[b,zZ o.pc])
 have bA:∀ j n,n+j=6->1<=n->n<=e.bA->∀ d ts rest,qP ts e.cL rest->d+e.ja<=24->Fo n rest->JA n d ts (.ok e rest):=by
  intro j
  induction j with
  | zero =>
   intro n q _ h d ts rest t hd o
   obtain rfl:n=6:=om
   exact OS (min h d ts rest t hd o)
  | succ j R =>
   intro n q C h d ts rest t hd o
   by_cases g:e.bA=n
   . obtain⟨x,tO,a,b,c⟩:=p n g C om d ts rest t hd (o.up om)
     exact HT C om a b (c _ (HU (o.op n om om)))
   . exact HT C om (R (n+1) om om om d ts rest t hd (o.up om)) (by rw[t.len];omega) (HU (o.op n om om))
 refine⟨Si,min,fun k C U h d ts rest t hd o=>?_,fun n C J h=>bA (6-n) n om C h⟩
 by_cases g:e.bA=k
 . exact p k g C U d ts rest t hd o
 . exact⟨e,rest,bA (5-k) (k+1) om om om d ts rest t hd o,by rw[t.len];omega,fun r q=>q⟩
theorem Pz.par {e:Ex} (z:Pz e) (hl:1<=e.bA) {d:Nat} {ts rest:List Tk} (t:qP ts ([(5,[40],r0)]++(e.cL++[(6,[41],r0)])) rest) (p:d+e.ja+1<=24):OQ d ts (.ok e rest):=by
 obtain⟨t1,a,o⟩:=t.cW
 clear t
 have t:=o
 clear o
 obtain⟨u,rfl,C,_,_⟩:=a.one
 obtain⟨t2,a,b⟩:=t.cW
 obtain⟨v,rfl,I,_,_⟩:=b.one
 intro f hf
 obtain⟨g,rfl⟩:∃ g,f=g+1:=⟨f-1,om⟩
 rw[List.length_cons] at hf
 unfold nV
 rw[bD,C,if_neg om,if_neg om,if_neg om,if_pos rfl,if_neg om,g8]
 have j:Fo 1 (v :: rest):=Fo.kind 1 (by rw[bD];omega) (by rw[bD];omega) (by rw[bD];omega) (by rw[bD];omega)
 rw[z.bA 1 om om hl (d+1) t1 (v :: rest) a om j g om]
 show (if (hd (v :: rest)).kind=6 then _ else _)=_
 rw[if_pos (show (hd (v :: rest)).kind=6 from I)];rfl
def z_ (e:Ex) (n:Nat):Nat:=if e.bA<n then e.ja+1 else e.ja
theorem Pz.Ag6 {e:Ex} (z:Pz e) (hl:1<=e.bA) {d:Nat} {ts rest:List Tk} (t:qP ts (jb e.cL e.bA 7) rest) (j:d+z_ e 7<=24) (o:Fw rest):∃ x tO,OQ d ts (.ok x tO)/\tO.length<=ts.length/\kV x tO=kV e rest:=by
 unfold jb at t
 unfold z_ at j
 by_cases g:e.bA<7
 . rw[if_pos g] at t j
   exact⟨e,rest,z.par hl t om,by rw[t.len];omega,rfl⟩
 . rw[if_neg g] at t j
   exact z.Si om d ts rest t j o
theorem Pz.Ag7 {e:Ex} (z:Pz e) (hl:1<=e.bA) {d:Nat} {ts rest:List Tk} (t:qP ts (jb e.cL e.bA 6) rest) (j:d+z_ e 6<=24) (o:Fo 6 rest):QH d ts (.ok e rest):=by
 unfold jb at t
 unfold z_ at j
 by_cases g:e.bA<6
 . rw[if_pos g] at t j
   exact Gg (z.par hl t om) (zZ o.pc)
 . rw[if_neg g] at t j
   exact z.min om d ts rest t j o
theorem Pz.Ag8 {e:Ex} (z:Pz e) (hl:1<=e.bA) {n d:Nat} (p:1<=n) (C:n<=6) {ts rest:List Tk} (t:qP ts (jb e.cL e.bA n) rest) (j:d+z_ e n<=24) (o:Fo n rest):JA n d ts (.ok e rest):=by
 have I:=t.len
 unfold jb at t
 unfold z_ at j
 by_cases g:e.bA<n
 . rw[if_pos g] at t j
   exact OT (Gg (z.par hl t om) (zZ o.pc)) om (6-n) n om p o.op
 . rw[if_neg g] at t j
   exact z.bA n p C om d ts rest t j o
theorem Pz.Ag9 {e:Ex} (z:Pz e) (hl:1<=e.bA) {k d:Nat} (p:1<=k) (C:k<=5) {ts rest:List Tk} (t:qP ts (jb e.cL e.bA k) rest) (j:d+z_ e k<=24) (o:Fo (k+1) rest):∃ x tO,JA (k+1) d ts (.ok x tO)/\tO.length<=ts.length/\∀ r,OR k d e rest r->OR k d x tO r:=by
 have I:=t.len
 unfold jb at t
 unfold z_ at j
 by_cases g:e.bA<k
 . rw[if_pos g] at t j
   exact⟨e,rest,OT (Gg (z.par hl t om) (zZ o.pc)) om (5-k) (k+1) om om o.op,om,fun r q=>q⟩
 . rw[if_neg g] at t j
   exact z.Ux k p C om d ts rest t j o
theorem Ac7:∀ op:Fin 13,∀ n:Fin 7,1<=op.val->1<=n.val->(((List.range 12).find? fun i=>decide (Hs.getD (i+1) []=As ((op.val:Nat):Int))&&decide (fH ((i+1:Nat):Int)=n.val)).map (·+1)).getD 0=if n.val=fH ((op.val:Nat):Int) then op.val else 0:=dc
theorem Ac8:∀ op:Fin 13,1<=op.val->1<=fH ((op.val:Nat):Int)/\fH ((op.val:Nat):Int)<=5/\As ((op.val:Nat):Int)≠[37]:=dc
theorem SN {u:Tk} {op n:Nat} (k:u.kind=4) (t:u.text=As (op:Int)) (j:1<=op) (h2:op<=12) (o:1<=n) (p:n<=6):jw u n=if n=fH (op:Int) then op else 0:=by
 unfold jw
 rw[if_pos k,t]
 exact Ac7 ⟨op,om⟩ ⟨n,om⟩ j o
theorem Ac9 {op:Nat} (j:1<=op) (h2:op<=12):1<=fH (op:Int)/\fH (op:Int)<=5/\As (op:Int)≠[37]:=Ac8 ⟨op,om⟩ j
theorem Ae4 {u:Tk} {l:List Tk} {op:Nat} (k:u.kind=4) (t:u.text=As (op:Int)) (j:1<=op) (h2:op<=12):Fo (fH (op:Int)+1) (u :: l):=by
 refine⟨⟨by rw[bD];omega,by rw[bD];omega,by rw[bD];omega⟩,?_,fun m a b=>?_⟩
 . rw[bD];unfold oD;rw[t,decide_eq_false (Ac9 j h2).2.2];simp
 . rw[bD,SN k t j h2 om om,if_neg om]
theorem XT {n:Nat} (j:1<=n) (o:n<=7):MW (lP (n:Int))=n:=by
 have:∀ k:Fin 8,1<=k.val->MW (lP ((k.val:Nat):Int))=k.val:=dc
 exact this ⟨n,om⟩ j
theorem Abz {r:Rf} (h:u5 r.gX r.row=true):¬ (MY r=bT\/MY r=bF):=by
 have e:=SM h
 rintro (q | q)
 . rw[q] at e
   have j:(se bT).2=0:=by rw[e]
   exact absurd j dc
 . rw[q] at e
   have j:(se bF).2=0:=by rw[e]
   exact absurd j dc
theorem Ada {a b:Rf} (j:(fj (jY a b)).2=0) (h2:(fj (jY a b)).1=jY a b):w4 a b=(a,b):=by
 unfold fj at j h2
 by_cases q:u5 (jY a b).c1 (jY a b).r1=false\/u5 (jY a b).c2 (jY a b).r2=false
 . rw[if_pos q] at j;cases j
 . rw[if_neg q] at j h2
   by_cases o:200<Cu (rG (jY a b))
   . rw[if_pos o] at j;cases j
   . rw[if_neg o] at h2
     have c:=congrArg Ar.c1 h2
     have r:=congrArg Ar.r1 h2
     simp only[rG,jY] at c r
     unfold w4
     simp only[if_neg (show ¬ b.gX<a.gX by omega),if_neg (show ¬ b.row<a.row by omega)]
theorem XU {r:Rf} {s:List UInt8} {w:Tk} {rest:List Tk} (hi:u5 r.gX r.row=true) (j:w.text=MY r) (k8:(hd rest).kind≠8):vN s w rest=.ok (.leaf (.cell { r with aU:=s })) rest:=by
 unfold vN
 rw[j,SM hi,if_neg sm,if_pos k8]
theorem SO {a b:Rf} {w u v:Tk} {rest:List Tk} (ha:u5 a.gX a.row=true) (hb:u5 b.gX b.row=true) (bs:b.aU=[]) (j:w.text=MY a) (k8:u.kind=8) (I:v.kind=3) (hv:v.text=MY b) (o:(fj (jY a b)).2=0) (h2:(fj (jY a b)).1=jY a b):vN a.aU w (u :: v :: rest)=.ok (.leaf (.vu a b)) rest:=by
 unfold vN
 rw[j,SM ha,if_neg sm,bD,if_neg om,g8,bD,if_neg om,hv,SM hb,if_neg sm]
 have p:({ ({ a with aU:=[] }:Rf) with aU:=a.aU }:Rf)=a:=rfl
 have C:({ b with aU:=[] }:Rf)=b:=by cases b;cases bs;rfl
 simp only[p,C,Ada o h2]
 rw[if_neg om];rfl
theorem Adb {l:Lf} (h:l.ok=true) {d:Nat} {ts rest:List Tk} (t:qP ts l.cL rest) (p:Fw rest):OQ d ts (.ok (.leaf l) rest):=by
 intro f hf
 obtain⟨g,rfl⟩:∃ g,f=g+2:=⟨f-2,om⟩
 have W:∀ {u:Tk} {t1:List Tk},u.kind=3->sj (g+1) d u t1=some (.ok (.leaf l) rest)->nV (g+2) d (u :: t1)=some (.ok (.leaf l) rest):=by
  intro u t1 k q
  unfold nV
  rw[bD,k,if_neg om,if_neg om,if_neg om,if_neg om,if_pos rfl,g8]
  exact q
 cases l with
 | num r =>
  obtain⟨u,rfl,k,_,n⟩:=qP.one t
  unfold nV
  rw[bD,if_pos k,n];rfl
 | Of s =>
  obtain⟨u,rfl,k,n,_⟩:=qP.one t
  unfold nV
  rw[bD,if_neg om,if_pos k,n];rfl
 | Og n =>
  obtain⟨u,rfl,k,q,_⟩:=qP.one t
  unfold Lf.ok at h
  simp only[Bool.and_eq_true,decide_eq_true_eq] at h
  unfold nV
  rw[bD,if_neg om,if_neg om,if_pos k,q,XT h.1 h.2];rfl
 | Qq b =>
  obtain⟨u,rfl,k,q,_⟩:=qP.one t
  refine W k ?_
  unfold sj
  rw[if_neg p.k5,if_neg p.k9,q]
  cases b <;> rfl
 | cell r =>
  obtain⟨hi,hn⟩:=CT h
  change qP ts r.cL rest at t
  unfold Rf.cL at t
  by_cases o:r.aU=[]
  . rw[if_pos o,List.nil_append] at t
    obtain⟨u,rfl,k,q,_⟩:=qP.one t
    refine W k ?_
    unfold sj
    rw[if_neg p.k5,if_neg p.k9,if_neg (by rw[q];exact Abz hi),XU hi q p.k8]
    rw[<-o]
  . rw[if_neg o] at t
    obtain⟨t1,a,j⟩:=qP.cW (L1:=[(3,r.aU,r0)]) t
    clear t
    have t:=j
    clear j
    obtain⟨u,rfl,k,q,_⟩:=qP.one a
    obtain⟨t2,a,j⟩:=qP.cW (L1:=[(9,[33],r0)]) t
    clear t
    have t:=j
    clear j
    obtain⟨v,rfl,k9,_,_⟩:=qP.one a
    obtain⟨w,rfl,J,I,_⟩:=qP.one t
    refine W k ?_
    unfold sj
    rw[bD,if_neg om,if_pos k9,q,if_neg (by rw[hn o];simp),g8,bD,if_neg om]
    show some (vN r.aU w rest)=_
    rw[XU hi I p.k8]
 | vu a b =>
  unfold Lf.ok at h
  simp only[Bool.and_eq_true,decide_eq_true_eq] at h
  obtain⟨⟨⟨⟨ha,hb⟩,bs⟩,R⟩,h2⟩:=h
  obtain⟨hi,hn⟩:=CT ha
  obtain⟨U,_⟩:=CT hb
  change qP ts (a.cL++([(8,[58],r0)]++b.cL)) rest at t
  obtain⟨t1,x,j⟩:=t.cW
  clear t
  have t:=j
  clear j
  obtain⟨t2,y,j⟩:=t.cW
  clear t
  have t:=j
  clear j
  obtain⟨c,rfl,k8,_,_⟩:=y.one
  unfold Rf.cL at t x
  rw[if_pos bs,List.nil_append] at t
  obtain⟨v,rfl,J,I,_⟩:=t.one
  by_cases o:a.aU=[]
  . rw[if_pos o,List.nil_append] at x
    obtain⟨u,rfl,k,q,_⟩:=qP.one x
    refine W k ?_
    unfold sj
    rw[bD,if_neg om,if_neg om,if_neg (by rw[q];exact Abz hi)]
    have:=SO (rest:=rest) hi U bs q k8 J I R h2
    rw[o] at this
    rw[this]
  . rw[if_neg o] at x
    obtain⟨t3,z,C⟩:=qP.cW (L1:=[(3,a.aU,r0)]) x
    clear x
    have x:=C
    clear C
    obtain⟨u,rfl,k,q,_⟩:=qP.one z
    obtain⟨t4,z,C⟩:=qP.cW (L1:=[(9,[33],r0)]) x
    clear x
    have x:=C
    clear C
    obtain⟨s,rfl,k9,_,_⟩:=qP.one z
    obtain⟨w,rfl,kw,qw,_⟩:=qP.one x
    refine W k ?_
    unfold sj
    rw[bD,if_neg om,if_pos k9,q,if_neg (by rw[hn o];simp),g8,bD,if_neg om]
    show some (vN a.aU w (c :: v :: rest))=_
    rw[SO hi U bs qw k8 J I R h2]
theorem HV {e:Ex} {d:Nat} {ts rest:List Tk} {L:List yf} (t:qP ts L rest) (h:OQ d ts (.ok e rest)):∃ x tO,OQ d ts (.ok x tO)/\tO.length<=ts.length/\kV x tO=kV e rest:=⟨e,rest,h,by rw[t.len];omega,rfl⟩
theorem pR:∀ {e:Ex},e.ok=true->1<=e.bA
 | .leaf _,_=>show 1<=8 by omega
 | .un op a,_=>by
  show 1<=(if op=13 then 6 else if op=14 then 7 else 8)
  split
  . omega
  . split <;> omega
 | .bin op a b,h=>by
  unfold Ex.ok at h
  simp only[Bool.and_eq_true,decide_eq_true_eq] at h
  exact (Ac9 h.2.1 h.2.2).1
 | .call _ _,_=>show 1<=8 by omega
def Az (l:bi):Prop:=∀ d n ts rest,l≠.nil->qP ts (l.cL++[(6,[41],r0)]) rest->d+l.ja<=24->n+l.len<=20->Ag5 d n ts (.ok l rest)
theorem XV {u:Tk} {l:List Tk} (n:Nat) (k:u.kind=6\/u.kind=7):Fo n (u :: l):=Fo.kind n (by rw[bD];omega) (by rw[bD];omega) (by rw[bD];omega) (by rw[bD];omega)
theorem Adc {a:Ex} (z:Pz a) (hl:1<=a.bA):Az (.cons a .nil):=by
 intro d n ts rest _ t j hn
 change qP ts (a.cL++[(6,[41],r0)]) rest at t
 obtain⟨t1,x,o⟩:=t.cW
 clear t
 have t:=o
 clear o
 obtain⟨u,rfl,k,_,_⟩:=t.one
 intro f hf
 obtain⟨g,rfl⟩:∃ g,f=g+1:=⟨f-1,om⟩
 simp only[bi.ja] at j
 simp only[bi.len] at hn
 unfold mH
 rw[if_neg om,z.bA 1 om om hl d ts _ x om (XV 1 (.inl k)) g om]
 show (if (hd (u :: rest)).kind=6 then _ else _)=_
 rw[if_pos (show (hd (u :: rest)).kind=6 from k)];rfl
theorem Aar {a b:Ex} {l:bi} (z:Pz a) (hl:1<=a.bA) (p:Az (.cons b l)):Az (.cons a (.cons b l)):=by
 intro d n ts rest _ t o hn
 have t0:=t
 change qP ts (a.cL++([(7,[44],r0)]++(bi.cons b l).cL)++[(6,[41],r0)]) rest at t
 rw[List.append_assoc,List.append_assoc] at t
 obtain⟨t1,x,j⟩:=t.cW
 clear t
 have t:=j
 clear j
 obtain⟨t2,y,j⟩:=t.cW
 clear t
 have t:=j
 clear j
 obtain⟨u,rfl,k,_,_⟩:=y.one
 intro f hf
 obtain⟨g,rfl⟩:∃ g,f=g+1:=⟨f-1,om⟩
 rw[bi.ja] at o
 rw[bi.len] at hn
 have C:=x.len
 rw[List.length_cons] at C
 unfold mH
 rw[if_neg om,z.bA 1 om om hl d ts _ x om (XV 1 (.inr k)) g om]
 show (if (hd (u :: t2)).kind=6 then _ else if (hd (u :: t2)).kind≠7 then _ else _)=_
 rw[if_neg (show ¬ (hd (u :: t2)).kind=6 by rw[bD];omega),if_neg (show ¬ (hd (u :: t2)).kind≠7 by rw[bD];omega),g8,p d (n+1) t2 rest sm t om om g om]
theorem Aas {l:Lf} (h:l.ok=true):Pz (.leaf l) :=
 Pz.of _ (fun _ d ts rest t j o=>HV t (Adb h t o)) (fun q=>by simp[Ex.bA] at q) fun k q _ _=>by simp[Ex.bA] at q;omega
theorem Ade {a:Ex} (z:Pz a) (hl:1<=a.bA):Pz (.un 13 a):=by
 refine Pz.of _ (fun q=>by simp[Ex.bA] at q) (fun _ d ts rest t j p=>?_) fun k q _ _=>by simp[Ex.bA] at q;omega
 change qP ts ([(4,[45],r0)]++jb a.cL a.bA 6) rest at t
 obtain⟨t1,x,o⟩:=t.cW
 clear t
 have t:=o
 clear o
 obtain⟨u,rfl,k,q,_⟩:=x.one
 change d+(z_ a 6+1)<=24 at j
 intro f hf
 obtain⟨g,rfl⟩:∃ g,f=g+1:=⟨f-1,om⟩
 rw[List.length_cons] at hf
 have s:oD (hd (u :: t1)) 45=true:=by rw[bD];unfold oD;rw[k,q];rfl
 unfold rm
 rw[if_pos s,if_neg om,g8,z.Ag7 hl t om p g om]
theorem Adf {a:Ex} (z:Pz a) (hl:1<=a.bA):Pz (.un 14 a):=by
 refine Pz.of _ (fun _ d ts rest t j J=>?_) (fun q=>by simp[Ex.bA] at q) fun k q _ _=>by simp[Ex.bA] at q;omega
 have R:=t.len
 change qP ts (jb a.cL a.bA 7++[(4,[37],r0)]) rest at t
 obtain⟨t1,x,o⟩:=t.cW
 clear t
 have t:=o
 clear o
 obtain⟨u,rfl,k,q,_⟩:=t.one
 change d+(z_ a 7+0)<=24 at j
 obtain⟨y,tO,p,C,I⟩:=z.Ag6 hl x om ⟨by rw[bD];omega,by rw[bD];omega,by rw[bD];omega⟩
 refine⟨y,tO,p,C,?_⟩
 rw[I]
 have s:oD u 37=true:=by unfold oD;rw[k,q];rfl
 rw[kV.eq_def]
 simp only[s,if_true]
theorem Adg {a b:Ex} {op:Nat} (C:1<=op) (h2:op<=12) (za:Pz a) (I:1<=a.bA) (zb:Pz b) (J:1<=b.bA):Pz (.bin op a b):=by
 obtain⟨v1,v5,_⟩:=Ac9 C h2
 refine Pz.of _ (fun q=>by simp only[Ex.bA] at q;omega) (fun q=>by simp only[Ex.bA] at q;omega) fun k q R k5 d ts rest t j U=>?_
 change fH (op:Int)=k at q
 subst q
 change qP ts (jb a.cL a.bA (fH (op:Int))++([(4,As (op:Int),r0)]++jb b.cL b.bA (fH (op:Int)+1))) rest at t
 obtain⟨t1,x,p⟩:=t.cW
 clear t
 have t:=p
 clear p
 obtain⟨t2,y,p⟩:=t.cW
 clear t
 have t:=p
 clear p
 obtain⟨u,rfl,k,q,_⟩:=y.one
 have dn:d+max (z_ a (fH (op:Int))) (z_ b (fH (op:Int)+1))<=24:=by
  rw[Ex.ja] at j
  unfold z_
  have e:(b.bA<fH (op:Int)+1)=(b.bA<=fH (op:Int)):=propext ⟨fun h=>by omega,fun h=>by omega⟩
  simp only[e]
  exact j
 have xl:=x.len
 obtain⟨s,tO,e1,e2,e3⟩:=za.Ag9 (d:=d) I R k5 x om (Ae4 k q C h2)
 refine⟨s,tO,e1,e2,fun r hr=>e3 r ?_⟩
 intro f hf
 obtain⟨g,rfl⟩:∃ g,f=g+1:=⟨f-1,om⟩
 rw[List.length_cons] at hf
 have tl:=t.len
 have o:jw u (fH (op:Int))=op:=by rw[SN k q C h2 om om,if_pos rfl]
 unfold w7
 rw[bD,o,if_neg om,g8,zb.Ag8 J om om t om U g om]
 exact hr g om
def Hk (L:List yf):Prop:=∃ k r,L=k :: r/\k.1≠6
theorem Hk.cW {L M:List yf} (h:Hk L):Hk (L++M):=by
 obtain⟨k,r,rfl,q⟩:=h
 exact⟨k,r++M,rfl,q⟩
theorem Hk.tm {L:List yf} {ts rest:List Tk} (h:Hk L) (t:qP ts L rest):(hd ts).kind≠6:=by
 obtain⟨k,r,rfl,q⟩:=h
 obtain⟨o,e,rfl⟩:=t
 obtain⟨u,l,rfl,j,p⟩:=List.map_eq_cons_iff.1 e
 rw[List.cons_append,bD]
 rw[<-j] at q;exact q
theorem Hk.held {L:List yf} (h:Hk L) (l n:Nat):Hk (jb L l n):=by
 unfold jb
 split
 . exact⟨_,_,rfl,sm⟩
 . exact h
theorem AbA (r:Rf):Hk r.cL:=by
 unfold Rf.cL
 split
 . exact⟨_,_,rfl,sm⟩
 . exact⟨_,_,rfl,sm⟩
theorem SP:∀ e:Ex,Hk e.cL
 | .leaf (.num _)=>⟨_,_,rfl,sm⟩
 | .leaf (.Of _)=>⟨_,_,rfl,sm⟩
 | .leaf (.Qq _)=>⟨_,_,rfl,sm⟩
 | .leaf (.Og _)=>⟨_,_,rfl,sm⟩
 | .leaf (.cell r)=>AbA r
 | .leaf (.vu a _)=>(AbA a).cW
 | .un op a=>by
  have j:=SP a
  show Hk (if op=13 then [(4,[45],r0)]++jb a.cL a.bA 6 else jb a.cL a.bA (Ex.bA (.un op a))++[(4,As (op:Int),r0)])
  split
  . exact⟨_,_,rfl,sm⟩
  . exact (j.held _ _).cW
 | .bin op a b=>((SP a).held _ _).cW
 | .call f l=>⟨_,_,rfl,sm⟩
theorem Adh (a:Ex) (l:bi):Hk (bi.cons a l).cL:=by
 cases l with
 | nil=>exact SP a
 | cons b l=>exact (SP a).cW
theorem Aat {fn:List UInt8} {l:bi} (hf:Kj fn=true) (hl:l.len<=20) (C:Az l):Pz (.call fn l):=by
 refine Pz.of _ (fun _ d ts rest t o J=>HV t ?_) (fun q=>by simp[Ex.bA] at q) fun k q _ _=>by simp[Ex.bA] at q;omega
 change qP ts ([(3,fn,r0)]++([(5,[40],r0)]++(l.cL++[(6,[41],r0)]))) rest at t
 change d+(l.ja+1)<=24 at o
 obtain⟨t1,x,j⟩:=t.cW
 clear t
 have t:=j
 clear j
 obtain⟨u,rfl,k,q,_⟩:=x.one
 obtain⟨t2,x,j⟩:=t.cW
 clear t
 have t:=j
 clear j
 obtain⟨v,rfl,k5,_,_⟩:=x.one
 intro f p
 obtain⟨g,rfl⟩:∃ g,f=g+2:=⟨f-2,om⟩
 rw[List.length_cons,List.length_cons] at p
 unfold nV
 rw[bD,k,if_neg om,if_neg om,if_neg om,if_neg om,if_pos rfl,g8]
 unfold sj
 rw[bD,if_pos k5,q,if_neg (by rw[hf];simp),if_neg om,g8]
 cases l with
 | nil =>
  obtain⟨w,rfl,k6,_,_⟩:=qP.one t
  rw[bD,if_pos k6];rfl
 | cons a l =>
  have I:(hd t2).kind≠6:=(Adh a l).cW.tm t
  rw[if_neg I,C (d+1) 0 t2 rest sm t om om g om]
mutual
theorem Ex.pz:∀ (e:Ex),e.ok=true->Pz e
 | .leaf l,h=>Aas h
 | .un op a,h=>by
  unfold Ex.ok at h
  simp only[Bool.and_eq_true,Bool.or_eq_true,decide_eq_true_eq] at h
  rcases h.2 with q | q <;> subst q
  . exact Ade (Ex.pz a h.1) (pR h.1)
  . exact Adf (Ex.pz a h.1) (pR h.1)
 | .bin op a b,h=>by
  unfold Ex.ok at h
  simp only[Bool.and_eq_true,decide_eq_true_eq] at h
  exact Adg h.2.1 h.2.2 (Ex.pz a h.1.1) (pR h.1.1) (Ex.pz b h.1.2) (pR h.1.2)
 | .call f l,h=>by
  unfold Ex.ok at h
  simp only[Bool.and_eq_true,decide_eq_true_eq] at h
  exact Aat h.1.2 h.2 (bi.az' l h.1.1)
theorem bi.az':∀ (l:bi),l.ok=true->Az l
 | .nil,_=>fun d n ts rest q=>absurd rfl q
 | .cons a .nil,h=>by
  unfold bi.ok at h
  simp only[Bool.and_eq_true] at h
  exact Adc (Ex.pz a h.1) (pR h.1)
 | .cons a (.cons b l),h=>by
  unfold bi.ok at h
  simp only[Bool.and_eq_true] at h
  exact Aar (Ex.pz a h.1) (pR h.1) (bi.az' (.cons b l) h.2)
end
theorem Ae5 {e:Ex} (h:e.ok=true) (hn:e.ja<=24) (hl:e.sh.length<=300):VH e.sh=.ok e:=by
 obtain⟨j,k,q⟩:=Ac5 h hl
 unfold VH
 rw[q,if_neg sm]
 show UA (j++[⟨0,[],e.sh.length,r0⟩])=_
 unfold UA
 have t:qP (j++[⟨0,[],e.sh.length,r0⟩]) e.cL [⟨0,[],e.sh.length,r0⟩]:=⟨j,k,rfl⟩
 have o:Fo 1 [(⟨0,[],e.sh.length,r0⟩:Tk)]:=Fo.kind 1 (by simp[bD]) (by simp[bD]) (by simp[bD]) (by simp[bD])
 rw[(Ex.pz e h).bA 1 om om (pR h) 0 _ _ t om o _ om]
 simp[bD]
section
variable {h0 h h':H} {b:Nat} {lv nv av gq i_ l l':Value} {T:List Tk} {i:Nat} {ns:List Nd} {ars fs:List Int} {d x:Nat}
end
section
variable {h0 h h':H} {b:Nat} {lv nv av gq i_ l l':Value} {T ts:List Tk} {i:Nat} {ns:List Nd} {ars fs:List Int} {d x:Nat}
end
section
variable {h0 h h':H} {b:Nat} {lv nv av gq i_ l l':Value} {T ts:List Tk} {i:Nat} {ns:List Nd} {ars fs:List Int} {d x:Nat}
end
section
variable {h0 h h':H} {b:Nat} {lv nv av gq i_ l l':Value} {T ts:List Tk} {i:Nat} {ns:List Nd} {ars fs:List Int} {d x:Nat}
end
section
variable {h0 h h':H} {b:Nat} {lv nv av gq i_ l l':Value} {T ts:List Tk} {i:Nat} {ns:List Nd} {ars fs:List Int} {d x:Nat}
end
section
variable {h0 h h':H} {b:Nat} {lv nv av gq i_ l l':Value} {T ts:List Tk} {i:Nat} {ns:List Nd} {ars fs:List Int} {d x:Nat}
end
section
variable {h0 h h':H} {b:Nat} {lv nv av gq i_ l l':Value} {T ts:List Tk} {i:Nat} {ns:List Nd} {ars fs:List Int} {d x:Nat}
end
theorem UB (i:Int):(lP i).length<=10:=by
 unfold lP
 split
 . have:∀ k:Nat,(JW.getD k []).length<=10:=by
    intro k
    match k with
    | 0=>decide
    | 1=>decide
    | 2=>decide
    | 3=>decide
    | 4=>decide
    | 5=>decide
    | 6=>decide
    | 7=>decide
    | n+8=>exact Nat.zero_le _
   exact this _
 . simp
theorem Qy (d:List UInt8):(tL d).length<=10:=by
 unfold tL
 have:∀ (l:List Nat) (j:List UInt8),j.length<=10->(l.foldl (fun j i=>if j.length<(lP ((i+1:Nat):Int)).length/\iY (lP ((i+1:Nat):Int)) d=true then lP ((i+1:Nat):Int) else j) j).length<=10:=by
  intro l
  induction l with
  | nil=>intro j h;exact h
  | cons i l o =>
   intro j h
   rw[List.foldl_cons]
   refine o _ ?_
   split
   . exact UB _
   . exact h
 exact this _ [] sm
theorem UC (s:List UInt8) (at':Nat):(nk s at').1.text.length<=s.length+10:=by
 unfold nk
 have hl:(s.drop at').length<=s.length:=sm
 generalize s.drop at'=d at hl
 cases d with
 | nil=>simp[jW]
 | cons c r =>
  have hr:r.length+1<=s.length:=hl
  have j:∀ k,((c :: r).take k).length<=s.length:=fun k=>by rw[List.length_take];omega
  simp only
  by_cases C:aR c=true
  . rw[if_pos C]
    have:=j (j9 (c :: r))
    generalize (c :: r).take (j9 (c :: r))=u at this ⊢
    generalize qv u=P
    obtain⟨p,e⟩:=P
    by_cases q:e=0
    . rw[if_neg (fun z=>z q)]
      show u.length<=_
      omega
    . rw[if_pos q];simp[jW]
  rw[if_neg C]
  by_cases I:c=34
  . rw[if_pos I]
    cases e:ni r with
    | none=>simp[jW]
    | some p =>
     obtain⟨o,n⟩:=p
     have:=Hw r o n e
     simp only
     by_cases q:jV o=true
     . rw[if_pos q];show o.length<=_;omega
     . rw[if_neg q];simp[jW]
  rw[if_neg I]
  by_cases J:c=35
  . rw[if_pos J]
    have:=Qy (c :: r)
    generalize tL (c :: r)=u at this ⊢
    by_cases q:u=[]
    . rw[if_pos q];simp[jW]
    . rw[if_neg q];show u.length<=_;omega
  rw[if_neg J]
  by_cases R:fb c=true
  . rw[if_pos R]
    show ((c :: r).take _).length<=_
    have:=j (fe fb (c :: r));omega
  rw[if_neg R]
  generalize cY (c :: r)=P
  by_cases U:P.2=0
  . rw[if_pos U];simp[jW]
  . rw[if_neg U]
    show ((c :: r).take _).length<=_
    have:=j P.2;omega
theorem UD (s:List UInt8) (at':Nat):(nj s at').1.text.length<=s.length+10:=by
 unfold nj
 simp only
 split
 . simp
 . exact UC _ _
theorem Qz (s:List UInt8):∀ (f at':Nat) (acc:List Tk),(∀ x ∈ acc,x.text.length<=s.length+10)->∀ x ∈ (tc f s at' acc).2,x.text.length<=s.length+10:=by
 intro f
 induction f with
 | zero=>intro at' acc _ x hx;simp[tc] at hx
 | succ f o =>
  intro at' acc ha x hx
  have hn:=UD s at'
  have j:∀ x ∈ acc++[(nj s at').1],x.text.length<=s.length+10:=fun y p=>by
   rcases List.mem_append.1 p with q | q
   . exact ha y q
   . rw[List.mem_singleton.1 q];exact hn
  unfold tc at hx
  simp only at hx
  by_cases z:(nj s at').2.2≠0
  . rw[if_pos z] at hx;simp at hx
  . rw[if_neg z] at hx
    by_cases k:(nj s at').1.kind=0
    . rw[if_pos k] at hx;exact j x hx
    . rw[if_neg k] at hx;exact o _ _ j x hx
theorem LW (s:List UInt8) (h:(jX s).1=0):rH (jX s).2/\(jX s).2.length<=400:=by
 have e:=WT s h
 refine⟨⟨e.1,fun t j=>?_⟩,e.2⟩
 unfold jX at h j
 by_cases z:300<s.length
 . rw[if_pos z] at h;exact absurd h sm
 . rw[if_neg z] at j
   have:=Qz s _ 0 [] (fun x hx=>by cases hx) t j
   omega
theorem AeP:bC EE 25 []=some (.agg ⟨[.slice none 0 0,.slice none 0 0]⟩):=by kernel_rfl
theorem AgV (a:Option Addr) (n c:Nat):bC EE TR [(0,.slice a n c)]=some (.agg ⟨[.slice a n c,.slice none 0 0,.slice none 0 0,vI 0,vI 0,vI 0]⟩):=by kernel_rfl
def Sn (h h':H) (p:FR) (w:Value):Prop :=
 match p with
 | .err e=>e≠0/\∃ at',w=.tuple ⟨[.agg ⟨[.slice none 0 0,.slice none 0 0]⟩,at',vI e]⟩
 | .ok e=>∃ nv av,w=.tuple ⟨[.agg ⟨[nv,av]⟩,vI 0,vI 0]⟩/\cI Gn TN h h' nv (e.lN 0 0)/\cI wc 3 h h' av ((e.ars 0).map Int.ofNat)
theorem W5 {h h':H} {at':Value} {e:Nat} {p:FR} (j:p=.err e) (he:e≠0):Sn h h' p (.tuple ⟨[.agg ⟨[.slice none 0 0,.slice none 0 0]⟩,at',vI e]⟩):=by subst j;exact⟨he,at',rfl⟩
theorem LX {a c:Value} (j:bX a=true) (h2:bX c=true):da [a,c]=true:=by rw[qp,qp,j,h2];rfl
theorem E0 (s:List UInt8) (h:H):CP mo [st s] h fun w h'=>Fr h h'/\Sn h h' (VH s) w:=by
 generalize C:VH s=p
 refine .call (DZ ?_)
 unfold AU aq
 refine bP fun h1 f1 q1 n1=>?_
 refine (Oe s h1).mono ?_
 rintro w U ⟨f3,l,to,rfl,hl⟩
 have n3:=f3.next
 have F3:=f1.trans f3
 have q3:=f3.aQ q1 om
 simp only[au,ao,ay,aa]
 rw[show (.int .i64 0:Value)=vI 0 from rfl,cX,aa,ae]
 unfold VH at C
 by_cases z:(jX s).1=0
 . rw[if_neg (by simp[z])]
   rw[if_neg (fun y=>y z)] at C
   have own:=hl z
   obtain⟨ok,hlen⟩:=LW s z
   obtain⟨a,c,el,hc⟩:=own.read.sl
   have eb:bC EE TR [(0,l)]=some (.agg ⟨[l,.slice none 0 0,.slice none 0 0,vI 0,vI 0,vI 0]⟩):=by rw[el];exact AgV _ _ _
   rw[eb,aa]
   refine fz fun h4 f4 q4 n4=>?_
   have R4:RS h h4 U.next (.slice none 0 0) (.slice none 0 0) (jX s).2 [] [] 0 0 :=
    ⟨⟨l,vI 0,q4,own.read.fr f4,own.ty.fr f4⟩,.nil,.nil,F3.next,om,F3.trans f4⟩
   have S4:St h h4 U.next (.slice none 0 0) (.slice none 0 0) (jX s).2 [] [] 0:=⟨R4,ok,so,so,om⟩
   unfold UA at C
   have AeQ:=f4.aQ q3 om
   cases e1:fp (12 * (jX s).2.length+20) 1 0 (jX s).2 with
   | none=>exact absurd e1 ((pfu _).bA 1 0 _ ok om om om)
   | some R =>
    rw[e1] at C
    have lh:LU (12 * (jX s).2.length+20):=(par _ _ nlr).bA
    refine (y5 lh e1 S4).mono ?_
    intro v h5 o
    -- AdV is AhB
    have bad:∀ (j:H) (x:Nat) (nv av:Value) (ts:List Tk) (ns:List Nd) (ars:List Int),p=.err x->x≠0->CF U.next (.slice none 0 0) (.slice none 0 0) h4 nv av j->RS h j U.next nv av ts ns ars 0 x ->
     af (db (pT U.next)) fun v20=>af (jx 5 v20) fun v21=>af (aw j v21) fun v22=>af (X.binOp EE .neq 26 v22 (vI 0)) fun v23=>aG v23
      (af (bC EE 25 []) fun v24=>af (db (pT U.next)) fun v25=>af (jx 4 v25) fun v26=>af (aw j v26) fun v27=>af (db (pT U.next)) fun v28=>af (jx 5 v28) fun v29=>af (aw j v29) fun v30=>af (wa 2 j (pT h.next) v24) fun Qu =>
       (aw Qu v29)=some v30/\(aw Qu v26)=some v27/\af ((addrOf (pT h.next)).bind fun a0=>(X.loadVar EE Qu 25 a0).bind fun w0=>(((some []).map (v30 :: ·)).map (v27 :: ·)).map (w0 :: ·)) fun vs=>(fun w h'=>Fr h h'/\Sn h h' p w) (cN vs) Qu)
      (af (db (pT U.next)) fun v33=>af (jx 1 v33) fun v34=>af (fJ 2 j v34) fun v35=>af (wa 2 j (pT h.next) v35) fun h36=>af ((addrOf (pT h.next)).bind fun a0=>(X.loadVar EE h36 25 a0).bind fun w0=>(((some []).map (vI 0 :: ·)).map (vI 0 :: ·)).map (w0 :: ·)) fun vs=>(fun w h'=>Fr h h'/\Sn h h' p w) (cN vs) h36):=by
     intro j x nv av ts ns ars hpe hx F6 R6
     rw[pa,aM,aF R6.cw,cX,aa,ae,if_pos (sp hx),AeP,aa,pa,aM]
     obtain⟨lv,at',r1,_,_⟩:=R6.row
     have c4:aw j (.pointer (some ⟨U.next,0+4,none⟩))=some at':=by rw[aA r1];rfl
     rw[aF c4,pa,aM,aF R6.cw]
     have q6:=F6.row AeQ om om (nP _ _ _) (nP _ _ _)
     refine lV q6 rfl rfl rfl fun h7 f7 q7 n7=>?_
     have r7:=f7.aQ r1 om R6.hi
     refine⟨by rw[aA r7];rfl,by rw[aA r7];rfl,?_⟩
     rw[R_ Acz Aad q7 rfl,aa]
     exact⟨f7.fr R6.PN nlr,W5 hpe hx⟩
    cases o with
    | ok e bE I J _ F5 R5 =>
     have k:=(DX _).bA _ _ _ _ _ ok e1
     obtain⟨t2,VF,e2⟩:=k.1.e.cons
     have hh:hd bE=t2:=by rw[e2];rfl
     rw[show (vI 0:Value)=vI (0:Nat) from rfl]
     refine (qy R5 e2 0).mono ?_
     rintro w j ⟨A6,L6,Y1,Y2⟩
     have F6:=F5.trans (A6.p I J)
     simp only at C
     rw[hh] at C
     by_cases k0:t2.kind=0
     . obtain⟨_,R6⟩:=Y1 k0
       rw[if_pos k0] at C
       rw[pa,aM,aF R6.cw,cX,aa,ae,if_neg sm,pa,aM]
       obtain⟨lv,at',r1,_,_⟩:=R6.row
       have c12:fJ 2 j (.pointer (some ⟨U.next,0+1,none⟩))=some (.agg ⟨[I,J]⟩):=by rw[qo,r1];rfl
       rw[c12,aa]
       have q6:=F6.row AeQ om om (nP _ _ _) (nP _ _ _)
       refine lV q6 rfl rfl (LX R6.nodes.cell.2 R6.args.cell.2) fun h7 f7 q7 n7=>?_
       rw[R_ Acz Aad q7 rfl,aa]
       have o1:bt I h.next:=F6.DU _ om (nP _ _ _)
       have o2:bt J h.next:=F6.CG _ om (nP _ _ _)
       subst C
       refine⟨f7.fr R6.PN nlr,I,J,rfl,?_,?_⟩
       . simpa using R6.nodes.mR f7 o1
       . simpa using R6.args.mR f7 o2
     . obtain⟨_,R6⟩:=Y2 k0
       rw[if_neg k0] at C
       rw[if_pos rfl] at R6
       exact bad j 10 I J _ _ _ C.symm dc F6 R6
    | err x k F_ rj gq i_ _ hx fr hn ha rs =>
     rw[show (vI 0:Value)=vI (0:Nat) from rfl]
     refine (qy rs rfl 0).mono ?_
     rintro w j ⟨A6,L6,Y1,Y2⟩
     obtain⟨_,R6⟩:=Y1 rfl
     exact bad j x gq i_ _ _ _ C.symm hx (fr.trans (A6.p gq i_)) R6
 . rw[if_pos (sp z),AeP,aa]
   rw[if_pos z] at C
   refine lV q3 rfl rfl rfl fun h4 f4 q4 n4=>?_
   rw[R_ Acz Aad q4 rfl,aa]
   exact⟨f4.fr F3 nlr,W5 C.symm z⟩
theorem Hz (r:R3) (h:H):ai PP xa [rv r] h (.v (.bool (iZ r.neg r.num r.den&&!r.neg&&sP (aJ (wD r.neg r.num r.den)))) h):=by
 refine aj.pure (Jo ?_) (by simp[flat])
 unfold HA aq
 refine fz fun j f1 o C=>?_
 have c0:aw j (.pointer (some ⟨h.next,0+0,none⟩))=some (.bool r.neg):=by rw[aA o];rfl
 have p:fJ 3 j (pT h.next)=some (sQ r.neg r.num r.den):=cO (n:=3) o rfl
 rw[p,aa]
 refine ar (oV r.neg r.num r.den j) ?_
 unfold JV
 simp only[au,ao,ay,aa]
 rw[p,aa]
 refine ar (uT r.neg r.num r.den j) ?_
 rw[ag]
 unfold pN aq
 cases I:iZ r.neg r.num r.den with
 | false=>rw[if_neg sm];exact⟨sm,f1⟩
 | true =>
  rw[if_pos rfl,aM,aF c0,aY,aa,ag]
  cases hn:r.neg with
  | true=>rw[if_neg sm];exact⟨sm,f1⟩
  | false=>rw[if_pos sm];exact⟨sm,f1⟩
theorem QA {a:Ar} (h:AT a=true):0<Cu a:=by
 unfold AT at h
 rw[Bool.and_eq_true,decide_eq_true_eq,decide_eq_true_eq] at h
 obtain⟨j,h2⟩:=h
 unfold fj at j h2
 by_cases q:u5 a.c1 a.r1=false\/u5 a.c2 a.r2=false
 . rw[if_pos q] at j;exact absurd j sm
 rw[if_neg q] at j h2
 by_cases o:200<Cu (rG a)
 . rw[if_pos o] at j;exact absurd j sm
 rw[if_neg o] at h2
 have e:rG a=a:=by first | exact h2 | exact h2.symm
 have p:min a.c1 a.c2=a.c1:=congrArg Ar.c1 e
 have C:min a.r1 a.r2=a.r1:=congrArg Ar.r1 e
 unfold Cu
 exact Int.mul_pos om om
theorem Ow (a b:Rf) (ha:a.aU.length<=bl) (hb:b.aU.length<=bl) (h:H):ai PP D2 [NV a,NV b] h (.v (.bool (o7 a&&o7 b&&decide (b.aU=[])&&decide ((fj (jY a b)).2=0)&&decide ((fj (jY a b)).1=jY a b))) h):=by
 refine aj.pure (QB ?_) (by simp[flat])
 unfold So aq
 refine fz fun C f1 q1 n1=>fz fun o f3 I n3=>?_
 have J:=f3.aQ q1 om
 have F3:=f1.trans f3
 have e1:aw o (.pointer (some ⟨h.next,0+1,none⟩))=some (.int .i64 a.gX):=by rw[aA J];rfl
 have e2:aw o (.pointer (some ⟨h.next,0+2,none⟩))=some (.int .i64 a.row):=by rw[aA J];rfl
 have e3:aw o (.pointer (some ⟨C.next,0+1,none⟩))=some (.int .i64 b.gX):=by rw[aA I];rfl
 have e4:aw o (.pointer (some ⟨C.next,0+2,none⟩))=some (.int .i64 b.row):=by rw[aA I];rfl
 rw[aM,aF e1,aM,aF e2,aM,aF e3,aM,aF e4,bAr,aa]
 refine bP fun h4 f4 q4 n4=>lV q4 rfl rfl rfl fun j f5 q5 n5=>?_
 have p:Fr h j:=f5.fr (F3.trans f4) om
 have k1:=f5.aQ (f4.aQ J om) om om
 have U:=f5.aQ (f4.aQ I om) om om
 have c0:aw j (.pointer (some ⟨C.next,0+0,none⟩))=some (st b.aU):=by rw[aA U];rfl
 have a5:fJ 4 j (pT o.next)=some (WC (jY a b)):=cO (n:=4) q5 rfl
 rw[a5,aa]
 refine ar (Jc (jY a b) j) ?_
 have R:AT (jY a b)=(decide ((fj (jY a b)).2=0)&&decide ((fj (jY a b)).1=jY a b)):=by
  unfold AT
  first | rfl | (congr 1;exact decide_eq_decide.2 ⟨fun q=>q.symm,fun q=>q.symm⟩)
 rw[Go.X.binOp_gtr,aa,ag,Bool.and_assoc,<-R]
 unfold qE aq
 cases hw:AT (jY a b) with
 | false=>rw[if_neg sm];exact⟨sm,p⟩
 | true =>
  have:=QA hw
  rw[if_pos (sp this),cO (n:=5) k1 rfl,aa]
  refine ar (pE a ha j) ?_
  rw[ag]
  cases ra:o7 a with
  | false=>rw[if_neg sm];exact⟨sm,p⟩
  | true =>
   rw[if_pos rfl,cO (n:=5) U rfl,aa]
   refine ar (pE b hb j) ?_
   rw[ag]
   cases rb:o7 b with
   | false=>rw[if_neg sm];exact⟨sm,p⟩
   | true =>
    rw[if_pos rfl,aM,aF c0,GH,Go.X.bf,aa]
    exact⟨sm,p⟩
theorem y9 (r:Rf):(An r).length<=20:=by
 unfold An
 by_cases ok:o7 r=true
 . rw[if_pos ok]
   have hs:=NU ok
   have p:=zT.1 ((Cz r).1 ok).2
   have j:=CD r.gX
   obtain⟨m,hm⟩:∃ m:Nat,r.row=(m:Int):=⟨r.row.toNat,om⟩
   have o:=zU m om
   have f1:∀ b,(mG b).length<=1:=fun b=>by cases b <;> simp[mG]
   have f2:=f1 r.fc
   have f3:=f1 r.fr
   rw[hm,Int.toNat_natCast]
   by_cases q:r.aU=[]
   . rw[if_pos q];simp only[List.length_append,List.length_nil];omega
   . rw[if_neg q];simp only[List.length_append,List.length_cons,List.length_nil];omega
 . rw[if_neg ok];simp
def Lf.sm:Lf->Prop
 | .Of s=>s.length<=100000
 | .cell r=>r.aU.length<=1000
 | .vu a b=>a.aU.length<=1000/\b.aU.length<=1000
 | _=>True
theorem Aae (b:Bool):Wm ⟨3,r0,[],b,0⟩=if b=true then bT else bF:=by cases b <;> decide
theorem HB (J:∀ (s:List UInt8) (h:H),s.length<=100000000->ai PP lY [st s] h (.v (st (quo s)) h)) (l:Lf) (hl:l.sm) (h:H):ai PP sk [Aq l.nd] h (.v (st l.sh) h):=by
 refine aj.pure (Jp ?_) (by simp[flat])
 unfold HC aq
 refine fz fun j f1 o n1=>?_
 have c0:aw j (.pointer (some ⟨h.next,0+0,none⟩))=some (.int .i64 l.nd.kind):=by rw[aA o];rfl
 have c1:aw j (.pointer (some ⟨h.next,0+1,none⟩))=some (.int .i64 l.nd.op):=by rw[aA o];rfl
 have R:aw j (.pointer (some ⟨h.next,0+7,none⟩))=some (st l.nd.text):=by rw[aA o];rfl
 have U:aw j (.pointer (some ⟨h.next,0+8,none⟩))=some (.bool l.nd.uc):=by rw[aA o];rfl
 have a4:fJ 3 j (.pointer (some ⟨h.next,0+4,none⟩))=some (sQ l.nd.num.neg l.nd.num.num l.nd.num.den):=by rw[qo,o];rfl
 have I:fJ 5 j (.pointer (some ⟨h.next,0+9,none⟩))=some (NV l.nd.ref):=by rw[qo,o];rfl
 have p:fJ 5 j (.pointer (some ⟨h.next,0+14,none⟩))=some (NV l.nd.to):=by rw[qo,o];rfl
 rw[aM,aF c0,Go.X.ak,aa,ae]
 cases l with
 | num r =>
  rw[show (Lf.num r).nd.kind=1 from rfl,if_pos (show decide ((1:Int)=1)=true by decide),aM,a4,aa]
  refine ar (ub r.neg r.num r.den j) ?_
  unfold sbV
  simp only[au,ao,ay,aa]
  exact⟨rfl,f1⟩
 | Of s =>
  rw[show (Lf.Of s).nd.kind=2 from rfl,if_neg (show ¬ decide ((2:Int)=1)=true by decide),Go.X.ak,aa,ae,if_pos (show decide ((2:Int)=2)=true by decide),aM,aF R]
  refine ar (J s j (Nat.le_trans hl dc)) ?_
  exact⟨rfl,f1⟩
 | Qq b =>
  rw[show (Lf.Qq b).nd.kind=3 from rfl,if_neg (show ¬ decide ((3:Int)=1)=true by decide),Go.X.ak,aa,ae,if_neg (show ¬ decide ((3:Int)=2)=true by decide),Go.X.ak,aa,ae,if_pos (show decide ((3:Int)=3)=true by decide),aM,aF U]
  refine ar (xW b j) ?_
  refine ar (G0 ⟨3,r0,[],b,0⟩ sm j) ?_
  exact⟨by rw[Aae];rfl,f1⟩
 | Og n =>
  rw[show (Lf.Og n).nd.kind=4 from rfl,if_neg (show ¬ decide ((4:Int)=1)=true by decide),Go.X.ak,aa,ae,if_neg (show ¬ decide ((4:Int)=2)=true by decide),Go.X.ak,aa,ae,if_neg (show ¬ decide ((4:Int)=3)=true by decide),Go.X.ak,aa,ae,if_pos (show decide ((4:Int)=4)=true by decide),aM,aF c1]
  refine ar (ko (n:Int) j) ?_
  exact⟨rfl,f1⟩
 | cell r =>
  have hb:r.aU.length<=bl:=by have:bl=1000000000:=rfl;have:r.aU.length<=1000:=hl;omega
  rw[show (Lf.cell r).nd.kind=5 from rfl,if_neg (show ¬ decide ((5:Int)=1)=true by decide),Go.X.ak,aa,ae,if_neg (show ¬ decide ((5:Int)=2)=true by decide),Go.X.ak,aa,ae,if_neg (show ¬ decide ((5:Int)=3)=true by decide),Go.X.ak,aa,ae,if_neg (show ¬ decide ((5:Int)=4)=true by decide),Go.X.ak,aa,ae,if_neg (show ¬ decide ((5:Int)=6)=true by decide),aM,I,aa]
  refine ar (wT r hb j) ?_
  exact⟨rfl,f1⟩
 | vu a b =>
  have hb:a.aU.length<=bl:=by have:bl=1000000000:=rfl;have:a.aU.length<=1000:=hl.1;omega
  have C:b.aU.length<=bl:=by have:bl=1000000000:=rfl;have:b.aU.length<=1000:=hl.2;omega
  have l1:=y9 a
  have l2:=y9 b
  rw[show (Lf.vu a b).nd.kind=6 from rfl,if_neg (show ¬ decide ((6:Int)=1)=true by decide),Go.X.ak,aa,ae,if_neg (show ¬ decide ((6:Int)=2)=true by decide),Go.X.ak,aa,ae,if_neg (show ¬ decide ((6:Int)=3)=true by decide),Go.X.ak,aa,ae,if_neg (show ¬ decide ((6:Int)=4)=true by decide),Go.X.ak,aa,ae,if_pos (show decide ((6:Int)=6)=true by decide),aM,I,aa]
  refine ar (wT a hb j) ?_
  rw[show (bs [58])=⟨⟨[58]⟩⟩ from rfl,Bq _ _ so,aa,aM,p,aa]
  refine⟨rfl,?_⟩
  refine ar (wT b C j) ?_
  rw[Bq _ _ so,aa]
  exact⟨rfl,f1⟩
theorem FG (l:List UInt8) (c:UInt8) (h:H):CP eD [st l,v8 c.toNat] h fun w h'=>h'=h/\w=vI (l.count c):=by
 refine .ext ⟨⟨_,_,rfl,rfl⟩,Tryz.f114,Extern.BytealgCount.count,JU.funcs eD Tryz.f114 (by kernel_rfl),by kernel_rfl,by kernel_rfl,by kernel_rfl,?_⟩
 intro ρ ARGS W o p
 cases o with
 | cons _ I _ L1 C hl =>
  cases hl with
  | cons _ J _ L2 h2 j =>
   cases j
   cases C
   cases h2
   refine⟨_,_,ρ,_,W,⟨rfl,rfl⟩,Go.Lib.run_countString _ _ _,?_,p,Ext.refl _ _ _⟩
   have e:((c.toNat:Int).toNat.toUInt8)=c:=sm
   unfold Go.Lib.countByte
   rw[e]
   exact .int _ _
theorem QC (l:List UInt8) (c:UInt8) (h:H):ai PP rq [st l,st [c]] h (.v (vI (l.count c)) h):=by
 refine aj.pure (D3 ?_) (by simp[flat])
 unfold AV aq
 have j:MV (st [c]) (.int .i64 0)=some (v8 c.toNat):=WI
 rw[eY,Go.X.ak,aa,ae,if_neg sm,eY,Go.X.ak,aa,ae,if_pos sm,j,aa]
 refine (FG l c h).mono ?_
 rintro w h' ⟨rfl,rfl⟩
 exact⟨rfl,Fr.refl _⟩
def Ox (c:UInt8) (j l:List UInt8):List UInt8:=l.flatMap (fun x=>if x=c then j else [x])
theorem LY (c:UInt8) (j a b:List UInt8):Ox c j (a++b)=Ox c j a++Ox c j b:=by unfold Ox;rw[List.flatMap_append]
theorem LZ (c:UInt8) (j:List UInt8):∀ l:List UInt8,l.count c=0->Ox c j l=l
 | [],_=>rfl
 | a :: l,h=>by
  rw[List.count_cons] at h
  by_cases e:a=c
  . rw[if_pos (by simp[e])] at h;omega
  . unfold Ox
    rw[List.flatMap_cons,if_neg e]
    have:=LZ c j l om
    unfold Ox at this
    rw[this];rfl
theorem Ga (c:UInt8) (j:List UInt8) (hn:j.length<=2):∀ l:List UInt8,(Ox c j l).length<=2 * l.length
 | []=>by simp[Ox]
 | a :: l=>by
  have:=Ga c j hn l
  unfold Ox at this ⊢
  rw[List.flatMap_cons,List.length_append,List.length_cons]
  by_cases e:a=c
  . rw[if_pos e];omega
  . rw[if_neg e,List.length_singleton];omega
theorem Oy (c:UInt8):∀ r:List UInt8,0<r.count c->r.contains c=true/\(r.takeWhile (· != c)).count c=0/\r=r.takeWhile (· != c)++c :: r.drop ((r.takeWhile (· != c)).length+1)
 | [],h=>by simp at h
 | a :: r,h=>by
  by_cases e:a=c
  . subst e
    refine⟨sm,sm,sm⟩
  . have j:(a :: r).takeWhile (· != c)=a :: r.takeWhile (· != c):=by rw[List.takeWhile_cons,if_pos (sp e)]
    rw[List.count_cons,if_neg (sp e)] at h
    obtain⟨o,h2,p⟩:=Oy c r om
    refine⟨?_,?_,?_⟩
    . rw[List.contains_cons,o,Bool.or_true]
    . rw[j,List.count_cons,if_neg (sp e),h2]
    . rw[j]
      simp only[List.length_cons,List.drop_succ_cons,List.cons_append]
      exact congrArg (a :: ·) p
theorem HD (c:UInt8) (o s:List UInt8) (im:o≠[c]) (hn:o.length<=2) (hn1:1<=o.length) (hs:s.length<=100000000) (h:H):ai PP kz [st s,st [c],st o] h (.v (st (Ox c o s)) h):=by
 have qS:bl=1000000000:=rfl
 refine aj.pure (ye ?_) (by simp[flat])
 unfold tj aq
 refine .call (BD ?_)
 unfold x7 aq
 rw[Go.X.bf,aa,ag,if_pos (by simp;exact fun q=>im q.symm),Go.X.ak,aa]
 unfold mI aq
 rw[ae,if_neg sm]
 refine ar (QC s c h) ?_
 rw[show (.int .i64 0:Value)=vI 0 from rfl,cn,aa,ae]
 by_cases z:s.count c=0
 . rw[if_pos (sp z)]
   exact⟨by rw[LZ c o s z],Fr.refl _⟩
 rw[if_neg (sp z),show vI 0=(.int .i64 0:Value) from rfl,Go.X.binOp_lss,aa,ag,if_neg sm]
 unfold lG aq
 rw[ae,if_pos rfl]
 unfold lH aq
 have hc:s.count c<=s.length:=List.count_le_length
 refine bP fun h1 f1 q1 n1=>?_
 have AhC:s.count c * (o.length-1)<=s.length * 1:=Nat.mul_le_mul hc om
 have e1:X.binOp EE .sub 3 (.int .i64 (o.length:Nat)) (.int .i64 (([c]:List UInt8).length:Nat))=some (vI (o.length-1)):=pX EE 3 o.length 1 om om
 have e2:X.binOp EE .mul 3 (vI (s.count c)) (vI (o.length-1))=some (vI (s.count c * (o.length-1))):=by rw[Ds,wrap_i64 om]
 have e3:X.binOp EE .add 3 (.int .i64 (s.length:Nat)) (vI (s.count c * (o.length-1)))=some (vI (s.length+s.count c * (o.length-1))):=dm EE 3 s.length (s.count c * (o.length-1)) om
 rw[eY,eY,eY,e1,aa,e2,aa,e3,aa]
 refine (GM f1 nlr om q1 _ om).mono ?_
 rintro w h2 ⟨f2,x2,B2⟩
 rw[eY,Go.X.binOp_gtr,aa,ae,if_pos sm]
 refine aL.ind (fun R p=>Fr h p/\∃ k i:Nat,R=[st s,st [c],st o,pT h.next,vI i,vI (s.count c),vI k]/\i<=s.length/\(s.drop i).count c+k=s.count c/\qX h p h.next (Ox c o (s.take i))) (fun R _=>match aI R 6 with | .int _ i=>s.count c-i.toNat | _=>0) ?_ ⟨f2,0,0,rfl,Nat.zero_le _,sm,by simpa [Ox] using B2⟩
 rintro R C ⟨f3,k,i,rfl,hi,hk,B3⟩
 show lI _ _ (st s) (st [c]) (st o) (pT h.next) (vI i) (vI (s.count c)) (vI k) C
 unfold lI aq
 have hbl:=Ga c o hn (s.take i)
 have Zg:(s.take i).length<=s.length:=by rw[List.length_take];omega
 have ed:aO EE C 9 (st s) (some (vI i)) none none=some (st (s.drop i)):=CB hi
 rw[bI,aa,ae]
 by_cases I:k<s.count c
 . rw[if_pos (sp I)]
   obtain⟨g1,g2,g3⟩:=Oy c (s.drop i) om
   rw[ed,aa]
   refine .call (D4 ?_)
   unfold AW aq
   refine ar (G' (s.drop i) c C) ?_
   have eix:ZN c (s.drop i)=(((s.drop i).takeWhile (· != c)).length:Nat):=by unfold ZN;rw[if_pos g1]
   rw[eix]
   have etk:(s.drop i).take ((s.drop i).takeWhile (· != c)).length=(s.drop i).takeWhile (· != c):=AO _ _
   generalize hr:s.drop i=r at *
   generalize ht:r.takeWhile (· != c)=t at *
   have lr:r.length+i=s.length:=by rw[<-hr,List.length_drop];omega
   have lt:t.length+1<=r.length:=by rw[g3];simp
   have es:s=s.take i++r:=by rw[<-hr,List.take_append_drop]
   have w1:X.binOp EE .add 3 (vI i) (.int .i64 (t.length:Nat))=some (vI (i+t.length)):=dm EE 3 i t.length om
   have lti:(s.take i).length=i:=by rw[List.length_take];omega
   have em:aO EE C 9 (st s) (some (vI i)) (some (vI (i+t.length))) none=some (st t):=by
    have:=Qn (h:=C) (l:=s) (i:=i) (j:=i+t.length) om om
    have e5:(s.take (i+t.length)).drop i=t:=by
     rw[List.drop_take,hr,show i+t.length-i=t.length by omega]
     exact etk
    rw[e5] at this;exact this
   show af (X.binOp EE .add 3 (vI i) (.int .i64 (t.length:Nat))) _
   rw[w1,aa,em,aa]
   refine (cR f3 B3 t om om).mono ?_
   rintro w5 h5 ⟨f5,x5,U⟩
   refine (cR f5 U o (by rw[List.length_append];omega) om).mono ?_
   rintro w6 h6 ⟨f6,x6,B6⟩
   have w2:X.binOp EE .add 3 (vI (i+t.length)) (.int .i64 (([c]:List UInt8).length:Nat))=some (vI (i+t.length+1)):=dm EE 3 (i+t.length) 1 om
   have w3:X.binOp EE .add 3 (vI k) (.int .i64 1)=some (vI (k+1)):=dm EE 3 k 1 om
   rw[eY,w2,aa,w3,aa]
   have ed2:s.drop (i+t.length+1)=r.drop (t.length+1):=by rw[<-hr,List.drop_drop];rfl
   have J:s.take (i+t.length+1)=s.take i++(t++[c]):=by
    have e6:∀ x:List UInt8,(t++c :: x).take (t.length+1)=t++[c]:=by
     intro x
     rw[show t++c :: x=(t++[c])++x by simp,show t.length+1=(t++[c]).length by simp,List.take_left]
    have e7:=congrArg (List.take (t.length+1)) g3
    rw[e6] at e7
    rw[Nat.add_assoc,List.take_add,hr,e7]
   refine⟨⟨f6,k+1,i+t.length+1,rfl,om,?_,?_⟩,?_⟩
   . rw[ed2]
     have:r.count c=t.count c+(1+(r.drop (t.length+1)).count c):=by
      conv=>lhs;rw[g3]
      rw[List.count_append,List.count_cons];simp;omega
     omega
   . rw[J,LY,LY,LZ c o t g2,<-List.append_assoc]
     have:Ox c o [c]=o:=by simp[Ox]
     rw[this];exact B6
   . show s.count c-((k+1:Nat):Int).toNat<s.count c-(k:Int).toNat
     omega
 . rw[if_neg (sp I)]
   unfold lJ aq
   rw[ed,aa]
   refine (cR f3 B3 (s.drop i) om (by rw[List.length_drop];omega)).mono ?_
   rintro w5 h5 ⟨f5,x5,U⟩
   have e8:Ox c o (s.take i)++s.drop i=Ox c o s:=by
    conv=>rhs;rw[<-List.take_append_drop i s]
    rw[LY,LZ c o (s.drop i) om]
   rw[e8] at U
   have:=Ga c o hn s
   refine (kj f5 U om).mono ?_
   rintro w6 h6 ⟨rfl,f6,_⟩
   exact⟨rfl,f6⟩
theorem xM (s:List UInt8) (h:H) (hs:s.length<=100000000):ai PP lY [st s] h (.v (st (quo s)) h):=by
 refine aj.pure (HE ?_) (by simp[flat])
 unfold E1 aq
 refine ar (HD 34 [34,34] s dc dc dc hs h) ?_
 have:=Ga 34 [34,34] dc s
 rw[show (bs [34])=⟨⟨[34]⟩⟩ from rfl,Bq _ _ so,aa,Bq _ _ so,aa]
 exact⟨rfl,Fr.refl _⟩
theorem W6 (l:Lf) (hl:l.sm) (h:H):ai PP sk [Aq l.nd] h (.v (st l.sh) h):=HB (fun s h hs=>xM s h hs) l hl h
mutual
def Ex.sm:Ex->Prop
 | .leaf l=>l.sm | .un op a=>(op=13\/op=14)/\a.sm | .bin op a b=>(1<=op/\op<=12)/\a.sm/\b.sm | .call f l=>(Kj f=true/\l.len<=20)/\l.sm
def bi.sm:bi->Prop
 | .nil=>True | .cons a l=>a.sm/\l.sm
end
theorem Sp (t:Tk) (n:Nat):jw t n<=12:=by
 unfold jw
 split
 . cases e:(List.range 12).find? fun i=>decide (Hs.getD (i+1) []=t.text)&&decide (fH ((i+1:Nat):Int)=n) with
   | none=>simp
   | some i =>
    have:=List.mem_range.1 (List.mem_of_find?_eq_some e)
    simp only[Option.map_some,Option.getD_some]
    omega
 . omega
theorem L7 {s:List UInt8} (h:Kj s=true):s.length<=12:=by
 unfold Kj at h
 simp only[Bool.and_eq_true,decide_eq_true_eq] at h
 exact h.1.1.2
theorem BE (s:List UInt8):(Ao s).1.aU=[]:=by
 unfold Ao
 simp only
 split
 . rfl
 . split <;> rfl
theorem UI (s:List UInt8):(se s).1.aU.length<=12:=by
 unfold se
 by_cases q:s.contains 33=true
 . rw[if_pos q]
   by_cases j:r_ (gD 33 s)=false
   . rw[if_pos j];simp[ZR]
   . rw[if_neg j]
     simp only
     by_cases o:(Ao (iq 33 s)).2≠0
     . rw[if_pos o,BE];simp
     . rw[if_neg o]
       exact (Hh (sp j)).2
 . rw[if_neg q,BE];simp
theorem HJ (a b:Rf):(w4 a b).1.aU=a.aU/\(w4 a b).2.aU=b.aU:=by
 unfold w4
 simp only
 constructor <;> (repeat' split) <;> rfl
theorem Sq {s:List UInt8} {w:Tk} {ts bE:List Tk} {e:Ex} (hs:s.length<=12) (h:vN s w ts=.ok e bE):e.sm:=by
 unfold vN at h
 by_cases j:(se w.text).2≠0
 . rw[if_pos j] at h;cases h
 rw[if_neg j] at h
 by_cases p:(hd ts).kind≠8
 . rw[if_pos p] at h;cases h
   show s.length<=1000
   omega
 rw[if_neg p] at h
 by_cases C:(hd (ts.drop 1)).kind≠3
 . rw[if_pos C] at h;cases h
 rw[if_neg C] at h
 by_cases I:(se (hd (ts.drop 1)).text).2≠0
 . rw[if_pos I] at h;cases h
 rw[if_neg I] at h
 simp only at h
 split at h
 . cases h
 . cases h
   have o:=HJ { (se w.text).1 with aU:=s } (se (hd (ts.drop 1)).text).1
   refine⟨?_,?_⟩
   . rw[o.1];show s.length<=1000;omega
   . rw[o.2];have:=UI (hd (ts.drop 1)).text;omega
theorem Sr:∀ (ts:List Tk) (a:Ex),a.sm->(kV a ts).1.sm
 | [],a,h=>by unfold kV;exact h
 | t :: ts,a,h=>by
  unfold kV
  by_cases q:oD t 37=true
  . rw[if_pos q];exact Sr ts (.un 14 a) ⟨.inr rfl,h⟩
  . rw[if_neg q];exact h
theorem rH.hd {ts:List Tk} (ok:rH ts):(hd ts).text.length<=100000:=by
 obtain⟨t,r,rfl⟩:=ok.e.cons
 exact ok.t t sm
structure PSm (f:Nat):Prop where
 bA:∀ n d ts e bE,rH ts->fp f n d ts=some (.ok e bE)->e.sm
 Ux:∀ n d a ts e bE,rH ts->a.sm->w7 f n d a ts=some (.ok e bE)->e.sm
 min:∀ d ts e bE,rH ts->rm f d ts=some (.ok e bE)->e.sm
 Si:∀ d ts e bE,rH ts->At f d ts=some (.ok e bE)->e.sm
 sin:∀ d ts e bE,rH ts->nV f d ts=some (.ok e bE)->e.sm
 Z5:∀ d t ts e bE,rH ts->sj f d t ts=some (.ok e bE)->e.sm
 arg:∀ d n ts e bE,n<=20->rH ts->mH f d n ts=some (.ok e bE)->e.sm/\n+e.len<=20
theorem psm:∀ f,PSm f
 | 0=>⟨fun n d ts e bE _ h=>by simp[fp] at h,fun n d a ts e bE _ _ h=>by simp[w7] at h,fun d ts e bE _ h=>by simp[rm] at h,fun d ts e bE _ h=>by simp[At] at h,fun d ts e bE _ h=>by simp[nV] at h,fun d t ts e bE _ h=>by simp[sj] at h,fun d n ts e bE _ _ h=>by simp[mH] at h⟩
 | f+1=>by
  have C:=psm f
  have pl:=DX f
  refine⟨fun n d ts e bE ok h=>?_,fun n d a ts e bE ok ha h=>?_,fun d ts e bE ok h=>?_,fun d ts e bE ok h=>?_,fun d ts e bE ok h=>?_,fun d t ts e bE ok h=>?_,fun d n ts e bE hn ok h=>?_⟩
  . unfold fp at h
    by_cases q:5<n
    . rw[if_pos q] at h;exact C.min _ _ _ _ ok h
    rw[if_neg q] at h
    cases j:fp f (n+1) d ts with
    | none=>rw[j] at h;cases h
    | some R =>
     cases R with
     | err x=>rw[j] at h;cases h
     | ok a t1 =>
      rw[j] at h
      exact C.Ux _ _ _ _ _ _ (pl.bA _ _ _ _ _ ok j).1 (C.bA _ _ _ _ _ ok j) h
  . unfold w7 at h
    by_cases q:jw (hd ts) n=0
    . rw[if_pos q] at h;cases h;exact ha
    rw[if_neg q] at h
    have k0:=zW q
    have d1:=ok.ij om
    cases j:fp f (n+1) d (ts.drop 1) with
    | none=>rw[j] at h;cases h
    | some R =>
     cases R with
     | err x=>rw[j] at h;cases h
     | ok b t1 =>
      rw[j] at h
      exact C.Ux _ _ _ _ _ _ (pl.bA _ _ _ _ _ d1.1 j).1 (show Ex.sm (.bin (jw (hd ts) n) a b) from⟨⟨om,Sp _ _⟩,ha,C.bA _ _ _ _ _ d1.1 j⟩) h
  . unfold rm at h
    by_cases q:oD (hd ts) 45=true
    . rw[if_pos q] at h
      have k0:=o_ q
      have d1:=ok.ij om
      by_cases p:d=24
      . rw[if_pos p] at h;cases h
      rw[if_neg p] at h
      cases j:rm f (d+1) (ts.drop 1) with
      | none=>rw[j] at h;cases h
      | some R =>
       cases R with
       | err x=>rw[j] at h;cases h
       | ok b t1 =>
        rw[j] at h
        cases h
        exact⟨.inl rfl,C.min _ _ _ _ d1.1 j⟩
    . rw[if_neg q] at h;exact C.Si _ _ _ _ ok h
  . unfold At at h
    cases j:nV f d ts with
    | none=>rw[j] at h;cases h
    | some R =>
     cases R with
     | err x=>rw[j] at h;cases h
     | ok b t1 =>
      rw[j] at h
      cases h
      exact Sr _ _ (C.sin _ _ _ _ ok j)
  . unfold nV at h
    by_cases o:(hd ts).kind=1
    . rw[if_pos o] at h;cases h;trivial
    rw[if_neg o] at h
    by_cases o:(hd ts).kind=2
    . rw[if_pos o] at h;cases h;exact ok.hd
    rw[if_neg o] at h
    by_cases o:(hd ts).kind=10
    . rw[if_pos o] at h;cases h;trivial
    rw[if_neg o] at h
    by_cases o:(hd ts).kind=5
    . rw[if_pos o] at h
      have d1:=ok.ij om
      by_cases p:d=24
      . rw[if_pos p] at h;cases h
      rw[if_neg p] at h
      cases j:fp f 1 (d+1) (ts.drop 1) with
      | none=>rw[j] at h;cases h
      | some R =>
       cases R with
       | err x=>rw[j] at h;cases h
       | ok b t1 =>
        rw[j] at h
        simp only at h
        by_cases I:(hd t1).kind=6
        . rw[if_pos I] at h;cases h
          exact C.bA _ _ _ _ _ d1.1 j
        . rw[if_neg I] at h;cases h
    rw[if_neg o] at h
    by_cases o:(hd ts).kind=3
    . rw[if_pos o] at h
      exact C.Z5 _ _ _ _ _ (ok.ij om).1 h
    . rw[if_neg o] at h;cases h
  . unfold sj at h
    by_cases o:(hd ts).kind=5
    . rw[if_pos o] at h
      have d1:=ok.ij om
      by_cases J:Kj t.text=false
      . rw[if_pos J] at h;cases h
      rw[if_neg J] at h
      by_cases p:d=24
      . rw[if_pos p] at h;cases h
      rw[if_neg p] at h
      by_cases I:(hd (ts.drop 1)).kind=6
      . rw[if_pos I] at h;cases h;exact⟨⟨sp J,dc⟩,trivial⟩
      rw[if_neg I] at h
      cases j:mH f (d+1) 0 (ts.drop 1) with
      | none=>rw[j] at h;cases h
      | some R =>
       cases R with
       | err x=>rw[j] at h;cases h
       | ok b t1 =>
        rw[j] at h
        cases h
        have:=C.arg _ _ _ _ _ om d1.1 j
        exact⟨⟨sp J,om⟩,this.1⟩
    rw[if_neg o] at h
    by_cases o:(hd ts).kind=9
    . rw[if_pos o] at h
      by_cases p:r_ t.text=false
      . rw[if_pos p] at h;cases h
      rw[if_neg p] at h
      by_cases I:(hd (ts.drop 1)).kind≠3
      . rw[if_pos I] at h;cases h
      rw[if_neg I] at h
      have h':vN t.text (hd (ts.drop 1)) (ts.drop 2)=.ok e bE:=by injection h
      exact Sq (Hh (sp p)).2 h'
    rw[if_neg o] at h
    by_cases p:t.text=bT\/t.text=bF
    . rw[if_pos p] at h;cases h;trivial
    . rw[if_neg p] at h
      have h':vN [] t ts=.ok e bE:=by injection h
      exact Sq sm h'
  . unfold mH at h
    by_cases o:n=20
    . rw[if_pos o] at h;cases h
    rw[if_neg o] at h
    cases j:fp f 1 d ts with
    | none=>rw[j] at h;cases h
    | some R =>
     cases R with
     | err x=>rw[j] at h;cases h
     | ok a t1 =>
      rw[j] at h
      have k:=pl.bA _ _ _ _ _ ok j
      have s:=C.bA _ _ _ _ _ ok j
      simp only at h
      by_cases I:(hd t1).kind=6
      . rw[if_pos I] at h;cases h
        exact⟨⟨s,trivial⟩,by show n+1<=20;omega⟩
      rw[if_neg I] at h
      by_cases q4:(hd t1).kind≠7
      . rw[if_pos q4] at h;cases h
      rw[if_neg q4] at h
      have d2:=k.1.ij om
      cases U:mH f d (n+1) (t1.drop 1) with
      | none=>rw[U] at h;cases h
      | some R =>
       cases R with
       | err x=>rw[U] at h;cases h
       | ok l t2 =>
        rw[U] at h
        cases h
        have z:=C.arg _ _ _ _ _ om d2.1 U
        exact⟨⟨s,z.1⟩,by show n+(l.len+1)<=20;omega⟩
theorem AcJ {s:List UInt8} {e:Ex} (h:VH s=.ok e):e.sm/\e.sz<=400:=by
 unfold VH at h
 by_cases z:(jX s).1≠0
 . rw[if_pos z] at h;cases h
 rw[if_neg z] at h
 obtain⟨ok,hl⟩:=LW s (sp z)
 unfold UA at h
 cases j:fp (12 * (jX s).2.length+20) 1 0 (jX s).2 with
 | none=>rw[j] at h;cases h
 | some R =>
  rw[j] at h
  cases R with
  | err x=>cases h
  | ok a t1 =>
   simp only at h
   by_cases q:(hd t1).kind=0
   . rw[if_pos q] at h
     cases h
     have k:=(DX _).bA _ _ _ _ _ ok j
     exact⟨(psm _).bA _ _ _ _ _ ok j,om⟩
   . rw[if_neg q] at h;cases h
theorem Ae6:∀ k E,E<k->vC 5 (2 * E)=vC 5 E:=by
 intro k
 induction k with
 | zero=>intro E h;omega
 | succ k j =>
  intro E h
  by_cases g:E=0\/(5:Nat)<2\/E % 5≠0
  . rw[nJ g,nJ om]
  . rw[DO g,DO om,show 2 * E / 5=2 * (E / 5) by omega,j (E / 5) om]
theorem Aau {D k:Nat} (h:D ∣ 10 ^ k) (h2:D % 2≠0) (j:D % 5≠0):D=1:=by
 have c:Nat.gcd 10 D=1:=by
  rw[Nat.gcd_rec]
  have:D % 10=1\/D % 10=3\/D % 10=7\/D % 10=9:=om
  rcases this with q | q | q | q <;> rw[q] <;> rfl
 have c2:Nat.Coprime D (10 ^ k):=Nat.Coprime.pow_right k (by rw[Nat.Coprime,Nat.gcd_comm];exact c)
 exact Nat.Coprime.eq_one_of_dvd c2 h
theorem XW:∀ m D k,D<m->0<D->D ∣ 10 ^ k->2 ^ vC 2 D * 5 ^ vC 5 D=D:=by
 intro m
 induction m with
 | zero=>intro D k h;omega
 | succ m j =>
  intro D k h h0 hd
  by_cases h2:D % 2=0
  . obtain⟨E,rfl⟩:∃ E,D=2 * E:=⟨D / 2,om⟩
    have e:=j E k om om (Nat.dvd_trans ⟨2,om⟩ hd)
    rw[Ae6 (E+1) E om,DO (n:=2) om,show 2 * E / 2=E by omega,Nat.pow_succ,Nat.mul_comm (2 ^ vC 2 E) 2,Nat.mul_assoc,e]
  . by_cases o:D % 5=0
    . obtain⟨E,rfl⟩:∃ E,D=5 * E:=⟨D / 5,om⟩
      have e:=j E k om om (Nat.dvd_trans ⟨5,om⟩ hd)
      rw[nJ (n:=2) om] at e ⊢
      rw[DO (n:=5) om,show 5 * E / 5=E by omega,Nat.pow_succ,Nat.mul_comm (5 ^ vC 5 E) 5,<-Nat.mul_assoc,Nat.mul_comm _ 5,Nat.mul_assoc,e]
    . rw[Aau hd h2 o]
      rw[nJ om,nJ om]
theorem E4 {n:Nat} (h:(enc n).length<=32):nH (enc n)=true:=by
 unfold nH
 have:trim (enc n)=enc n:=by rw[<-yh,a_]
 rw[decide_eq_true h,decide_eq_true this];rfl
theorem Aav {A k:Nat} (h:(Cp false A false (10 ^ k)).2=0):Lf.ok (.num (Cp false A false (10 ^ k)).1)=true:=by
 have o:0<10 ^ k:=Nat.pow_pos om
 unfold Cp at h ⊢
 rw[if_neg om] at h ⊢
 generalize I:10 ^ k=B at *
 have p:0<Nat.gcd A B:=Nat.gcd_pos_of_pos_right A o
 have gA:Nat.gcd A B ∣ A:=Nat.gcd_dvd_left A B
 have C:Nat.gcd A B ∣ B:=Nat.gcd_dvd_right A B
 by_cases q:32<(enc (A / Nat.gcd A B)).length\/32<(enc (B / Nat.gcd A B)).length
 . rw[if_pos q] at h;cases h
 rw[if_neg q]
 have hc:Nat.gcd (A / Nat.gcd A B) (B / Nat.gcd A B)=1:=Nat.coprime_div_gcd_div_gcd p
 have J:0<B / Nat.gcd A B:=Nat.div_pos (Nat.le_of_dvd o C) p
 have j:B / Nat.gcd A B ∣ 10 ^ k:=by rw[I];exact Nat.div_dvd_of_dvd C
 have tn:=E4 (n:=A / Nat.gcd A B) om
 have R:=E4 (n:=B / Nat.gcd A B) om
 have hr:iZ (decide (A≠0)&&decide (false≠false)) (enc (A / Nat.gcd A B)) (enc (B / Nat.gcd A B))=true:=by
  unfold iZ
  rw[tn,R,decide_eq_true (Ack.2 om),a_,a_]
  by_cases z:enc (A / Nat.gcd A B)=[]
  . rw[if_pos z]
    have U:=(fE _).1 z
    rw[U,Nat.gcd_zero_left] at hc
    rw[hc,FZ];simp
  . rw[if_neg z,decide_eq_true hc];rfl
 unfold Lf.ok
 have e:sP (B / Nat.gcd A B)=true:=decide_eq_true (XW _ _ k (Nat.lt_succ_self _) J j)
 show (iZ (decide (A≠0)&&decide (false≠false)) _ _&&!(decide (A≠0)&&decide (false≠false))&&sP (aJ (wD (decide (A≠0)&&decide (false≠false)) _ _)))=true
 unfold wD
 rw[hr,if_pos rfl,a_,e];simp
theorem Adi {s:List UInt8} (h:(qv s).2=0):Lf.ok (.num (qv s).1)=true:=by
 unfold qv at h ⊢
 split at h
 . cases h
 . rename_i j
   rw[if_neg j]
   split at h
   . cases h
   . rename_i o
     rw[if_neg o]
     exact Aav h
theorem UX (d:List UInt8):tL d=[]\/∃ n:Nat,1<=n/\n<=7/\tL d=lP (n:Int):=by
 unfold tL
 have:∀ (l:List Nat),(∀ i ∈ l,i<7)->∀ o:List UInt8,(o=[]\/∃ n:Nat,1<=n/\n<=7/\o=lP (n:Int)) ->
  (fun r:List UInt8=>r=[]\/∃ n:Nat,1<=n/\n<=7/\r=lP (n:Int)) (l.foldl (fun o i=>if o.length<(lP ((i+1:Nat):Int)).length/\iY (lP ((i+1:Nat):Int)) d=true then lP ((i+1:Nat):Int) else o) o):=by
  intro l
  induction l with
  | nil=>intro _ o h;exact h
  | cons i l p =>
   intro hl o h
   rw[List.foldl_cons]
   refine p (fun j C=>hl j (List.mem_cons_of_mem _ C)) _ ?_
   have:=hl i sm
   split
   . exact .inr ⟨i+1,om,om,rfl⟩
   . exact h
 exact this (List.range 7) (fun i hi=>List.mem_range.1 hi) [] (.inl rfl)
structure UY (x:Tk):Prop where
 n:x.kind=1->Lf.ok (.num x.num)=true
 t:x.kind=2->jV x.text=true
 f:x.kind=10->1<=MW x.text/\MW x.text<=7
 w:x.kind=3->x.text.all fb=true
theorem xm {t:Tk} (h:t.kind=0\/3<t.kind/\t.kind≠10):UY t:=⟨fun q=>om,fun q=>om,fun q=>om,fun q=>om⟩
theorem XX (s:List UInt8):(cY s).1=0\/3<(cY s).1/\(cY s).1≠10:=by
 unfold cY
 split
 . simp
 . repeat' (split;· simp)
   simp
theorem Aaw {u:List UInt8} (hu:u=[]\/∃ n:Nat,1<=n/\n<=7/\u=lP (n:Int)) (a:Nat):UY (if u=[] then (jW,0,10) else ((⟨10,u,a,r0⟩:Tk),u.length,0)).1:=by
 by_cases z:u=[]
 . rw[if_pos z];exact xm (.inl rfl)
 . rw[if_neg z]
   obtain⟨n,j,o,q⟩:=hu.resolve_left z
   refine⟨fun q=>(by cases q),fun q=>(by cases q),fun _=>?_,fun q=>(by cases q)⟩
   show 1<=MW u/\MW u<=7
   rw[q,XT j o];exact⟨j,o⟩
theorem Adj (s:List UInt8) (a:Nat):UY (nk s a).1:=by
 unfold nk
 generalize s.drop a=d
 cases d with
 | nil=>exact xm (.inl rfl)
 | cons c r =>
 simp only
 by_cases j:aR c=true
 . rw[if_pos j]
   by_cases q:(qv ((c :: r).take (j9 (c :: r)))).2≠0
   . rw[if_pos q];exact xm (.inl rfl)
   . rw[if_neg q]
     exact⟨fun _=>Adi om,fun q=>(by cases q),fun q=>(by cases q),fun q=>(by cases q)⟩
 rw[if_neg j]
 by_cases C:c=34
 . rw[if_pos C]
   split
   . exact xm (.inl rfl)
   . rename_i o n U
     by_cases q:jV o=true
     . rw[if_pos q]
       exact⟨fun q=>(by cases q),fun _=>q,fun q=>(by cases q),fun q=>(by cases q)⟩
     . rw[if_neg q];exact xm (.inl rfl)
 rw[if_neg C]
 by_cases I:c=35
 . rw[if_pos I]
   have hu:=UX (c :: r)
   generalize tL (c :: r)=u at hu ⊢
   exact Aaw hu a
 rw[if_neg I]
 by_cases J:fb c=true
 . rw[if_pos J]
   refine⟨fun q=>(by cases q),fun q=>(by cases q),fun q=>(by cases q),fun _=>?_⟩
   show ((c :: r).take (fe fb (c :: r))).all fb=true
   unfold fe
   rw[List.all_eq_true]
   intro z hz
   have e:(c :: r).take ((c :: r).takeWhile fb).length=(c :: r).takeWhile fb:=by
    conv=>lhs;rw[<-List.takeWhile_append_dropWhile (p:=fb) (l:=c :: r)]
    rw[List.takeWhile_append_dropWhile,]
    exact (List.prefix_iff_eq_take.1 (List.takeWhile_prefix fb)).symm
   rw[e] at hz
   exact List.all_eq_true.1 (List.all_takeWhile) z hz
 rw[if_neg J]
 by_cases R:(cY (c :: r)).2=0
 . rw[if_pos R];exact xm (.inl rfl)
 . rw[if_neg R];exact xm (XX _)
theorem Adk (s:List UInt8) (a:Nat):UY (nj s a).1:=by
 unfold nj
 simp only
 split
 . exact xm (.inl rfl)
 . exact Adj _ _
def pf (ts:List Tk):Prop:=∀ t ∈ ts,UY t
theorem XY (s:List UInt8):∀ (f at':Nat) (acc:List Tk),pf acc->pf (tc f s at' acc).2:=by
 intro f
 induction f with
 | zero=>intro at' acc _ x hx;simp[tc] at hx
 | succ f o =>
  intro at' acc ha
  have j:pf (acc++[(nj s at').1]):=fun y p=>by
   rcases List.mem_append.1 p with q | q
   . exact ha y q
   . rw[List.mem_singleton.1 q];exact Adk s at'
  unfold tc
  simp only
  split
  . intro x hx;cases hx
  . split
    . exact j
    . exact o _ _ j
theorem XZ (s:List UInt8):∀ (f at':Nat) (acc:List Tk),at'<=s.length->(tc f s at' acc).2.length<=acc.length+(s.length-at')+1:=by
 intro f
 induction f with
 | zero=>intro at' acc _;simp[tc]
 | succ f o =>
  intro at' acc ha
  unfold tc
  simp only
  by_cases z:(nj s at').2.2≠0
  . rw[if_pos z];simp
  . rw[if_neg z]
    have j:=Hq s at' ha (sp z)
    by_cases k:(nj s at').1.kind=0
    . rw[if_pos k];simp <;> omega
    . rw[if_neg k]
      have:=o (nj s at').2.1 (acc++[(nj s at').1]) j.1
      have:=j.2 k
      simp at *;omega
theorem X0 (s:List UInt8):pf (jX s).2/\((jX s).1=0->(jX s).2.length<=301):=by
 unfold jX
 by_cases z:300<s.length
 . rw[if_pos z];exact⟨fun x hx=>(by cases hx),fun q=>(by cases q)⟩
 . rw[if_neg z]
   refine⟨XY s _ 0 [] fun x hx=>(by cases hx),fun _=>?_⟩
   have:=XZ s (s.length+2) 0 [] (Nat.zero_le _)
   simp at this;omega
theorem pf.hd {ts:List Tk} (a:pf ts):UY (hd ts):=by
 cases ts with
 | nil=>exact xm (.inl rfl)
 | cons t r=>exact a t sm
theorem pf.drop {ts:List Tk} (a:pf ts) (k:Nat):pf (ts.drop k):=fun t j=>a t (List.mem_of_mem_drop j)
theorem HW {e:Ex} {n m:Nat} (h:n<=m):z_ e n<=z_ e m:=by unfold z_;split <;> split <;> omega
theorem Adl (e:Ex) (n:Nat):z_ e n<=e.ja+1/\e.ja<=z_ e n:=by unfold z_;split <;> omega
theorem z' {e:Ex} {n:Nat} (h:n<=e.bA):z_ e n=e.ja:=by unfold z_;rw[if_neg om]
theorem SQ {s:List UInt8} (h:(Ao s).2=0):u5 (Ao s).1.gX (Ao s).1.row=true:=by
 unfold Ao at h ⊢
 simp only at h ⊢
 split at h
 . cases h
 . rename_i q
   rw[if_neg q]
   split at h
   . rename_i o
     exact absurd h o
   . rename_i o
     rw[if_neg o]
     have j:=Decidable.not_not.1 o
     show u5 ((yU _).1:Int) ((yU _).2.1:Int)=true
     revert j
     generalize List.take _ _++_=x
     intro j
     unfold yU at j ⊢
     split at j
     . cases j
     . rename_i z
       rw[if_neg z]
       split at j
       . cases j
       . rename_i p
         rw[if_neg p]
         simpa using p
theorem X4 {s:List UInt8} (h:(se s).2=0):u5 (se s).1.gX (se s).1.row=true:=by
 unfold se at h ⊢
 split at h
 . rename_i q
   rw[if_pos q]
   split at h
   . cases h
   . rename_i o
     rw[if_neg o]
     simp only at h ⊢
     split at h
     . rename_i j;exact absurd h j
     . rename_i j
       rw[if_neg j]
       exact SQ (Decidable.not_not.1 j)
 . rename_i q
   rw[if_neg q]
   exact SQ h
theorem X5 {s:List UInt8} (h:s.all fb=true):(se s).1.aU=[]:=by
 have j:s.contains 33=false:=by
  rw[List.contains_eq_any_beq,List.any_eq_false]
  intro c hc q
  have:=List.all_eq_true.1 h c hc
  rw[<-beq_iff_eq.1 q] at this
  exact absurd this dc
 unfold se
 rw[if_neg (by rw[j];simp)]
 exact BE s
theorem OU (a b:Rf):(w4 a b).1.gX=min a.gX b.gX/\(w4 a b).2.gX=max a.gX b.gX/\(w4 a b).1.row=min a.row b.row/\(w4 a b).2.row=max a.row b.row:=by
 unfold w4
 simp only
 by_cases j:b.gX<a.gX <;> by_cases h2:b.row<a.row <;> simp only[j,h2,if_true,if_false] <;> refine⟨?_,?_,?_,?_⟩ <;> omega
theorem QI {a b:Rf} (h:(fj (jY (w4 a b).1 (w4 a b).2)).2=0):(fj (jY (w4 a b).1 (w4 a b).2)).1=jY (w4 a b).1 (w4 a b).2:=by
 obtain⟨j,h2,o,p⟩:=OU a b
 unfold fj at h ⊢
 split at h
 . cases h
 . rename_i q
   rw[if_neg q]
   split at h
   . cases h
   . rename_i C
     rw[if_neg C]
     unfold rG jY
     rw[j,h2,o,p]
     simp only[Ar.mk.injEq]
     omega
theorem Aa (l:Lf):z_ (.leaf l) 8=0:=rfl
theorem OV {s:List UInt8} {w:Tk} {ts bE:List Tk} {e:Ex} (hs:s=[]\/r_ s=true) (a:pf ts) (h:vN s w ts=.ok e bE):pf bE/\e.ok=true/\z_ e 8=0:=by
 have sb:(decide (s=[])||r_ s)=true:=by rcases hs with q | q <;> simp[q]
 unfold vN at h
 by_cases j:(se w.text).2≠0
 . rw[if_pos j] at h;cases h
 rw[if_neg j] at h
 have i1:=X4 (Decidable.not_not.1 j)
 by_cases I:(hd ts).kind≠8
 . rw[if_pos I] at h;cases h
   refine⟨a,?_,Aa _⟩
   show o7 _=true
   unfold o7
   simp only[sb,i1];rfl
 rw[if_neg I] at h
 by_cases p:(hd (ts.drop 1)).kind≠3
 . rw[if_pos p] at h;cases h
 rw[if_neg p] at h
 have hw:=((a.drop 1).hd).w (Decidable.not_not.1 p)
 by_cases C:(se (hd (ts.drop 1)).text).2≠0
 . rw[if_pos C] at h;cases h
 rw[if_neg C] at h
 have i2:=X4 (Decidable.not_not.1 C)
 have sh:=X5 hw
 simp only at h
 split at h
 . cases h
 . rename_i q5
   cases h
   have J:=Decidable.not_not.1 q5
   have o:=HJ { (se w.text).1 with aU:=s } (se (hd (ts.drop 1)).text).1
   have c:=OU { (se w.text).1 with aU:=s } (se (hd (ts.drop 1)).text).1
   have ns:=QI J
   refine⟨a.drop 2,?_,Aa _⟩
   generalize se (hd (ts.drop 1)).text=R2 at *
   generalize se w.text=R1 at *
   have g:∀ c r:Int,(c=R1.1.gX\/c=R2.1.gX)->(r=R1.1.row\/r=R2.1.row)->u5 c r=true:=by
    intro c r hc hr
    unfold u5 at i1 i2 ⊢
    simp only[Bool.and_eq_true,decide_eq_true_eq] at i1 i2 ⊢
    omega
   simp only at o
   obtain⟨c1,c2,R,U⟩:=c
   simp only at c1 c2 R U
   show (o7 _&&o7 _&&decide (_=[])&&decide (_=0)&&decide (_=_))=true
   unfold o7
   rw[o.1,o.2,sh,decide_eq_true J,decide_eq_true ns,g _ _ (by rw[c1];omega) (by rw[R];omega),g _ _ (by rw[c2];omega) (by rw[U];omega)]
   simp only[sb];rfl
theorem OW:∀ (ts:List Tk) (a:Ex) (d:Nat),pf ts->a.ok=true->d+z_ a 7<=24->pf (kV a ts).2/\(kV a ts).1.ok=true/\d+z_ (kV a ts).1 7<=24
 | [],a,d,al,h,hn=>by unfold kV;exact⟨al,h,hn⟩
 | t :: ts,a,d,al,h,hn=>by
  unfold kV
  by_cases q:oD t 37=true
  . rw[if_pos q]
    refine OW ts (.un 14 a) d (al.drop 1) ?_ ?_
    . unfold Ex.ok;rw[h];rfl
    . rw[z' (show 7<=(Ex.un 14 a).bA from Nat.le_refl 7)]
      exact hn
  . rw[if_neg q];exact⟨al,h,hn⟩
theorem Aax {t:Tk} {n:Nat} (h:jw t n≠0):fH ((jw t n:Nat):Int)=n:=by
 unfold jw at h ⊢
 split at h
 . rename_i k
   rw[if_pos k]
   cases e:(List.range 12).find? fun i=>decide (Hs.getD (i+1) []=t.text)&&decide (fH ((i+1:Nat):Int)=n) with
   | none=>rw[e] at h;exact absurd rfl h
   | some i =>
    have:=List.find?_some e
    simp only[Bool.and_eq_true,decide_eq_true_eq] at this
    exact this.2
 . exact absurd rfl h
structure POk (f:Nat):Prop where
 bA:∀ n d ts e bE,pf ts->1<=n->n<=6->d<=24->fp f n d ts=some (.ok e bE)->pf bE/\e.ok=true/\d+z_ e n<=24
 Ux:∀ n d a ts e bE,pf ts->1<=n->n<=5->d<=24->a.ok=true->d+z_ a n<=24->w7 f n d a ts=some (.ok e bE)->pf bE/\e.ok=true/\d+z_ e n<=24
 min:∀ d ts e bE,pf ts->d<=24->rm f d ts=some (.ok e bE)->pf bE/\e.ok=true/\d+z_ e 6<=24
 Si:∀ d ts e bE,pf ts->d<=24->At f d ts=some (.ok e bE)->pf bE/\e.ok=true/\d+z_ e 7<=24
 sin:∀ d ts e bE,pf ts->d<=24->nV f d ts=some (.ok e bE)->pf bE/\e.ok=true/\d+z_ e 8<=24
 Z5:∀ d t ts e bE,pf ts->d<=24->sj f d t ts=some (.ok e bE)->pf bE/\e.ok=true/\d+z_ e 8<=24
 arg:∀ d n ts e bE,pf ts->n<=20->d<=24->mH f d n ts=some (.ok e bE)->pf bE/\e.ok=true/\d+e.ja<=24/\n+e.len<=20
theorem Ae7:∀ f,POk f
 | 0=>⟨fun n d ts e bE _ _ _ _ h=>by simp[fp] at h,fun n d a ts e bE _ _ _ _ _ _ h=>by simp[w7] at h,fun d ts e bE _ _ h=>by simp[rm] at h,fun d ts e bE _ _ h=>by simp[At] at h,fun d ts e bE _ _ h=>by simp[nV] at h,fun d t ts e bE _ _ h=>by simp[sj] at h,fun d n ts e bE _ _ _ h=>by simp[mH] at h⟩
 | f+1=>by
  have I:=Ae7 f
  refine⟨fun n d ts e bE al n1 n6 o h=>?_,fun n d a ts e bE al n1 n5 o ha hn h=>?_,fun d ts e bE al o h=>?_,fun d ts e bE al o h=>?_,fun d ts e bE al o h=>?_,fun d t ts e bE al o h=>?_,fun d n ts e bE al hn o h=>?_⟩
  . unfold fp at h
    by_cases q:5<n
    . rw[if_pos q] at h
      obtain rfl:n=6:=om
      exact I.min _ _ _ _ al o h
    rw[if_neg q] at h
    cases j:fp f (n+1) d ts with
    | none=>rw[j] at h;cases h
    | some R =>
     cases R with
     | err x=>rw[j] at h;cases h
     | ok a t1 =>
      rw[j] at h
      obtain⟨C,p,J⟩:=I.bA _ _ _ _ _ al om om o j
      have:=HW (e:=a) (show n<=n+1 by omega)
      exact I.Ux _ _ _ _ _ _ C n1 om o p om h
  . unfold w7 at h
    by_cases q:jw (hd ts) n=0
    . rw[if_pos q] at h;cases h;exact⟨al,ha,hn⟩
    rw[if_neg q] at h
    cases j:fp f (n+1) d (ts.drop 1) with
    | none=>rw[j] at h;cases h
    | some R =>
     cases R with
     | err x=>rw[j] at h;cases h
     | ok b t1 =>
      rw[j] at h
      obtain⟨C,p,J⟩:=I.bA _ _ _ _ _ (al.drop 1) om om o j
      have hl:=Aax q
      have h12:=Sp (hd ts) n
      generalize jw (hd ts) n=op at *
      refine I.Ux _ _ _ _ _ _ C n1 n5 o ?_ ?_ h
      . unfold Ex.ok;rw[ha,p,decide_eq_true (show 1<=op by omega),decide_eq_true h12];rfl
      . rw[z' (show n<=(Ex.bin op a b).bA by show n<=fH (op:Int);omega)]
        show d+max (if a.bA<fH (op:Int) then a.ja+1 else a.ja) (if b.bA<=fH (op:Int) then b.ja+1 else b.ja)<=24
        rw[hl]
        unfold z_ at hn J
        have e:(b.bA<n+1)=(b.bA<=n):=propext ⟨fun h=>by omega,fun h=>by omega⟩
        simp only[e] at J
        omega
  . unfold rm at h
    by_cases q:oD (hd ts) 45=true
    . rw[if_pos q] at h
      by_cases U:d=24
      . rw[if_pos U] at h;cases h
      rw[if_neg U] at h
      cases j:rm f (d+1) (ts.drop 1) with
      | none=>rw[j] at h;cases h
      | some R =>
       cases R with
       | err x=>rw[j] at h;cases h
       | ok b t1 =>
        rw[j] at h
        cases h
        obtain⟨C,p,J⟩:=I.min _ _ _ _ (al.drop 1) om j
        refine⟨C,by unfold Ex.ok;rw[p];rfl,?_⟩
        rw[z' (show 6<=(Ex.un 13 b).bA from Nat.le_refl 6)]
        show d+(z_ b 6+1)<=24
        omega
    . rw[if_neg q] at h
      obtain⟨C,p,J⟩:=I.Si _ _ _ _ al o h
      have:=HW (e:=e) (show 6<=7 by omega)
      exact⟨C,p,om⟩
  . unfold At at h
    cases j:nV f d ts with
    | none=>rw[j] at h;cases h
    | some R =>
     cases R with
     | err x=>rw[j] at h;cases h
     | ok b t1 =>
      rw[j] at h
      simp only[Option.some.injEq,PR.ok.injEq] at h
      obtain⟨C,p,J⟩:=I.sin _ _ _ _ al o j
      have:=HW (e:=b) (show 7<=8 by omega)
      rw[<-h.1,<-h.2]
      exact OW _ _ _ C p om
  . unfold nV at h
    by_cases q1:(hd ts).kind=1
    . rw[if_pos q1] at h;cases h
      exact⟨al.drop 1,al.hd.n q1,by rw[Aa];omega⟩
    rw[if_neg q1] at h
    by_cases U:(hd ts).kind=2
    . rw[if_pos U] at h;cases h
      exact⟨al.drop 1,al.hd.t U,by rw[Aa];omega⟩
    rw[if_neg U] at h
    by_cases q3:(hd ts).kind=10
    . rw[if_pos q3] at h;cases h
      have z:=al.hd.f q3
      refine⟨al.drop 1,?_,by rw[Aa];omega⟩
      show (decide (1<=MW (hd ts).text)&&decide (MW (hd ts).text<=7))=true
      rw[decide_eq_true z.1,decide_eq_true z.2];rfl
    rw[if_neg q3] at h
    by_cases q4:(hd ts).kind=5
    . rw[if_pos q4] at h
      by_cases q5:d=24
      . rw[if_pos q5] at h;cases h
      rw[if_neg q5] at h
      cases j:fp f 1 (d+1) (ts.drop 1) with
      | none=>rw[j] at h;cases h
      | some R =>
       cases R with
       | err x=>rw[j] at h;cases h
       | ok b t1 =>
        rw[j] at h
        simp only at h
        split at h
        . cases h
          obtain⟨C,p,J⟩:=I.bA _ _ _ _ _ (al.drop 1) om om om j
          rw[z' (pR p)] at J
          have:=Adl e 8
          exact⟨C.drop 1,p,om⟩
        . cases h
    rw[if_neg q4] at h
    by_cases q5:(hd ts).kind=3
    . rw[if_pos q5] at h
      exact I.Z5 _ _ _ _ _ (al.drop 1) o h
    . rw[if_neg q5] at h;cases h
  . unfold sj at h
    by_cases q1:(hd ts).kind=5
    . rw[if_pos q1] at h
      by_cases U:Kj t.text=false
      . rw[if_pos U] at h;cases h
      rw[if_neg U] at h
      have hf:Kj t.text=true:=sp U
      by_cases q3:d=24
      . rw[if_pos q3] at h;cases h
      rw[if_neg q3] at h
      by_cases q4:(hd (ts.drop 1)).kind=6
      . rw[if_pos q4] at h;cases h
        refine⟨al.drop 2,?_,?_⟩
        . unfold Ex.ok bi.ok bi.len;rw[hf];rfl
        . show d+(0+1)<=24
          omega
      rw[if_neg q4] at h
      cases j:mH f (d+1) 0 (ts.drop 1) with
      | none=>rw[j] at h;cases h
      | some R =>
       cases R with
       | err x=>rw[j] at h;cases h
       | ok l t1 =>
        rw[j] at h
        cases h
        obtain⟨C,p,J,k4⟩:=I.arg _ _ _ _ _ (al.drop 1) om om j
        refine⟨C,?_,?_⟩
        . unfold Ex.ok;rw[p,hf,decide_eq_true (show l.len<=20 by omega)];rfl
        . show d+(l.ja+1)<=24
          omega
    rw[if_neg q1] at h
    by_cases U:(hd ts).kind=9
    . rw[if_pos U] at h
      by_cases q3:r_ t.text=false
      . rw[if_pos q3] at h;cases h
      rw[if_neg q3] at h
      by_cases q4:(hd (ts.drop 1)).kind≠3
      . rw[if_pos q4] at h;cases h
      rw[if_neg q4] at h
      obtain⟨C,p,J⟩:=OV (.inr (sp q3)) (al.drop 2) (Option.some.inj h)
      exact⟨C,p,om⟩
    rw[if_neg U] at h
    split at h
    . cases h
      exact⟨al,rfl,by rw[Aa];omega⟩
    . obtain⟨C,p,J⟩:=OV (.inl rfl) al (Option.some.inj h)
      exact⟨C,p,om⟩
  . unfold mH at h
    by_cases q1:n=20
    . rw[if_pos q1] at h;cases h
    rw[if_neg q1] at h
    cases j:fp f 1 d ts with
    | none=>rw[j] at h;cases h
    | some R =>
     cases R with
     | err x=>rw[j] at h;cases h
     | ok a t1 =>
      rw[j] at h
      obtain⟨C,p,J⟩:=I.bA _ _ _ _ _ al om om o j
      rw[z' (pR p)] at J
      simp only at h
      by_cases q3:(hd t1).kind=6
      . rw[if_pos q3] at h;cases h
        refine⟨C.drop 1,by unfold bi.ok;rw[p];rfl,?_,by show n+1<=20;omega⟩
        show d+max a.ja 0<=24
        omega
      rw[if_neg q3] at h
      by_cases q4:(hd t1).kind≠7
      . rw[if_pos q4] at h;cases h
      rw[if_neg q4] at h
      cases e2:mH f d (n+1) (t1.drop 1) with
      | none=>rw[e2] at h;cases h
      | some R =>
       cases R with
       | err x=>rw[e2] at h;cases h
       | ok l t2 =>
        rw[e2] at h
        cases h
        obtain⟨z1,z2,z3,z4⟩:=I.arg _ _ _ _ _ (C.drop 1) om o e2
        refine⟨z1,by unfold bi.ok;rw[p,z2];rfl,?_,by show n+(l.len+1)<=20;omega⟩
        show d+max a.ja l.ja<=24
        omega
theorem Kw {s:List UInt8} {e:Ex} (h:VH s=.ok e):e.right=true:=by
 unfold VH at h
 by_cases z:(jX s).1≠0
 . rw[if_pos z] at h;cases h
 rw[if_neg z] at h
 obtain⟨ok,_⟩:=LW s (sp z)
 obtain⟨al,hl⟩:=X0 s
 have hl:=hl (sp z)
 unfold UA at h
 cases j:fp (12 * (jX s).2.length+20) 1 0 (jX s).2 with
 | none=>rw[j] at h;cases h
 | some R =>
  rw[j] at h
  cases R with
  | err x=>cases h
  | ok a t1 =>
   simp only at h
   by_cases q:(hd t1).kind=0
   . rw[if_pos q] at h
     cases h
     have k:=(DX _).bA _ _ _ _ _ ok j
     obtain⟨t,r,p⟩:=k.1.e.cons
     have C:=k.2
     rw[p,List.length_cons] at C
     obtain⟨_,o,ns⟩:=(Ae7 _).bA _ _ _ _ _ al om om om j
     rw[z' (pR o)] at ns
     unfold Ex.right
     rw[o,decide_eq_true (show e.sz<=300 by omega),decide_eq_true (show e.ja<=24 by omega)];rfl
   . rw[if_neg q] at h;cases h
theorem X6 {s:List UInt8} {e:Ex} (h:VH s=.ok e) (hl:e.sh.length<=300):VH e.sh=.ok e:=by
 have r:=Kw h
 unfold Ex.right at r
 simp only[Bool.and_eq_true,decide_eq_true_eq] at r
 exact Ae5 r.1.1 r.2 hl
section
variable {α:Type} {D:Kd α} {E:Env} {t e:TypeId}
theorem Kl {cs:List Value} {o i j:Nat} {l:List α} (p:(cs.drop o).take (D.k * l.length)=D.flat l) (hi:i<=j) (C:j<=l.length):(cs.drop (o+i * D.k)).take (D.k * (j-i))=D.flat ((l.take j).drop i):=by
 have I:D.k * j<=D.k * l.length:=Nat.mul_le_mul_left _ C
 rw[<-D.vS,<-D.D5,<-p,List.take_take,Nat.min_eq_left I,List.drop_take,List.drop_drop,Nat.mul_comm i,Nat.mul_sub]
theorem aZ.AgW (T:PM E t e D) {h:H} {v:Value} {l:List α} (r:aZ D h v l) {i j:Nat} (hi:i<=j) (C:j<=l.length):∃ w,aO E h t v (some (vI i)) (some (vI j)) (some (vI j))=some w/\aZ D h w ((l.take j).drop i):=by
 cases r with
 | nil =>
  have I:j=0:=sp C
  have J:i=0:=om
  subst I;subst J
  exact⟨_,mJ T.un T.sz h rfl rfl rfl rfl,.nil⟩
 | «at» b o c _ hb hr hc =>
  obtain⟨x,hx,p,R⟩:=hr
  obtain⟨a,U,ha⟩:=vT (lo:=some (vI i)) (hi:=some (vI j)) (mx:=some (vI j)) (n:=l.length) (c:=c) (o:=o) T.un T.sz ⟨x,hx,p⟩ (m:=j) (bm .i64 j c c om) (hh:=j) (bm .i64 j _ j om) (bm .i64 i 0 _ hi) om rfl
  refine⟨_,U,?_⟩
  have hd:((l.take j).drop i).length=j-i:=so
  rw[<-hd]
  rcases ha with ⟨q,rfl⟩ | rfl
  . have e:(l.take j).drop i=[]:=List.drop_of_length_le (by rw[List.length_take];omega)
    rw[e]
    exact .at b o _ [] hb ⟨x,hx,p,by simp[Kd.flat]⟩ (Nat.zero_le _)
  . exact .at b (o+i * D.k) _ _ hb ⟨x,hx,p,by rw[hd];exact Kl R hi C⟩ om
theorem aZ.tO (T:PM E t e D) {h:H} {v:Value} {l:List α} (r:aZ D h v l) {i j:Nat} (hi:i<=j) (C:j<=l.length):∃ w,aO E h t v (some (vI i)) (some (vI j)) none=some w/\aZ D h w ((l.take j).drop i):=by
 cases r with
 | nil =>
  have I:j=0:=sp C
  have J:i=0:=om
  subst I;subst J
  exact⟨_,mJ T.un T.sz h rfl rfl rfl rfl,.nil⟩
 | «at» b o c _ hb hr hc =>
  obtain⟨x,hx,p,R⟩:=hr
  obtain⟨a,U,ha⟩:=vT (lo:=some (vI i)) (hi:=some (vI j)) (mx:=none) (n:=l.length) (c:=c) (o:=o) T.un T.sz ⟨x,hx,p⟩ (m:=c) rfl (hh:=j) (bm .i64 j _ c om) (bm .i64 i 0 _ hi) om rfl
  refine⟨_,U,?_⟩
  have hd:((l.take j).drop i).length=j-i:=so
  rw[<-hd]
  rcases ha with ⟨q,rfl⟩ | rfl
  . have e:(l.take j).drop i=[]:=List.drop_of_length_le (by rw[List.length_take];omega)
    rw[e]
    exact .at b o _ [] hb ⟨x,hx,p,by simp[Kd.flat]⟩ (Nat.zero_le _)
  . exact .at b (o+i * D.k) _ _ hb ⟨x,hx,p,by rw[hd];exact Kl R hi C⟩ om
end
def Ss (n:Nd) (A:List Int):List Int:=if n.kind=7 then [n.a] else if n.kind=8 then [n.a,n.b] else if n.kind=9 then (A.take (n.a.toNat+n.b.toNat)).drop n.a.toNat else []
theorem AcK (n m:Int) (h:H):dM EE h 23 2 [(0,.int .i64 n),(1,.int .i64 m)]=some (X.newRow h 3 [.int .i64 n,.int .i64 m] 0):=by kernel_rfl
theorem OA (l:List Int) (h:H):aZ wc (X.newRow h 3 (wc.flat l) 0) (.slice (some ⟨h.next,0,none⟩) l.length l.length) l:=by
 have hr:(X.newRow h 3 (wc.flat l) 0).row h.next=some ⟨wc.flat l,3,0,0,false⟩:=by rw[aS,if_pos rfl]
 have:=aZ.row (D:=wc) (h:=X.newRow h 3 (wc.flat l) 0) sm hr 0 l.length l.length om nlr
 simpa using this
theorem L8 {h:H} {av:Value} {A:List Int} (n:Nd) (rA:aZ wc h av A) (hA:A.length<=100000) (h9:n.kind=9->0<=n.a/\0<=n.b/\n.a+n.b<=A.length) :
 CP BF [Aq n,av] h fun w h'=>Fr h h'/\∃ l,w=.tuple ⟨[l,.bool true]⟩/\aZ wc h' l (Ss n A):=by
 refine .call (OB ?_)
 unfold OC aq
 refine fz fun o f1 J n1=>?_
 have p:=rA.fr f1
 have c0:aw o (.pointer (some ⟨h.next,0+0,none⟩))=some (.int .i64 n.kind):=by rw[aA J];rfl
 have c2:aw o (.pointer (some ⟨h.next,0+2,none⟩))=some (.int .i64 n.a):=by rw[aA J];rfl
 have C:aw o (.pointer (some ⟨h.next,0+3,none⟩))=some (.int .i64 n.b):=by rw[aA J];rfl
 unfold Ss
 rw[aM,aF c0,Go.X.ak,aa,ae]
 by_cases I:n.kind=7
 . rw[if_pos (sp I),aM,aF c2,if_pos I]
   unfold gh
   rw[Abp,aa]
   exact⟨f1.trans (lB (Fr.refl o) _ _ _),_,rfl,OA [n.a] o⟩
 rw[if_neg (sp I),Go.X.ak,aa,ae,if_neg I]
 by_cases k8:n.kind=8
 . rw[if_pos (sp k8),aM,aF c2,aM,aF C,if_pos k8]
   unfold gh
   rw[AcK,aa]
   exact⟨f1.trans (lB (Fr.refl o) _ _ _),_,rfl,OA [n.a,n.b] o⟩
 rw[if_neg (sp k8),Go.X.ak,aa,ae,if_neg k8]
 by_cases k9:n.kind=9
 . obtain⟨a0,b0,ab⟩:=h9 k9
   obtain⟨a,ea⟩:∃ a:Nat,n.a=(a:Int):=⟨n.a.toNat,om⟩
   obtain⟨b,eb⟩:∃ b:Nat,n.b=(b:Int):=⟨n.b.toNat,om⟩
   rw[ea] at c2
   rw[eb] at C
   rw[if_pos (sp k9),if_pos k9,aM,aF c2,Go.X.binOp_lss,aa,ag,if_pos sm,aM,aF c2,p.len MX,Go.X.binOp_gtr,aa,ag,if_pos so,aM,aF C,p.len MX,aM,aF c2]
   have e1:X.binOp EE .sub 3 (.int .i64 (A.length:Nat)) (.int .i64 (a:Nat))=some (vI (A.length-a)):=pX EE 3 A.length a om om
   rw[e1,aa,Go.X.binOp_gtr,aa]
   unfold sn aq
   have e2:X.binOp EE .add 3 (.int .i64 (a:Nat)) (.int .i64 (b:Nat))=some (vI (a+b)):=dm EE 3 a b om
   rw[ae,if_neg so,aM,aF c2,aM,aF c2,aM,aF C,e2,aa,aM,aF c2,aM,aF C,e2,aa]
   obtain⟨w,ew,R⟩:=aZ.AgW MX p (i:=a) (j:=a+b) om om
   have U:aO EE o 23 av (some (.int .i64 (a:Nat))) (some (vI (a+b))) (some (vI (a+b)))=some w:=ew
   rw[U,aa]
   refine⟨f1,w,rfl,?_⟩
   rw[ea,eb,Int.toNat_natCast,Int.toNat_natCast]
   exact R
 . rw[if_neg (sp k9),if_neg k9]
   exact⟨f1,_,rfl,.nil⟩
structure BW (N:List Nd) (A:List Int) (e:Ex) (k m:Nat):Prop where
 ex:∃ p q P Q,N=p++e.lN k m++q/\p.length=k/\A=P++(e.ars k).map Int.ofNat++Q/\P.length=m
structure HK (N:List Nd) (A:List Int) (l:bi) (k m:Nat):Prop where
 ex:∃ p q P Q,N=p++l.lN k m++q/\p.length=k/\A=P++(l.ars k).map Int.ofNat++Q/\P.length=m
theorem BW.all (e:Ex):BW (e.lN 0 0) ((e.ars 0).map Int.ofNat) e 0 0:=⟨[],[],[],[],sm,rfl,sm,rfl⟩
section
variable {N:List Nd} {A:List Int} {k m:Nat}
theorem BW.call {f:List UInt8} {l:bi} (h:BW N A (.call f l) k m):HK N A l k m/\N[k+l.sz]?=some { tM with kind:=9,text:=f,a:=(if l.len=0 then 0 else m+l.az:Nat),b:=(l.len:Nat) }/\(A.take (m+l.az+l.len)).drop (m+l.az)=(l.gF k).map Int.ofNat:=by
 obtain⟨p,q,P,Q,j,h2,o,C⟩:=h.ex
 refine⟨⟨p,_,P,(l.gF k).map Int.ofNat++Q,by rw[j];simp only[Ex.lN,List.append_assoc] <;> rfl,h2,by rw[o];simp only[Ex.ars,List.map_append,List.append_assoc],C⟩,?_,?_⟩
 . have:N=(p++l.lN k m)++({ tM with kind:=9,text:=f,a:=(if l.len=0 then 0 else m+l.az:Nat),b:=(l.len:Nat) } :: q):=by rw[j];simp only[Ex.lN,List.append_assoc,List.singleton_append]
   rw[this,List.getElem?_append_right (by rw[List.length_append,bi.cf];omega),List.length_append,bi.cf,h2,Nat.sub_self];rfl
 . have e:A=(P++(l.ars k).map Int.ofNat)++((l.gF k).map Int.ofNat++Q):=by rw[o];simp only[Ex.ars,List.map_append,List.append_assoc]
   have hl:(P++(l.ars k).map Int.ofNat).length=m+l.az:=by rw[List.length_append,List.length_map,bi.dR,C]
   have I:((l.gF k).map Int.ofNat).length=l.len:=by rw[List.length_map,bi.gG]
   rw[List.drop_take,e,<-hl,List.drop_left,show (P++(l.ars k).map Int.ofNat).length+l.len-(P++(l.ars k).map Int.ofNat).length=((l.gF k).map Int.ofNat).length by omega,List.take_left]
theorem HK.cons {a:Ex} {l:bi} (h:HK N A (.cons a l) k m):BW N A a k m/\HK N A l (k+a.sz) (m+a.az):=by
 obtain⟨p,q,P,Q,j,h2,o,C⟩:=h.ex
 exact⟨⟨p,_,P,(l.ars (k+a.sz)).map Int.ofNat++Q,by rw[j];simp only[bi.lN,List.append_assoc] <;> rfl,h2,by rw[o];simp only[bi.ars,List.map_append,List.append_assoc],C⟩,⟨p++a.lN k m,q,P++(a.ars k).map Int.ofNat,Q,by rw[j];simp only[bi.lN,List.append_assoc] <;> rfl,by rw[List.length_append,Ex.cf,h2],by rw[o];simp only[bi.ars,List.map_append,List.append_assoc],by rw[List.length_append,List.length_map,Ex.dR,C]⟩⟩
end
theorem UJ {h:H} {nv av p:Value} {N:List Nd} {S:List (List UInt8)} {i n c0 C:Nat} {e0 e4:TypeId} (r0:h.row c0=some ⟨[nv,av],e0,0,0,false⟩) (r4:h.row C=some ⟨[p],e4,0,0,false⟩) (rN:aZ Gn h nv N) (R:bk h p (cD S)) (hi:i<N.length) (hs:i<S.length) (hb:S[i].length<=100000000) :
 ai PP eQ [vI i,vI n,pT c0,pT C] h (.v (st (dG S[i] (VE N[i]) n)) h):=by
 refine aj.pure (FI ?_) (by simp[flat])
 unfold CJ aq
 have k0:aw h (.pointer (some ⟨c0,0+0,none⟩))=some nv:=by rw[aA r0];rfl
 have U:aw h (pT C)=some p:=by rw[aA r4];rfl
 obtain⟨b1,o1,e1,e2⟩:=rN.ix hi
 have I:=e2.agg
 have J:AB 19 nv (vI i)=some (.pointer (some ⟨b1,o1,none⟩)):=e1
 have j:fJ 19 h (.pointer (some ⟨b1,o1,none⟩))=some (Aq N[i]):=I
 rw[aM,aF k0,J,aa,j,aa]
 refine ar (lX N[i] h) ?_
 rw[bI,aa,ae]
 have o:i<(cD S).length:=by simpa [cD] using hs
 have hg:(cD S)[i]=st S[i]:=by simp[cD]
 unfold dG
 by_cases g:VE N[i]<n
 . rw[if_pos (sp g),if_pos g,aF U]
   refine (congrArg (fun P:Prop=>P) (R.rd o _)).mpr ?_
   rw[hg,show (bs [40])=⟨⟨[40]⟩⟩ from rfl,Bq _ _ so,aa,show (bs [41])=⟨⟨[41]⟩⟩ from rfl,Bq _ _ so,aa]
   exact⟨rfl,Fr.refl _⟩
 . rw[if_neg (sp g),if_neg g,aF U]
   refine (congrArg (fun P:Prop=>P) (R.rd o _)).mpr ?_
   rw[hg]
   exact⟨rfl,Fr.refl _⟩
end Go.Proofs.YtikojelnedfmpaaGreatDoor
namespace Go.Proofs.YtikojelnedfmpaaGreatDoor
open Go Go.X
set_option maxRecDepth 100000
def Ex.ks:Ex->bi
 | .leaf _=>.nil | .un _ a=>.cons a .nil | .bin _ a b=>.cons a (.cons b .nil) | .call _ l=>l
def Ex.tn:Ex->Nat->Nat->Nd
 | .leaf l,_,_=>l.nd
 | .un op a,k,_=>{ tM with kind:=7,op:=op,a:=(k+a.sz-1:Nat) }
 | .bin op a b,k,_=>{ tM with kind:=8,op:=op,a:=(k+a.sz-1:Nat),b:=(k+a.sz+b.sz-1:Nat) }
 | .call f l,_,m=>{ tM with kind:=9,text:=f,a:=(if l.len=0 then 0 else m+l.az:Nat),b:=(l.len:Nat) }
def Ex.oa:Ex->Nat->List Nat
 | .call _ l,k=>l.gF k | _,_=>[]
theorem Ex.Su (e:Ex) (k m:Nat):e.lN k m=e.ks.lN k m++[e.tn k m]:=by
 cases e <;> simp[Ex.lN,Ex.ks,bi.lN,Ex.tn]
theorem Ex.Aag (e:Ex) (k:Nat):e.ars k=e.ks.ars k++e.oa k:=by
 cases e <;> simp[Ex.ars,Ex.ks,bi.ars,Ex.oa]
theorem Ex.nY (e:Ex):e.sz=e.ks.sz+1:=by
 cases e <;> simp[Ex.sz,Ex.ks,bi.sz]
theorem Ex.AcL (e:Ex) (k:Nat):e.az=e.ks.az+(e.oa k).length:=by
 cases e <;> simp[Ex.az,Ex.ks,bi.az,Ex.oa,bi.gG]
theorem Ex.OD {e:Ex} (h:e.sm):e.ks.sm:=by
 cases e with
 | leaf l=>trivial
 | un op a=>exact⟨h.2,trivial⟩
 | bin op a b=>exact⟨h.2.1,h.2.2,trivial⟩
 | call f l=>exact h.2
mutual
theorem Ex.post {P:Ex->Prop} {L:bi->Prop} (hn:L .nil) (hc:∀ a l,P a->L l->L (.cons a l)) (j:∀ e,L e.ks->P e):∀ e,P e
 | .leaf _=>j _ hn
 | .un _ a=>j _ (hc a _ (Ex.post hn hc j a) hn)
 | .bin _ a b=>j _ (hc a _ (Ex.post hn hc j a) (hc b _ (Ex.post hn hc j b) hn))
 | .call _ l=>j _ (bi.post hn hc j l)
theorem bi.post {P:Ex->Prop} {L:bi->Prop} (hn:L .nil) (hc:∀ a l,P a->L l->L (.cons a l)) (j:∀ e,L e.ks->P e):∀ l,L l
 | .nil=>hn
 | .cons a l=>hc a l (Ex.post hn hc j a) (bi.post hn hc j l)
end
section
variable {N:List Nd} {A:List Int} {k m:Nat}
theorem BW.le {e:Ex} (h:BW N A e k m):k+e.sz<=N.length/\m+e.az<=A.length:=by
 obtain⟨p,q,P,Q,j,h2,o,C⟩:=h.ex
 constructor
 . rw[j];simp only[List.length_append,Ex.cf];omega
 . rw[o];simp only[List.length_append,List.length_map,Ex.dR];omega
theorem BW.top {e:Ex} (h:BW N A e k m):HK N A e.ks k m/\N[k+e.ks.sz]?=some (e.tn k m):=by
 obtain⟨p,q,P,Q,j,h2,o,C⟩:=h.ex
 refine⟨⟨p,e.tn k m :: q,P,(e.oa k).map Int.ofNat++Q,by rw[j,Ex.Su];simp,h2,by rw[o,Ex.Aag];simp,C⟩,?_⟩
 have:N=(p++e.ks.lN k m)++(e.tn k m :: q):=by rw[j,Ex.Su];simp
 rw[this,List.getElem?_append_right (by rw[List.length_append,bi.cf];omega),List.length_append,bi.cf,h2,Nat.sub_self];rfl
theorem BW.ix {e:Ex} (h:BW N A e k m):∃ hi:k+e.ks.sz<N.length,N[k+e.ks.sz]=e.tn k m:=by
 have:=h.top.2
 rw[List.getElem?_eq_some_iff] at this
 exact this
theorem BW.kids {e:Ex} (h:BW N A e k m):Ss (e.tn k m) A=(e.ks.gF k).map Int.ofNat:=by
 cases e with
 | leaf l=>cases l <;> rfl
 | un op a=>rfl
 | bin op a b=>rfl
 | call f l =>
  have c:=h.call.2.2
  show (A.take ((((if l.len=0 then 0 else m+l.az:Nat):Int)).toNat+((l.len:Nat):Int).toNat)).drop (((if l.len=0 then 0 else m+l.az:Nat):Int)).toNat=_
  rw[Int.toNat_natCast,Int.toNat_natCast]
  by_cases q:l.len=0
  . rw[if_pos q,q]
    have:(l.gF k)=[]:=List.length_eq_zero_iff.1 (by rw[bi.gG];exact q)
    show _=(l.gF k).map Int.ofNat
    rw[this];simp
  . rw[if_neg q];exact c
theorem BW.k9 {e:Ex} (h:BW N A e k m):(e.tn k m).kind=9->0<=(e.tn k m).a/\0<=(e.tn k m).b/\(e.tn k m).a+(e.tn k m).b<=A.length:=by
 intro q
 cases e with
 | leaf l=>cases l <;> simp[Ex.tn,Lf.nd,tM] at q
 | un op a=>simp[Ex.tn] at q
 | bin op a b=>simp[Ex.tn] at q
 | call f l =>
  have c:=h.le.2
  rw[show (Ex.call f l).az=l.az+l.len from rfl] at c
  simp only[Ex.tn]
  refine⟨om,om,?_⟩
  split <;> omega
end
theorem Ex.D6 (e:Ex) (k m:Nat):VE (e.tn k m)=e.bA:=by
 cases e with
 | leaf l=>cases l <;> rfl
 | un op a =>
  show (if (7:Int)=7 then (if (op:Int)=13 then 6 else if (op:Int)=14 then 7 else 8) else if (7:Int)=8 then fH op else 8)=if op=13 then 6 else if op=14 then 7 else 8
  rw[if_pos rfl]
  by_cases j:op=13
  . subst j;rfl
  by_cases h2:op=14
  . subst h2;rfl
  rw[if_neg om,if_neg om,if_neg j,if_neg h2]
 | bin op a b =>
  show (if (8:Int)=7 then (if (op:Int)=13 then 6 else if (op:Int)=14 then 7 else 8) else if (8:Int)=8 then fH op else 8)=fH op
  rw[if_neg dc,if_pos rfl]
 | call f l=>rfl
def bi.qF:bi->List Ex
 | .nil=>[] | .cons a l=>a :: l.qF
theorem bi.CK:∀ l:bi,l.qF.length=l.len
 | .nil=>rfl
 | .cons a l=>by simp[bi.qF,bi.len,l.CK]
theorem HK.get {N:List Nd} {A:List Int}:∀ (l:bi) (k m:Nat),HK N A l k m->∀ j (o:j<l.len),∃ a k' p,BW N A a k' p/\l.qF[j]?=some a/\(l.gF k)[j]?=some (k'+a.ks.sz)/\k<=k'/\k'+a.sz<=k+l.sz/\(l.sm->a.sm)
 | .nil,_,_,_,j,o=>absurd o (by simp[bi.len])
 | .cons a l,k,m,h,0,o=>⟨a,k,m,h.cons.1,rfl,by rw[show (bi.cons a l).gF k=(k+a.sz-1) :: l.gF (k+a.sz) from rfl,Ex.nY];simp,Nat.le_refl _,by simp only[bi.sz];omega,fun s=>s.1⟩
 | .cons a l,k,m,h,j+1,o=>by
  obtain⟨b,k',p,C,h2,I,R,U,J⟩:=HK.get l _ _ h.cons.2 j (by simp only[bi.len] at o;omega)
  exact⟨b,k',p,C,h2,I,om,by simp only[bi.sz];omega,fun s=>J s.2⟩
end Go.Proofs.YtikojelnedfmpaaGreatDoor
namespace Go.Proofs.YtikojelnedfmpaaGreatDoor
open Go Go.X
set_option maxRecDepth 100000
theorem cI.pre {α:Type} {D:Kd α} {E:Env} {t e:TypeId} (T:PM E t e D) {h0 h:H} {v:Value} {l:List α} (r:cI D e h0 h v l) {j:Nat} (p:j<=l.length):∃ w,aO E h t v none (some (vI j)) none=some w/\cI D e h0 h w (l.take j)/\(∀ b,bt v b->bt w b):=by
 cases r with
 | nil =>
  have C:j=0:=sp p
  subst C
  exact⟨_,mJ T.un T.sz h rfl rfl rfl rfl,.nil,fun _ x=>x⟩
 | «at» b n L gz hb hr hn =>
  have o:j<=n:=by rw[List.length_take] at p;omega
  refine⟨.slice (some ⟨b,0,none⟩) j L.length,?_,?_,fun c hc=>D7 hc⟩
  . exact D8 T.un T.sz ⟨_,hr,.inl rfl⟩ (m:=L.length) rfl (bm .i64 j n L.length om) om rfl
  . rw[List.take_take,Nat.min_eq_left o]
    exact .at b j L gz hb hr om
def bi.BY:bi->List (List UInt8)
 | .nil=>[] | .cons a l=>a.sh :: l.BY
theorem bi.zX:∀ l:bi,l.BY.length=l.len
 | .nil=>rfl
 | .cons a l=>by simp[bi.BY,bi.len,l.zX]
theorem bi.Sv:∀ (l:bi) (j:Nat),l.BY[j]?=(l.qF[j]?).map Ex.sh
 | .nil,j=>by simp[bi.BY,bi.qF]
 | .cons a l,0=>by simp[bi.BY,bi.qF]
 | .cons a l,j+1=>by simp[bi.BY,bi.qF,l.Sv j]
theorem bi.Gc:∀ l:bi,l.sh=ui [44] l.BY
 | .nil=>rfl
 | .cons a .nil=>rfl
 | .cons a (.cons b l)=>by
  have j:=bi.Gc (.cons b l)
  show a.sh++[44]++(bi.cons b l).sh=a.sh++[44]++ui [44] (b.sh :: l.BY)
  rw[j];rfl
def Ex.isC:Ex->Bool
 | .call _ _=>true | _=>false
def Ex.isB:Ex->Bool
 | .bin _ _ _=>true | _=>false
def OE (e c:Ex) (j:Nat):Bool:=!e.isC&&(decide (c.bA<e.bA)||(e.isB&&(decide (j=1)&&decide (c.bA=e.bA))))
def Ex.hs:Ex->List (List UInt8)
 | .leaf _=>[]
 | .un op a=>[dG a.sh a.bA (Ex.bA (.un op a))]
 | .bin op a b=>[dG a.sh a.bA (fH op),dG b.sh b.bA (fH op+1)]
 | .call _ l=>l.BY
theorem Ex.AcM (e:Ex) (k m:Nat):decide ((e.tn k m).kind≠9)=!e.isC:=by
 cases e with
 | leaf l=>cases l <;> rfl
 | un op a=>rfl
 | bin op a b=>rfl
 | call f l=>rfl
theorem AcN (op:Nat) (a:Ex):OE (.un op a) a 0=decide (a.bA<Ex.bA (.un op a)):=by
 show (!false&&(decide (a.bA<Ex.bA (.un op a))||(false&&(decide ((0:Nat)=1)&&decide (a.bA=Ex.bA (.un op a))))))=_
 simp
theorem AcO (op:Nat) (a b:Ex):OE (.bin op a b) a 0=decide (a.bA<fH op):=by
 show (!false&&(decide (a.bA<fH op)||(true&&(decide ((0:Nat)=1)&&decide (a.bA=fH op)))))=_
 simp
theorem AcP (op:Nat) (a b:Ex):OE (.bin op a b) b 1=decide (b.bA<fH op+1):=by
 show (!false&&(decide (b.bA<fH op)||(true&&(decide ((1:Nat)=1)&&decide (b.bA=fH op)))))=_
 simp only[Bool.not_false,Bool.true_and,decide_true]
 rw[<-Bool.decide_or]
 exact decide_eq_decide.2 om
theorem CL (n:Int):(As n).length<=2:=by
 unfold As
 by_cases q:0<=n/\n<15
 . rw[if_pos q]
   have h:∀ i:Fin 15,(Hs.getD i.1 []).length<=2:=dc
   exact h ⟨n.toNat,om⟩
 . rw[if_neg q];simp
theorem W8 (s:List UInt8):(quo s).length<=2 * s.length+2:=by
 unfold quo
 have:∀ s:List UInt8,(s.flatMap (fun c=>if c=34 then [34,34] else [c])).length<=2 * s.length:=by
  intro s
  induction s with
  | nil=>simp
  | cons a s j =>
   rw[List.flatMap_cons,List.length_append,List.length_cons]
   have:(if a=34 then [34,34] else [a]:List UInt8).length<=2:=by split <;> simp
   omega
 have:=this s
 simp only[List.length_append,List.length_singleton]
 omega
theorem Lf.L9 {l:Lf} (h:l.sm):l.sh.length<=200002:=by
 cases l with
 | num r=>have:=GP r.neg r.num r.den;show (js r.neg r.num r.den).1.length<=_;omega
 | Of s =>
  have:=W8 s
  have h':s.length<=100000:=h
  show (quo s).length<=_;omega
 | Qq b=>cases b <;> decide
 | Og n=>have:=RR (n:Int);show (lP (n:Int)).length<=_;omega
 | cell r=>have:=y9 r;show (An r).length<=_;omega
 | vu a b =>
  have:=y9 a
  have:=y9 b
  show (An a++[58]++An b).length<=_
  simp only[List.length_append,List.length_singleton];omega
theorem pb (s:List UInt8) (l n:Nat):(dG s l n).length<=s.length+2:=by
 unfold dG;split
 . simp only[List.length_append,List.length_singleton];omega
 . omega
theorem CM (s:List UInt8) (l n:Nat):s.length<=(dG s l n).length:=by
 unfold dG;split
 . simp only[List.length_append,List.length_singleton];omega
 . omega
theorem gw (a:List UInt8) (l:List (List UInt8)):eC (a :: l)=a.length+eC l:=by simp[eC]
theorem BG (l:List (List UInt8)):eC l<=(ui [44] l).length/\(ui [44] l).length<=eC l+l.length:=by
 cases l with
 | nil=>simp[eC,ui]
 | cons a l =>
  rw[Bp,List.length_append,J',gw]
  have e:[(44:UInt8)].length=1:=rfl
  rw[e,Nat.mul_one,List.length_cons];omega
theorem bi.hlen:∀ l:bi,(∀ a ∈ l.qF,a.sm->a.sh.length+5<=200100 * a.sz)->l.sm->eC l.BY+5 * l.len<=200100 * l.sz
 | .nil,_,_=>by simp[bi.BY,bi.len,bi.sz,eC]
 | .cons a l,h,s=>by
  have j:=h a (by simp[bi.qF]) s.1
  have h2:=bi.hlen l (fun b hb=>h b (by simp[bi.qF,hb])) s.2
  show eC (a.sh :: l.BY)+5 * (l.len+1)<=200100 * (a.sz+l.sz)
  rw[gw];omega
theorem Ex.L9:∀ e:Ex,e.sm->e.sh.length+5<=200100 * e.sz:=by
 refine Ex.post (L:=fun l=>∀ a ∈ l.qF,a.sm->a.sh.length+5<=200100 * a.sz) (by simp[bi.qF]) (fun a l ha hl b hb=>?_) fun e C he=>?_
 . simp only[bi.qF,List.mem_cons] at hb
   rcases hb with rfl | hb
   . exact ha
   . exact hl b hb
 . have hk:=bi.hlen e.ks C (Ex.OD he)
   cases e with
   | leaf l=>have:=Lf.L9 he;show l.sh.length+5<=200100 * 1;omega
   | un op a =>
    have o:=pb a.sh a.bA 6
    have h2:=pb a.sh a.bA (Ex.bA (.un op a))
    have p:=CL (op:Int)
    have j:eC [a.sh]+5 * 1<=200100 * (a.sz+0):=hk
    rw[gw] at j
    show (if op=13 then [45]++dG a.sh a.bA 6 else dG a.sh a.bA (Ex.bA (.un op a))++As (op:Int)).length+5<=200100 * (a.sz+1)
    split <;> simp only[List.length_append,List.length_singleton] <;> omega
   | bin op a b =>
    have o:=pb a.sh a.bA (fH op)
    have h2:=pb b.sh b.bA (fH op+1)
    have p:=CL (op:Int)
    have j:eC [a.sh,b.sh]+5 * 2<=200100 * (a.sz+(b.sz+0)):=hk
    rw[gw,gw] at j
    show (dG a.sh a.bA (fH op)++As (op:Int)++dG b.sh b.bA (fH op+1)).length+5<=200100 * (a.sz+b.sz+1)
    simp only[List.length_append] ;omega
   | call f l =>
    have o:=L7 he.1.1
    have h2:=(BG l.BY).2
    have p:l.BY.length<=20:=by rw[bi.zX];exact he.1.2
    have j:eC l.BY+5 * l.len<=200100 * l.sz:=hk
    show (f++[40]++l.sh++[41]).length+5<=200100 * (l.sz+1)
    rw[bi.Gc]
    simp only[List.length_append,List.length_singleton];omega
theorem OF {l:List (List UInt8)} {a:List UInt8} (h:a ∈ l):a.length<=eC l:=by
 induction l with
 | nil=>cases h
 | cons b l j =>
  rw[gw]
  cases h with
  | head=>omega
  | tail _ q=>have:=j q;omega
theorem bi.Sw:∀ {l:bi} {c:Ex},c ∈ l.qF->c.sh ∈ l.BY
 | .nil,_,h=>by cases h
 | .cons a l,c,h=>by
  simp only[bi.qF,List.mem_cons] at h
  rcases h with rfl | h
  . simp[bi.BY]
  . simp[bi.BY,bi.Sw h]
theorem Ex.Aah {e c:Ex} (h:c ∈ e.ks.qF):c.sh.length<=e.sh.length:=by
 cases e with
 | leaf l=>simp[Ex.ks,bi.qF] at h
 | un op a =>
  have:c=a:=by simpa [Ex.ks,bi.qF] using h
  subst this
  have j:=CM c.sh c.bA 6
  have h2:=CM c.sh c.bA (Ex.bA (.un op c))
  show _<=(if op=13 then [45]++dG c.sh c.bA 6 else dG c.sh c.bA (Ex.bA (.un op c))++As (op:Int)).length
  split <;> simp only[List.length_append,List.length_singleton] <;> omega
 | bin op a b =>
  have j:=CM a.sh a.bA (fH op)
  have h2:=CM b.sh b.bA (fH op+1)
  have o:c=a\/c=b:=by simpa [Ex.ks,bi.qF] using h
  show _<=(dG a.sh a.bA (fH op)++As (op:Int)++dG b.sh b.bA (fH op+1)).length
  simp only[List.length_append]
  rcases o with rfl | rfl <;> omega
 | call f l =>
  have j:=OF (bi.Sw (show c ∈ l.qF from h))
  have h2:=(BG l.BY).1
  show _<=(f++[40]++l.sh++[41]).length
  rw[bi.Gc]
  simp only[List.length_append,List.length_singleton];omega
def Jr (e:Ex):Nat->Nat->List Ex->Nat
 | _,acc,[]=>acc
 | j,acc,c :: l=>Jr e (j+1) (max acc (c.ja+if OE e c j=true then 1 else 0)) l
def Ex.up (e:Ex):Bool:=e.isC||decide (e.bA=6)
theorem AeR (op:Nat):fH (op:Int)≠6:=by
 unfold fH
 split
 . decide
 split
 . decide
 split
 . decide
 split
 . decide
 split <;> decide
theorem Km (f:List UInt8) (L:bi):∀ (l:bi) (j acc:Nat),Jr (.call f L) j acc l.qF=max acc l.ja
 | .nil,j,acc=>by simp[Jr,bi.qF,bi.ja]
 | .cons a l,j,acc=>by
  show Jr (.call f L) (j+1) (max acc (a.ja+if OE (.call f L) a j=true then 1 else 0)) l.qF=max acc (max a.ja l.ja)
  rw[Km f L l]
  have:OE (.call f L) a j=false:=rfl
  rw[this]
  simp only[Bool.false_eq_true,if_false,Nat.add_zero]
  omega
theorem Ex.W9 (e:Ex):e.ja=Jr e 0 0 e.ks.qF+if e.up=true then 1 else 0:=by
 cases e with
 | leaf l=>rfl
 | un op a =>
  show (if a.bA<Ex.bA (.un op a) then a.ja+1 else a.ja)+(if op=13 then 1 else 0)=max 0 (a.ja+if OE (.un op a) a 0=true then 1 else 0)+_
  have o:=AcN op a
  have el:Ex.bA (.un op a)=if op=13 then 6 else if op=14 then 7 else 8:=rfl
  have p:(Ex.un op a).up=decide (op=13):=by
   show (false||decide (Ex.bA (.un op a)=6))=_
   rw[Bool.false_or]
   refine decide_eq_decide.2 ?_
   rw[el]
   constructor
   . intro h
     by_cases C:op=13
     . exact C
     . rw[if_neg C] at h
       split at h <;> omega
   . intro h;rw[if_pos h]
  rw[o,p]
  simp only[decide_eq_true_eq]
  by_cases q:a.bA<Ex.bA (.un op a)
  . rw[if_pos q,if_pos q];omega
  . rw[if_neg q,if_neg q];omega
 | bin op a b =>
  show max (if a.bA<fH op then a.ja+1 else a.ja) (if b.bA<=fH op then b.ja+1 else b.ja)=max (max 0 (a.ja+if OE (.bin op a b) a 0=true then 1 else 0)) (b.ja+if OE (.bin op a b) b 1=true then 1 else 0)+_
  have o:=AcO op a b
  have p:OE (.bin op a b) b 1=decide (b.bA<=fH op):=(AcP op a b).trans (decide_eq_decide.2 om)
  have I:(Ex.bin op a b).up=false:=by
   show (false||decide (fH (op:Int)=6))=_
   rw[Bool.false_or]
   exact decide_eq_false (AeR op)
  rw[o,p,I]
  simp only[decide_eq_true_eq,Bool.false_eq_true,if_false]
  by_cases q:a.bA<fH op
  . rw[if_pos q,if_pos q]
    by_cases j:b.bA<=fH op
    . rw[if_pos j,if_pos j];omega
    . rw[if_neg j,if_neg j];omega
  . rw[if_neg q,if_neg q]
    by_cases j:b.bA<=fH op
    . rw[if_pos j,if_pos j];omega
    . rw[if_neg j,if_neg j];omega
 | call f l =>
  show l.ja+1=Jr (.call f l) 0 0 l.qF+1
  rw[Km];omega
theorem bi.QE (l:bi):l.len<=l.sz:=by
 induction l using bi.rec (motive_1:=fun _=>True) with
 | nil=>simp[bi.len,bi.sz]
 | cons a l _ j=>have:=a.Hr;simp only[bi.len,bi.sz];omega
 | leaf _=>trivial
 | un _ _ _=>trivial
 | bin _ _ _ _ _=>trivial
 | call _ _ _=>trivial
theorem bi.AcQ (l:bi):∀ a ∈ l.qF,a.sz<=l.sz:=by
 induction l using bi.rec (motive_1:=fun _=>True) with
 | nil=>intro a ha;cases ha
 | cons b l _ j =>
  intro a ha
  simp only[bi.qF,List.mem_cons] at ha
  simp only[bi.sz]
  rcases ha with rfl | ha
  . omega
  . have:=j a ha;omega
 | leaf _=>trivial
 | un _ _ _=>trivial
 | bin _ _ _ _ _=>trivial
 | call _ _ _=>trivial
def Ex.tok:Ex->Bool
 | .leaf l=>l.ok | _=>true
theorem Ex.AeS (e:Ex) (h:e.sm):e.ok=(e.ks.ok&&e.tok):=by
 cases e with
 | leaf l=>simp[Ex.ok,Ex.ks,bi.ok,Ex.tok]
 | un op a =>
  have:(decide (op=13)||decide (op=14))=true:=by
   rcases h.1 with rfl | rfl <;> rfl
  simp[Ex.ok,Ex.ks,bi.ok,Ex.tok,this]
 | bin op a b =>
  have j:=h.1
  have:(decide (1<=op)&&decide (op<=12))=true:=by simp[j.1,j.2]
  simp[Ex.ok,Ex.ks,bi.ok,Ex.tok,this]
 | call f l =>
  have j:=h.1.1
  have h2:=h.1.2
  simp[Ex.ok,Ex.ks,Ex.tok,j,h2]
section
variable {N:List Nd} {A:List Int} {k m:Nat} {e:Ex} {nv av:Value}
theorem BW.kid (em:BW N A e k m) {j:Nat} {c:Ex} {t:Nat} (hc:e.ks.qF[j]?=some c) (C:(e.ks.gF k)[j]?=some t):∃ k' o,BW N A c k' o/\t=k'+c.ks.sz/\c.sz<e.sz/\(e.sm->c.sm)/\k'+c.sz<=k+e.ks.sz:=by
 have I:j<e.ks.len:=by
  rw[<-bi.CK]
  exact (List.getElem?_eq_some_iff.1 hc).1
 obtain⟨a,k',o,J,h2,p,h4,R,U⟩:=HK.get _ _ _ em.top.1 j I
 have q1:c=a:=by rw[hc] at h2;cases h2;rfl
 have q2:t=k'+a.ks.sz:=by rw[C] at p;cases p;rfl
 subst q1
 have:=e.nY
 exact⟨k',o,J,q2,om,fun s=>U (Ex.OD s),R⟩
end
theorem bi.OG:∀ (l:bi) (k j:Nat),j<l.len->∃ t,(l.gF k)[j]?=some t:=fun l k j o=>⟨_,List.getElem?_eq_getElem (by rw[bi.gG];exact o)⟩
theorem bi.Aai (l:bi) (j:Nat) (o:j<l.len):∃ c,l.qF[j]?=some c:=⟨_,List.getElem?_eq_getElem (by rw[bi.CK];exact o)⟩
theorem Sx {e:Ex} (sm:e.sm):eC e.hs<=200100 * e.sz:=by
 have hk:=bi.hlen e.ks (fun a _ s=>Ex.L9 a s) (Ex.OD sm)
 have hz:=e.nY
 cases e with
 | leaf l=>simp[Ex.hs,eC]
 | un op a =>
  have h2:=pb a.sh a.bA (Ex.bA (.un op a))
  have j:eC [a.sh]+5 * 1<=200100 * (a.sz+0):=hk
  rw[gw] at j
  show eC [dG a.sh a.bA (Ex.bA (.un op a))]<=200100 * (a.sz+1)
  rw[gw]
  simp only[eC,List.map_nil,List.sum_nil] at j ⊢
  omega
 | bin op a b =>
  have o:=pb a.sh a.bA (fH op)
  have h2:=pb b.sh b.bA (fH op+1)
  have j:eC [a.sh,b.sh]+5 * 2<=200100 * (a.sz+(b.sz+0)):=hk
  rw[gw,gw] at j
  show eC [dG a.sh a.bA (fH op),dG b.sh b.bA (fH op+1)]<=200100 * (a.sz+b.sz+1)
  rw[gw,gw]
  simp only[eC,List.map_nil,List.sum_nil] at j ⊢
  omega
 | call f l =>
  have j:eC l.BY+5 * l.len<=200100 * l.sz:=hk
  show eC l.BY<=200100 * (l.sz+1)
  omega
theorem Xz {e:Ex} (sm:e.sm) (hz:e.sz<=400) {s:List UInt8} (hs:s ∈ e.hs):s.length<=100000000:=by
 have:=Sx sm
 have:=OF hs
 omega
theorem AeU {e:Ex} (sm:e.sm) (hz:e.sz<=400):e.sh.length<=100000000:=by
 have:=Ex.L9 e sm
 omega
theorem UL (l:Lf):l.nd.kind≠7/\l.nd.kind≠8/\l.nd.kind≠9:=by
 have h:∀ n:Int,1<=n->n<=6->n≠7/\n≠8/\n≠9:=fun n j h2=>by omega
 cases l
 . exact h 1 dc dc
 . exact h 2 dc dc
 . exact h 3 dc dc
 . exact h 4 dc dc
 . exact h 5 dc dc
 . exact h 6 dc dc
section
variable {hs:H} {nv av lv:Value} {N:List Nd} {A:List Int} {c2 c5 k m:Nat} {e2 e5:TypeId} {e:Ex} {Q:Value->H->Prop}
end
end Go.Proofs.YtikojelnedfmpaaGreatDoor
