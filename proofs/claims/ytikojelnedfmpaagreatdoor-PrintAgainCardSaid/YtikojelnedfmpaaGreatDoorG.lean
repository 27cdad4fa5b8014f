/- PrintAgain: of any text that is read as a formula, the text that is told of it is read as the same formula and told as it was. No conditions of its own. -/
import Derived.Test.YtikojelnedfmpaaGreatDoorF
set_option linter.unusedSimpArgs false
set_option linter.unusedVariables false
namespace Go.Proofs.YtikojelnedfmpaaGreatDoor
open Go Go.X
def VA (n:Nat):List UInt8:=[UInt8.ofNat (n >>> 24),UInt8.ofNat (n >>> 16),UInt8.ofNat (n >>> 8),UInt8.ofNat n]
theorem Nc {n:Nat} (h:n<4294967296):aJ (VA n)=n:=by
 have e:∀ m,(UInt8.ofNat m).toNat=m % 256:=fun m=>by simp
 simp only[VA,aJ,List.foldl_cons,List.foldl_nil,e,Nat.shiftRight_eq_div_pow]
 omega
theorem RF (m:Nat):(Value.int .u8 (IntKind.u8.wrap (m:Int)))=v8 (UInt8.ofNat m).toNat:=by
 rw[wrap_u8];simp
theorem VX (ns:List Nat):(tI ns).length<=ns.length:=by
 unfold tI;simp;exact Nat.le_trans (List.dropWhile_sublist _).length_le sm
theorem jL {j:List Nat} {i:Nat} (hi:i<j.length):aN (j.drop i)=j[i]+4294967296 * aN (j.drop (i+1)):=by
 rw[List.drop_eq_getElem_cons hi,oS]
theorem wo {h0 h:H} {v:Value} {ns:List Nat} (r:bp 160 h0 h v (uL ns)) (hl:iu ns) (hb:ns.length<=bl):ai PP iC [v] h (.v (st (enc (aN ns))) h):=by
 have qS:bl=1000000000:=rfl
 refine aj.pure (B9 ?_) (by simp[flat])
 unfold yl aq
 rw[wq]
 have f1:Fr h (X.newRow h 90 [.slice none 0 0] 0):=(Fr.refl h).newRow _ _ _
 have r1:(X.newRow h 90 [.slice none 0 0] 0).row h.next=some ⟨[.slice none 0 0],90,0,0,false⟩:=by rw[aS,if_pos rfl]
 have n1:(X.newRow h 90 [.slice none 0 0] 0).next=h.next+1:=rfl
 generalize X.newRow h 90 [.slice none 0 0] 0=h1 at *
 refine (Ez (r.fr f1) hb).mono ?_
 rintro w h4 ⟨e,o⟩
 subst e
 have Ab4:bt w h.next:=o.ne r1 dc
 refine (M_ o.read).mono ?_
 rintro w2 j ⟨e2,e3⟩
 subst e2
 have f6:Fr h4 j:=by rw[e3];exact (Fr.refl h4).newRow _ _ _
 have rp:j.row h4.next=some ⟨[w],162,0,0,false⟩:=by rw[e3,aS,if_pos rfl]
 have n6:j.next=h4.next+1:=by rw[e3];rfl
 have rv:j.row h.next=some ⟨[.slice none 0 0],90,0,0,false⟩:=by rw[fa f6 om];exact r1
 have ow:bk j w (uL (tI ns)):=o.read.fr f6
 have wl:bt w j.next:=o.lt om
 clear e3
 have hm:iu (tI ns):=(JP hl).Ft
 have hmv:=JQ ns
 have hml:=VX ns
 generalize tI ns=p at *
 have Ab5:(uL p).length<=bl:=so
 let Inv:Nat->H->Prop:=fun i h'=>Fr h h'/\j.next<h'.next/\h'.row h4.next=some ⟨[w],162,0,0,false⟩/\bk h' w (uL p)/\∃ I u,h'.row h.next=some ⟨[u],90,0,0,false⟩/\bp 5 (H.cap h' (j.next+1)) h' u (I.map fun b=>v8 b.toNat)/\aJ I=aN (p.drop i)/\I.length+4 * i=4 * p.length
 refine yk (v:=w) Ab5 Inv (fun _=>False) ?_ (fun h' o x=>x) ?_ ?_ ?_ ?_ (fun h' x=>x.elim)
 . rintro i h' o ⟨J,a2,U,a4,I,u,a5,R,a7,a8⟩
   refine⟨J.put o om,a2,by rw[dL om];exact U,a4.Dw o (fun b o' n c q=>wl _ _ _ _ q),I,u,by rw[dL om];exact a5,?_,a7,a8⟩
   exact (R.mR (eV.put h' j.next o) (R.off (by show j.next<j.next+1;omega))).base rfl
 . rintro i h' ⟨J,a2,U,a4,_⟩;exact⟨U,a4⟩
 . intro o
   have fo:Fr j (j.new o):=⟨by rw[H.fM];omega,fun b hb=>(H.eF _ _ _).trans (if_neg om)⟩
   refine⟨(f1.trans f6).trans fo,by rw[H.fM];omega,by rw[fa fo om];exact rp,ow.fr fo,[],.slice none 0 0,by rw[fa fo om];exact rv,.nil,?_,sm⟩
   rw[List.drop_of_length_le sm];rfl
 . rintro i hi h' KR ⟨J,a2,U,a4,I,u,a5,R,a7,a8⟩ kn _
   have vt:i<p.length:=sp hi
   have Ab6:=hm _ (List.getElem_mem vt)
   simp only[zN,zO]
   rw[c9,a5]
   simp only[Option.bind_some,ao,aa,List.getElem_map]
   have sh:∀ k,k<=32->X.binOp EE .shr 160 (xN p[i]) (.int .u64 ((k:Nat):Int))=some (xN (p[i] >>> k)):=by
    intro k hk
    rw[qR,show min k IntKind.u32.bits=k from Nat.min_eq_left hk]
   rw[show (.int .u64 24:Value)=.int .u64 ((24:Nat):Int) from rfl,sh 24 om,aa,dI iB yj,aa,
    show (.int .u64 16:Value)=.int .u64 ((16:Nat):Int) from rfl,sh 16 om,aa,dI iB yj,aa,
    show (.int .u64 8:Value)=.int .u64 ((8:Nat):Int) from rfl,sh 8 om,aa,dI iB yj,aa,dI iB yj,aa]
   simp only[RF]
   have ZA:dM EE h' 90 4 [(0,v8 (UInt8.ofNat (p[i] >>> 24)).toNat),(1,v8 (UInt8.ofNat (p[i] >>> 16)).toNat),(2,v8 (UInt8.ofNat (p[i] >>> 8)).toNat),(3,v8 (UInt8.ofNat p[i]).toNat)]=some (X.newRow h' 5 ((VA p[i]).map fun b=>v8 b.toNat) 0):=by
    unfold dM
    rw[TB.un]
    simp only[Option.bind_some,TB.sz,TB.zc]
    rfl
   refine Ab7 TB (h0:=H.cap h' (j.next+1)) (Fr.Ad7 h' om) R so (by simp[VA]) (by simp[VA]) ZA (by simp[VA]) ?_
   intro u' C g1 g2
   have fx:∀ c,c<j.next+1->C.get c=h'.get c:=fun c hc=>g1.cK c hc
   have hn2:j.next+1<=C.next:=g1.next
   have IS:C.row h.next=some ⟨[u],90,0,0,false⟩:=by rw[bg (fx h.next om)];exact a5
   have hcu:=g2.cell
   rw[tT _ _ _ _ _ hcu.1,if_pos rfl,bK,IS]
   simp only[Option.bind_some]
   rw[if_pos ⟨trivial,Nat.zero_le _,sm,by simp[hcu.2]⟩,aa]
   simp only[gU,kb,oT]
   have hx:eV h.next C (C.put h.next (.row ⟨[u'],90,0,0,false⟩)):=eV.put _ _ _
   refine kn _ ⟨?_,hn2,?_,?_,I++VA p[i],u',by rw[eH,if_pos rfl],?_,?_,?_⟩ ?_
   . refine⟨by show h.next<=C.next;omega,fun c hc=>?_⟩
     rw[jh om,fx c om];exact J.cK c hc
   . rw[dL om,bg (fx _ om)];exact U
   . refine bk.mR ?_ hx Ab4
     exact a4.dg fun b o' n c q=>⟨by have:=ow.dH _ _ _ _ q;omega,fx b (by have:=ow.dH _ _ _ _ q;omega)⟩
   . have g3:=(g2.mR hx (g2.off (show h.next<j.next+1 by omega))).base (h0':=H.cap (C.put h.next (.row ⟨[u'],90,0,0,false⟩)) (j.next+1)) rfl
     simpa using g3
   . rw[pZ,a7,Nc Ab6,jL vt]
     show aN (p.drop (i+1)) * 256 ^ 4+p[i]=_
     rw[KZ,Nat.mul_comm,Nat.add_comm]
   . rw[List.length_append];show I.length+4+4 * i=_;omega
   . rw[jh om];exact fx _ om
 . rintro h' ⟨J,a2,U,a4,I,u,a5,R,a7,a8⟩
   show af (aw (h'.del j.next) (.pointer (some ⟨h.next,0,none⟩))) _
   have hd:eV j.next h' (h'.del j.next):=eV.del _ _
   rw[c9,hd.row om om,a5]
   simp only[Option.bind_some,ao,aa]
   have hu:=R.read.mR hd (R.off (show j.next<j.next+1 by omega))
   rw[Nf pY yj kH hu,aa]
   refine ar (cS I _) ?_
   refine⟨?_,⟨?_,fun c hc=>?_⟩⟩
   . rw[a7,List.drop_zero,hmv]
   . exact Nat.le_trans J.next hd.next
   . rw[hd.cK c om om];exact J.cK c hc
def ym (a b:Nat):Int:=if a<b then -1 else if a=b then 0 else 1
theorem B_ (b:Bool) (h:H):ai PP wu [.bool b] h (.v (.int .i64 (if b=true then 1 else -1)) h):=by
 refine aj.pure (Ng ?_) (by simp[flat])
 unfold Nh aq
 rw[ae]
 cases b
 . exact⟨rfl,Fr.refl h⟩
 . exact⟨rfl,Fr.refl h⟩
theorem mw (n:Nat) (hn:n<18446744073709551616) (h:H):ai PP gB [dD n] h (.v (st (enc n)) h):=by
 refine aj.pure (TE ?_) (by simp[flat])
 unfold VY aq
 rw[dI lQ iB,aa,show (.int .u64 32:Value)=.int .u64 ((32:Nat):Int) from rfl,qR,aa,dI lQ iB,aa,wrap_u32,wrap_u32]
 have p:n >>> min 32 IntKind.u64.bits=n / 4294967296:=by rw[show min 32 IntKind.u64.bits=32 from rfl,Nat.shiftRight_eq_div_pow]
 rw[p,Nat.mod_eq_of_lt (show n / 4294967296<4294967296 by omega)]
 have j:∀ a b:Nat,dM EE h 162 2 [(0,xN a),(1,xN b)]=some (X.newRow h 160 (uL [a,b]) 0):=by
  intro a b
  unfold dM
  rw[TL.un]
  simp only[Option.bind_some,TL.sz,TL.zc]
  rfl
 unfold gh
 rw[j,aa]
 have o:=bp.at (e:=160) (h0:=h) (h:=X.newRow h 160 (uL [n % 4294967296,n / 4294967296]) 0) h.next 2 (uL [n % 4294967296,n / 4294967296]) nlr sm (by rw[aS,if_pos rfl]) sm
 have hl:iu [n % 4294967296,n / 4294967296]:=.cons om (.cons om .nil)
 have f:Fr h (X.newRow h 160 (uL [n % 4294967296,n / 4294967296]) 0):=(Fr.refl h).newRow _ _ _
 have C:aN [n % 4294967296,n / 4294967296]=n:=by simp[aN];omega
 have I:bp 160 h (X.newRow h 160 (uL [n % 4294967296,n / 4294967296]) 0) (.slice (some ⟨h.next,0,none⟩) 2 2) (uL [n % 4294967296,n / 4294967296]):=o
 refine ar (wo I hl (show 2<=bl by decide)) ?_
 rw[C]
 exact⟨rfl,f⟩
theorem zP (ns:List Nat) (i:Nat) (hi:i<ns.length):aN ns=aN (ns.take i)+4294967296 ^ i * (ns[i]+4294967296 * aN (ns.drop (i+1))):=by
 have j:ns=ns.take i++ns.drop i:=(List.take_append_drop i ns).symm
 have h2:=gC (ns.take i) (ns.drop i)
 rw[<-j,List.length_take,Nat.min_eq_left om,jL hi] at h2
 exact h2
theorem lS {ns:List Nat} (h:iu ns) (i:Nat):iu (ns.take i):=fun n hn=>h n (List.mem_of_mem_take hn)
theorem Gw {ns j:List Nat} (hn:iu ns) {i:Nat} (hi:i<ns.length) (o:i<j.length) (hd:ns.drop (i+1)=j.drop (i+1)) (p:ns[i]<j[i]):aN ns<aN j:=by
 rw[zP ns i hi,zP j i o,hd]
 have C:=pr (lS hn i)
 rw[List.length_take,Nat.min_eq_left om] at C
 generalize aN (j.drop (i+1))=D
 have h2:4294967296 ^ i * (ns[i]+4294967296 * D)+4294967296 ^ i<=4294967296 ^ i * (j[i]+4294967296 * D):=by
  rw[<-Nat.mul_succ];exact Nat.mul_le_mul_left _ om
 generalize 4294967296 ^ i * (ns[i]+4294967296 * D)=x at *
 generalize 4294967296 ^ i * (j[i]+4294967296 * D)=y at *
 generalize 4294967296 ^ i=z at *
 omega
theorem VZ {ns j:List Nat} (hn:Norm ns) (hm:Norm j) (h:ns.length≠j.length):ym (aN ns) (aN j)=if j.length<ns.length then 1 else -1:=by
 unfold ym
 by_cases q:j.length<ns.length
 . have:=yn hm.Ft hn q
   rw[if_neg om,if_neg om,if_pos q]
 . have:=yn hn.Ft hm om
   rw[if_pos this,if_neg q]
theorem Ni {h:H} {v w:Value} {ns I:List Nat} (r1:bk h v (uL ns)) (r2:bk h w (uL I)) (hn:Norm ns) (hm:Norm I) (hb:ns.length<=bl) (RG:I.length<=bl):ai PP qT [v,w] h (.v (.int .i64 (ym (aN ns) (aN I))) h):=by
 have qS:bl=1000000000:=rfl
 refine aj.pure (Dx ?_) (by simp[flat])
 unfold AG aq
 rw[zM r2,wq]
 have f2:Fr h (X.newRow (X.newRow h 162 [w] 0) 3 [.int .i64 0] 0):=((Fr.refl h).newRow _ _ _).newRow _ _ _
 have PW:(X.newRow h 162 [w] 0).next=h.next+1:=rfl
 have ra:(X.newRow (X.newRow h 162 [w] 0) 3 [.int .i64 0] 0).row h.next=some ⟨[w],162,0,0,false⟩:=by rw[aS,if_neg (by rw[PW];omega),aS,if_pos rfl]
 have rb:(X.newRow (X.newRow h 162 [w] 0) 3 [.int .i64 0] 0).row (h.next+1)=some ⟨[.int .i64 0],3,0,0,false⟩:=by rw[aS,if_pos PW.symm]
 have n2:(X.newRow (X.newRow h 162 [w] 0) 3 [.int .i64 0] 0).next=h.next+2:=rfl
 rw[PW]
 generalize X.newRow (X.newRow h 162 [w] 0) 3 [.int .i64 0] 0=h2 at *
 have s1:=r1.fr f2
 have s2:=r2.fr f2
 have cw:∀ {h':H},h'.row h.next=some ⟨[w],162,0,0,false⟩->aw h' (.pointer (some ⟨h.next,0,none⟩))=some w:=by
  intro h' hr
  rw[c9,hr];rfl
 have stI:∀ {h':H} {a b:Int} {K:H->Prop},h'.row (h.next+1)=some ⟨[.int .i64 a],3,0,0,false⟩->K (h'.put (h.next+1) (.row ⟨[.int .i64 b],3,0,0,false⟩))->af (wa 1 h' (.pointer (some ⟨h.next+1,0,none⟩)) (.int .i64 b)) K:=by
  intro h' a b K hr hk
  rw[K0,if_pos rfl,bK,hr]
  simp only[Option.bind_some]
  rw[if_pos ⟨trivial,Nat.zero_le _,sm,sm⟩,aa]
  simp only[gU,kb,oT]
  exact hk
 have fin:∀ {h':H} {a:Int},Fr h h'->h'.row (h.next+1)=some ⟨[.int .i64 a],3,0,0,false⟩->a=ym (aN ns) (aN I)->af ((addrOf (.pointer (some ⟨h.next+1,0,none⟩))).bind fun a0=>(X.loadVar EE h' 3 a0).bind fun w0=>(some []).map (w0 :: ·)) fun vs=>(fun v h'=>v=.int .i64 (ym (aN ns) (aN I))/\Fr h h') (cN vs) h':=by
  intro h' a hf hr ha
  rw[PY ag3 hr,aa]
  subst ha
  exact⟨rfl,hf⟩
 rw[s1.len TL,cw ra,aa,s2.len TL,List.length_map,List.length_map,cX,aa,ae]
 by_cases hlen:ns.length=I.length
 . rw[if_neg (by simp[hlen])]
   refine (M_ s1).mono ?_
   rintro w2 p ⟨e2,e3⟩
   subst e2
   have f6:Fr h2 p:=by rw[e3];exact (Fr.refl h2).newRow _ _ _
   have rp:p.row h2.next=some ⟨[v],162,0,0,false⟩:=by rw[e3,aS,if_pos rfl]
   have n6:p.next=h2.next+1:=by rw[e3];rfl
   clear e3
   have t1:=s1.fr f6
   have t2:=s2.fr f6
   have PL:(uL ns).length<=bl:=sp hb
   have vb:=r1.dH
   have wb:=r2.dH
   let Inv:Nat->H->Prop:=fun i h'=>eV p.next p h'/\p.next<h'.next/\ns.drop i=I.drop i
   let Xr:H->Prop:=fun h'=>Fr h h'/\p.next<h'.next/\h'.row (h.next+1)=some ⟨[.int .i64 (ym (aN ns) (aN I))],3,0,0,false⟩
   have j:∀ {h':H},eV p.next p h'->∀ c,c<p.next->h'.get c=p.get c:=fun x c hc=>x.cK c hc om
   have rdv:∀ {h':H},eV p.next p h'->bk h' v (uL ns):=fun x=>t1.dg fun b o n c q=>⟨by have:=vb _ _ _ _ q;have:=x.next;have:=f2.next;omega,j x b (by have:=vb _ _ _ _ q;have:=f2.next;omega)⟩
   have rdw:∀ {h':H},eV p.next p h'->bk h' w (uL I):=fun x=>t2.dg fun b o n c q=>⟨by have:=wb _ _ _ _ q;have:=x.next;have:=f2.next;omega,j x b (by have:=wb _ _ _ _ q;have:=f2.next;omega)⟩
   refine yk (v:=v) PL Inv Xr ?_ ?_ ?_ ?_ ?_ ?_ ?_
   . rintro i h' o ⟨C,R,J⟩
     exact⟨C.trans (eV.put _ _ _),R,J⟩
   . rintro h' o ⟨C,R,J⟩
     exact⟨C.put o om,R,by rw[dL om];exact J⟩
   . rintro i h' ⟨C,R,J⟩
     exact⟨by rw[bg (j C _ om)];exact rp,rdv C⟩
   . intro o
     refine⟨⟨by rw[H.fM];omega,fun c hc _=>(H.eF _ _ _).trans (if_neg om)⟩,by rw[H.fM];omega,?_⟩
     rw[List.drop_of_length_le sm,List.drop_of_length_le so]
   . rintro i hi h' KR ⟨C,R,J⟩ kn kx
     have vt:i<ns.length:=sp hi
     have U:i<I.length:=om
     have hi3:i<(uL I).length:=sp U
     simp only[zN,zO]
     have ra':h'.row h.next=some ⟨[w],162,0,0,false⟩:=by
      rw[bg (j C _ om),fa f6 om];exact ra
     have rb':h'.row (h.next+1)=some ⟨[.int .i64 0],3,0,0,false⟩:=by
      rw[bg (j C _ om),fa f6 om];exact rb
     rw[cw ra',aa,(rdw C).rd hi3,List.getElem_map,List.getElem_map,cX,aa,ae]
     by_cases hd:ns[i]=I[i]
     . rw[if_neg (by simp[hd])]
       refine kn _ ⟨C,R,?_⟩ rfl
       rw[List.drop_eq_getElem_cons vt,List.drop_eq_getElem_cons U,hd,J]
     . rw[if_pos (by simp[hd]),aa,(rdw C).rd hi3,List.getElem_map,fu,aa]
       refine ar (B_ _ _) ?_
       refine stI rb' (kx _ ⟨?_,R,?_⟩ ?_)
       . refine Fr.put ?_ _ om
         exact⟨by have:=f2.next;have:=C.next;omega,fun c hc=>by rw[j C c om,f6.cK c om,f2.cK c hc]⟩
       . rw[eH,if_pos rfl]
         by_cases oz:I[i]<ns[i]
         . have:=Gw hm.Ft U vt J.symm oz
           have e:ym (aN ns) (aN I)=1:=by unfold ym;rw[if_neg om,if_neg om]
           rw[e];simp[oz]
         . have:=Gw hn.Ft vt U J om
           have e:ym (aN ns) (aN I)=-1:=by unfold ym;rw[if_pos this]
           rw[e];simp[oz]
       . exact jh om
   . rintro h' ⟨C,R,J⟩
     have hd:eV p.next h' (h'.del p.next):=eV.del _ _
     have a1':=C.trans hd
     show af (wa 1 (h'.del p.next) (.pointer (some ⟨h.next+1,0,none⟩)) (.int .i64 0)) _
     have rb':(h'.del p.next).row (h.next+1)=some ⟨[.int .i64 0],3,0,0,false⟩:=by
      rw[bg (j a1' _ om),fa f6 om];exact rb
     refine stI rb' (fin (a:=0) ?_ (by rw[eH,if_pos rfl]) ?_)
     . refine Fr.put ?_ _ om
       exact⟨by have:=f2.next;have:=a1'.next;omega,fun c hc=>by rw[j a1' c om,f6.cK c om,f2.cK c hc]⟩
     . simp only[List.drop_zero] at J
       subst J
       unfold ym
       rw[if_neg om,if_pos rfl]
   . rintro h' ⟨C,R,J⟩
     have hd:eV p.next h' (h'.del p.next):=eV.del _ _
     refine fin (a:=ym (aN ns) (aN I)) ⟨?_,fun c hc=>?_⟩ ?_ rfl
     . have:=C.next;have:=hd.next;omega
     . rw[hd.cK c (by have:=C.next;omega) om];exact C.cK c hc
     . rw[hd.row om om];exact J
 . rw[if_pos (by simp[hlen]),s1.len TL,cw ra,aa,s2.len TL,List.length_map,List.length_map,fu,aa]
   refine ar (B_ _ _) ?_
   refine stI rb (fin (a:=_) (Fr.put f2 _ om) (by rw[eH,if_pos rfl]) ?_)
   rw[VZ hn hm hlen]
   simp
theorem Nj (a b:List UInt8) (ha:a.length<=bl) (hb:b.length<=bl) (h:H):ai PP Dy [st a,st b] h (.v (.int .i64 (ym (aJ a) (aJ b))) h):=by
 refine aj.pure (PZ ?_) (by simp[flat])
 unfold RH aq
 refine (jf (Fr.refl h) a ha).mono ?_
 rintro v1 U ⟨f1,_,ns,j,o,p,c1⟩
 refine (jf f1 b hb).mono ?_
 rintro v2 h2 ⟨f2,C,ms,I,J,R,c2⟩
 refine ar (Ni (j.fr C).read I.read o J c1 c2) ?_
 rw[p,R]
 exact⟨rfl,f2⟩
theorem K6 (os:List Nat) (x:Nat):uL (os++[x])=uL os++[xN x]:=by simp[uL]
theorem fO (ns:List Nat) (i:Nat):aN (ns.take (i+1))=aN (ns.take i)+4294967296 ^ i * ns.getD i 0:=by
 by_cases hi:i<ns.length
 . rw[List.take_add_one,List.getElem?_eq_getElem hi,Option.toList_some,mQ,List.getD_eq_getElem?_getD,List.getElem?_eq_getElem hi,List.length_take,Nat.min_eq_left om]
   rfl
 . rw[List.take_of_length_le om,List.take_of_length_le om,List.getD_eq_getElem?_getD,List.getElem?_eq_none om]
   simp
theorem yo {ns:List Nat} (h:iu ns) (i:Nat):ns.getD i 0<4294967296:=by
 rw[List.getD_eq_getElem?_getD]
 cases hi:ns[i]? with
 | none=>simp
 | some x=>simpa using h x (List.mem_of_getElem? hi)
theorem nz {os:List Nat} {j:Nat} (p:j<os.length) (x:Nat):aN (os.set j x)+4294967296 ^ j * os[j]=aN os+4294967296 ^ j * x:=by
 have o:j<(os.set j x).length:=sp p
 rw[zP os j p,zP (os.set j x) j o]
 rw[List.take_set_of_le (Nat.le_refl j),List.drop_set_of_lt om]
 simp only[List.getElem_set_self,Nat.mul_add]
 omega
theorem tU {x:Nat} (h:x<4294967296):x % 4294967296=x:=Nat.mod_eq_of_lt h
theorem AH (a:List UInt8) (ha:a.length<=4) (h:H):ai PP tV [st a] h (.v (.tuple ⟨[dD (aJ a),.bool true]⟩) h):=by
 have j:bl=1000000000:=rfl
 refine aj.pure (K7 ?_) (by simp[flat,xO])
 unfold JR aq
 refine (jf (Fr.refl h) a om).mono ?_
 rintro v I ⟨f1,_,ns,o,m,l,c⟩
 have hs:=wi ha
 have hlen:ns.length<=1:=wx m (k:=1) (by rw[l];simpa using hs)
 rw[o.read.len TL,List.length_map,show (.int .i64 2:Value)=vI 2 from rfl,fu,aa,ae,if_neg so]
 refine ar (mv o.read m.Ft 1) ?_
 have p:ns.getD 1 0=0:=by rw[List.getD_eq_getElem?_getD,List.getElem?_eq_none om];rfl
 rw[p,show (.int .u64 32:Value)=.int .u64 ((32:Nat):Int) from rfl,Gs,aa]
 refine ar (mv o.read m.Ft 0) ?_
 have C:ns.getD 0 0=aJ a:=by
  rw[<-l]
  cases ns with
  | nil=>rfl
  | cons d ns =>
   cases ns with
   | nil=>simp[aN]
   | cons _ _=>simp at hlen
 rw[C,Nat.zero_shiftLeft,bB,Nat.zero_mod,M9,aa,Nat.zero_or,bB,Nat.mod_eq_of_lt om]
 exact⟨rfl,f1⟩
theorem Nk (a b:List UInt8) (ha:a.length<=100000000) (hb:b.length<=100000000) (h:H):ai PP Dz [st a,st b] h (.v (st (enc (aJ a+aJ b))) h):=by
 have qS:bl=1000000000:=rfl
 refine aj.pure (P0 ?_) (by simp[flat])
 unfold RJ aq
 refine (jf (Fr.refl h) a om).mono ?_
 rintro v h1 ⟨f1,_,ns,o1,I,l1,c1⟩
 refine (jf f1 b om).mono ?_
 rintro w h2 ⟨f2,g2,j,o2,J,l2,c2⟩
 have s1:=(o1.fr g2).read
 have s2:=o2.read
 have bl1:ns.length<=100000000:=by
  have:=wj a
  rw[<-l1] at this
  have p:256 ^ a.length<=4294967296 ^ a.length:=Nat.pow_le_pow_left om _
  exact Nat.le_trans (wx I (Nat.lt_of_lt_of_le this p)) ha
 have bl2:j.length<=100000000:=by
  have:=wj b
  rw[<-l2] at this
  have p:256 ^ b.length<=4294967296 ^ b.length:=Nat.pow_le_pow_left om _
  exact Nat.le_trans (wx J (Nat.lt_of_lt_of_le this p)) hb
 rw[s1.len TL,s2.len TL,List.length_map,List.length_map,wk]
 have e1:max ((ns.length:Nat):Int) ((j.length:Nat):Int)=((max ns.length j.length:Nat):Int):=om
 rw[e1]
 generalize hN:max ns.length j.length=N
 have hN2:N<=100000000:=om
 refine aL.ind (fun s h'=>Fr h2 h'/\∃ (i c:Nat) (u:Value) (os:List Nat),s=[v,w,u,dD c,vI N,vI i]/\i<=N/\c<=1/\bp 160 h2 h' u (uL os)/\iu os/\os.length=i/\aN os+4294967296 ^ i * c=aN (ns.take i)+aN (j.take i)) (fun s _=>match aI s 5 with | .int _ i=>N-i.toNat | _=>0) ?_ ⟨Fr.refl h2,0,0,.slice none 0 0,[],rfl,Nat.zero_le _,Nat.zero_le _,.nil,iu.nil,rfl,by simp[aN]⟩
 rintro s p ⟨f3,i,c,u,os,rfl,hi,hc,ou,lo,hlen,hv⟩
 show yp _ _ v w u (dD c) (vI N) (vI i) p
 unfold yp aq
 rw[bI,aa,ae]
 by_cases C:i<N
 . rw[if_pos (by simp[C])]
   refine ar (mv (s1.fr f3) I.Ft i) (ar (mv (s2.fr f3) J.Ft i) ?_)
   have x1:=yo I.Ft i
   have x2:=yo J.Ft i
   have R:=fO ns i
   have U:=fO j i
   generalize ns.getD i 0=x at *
   generalize j.getD i 0=y at *
   rw[fq,aa,bB,Nat.mod_eq_of_lt om,fq,aa,bB,Nat.mod_eq_of_lt om,dI lQ iB,aa,wrap_u32]
   refine TC TL f3 ou so rfl rfl ?_
   intro u' h4 g1 o
   rw[show (.int .u64 32:Value)=.int .u64 ((32:Nat):Int) from rfl,qR,aa,oI,fq,aa,wrap_i64 om]
   have e2:(x+y+c) >>> min 32 IntKind.u64.bits=(x+y+c) / 4294967296:=by rw[show min 32 IntKind.u64.bits=32 from rfl,Nat.shiftRight_eq_div_pow]
   rw[e2]
   refine⟨⟨g1,i+1,(x+y+c) / 4294967296,u',os++[(x+y+c) % 4294967296],rfl,om,om,by rw[K6];exact o,lo.snoc (Nat.mod_lt _ om),by simp[hlen],?_⟩,?_⟩
   . rw[mQ,hlen,R,U,Nat.pow_succ]
     have h5:4294967296 ^ i * ((x+y+c) % 4294967296)+4294967296 ^ i * 4294967296 * ((x+y+c) / 4294967296)=4294967296 ^ i * (x+y+c):=by
      rw[Nat.mul_assoc,<-Nat.mul_add,Nat.mod_add_div]
     rw[Nat.add_assoc,h5,Nat.mul_add,Nat.mul_add]
     generalize 4294967296 ^ i * x=X1 at *
     generalize 4294967296 ^ i * y=Y1 at *
     generalize 4294967296 ^ i * c=C1 at *
     omega
   . show N-((i+1:Nat):Int).toNat<N-(i:Int).toNat
     omega
 . rw[if_neg (by simp[C]),dI lQ iB,aa,wrap_u32,tU om]
   refine TC TL f3 ou so rfl rfl ?_
   intro u' h4 g1 o
   have g3:bp 160 h2 h4 u' (uL (os++[c])):=by rw[K6];exact o
   refine ar (wo g3 (lo.snoc om) so) ?_
   have hiN:i=N:=om
   have e3:aN (os++[c])=aJ a+aJ b:=by
    rw[mQ,hlen,hv,hiN,List.take_of_length_le om,List.take_of_length_le om,l1,l2]
   rw[e3]
   exact⟨rfl,f2.trans g1⟩
theorem zQ {ns:List Nat} {a:List UInt8} (m:Norm ns) (l:aN ns=aJ a):ns.length<=a.length:=by
 have:=wj a
 rw[<-l] at this
 have j:256 ^ a.length<=4294967296 ^ a.length:=Nat.pow_le_pow_left om _
 exact wx m (Nat.lt_of_lt_of_le this j)
theorem pu {ns:List Nat} (h:∀ j,ns.getD j 0=0):aN ns=0:=by
 induction ns with
 | nil=>rfl
 | cons d ns o =>
  have h0:=h 0
  rw[oS,o (fun j=>by have:=h (j+1);simpa using this)]
  have:d=0:=sp h0
  omega
theorem p_ (os:List Nat) (j x i:Nat) (o:j<os.length):(os.set j x).getD i 0=if i=j then x else os.getD i 0:=by
 rw[List.getD_eq_getElem?_getD,List.getD_eq_getElem?_getD,List.getElem?_set]
 by_cases h:j=i
 . subst h;simp[o]
 . have h':¬ i=j:=fun q=>h q.symm
   simp[h,h']
theorem nC {os:List Nat} {j:Nat} (o:j<os.length):os[j]=os.getD j 0:=by rw[List.getD_eq_getElem?_getD,List.getElem?_eq_getElem o];rfl
theorem iu.set {os:List Nat} (h:iu os) (j:Nat) {x:Nat} (hx:x<4294967296):iu (os.set j x):=by
 intro n hn
 rcases List.mem_or_eq_of_mem_set hn with q | q
 . exact h n q
 . subst q;exact hx
theorem sE (os:List Nat) (j x:Nat):uL (os.set j x)=(uL os).set j (xN x):=by simp[uL,List.map_set]
theorem tW (a b:List UInt8) (ha:a.length<=100000000) (hb:b.length<=100000000) (h:H):ai PP sw [st a,st b] h (.v (st (enc (aJ a * aJ b))) h):=by
 have qS:bl=1000000000:=rfl
 refine aj.pure (P1 ?_) (by simp[flat])
 unfold RK aq
 refine (jf (Fr.refl h) a om).mono ?_
 rintro v h1 ⟨f1,_,ns,o1,m1,l1,c1⟩
 refine (jf f1 b om).mono ?_
 rintro w h2 ⟨f2,g2,o,o2,m2,l2,c2⟩
 have s1:=(o1.fr g2).read
 have s2:=o2.read
 have bl1:=zQ m1 l1
 have bl2:=zQ m2 l2
 rw[s1.len TL,s2.len TL,List.length_map,List.length_map,fq,aa,wrap_i64 om]
 obtain⟨u,h3,e3,f3,o3⟩:=Be TL h2 (ns.length+o.length) om
 rw[e3,aa]
 show blt EE h3 .len #[162] [v] _
 rw[(s1.fr f3).len TL,List.length_map]
 have o3':bp 160 h2 h3 u (uL (List.replicate (ns.length+o.length) 0)):=by
  have:uL (List.replicate (ns.length+o.length) 0)=List.replicate (ns.length+o.length) (.int .u32 0):=by simp[uL]
  rw[this];exact o3
 refine aL.ind (fun s h'=>Fr h2 h'/\∃ (i:Nat) (os:List Nat),s=[v,w,u,vI ns.length,vI i]/\i<=ns.length/\bp 160 h2 h' u (uL os)/\iu os/\os.length=ns.length+o.length/\aN os=aN (ns.take i) * aN o/\∀ j,i+o.length<=j->os.getD j 0=0)
  (fun s _=>match aI s 4 with | .int _ i=>ns.length-i.toNat | _=>0) ?_ ⟨f3,0,_,rfl,Nat.zero_le _,o3',fun n hn=>by rw[List.eq_of_mem_replicate hn];omega,sm,?_,fun j _=>?_⟩
 rotate_left
 . rw[pu (fun j=>by rw[List.getD_eq_getElem?_getD,List.getElem?_replicate];split <;> rfl)]
   simp[aN]
 . rw[List.getD_eq_getElem?_getD,List.getElem?_replicate];split <;> rfl
 rintro s h4 ⟨f4,i,os,rfl,hi,J,lo,hlen,hv,hz⟩
 show yq _ _ v w u (vI ns.length) (vI i) h4
 unfold yq aq
 rw[bI,aa,ae]
 by_cases R:i<ns.length
 . rw[if_pos (by simp[R]),(s2.fr f4).len TL,List.length_map]
   have hx:=yo m1.Ft i
   have tk:=fO ns i
   generalize hxx:ns.getD i 0=x at *
   refine aL.ind (fun s h'=>Fr h2 h'/\∃ (k c:Nat) (C:List Nat),s=[v,w,u,vI i,dD c,vI ns.length,vI i,vI o.length,vI k]/\k<=o.length/\c<4294967296/\bp 160 h2 h' u (uL C)/\iu C/\C.length=ns.length+o.length/\aN C+4294967296 ^ (i+k) * c=aN (ns.take i) * aN o+4294967296 ^ i * (x * aN (o.take k))/\∀ j,i+o.length<=j->C.getD j 0=0)
    (fun s _=>match aI s 8 with | .int _ k=>o.length-k.toNat | _=>0) ?_ ⟨f4,0,0,os,rfl,Nat.zero_le _,om,J,lo,hlen,by rw[Nat.mul_zero,Nat.add_zero,List.take_zero,sF,Nat.mul_zero,Nat.mul_zero,Nat.add_zero,hv],hz⟩
   clear J lo hlen hv hz os f4 h4
   rintro s h4 ⟨f4,k,c,os,rfl,hk,hc,J,lo,hlen,hv,hz⟩
   show yr _ _ _ v w u (vI i) (dD c) (vI ns.length) (vI i) (vI o.length) (vI k) h4
   unfold yr aq
   rw[bI,aa,ae]
   by_cases U:k<o.length
   . rw[if_pos (by simp[U])]
     refine ar (mv (s1.fr f4) m1.Ft i) (ar (mv (s2.fr f4) m2.Ft k) ?_)
     rw[hxx]
     have hy:=yo m2.Ft k
     have tk2:=fO o k
     generalize o.getD k 0=y at *
     have hxy:x * y<=4294967295 * 4294967295:=Nat.mul_le_mul om om
     rw[Ds,aa,bB,Nat.mod_eq_of_lt om,fq,aa,wrap_i64 om]
     refine ar (mv J.read lo (i+k)) ?_
     have ho:=yo lo (i+k)
     have p:i+k<os.length:=om
     have I:=nz p
     rw[nC p] at I
     have Gx:=p_ os (i+k)
     generalize os.getD (i+k) 0=z at *
     rw[fq,aa,bB,Nat.mod_eq_of_lt om,fq,aa,bB,Nat.mod_eq_of_lt om]
     rw[aa,dI lQ iB,aa,wrap_u32]
     refine J.set so rfl rfl ?_
     intro b h5 q1 q2 q3 _ q5
     rw[show (.int .u64 32:Value)=.int .u64 ((32:Nat):Int) from rfl,qR,aa,oI,fq,aa,wrap_i64 om]
     have e2:(x * y+z+c) >>> min 32 IntKind.u64.bits=(x * y+z+c) / 4294967296:=by rw[show min 32 IntKind.u64.bits=32 from rfl,Nat.shiftRight_eq_div_pow]
     rw[e2]
     refine⟨⟨eV.fr f4 q2 q1,k+1,(x * y+z+c) / 4294967296,os.set (i+k) ((x * y+z+c) % 4294967296),rfl,om,om,by rw[sE];exact q5,iu.set lo _ (Nat.mod_lt _ om),sp hlen,?_,?_⟩,?_⟩
     . have h6:=I ((x * y+z+c) % 4294967296)
       have h5:4294967296 ^ (i+k) * ((x * y+z+c) % 4294967296)+4294967296 ^ (i+(k+1)) * ((x * y+z+c) / 4294967296)=4294967296 ^ (i+k) * (x * y+z+c):=by
        rw[show i+(k+1)=i+k+1 from rfl,Nat.pow_succ,Nat.mul_assoc,<-Nat.mul_add,Nat.mod_add_div]
       rw[tk2,Nat.mul_add,Nat.mul_add]
       have h7:4294967296 ^ i * (x * (4294967296 ^ k * y))=4294967296 ^ (i+k) * (x * y):=by
        rw[Nat.pow_add,Nat.mul_assoc,<-Nat.mul_assoc x,Nat.mul_comm x,Nat.mul_assoc]
       rw[h7]
       rw[Nat.mul_add,Nat.mul_add] at h5
       generalize 4294967296 ^ (i+k) * (x * y)=X1 at *
       generalize 4294967296 ^ (i+k) * z=Y1 at *
       generalize 4294967296 ^ (i+k) * c=C1 at *
       generalize 4294967296 ^ (i+k) * ((x * y+z+c) % 4294967296)=D1 at *
       generalize 4294967296 ^ (i+(k+1)) * ((x * y+z+c) / 4294967296)=G1 at *
       generalize aN (List.take i ns) * aN o=A1 at *
       generalize 4294967296 ^ i * (x * aN (List.take k o))=B1 at *
       omega
     . intro j hj
       rw[Gx _ j p,if_neg om]
       exact hz j hj
     . show o.length-((k+1:Nat):Int).toNat<o.length-(k:Int).toNat
       omega
   . rw[if_neg (by simp[U]),(s2.fr f4).len TL,List.length_map,fq,aa,wrap_i64 om,dI lQ iB,aa,wrap_u32,tU hc]
     have p:i+o.length<os.length:=om
     have hkk:k=o.length:=om
     refine J.set so rfl rfl ?_
     intro b h5 q1 q2 q3 _ q5
     rw[oI,fq,aa,wrap_i64 om]
     refine⟨⟨eV.fr f4 q2 q1,i+1,os.set (i+o.length) c,rfl,om,by rw[sE];exact q5,iu.set lo _ hc,sp hlen,?_,?_⟩,?_⟩
     . have h6:=nz p c
       rw[nC p,hz _ nlr,Nat.mul_zero,Nat.add_zero] at h6
       rw[h6,<-hkk,hv,hkk,List.take_of_length_le nlr,tk,Nat.add_mul,Nat.mul_assoc]
     . intro j hj
       rw[p_ os _ _ _ p,if_neg om]
       exact hz j om
     . show ns.length-((i+1:Nat):Int).toNat<ns.length-(i:Int).toNat
       omega
 . rw[if_neg (by simp[R])]
   refine ar (wo J lo om) ?_
   have hiN:i=ns.length:=om
   have e3:aN os=aJ a * aJ b:=by rw[hv,hiN,List.take_of_length_le nlr,l1,l2]
   rw[e3]
   exact⟨rfl,f2.trans f4⟩
theorem Nl {h:H} {v:Value} {vs:List Value} (r:bk h v vs):CP b_ [v] h fun w h'=>w=RE bw h.next/\h'=X.newRow h 156 [v] 0:=by
 refine .call (j8 ?_)
 unfold fh aq
 rw[zM r]
 exact⟨rfl,rfl⟩
theorem yu {v:Value} {vs:List Value} {p:Nat} {h:H} {K:AE->H->Prop} {J:List Value->H->(AE->H->Prop)->Prop} (hlen:vs.length<=bl)
 (Inv:Nat->H->Prop) (Xr:H->Prop)
 (R:∀ i h' o,Inv i h'->Inv i (h'.put h.next o)) (U:∀ h' o,Xr h'->Xr (h'.put h.next o))
 (C:∀ i h',Inv i h'->h'.row p=some ⟨[v],156,0,0,false⟩/\bk h' v vs)
 (init:∀ o,Inv vs.length (h.new o))
 (step:∀ i (hi:i<vs.length) h' KR,Inv (i+1) h'->(∀ h2,Inv i h2->h2.get h.next=h'.get h.next->KR .normal h2)->(∀ h2,Xr h2->h2.get h.next=h'.get h.next->KR .ret h2)->J [vI i,vs[i]] h' KR)
 (fin:∀ h',Inv 0 h'->K .normal (h'.del h.next)) (Ab3:∀ h',Xr h'->K .ret (h'.del h.next)) :
 uN PP (RE bw p) 2 (fun s g bz KR=>bz g fun b=>J s b KR) h K:=by
 have qS:bl=1000000000:=rfl
 refine⟨fun lp PK TD I=>?_⟩
 refine⟨bw,[],[.pointer (some ⟨p,0,none⟩)],fun w h'=>(h'.get h.next=some (lp .ready none)/\Inv 0 h')\/(h'.get h.next=some (lp .done (some .ret))/\Xr h'),rfl,?_,?_⟩
 . refine jT ?_
   unfold eW aq
   have i0:=init (lp .ready none)
   have g0:(h.new (lp .ready none)).get h.next=some (lp .ready none):=(H.eF _ _ _).trans (if_pos rfl)
   generalize h.new (lp .ready none)=h1 at i0 g0
   obtain⟨r1,r2⟩:=C _ _ i0
   have cp:∀ {h':H},h'.row p=some ⟨[v],156,0,0,false⟩->aw h' (.pointer (some ⟨p,0,none⟩))=some v:=by
    intro h' hr
    rw[c9,hr];rfl
   rw[cp r1,aa,r2.len TM,Go.X.binOp_sub,aa,wrap64 om om]
   refine aL.ind (fun s h'=>h'.get h.next=some (lp .ready none)/\∃ i:Nat,s=[.func (.yield h.next) ⟨[]⟩ ⟨[]⟩,.pointer (some ⟨p,0,none⟩),.int .i64 ((i:Int)-1)]/\i<=vs.length/\Inv i h') (fun s _=>match aI s 2 with | .int _ i=>(i+1).toNat | _=>0) ?_ ⟨g0,vs.length,rfl,Nat.le_refl _,i0⟩
   rintro s h2 ⟨g2,i,rfl,hi,inv⟩
   show cC _ _ (.func (.yield h.next) ⟨[]⟩ ⟨[]⟩) (.pointer (some ⟨p,0,none⟩)) (.int .i64 ((i:Int)-1)) h2
   unfold cC aq
   rw[Go.X.binOp_geq,aa,ae]
   cases i with
   | zero =>
    rw[if_neg sm]
    exact .inl ⟨g2,inv⟩
   | succ j =>
    rw[if_pos sm]
    obtain⟨s1,s2⟩:=C _ _ inv
    have ej:(((j+1:Nat):Int)-1)=((j:Nat):Int):=om
    rw[cp s1,aa,ej,s2.rd om]
    refine⟨⟨TD h2 h.next .ready none g2,⟨I h.next [vI j,vs[j]] h2 none _ g2 rfl ?_⟩⟩⟩
    refine⟨none,g2,?_⟩
    have gb:(h2.put h.next (lp .busy none)).get h.next=some (lp .busy none):=(H.d' _ _ _ _).trans (if_pos rfl)
    refine step j om _ _ (R _ _ _ inv) (fun h3 i3 e3=>?_) (fun h3 x3 e3=>?_)
    . refine⟨⟨.busy,none,e3.trans gb⟩,?_⟩
      show af (X.unOp .not (.bool true)) _
      rw[aY,aa,Bool.not_true,zL,Go.X.binOp_sub,aa,wrap64 om om]
      refine⟨⟨(H.d' _ _ _ _).trans (if_pos rfl),j,rfl,om,R _ _ _ i3⟩,?_⟩
      show ((j:Int)-1+1).toNat<((j:Int)+1).toNat
      omega
    . refine⟨⟨.busy,none,e3.trans gb⟩,?_⟩
      show af (X.unOp .not (.bool false)) _
      rw[aY,aa,Bool.not_false,B7]
      exact .inr ⟨(H.d' _ _ _ _).trans (if_pos rfl),U _ _ x3⟩
 . rintro w h' (⟨g,i⟩ | ⟨g,x⟩)
   . exact⟨.normal,.ready,g,sm,fin _ i⟩
   . exact⟨.ret,.done,g,sm,Ab3 _ x⟩
theorem B' {h:H} {v:Value} {ns:List Nat} (r:bk h v (uL ns)) (hl:iu ns) (hb:ns.length<=bl):ai PP iv [v] h (.v (st (enc (aN ns))) h):=by
 have qS:bl=1000000000:=rfl
 refine aj.pure (yv ?_) (by simp[flat])
 unfold tX aq
 rw[wq]
 have f1:Fr h (X.newRow h 90 [.slice none 0 0] 0):=(Fr.refl h).newRow _ _ _
 have r1:(X.newRow h 90 [.slice none 0 0] 0).row h.next=some ⟨[.slice none 0 0],90,0,0,false⟩:=by rw[aS,if_pos rfl]
 have n1:(X.newRow h 90 [.slice none 0 0] 0).next=h.next+1:=rfl
 generalize X.newRow h 90 [.slice none 0 0] 0=h1 at *
 have o:=r.fr f1
 have Ab4:bt v h.next:=r.lt nlr
 refine (Nl o).mono ?_
 rintro w2 j ⟨e2,e3⟩
 subst e2
 have f6:Fr h1 j:=by rw[e3];exact (Fr.refl h1).newRow _ _ _
 have rp:j.row h1.next=some ⟨[v],156,0,0,false⟩:=by rw[e3,aS,if_pos rfl]
 have n6:j.next=h1.next+1:=by rw[e3];rfl
 have rv:j.row h.next=some ⟨[.slice none 0 0],90,0,0,false⟩:=by rw[fa f6 om];exact r1
 have ow:bk j v (uL ns):=o.fr f6
 have wl:bt v j.next:=o.lt om
 clear e3
 have Ab5:(uL ns).length<=bl:=so
 let Inv:Nat->H->Prop:=fun i h'=>Fr h h'/\j.next<h'.next/\h'.row h1.next=some ⟨[v],156,0,0,false⟩/\bk h' v (uL ns)/\∃ C u,h'.row h.next=some ⟨[u],90,0,0,false⟩/\bp 5 (H.cap h' (j.next+1)) h' u (C.map fun b=>v8 b.toNat)/\aJ C=aN (ns.drop i)/\C.length+4 * i=4 * ns.length
 refine yu (v:=v) Ab5 Inv (fun _=>False) ?_ (fun h' o x=>x) ?_ ?_ ?_ ?_ (fun h' x=>x.elim)
 . rintro i h' o ⟨I,a2,R,U,C,u,a5,J,a7,a8⟩
   refine⟨I.put o om,a2,by rw[dL om];exact R,U.Dw o (fun b o' n c q=>wl _ _ _ _ q),C,u,by rw[dL om];exact a5,?_,a7,a8⟩
   exact (J.mR (eV.put h' j.next o) (J.off (by show j.next<j.next+1;omega))).base rfl
 . rintro i h' ⟨I,a2,R,U,_⟩;exact⟨R,U⟩
 . intro o
   have fo:Fr j (j.new o):=⟨by rw[H.fM];omega,fun b hb=>(H.eF _ _ _).trans (if_neg om)⟩
   refine⟨(f1.trans f6).trans fo,by rw[H.fM];omega,by rw[fa fo om];exact rp,ow.fr fo,[],.slice none 0 0,by rw[fa fo om];exact rv,.nil,?_,sm⟩
   rw[List.drop_of_length_le sm];rfl
 . rintro i hi h' KR ⟨I,a2,R,U,C,u,a5,J,a7,a8⟩ kn _
   have vt:i<ns.length:=sp hi
   have Ab6:=hl _ (List.getElem_mem vt)
   simp only[zN,zO]
   rw[c9,a5]
   simp only[Option.bind_some,ao,aa,List.getElem_map]
   have sh:∀ k,k<=32->X.binOp EE .shr 160 (xN ns[i]) (.int .u64 ((k:Nat):Int))=some (xN (ns[i] >>> k)):=by
    intro k hk
    rw[qR,show min k IntKind.u32.bits=k from Nat.min_eq_left hk]
   rw[show (.int .u64 24:Value)=.int .u64 ((24:Nat):Int) from rfl,sh 24 om,aa,dI iB yj,aa,
    show (.int .u64 16:Value)=.int .u64 ((16:Nat):Int) from rfl,sh 16 om,aa,dI iB yj,aa,
    show (.int .u64 8:Value)=.int .u64 ((8:Nat):Int) from rfl,sh 8 om,aa,dI iB yj,aa,dI iB yj,aa]
   simp only[RF]
   have ZA:dM EE h' 90 4 [(0,v8 (UInt8.ofNat (ns[i] >>> 24)).toNat),(1,v8 (UInt8.ofNat (ns[i] >>> 16)).toNat),(2,v8 (UInt8.ofNat (ns[i] >>> 8)).toNat),(3,v8 (UInt8.ofNat ns[i]).toNat)]=some (X.newRow h' 5 ((VA ns[i]).map fun b=>v8 b.toNat) 0):=by
    unfold dM
    rw[TB.un]
    simp only[Option.bind_some,TB.sz,TB.zc]
    rfl
   refine Ab7 TB (h0:=H.cap h' (j.next+1)) (Fr.Ad7 h' om) J so (by simp[VA]) (by simp[VA]) ZA (by simp[VA]) ?_
   intro u' p g1 g2
   have fx:∀ c,c<j.next+1->p.get c=h'.get c:=fun c hc=>g1.cK c hc
   have hn2:j.next+1<=p.next:=g1.next
   have IS:p.row h.next=some ⟨[u],90,0,0,false⟩:=by rw[bg (fx h.next om)];exact a5
   have hcu:=g2.cell
   rw[tT _ _ _ _ _ hcu.1,if_pos rfl,bK,IS]
   simp only[Option.bind_some]
   rw[if_pos ⟨trivial,Nat.zero_le _,sm,by simp[hcu.2]⟩,aa]
   simp only[gU,kb,oT]
   have hx:eV h.next p (p.put h.next (.row ⟨[u'],90,0,0,false⟩)):=eV.put _ _ _
   refine kn _ ⟨?_,hn2,?_,?_,C++VA ns[i],u',by rw[eH,if_pos rfl],?_,?_,?_⟩ ?_
   . refine⟨by show h.next<=p.next;omega,fun c hc=>?_⟩
     rw[jh om,fx c om];exact I.cK c hc
   . rw[dL om,bg (fx _ om)];exact R
   . refine bk.mR ?_ hx Ab4
     exact U.dg fun b o' n c q=>⟨by have:=ow.dH _ _ _ _ q;omega,fx b (by have:=ow.dH _ _ _ _ q;omega)⟩
   . have g3:=(g2.mR hx (g2.off (show h.next<j.next+1 by omega))).base (h0':=H.cap (p.put h.next (.row ⟨[u'],90,0,0,false⟩)) (j.next+1)) rfl
     simpa using g3
   . rw[pZ,a7,Nc Ab6,jL vt]
     show aN (ns.drop (i+1)) * 256 ^ 4+ns[i]=_
     rw[KZ,Nat.mul_comm,Nat.add_comm]
   . rw[List.length_append];show C.length+4+4 * i=_;omega
   . rw[jh om];exact fx _ om
 . rintro h' ⟨I,a2,R,U,C,u,a5,J,a7,a8⟩
   show af (aw (h'.del j.next) (.pointer (some ⟨h.next,0,none⟩))) _
   have hd:eV j.next h' (h'.del j.next):=eV.del _ _
   rw[c9,hd.row om om,a5]
   simp only[Option.bind_some,ao,aa]
   have hu:=J.read.mR hd (J.off (show j.next<j.next+1 by omega))
   rw[Nf pY yj kH hu,aa]
   refine ar (cS C _) ?_
   refine⟨?_,⟨?_,fun c hc=>?_⟩⟩
   . rw[a7,List.drop_zero]
   . exact Nat.le_trans I.next hd.next
   . rw[hd.cK c om om];exact I.cK c hc
theorem Gy {l:List UInt8} (h:trim l=l) (hl:l≠[]):aJ l≠0:=fun q=>hl (by rw[<-h];exact (rP l).2 q)
theorem TF {l:List UInt8} (h:trim l=l) {n:Nat}:trim (l.take n)=l.take n:=by
 cases l with
 | nil=>simp[trim]
 | cons c l =>
  by_cases hc:c=0
  . subst hc
    rw[mP] at h
    have:=congrArg List.length h
    have h2:=Nm l
    simp at this;omega
  . cases n with
    | zero=>simp[trim]
    | succ n=>rw[List.take_succ_cons,ny _ _ hc]
theorem Ca {h0 h:H} (hf:Fr h0 h) (a:List UInt8) (hb:a.length<=bl):CP pv [st a] h fun w h'=>Fr h0 h'/\Fr h h'/\∃ ns,bp 160 h h' w (uL ns)/\Norm ns/\aN ns=aJ a/\ns.length<=bl:=by
 have qS:bl=1000000000:=rfl
 refine .call (Gz ?_)
 unfold EA aq
 refine ar (cS a h) ?_
 rw[yh]
 have Zg:=Nm a
 have htt:=TG a
 have I:=JS a
 generalize trim a=a' at *
 have hb':a'.length<=bl:=om
 rw[<-I]
 clear I Zg hb a
 refine aL.ind (fun s h'=>Fr h h'/\∃ b w ns,s=[st b,w]/\bp 160 h h' w (uL ns)/\iu ns/\aJ a'=aN ns+4294967296 ^ ns.length * aJ b/\b.length+ns.length<=a'.length/\trim b=b/\(b=[]->ns.getLast?≠some 0)) (fun s _=>match aI s 0 with | .string b=>b.data.toList.length | _=>0) ?_ ⟨Fr.refl h,a',.slice none 0 0,[],rfl,.nil,iu.nil,by simp[aN],sm,htt,sm⟩
 rintro s h1 ⟨f1,b,w,ns,rfl,o,hl,hv,hle,J,p⟩
 show sG _ _ (st b) w h1
 unfold sG aq
 rw[bb kH,zI,fu,aa,ae]
 by_cases gz:b.length=0
 . have:b=[]:=List.eq_nil_of_length_eq_zero gz
   subst this
   rw[if_neg sm]
   exact⟨hf.trans f1,f1,ns,o,⟨hl,p rfl⟩,by rw[hv];simp[aJ],om⟩
 . rw[if_pos so,bb kH,Go.X.binOp_sub,aa,wrap64 om om]
   have e1:max ((0:Nat):Int) ((b.length:Int)-4)=((b.length-4:Nat):Int):=om
   rw[wk,e1,dJ kH h1 b (some (vI (b.length-4))) none (fw _ _) (bm .i64 _ 0 _ om),aa,List.take_length]
   have R:(b.drop (b.length-4)).length<=4:=so
   refine ar (AH _ R h1) ?_
   rw[au,ao,aa,au,ay,ao,aa,dI lQ iB,aa]
   have U:aJ (b.drop (b.length-4))<4294967296:=wi R
   have j:aJ b=aJ (b.take (b.length-4)) * 256 ^ (b.drop (b.length-4)).length+aJ (b.drop (b.length-4)):=by
    rw[<-pZ,List.take_append_drop]
   have Af1:(b.drop (b.length-4)).length=min b.length 4:=so
   have hbz:=Gy J (fun q=>gz (by rw[q];rfl))
   generalize C:b.drop (b.length-4)=ck at *
   rw[wrap_u32,tU U]
   refine TC TM f1 o so rfl rfl ?_
   intro v' PJ g1 g2
   rw[dJ kH PJ b none (some (vI (b.length-4))) (bm .i64 _ _ _ om) (fw _ _),aa,List.drop_zero]
   refine⟨⟨g1,b.take (b.length-4),v',ns++[aJ ck],rfl,by rw[K6];exact g2,hl.snoc U,?_,?_,TF J,?_⟩,?_⟩
   . rw[hv,j,mQ,List.length_append,List.length_singleton,Nat.pow_succ]
     have key:∀ (P B c:Nat),P * (B * 4294967296+c)=P * c+P * 4294967296 * B:=by
      intro P B c
      rw[Nat.mul_add,Nat.mul_assoc P 4294967296 B,Nat.mul_comm B,Nat.add_comm]
     by_cases h4:4<=b.length
     . rw[Af1,Nat.min_eq_right h4,KZ,key]
       exact (Nat.add_assoc _ _ _).symm
     . have e0:b.length-4=0:=om
       rw[e0,List.take_zero,Gu,Nat.zero_mul,Nat.zero_add,Nat.mul_zero,Nat.add_zero]
   . simp;omega
   . intro q
     have:(b.take (b.length-4)).length=0:=by rw[q];rfl
     have e0:b.length-4=0:=by simp at this;omega
     rw[e0] at C
     rw[List.drop_zero] at C
     subst C
     simp[hbz]
   . show (b.take (b.length-4)).length<b.length
     simp;omega
theorem K8 (n c k:Nat) (hc:c<2 ^ k):n <<< k ||| c=n * 2 ^ k+c:=by
 rw[<-Nat.shiftLeft_add_eq_or_of_lt hc,Nat.shiftLeft_eq]
theorem TH {k:Nat} (h:k<32):2 ^ k<=2147483648:=by
 have:2 ^ k<=2 ^ 31:=Nat.pow_le_pow_right om om
 simpa using this
theorem xP {h0 h:H} (hf:Fr h0 h) {v:Value} {ns:List Nat} (r:bk h v (uL ns)) (hl:iu ns) (hb:ns.length<=bl) (k:Nat) (hk:k<32):CP fy [v,vI k] h fun w h'=>Fr h0 h'/\Fr h h'/\∃ os,bp 160 h h' w (uL os)/\iu os/\os.length=ns.length+1/\aN os=aN ns * 2 ^ k:=by
 have qS:bl=1000000000:=rfl
 have hpk:=TH hk
 refine .call (vx ?_)
 unfold qe aq
 rw[r.len TM,List.length_map,oI,fq,aa,wrap_i64 om]
 obtain⟨u,h3,e3,f3,o3⟩:=Be TM h (ns.length+1) om
 rw[e3,aa]
 show blt EE h3 .len #[156] [v] _
 rw[(r.fr f3).len TM,List.length_map]
 have o3':bp 160 h h3 u (uL (List.replicate (ns.length+1) 0)):=by
  have:uL (List.replicate (ns.length+1) 0)=List.replicate (ns.length+1) (.int .u32 0):=by simp[uL]
  rw[this];exact o3
 refine aL.ind (fun s h'=>Fr h h'/\∃ (i c:Nat) (os:List Nat),s=[v,vI k,u,dD c,v,vI ns.length,vI i]/\i<=ns.length/\c<2 ^ k/\bp 160 h h' u (uL os)/\iu os/\os.length=ns.length+1/\aN os+4294967296 ^ i * c=aN (ns.take i) * 2 ^ k/\∀ j,i<=j->os.getD j 0=0)
  (fun s _=>match aI s 6 with | .int _ i=>ns.length-i.toNat | _=>0) ?_ ⟨f3,0,0,_,rfl,Nat.zero_le _,Nat.pos_of_ne_zero sm,o3',fun n hn=>by rw[List.eq_of_mem_replicate hn];omega,sm,?_,fun j _=>?_⟩
 rotate_left
 . rw[pu (fun j=>by rw[List.getD_eq_getElem?_getD,List.getElem?_replicate];split <;> rfl),List.take_zero,sF,Nat.zero_mul,Nat.mul_zero]
 . rw[List.getD_eq_getElem?_getD,List.getElem?_replicate];split <;> rfl
 rintro s h4 ⟨f4,i,c,os,rfl,hi,hc,ou,lo,hlen,hv,hz⟩
 show iD _ _ v (vI k) u (dD c) v (vI ns.length) (vI i) h4
 unfold iD aq
 rw[bI,aa,ae]
 have C:c<4294967296:=om
 by_cases p:i<ns.length
 . have vt:i<(uL ns).length:=sp p
   rw[if_pos (by simp[p]),(r.fr f4).rd vt,List.getElem_map,dI iB lQ,aa]
   have hx:=hl _ (List.getElem_mem p)
   have tk:=fO ns i
   rw[<-nC p] at tk
   generalize ns[i]=x at *
   have hxk:x * 2 ^ k<=4294967295 * 2147483648:=Nat.mul_le_mul om hpk
   show af (X.binOp EE .shl 132 (.int .u64 (IntKind.u64.wrap ((x:Nat):Int))) (vI k)) _
   rw[bB,Nat.mod_eq_of_lt om,Gs,aa,show min k IntKind.u64.bits=k from Nat.min_eq_left (by show k<=64;omega),bB,Nat.shiftLeft_eq,Nat.mod_eq_of_lt om,M9,aa]
   rw[show x * 2 ^ k=x <<< k from (Nat.shiftLeft_eq _ _).symm,K8 _ _ _ hc,bB,Nat.mod_eq_of_lt om,dI lQ iB,aa,wrap_u32]
   have o:i<os.length:=om
   refine ou.set so rfl rfl ?_
   intro b h5 J R q3 _ q5
   rw[show (.int .u64 32:Value)=.int .u64 ((32:Nat):Int) from rfl,qR,aa,oI,fq,aa,wrap_i64 om]
   have e2:(x * 2 ^ k+c) >>> min 32 IntKind.u64.bits=(x * 2 ^ k+c) / 4294967296:=by rw[show min 32 IntKind.u64.bits=32 from rfl,Nat.shiftRight_eq_div_pow]
   rw[e2]
   refine⟨⟨eV.fr f4 R J,i+1,(x * 2 ^ k+c) / 4294967296,os.set i ((x * 2 ^ k+c) % 4294967296),rfl,om,?_,by rw[sE];exact q5,iu.set lo _ (Nat.mod_lt _ om),sp hlen,?_,?_⟩,?_⟩
   . rw[Nat.div_lt_iff_lt_mul om]
     have:(x+1) * 2 ^ k<=4294967296 * 2 ^ k:=Nat.mul_le_mul_right _ om
     rw[Nat.add_mul,Nat.one_mul] at this
     rw[Nat.mul_comm (2 ^ k)];omega
   . have U:=nz o ((x * 2 ^ k+c) % 4294967296)
     rw[nC o,hz i nlr,Nat.mul_zero,Nat.add_zero] at U
     have h5:4294967296 ^ i * ((x * 2 ^ k+c) % 4294967296)+4294967296 ^ (i+1) * ((x * 2 ^ k+c) / 4294967296)=4294967296 ^ i * (x * 2 ^ k+c):=by
      rw[Nat.pow_succ,Nat.mul_assoc,<-Nat.mul_add,Nat.mod_add_div]
     rw[tk,Nat.add_mul,Nat.mul_assoc]
     rw[Nat.mul_add] at h5
     generalize 4294967296 ^ i * (x * 2 ^ k)=X1 at *
     generalize 4294967296 ^ i * c=C1 at *
     generalize 4294967296 ^ i * ((x * 2 ^ k+c) % 4294967296)=D1 at *
     generalize 4294967296 ^ (i+1) * ((x * 2 ^ k+c) / 4294967296)=G1 at *
     generalize aN (List.take i ns) * 2 ^ k=A1 at *
     omega
   . intro j hj
     rw[p_ _ _ _ _ o,if_neg om]
     exact hz j om
   . show ns.length-((i+1:Nat):Int).toNat<ns.length-(i:Int).toNat
     omega
 . have o:ns.length<os.length:=om
   have I:i=ns.length:=om
   rw[if_neg (by simp[p]),(r.fr f4).len TM,List.length_map,dI lQ iB,aa,wrap_u32,tU C]
   refine ou.set so rfl rfl ?_
   intro b h5 J R q3 _ q5
   refine⟨hf.trans (eV.fr f4 R J),eV.fr f4 R J,os.set ns.length c,by rw[sE];exact q5,iu.set lo _ C,sp hlen,?_⟩
   have U:=nz o c
   rw[nC o,hz _ om,Nat.mul_zero,Nat.add_zero] at U
   rw[U,<-I,hv,I,List.take_of_length_le nlr]
def oK (k:Nat):List Nat->List Nat
 | []=>[]
 | d :: j=>(d+4294967296 * j.headD 0) / 2 ^ k % 4294967296 :: oK k j
theorem zR (k:Nat) (l:List Nat):(oK k l).length=l.length:=by
 induction l with
 | nil=>rfl
 | cons d o j=>simp[oK,j]
theorem TJ (k:Nat) (l:List Nat):iu (oK k l):=by
 induction l with
 | nil=>exact iu.nil
 | cons d o j=>exact iu.cons (Nat.mod_lt _ om) j
theorem TK (k:Nat):∀ (l:List Nat) (i:Nat) (hi:i<l.length),(oK k l)[i]'(by rw[zR];exact hi)=(l[i]+4294967296 * l.getD (i+1) 0) / 2 ^ k % 4294967296:=by
 intro l
 induction l with
 | nil=>intro i hi;cases hi
 | cons d j o =>
  intro i hi
  cases i with
  | zero=>cases j <;> simp[oK]
  | succ i =>
   have:=o i (sp hi)
   simpa [oK] using this
theorem TO {s t d hd:Nat} (hs:0<s) (j:s * t=4294967296) (o:d<4294967296):s * ((d+4294967296 * hd) / s % 4294967296)+d % s=d+4294967296 * (hd % s):=by
 have R:0<t:=by
  rcases Nat.eq_zero_or_pos t with q | q
  . subst q;simp at j
  . exact q
 have U:d=s * (d / s)+d % s:=(Nat.div_add_mod d s).symm
 have h2:hd=s * (hd / s)+hd % s:=(Nat.div_add_mod hd s).symm
 have hr:d % s<s:=Nat.mod_lt _ hs
 have p:hd % s<s:=Nat.mod_lt _ hs
 have C:(d+4294967296 * hd) / s=d / s+t * hd:=by
  rw[<-j,Nat.mul_assoc,Nat.add_mul_div_left _ _ hs]
 have ha:d / s<t:=by rw[Nat.div_lt_iff_lt_mul hs,Nat.mul_comm,j];exact o
 have I:(d / s+t * hd) % 4294967296=d / s+t * (hd % s):=by
  have J:d / s+t * hd=d / s+t * (hd % s)+4294967296 * (hd / s):=by
   conv=>lhs;rw[h2]
   rw[Nat.mul_add,<-Nat.mul_assoc,Nat.mul_comm t s,j]
   omega
  rw[J,Nat.add_mul_mod_self_left]
  refine Nat.mod_eq_of_lt ?_
  have:t * (hd % s)+t<=t * s:=by rw[<-Nat.mul_succ];exact Nat.mul_le_mul_left _ p
  rw[Nat.mul_comm t s,j] at this
  omega
 rw[C,I,Nat.mul_add,<-Nat.mul_assoc,j]
 omega
theorem P2 {k:Nat} (hk:k<32):∀ (l:List Nat),iu l->aN l=2 ^ k * aN (oK k l)+l.headD 0 % 2 ^ k:=by
 intro l
 induction l with
 | nil=>intro _;simp[oK,aN]
 | cons d j p =>
  intro hl
  have hd:=hl d (.head _)
  have:=p fun n hn=>hl n (.tail _ hn)
  have o:2 ^ k * 2 ^ (32-k)=4294967296:=by
   rw[<-Nat.pow_add,show k+(32-k)=32 by omega]
  have C:=TO (s:=2 ^ k) (t:=2 ^ (32-k)) (d:=d) (hd:=j.headD 0) (Nat.pos_of_ne_zero sm) o hd
  show d+4294967296 * aN j=2 ^ k * ((d+4294967296 * j.headD 0) / 2 ^ k % 4294967296+4294967296 * aN (oK k j))+d % 2 ^ k
  rw[this,Nat.mul_add,Nat.mul_add]
  generalize (d+4294967296 * j.headD 0) / 2 ^ k % 4294967296=x at *
  generalize aN (oK k j)=y at *
  have e:2 ^ k * (4294967296 * y)=4294967296 * (2 ^ k * y):=by rw[<-Nat.mul_assoc,Nat.mul_comm (2 ^ k),Nat.mul_assoc]
  rw[e]
  generalize 2 ^ k * x=X at *
  generalize 2 ^ k * y=Y at *
  generalize j.headD 0 % 2 ^ k=z at *
  generalize d % 2 ^ k=w at *
  omega
theorem TP {k:Nat} (hk:k<32) {l:List Nat} (hl:iu l):aN (oK k l)=aN l / 2 ^ k:=by
 have:=P2 hk l hl
 have j:0<2 ^ k:=Nat.pos_of_ne_zero sm
 rw[this,Nat.mul_add_div j,Nat.div_eq_of_lt (Nat.mod_lt _ j),Nat.add_zero]
theorem Ab8 (a b:Nat) (ha:a<4294967296):a ||| b <<< 32=a+4294967296 * b:=by
 rw[Nat.or_comm,K8 _ _ 32 (sp ha)]
 rw[show (2:Nat) ^ 32=4294967296 by decide];omega
theorem K_ {h0 h:H} (hf:Fr h0 h) {v:Value} {ns:List Nat} (r:bk h v (uL ns)) (hl:iu ns) (hb:ns.length<=bl) (k:Nat) (hk:k<32):CP lk [v,vI k] h fun w h'=>Fr h0 h'/\Fr h h'/\bp 160 h h' w (uL (oK k ns)):=by
 have qS:bl=1000000000:=rfl
 refine .call (yw ?_)
 unfold tY aq
 rw[r.len TM,List.length_map]
 obtain⟨u,U,e3,f3,o3⟩:=Be TM h ns.length om
 rw[e3,aa]
 show blt EE U .len #[156] [v] _
 rw[(r.fr f3).len TM,List.length_map]
 have I:bp 160 h U u (uL (List.replicate ns.length 0)):=by
  have:uL (List.replicate ns.length 0)=List.replicate ns.length (.int .u32 0):=by simp[uL]
  rw[this];exact o3
 refine aL.ind (fun s h'=>Fr h h'/\∃ (i:Nat) (os:List Nat),s=[v,vI k,u,vI ns.length,vI i]/\i<=ns.length/\bp 160 h h' u (uL os)/\os.length=ns.length/\∀ j,j<i->os[j]?=(oK k ns)[j]?)
  (fun s _=>match aI s 4 with | .int _ i=>ns.length-i.toNat | _=>0) ?_ ⟨f3,0,_,rfl,Nat.zero_le _,I,sm,fun j J=>by omega⟩
 rintro s C ⟨f4,i,os,rfl,hi,ou,hlen,J⟩
 show kd _ _ v (vI k) u (vI ns.length) (vI i) C
 unfold kd aq
 rw[bI,aa,ae]
 by_cases o:i<ns.length
 . have vt:i<(uL ns).length:=sp o
   rw[if_pos (by simp[o]),(r.fr f4).PV o,dI iB lQ,aa]
   have hx:=hl _ (List.getElem_mem o)
   have R:=TK k ns i o
   show af _ _
   rw[oI,fq,aa,wrap_i64 om]
   show blt EE C .len #[156] [v] _
   rw[(r.fr f4).BZ TM,bI,aa,ae]
   have key:∀ y,y=ns.getD (i+1) 0->ef (fun w h'=>Fr h0 h'/\Fr h h'/\bp 160 h h' w (uL (oK k ns))) (fun s' h'=>(Fr h h'/\∃ (i:Nat) (os:List Nat),s'=[v,vI k,u,vI ns.length,vI i]/\i<=ns.length/\bp 160 h h' u (uL os)/\os.length=ns.length/\∀ j,j<i->os[j]?=(oK k ns)[j]?)/\(match aI s' 4 with | .int _ i=>ns.length-i.toNat | _=>0)<(match aI [v,vI k,u,vI ns.length,vI i] 4 with | .int _ i=>ns.length-i.toNat | _=>0)) v (vI k) u (vI i) (dD (ns[i]+4294967296 * y)) (vI ns.length) (vI i) C:=by
    intro y hy
    unfold ef aq
    rw[qR,aa,show min k IntKind.u64.bits=k from Nat.min_eq_left (by show k<=64;omega),dI lQ iB,aa,wrap_u32,Nat.shiftRight_eq_div_pow]
    refine ou.set so rfl rfl ?_
    intro b h5 q1 q2 q3 _ q5
    rw[oI,fq,aa,wrap_i64 om]
    refine⟨⟨eV.fr f4 q2 q1,i+1,os.set i ((ns[i]+4294967296 * y) / 2 ^ k % 4294967296),rfl,om,by rw[sE];exact q5,sp hlen,?_⟩,?_⟩
    . intro j hj2
      rw[List.getElem?_set]
      by_cases q:i=j
      . subst q
        rw[if_pos rfl,if_pos om,List.getElem?_eq_getElem (by rw[zR];exact o),R,hy]
      . rw[if_neg q];exact J j om
    . show ns.length-((i+1:Nat):Int).toNat<ns.length-(i:Int).toNat
      omega
   by_cases p:i+1<ns.length
   . have ZB:i+1<(uL ns).length:=sp p
     rw[if_pos (by simp[p]),aa,(r.fr f4).PV p,dI iB lQ,aa]
     have hy:=hl _ (List.getElem_mem p)
     show af (X.binOp EE .shl 132 (.int .u64 (IntKind.u64.wrap ((ns[i+1]:Nat):Int))) (.int .u64 ((32:Nat):Int))) _
     rw[bB,Nat.mod_eq_of_lt (show ns[i+1]<18446744073709551616 by omega),Gs,aa,show min 32 IntKind.u64.bits=32 from rfl]
     show af (X.binOp EE .or 132 (.int .u64 (IntKind.u64.wrap ((ns[i]:Nat):Int))) _) _
     have e0:ns[i+1] <<< 32 % 18446744073709551616=ns[i+1] <<< 32:=by rw[Nat.shiftLeft_eq];omega
     rw[bB ns[i],bB (ns[i+1] <<< 32),e0,Nat.mod_eq_of_lt (show ns[i]<18446744073709551616 by omega),M9,aa,Ab8 _ _ hx,bB,Nat.mod_eq_of_lt om]
     exact key _ (nC p)
   . rw[if_neg (by simp[p])]
     show ef _ _ v (vI k) u (vI i) (.int .u64 (IntKind.u64.wrap ((ns[i]:Nat):Int))) (vI ns.length) (vI i) C
     rw[bB,Nat.mod_eq_of_lt (show ns[i]<18446744073709551616 by omega)]
     have:=key 0 (by rw[List.getD_eq_getElem?_getD,List.getElem?_eq_none om];rfl)
     simpa using this
 . rw[if_neg (by simp[o])]
   have:os=oK k ns:=by
    apply List.ext_getElem?
    intro j
    by_cases q:j<i
    . exact J j q
    . rw[List.getElem?_eq_none om,List.getElem?_eq_none (by rw[zR];omega)]
   subst this
   exact⟨hf.trans f4,f4,ou⟩
theorem Lb {h0 h:H} (hf:Fr h0 h) {v w:Value} {J C:List Nat} (o:bp 160 h0 h v (uL J)) (ll:iu J) (r:bk h w (uL C)) (lm:iu C) (hw:∀ b o n c b2 o2 n2 c2,v=.slice (some ⟨b,o,none⟩) n c->w=.slice (some ⟨b2,o2,none⟩) n2 c2->b2≠b) (q at':Nat) (hq:q<4294967296) (TD:at'+C.length<J.length) (hb:J.length<=bl) :
 CP lu [v,w,dD q,vI at'] h fun x h'=>∃ R b2 B,x=.bool (decide (b2=0))/\b2<=1/\Fr h0 h'/\h0.next<=B/\eV B h h'/\(∀ b o n c,v=.slice (some ⟨b,o,none⟩) n c->b=B)/\bp 160 h0 h' v (uL R)/\iu R/\R.length=J.length/\aN R+4294967296 ^ at' * (q * aN C)=aN J+4294967296 ^ (at'+C.length+1) * b2/\∀ j,at'+C.length<j->R.getD j 0=J.getD j 0:=by
 have qS:bl=1000000000:=rfl
 refine .call (yx ?_)
 unfold tZ aq
 rw[r.BZ TM]
 -- DB row of v
 have im:J≠[]:=by intro e;subst e;simp at TD
 obtain⟨B,Nn,hBv,hB⟩:∃ B,h0.next<=B/\(∃ o n c,v=.slice (some ⟨B,o,none⟩) n c)/\(∀ b o n c,v=.slice (some ⟨b,o,none⟩) n c->b=B):=by
  generalize hL:uL J=L at o
  cases o with
  | nil=>exfalso;exact im (by simpa [uL] using hL)
  | «at» b n L gz ZC hr hn=>exact⟨b,gz,⟨_,_,_,rfl⟩,fun b' o' n' c' q=>by cases q;rfl⟩
 have Ab9:J≠[]->bt w B:=by
  intro im b2 o2 n2 c2 qw
  generalize hL:uL J=L at o
  cases o with
  | nil=>exfalso;exact im (by simpa [uL] using hL)
  | «at» b n L gz ZC hr hn =>
   have:=hB _ _ _ _ rfl
   subst this
   exact hw _ _ _ _ _ _ _ _ rfl qw
 have V4:=Ab9 im
 refine aL.ind (fun s h'=>eV B h h'/\∃ (i c b:Nat) (os:List Nat),s=[v,w,dD q,vI at',dD c,dD b,vI C.length,vI i]/\i<=C.length/\c<4294967296/\b<=1/\bp 160 h0 h' v (uL os)/\iu os/\os.length=J.length/\aN os+4294967296 ^ at' * (q * aN (C.take i))=aN J+4294967296 ^ (at'+i) * (c+b)/\(∀ j,at'+i<=j->os.getD j 0=J.getD j 0))
  (fun s _=>match aI s 7 with | .int _ i=>C.length-i.toNat | _=>0) ?_ ⟨eV.refl _ _,0,0,0,J,rfl,Nat.zero_le _,om,Nat.zero_le _,o,ll,rfl,by rw[List.take_zero,sF];simp,fun j _=>rfl⟩
 clear o ll
 rintro s h1 ⟨fx,i,c,b,os,rfl,hi,hc,ZC,o,lo,hlen,hv,hz⟩
 show ke _ _ v w (dD q) (vI at') (dD c) (dD b) (vI C.length) (vI i) h1
 unfold ke aq
 rw[bI,aa,ae]
 have r1:=r.mR fx V4
 by_cases oz:i<C.length
 . have hm:=lm _ (List.getElem_mem oz)
   rw[if_pos (by simp[oz]),r1.PV oz,Ey hm,aa]
   have tk:=fO C i
   rw[<-nC oz] at tk
   generalize C[i]=m at *
   have hqm:q * m<=4294967295 * 4294967295:=Nat.mul_le_mul om om
   have I:at'+i<os.length:=om
   have hx:=lo _ (List.getElem_mem I)
   rw[RD _ _ _ _ om,aa,JO _ _ _ _ om,aa,vw,aa,dm _ _ _ _ om,aa,o.read.PV I,Ey hx,aa]
   have U:=nz I
   have hgs:=p_ os (at'+i)
   generalize os[at'+i]=x at *
   generalize hp:q * m+c=p at *
   rw[show (.int .u64 4294967295:Value)=.int .u64 ((4294967295:Nat):Int) from rfl,Lc,aa]
   have e3:p &&& 4294967295=p % 4294967296:=Nat.and_two_pow_sub_one_eq_mod p 32
   rw[e3,bB,Nat.mod_eq_of_lt (show p % 4294967296<18446744073709551616 by omega)]
   -- DB Aca
   rw[Zy _ _ _ _ om om,aa,Zy _ _ _ _ om om,aa,aa,Gq,aa]
   obtain⟨t,ht⟩:∃ t,t=((x+(18446744073709551616-p % 4294967296)) % 18446744073709551616+(18446744073709551616-b)) % 18446744073709551616:=⟨_,rfl⟩
   rw[<-ht]
   have hb':t / 9223372036854775808<=1:=om
   have heq:t % 4294967296+p % 4294967296+b=x+4294967296 * (t / 9223372036854775808):=om
   clear ht
   generalize hsh:t / 9223372036854775808=b' at *
   refine o.set (sp I) rfl rfl ?_
   intro b0 h2 q1 q2 q3 q4 q5
   obtain⟨oo,nn,cc,hvv⟩:=hBv
   have hbB:B=b0:=q4 _ _ _ _ hvv
   subst hbB
   rw[M4,hsh,aa,oI,dm _ _ _ _ om,aa]
   refine⟨⟨fx.trans q2,i+1,p / 4294967296,b',os.set (at'+i) (t % 4294967296),rfl,om,om,hb',by rw[sE];exact q5,iu.set lo _ (Nat.mod_lt _ om),sp hlen,?_,?_⟩,?_⟩
   . have h6:=U (t % 4294967296)
     have k1:4294967296 ^ at' * (q * aN (C.take (i+1)))=4294967296 ^ at' * (q * aN (C.take i))+4294967296 ^ (at'+i) * (q * m):=by
      rw[tk,Nat.mul_add,Nat.mul_add,Nat.pow_add,Nat.mul_assoc (4294967296 ^ at')]
      congr 2
      rw[<-Nat.mul_assoc,Nat.mul_comm q,Nat.mul_assoc]
     have k2:4294967296 ^ (at'+(i+1)) * (p / 4294967296+b')=4294967296 ^ (at'+i) * (4294967296 * (p / 4294967296))+4294967296 ^ (at'+i) * (4294967296 * b'):=by
      rw[<-Nat.add_assoc,Nat.pow_succ,Nat.mul_assoc,Nat.mul_add,Nat.mul_add]
     have k3:=congrArg (4294967296 ^ (at'+i) * ·) heq
     have k4:=congrArg (4294967296 ^ (at'+i) * ·) hp
     have k5:=congrArg (4294967296 ^ (at'+i) * ·) (Nat.div_add_mod p 4294967296)
     simp only[Nat.mul_add] at k3 k4 k5 hv
     rw[k1,k2]
     generalize 4294967296 ^ (at'+i) * (4294967296 * (p / 4294967296))=z1 at *
     generalize 4294967296 ^ (at'+i) * (4294967296 * b')=z2 at *
     generalize 4294967296 ^ (at'+i) * (q * m)=z3 at *
     generalize 4294967296 ^ (at'+i) * (t % 4294967296)=z4 at *
     generalize 4294967296 ^ (at'+i) * (p % 4294967296)=z5 at *
     generalize 4294967296 ^ (at'+i) * p=z6 at *
     generalize 4294967296 ^ (at'+i) * x=z7 at *
     generalize 4294967296 ^ (at'+i) * c=z8 at *
     generalize 4294967296 ^ (at'+i) * b=z9 at *
     generalize 4294967296 ^ at' * (q * aN (C.take i))=z10 at *
     omega
   . intro j hj
     rw[hgs _ _ I,if_neg om]
     exact hz j om
   . show C.length-((i+1:Nat):Int).toNat<C.length-(i:Int).toNat
     omega
 . have hin:i=C.length:=om
   subst hin
   have I:at'+C.length<os.length:=om
   have hx:=lo _ (List.getElem_mem I)
   rw[if_neg sm,r1.BZ TM,dm _ _ _ _ om,aa,o.read.PV I,Ey hx,aa]
   have U:=nz I
   have hgs:=p_ os (at'+C.length)
   generalize os[at'+C.length]=x at *
   rw[Zy _ _ _ _ om om,aa,Zy _ _ _ _ om om,aa]
   obtain⟨t,ht⟩:∃ t,t=((x+(18446744073709551616-c)) % 18446744073709551616+(18446744073709551616-b)) % 18446744073709551616:=⟨_,rfl⟩
   rw[<-ht]
   have hb':t / 9223372036854775808<=1:=om
   have heq:t % 4294967296+c+b=x+4294967296 * (t / 9223372036854775808):=om
   clear ht
   show blt EE h1 .len #[156] [w] _
   rw[r1.BZ TM,dm _ _ _ _ om,aa,Gq,aa]
   refine o.set (sp I) rfl rfl ?_
   intro b0 h2 q1 q2 q3 q4 q5
   obtain⟨oo,nn,cc,hvv⟩:=hBv
   have hbB:B=b0:=q4 _ _ _ _ hvv
   subst hbB
   rw[M4,aa,show (.int .u64 0:Value)=dD 0 from rfl,cn,aa]
   refine⟨os.set (at'+C.length) (t % 4294967296),t / 9223372036854775808,B,rfl,hb',eV.fr hf (fx.trans q2) Nn,Nn,fx.trans q2,hB,by rw[sE];exact q5,iu.set lo _ (Nat.mod_lt _ om),sp hlen,?_,?_⟩
   . have h6:=U (t % 4294967296)
     generalize t / 9223372036854775808=b' at *
     have k2:4294967296 ^ (at'+C.length+1) * b'=4294967296 ^ (at'+C.length) * (4294967296 * b'):=by
      rw[Nat.pow_succ,Nat.mul_assoc]
     have k3:=congrArg (4294967296 ^ (at'+C.length) * ·) heq
     simp only[Nat.mul_add] at k3 hv
     rw[List.take_length] at hv
     rw[k2]
     generalize 4294967296 ^ (at'+C.length) * (4294967296 * b')=z2 at *
     generalize 4294967296 ^ (at'+C.length) * (t % 4294967296)=z4 at *
     generalize 4294967296 ^ (at'+C.length) * x=z7 at *
     generalize 4294967296 ^ (at'+C.length) * c=z8 at *
     generalize 4294967296 ^ (at'+C.length) * b=z9 at *
     generalize 4294967296 ^ at' * (q * aN C)=z10 at *
     omega
   . intro j hj
     rw[hgs _ _ I,if_neg om]
     exact hz j om
theorem Ld {h0 h:H} (hf:Fr h0 h) {v w:Value} {I p:List Nat} (o:bp 160 h0 h v (uL I)) (ll:iu I) (r:bk h w (uL p)) (lm:iu p) (hw:∀ b o n c b2 o2 n2 c2,v=.slice (some ⟨b,o,none⟩) n c->w=.slice (some ⟨b2,o2,none⟩) n2 c2->b2≠b) (at':Nat) (TD:at'+p.length<I.length) (hb:I.length<=bl) :
 CP ly [v,w,vI at'] h fun x h'=>∃ J b2 B,b2<=1/\Fr h0 h'/\h0.next<=B/\eV B h h'/\(∀ b o n c,v=.slice (some ⟨b,o,none⟩) n c->b=B)/\bp 160 h0 h' v (uL J)/\iu J/\J.length=I.length/\aN J+4294967296 ^ (at'+p.length+1) * b2=aN I+4294967296 ^ at' * aN p/\∀ j,at'+p.length<j->J.getD j 0=I.getD j 0:=by
 have qS:bl=1000000000:=rfl
 refine .call (yy ?_)
 unfold t_ aq
 rw[r.BZ TM]
 have im:I≠[]:=by intro e;subst e;simp at TD
 obtain⟨B,Nn,hBv,hB⟩:∃ B,h0.next<=B/\(∃ o n c,v=.slice (some ⟨B,o,none⟩) n c)/\(∀ b o n c,v=.slice (some ⟨b,o,none⟩) n c->b=B):=by
  generalize hL:uL I=L at o
  cases o with
  | nil=>exfalso;exact im (by simpa [uL] using hL)
  | «at» b n L gz ZC hr hn=>exact⟨b,gz,⟨_,_,_,rfl⟩,fun b' o' n' c' q=>by cases q;rfl⟩
 have V4:bt w B:=by
  intro b2 o2 n2 c2 qw
  obtain⟨oo,nn,cc,R⟩:=hBv
  exact hw _ _ _ _ _ _ _ _ R qw
 refine aL.ind (fun s h'=>eV B h h'/\∃ (i c:Nat) (os:List Nat),s=[v,w,vI at',dD c,vI p.length,vI i]/\i<=p.length/\c<=1/\bp 160 h0 h' v (uL os)/\iu os/\os.length=I.length/\aN os+4294967296 ^ (at'+i) * c=aN I+4294967296 ^ at' * aN (p.take i)/\(∀ j,at'+i<=j->os.getD j 0=I.getD j 0))
  (fun s _=>match aI s 5 with | .int _ i=>p.length-i.toNat | _=>0) ?_ ⟨eV.refl _ _,0,0,I,rfl,Nat.zero_le _,om,o,ll,rfl,by rw[List.take_zero,sF,Nat.mul_zero,Nat.mul_zero],fun j _=>rfl⟩
 clear o ll
 rintro s h1 ⟨fx,i,c,os,rfl,hi,hc,o,lo,hlen,hv,hz⟩
 show kf _ _ v w (vI at') (dD c) (vI p.length) (vI i) h1
 unfold kf aq
 rw[bI,aa,ae]
 have r1:=r.mR fx V4
 by_cases oz:i<p.length
 . have hm:=lm _ (List.getElem_mem oz)
   have C:at'+i<os.length:=om
   have hx:=lo _ (List.getElem_mem C)
   have tk:=fO p i
   rw[<-nC oz] at tk
   rw[if_pos (by simp[oz]),dm _ _ _ _ om,aa,o.read.PV C,Ey hx,Option.bind_some,aa,r1.PV oz,Ey hm,Option.bind_some,aa]
   have U:=nz C
   have hgs:=p_ os (at'+i)
   generalize os[at'+i]=x at *
   generalize p[i]=m at *
   rw[JO _ _ _ _ om,aa,JO _ _ _ _ om,aa,aa,Gq,aa]
   refine o.set (sp C) rfl rfl ?_
   intro b0 h2 q1 q2 q3 q4 q5
   obtain⟨oo,nn,cc,R⟩:=hBv
   have hbB:B=b0:=q4 _ _ _ _ R
   subst hbB
   rw[vw,aa,oI,dm _ _ _ _ om,aa]
   refine⟨⟨fx.trans q2,i+1,(x+m+c) / 4294967296,os.set (at'+i) ((x+m+c) % 4294967296),rfl,om,om,by rw[sE];exact q5,iu.set lo _ (Nat.mod_lt _ om),sp hlen,?_,?_⟩,?_⟩
   . have h6:=U ((x+m+c) % 4294967296)
     have k1:4294967296 ^ at' * aN (p.take (i+1))=4294967296 ^ at' * aN (p.take i)+4294967296 ^ (at'+i) * m:=by
      rw[tk,Nat.mul_add,Nat.pow_add,Nat.mul_assoc]
     have k2:4294967296 ^ (at'+(i+1)) * ((x+m+c) / 4294967296)=4294967296 ^ (at'+i) * (4294967296 * ((x+m+c) / 4294967296)):=by
      rw[<-Nat.add_assoc,Nat.pow_succ,Nat.mul_assoc]
     have k5:=congrArg (4294967296 ^ (at'+i) * ·) (Nat.div_add_mod (x+m+c) 4294967296)
     simp only[Nat.mul_add] at k5
     rw[k1,k2]
     generalize 4294967296 ^ (at'+i) * (4294967296 * ((x+m+c) / 4294967296))=z1 at *
     generalize 4294967296 ^ (at'+i) * ((x+m+c) % 4294967296)=z4 at *
     generalize 4294967296 ^ (at'+i) * x=z7 at *
     generalize 4294967296 ^ (at'+i) * c=z8 at *
     generalize 4294967296 ^ (at'+i) * m=z9 at *
     generalize 4294967296 ^ at' * aN (p.take i)=z10 at *
     omega
   . intro j hj
     rw[hgs _ _ C,if_neg om]
     exact hz j om
   . show p.length-((i+1:Nat):Int).toNat<p.length-(i:Int).toNat
     omega
 . have hin:i=p.length:=om
   subst hin
   have C:at'+p.length<os.length:=om
   have hx:=lo _ (List.getElem_mem C)
   rw[if_neg sm,r1.BZ TM,dm _ _ _ _ om,aa,o.read.PV C,Gq,aa,tU (show c<4294967296 by omega)]
   have U:=nz C
   have hgs:=p_ os (at'+p.length)
   generalize os[at'+p.length]=x at *
   rw[fq,aa,wrap_u32]
   refine o.set (sp C) rfl rfl ?_
   intro b0 h2 q1 q2 q3 q4 q5
   obtain⟨oo,nn,cc,R⟩:=hBv
   have hbB:B=b0:=q4 _ _ _ _ R
   subst hbB
   refine⟨os.set (at'+p.length) ((x+c) % 4294967296),(x+c) / 4294967296,B,om,eV.fr hf (fx.trans q2) Nn,Nn,fx.trans q2,hB,by rw[sE];exact q5,iu.set lo _ (Nat.mod_lt _ om),sp hlen,?_,?_⟩
   . have h6:=U ((x+c) % 4294967296)
     have k2:4294967296 ^ (at'+p.length+1) * ((x+c) / 4294967296)=4294967296 ^ (at'+p.length) * (4294967296 * ((x+c) / 4294967296)):=by
      rw[Nat.pow_succ,Nat.mul_assoc]
     have k5:=congrArg (4294967296 ^ (at'+p.length) * ·) (Nat.div_add_mod (x+c) 4294967296)
     simp only[Nat.mul_add] at k5
     rw[List.take_length] at hv
     rw[k2]
     generalize 4294967296 ^ (at'+p.length) * (4294967296 * ((x+c) / 4294967296))=z2 at *
     generalize 4294967296 ^ (at'+p.length) * ((x+c) % 4294967296)=z4 at *
     generalize 4294967296 ^ (at'+p.length) * x=z7 at *
     generalize 4294967296 ^ (at'+p.length) * c=z8 at *
     generalize 4294967296 ^ at' * aN p=z10 at *
     omega
   . intro j hj
     rw[hgs _ _ C,if_neg om]
     exact hz j om
theorem V5 (E:Env) (t:TypeId) (a:Nat) (ha:a<4294967296):X.binOp E .shl t (dD a) (.int .u64 32)=some (dD (4294967296 * a)):=by
 rw[show (.int .u64 32:Value)=.int .u64 ((32:Nat):Int) from rfl,Gs,show min 32 IntKind.u64.bits=32 from rfl,bB,Nat.shiftLeft_eq,Nat.mul_comm a]
 congr 3;show 4294967296 * a % _=_;omega
theorem Acb (E:Env) (t:TypeId) (a b:Nat) (ha:a<4294967296) (hb:b<4294967296):X.binOp E .or t (dD (4294967296 * a)) (dD b)=some (dD (4294967296 * a+b)):=by
 rw[M9,show 4294967296 * a=a <<< 32 by rw[Nat.shiftLeft_eq,Nat.mul_comm],K8 _ _ 32 (sp hb),bB,Nat.shiftLeft_eq,Nat.mul_comm a]
 congr 3;show (4294967296 * a+b) % _=_;omega
theorem IT (J R j v1 v0:Nat) (h1:R<4294967296) (h0':j<4294967296) (hv1:v1<4294967296) (AhL:2147483648<=v1) (hv0:v0<4294967296) (hu2:J<=v1) (h:H) :
 CP sH [dD J,dD R,dD j,dD v1,dD v0] h fun w h'=>h'=h/\∃ q,w=dD q/\q<4294967296/\q * (4294967296 * v1+v0)<=4294967296 * (4294967296 * J+R)+j/\(4294967296 * (4294967296 * J+R)+j<(q+1) * (4294967296 * v1+v0)\/q=4294967295):=by
 refine .call (Fu ?_)
 unfold Cb aq
 rw[V5 _ _ _ om,aa,Acb _ _ _ _ om h1,aa,GA _ _ _ _ _ om,aa,Le _ _ _ _ _ om,aa,bB]
 have hT:4294967296 * J+R<18446744073709551616:=om
 obtain⟨T,hTd⟩:∃ T,T=4294967296 * J+R:=⟨_,rfl⟩
 rw[<-hTd] at hT ⊢
 have hdm:=Nat.div_add_mod T v1
 have hrm:=Nat.mod_lt T (show v1 > 0 by omega)
 rw[Nat.mod_eq_of_lt (Nat.lt_of_le_of_lt (Nat.div_le_self _ _) hT)]
 have qV:∀ q:Nat,q * (4294967296 * v1+v0)=4294967296 * (q * v1)+q * v0:=by
  intro q;rw[Nat.mul_add,<-Nat.mul_assoc,Nat.mul_comm q,Nat.mul_assoc]
 have q1V:∀ q:Nat,(q+1) * (4294967296 * v1+v0)=4294967296 * (q * v1+v1)+(q * v0+v0):=by
  intro q;rw[qV,Nat.succ_mul q v1,Nat.succ_mul q v0]
 refine aL.ind (fun s h'=>h'=h/\∃ q r,s=[dD j,dD v1,dD v0,dD q,dD r]/\q * v1+r=T/\r<4294967296/\q<=4294967297/\(4294967296<q->r+v1<4294967296)/\(4294967296 * T+j<(q+1) * (4294967296 * v1+v0)\/4294967296<=q+1)) (fun s _=>match aI s 3 with | .int _ i=>i.toNat | _=>0) ?_ ⟨rfl,T / v1,T % v1,rfl,by rw[Nat.mul_comm];exact hdm,om,?_,?_,?_⟩
 . rintro s h' ⟨rfl,q,r,rfl,hq,hr,hqb,hqe,hU⟩
   show qU _ _ (dD j) (dD v1) (dD v0) (dD q) (dD r) h'
   unfold qU aq
   rw[vw,aa,show (.int .u64 0:Value)=dD 0 from rfl,fu,aa,ag]
   -- one step back
   have back:q≠0->(4294967296<=q\/4294967296 * r+j<q * v0)->iE (fun w C=>C=h'/\∃ q,w=dD q/\q<4294967296/\q * (4294967296 * v1+v0)<=4294967296 * T+j/\(4294967296 * T+j<(q+1) * (4294967296 * v1+v0)\/q=4294967295))
    (fun s' C=>(C=h'/\∃ q r,s'=[dD j,dD v1,dD v0,dD q,dD r]/\q * v1+r=T/\r<4294967296/\q<=4294967297/\(4294967296<q->r+v1<4294967296)/\(4294967296 * T+j<(q+1) * (4294967296 * v1+v0)\/4294967296<=q+1))/\(match aI s' 3 with | .int _ i=>i.toNat | _=>0)<(match aI [dD j,dD v1,dD v0,dD q,dD r] 3 with | .int _ i=>i.toNat | _=>0)) (dD j) (dD v1) (dD v0) (dD q) (dD r) (.bool true) h':=by
    intro hq0 hC
    obtain⟨p,rfl⟩:∃ p,q=p+1:=⟨q-1,om⟩
    unfold iE aq
    rw[B7,show (.int .u64 1:Value)=dD 1 from rfl,uK _ _ _ _ _ om,aa,Nat.add_sub_cancel,bB,Nat.mod_eq_of_lt om,JO _ _ _ _ om,aa,vw,aa,show (.int .u64 0:Value)=dD 0 from rfl,fu,aa,ae]
    have e1:(p+1) * v1=p * v1+v1:=Nat.succ_mul _ _
    have e2:(p+1) * v0=p * v0+v0:=Nat.succ_mul _ _
    have U:4294967296 * T+j<(p+1) * (4294967296 * v1+v0)\/4294967296<=p+1:=by
     rcases hC with c | c
     . exact .inr c
     . left;rw[qV];omega
    by_cases hbr:0<(r+v1) / 4294967296
    . rw[if_pos (sp hbr)]
      unfold mi aq
      have GB:4294967296<=r+v1:=om
      have hp:p<4294967296:=by
       by_cases q:4294967296<p+1
       . have:=hqe q;omega
       . omega
      have hpv:p * v0<=4294967295 * 4294967295:=Nat.mul_le_mul om om
      refine⟨rfl,p,rfl,hp,?_,?_⟩
      . rw[qV];omega
      . rcases U with c | c
        . exact .inl c
        . exact .inr om
    . rw[if_neg (sp hbr)]
      refine⟨⟨rfl,p,r+v1,rfl,om,om,om,fun q=>by omega,U⟩,?_⟩
      show ((p:Nat):Int).toNat<((p+1:Nat):Int).toNat
      omega
   by_cases I:0<q / 4294967296
   . rw[if_neg (sp I)]
     exact back (by intro e;subst e;simp at I) (.inl om)
   . have Af2:q<4294967296:=om
     have hqv:q * v0<=4294967295 * 4294967295:=Nat.mul_le_mul om om
     rw[if_pos (sp I),RD _ _ _ _ om,aa,V5 _ _ _ hr,aa,Acb _ _ _ _ hr h0',aa,fu,aa]
     by_cases o:4294967296 * r+j<q * v0
     . rw[decide_eq_true o]
       exact back (by intro e;subst e;simp at o) (.inr o)
     . rw[decide_eq_false o]
       unfold iE aq
       rw[zL]
       unfold mi aq
       refine⟨rfl,q,rfl,Af2,?_,?_⟩
       . rw[qV];omega
       . rcases hU with c | c
         . exact .inl c
         . exact .inr om
 . have:T / v1<4294967298:=by
    rw[Nat.div_lt_iff_lt_mul om];omega
   omega
 . intro e
   have e2:=Nat.mul_le_mul_left v1 e
   rw[Nat.mul_succ,Nat.mul_comm v1 4294967296] at e2
   omega
 . left
   rw[q1V,Nat.mul_comm (T / v1) v1]
   generalize v1 * (T / v1)=a at *
   generalize T / v1 * v0=b at *
   omega
end Go.Proofs.YtikojelnedfmpaaGreatDoor
namespace Go.Proofs.YtikojelnedfmpaaGreatDoor
open Go Go.X
set_option maxRecDepth 100000
def GC:List Nat:=0 :: (List.range 8).flatMap fun k=>List.replicate (2 ^ k) (k+1)
theorem RL:∀ x,x<256->∃ b,GC[x]?=some b/\b<=8/\x<2 ^ b/\(x≠0->1<=b/\2 ^ (b-1)<=x):=by
 have h:((List.range 256).all fun x=>match GC[x]? with | some b=>Nat.ble b 8&&Nat.blt x (2 ^ b)&&(Nat.beq x 0||(Nat.ble 1 b&&Nat.ble (2 ^ (b-1)) x)) | none=>false)=true:=by decide +kernel
 intro x hx
 have:=List.all_eq_true.1 h x (List.mem_range.2 hx)
 cases hb:GC[x]? with
 | none=>rw[hb] at this;cases this
 | some b =>
  rw[hb] at this
  simp only[Bool.and_eq_true,Bool.or_eq_true,Nat.ble_eq,Nat.beq_eq_true_eq,Nat.blt_eq] at this
  exact⟨b,rfl,this.1.1,this.1.2,fun h0=>by rcases this.2 with q | q;exact absurd (sp q) h0;exact q⟩
theorem TU (n:Nat) (hn:n<4294967296) (h:H):CP j3 [xN n] h fun w h'=>h'=h/\∃ L,w=vI L/\L<=32/\n<2 ^ L/\(n≠0->1<=L/\2 ^ (L-1)<=n):=by
 refine .call (Bf ?_)
 have p:∀ (m a:Nat) (Q:Value->H->Prop),m<256->a<=24->(∀ b,b<=8->m<2 ^ b->(m≠0->1<=b/\2 ^ (b-1)<=m)->Q (vI (a+b)) h)->ji Q (xN m) (vI a) h:=by
  intro m a Q hm ha j
  unfold ji aq
  obtain⟨b,I,J,R,U⟩:=RL m hm
  rw[dI iB yj,aa]
  show af (MV (.string (bs GC)) (.int .u8 (IntKind.u8.wrap ((m:Nat):Int)))) _
  rw[wrap_u8,Nat.mod_eq_of_lt hm]
  have o:MV (.string (bs GC)) (.int .u8 ((m:Nat):Int))=some (v8 b):=by
   have:bs GC=⟨⟨GC.map UInt8.ofNat⟩⟩:=rfl
   rw[this,rO,if_pos om,Int.toNat_natCast,List.getElem?_map,I]
   show some (Value.int .u8 ((UInt8.ofNat b).toNat:Int))=_
   rw[ofNat_toNat om]
  rw[o,aa,dI yj Zh,aa]
  show af (X.binOp EE .add 3 (vI a) (.int .i64 (IntKind.i64.wrap ((b:Nat):Int)))) _
  rw[wrap_i64 om,dm _ _ _ _ om,aa]
  exact j b J R U
 have C:∀ (m a:Nat) (Q:Value->H->Prop),m<65536->a<=16->(∀ b,b<=16->m<2 ^ b->(m≠0->1<=b/\2 ^ (b-1)<=m)->Q (vI (a+b)) h)->jj Q (xN m) (vI a) h:=by
  intro m a Q hm ha j
  unfold jj aq
  rw[show (.int .u32 256:Value)=xN 256 from rfl,wg,aa,ae]
  by_cases hc:256<=m
  . rw[if_pos (sp hc),show (.int .u64 8:Value)=.int .u64 ((8:Nat):Int) from rfl,qR,aa,show min 8 IntKind.u32.bits=8 from rfl,show (.int .i64 8:Value)=vI 8 from rfl,dm _ _ _ _ om,aa,Nat.shiftRight_eq_div_pow,show (2:Nat) ^ 8=256 from rfl]
    refine p _ _ _ om om ?_
    intro b b1 b2 b3
    have h0:m / 256≠0:=om
    obtain⟨c1,c2⟩:=b3 h0
    rw[Nat.add_assoc]
    refine j (8+b) om ?_ fun _=>⟨om,?_⟩
    . rw[Nat.pow_add,show (2:Nat) ^ 8=256 from rfl]
      generalize 2 ^ b=P at b2 ⊢
      omega
    . rw[show 8+b-1=8+(b-1) by omega,Nat.pow_add,show (2:Nat) ^ 8=256 from rfl]
      generalize 2 ^ (b-1)=P at c2 ⊢
      omega
  . rw[if_neg (sp hc)]
    refine p _ _ _ om om fun b b1 b2 b3=>j b om b2 b3
 unfold xQ aq
 rw[show (.int .u32 65536:Value)=xN 65536 from rfl,wg,aa,ae]
 by_cases hc:65536<=n
 . rw[if_pos (sp hc),show (.int .u64 16:Value)=.int .u64 ((16:Nat):Int) from rfl,qR,aa,show min 16 IntKind.u32.bits=16 from rfl,Nat.shiftRight_eq_div_pow,show (2:Nat) ^ 16=65536 from rfl,show (.int .i64 16:Value)=vI 16 from rfl]
   refine C _ _ _ om om ?_
   intro b b1 b2 b3
   have h0:n / 65536≠0:=om
   obtain⟨c1,c2⟩:=b3 h0
   refine⟨rfl,16+b,rfl,om,?_,fun _=>⟨om,?_⟩⟩
   . rw[Nat.pow_add,show (2:Nat) ^ 16=65536 from rfl]
     generalize 2 ^ b=P at b2 ⊢
     omega
   . rw[show 16+b-1=16+(b-1) by omega,Nat.pow_add,show (2:Nat) ^ 16=65536 from rfl]
     generalize 2 ^ (b-1)=P at c2 ⊢
     omega
 . rw[if_neg (sp hc),zI]
   refine C _ _ _ om om fun b b1 b2 b3=>⟨rfl,b,by rw[Nat.zero_add],om,b2,b3⟩
theorem DD (n:Nat) (hn:n<4294967296) (h0:n≠0) (h:H):CP fP [xN n] h fun w h'=>h'=h/\∃ k,w=vI k/\k<32/\2147483648<=n * 2 ^ k/\n * 2 ^ k<4294967296:=by
 refine .call (rQ ?_)
 unfold lT aq
 refine (TU n hn h).mono ?_
 rintro w h' ⟨rfl,L,rfl,o,p,C⟩
 obtain⟨J,I⟩:=C h0
 rw[show (.int .i64 32:Value)=vI 32 from rfl,pX _ _ _ _ o om,aa]
 refine⟨rfl,32-L,rfl,om,?_,?_⟩
 . have j:2 ^ (L-1) * 2 ^ (32-L)<=n * 2 ^ (32-L):=Nat.mul_le_mul_right _ I
   rw[<-Nat.pow_add,show L-1+(32-L)=31 by omega] at j
   exact Nat.le_trans dc j
 . have j:(n+1) * 2 ^ (32-L)<=2 ^ L * 2 ^ (32-L):=Nat.mul_le_mul_right _ p
   rw[<-Nat.pow_add,show L+(32-L)=32 by omega,Nat.succ_mul] at j
   have h2:0<2 ^ (32-L):=Nat.pos_of_ne_zero sm
   have R:(2:Nat) ^ 32=4294967296:=dc
   omega
end Go.Proofs.YtikojelnedfmpaaGreatDoor
namespace Go.Proofs.YtikojelnedfmpaaGreatDoor
open Go Go.X
theorem Ad8 {W o U V P low p q:Nat} (hP:0<P) (hW:W=low+P * U) (R:low<P) (hM:o=p+P * V) (I:p<P) (C:W<4294967296 * o) (hV:4294967296<=V) (hq:q<4294967296) (h1:q * V<=U) (h2:U<(q+1) * V\/q=4294967295):W / o<=q/\q<=W / o+1:=by
 have j:0<o:=by
  rcases Nat.eq_zero_or_pos o with e | e
  . subst e;rw[Nat.mul_zero] at C;omega
  . exact e
 constructor
 . rcases h2 with c | c
   . refine Nat.le_of_lt_succ ((Nat.div_lt_iff_lt_mul j).2 ?_)
     have e1:P * (U+1)<=P * ((q+1) * V):=Nat.mul_le_mul_left _ c
     have J:(q+1) * (P * V)<=(q+1) * o:=Nat.mul_le_mul_left _ om
     rw[Nat.mul_succ] at e1
     rw[Nat.mul_left_comm] at J
     show W<(q+1) * o
     omega
   . have:W / o<4294967296:=(Nat.div_lt_iff_lt_mul j).2 C
     omega
 . refine Nat.le_of_not_lt fun hc=>?_
   generalize hQ:W / o=Q at *
   have AhM:W<(Q+1) * o:=by
    rw[<-hQ,Nat.mul_comm];exact Nat.lt_mul_div_succ W j
   have hQB:Q+1<4294967296:=om
   have e1:P * (q * V)<=P * U:=Nat.mul_le_mul_left _ h1
   have J:(Q+1) * o<=(Q+1) * (P * (V+1)):=Nat.mul_le_mul_left _ (by rw[Nat.mul_succ];omega)
   have e3:P * ((Q+2) * V)<=P * (q * V):=Nat.mul_le_mul_left _ (Nat.mul_le_mul_right _ hc)
   rw[Nat.mul_left_comm] at J
   have e4:P * ((Q+2) * V)<P * ((Q+1) * (V+1)):=om
   have e5:=Nat.lt_of_mul_lt_mul_left e4
   have e6:(Q+2) * V=(Q+1) * V+V:=Nat.succ_mul _ _
   have e7:(Q+1) * (V+1)=(Q+1) * V+(Q+1):=Nat.mul_succ _ _
   omega
theorem wy {ns:List Nat} {i:Nat} (hl:iu ns) (hz:∀ j,i<=j->ns.getD j 0=0):aN ns=aN (ns.take i)/\aN ns<4294967296 ^ i:=by
 have o:aN (ns.drop i)=0:=pu (fun j=>by
  have:=hz (i+j) om
  rw[List.getD_eq_getElem?_getD] at this ⊢
  rw[List.getElem?_drop];exact this)
 have h2:=gC (ns.take i) (ns.drop i)
 rw[List.take_append_drop,o,Nat.mul_zero,Nat.add_zero] at h2
 refine⟨h2,?_⟩
 rw[h2]
 have:=pr (lS hl i)
 exact Nat.lt_of_lt_of_le this (Nat.pow_le_pow_right om so)
theorem yz {ns:List Nat} {i:Nat} (h:aN (ns.drop i)=0):∀ j,i<=j->ns.getD j 0=0:=by
 have key:∀ (l:List Nat),aN l=0->∀ j,l.getD j 0=0:=by
  intro l
  induction l with
  | nil=>intro _ j;simp
  | cons d l o =>
   intro h j
   rw[oS] at h
   cases j with
   | zero=>simp;omega
   | succ j=>simpa using o om j
 intro j p
 have:=key _ h (j-i)
 rw[List.getD_eq_getElem?_getD,List.getElem?_drop,show i+(j-i)=j by omega] at this
 rw[List.getD_eq_getElem?_getD];exact this
theorem ZD {R:List Nat} (hl:iu R) {a n:Nat} (hn:2<=n) (ha:a+n<R.length) :
 ∃ low,low<4294967296 ^ (n-2)/\aN (R.drop a)=low+4294967296 ^ (n-2) * (R[a+n-2]'om+4294967296 * (R[a+n-1]'om+4294967296 * (R[a+n]+4294967296 * aN (R.drop (a+n+1))))):=by
 have j:=gC ((R.drop a).take (n-2)) ((R.drop a).drop (n-2))
 rw[List.take_append_drop,List.drop_drop,List.length_take,List.length_drop,Nat.min_eq_left om] at j
 have o:a+(n-2)=a+n-2:=om
 rw[o,jL (show a+n-2<R.length by omega),show a+n-2+1=a+n-1 by omega,jL (show a+n-1<R.length by omega),show a+n-1+1=a+n by omega,jL ha] at j
 refine⟨_,?_,j⟩
 have h2:=pr (ns:=(R.drop a).take (n-2)) (fun x hx=>hl x (List.mem_of_mem_drop (List.mem_of_mem_take hx)))
 rw[List.length_take,List.length_drop,Nat.min_eq_left om] at h2
 exact h2
theorem ZE {M:List Nat} (hl:iu M) {n:Nat} (hn:2<=n) (hm:M.length=n) :
 ∃ low,low<4294967296 ^ (n-2)/\aN M=low+4294967296 ^ (n-2) * (M[n-2]'om+4294967296 * M[n-1]'om):=by
 have j:=gC (M.take (n-2)) (M.drop (n-2))
 rw[List.take_append_drop,List.length_take,Nat.min_eq_left om] at j
 rw[jL (show n-2<M.length by omega),show n-2+1=n-1 by omega,jL (show n-1<M.length by omega),show n-1+1=n by omega,List.drop_of_length_le om,sF,Nat.mul_zero,Nat.add_zero] at j
 refine⟨_,?_,j⟩
 have h2:=pr (lS hl (n-2))
 rw[List.length_take,Nat.min_eq_left om] at h2
 exact h2
theorem P4 {lR I o W j q b2 C Bn:Nat} (hPa:0<o) (hR:lR=I+o * W) (hlA:I<o) (hM:0<j) (hq1:W / j<=q) (hq2:q<=W / j+1) (hb:b2<=1) (ht:C+o * (q * j)=lR+Bn * b2) (oz:C<Bn) :
 (b2=0->q=W / j/\C+o * (q * j)=lR/\C<o * j) ∧
 (b2=1->q=W / j+1/\∀ b3 p,b3<=1->p+Bn * b3=C+o * j->p<Bn->p+o * ((q-1) * j)=lR/\p<o * j):=by
 have R:=Nat.div_add_mod W j
 have hml:=Nat.mod_lt W hM
 generalize hQ:W / j=Q at *
 have hWs:o * W=o * (j * Q)+o * (W % j):=by rw[<-Nat.mul_add,R]
 have AhN:o * (W % j)+o<=o * j:=by rw[<-Nat.mul_succ];exact Nat.mul_le_mul_left _ hml
 have hQM:o * (j * Q)=o * (Q * j):=by rw[Nat.mul_comm j]
 have U:o * ((Q+1) * j)=o * (Q * j)+o * j:=by rw[Nat.succ_mul,Nat.mul_add]
 constructor
 . intro e
   subst e
   have J:q=Q:=by
    refine Nat.le_antisymm ?_ hq1
    refine Nat.le_of_not_lt fun hc=>?_
    have:q=Q+1:=om
    subst this
    rw[U] at ht
    omega
   subst J
   refine⟨rfl,om,om⟩
 . intro e
   subst e
   have J:q=Q+1:=by
    refine Nat.le_antisymm hq2 ?_
    refine Nat.lt_of_not_le fun hc=>?_
    have:q=Q:=om
    subst this
    omega
   subst J
   rw[U] at ht
   refine⟨rfl,fun b3 p h3 h4 h5=>?_⟩
   rw[Nat.add_sub_cancel]
   have h3':b3=0\/b3=1:=om
   rcases h3' with e | e
   . subst e;exfalso;omega
   . subst e
     refine⟨om,om⟩
theorem _root_.Go.X.bp.ge {e:TypeId} {h0 h:H} {v:Value} {vs:List Value} (r:bp e h0 h v vs):∀ b o n c,v=.slice (some ⟨b,o,none⟩) n c->h0.next<=b:=by
 intro b o n c q
 cases r with
 | nil=>cases q
 | «at» b2 n L gz hb hr hn=>cases q;exact gz
theorem _root_.Go.X.bp.V6 {e:TypeId} {h0 h:H} {v:Value} {vs:List Value} (r:bp e h0 h v vs) (im:vs≠[]):∃ B o n c,v=.slice (some ⟨B,o,none⟩) n c:=by
 cases r with
 | nil=>exact absurd rfl im
 | «at» b2 n L gz hb hr hn=>exact⟨_,_,_,_,rfl⟩
theorem DE {n:Nat} (hn:n<4294967296) (h:H):((aT EE h 160 132 (xN n)).bind fun r=>some r.1)=some (dD n):=by rw[Ey hn];rfl
theorem TV {m k n:Nat} {M:List Nat} (hl:iu M) (hm:M.length=n) (hn:2<=n) {t:Nat} (o:2147483648<=t * 2 ^ k) (hv:aN M=m * 2 ^ k) (j:4294967296 ^ (n-1) * t<=m):2147483648<=M[n-1]'om:=by
 have p:=zP M (n-1) om
 rw[show n-1+1=n by omega,List.drop_of_length_le om,sF,Nat.mul_zero,Nat.add_zero] at p
 have h2:=pr (lS hl (n-1))
 rw[List.length_take,Nat.min_eq_left om] at h2
 have J:0<4294967296 ^ (n-1):=Nat.pos_of_ne_zero sm
 have R:4294967296 ^ (n-1) * 2147483648<=aN M:=by
  rw[hv]
  have U:4294967296 ^ (n-1) * 2147483648<=4294967296 ^ (n-1) * (t * 2 ^ k):=Nat.mul_le_mul_left _ o
  have C:4294967296 ^ (n-1) * t * 2 ^ k<=m * 2 ^ k:=Nat.mul_le_mul_right _ j
  rw[Nat.mul_assoc] at C
  omega
 generalize M[n-1]'om=x at *
 refine Nat.le_of_not_lt fun hc=>?_
 have I:4294967296 ^ (n-1) * (x+1)<=4294967296 ^ (n-1) * 2147483648:=Nat.mul_le_mul_left _ hc
 rw[Nat.mul_succ] at I
 omega
theorem V8 {j:List Nat} (o:Norm j) (hn:1<=j.length):∃ t,t≠0/\t<4294967296/\j[j.length-1]'om=t/\∃ lo,lo<4294967296 ^ (j.length-1)/\aN j=lo+4294967296 ^ (j.length-1) * t:=by
 refine⟨_,fun e=>o.2 ?_,o.Ft _ (List.getElem_mem _),rfl,aN (j.take (j.length-1)),?_,?_⟩
 . rw[List.getLast?_eq_getElem?,List.getElem?_eq_getElem om,e]
 . have:=pr (lS o.Ft (j.length-1))
   rw[List.length_take,Nat.min_eq_left om] at this
   exact this
 . have p:=zP j (j.length-1) om
   rw[show j.length-1+1=j.length by omega,List.drop_of_length_le nlr,sF,Nat.mul_zero,Nat.add_zero] at p
   exact p
theorem TW {t k:Nat} (hk:k<32) (h:t * 2 ^ k<4294967296):(t+1) * 2 ^ k<=4294967296:=by
 have e:(4294967296:Nat)=2 ^ (32-k) * 2 ^ k:=by rw[<-Nat.pow_add,show 32-k+k=32 by omega]
 rw[e] at h ⊢
 exact Nat.mul_le_mul_right _ (Nat.lt_of_mul_lt_mul_right h)
theorem TX (n:Nat):aN (List.replicate n 0)=0:=pu (fun j=>by rw[List.getD_eq_getElem?_getD,List.getElem?_replicate];split <;> rfl)
theorem GD {R:List Nat} {n:Nat} (h:aN R<4294967296 ^ n):∀ j,n<=j->R.getD j 0=0:=by
 refine yz ?_
 by_cases hn:n<=R.length
 . have o:=gC (R.take n) (R.drop n)
   rw[List.take_append_drop,List.length_take,Nat.min_eq_left hn] at o
   rcases Nat.eq_zero_or_pos (aN (R.drop n)) with e | e
   . exact e
   . have:4294967296 ^ n * 1<=4294967296 ^ n * aN (R.drop n):=Nat.mul_le_mul_left _ e
     omega
 . rw[List.drop_of_length_le om];rfl
theorem V9 {Q:Value->H->Prop} {C:List Value->H->Prop} {J R U x8 u:Value} {a d:Nat} {hb j:H} {O:List Nat} (hd:d<4294967296) (ha:a<O.length) (hO:O.length<=bl) (oO:bp 160 hb j u (uL O))
 (hK:∀ I p,eV I j p->(∀ b o n c,u=.slice (some ⟨b,o,none⟩) n c->b=I)->hb.next<=I->bp 160 hb p u (uL (O.set a d))->C [J,R,U,x8,u,.int .i64 ((a:Int)-1)] p) :
 eh Q C J R U x8 u (vI a) (dD d) j:=by
 have qS:bl=1000000000:=rfl
 unfold eh aq
 rw[Gq,aa,tU hd]
 refine oO.set (sp ha) rfl rfl ?_
 intro b0 h2 q1 q2 q3 q4 q5
 rw[Go.X.binOp_sub,aa,wrap64 om om]
 exact hK b0 h2 q2 q4 q1 (by rw[sE];exact q5)
theorem V_ {j C p l m S:Nat} (I:0<S) (J:C=m * S) (o:j+C * p=l * S) (R:j<C):p=l / m/\j / S=l % m:=by
 have hm:0<m:=by
  rcases Nat.eq_zero_or_pos m with e | e
  . subst e;rw[Nat.zero_mul] at J;omega
  . exact e
 have h1:j / S+m * p=l:=by
  have e1:j+m * p * S=l * S:=by rw[<-o,J];congr 1;rw[Nat.mul_right_comm]
  have U:=congrArg (· / S) e1
  simp only[Nat.add_mul_div_right _ _ I,Nat.mul_div_cancel _ I] at U
  exact U
 have h2:j / S<m:=by rw[Nat.div_lt_iff_lt_mul I,<-J];exact R
 have:=(Nat.div_mod_unique hm).2 ⟨h1,h2⟩
 exact⟨this.1.symm,this.2.symm⟩
theorem Lg {h0 h:H} (hf:Fr h0 h) {v w:Value} {C p:List Nat} (r1:bk h v (uL C)) (r2:bk h w (uL p)) (nl:Norm C) (nm:Norm p) (hn:2<=p.length) (hle:p.length<=C.length) (hb:C.length<=100000000) :
 CP lz [v,w] h fun x h'=>Fr h0 h'/\Fr h h'/\∃ a b O R,x=.tuple ⟨[a,b]⟩/\bk h' a (uL O)/\iu O/\bk h' b (uL R)/\iu R/\aN O=aN C / aN p/\aN R=aN C % aN p/\O.length<=bl/\R.length<=bl:=by
 have qS:bl=1000000000:=rfl
 refine .call (yA ?_)
 unfold ua aq
 obtain⟨t,ht0,Zg,hte,lo,hlo,hmv⟩:=V8 nm om
 rw[r2.BZ TM,oI,pX _ _ _ _ om om,aa,r2.PV (show p.length-1<p.length by omega),hte]
 clear hte
 refine (DD t Zg ht0 h).mono ?_
 rintro w5 h' ⟨rfl,k,rfl,hk,hk1,hk2⟩
 refine (xP (Fr.refl h') r1 nl.Ft om k hk).mono ?_
 rintro rs h8 ⟨f8,_,R0,oR,lR,Acd,vR⟩
 refine (xP (Fr.refl h8) (r2.fr f8) nm.Ft om k hk).mono ?_
 rintro v9 Lh ⟨f10,_,M0,oM,lM,AhO,vM⟩
 rw[(r2.fr (f8.trans f10)).BZ TM]
 obtain⟨U,e13,oM2⟩:=oM.take TM (n:=p.length) so
 rw[e13,aa]
 have eM:(uL M0).take p.length=uL (M0.take p.length):=by simp[uL,List.map_take]
 rw[eM] at oM2
 -- DB AfT AfU
 have hpk:0<2 ^ k:=Nat.pos_of_ne_zero sm
 have TY:=TW hk hk2
 have hPn:4294967296 ^ p.length=4294967296 ^ (p.length-1) * 4294967296:=by rw[<-Nat.pow_succ];congr 1;omega
 have hmB:aN p * 2 ^ k<4294967296 ^ p.length:=by
  have e1:aN p<4294967296 ^ (p.length-1) * (t+1):=by rw[Nat.mul_succ];omega
  have e2:aN p * 2 ^ k<4294967296 ^ (p.length-1) * (t+1) * 2 ^ k:=Nat.mul_lt_mul_of_pos_right e1 hpk
  have e3:4294967296 ^ (p.length-1) * ((t+1) * 2 ^ k)<=4294967296 ^ (p.length-1) * 4294967296:=Nat.mul_le_mul_left _ TY
  rw[Nat.mul_assoc] at e2
  rw[hPn];omega
 have Af3:∀ j,p.length<=j->M0.getD j 0=0:=by
  have h1:=gC (M0.take p.length) (M0.drop p.length)
  rw[List.take_append_drop,List.length_take,Nat.min_eq_left om,vM] at h1
  refine yz ?_
  rcases Nat.eq_zero_or_pos (aN (M0.drop p.length)) with e | e
  . exact e
  . have:4294967296 ^ p.length * 1<=4294967296 ^ p.length * aN (M0.drop p.length):=Nat.mul_le_mul_left _ e
    omega
 have vM2:aN (M0.take p.length)=aN p * 2 ^ k:=by rw[<-(wy lM Af3).1,vM]
 have lM2:iu (M0.take p.length):=lS lM _
 have J:(M0.take p.length).length=p.length:=so
 generalize M0.take p.length=M at *
 have Ad9:=TV lM2 J hn hk1 vM2 om
 rw[oM2.read.BZ TM,J,(r1.fr (f8.trans f10)).BZ TM,pX _ _ _ _ hle om,aa,dm _ _ _ _ om,aa]
 obtain⟨u,h20,e20,f20,oO⟩:=Be TM Lh (C.length-p.length+1) om
 rw[e20,aa]
 show blt EE h20 .len #[156] [v] _
 rw[(r1.fr ((f8.trans f10).trans f20)).BZ TM,pX _ _ _ _ hle om,aa]
 have oO':bp 160 Lh h20 u (uL (List.replicate (C.length-p.length+1) 0)):=by
  have:uL (List.replicate (C.length-p.length+1) 0)=List.replicate (C.length-p.length+1) (.int .u32 0):=by simp[uL]
  rw[this];exact oO
 -- where DB three lie
 have bR:=oR.read.dH
 have gM:=oM2.ge
 have bM:=oM2.read.dH
 have gO:=oO'.ge
 have Aea:0<aN M:=by
  rw[vM2]
  refine Nat.mul_pos ?_ hpk
  have:4294967296 ^ (p.length-1) * 1<=4294967296 ^ (p.length-1) * t:=Nat.mul_le_mul_left _ (Nat.pos_of_ne_zero ht0)
  have:0<4294967296 ^ (p.length-1):=Nat.pos_of_ne_zero sm
  omega
 have I:∀ B o n c,rs=.slice (some ⟨B,o,none⟩) n c->bt U B:=by
  intro B o n c q b2 o2 n2 c2 q2
  have:=bR _ _ _ _ q;have:=gM _ _ _ _ q2;omega
 have Wa:∀ B o n c,rs=.slice (some ⟨B,o,none⟩) n c->bt u B:=by
  intro B o n c q b2 o2 n2 c2 q2
  have:=bR _ _ _ _ q;have:=gO _ _ _ _ q2;have:=f10.next;omega
 have Ace:∀ B o n c,u=.slice (some ⟨B,o,none⟩) n c->bt U B:=by
  intro B o n c q b2 o2 n2 c2 q2
  have:=bM _ _ _ _ q2;have:=gO _ _ _ _ q;omega
 have Acf:∀ B o n c,u=.slice (some ⟨B,o,none⟩) n c->bt rs B:=by
  intro B o n c q b2 o2 n2 c2 q2
  have:=bR _ _ _ _ q2;have:=gO _ _ _ _ q;have:=f10.next;omega
 have gR:=oR.ge
 refine aL.ind (fun s hh=>Fr h' hh/\∃ (j:Nat) (R O:List Nat),s=[U,vI k,rs,vI p.length,u,.int .i64 ((j:Int)-1)]/\j<=C.length-p.length+1/\bp 160 h' hh rs (uL R)/\iu R/\R.length=C.length+1/\bk hh U (uL M)/\bp 160 Lh hh u (uL O)/\iu O/\O.length=C.length-p.length+1/\aN R+aN M * aN O=aN C * 2 ^ k/\aN R<aN M * 4294967296 ^ j/\∀ i,i<j->O.getD i 0=0)
  (fun s _=>match aI s 5 with | .int _ i=>(i+1).toNat | _=>0) ?_ ⟨(f8.trans f10).trans f20,C.length-p.length+1,R0,_,?_,Nat.le_refl _,oR.fr (f10.trans f20),lR,Acd,oM2.read.fr f20,oO',fun x hx=>by rw[List.eq_of_mem_replicate hx];omega,sm,?_,?_,fun i _=>?_⟩
 rotate_left
 . rw[show (((C.length-p.length+1:Nat):Int)-1)=((C.length-p.length:Nat):Int) by omega]
 . rw[TX,Nat.mul_zero,Nat.add_zero,vR]
 . rw[vR,vM2]
   have h1:=pr nl.Ft
   have h2:4294967296 ^ (p.length-1)<=aN p:=by
    have:4294967296 ^ (p.length-1) * 1<=4294967296 ^ (p.length-1) * t:=Nat.mul_le_mul_left _ (Nat.pos_of_ne_zero ht0)
    omega
   have h3:4294967296 ^ C.length=4294967296 ^ (p.length-1) * 4294967296 ^ (C.length-p.length+1):=by rw[<-Nat.pow_add];congr 1;omega
   have h4:4294967296 ^ (p.length-1) * 4294967296 ^ (C.length-p.length+1)<=aN p * 4294967296 ^ (C.length-p.length+1):=Nat.mul_le_mul_right _ h2
   have h5:aN C<aN p * 4294967296 ^ (C.length-p.length+1):=om
   rw[Nat.mul_right_comm]
   exact Nat.mul_lt_mul_of_pos_right h5 hpk
 . rw[List.getD_eq_getElem?_getD,List.getElem?_replicate];split <;> rfl
 clear lR Acd vR oR oO oO' R0
 rintro s hh ⟨ff,j,R,O,rfl,hj,oR,lR,Acd,rM,oO,lO,Af4,Acg,oz,hz⟩
 show jU _ _ U (vI k) rs (vI p.length) u (.int .i64 ((j:Int)-1)) hh
 unfold jU aq
 rw[Go.X.binOp_geq,aa,ae]
 cases j with
 | zero =>
  rw[if_neg sm]
  obtain⟨w75,e75,o75⟩:=oR.take TM (n:=p.length) so
  rw[e75,aa]
  have eR:(uL R).take p.length=uL (R.take p.length):=by simp[uL,List.map_take]
  rw[eR] at o75
  rw[Nat.pow_zero,Nat.mul_one] at oz
  have hRB:aN R<4294967296 ^ p.length:=by rw[vM2] at oz;omega
  have hup:=(wy lR (GD hRB)).1
  refine (K_ (Fr.refl hh) o75.read (lS lR _) so k hk).mono ?_
  rintro w76 h77 ⟨_,f77,o76⟩
  obtain⟨z1,z2⟩:=V_ hpk vM2 Acg oz
  have ff2:=ff.trans f77
  refine⟨hf.trans ff2,ff2,u,w76,O,oK k (R.take p.length),rfl,(oO.fr f77).read,lO,o76.read,TJ _ _,z1,?_,om,by rw[zR];simp;omega⟩
  rw[TP hk (lS lR _),<-hup,z2]
 | succ a =>
  have ea:(((a+1:Nat):Int)-1)=((a:Nat):Int):=om
  have hR3:a+p.length<R.length:=om
  have hM1:p.length-1<M.length:=om
  have hM2:p.length-2<M.length:=om
  obtain⟨low,Aeb,Af5⟩:=ZD lR hn hR3
  obtain⟨Af6,Aec,Aed⟩:=ZE lM2 hn J
  have x2:=lR _ (List.getElem_mem hR3)
  have x1:=lR _ (List.getElem_mem (show a+p.length-1<R.length by omega))
  have x0:=lR _ (List.getElem_mem (show a+p.length-2<R.length by omega))
  have y1:=lM2 _ (List.getElem_mem hM1)
  have y0:=lM2 _ (List.getElem_mem hM2)
  rw[if_pos sm,ea,dm _ _ _ _ om,aa,oR.read.PV hR3,DE x2,aa,aa,oI,pX _ _ _ _ om om,aa,oR.read.PV (show a+p.length-1<R.length by omega),DE x1,aa,aa]
  rw[show (.int .i64 2:Value)=vI 2 from rfl,pX _ _ _ _ om om,aa,oR.read.PV (show a+p.length-2<R.length by omega),DE x0,aa,pX _ _ _ _ om om,aa,rM.PV hM1,DE y1,aa,pX _ _ _ _ om om,aa,rM.PV hM2,DE y0,aa]
  generalize R[a+p.length]=u2 at *
  generalize R[a+p.length-1]'om=u1 at *
  generalize R[a+p.length-2]'om=u0 at *
  generalize M[p.length-1]'om=v1 at *
  generalize M[p.length-2]'om=v0 at *
  -- DB Af7
  have hPa:0<4294967296 ^ a:=Nat.pos_of_ne_zero sm
  have hP:0<4294967296 ^ (p.length-2):=Nat.pos_of_ne_zero sm
  have Aee:=gC (R.take a) (R.drop a)
  rw[List.take_append_drop,List.length_take,Nat.min_eq_left om] at Aee
  have Abc:=pr (lS lR a)
  rw[List.length_take,Nat.min_eq_left om] at Abc
  generalize aN (R.take a)=AhP at *
  generalize hWd:aN (R.drop a)=W at *
  have hWM:W<4294967296 * aN M:=by
   have e1:4294967296 ^ a * W<4294967296 ^ a * (4294967296 * aN M):=by
    rw[Nat.pow_succ,Nat.mul_comm (4294967296 ^ a),<-Nat.mul_assoc,Nat.mul_comm (aN M * 4294967296),Nat.mul_comm (aN M)] at oz
    omega
   exact Nat.lt_of_mul_lt_mul_left e1
  generalize hXd:aN (R.drop (a+p.length+1))=Xt at *
  generalize 4294967296 ^ (p.length-2)=P at *
  have hXu:u2+4294967296 * Xt<=v1:=by
   have e1:P * (u0+4294967296 * (u1+4294967296 * (u2+4294967296 * Xt)))<P * (4294967296 * (v0+4294967296 * v1+1)):=by
    have e2:P * (4294967296 * (v0+4294967296 * v1+1))=4294967296 * (P * (v0+4294967296 * v1)+P):=by
     rw[Nat.mul_left_comm,Nat.mul_succ]
    rw[e2]
    omega
   have e3:=Nat.lt_of_mul_lt_mul_left e1
   omega
  have hX0:Xt=0:=om
  subst hX0
  have hWU:W=low+P * (4294967296 * (4294967296 * u2+u1)+u0):=by
   rw[Af5];congr 2;omega
  have hMV:aN M=Af6+P * (4294967296 * v1+v0):=by
   rw[Aed];congr 2;omega
  refine (IT u2 u1 u0 v1 v0 x1 x0 y1 Ad9 y0 om hh).mono ?_
  rintro w56 h57 ⟨rfl,q,rfl,hq,hq1,hq2⟩
  obtain⟨kn1,kn2⟩:=Ad8 hP hWU Aeb hMV Aec hWM om hq hq1 hq2
  refine (Lb ff oR lR rM lM2 (fun b o n c b2 o2 n2 c2 qa qb=>I _ _ _ _ qa _ _ _ _ qb) q a hq om om).mono ?_
  rintro w59 h60 ⟨R2,b2,Br,rfl,RG,f60,hBr,x60,hBe,oR2,lR2,Ahy,hv2,hz2⟩
  obtain⟨B0,o0,n0,c0,Nn⟩:=oR.V6 (by intro e;have:=congrArg List.length e;rw[List.length_map,List.length_nil] at this;omega)
  have hBB:=hBe _ _ _ _ Nn
  subst hBB
  have rM2:=rM.mR x60 (I _ _ _ _ Nn)
  have oO2:=oO.mR x60 (Wa _ _ _ _ Nn)
  have hRz:=GD (R:=R) (n:=a+p.length+1) (by
   have h5:=gC (R.take (a+p.length+1)) (R.drop (a+p.length+1))
   rw[List.take_append_drop,hXd,Nat.mul_zero,Nat.add_zero] at h5
   rw[h5]
   have h6:=pr (lS lR (a+p.length+1))
   exact Nat.lt_of_lt_of_le h6 (Nat.pow_le_pow_right om so))
  have Af8:=(wy lR2 (i:=a+p.length+1) (fun j hj=>by rw[hz2 j om];exact hRz j hj)).2
  rw[J] at hv2 hz2
  obtain⟨st0,st1⟩:=P4 hPa Aee Abc Aea kn1 kn2 RG hv2 Af8
  have hOz:O.getD a 0=0:=hz a om
  have haO:a<O.length:=om
  -- DB end of a round
  have round:∀ (d:Nat) (h3:H) (R3:List Nat),d<4294967296->Fr h57 h57->eV B0 h60 h3->bp 160 h' h3 rs (uL R3)->iu R3->R3.length=C.length+1->aN R3+4294967296 ^ a * (d * aN M)=aN R->aN R3<4294967296 ^ a * aN M->∀ Q,eh Q (fun s' RM=>(Fr h' RM/\∃ (j:Nat) (R O:List Nat),s'=[U,vI k,rs,vI p.length,u,.int .i64 ((j:Int)-1)]/\j<=C.length-p.length+1/\bp 160 h' RM rs (uL R)/\iu R/\R.length=C.length+1/\bk RM U (uL M)/\bp 160 Lh RM u (uL O)/\iu O/\O.length=C.length-p.length+1/\aN R+aN M * aN O=aN C * 2 ^ k/\aN R<aN M * 4294967296 ^ j/\∀ i,i<j->O.getD i 0=0)/\(match aI s' 5 with | .int _ i=>(i+1).toNat | _=>0)<(match aI [U,vI k,rs,vI p.length,u,.int .i64 ((a:Nat):Int)] 5 with | .int _ i=>(i+1).toNat | _=>0)) U (vI k) rs (vI p.length) u (vI a) (dD d) h3:=by
   intro d h3 R3 hd _ fx3 o3 l3 Af9 hs3 hl3 Q
   have rM3:=rM2.mR fx3 (I _ _ _ _ Nn)
   have oO3:=oO2.mR fx3 (Wa _ _ _ _ Nn)
   have f3:Fr h' h3:=eV.fr f60 fx3 hBr
   refine V9 hd haO om oO3 ?_
   intro Bo h4 fx4 hBo hge o4
   obtain⟨B5,o5,n5,c5,hB5⟩:=oO3.V6 (by intro e;have:=congrArg List.length e;rw[List.length_map,List.length_nil] at this;omega)
   have Aga:=hBo _ _ _ _ hB5
   subst Aga
   have TZ:=nz haO d
   rw[nC haO,hOz,Nat.mul_zero,Nat.add_zero] at TZ
   refine⟨⟨eV.fr f3 fx4 (by have:=f8.next;have:=f10.next;omega),a,R3,O.set a d,rfl,om,o3.mR fx4 (Acf _ _ _ _ hB5),l3,Af9,rM3.mR fx4 (Ace _ _ _ _ hB5),o4,iu.set lO _ hd,sp Af4,?_,by rw[Nat.mul_comm];exact hl3,?_⟩,?_⟩
   . rw[TZ,Nat.mul_add]
     have e5:aN M * (4294967296 ^ a * d)=4294967296 ^ a * (d * aN M):=by rw[Nat.mul_left_comm,Nat.mul_comm (aN M)]
     rw[e5]
     generalize 4294967296 ^ a * (d * aN M)=z1 at *
     generalize aN M * aN O=z2 at *
     omega
   . intro i hi
     rw[p_ _ _ _ _ haO,if_neg om]
     exact hz i om
   . show ((a:Int)-1+1).toNat<((a:Int)+1).toNat
     omega
  rw[aY,aa,ae]
  have Agb:b2=0\/b2=1:=om
  rcases Agb with e | e
  . obtain⟨s1,s2,s3⟩:=st0 e
    rw[if_neg (by simp[e])]
    exact round q h60 R2 hq (Fr.refl _) (eV.refl _ _) oR2 lR2 om s2 s3 _
  . obtain⟨s1,s2⟩:=st1 e
    have AhQ:1<=q:=by rw[s1];exact Nat.le_add_left _ _
    clear s1
    rw[if_pos (by simp[e]),show (.int .u64 1:Value)=dD 1 from rfl,uK _ _ _ _ _ om,aa,bB,Nat.mod_eq_of_lt (show q-1<18446744073709551616 by omega)]
    refine (Ld f60 oR2 lR2 rM2 lM2 (fun b o n c b2 o2 n2 c2 qa qb=>I _ _ _ _ qa _ _ _ _ qb) a om om).mono ?_
    rintro w63 h64 ⟨R3,b3,Br3,hb3,f64,AhR,x64,Agc,oR3,lR3,Ahz,hv3,hz3⟩
    have Agd:=Agc _ _ _ _ Nn
    subst Agd
    rw[J] at hv3 hz3
    have Age:=(wy lR3 (i:=a+p.length+1) (fun j hj=>by rw[hz3 j om,hz2 j om];exact hRz j hj)).2
    obtain⟨s3,s4⟩:=s2 b3 (aN R3) hb3 hv3 Age
    exact round (q-1) h64 R3 om (Fr.refl _) x64 oR3 lR3 om s3 s4 _
theorem IU {h0 h:H} (hf:Fr h0 h) {v:Value} {I:List Nat} (r:bk h v (uL I)) (ll:iu I) (hb:I.length<=bl) (d:Nat) (hd0:d≠0) (hd:d<4294967296) :
 CP kg [v,xN d] h fun x h'=>Fr h0 h'/\Fr h h'/\∃ a b O R,x=.tuple ⟨[a,b]⟩/\bk h' a (uL O)/\iu O/\bk h' b (uL R)/\iu R/\aN O=aN I / d/\aN R=aN I % d/\O.length<=bl/\R.length<=bl:=by
 have qS:bl=1000000000:=rfl
 refine .call (x_ ?_)
 unfold sI aq
 rw[No]
 have f1:Fr h (X.newRow h 160 [xN d] 0):=(Fr.refl h).newRow _ _ _
 have r0:(X.newRow h 160 [xN d] 0).row h.next=some ⟨[xN d],160,0,0,false⟩:=by rw[aS,if_pos rfl]
 have n1:(X.newRow h 160 [xN d] 0).next=h.next+1:=rfl
 generalize X.newRow h 160 [xN d] 0=h1 at *
 rw[(r.fr f1).BZ TM]
 obtain⟨u,p,e3,f3,oO⟩:=Be TM h1 I.length om
 rw[e3,aa]
 have oO':bp 160 h1 p u (uL (List.replicate I.length 0)):=by
  have:uL (List.replicate I.length 0)=List.replicate I.length (.int .u32 0):=by simp[uL]
  rw[this];exact oO
 have gu:=oO'.ge
 have bu:=oO'.read.dH
 have cu:=oO'.cell
 rw[wq]
 -- DB box of DB quotient
 have f5:Fr p (X.newRow p 156 [.slice none 0 0] 0):=(Fr.refl p).newRow _ _ _
 have r5:(X.newRow p 156 [.slice none 0 0] 0).row p.next=some ⟨[.slice none 0 0],156,0,0,false⟩:=by rw[aS,if_pos rfl]
 have n5:(X.newRow p 156 [.slice none 0 0] 0).next=p.next+1:=rfl
 generalize X.newRow p 156 [.slice none 0 0] 0=h5 at *
 show af (wa 1 h5 (.pointer (some ⟨p.next,0,none⟩)) u) _
 rw[tT _ _ _ _ _ cu.1,if_pos rfl,bK,r5]
 simp only[Option.bind_some]
 rw[if_pos ⟨trivial,Nat.zero_le _,sm,by simp[cu.2]⟩,aa]
 simp only[gU,kb,oT]
 have x5:eV p.next h5 (h5.put p.next (.row ⟨[u],156,0,0,false⟩)):=eV.put _ _ _
 have r5':(h5.put p.next (.row ⟨[u],156,0,0,false⟩)).row p.next=some ⟨[u],156,0,0,false⟩:=by rw[eH,if_pos rfl]
 have n5':(h5.put p.next (.row ⟨[u],156,0,0,false⟩)).next=p.next+1:=n5
 have f5':Fr p (h5.put p.next (.row ⟨[u],156,0,0,false⟩)):=f5.put _ nlr
 clear x5 r5 n5 f5
 generalize h5.put p.next (.row ⟨[u],156,0,0,false⟩)=C at *
 rw[wq]
 have f8:Fr C (X.newRow C 132 [.int .u64 0] 0):=(Fr.refl C).newRow _ _ _
 have r8:(X.newRow C 132 [.int .u64 0] 0).row C.next=some ⟨[.int .u64 0],132,0,0,false⟩:=by rw[aS,if_pos rfl]
 have n8:(X.newRow C 132 [.int .u64 0] 0).next=C.next+1:=rfl
 generalize X.newRow C 132 [.int .u64 0] 0=h9 at *
 rw[K0,if_pos rfl,bK,r8]
 simp only[Option.bind_some]
 rw[if_pos ⟨trivial,Nat.zero_le _,sm,sm⟩,aa]
 simp only[gU,kb,oT]
 have r8':(h9.put C.next (.row ⟨[.int .u64 0],132,0,0,false⟩)).row C.next=some ⟨[dD 0],132,0,0,false⟩:=by rw[eH,if_pos rfl];rfl
 have n8':(h9.put C.next (.row ⟨[.int .u64 0],132,0,0,false⟩)).next=C.next+1:=n8
 have f8':Fr C (h9.put C.next (.row ⟨[.int .u64 0],132,0,0,false⟩)):=f8.put _ nlr
 clear r8 n8 f8
 generalize h9.put C.next (.row ⟨[.int .u64 0],132,0,0,false⟩)=Lh at *
 have F:=((f1.trans f3).trans f5').trans f8'
 refine (Nl (r.fr F)).mono ?_
 rintro w12 j ⟨e2,e13⟩
 subst e2
 have f13:Fr Lh j:=by rw[e13];exact (Fr.refl Lh).newRow _ _ _
 have rp:j.row Lh.next=some ⟨[v],156,0,0,false⟩:=by rw[e13,aS,if_pos rfl]
 have n13:j.next=Lh.next+1:=by rw[e13];rfl
 clear e13
 have J:=F.trans f13
 have bv:=r.dH
 have nn3:=f3.next
 -- all rows at DB start
 have R0:j.row h.next=some ⟨[xN d],160,0,0,false⟩:=by rw[fa (((f3.trans f5').trans f8').trans f13) om];exact r0
 have R5:j.row p.next=some ⟨[u],156,0,0,false⟩:=by rw[fa (f8'.trans f13) om];exact r5'
 have R8:j.row C.next=some ⟨[dD 0],132,0,0,false⟩:=by rw[fa f13 om];exact r8'
 have O13:bp 160 h1 j u (uL (List.replicate I.length 0)):=oO'.fr ((f5'.trans f8').trans f13)
 have PL:(uL I).length<=bl:=sp hb
 let Inv:Nat->H->Prop:=fun i h'=>Fr h h'/\j.next<h'.next/\h'.row h.next=some ⟨[xN d],160,0,0,false⟩/\h'.row Lh.next=some ⟨[v],156,0,0,false⟩/\bk h' v (uL I)/\h'.row p.next=some ⟨[u],156,0,0,false⟩/\∃ O rest,h'.row C.next=some ⟨[dD rest],132,0,0,false⟩/\bp 160 h1 h' u (uL O)/\iu O/\O.length=I.length/\rest<d/\d * aN (O.drop i)+rest=aN (I.drop i)
 have Ach:∀ b,(b=h.next\/p.next<=b)->bt u b:=by
  intro b RG b2 o n c q
  have:=gu _ _ _ _ q;have:=bu _ _ _ _ q
  omega
 have Aci:∀ b,h.next<=b->bt v b:=by
  intro b RG b2 o n c q
  have:=bv _ _ _ _ q
  omega
 refine yu (v:=v) PL Inv (fun _=>False) ?_ (fun h' o x=>x) ?_ ?_ ?_ ?_ (fun h' x=>x.elim)
 . rintro i h' o ⟨a1,a2,a3,a4,a5,a6,O,rest,a7,a8,a9⟩
   refine⟨a1.put o (by have:=J.next;omega),a2,by rw[dL om];exact a3,by rw[dL om];exact a4,a5.mR (eV.put _ _ _) (Aci _ (by have:=J.next;omega)),by rw[dL om];exact a6,O,rest,by rw[dL om];exact a7,a8.mR (eV.put _ _ _) (Ach _ (.inr om)),a9⟩
 . rintro i h' ⟨a1,a2,a3,a4,a5,_⟩;exact⟨a4,a5⟩
 . intro o
   have fo:Fr j (j.new o):=⟨by rw[H.fM];omega,fun b hb=>(H.eF _ _ _).trans (if_neg om)⟩
   refine⟨J.trans fo,by rw[H.fM];omega,by rw[fa fo om];exact R0,by rw[fa fo om];exact rp,(r.fr J).fr fo,by rw[fa fo om];exact R5,_,0,by rw[fa fo om];exact R8,O13.fr fo,fun x hx=>by rw[List.eq_of_mem_replicate hx];omega,sm,Nat.pos_of_ne_zero hd0,?_⟩
   rw[List.drop_of_length_le sm,List.drop_of_length_le sm];rfl
 . rintro i hi h' KR ⟨a1,a2,a3,a4,a5,a6,O,rest,a7,a8,a9,a10,a11,a12⟩ kn _
   have vt:i<I.length:=sp hi
   have hx:=ll _ (List.getElem_mem vt)
   have hiO:i<O.length:=om
   have cell:∀ {PJ:H} {b:Nat} {x:Value} {e:TypeId},PJ.row b=some ⟨[x],e,0,0,false⟩->aw PJ (.pointer (some ⟨b,0,none⟩))=some x:=by
    intro PJ b x e hr
    rw[c9,hr];rfl
   simp only[zN,zO]
   have tk:=jL vt
   rw[cell a7,aa,List.getElem_map]
   generalize I[i]=x at *
   rw[V5 _ _ _ om,aa,Ey hx,aa,Acb _ _ _ _ om hx,aa,cell a6,aa,cell a3,aa,DE hd,aa]
   have hT:4294967296 * rest+x<4294967296 * d:=om
   rw[GA _ _ _ _ _ hd0,aa,bB]
   obtain⟨T,hTd⟩:∃ T,T=4294967296 * rest+x:=⟨_,rfl⟩
   rw[<-hTd] at hT ⊢
   have hqB:T / d<4294967296:=by rw[Nat.div_lt_iff_lt_mul (Nat.pos_of_ne_zero hd0)];exact hT
   have hdm:=Nat.div_add_mod T d
   have hrm:=Nat.mod_lt T (Nat.pos_of_ne_zero hd0)
   rw[Nat.mod_eq_of_lt (show T / d<18446744073709551616 by omega)]
   have Acj:((aT EE h' 132 160 (dD (T / d))).bind fun r=>some r.1)=some (xN (T / d)):=by rw[Gq,tU hqB];rfl
   rw[Acj,aa]
   refine a8.set (sp hiO) rfl rfl ?_
   intro b0 ZF q1 q2 q3 q4 q5
   have gz:b0≠h.next/\b0<p.next:=by
    obtain⟨B5,o5,n5,c5,hB5⟩:=a8.V6 (by intro e;have:=congrArg List.length e;rw[List.length_map,List.length_nil] at this;omega)
    have e5:=q4 _ _ _ _ hB5
    have:=gu _ _ _ _ hB5;have:=bu _ _ _ _ hB5
    omega
   have q3':j.next<ZF.next:=om
   rw[cell (e:=160) (x:=xN d) (b:=h.next) (by rw[q2.row (by have:=J.next;omega) om];exact a3),aa,Ey hd,aa,Le _ _ _ _ _ hd0,aa]
   have a7':ZF.row C.next=some ⟨[dD rest],132,0,0,false⟩:=by rw[q2.row om om];exact a7
   rw[K0,if_pos rfl,bK,a7']
   simp only[Option.bind_some]
   rw[if_pos ⟨trivial,Nat.zero_le _,sm,sm⟩,aa]
   simp only[gU,kb,oT]
   have x8:eV C.next ZF (ZF.put C.next (.row ⟨[dD (T % d)],132,0,0,false⟩)):=eV.put _ _ _
   refine kn _ ⟨?_,q3',?_,?_,?_,?_,O.set i (T / d),T % d,by rw[eH,if_pos rfl],?_,iu.set a9 _ hqB,sp a10,hrm,?_⟩ ?_
   . exact (eV.fr a1 q2 (by have:=q1;omega)).put _ om
   . rw[dL om,q2.row (by have:=J.next;omega) om];exact a3
   . rw[dL om,q2.row om om];exact a4
   . exact (a5.mR q2 (Aci _ om)).mR x8 (Aci _ om)
   . rw[dL om,q2.row om om];exact a6
   . rw[sE];exact q5.mR x8 (Ach _ (.inr om))
   . have hi3:i<(O.set i (T / d)).length:=sp hiO
     rw[jL hi3,List.getElem_set_self,List.drop_set_of_lt om,tk,<-a12]
     generalize aN (O.drop (i+1))=z at *
     rw[Nat.mul_add,Nat.mul_left_comm]
     generalize d * z=y at *
     generalize d * (T / d)=w at *
     omega
   . rw[jh om]
     exact q2.cK _ om om
 . rintro h' ⟨a1,a2,a3,a4,a5,a6,O,rest,a7,a8,a9,a10,a11,a12⟩
   have Wb:eV j.next h' (h'.del j.next):=eV.del _ _
   have ndl:(h'.del j.next).next=h'.next:=rfl
   show af (aw (h'.del j.next) (.pointer (some ⟨p.next,0,none⟩))) _
   have a6':(h'.del j.next).row p.next=some ⟨[u],156,0,0,false⟩:=by rw[Wb.row om om];exact a6
   have a7':(h'.del j.next).row C.next=some ⟨[dD rest],132,0,0,false⟩:=by rw[Wb.row om om];exact a7
   have a8':=a8.mR Wb (Ach _ (.inr om))
   have a1':Fr h (h'.del j.next):=⟨Nat.le_trans a1.next Wb.next,fun c hc=>by rw[Wb.cK c (by have:=a1.next;omega) (by have:=J.next;omega)];exact a1.cK c hc⟩
   generalize h'.del j.next=U at *
   have hrB:rest<4294967296:=om
   rw[c9,a6']
   simp only[Option.bind_some,ao,aa]
   rw[c9,a7']
   simp only[Option.bind_some,ao,aa]
   have c6:((aT EE U 132 160 (dD rest)).bind fun r=>some r.1)=some (xN rest):=by rw[Gq,tU hrB];rfl
   rw[c6,aa]
   have ZA:dM EE U 156 1 [(0,xN rest)]=some (X.newRow U 160 (uL [rest]) 0):=by
    unfold dM
    rw[TM.un]
    simp only[Option.bind_some,TM.sz,TM.zc]
    rfl
   unfold gh
   rw[ZA,aa]
   have fN:Fr U (X.newRow U 160 (uL [rest]) 0):=(Fr.refl _).newRow _ _ _
   have oN:=bk.at (h:=X.newRow U 160 (uL [rest]) 0) U.next 0 1 (uL [rest]) sm ⟨_,by rw[aS,if_pos rfl],sm⟩ sm
   refine⟨?_,(hf.trans a1').trans fN,a1'.trans fN,u,_,O,[rest],rfl,(a8'.fr fN).read,a9,oN,iu.cons hrB iu.nil,?_,?_,om,so⟩
   . rw[c9,fa fN om,a6'];rfl
   . simp only[List.drop_zero] at a12
     rw[<-a12,Nat.mul_add_div (Nat.pos_of_ne_zero hd0),Nat.div_eq_of_lt a11,Nat.add_zero]
   . simp only[List.drop_zero] at a12
     rw[<-a12,Nat.mul_add_mod,Nat.mod_eq_of_lt a11];simp[aN]
def DF (A B:Nat):Value:=if B=0 then .tuple ⟨[st [],st [],vI 5]⟩ else .tuple ⟨[st (enc (A / B)),st (enc (A % B)),vI 0]⟩
theorem eX (a b:List UInt8) (ha:a.length<=100000000) (hb:b.length<=100000000) (h:H):ai PP dY [st a,st b] h (.v (DF (aJ a) (aJ b)) h):=by
 have qS:bl=1000000000:=rfl
 refine aj.pure (DG ?_) (by unfold DF;split <;> simp[flat,xO])
 unfold AI aq
 refine (Ca (Fr.refl h) a om).mono ?_
 rintro v h1 ⟨f1,_,ls,o1,n1,l1,c1⟩
 refine (Ca f1 b om).mono ?_
 rintro w h2 ⟨f2,g2,o,o2,n2,J,c2⟩
 have s1:=(o1.fr g2).read
 have s2:=o2.read
 have bl1:=zQ n1 l1
 have bl2:=zQ n2 J
 have tail:∀ (x y:Value) (O R:List Nat) (h':H),Fr h h'->bk h' x (uL O)->iu O->bk h' y (uL R)->iu R->aN O=aN ls / aN o->aN R=aN ls % aN o->O.length<=bl->R.length<=bl->aJ b≠0->kL (fun v h'=>v=DF (aJ a) (aJ b)/\Fr h h') x y h':=by
  intro x y O R h' f r3 lO r4 lR U e2 b1 b2 C
  unfold kL aq
  refine ar (B' r3 lO b1) (ar (B' r4 lR b2) ?_)
  unfold DF
  rw[if_neg C,U,e2,l1,J]
  exact⟨rfl,f⟩
 rw[s2.BZ TM,zI,cn,aa,ae]
 by_cases h0:o.length=0
 . have hms:o=[]:=List.eq_nil_of_length_eq_zero h0
   have C:aJ b=0:=by rw[<-J,hms];rfl
   rw[if_pos (by simp[h0])]
   unfold DF
   rw[if_pos C]
   exact⟨rfl,f2⟩
 . have C:aJ b≠0:=by
    intro e;rw[<-J] at e;have:=n2.zero e;exact h0 (by rw[this];rfl)
   rw[if_neg (by simp[h0])]
   refine ar (Nj a b om om h2) ?_
   rw[show (vI 0:Value)=.int .i64 0 from rfl,Go.X.binOp_lss,aa,ae]
   by_cases j:aJ a<aJ b
   . have hc:ym (aJ a) (aJ b)<0:=by unfold ym;rw[if_pos j];decide
     rw[if_pos (sp hc)]
     refine ar (cS a h2) ?_
     unfold DF
     rw[if_neg C,Nat.div_eq_of_lt j,Nat.mod_eq_of_lt j,du]
     exact⟨rfl,f2⟩
   . have hc:¬ ym (aJ a) (aJ b)<0:=by
      unfold ym;rw[if_neg j];split <;> decide
     rw[if_neg (sp hc),s2.BZ TM,oI,cn,aa,ae]
     by_cases I:o.length=1
     . have hi0:0<o.length:=om
       rw[if_pos (by simp[I]),show (.int .i64 0:Value)=vI 0 from rfl,s2.PV hi0]
       have e0:aN o=o[0]:=by
        match o,I with
        | [x],_=>simp[aN]
       have hd:=n2.Ft _ (List.getElem_mem hi0)
       refine (IU f2 s1 n1.Ft om _ (by rw[<-e0,J];exact C) hd).mono ?_
       rintro x h20 ⟨f20,_,p,q,O,R,rfl,r3,lO,r4,lR,U,e2,b1,b2⟩
       simp only[au,ao,ay,aa]
       rw[<-e0] at U e2
       exact tail p q O R h20 f20 r3 lO r4 lR U e2 b1 b2 C
     . rw[if_neg (by simp[I])]
       have hle:o.length<=ls.length:=by
        refine Nat.le_of_not_lt fun hc=>?_
        have:=yn n1.Ft n2 hc
        rw[l1,J] at this;exact j this
       refine (Lg f2 s1 s2 n1 n2 om hle om).mono ?_
       rintro x h25 ⟨f25,_,p,q,O,R,rfl,r3,lO,r4,lR,U,e2,b1,b2⟩
       simp only[au,ao,ay,aa]
       exact tail p q O R h25 f25 r3 lO r4 lR U e2 b1 b2 C
theorem kh {n:Nat} {a:List UInt8} (h:n<=aJ a):(enc n).length<=a.length:=mg (Nat.lt_of_le_of_lt h (wj a))
theorem Ack {n:Nat}:(enc n≠[])<->n≠0:=by rw[ne_eq,fE]
theorem yB (a b:List UInt8) (ha:a.length<=100000000) (hb:b.length<=100000000) (h:H):ai PP rR [st a,st b] h (.v (st (enc (Nat.gcd (aJ a) (aJ b)))) h):=by
 refine aj.pure (IV ?_) (by simp[flat])
 unfold GF aq
 refine ar (cS a h) (ar (cS b h) ?_)
 refine aL.ind (fun s h'=>h'=h/\∃ A B,s=[st (enc A),st (enc B)]/\Nat.gcd A B=Nat.gcd (aJ a) (aJ b)/\(enc A).length<=100000000/\(enc B).length<=100000000) (fun s _=>match aI s 1 with | .string b=>aJ b.data.toList | _=>0) ?_ ⟨rfl,_,_,rfl,rfl,Nat.le_trans (kh nlr) ha,Nat.le_trans (kh nlr) hb⟩
 rintro s h' ⟨rfl,A,B,rfl,o,C,p⟩
 show uO _ _ (st (enc A)) (st (enc B)) h'
 unfold uO aq
 rw[show (bs []:ByteArray)=⟨⟨[]⟩⟩ from rfl,di,aa,ae]
 by_cases h0:B=0
 . subst h0
   rw[if_neg (by simp[du])]
   unfold uP aq
   rw[<-o,Nat.gcd_zero_right]
   exact⟨rfl,Fr.refl h'⟩
 . rw[if_pos (by simp[fE,h0])]
   refine ar (eX _ _ C p h') ?_
   unfold DF
   rw[a_,a_,if_neg h0]
   simp only[au,ao,ay,aa]
   rw[zI,cX,aa,ae,if_neg sm]
   have j:=Nat.mod_lt A (Nat.pos_of_ne_zero h0)
   refine⟨⟨trivial,B,A % B,rfl,?_,p,?_⟩,?_⟩
   . rw[<-o,Nat.gcd_comm B,<-Nat.gcd_rec,Nat.gcd_comm]
   . have:=kh (n:=A % B) (a:=enc B) (by rw[a_];omega)
     omega
   . show aJ (enc (A % B))<aJ (enc B)
     rw[a_,a_];exact j
def aR (c:UInt8):Bool:=decide (48<=c.toNat)&&decide (c.toNat<=57)
def P6 (c:UInt8):Bool:=decide (32<=c.toNat)&&decide (c.toNat<=126)
theorem cQ (p:UInt8->Bool) (l:List UInt8) (i:Nat) (hi:i<l.length):(l.take (i+1)).all p=((l.take i).all p&&p l[i]):=by
 rw[List.take_add_one,List.getElem?_eq_getElem hi,Option.toList_some,List.all_append];simp
theorem kN (p:UInt8->Bool) (l:List UInt8) (i:Nat) (hi:i<l.length) (h:p l[i]=false):l.all p=false:=by
 rw[List.all_eq_false];exact⟨l[i],List.getElem_mem hi,by simp[h]⟩
theorem GH:(bs []:ByteArray)=⟨⟨[]⟩⟩:=rfl
theorem Nr (l:List UInt8) (hb:l.length<=bl) (h:H):ai PP DH [st l] h (.v (.bool (!(l.all aR))) h):=by
 have J:bl=1000000000:=rfl
 refine aj.pure (P7 ?_) (by simp[flat])
 unfold RN aq
 obtain⟨v2,h2,c1,c2,I⟩:=AF kH pY yj h l
 rw[c1,aa]
 show blt EE h2 .len #[90] [v2] _
 rw[I.len TB,List.length_map]
 refine aL.ind (fun s h'=>h'=h2/\∃ i:Nat,s=[v2,vI l.length,vI i]/\i<=l.length/\(l.take i).all aR=true) (fun s _=>match aI s 2 with | .int _ i=>l.length-i.toNat | _=>0) ?_ ⟨rfl,0,rfl,Nat.zero_le _,rfl⟩
 rintro s h' ⟨rfl,i,rfl,hi,ha⟩
 show Bg _ _ v2 (vI l.length) (vI i) h'
 unfold Bg aq
 rw[bI,aa,ae]
 by_cases o:i<l.length
 . rw[if_pos (by simp[o])]
   have p:i<(l.map fun b=>v8 b.toNat).length:=sp o
   rw[I.rd p,List.getElem_map]
   unfold yD aq
   simp only[Go.X.binOp_lss,Go.X.binOp_gtr,aa,ag,ae,decide_eq_true_eq]
   by_cases hd:aR l[i]=true
   . have j:=hd
     unfold aR at j
     simp at j
     rw[if_pos so,if_neg om,oI,fq,aa,wrap_i64 om]
     refine⟨⟨trivial,i+1,rfl,om,by rw[cQ _ _ _ o,ha,hd];rfl⟩,?_⟩
     show l.length-((i+1:Nat):Int).toNat<l.length-(i:Int).toNat
     omega
   . have j:aR l[i]=false:=sp hd
     have e:=kN _ l i o j
     unfold aR at j
     simp at j
     rw[e]
     by_cases R:(l[i].toNat:Int)<48
     . rw[if_neg (by simp[R]),if_pos trivial];exact⟨rfl,c2⟩
     . rw[if_pos so,if_pos om];exact⟨rfl,c2⟩
 . rw[if_neg (by simp[o])]
   have C:i=l.length:=om
   subst C
   rw[List.take_length] at ha
   rw[ha];exact⟨rfl,c2⟩
theorem sL (l:List UInt8) (hb:l.length<=bl) (h:H):ai PP kO [st l] h (.v (.bool (l.all aR&&decide (l≠[]))) h):=by
 have J:bl=1000000000:=rfl
 refine aj.pure (Cd ?_) (by simp[flat])
 unfold yE aq
 obtain⟨v2,h2,c1,c2,I⟩:=AF kH pY yj h l
 rw[c1,aa]
 show blt EE h2 .len #[90] [v2] _
 rw[I.len TB,List.length_map]
 refine aL.ind (fun s h'=>h'=h2/\∃ i:Nat,s=[st l,v2,vI l.length,vI i]/\i<=l.length/\(l.take i).all aR=true) (fun s _=>match aI s 3 with | .int _ i=>l.length-i.toNat | _=>0) ?_ ⟨rfl,0,rfl,Nat.zero_le _,rfl⟩
 rintro s h' ⟨rfl,i,rfl,hi,ha⟩
 show nF _ _ (st l) v2 (vI l.length) (vI i) h'
 unfold nF aq
 rw[bI,aa,ae]
 by_cases o:i<l.length
 . rw[if_pos (by simp[o])]
   have p:i<(l.map fun b=>v8 b.toNat).length:=sp o
   rw[I.rd p,List.getElem_map]
   unfold my aq
   simp only[Go.X.binOp_lss,Go.X.binOp_gtr,aa,ag,ae,decide_eq_true_eq]
   by_cases hd:aR l[i]=true
   . have j:=hd
     unfold aR at j
     simp at j
     rw[if_pos so,if_neg om,oI,fq,aa,wrap_i64 om]
     refine⟨⟨trivial,i+1,rfl,om,by rw[cQ _ _ _ o,ha,hd];rfl⟩,?_⟩
     show l.length-((i+1:Nat):Int).toNat<l.length-(i:Int).toNat
     omega
   . have j:aR l[i]=false:=sp hd
     have e:=kN _ l i o j
     unfold aR at j
     simp at j
     rw[e]
     by_cases R:(l[i].toNat:Int)<48
     . rw[if_neg (by simp[R]),if_pos trivial];exact⟨rfl,c2⟩
     . rw[if_pos so,if_pos om];exact⟨rfl,c2⟩
 . rw[if_neg (by simp[o])]
   have C:i=l.length:=om
   subst C
   rw[List.take_length] at ha
   rw[ha,GH,Go.X.di,aa];exact⟨sm,c2⟩
theorem Fv (l:List UInt8) (hb:l.length<=bl) (h:H):ai PP uQ [st l] h (.v (.bool (l.all P6&&decide (l.length<=200))) h):=by
 have J:bl=1000000000:=rfl
 refine aj.pure (GI ?_) (by simp[flat])
 unfold EC aq
 obtain⟨v2,h2,c1,c2,I⟩:=AF kH pY yj h l
 rw[c1,aa]
 show blt EE h2 .len #[90] [v2] _
 rw[I.len TB,List.length_map]
 refine aL.ind (fun s h'=>h'=h2/\∃ i:Nat,s=[st l,v2,vI l.length,vI i]/\i<=l.length/\(l.take i).all P6=true) (fun s _=>match aI s 3 with | .int _ i=>l.length-i.toNat | _=>0) ?_ ⟨rfl,0,rfl,Nat.zero_le _,rfl⟩
 rintro s h' ⟨rfl,i,rfl,hi,ha⟩
 show sM _ _ (st l) v2 (vI l.length) (vI i) h'
 unfold sM aq
 rw[bI,aa,ae]
 by_cases o:i<l.length
 . rw[if_pos (by simp[o])]
   have p:i<(l.map fun b=>v8 b.toNat).length:=sp o
   rw[I.rd p,List.getElem_map]
   unfold qW aq
   simp only[Go.X.binOp_lss,Go.X.binOp_gtr,aa,ag,ae,decide_eq_true_eq]
   by_cases hd:P6 l[i]=true
   . have j:=hd
     unfold P6 at j
     simp at j
     rw[if_pos so,if_neg om,oI,fq,aa,wrap_i64 om]
     refine⟨⟨trivial,i+1,rfl,om,by rw[cQ _ _ _ o,ha,hd];rfl⟩,?_⟩
     show l.length-((i+1:Nat):Int).toNat<l.length-(i:Int).toNat
     omega
   . have j:P6 l[i]=false:=sp hd
     have e:=kN _ l i o j
     unfold P6 at j
     simp at j
     rw[e]
     by_cases R:(l[i].toNat:Int)<32
     . rw[if_neg (by simp[R]),if_pos trivial];exact⟨rfl,c2⟩
     . rw[if_pos so,if_pos om];exact⟨rfl,c2⟩
 . rw[if_neg (by simp[o])]
   have C:i=l.length:=om
   subst C
   rw[List.take_length] at ha
   rw[bb kH,ha,show (.int .i64 200:Value)=vI 200 from rfl,nD,aa];exact⟨sm,c2⟩
theorem ZK {t:TypeId} {n:Nat} (j:(EE.dO t).map (·.agg)=some true) (h2:EE.size t=some n) {h:H} {b:Nat} {cs:List Value} {e:TypeId} {osz ib:Nat} {ro:Bool} (hr:h.row b=some ⟨cs,e,osz,ib,ro⟩) (hn:cs.length=n) :
 X.loadVar EE h t ⟨b,0,none⟩=some (.agg ⟨cs⟩):=by
 cases hi:EE.dO t with
 | none=>rw[hi] at j;cases j
 | some i =>
  rw[hi] at j
  have ha:i.agg=true:=Option.some.inj j
  have o:EE.size t=some i.size:=by unfold Env.size;rw[show EE.types.get t=some i from hi];rfl
  rw[o] at h2
  have hs:i.size=n:=Option.some.inj h2
  unfold X.loadVar
  rw[hi,Option.bind_some,ha,hs]
  show ((h.row b).bind fun x=>takeN n (mT 0 x.cs)).bind _=_
  rw[hr,Option.bind_some,mA,ki (Nat.le_of_eq hn.symm),<-hn,List.take_length];rfl
theorem agR:(EE.dO 42).map (·.agg)=some true:=by kernel_rfl
theorem agW:(EE.dO 142).map (·.agg)=some true:=by kernel_rfl
abbrev sQ (neg:Bool) (num den:List UInt8):Value:=.agg ⟨[.bool neg,st num,st den]⟩
abbrev Qf (neg:Bool) (j:List UInt8):Value:=.agg ⟨[.bool neg,st j]⟩
theorem Wn (b:Bool) (m:List UInt8):bC EE 142 [(0,.bool b),(1,st m)]=some (Qf b m):=by kernel_rfl
theorem Qg (b:Bool) (m d:List UInt8):bC EE 42 [(0,.bool b),(1,st m),(2,st d)]=some (sQ b m d):=by kernel_rfl
theorem Lm:bC EE 42 []=some (sQ false [] []):=by kernel_rfl
theorem Wo {h0 h:H} (f:Fr h0 h) {b:Nat} (hb:h0.next<=b) (o:kJ):Fr h0 (h.put b o):=eV.fr f (eV.put h b o) hb
theorem lB {h0 h:H} (f:Fr h0 h) (e:TypeId) (c:List Value) (k:Nat):Fr h0 (X.newRow h e c k):=f.newRow e c k
abbrev pT (b:Nat):Value:=.pointer (some ⟨b,0,none⟩)
theorem fz {h:H} {e:TypeId} {c:List Value} {K:Value->H->Prop} (k:∀ h',Fr h h'->h'.row h.next=some ⟨c,e,0,0,false⟩->h'.next=h.next+1->K (pT h.next) h'):dW h e (.agg ⟨c⟩) K:=by
 rw[NA];exact k _ (lB (Fr.refl h) _ _ _) (by rw[aS,if_pos rfl]) rfl
theorem bP {h:H} {e:TypeId} {c:List Value} {K:Value->H->Prop} (k:∀ h',Fr h h'->h'.row h.next=some ⟨c,e,0,0,false⟩->h'.next=h.next+1->K (pT h.next) h'):cq h e c K:=by
 rw[wq];exact k _ (lB (Fr.refl h) _ _ _) (by rw[aS,if_pos rfl]) rfl
theorem EK:∀ (c j:List Value),c.length=j.length->sV c j=j
 | [],[],_=>rfl
 | a :: c,[],h=>by simp at h
 | [],b :: j,h=>by simp at h
 | a :: c,b :: j,h=>by rw[kb,EK c j (sp h)]
theorem Ln (c j:List Value) (h:c.length=j.length):ep c 0 j=j:=by
 cases c with
 | nil=>cases j with
  | nil=>rfl
  | cons _ _=>simp at h
 | cons a c=>rw[gU,EK _ _ h]
theorem lV {h:H} {n b:Nat} {cs j:List Value} {e:TypeId} {osz:Nat} {K:H->Prop} (hr:h.row b=some ⟨cs,e,osz,0,false⟩) (hl:j.length=n) (hn:cs.length=n) (ha:da j=true)
 (k:∀ h',eV b h h'->h'.row b=some ⟨j,e,osz,0,false⟩->h'.next=h.next->K h'):af (wa n h (pT b) (.agg ⟨j⟩)) K:=by
 rw[Lo,if_pos hl,bK,hr,Option.bind_some,if_pos ⟨rfl,Nat.le_refl 0,by show 0+j.length<=cs.length;omega,ha⟩,aa]
 refine k _ (eV.put _ _ _) ?_ rfl
 rw[eH,if_pos rfl,Ln _ _ (by show cs.length=j.length;omega)]
theorem Aeg {h:H} {b:Nat} {c v:Value} {e:TypeId} {osz:Nat} {K:H->Prop} (hr:h.row b=some ⟨[c],e,osz,0,false⟩) (hv:cells v=some [v]) (ha:bX v=true)
 (k:∀ h',eV b h h'->h'.row b=some ⟨[v],e,osz,0,false⟩->h'.next=h.next->K h'):af (wa 1 h (pT b) v) K:=by
 rw[tT _ _ _ _ _ hv,if_pos rfl,bK,hr,Option.bind_some,if_pos ⟨rfl,Nat.le_refl 0,Nat.le_refl _,by rw[qp,ha];rfl⟩,aa]
 refine k _ (eV.put _ _ _) ?_ rfl
 rw[eH,if_pos rfl];rfl
theorem aA {h:H} {b o:Nat} {cs:List Value} {e:TypeId} {osz ib:Nat} {ro:Bool} (hr:h.row b=some ⟨cs,e,osz,ib,ro⟩):aw h (.pointer (some ⟨b,o,none⟩))=nth cs o:=by rw[c9,hr];rfl
theorem cO {h:H} {n b:Nat} {cs:List Value} {e:TypeId} {osz ib:Nat} {ro:Bool} (hr:h.row b=some ⟨cs,e,osz,ib,ro⟩) (hn:cs.length=n):fJ n h (pT b)=some (.agg ⟨cs⟩):=by
 rw[qo,hr,Option.bind_some,mA,ki (Nat.le_of_eq hn.symm),<-hn,List.take_length];rfl
theorem _root_.Go.X.eV.aQ {b:Nat} {h h':H} (x:eV b h h') {c:Nat} {y:IP} (hr:h.row c=some y) (hb:c≠b) (hc:c<h.next):h'.row c=some y:=by rw[x.row hc hb,hr]
theorem _root_.Go.X.Fr.aQ {h h':H} (x:Fr h h') {c:Nat} {y:IP} (hr:h.row c=some y) (hc:c<h.next):h'.row c=some y:=by rw[fa x hc,hr]
theorem sW (neg:Bool) (j:List UInt8) (h:H):ai PP kQ [.bool neg,st j] h (.v (Qf (neg&&decide (aJ j≠0)) (enc (aJ j))) h):=by
 refine aj.pure (I5 ?_) (by simp[flat])
 unfold G5 uW aq
 rw[wq]
 refine ar (cS j _) ?_
 rw[GH,Go.X.di,aa,Wn,Wn]
 simp only[aa,Lo,bK,aS,ag]
 simp[aa,ZK agW Wp (h:=((X.newRow h 142 [.bool false,st []] 0).put h.next _)) (b:=h.next) (by rw[eH,if_pos rfl])]
 cases neg <;> simp[fE,cN,Wo (lB (Fr.refl h) _ _ _)]
def nH (l:List UInt8):Bool:=decide (l.length<=32)&&decide (trim l=l)
theorem Cj (l:List UInt8) (h:H):ai PP wJ [st l] h (.v (.bool (nH l)) h):=by
 refine aj.pure (NB ?_) (by simp[flat])
 unfold NC aq
 rw[bb kH,show (.int .i64 32:Value)=vI 32 from rfl,nD,aa,ag]
 unfold nH yK aq
 by_cases hl:l.length<=32
 . rw[if_pos (by simp[hl])]
   refine ar (cS l h) ?_
   rw[Go.X.bf,aa,yh]
   exact⟨by simp[hl],Fr.refl h⟩
 . rw[if_neg (by simp[hl])]
   exact⟨by simp[hl],Fr.refl h⟩
def iZ (neg:Bool) (n d:List UInt8):Bool:=nH n&&nH d&&decide (d≠[])&&(if n=[] then !neg&&decide (d=[1]) else decide (Nat.gcd (aJ n) (aJ d)=1))
theorem iG {l:List UInt8} (h:nH l=true):l.length<=32:=by unfold nH at h;simp at h;exact h.1
theorem Ub {l:List UInt8} (h:nH l=true):trim l=l:=by unfold nH at h;simp at h;exact h.2
theorem G6:aJ [1]=1:=dc
theorem EL (n:Nat):(enc n=[1])<->n=1:=⟨fun h=>by have:=congrArg aJ h;rwa [a_,G6] at this,fun h=>by rw[h,FZ]⟩
theorem uT (neg:Bool) (n d:List UInt8) (h:H):ai PP qt [sQ neg n d] h (.v (.bool (iZ neg n d)) h):=by
 refine aj.pure (Lp ?_) (by simp[flat])
 unfold JY aq
 rw[NA]
 simp only[aE,aa,c9,aS,if_true,Option.bind_some,ao,ay,Nat.zero_add]
 have f1:=lB (Fr.refl h) 42 [.bool neg,st n,st d] 0
 have r1:(X.newRow h 42 [.bool neg,st n,st d] 0).row h.next=some ⟨[.bool neg,st n,st d],42,0,0,false⟩:=by rw[aS,if_pos rfl]
 generalize X.newRow h 42 [.bool neg,st n,st d] 0=j at *
 refine ar (Cj n j) ?_
 rw[aY,aa,ag]
 have J:∀ x:Bool,(x=true->iZ neg n d=false)->(x=false->n.length<=32/\d.length<=32/\nH n=true/\nH d=true/\d≠[])->nI (fun v h'=>v=.bool (iZ neg n d)/\Fr h h') (.pointer (some ⟨h.next,0,none⟩)) (.bool x) j:=by
  intro x hx p
  unfold nI aq
  rw[ae]
  cases x with
  | true=>rw[if_pos rfl,hx rfl];exact⟨rfl,f1⟩
  | false =>
   obtain⟨C,I,t1,t2,o⟩:=p rfl
   rw[if_neg dc]
   simp only[aE,aa,c9,r1,Option.bind_some,ao,ay,Nat.zero_add,GH,show (bs [1]:ByteArray)=⟨⟨[1]⟩⟩ from rfl,Go.X.bf,aY,ae,ag]
   by_cases hn:n=[]
   . rw[if_pos (by simp[hn])]
     unfold uX iZ aq
     cases neg <;> simp[hn,t1,t2,o,f1]
     subst hn;simp[t1]
   . rw[if_neg (by simp[hn])]
     unfold uY aq
     by_cases hd:d=[1]
     . rw[if_neg (by simp[hd])]
       refine⟨?_,f1⟩
       unfold iZ
       rw[t1,t2,if_neg hn,hd,G6];simp
     . rw[if_pos (by simp[hd])]
       refine ar (yB n d om om j) ?_
       rw[Go.X.bf,aa]
       refine⟨?_,f1⟩
       unfold iZ
       rw[t1,t2,if_neg hn]
       simp only[EL]
       simp[o]
 cases t1:nH n with
 | false=>exact J true (fun _=>by unfold iZ;rw[t1];rfl) (fun q=>by cases q)
 | true =>
  rw[if_pos (show (!true)=false from rfl)]
  simp only[aE,aa,c9,r1,Option.bind_some,ao,ay,Nat.zero_add]
  refine ar (Cj d j) ?_
  rw[aY,aa,ag]
  cases t2:nH d with
  | false=>exact J true (fun _=>by unfold iZ;rw[t1,t2];rfl) (fun q=>by cases q)
  | true =>
   rw[if_pos (show (!true)=false from rfl)]
   simp only[aE,aa,c9,r1,Option.bind_some,ao,ay,Nat.zero_add,GH,Go.X.bf]
   refine J _ (fun q=>?_) (fun q=>⟨iG t1,iG t2,t1,t2,sp q⟩)
   unfold iZ
   have:d=[]:=sp q
   simp[this]
theorem Acn {h':H} {b:Nat} {cs:List Value} {e:TypeId} {osz ib:Nat} {ro:Bool} (hr:h'.row b=some ⟨cs,e,osz,ib,ro⟩) (hn:cs.length=3) :
 ((addrOf (pT b)).bind fun j=>(X.loadVar EE h' 42 j).bind fun o=>(some []).map (o :: ·))=some [.agg ⟨cs⟩]:=by
 rw[km,Option.bind_some,ZK agR Aco hr hn];rfl
theorem RT {h':H} {b:Nat} {cs:List Value} {e:TypeId} {osz ib:Nat} {ro:Bool} (hr:h'.row b=some ⟨cs,e,osz,ib,ro⟩) (hn:cs.length=3) (x:Value) :
 ((addrOf (pT b)).bind fun j=>(X.loadVar EE h' 42 j).bind fun o=>((some []).map (x :: ·)).map (o :: ·))=some [.agg ⟨cs⟩,x]:=by
 rw[km,Option.bind_some,ZK agR Aco hr hn];rfl
theorem Agn {h':H} {b:Nat} {cs:List Value} {e:TypeId} {osz ib:Nat} {ro:Bool} (hr:h'.row b=some ⟨cs,e,osz,ib,ro⟩) (hn:cs.length=2) :
 ((addrOf (pT b)).bind fun j=>(X.loadVar EE h' 142 j).bind fun o=>(some []).map (o :: ·))=some [.agg ⟨cs⟩]:=by
 rw[km,Option.bind_some,ZK agW Wp hr hn];rfl
end Go.Proofs.YtikojelnedfmpaaGreatDoor
namespace Go.Proofs.YtikojelnedfmpaaGreatDoor
open Go Go.X
set_option maxRecDepth 1000000
theorem EM {g:FuncId} {f c args:List Value} {h:H} {K:Value->H->Prop} (hk:CP g (cW (cW f args) c) h K):DP (.func (.func g) ⟨f⟩ ⟨c⟩) args h K:=⟨hk⟩
theorem Uc (n:Nat) (hn:n<65536) (h:H):CP mn [.int .u64 n] h fun w h'=>h'=h/\∃ L,w=vI L/\L<=16/\n<2 ^ L/\(n≠0->1<=L/\2 ^ (L-1)<=n):=by
 refine .call (DN ?_)
 unfold AL aq
 rw[ae,if_neg dc]
 refine .call (Bi ?_)
 unfold xX aq
 rw[show (.int .u64 4294967296:Value)=dD 4294967296 from rfl,wg,aa,ae,if_neg so]
 unfold mC aq
 rw[show (.int .u64 65536:Value)=dD 65536 from rfl,wg,aa,ae,if_neg so]
 have j:∀ (m a:Nat),m<256->a<=8->(∀ b,b<=8->m<2 ^ b->(m≠0->1<=b/\2 ^ (b-1)<=m)->(fun w h'=>h'=h/\∃ L,w=vI L/\L<=16/\n<2 ^ L/\(n≠0->1<=L/\2 ^ (L-1)<=n)) (vI (a+b)) h)->iy (fun w h'=>h'=h/\∃ L,w=vI L/\L<=16/\n<2 ^ L/\(n≠0->1<=L/\2 ^ (L-1)<=n)) (dD m) (vI a) h:=by
  intro m a hm ha p
  unfold iy aq
  obtain⟨b,C,I,J,R⟩:=RL m hm
  rw[dI lQ yj,aa]
  show af (MV (.string (bs GC)) (.int .u8 (IntKind.u8.wrap ((m:Nat):Int)))) _
  rw[wrap_u8,Nat.mod_eq_of_lt hm]
  have o:MV (.string (bs GC)) (.int .u8 ((m:Nat):Int))=some (v8 b):=by
   have:bs GC=⟨⟨GC.map UInt8.ofNat⟩⟩:=rfl
   rw[this,rO,if_pos om,Int.toNat_natCast,List.getElem?_map,C]
   show some (Value.int .u8 ((UInt8.ofNat b).toNat:Int))=_
   rw[ofNat_toNat om]
  rw[o,aa,dI yj Zh,aa]
  show af (X.binOp EE .add 3 (vI a) (.int .i64 (IntKind.i64.wrap ((b:Nat):Int)))) _
  rw[wrap_i64 om,dm _ _ _ _ om,aa]
  exact p b I J R
 unfold mD aq
 rw[show (.int .u64 256:Value)=dD 256 from rfl,wg,aa,ae]
 by_cases hc:256<=n
 . rw[if_pos (sp hc),show (.int .u64 8:Value)=.int .u64 ((8:Nat):Int) from rfl,qR,aa,show min 8 IntKind.u64.bits=8 from rfl,show (.int .i64 8:Value)=vI 8 from rfl,zI,dm _ _ _ _ om,aa,Nat.shiftRight_eq_div_pow,show (2:Nat) ^ 8=256 from rfl]
   refine j _ _ om om ?_
   intro b b1 b2 b3
   have h0:n / 256≠0:=om
   obtain⟨c1,c2⟩:=b3 h0
   refine⟨rfl,8+b,by rw[Nat.zero_add],om,?_,fun _=>⟨om,?_⟩⟩
   . rw[Nat.pow_add,show (2:Nat) ^ 8=256 from rfl]
     generalize 2 ^ b=P at b2 ⊢
     omega
   . rw[show 8+b-1=8+(b-1) by omega,Nat.pow_add,show (2:Nat) ^ 8=256 from rfl]
     generalize 2 ^ (b-1)=P at c2 ⊢
     omega
 . rw[if_neg (sp hc),zI]
   exact j _ _ om om fun b b1 b2 b3=>⟨rfl,b,by rw[Nat.zero_add],om,b2,b3⟩
theorem JZ {h:H} {b P X:Nat} (hr:h.row b=some ⟨[st (enc P)],9,0,0,false⟩) (o:(enc P).length<=1024) (h2:(enc X).length<=1024):CP fS [st (enc X),pT b] h fun w h'=>eV b h h'/\h'.row b=some ⟨[st (enc (P * X))],9,0,0,false⟩/\w=.bool (decide ((enc (P * X)).length<=1024)):=by
 refine .call (FB ?_)
 unfold Ck aq
 rw[aA hr,ao,aa]
 refine ar (tW _ _ om om h) ?_
 rw[a_,a_]
 refine Aeg hr rfl rfl fun h' j r' p=>?_
 rw[aA r',ao,aa,bb kH,show (.int .i64 1024:Value)=vI 1024 from rfl,nD,aa]
 exact⟨j,r',rfl⟩
def G7 (A n:Nat):Value:=if (enc (A ^ n)).length<=1024 then .tuple ⟨[st (enc (A ^ n)),vI 0]⟩ else .tuple ⟨[st [],vI 9]⟩
theorem qj {a b:Nat} (h:a<=b):(enc a).length<=(enc b).length:=by
 have:(enc a).length<=(enc b).length:=kh (by rw[a_];exact h)
 exact this
theorem J0 {a:Nat} (h:a<256):(enc a).length<=1:=mg om
theorem G8 (A n:Nat) (hA:(enc A).length<=1024) (hn:n<=1000000000) (h:H):ai PP wK [st (enc A),vI n] h (.v (G7 A n) h):=by
 refine aj.pure (I6 ?_) (by unfold G7;split <;> simp[flat])
 unfold G9 aq
 refine ar (cS _ h) ?_
 rw[a_,zI,bI,aa,ae,if_neg sm,cn,aa,ae]
 have hO:ai PP gB [.int .u64 1] h (.v (st (enc 1)) h):=mw 1 om h
 have l1:(enc 1).length<=1024:=by rw[FZ];decide
 by_cases h0:n=0
 . rw[if_pos (by simp[h0])]
   refine ar hO ?_
   subst h0
   unfold G7;rw[Nat.pow_zero,if_pos l1];exact⟨rfl,Fr.refl h⟩
 rw[if_neg (by simp[h0]),GH,Go.X.bf,aa,ag]
 have J:∀ x:Bool,(x=true->A ^ n=A)->(x=false->2<=A)->pD (fun v h'=>v=G7 A n/\Fr h h') (st (enc A)) (vI n) (.bool x) h:=by
  intro x hx hy
  unfold pD aq
  rw[ae]
  cases x with
  | true=>rw[if_pos rfl];unfold G7;rw[hx rfl,if_pos hA];exact⟨rfl,Fr.refl h⟩
  | false =>
   have hA2:=hy rfl
   have hA0:A≠0:=om
   rw[if_neg dc,show (.int .i64 8192:Value)=vI 8192 from rfl,fu,aa,ae]
   by_cases hb:8192<n
   . rw[if_pos (sp hb)]
     have:¬ (enc (A ^ n)).length<=1024:=by
      intro q
      have U:=gV q
      have h2:2 ^ n<=A ^ n:=Nat.pow_le_pow_left hA2 n
      have key:∀ K,8 * K<=n->A ^ n<256 ^ K->False:=fun K hK U=>by
       rw[show (256:Nat)=2 ^ 8 from rfl,<-Nat.pow_mul] at U
       exact absurd (Nat.lt_of_le_of_lt (Nat.le_trans (Nat.pow_le_pow_right om hK) h2) U) (Nat.lt_irrefl _)
      exact key 1024 om U
     unfold G7;rw[if_neg this];exact⟨rfl,Fr.refl h⟩
   rw[if_neg (sp hb)]
   refine ar hO ?_
   refine bP fun U f1 r1 n1=>Aeg r1 rfl rfl fun h2 f2 r2 n2=>?_
   rw[dI Zh Nw,aa]
   have e1:(Value.int .u64 (IntKind.u64.wrap (n:Int)))=.int .u64 (n:Int):=by rw[bB,Nat.mod_eq_of_lt om]
   show CP mn [.int .u64 (IntKind.u64.wrap (n:Int))] h2 _
   rw[e1]
   refine (Uc n om h2).mono ?_
   rintro w h' ⟨rfl,L,rfl,L1,L2,L3⟩
   obtain⟨L4,L5⟩:=L3 h0
   rw[oI,pX _ _ _ _ L4 om,aa]
   have F2:Fr h h':=f2.fr f1 nlr
   refine aL.ind (fun s hh=>Fr h hh/\∃ k:Nat,s=[st (enc A),vI n,pT h.next,.func (.func fS) ⟨[]⟩ ⟨[pT h.next]⟩,.int .i64 ((k:Int)-1)]/\k<=L/\h.next<hh.next/\hh.row h.next=some ⟨[st (enc (A ^ (n / 2 ^ k)))],9,0,0,false⟩/\(enc (A ^ (n / 2 ^ k))).length<=1024) (fun s _=>match aI s 4 with | .int _ i=>(i+1).toNat | _=>0) ?_ ⟨F2,L,?_,Nat.le_refl _,om,?_,?_⟩
   rotate_left
   . rw[show (vI (L-1))=.int .i64 ((L:Int)-1) from congrArg (Value.int .i64) om]
   . rw[r2,Nat.div_eq_of_lt L2,Nat.pow_zero]
   . rw[Nat.div_eq_of_lt L2,Nat.pow_zero];exact l1
   rintro s hh ⟨ff,k,rfl,hk,PW,rr,hl⟩
   show sX _ _ (st (enc A)) (vI n) (pT h.next) (.func (.func fS) ⟨[]⟩ ⟨[pT h.next]⟩) (.int .i64 ((k:Int)-1)) hh
   unfold sX aq
   rw[Go.X.binOp_geq,aa,ae]
   by_cases hk0:k=0
   . subst hk0
     rw[if_neg sm,aA rr,ao,aa]
     rw[Nat.pow_zero,Nat.div_one] at hl ⊢
     unfold G7;rw[if_pos hl];exact⟨rfl,ff⟩
   . rw[if_pos so,aA rr,ao,aa]
     obtain⟨j,rfl⟩:∃ j,k=j+1:=⟨k-1,om⟩
     have ej:((j+1:Nat):Int)-1=(j:Int):=om
     rw[ej]
     have hdiv:n / 2 ^ j=2 * (n / 2 ^ (j+1))+n / 2 ^ j % 2:=by
      rw[Nat.pow_succ,<-Nat.div_div_eq_div_mul];omega
     have hle:n / 2 ^ j<=n:=Nat.div_le_self _ _
     refine EM ((JZ rr hl hl).mono ?_)
     rintro w h3 ⟨f3,r3,rfl⟩
     have o:Fr h h3:=f3.fr ff nlr
     rw[aY,aa,ag]
     have p:∀ m,m<=n->¬ (enc (A ^ m)).length<=1024->¬ (enc (A ^ n)).length<=1024:=fun m hm q q2=>q (Nat.le_trans (qj (Nat.pow_le_pow_right om hm)) q2)
     have sq:A ^ (n / 2 ^ (j+1)) * A ^ (n / 2 ^ (j+1))=A ^ (2 * (n / 2 ^ (j+1))):=by rw[<-Nat.pow_add,Nat.two_mul]
     rw[sq] at r3 ⊢
     by_cases hq:(enc (A ^ (2 * (n / 2 ^ (j+1))))).length<=1024
     . rw[if_pos (by simp[hq]),qR,aa,oI,show min j IntKind.i64.bits=j from by show min j 64=j;omega,Nat.shiftRight_eq_div_pow]
       rw[Lc,aa,wrap_i64 (Nat.le_trans (Nat.and_le_left) om),Nat.and_one_is_mod,cn,aa,ag]
       have fin:∀ C,Fr h C->h.next<C.next->C.row h.next=some ⟨[st (enc (A ^ (n / 2 ^ j)))],9,0,0,false⟩->(enc (A ^ (n / 2 ^ j))).length<=1024->fT (fun v h'=>v=G7 A n/\Fr h h') (fun s' I=>(Fr h I/\∃ k:Nat,s'=[st (enc A),vI n,pT h.next,.func (.func fS) ⟨[]⟩ ⟨[pT h.next]⟩,.int .i64 ((k:Int)-1)]/\k<=L/\h.next<I.next/\I.row h.next=some ⟨[st (enc (A ^ (n / 2 ^ k)))],9,0,0,false⟩/\(enc (A ^ (n / 2 ^ k))).length<=1024)/\(match aI s' 4 with | .int _ i=>(i+1).toNat | _=>0)<((j:Int)+1).toNat) (st (enc A)) (vI n) (pT h.next) (.func (.func fS) ⟨[]⟩ ⟨[pT h.next]⟩) (vI j) (.bool false) C:=by
        intro C f4 n4 r4 l4
        unfold fT aq
        rw[ae,if_neg dc,Go.X.binOp_sub,aa,wrap64 om om]
        refine⟨⟨f4,j,rfl,om,n4,r4,l4⟩,?_⟩
        show ((j:Int)-1+1).toNat<((j:Int)+1).toNat
        omega
       by_cases Ago:n / 2 ^ j % 2=1
       . rw[if_pos (by simp[Ago])]
         refine EM ((JZ r3 hq hA).mono ?_)
         rintro w C ⟨f4,r4,rfl⟩
         rw[<-Nat.pow_succ,Nat.succ_eq_add_one,show 2 * (n / 2 ^ (j+1))+1=n / 2 ^ j by omega] at r4 ⊢
         rw[aY,aa]
         by_cases R:(enc (A ^ (n / 2 ^ j))).length<=1024
         . have:=fin C (f4.fr o nlr) (Nat.lt_of_lt_of_le PW (Nat.le_trans f3.next f4.next)) r4 R
           simpa [R] using this
         . unfold fT aq
           rw[ae,if_pos so]
           unfold G7;rw[if_neg (p _ hle R)];exact⟨rfl,f4.fr o nlr⟩
       . rw[if_neg so]
         have e0:2 * (n / 2 ^ (j+1))=n / 2 ^ j:=om
         rw[e0] at r3 hq
         have:=fin h3 o (Nat.lt_of_lt_of_le PW f3.next) r3 hq
         simpa using this
     . rw[if_neg so]
       unfold fT aq
       rw[ae,if_pos rfl]
       unfold G7;rw[if_neg (p _ om hq)];exact⟨rfl,o⟩
 by_cases hz:A=0
 . have:=J true (fun _=>by subst hz;exact Nat.zero_pow om) (fun q=>by cases q)
   simpa [hz,du] using this
 . rw[if_pos (by simp[fE,hz])]
   refine ar hO ?_
   rw[Go.X.bf,aa]
   have:=J (decide (enc A=enc 1)) (fun q=>by have:=La (sp q);rw[this,Nat.one_pow]) (fun q=>by
    have:A≠1:=fun e=>by rw[e] at q;simp at q
    omega)
   exact this
end Go.Proofs.YtikojelnedfmpaaGreatDoor
