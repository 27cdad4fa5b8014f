/- PrintAgain: of any text that is read as a formula, the text that is told of it is read as the same formula and told as it was. No conditions of its own. -/
import Derived.KernelRfl
import Derived.Lib.MakeNoZero
import Derived.Test.YtikojelnedfmpaaGreatDoorG
set_option linter.unusedSimpArgs false
set_option linter.unusedVariables false
namespace Go.Proofs.YtikojelnedfmpaaGreatDoor
open Go Go.X
def vC (n:Nat) (A:Nat):Nat:=if h:A=0\/n<2\/A % n≠0 then 0 else vC n (A / n)+1
 termination_by A
 decreasing_by exact Nat.div_lt_self (by omega) (by omega)
theorem nJ {n A:Nat} (h:A=0\/n<2\/A % n≠0):vC n A=0:=by rw[vC,dif_pos h]
theorem DO {n A:Nat} (h:¬(A=0\/n<2\/A % n≠0)):vC n A=vC n (A / n)+1:=by rw[vC,dif_neg h]
theorem ZM (n:Nat):∀ k A,A<k->0<A->∃ q,A=n ^ vC n A * q/\0<q:=by
 intro k
 induction k with
 | zero=>intro A h;omega
 | succ k o =>
  intro A hk j
  by_cases hs:A=0\/n<2\/A % n≠0
  . rw[nJ hs];exact⟨A,by rw[Nat.pow_zero,Nat.one_mul],j⟩
  . have hm:n * (A / n)=A:=Nat.mul_div_cancel' (Nat.dvd_of_mod_eq_zero om)
    have p:0<A / n:=by
     rcases Nat.eq_zero_or_pos (A / n) with e | e
     . rw[e] at hm;omega
     . exact e
    have C:A / n<A:=Nat.div_lt_self j om
    obtain⟨q,e,I⟩:=o (A / n) om p
    refine⟨q,?_,I⟩
    rw[DO hs,Nat.pow_succ]
    rw[e] at hm
    rw[Nat.mul_right_comm,Nat.mul_comm (n ^ vC n (A / n) * q) n]
    rw[<-e] at hm ⊢
    exact hm.symm
theorem Qh (n A:Nat) (h:0<A):n ^ vC n A<=A:=by
 obtain⟨q,e,j⟩:=ZM n (A+1) A om h
 calc n ^ vC n A<=n ^ vC n A * q:=Nat.le_mul_of_pos_right _ j
  _=A:=e.symm
theorem vB {n A k:Nat} (hn:2<=n) (h:0<A) (hl:(enc A).length<=k):vC n A<8 * k:=by
 have j:=Qh n A h
 have h2:=gV hl
 have o:2 ^ vC n A<=n ^ vC n A:=Nat.pow_le_pow_left hn _
 rw[show (256:Nat)=2 ^ 8 from rfl,<-Nat.pow_mul] at h2
 exact (Nat.pow_lt_pow_iff_right om).1 (Nat.lt_of_le_of_lt (Nat.le_trans o j) h2)
theorem AM (n A:Nat) (hn:2<=n) (j:n<256) (p:(enc A).length<=100000) (h:H):ai PP uf [st (enc A),dD n] h (.v (vI (vC n A)) h):=by
 refine aj.pure (Lq ?_) (by simp[flat])
 unfold J1 aq
 refine aL.ind (fun s h'=>h'=h/\∃ B k,s=[st (enc B),dD n,vI k]/\vC n A=k+vC n B/\(enc B).length<=100000/\k<=vC n A) (fun s _=>match aI s 0 with | .string b=>aJ b.data.toList | _=>0) ?_ ⟨rfl,A,0,rfl,om,p,om⟩
 rintro s h' ⟨rfl,B,k,rfl,hk,C,I⟩
 show wL _ _ (st (enc B)) (dD n) (vI k) h'
 unfold wL aq
 rw[GH,Go.X.di,aa,ae]
 by_cases h0:B=0
 . rw[if_neg (by simp[h0,du])]
   unfold rV aq
   rw[nJ (.inl h0)] at hk
   rw[show k=vC n A by omega];exact⟨rfl,Fr.refl _⟩
 . rw[if_pos (by simp[h0,fE])]
   have J:vC n A<1000000000:=by
    by_cases o:A=0
    . rw[nJ (.inl o)];omega
    . have:=vB hn om p;omega
   refine ar (mw n om h') ?_
   refine ar (eX _ _ om (by have:=J0 j;omega) h') ?_
   unfold DF
   rw[a_,a_,if_neg om]
   simp only[au,ao,ay,aa]
   rw[zI,cX,aa,ag,if_pos sm]
   unfold uZ rV aq
   rw[Go.X.di,aa,ae]
   by_cases hr:B % n=0
   . rw[if_neg (by simp[hr,du]),oI,dm _ _ _ _ om,aa]
     have R:=DO (n:=n) (A:=B) om
     refine⟨⟨rfl,B / n,k+1,rfl,om,Nat.le_trans (qj (Nat.div_le_self _ _)) C,om⟩,?_⟩
     show aJ (enc (B / n))<aJ (enc B)
     rw[a_,a_];exact Nat.div_lt_self om om
   . rw[if_pos (by simp[hr,fE])]
     rw[nJ (.inr (.inr hr))] at hk
     rw[show k=vC n A by omega];exact⟨rfl,Fr.refl _⟩
theorem Lr (a:List UInt8) (ha:a.length<=100000) (h:H):ai PP Bj [st a] h (.v (.tuple ⟨[vI (vC 2 (aJ a)),vI (vC 5 (aJ a))]⟩) h):=by
 have hl:(enc (aJ a)).length<=100000:=Nat.le_trans (kh nlr) ha
 refine aj.pure (ND ?_) (by simp[flat])
 unfold NE aq
 exact ar (cS a h) (ar (AM 2 _ om om hl h) (ar (AM 5 _ om om hl h) ⟨rfl,Fr.refl _⟩))
def P9 (A n:Nat):List UInt8:=if (enc (A ^ n)).length<=1024 then enc (A ^ n) else []
theorem j4 (A n:Nat) (j:A<256) (hn:n<=1000000000) (h:H):ai PP gv [dD A,vI n] h (.v (st (P9 A n)) h):=by
 refine aj.pure (DQ ?_) (by simp[flat])
 unfold AN aq
 refine ar (mw A om h) (ar (G8 A n (by have:=J0 j;omega) hn h) ?_)
 unfold G7 P9
 by_cases hl:(enc (A ^ n)).length<=1024
 . simp only[if_pos hl,au,ao,ay,aa]
   rw[zI,cX,aa,ae,if_neg sm]
   exact⟨trivial,Fr.refl _⟩
 . simp only[if_neg hl,au,ao,ay,aa]
   rw[zI,cX,aa,ae,if_pos sm]
   exact⟨rfl,Fr.refl _⟩
theorem Ls (n:Nat) (hn:n<9223372036854775808) (h:H):ai PP Bk [.int .i64 n] h (.v (Qf false (enc n)) h):=by
 refine aj.pure (NF ?_) (by simp[flat])
 unfold NG aq
 refine bP fun j f1 r1 o=>?_
 rw[zI,bI,aa,ae,if_neg sm,dI un2 lQ,aa,bB,Nat.mod_eq_of_lt om]
 refine ar (mw n om j) (ar (sW false _ j) ?_)
 refine lV r1 rfl rfl rfl fun h2 f2 r2 p=>?_
 rw[Agn r2 rfl,aa,a_]
 exact⟨rfl,f2.fr f1 nlr⟩
theorem GX (n:Nat) (hn:n<9223372036854775808) (h:H):ai PP Cl [.int .i64 n] h (.v (sQ false (enc n) [1]) h):=by
 refine aj.pure (Ud ?_) (by simp[flat])
 unfold Wq aq
 refine bP fun o f1 r1 C=>ar (Ls n hn o) ?_
 refine bP fun h2 f2 r2 I=>lV r2 rfl rfl rfl fun J f3 j R=>?_
 rw[aE,aa,aA j,ao,aa,aE,aa,aA j,ay,ao,aa,show (bs [1]:ByteArray)=⟨⟨[1]⟩⟩ from rfl,Qg,aa]
 refine lV (f3.aQ (f2.aQ r1 om) om om) rfl rfl rfl fun U f4 p n4=>?_
 rw[Acn p rfl,aa]
 exact⟨rfl,f4.fr (f3.fr (f1.trans f2) om) nlr⟩
def NH (neg:Bool) (n d:List UInt8):Value:=if iZ neg n d=true then sQ neg n d else sQ false [] [1]
theorem oW (neg:Bool) (n d:List UInt8) (h:H):ai PP kp [sQ neg n d] h (.v (NH neg n d) h):=by
 refine aj.pure (FC ?_) (by unfold NH;split <;> simp[flat])
 unfold Cm aq
 refine fz fun C f1 r1 I=>bP fun h2 f2 r2 J=>?_
 rw[cO (n:=3) (f2.aQ r1 om) rfl,aa]
 refine ar (uT neg n d _) ?_
 rw[ae]
 unfold NH
 by_cases hr:iZ neg n d=true
 . rw[if_pos hr,if_pos hr,cO (n:=3) (f2.aQ r1 om) rfl,aa]
   refine lV r2 rfl rfl rfl fun o f3 j p=>?_
   rw[Acn j rfl,aa]
   exact⟨rfl,f3.fr (f1.trans f2) om⟩
 . rw[if_neg hr,if_neg hr]
   refine ar (GX 0 om h2) ?_
   rw[du]
   refine lV r2 rfl rfl rfl fun o f3 j p=>?_
   rw[Acn j rfl,aa]
   exact⟨rfl,f3.fr (f1.trans f2) om⟩
def wD (neg:Bool) (n d:List UInt8):List UInt8:=if iZ neg n d=true then d else [1]
def wN (neg:Bool) (n d:List UInt8):List UInt8:=if iZ neg n d=true then n else []
def wS (neg:Bool) (n d:List UInt8):Bool:=if iZ neg n d=true then neg else false
theorem GO (neg:Bool) (n d:List UInt8):NH neg n d=sQ (wS neg n d) (wN neg n d) (wD neg n d):=by
 unfold NH wS wN wD;split <;> rfl
theorem RU {neg:Bool} {n d:List UInt8} (h:iZ neg n d=true):nH n=true/\nH d=true/\d≠[]:=by
 unfold iZ at h;simp at h;exact⟨h.1.1.1,h.1.1.2,h.1.2⟩
theorem wF (neg:Bool) (n d:List UInt8):nH (wD neg n d)=true/\wD neg n d≠[]:=by
 unfold wD
 split
 . rename_i h;have:=RU h;exact⟨this.2.1,this.2.2⟩
 . exact⟨dc,sm⟩
theorem Ch (neg:Bool) (n d:List UInt8):nH (wN neg n d)=true:=by
 unfold wN
 split
 . rename_i h;exact (RU h).1
 . decide
theorem vD {l:List UInt8} (h:nH l=true):enc (aJ l)=l:=by rw[yh,Ub h]
theorem P_ (neg:Bool) (n d:List UInt8):0<aJ (wD neg n d):=by
 have ⟨j,h2⟩:=wF neg n d
 rcases Nat.eq_zero_or_pos (aJ (wD neg n d)) with e | e
 . have:=vD j;rw[e,du] at this;exact absurd this.symm h2
 . exact e
def sP (D:Nat):Bool:=decide (2 ^ vC 2 D * 5 ^ vC 5 D=D)
def mV (D:Nat):Nat:=if sP D=true then max (vC 2 D) (vC 5 D) else 0
def JV (D:Nat):Value:=.tuple ⟨[vI (mV D),.bool (sP D)]⟩
theorem G_ (E:Env) (h:H) (ats:Array TypeId) (a b:Nat) (K:Value->H->Prop):blt E h .max ats [vI a,vI b] K=K (vI (max a b)) h:=by
 rw[wk,show max (a:Int) (b:Int)=((max a b:Nat):Int) by omega]
theorem oV (neg:Bool) (n d:List UInt8) (h:H):ai PP kq [sQ neg n d] h (.v (JV (aJ (wD neg n d))) h):=by
 refine aj.pure (FD ?_) (by unfold JV;simp[flat])
 unfold Cn aq
 refine fz fun p f1 r1 I=>?_
 rw[cO (n:=3) r1 rfl,aa]
 refine ar (oW neg n d p) ?_
 rw[GO,Wr,ay,ay,ao,aa]
 obtain⟨t1,t2⟩:=wF neg n d
 have C:=P_ neg n d
 have o:=vD t1
 generalize wD neg n d=D at *
 have hl:=iG t1
 have J:=vB (n:=2) om C (by rw[o];exact hl)
 have R:=vB (n:=5) om C (by rw[o];exact hl)
 have U:(enc (2 ^ vC 2 (aJ D))).length<=32:=Nat.le_trans (qj (Qh 2 _ C)) (by rw[o];exact hl)
 have p5:(enc (5 ^ vC 5 (aJ D))).length<=32:=Nat.le_trans (qj (Qh 5 _ C)) (by rw[o];exact hl)
 refine ar (Lr D om p) ?_
 rw[au,ao,aa,au,ay,ao,aa]
 refine ar (j4 2 _ om om p) (ar (j4 5 _ om om p) ?_)
 unfold P9
 rw[if_pos om,if_pos om]
 refine ar (tW _ _ om om p) ?_
 rw[a_,a_,Go.X.di,aa,ae]
 have j:(enc (2 ^ vC 2 (aJ D) * 5 ^ vC 5 (aJ D))=D)<->2 ^ vC 2 (aJ D) * 5 ^ vC 5 (aJ D)=aJ D:=by
  constructor
  . intro e;exact La (e.trans o.symm)
  . intro e;rw[e,o]
 unfold JV mV sP
 by_cases he:2 ^ vC 2 (aJ D) * 5 ^ vC 5 (aJ D)=aJ D
 . rw[if_neg (by simpa using j.2 he),G_,if_pos (sp he)]
   exact⟨by simp[he],f1⟩
 . rw[if_pos (by simpa using fun q=>he (j.1 q)),if_neg (sp he)]
   exact⟨by simp[he],f1⟩
theorem Agp (a b:Bool):X.binOp EE .neq 4 (.bool a) (.bool b)=some (.bool (decide (a≠b))):=by cases a <;> cases b <;> kernel_rfl
def NI (j:Bool) (A:Nat) (o:Bool) (B:Nat):Value :=
 if B=0 then .tuple ⟨[sQ false [] [],vI 5]⟩
 else if 32<(enc (A / Nat.gcd A B)).length\/32<(enc (B / Nat.gcd A B)).length then .tuple ⟨[sQ false [] [],vI 4]⟩
 else .tuple ⟨[sQ (decide (A≠0)&&decide (j≠o)) (enc (A / Nat.gcd A B)) (enc (B / Nat.gcd A B)),vI 0]⟩
theorem Lt (p C:Bool) (a b:List UInt8) (ha:a.length<=100000000) (hb:b.length<=100000000) (h:H):ai PP wM [Qf p a,Qf C b] h (.v (NI p (aJ a) C (aJ b)) h):=by
 have la:(enc (aJ a)).length<=100000000:=Nat.le_trans (kh nlr) ha
 have lb:(enc (aJ b)).length<=100000000:=Nat.le_trans (kh nlr) hb
 refine aj.pure (NJ ?_) (by unfold NI;split <;> (try split) <;> simp[flat])
 unfold NK aq
 refine fz fun h1 f1 r1 _=>fz fun h2 f2 r2 _=>bP fun j f3 r3 _=>?_
 have I:=f3.aQ (f2.aQ r1 om) om
 have R:=f3.aQ r2 om
 have F:Fr h j:=(f1.trans f2).trans f3
 rw[aE,aa,aA I,ay,ao,aa]
 refine ar (cS a j) ?_
 rw[aE,aa,aA R,ay,ao,aa]
 refine⟨rfl,ar (cS b j) ?_⟩
 rw[GH,Go.X.bf,aa,ae]
 unfold NI
 have err:∀ (x:Nat),af (wa 3 j (pT h2.next) (sQ false [] [])) (fun U=>af ((addrOf (pT h2.next)).bind fun a0=>(X.loadVar EE U 42 a0).bind fun w0=>((some []).map ((vI x) :: ·)).map (w0 :: ·)) fun vs=>(fun v h'=>v=.tuple ⟨[sQ false [] [],vI x]⟩/\Fr h h') (cN vs) U):=by
  intro x
  refine lV r3 rfl rfl rfl fun h4 f4 r4 n4=>?_
  rw[RT r4 rfl,aa]
  exact⟨rfl,f4.fr F om⟩
 by_cases h0:aJ b=0
 . rw[if_pos (by simp[h0,du]),Lm,aa,if_pos h0]
   exact err 5
 rw[if_neg (by simp[h0,fE]),if_neg h0]
 refine ar (yB _ _ la lb j) ?_
 rw[a_,a_,show (bs [1]:ByteArray)=⟨⟨[1]⟩⟩ from rfl,Go.X.di,aa,ae]
 have hg0:Nat.gcd (aJ a) (aJ b)≠0:=by intro e;exact h0 (Nat.gcd_eq_zero_iff.1 e).2
 have J:rX (fun v h'=>(v=if 32<(enc (aJ a / Nat.gcd (aJ a) (aJ b))).length\/32<(enc (aJ b / Nat.gcd (aJ a) (aJ b))).length then .tuple ⟨[sQ false [] [],vI 4]⟩ else .tuple ⟨[sQ (decide (aJ a≠0)&&decide (p≠C)) (enc (aJ a / Nat.gcd (aJ a) (aJ b))) (enc (aJ b / Nat.gcd (aJ a) (aJ b))),vI 0]⟩)/\Fr h h') (pT h.next) (pT h1.next) (pT h2.next) (st (enc (aJ a / Nat.gcd (aJ a) (aJ b)))) (st (enc (aJ b / Nat.gcd (aJ a) (aJ b)))) j:=by
  unfold rX aq
  have hz:(enc (aJ a / Nat.gcd (aJ a) (aJ b))=[])<->aJ a=0:=by
   rw[fE]
   constructor
   . intro e
     have:=Nat.mul_div_cancel' (Nat.gcd_dvd_left (aJ a) (aJ b))
     rw[e,Nat.mul_zero] at this;exact this.symm
   . intro e;rw[e];exact Nat.zero_div _
  generalize enc (aJ a / Nat.gcd (aJ a) (aJ b))=x at *
  generalize enc (aJ b / Nat.gcd (aJ a) (aJ b))=y at *
  rw[bb kH,show (.int .i64 32:Value)=vI 32 from rfl,fu,aa,ag]
  have J2:∀ c:Bool,(c=true<->32<x.length\/32<y.length)->rY (fun v h'=>(v=if 32<x.length\/32<y.length then .tuple ⟨[sQ false [] [],vI 4]⟩ else .tuple ⟨[sQ (decide (aJ a≠0)&&decide (p≠C)) x y,vI 0]⟩)/\Fr h h') (pT h.next) (pT h1.next) (pT h2.next) (st x) (st y) (.bool c) j:=by
   intro c hc
   unfold rY aq
   rw[ae]
   by_cases o:32<x.length\/32<y.length
   . rw[if_pos (hc.2 o),Lm,aa,if_pos o]
     exact err 4
   . rw[if_neg (fun q=>o (hc.1 q)),if_neg o,GH,Go.X.di,aa,ag]
     unfold wO aq
     by_cases hx:x=[]
     . rw[if_neg (by simp[hx]),Qg,aa]
       refine lV r3 rfl rfl rfl fun h4 f4 r4 n4=>?_
       rw[RT r4 rfl,aa]
       have e:(decide (aJ a≠0)&&decide (p≠C))=false:=by simp[hz.1 hx]
       rw[e];exact⟨rfl,f4.fr F om⟩
     . rw[if_pos (by simp[hx]),aE,aa,aA I,ao,aa,aE,aa,aA R,ao,aa,Agp,aa,Qg,aa]
       refine lV r3 rfl rfl rfl fun h4 f4 r4 n4=>?_
       rw[RT r4 rfl,aa]
       have:aJ a≠0:=fun e=>hx (hz.2 e)
       have e:(decide (aJ a≠0)&&decide (p≠C))=decide (p≠C):=by simp[this]
       rw[e];exact⟨rfl,f4.fr F om⟩
  by_cases hx:32<x.length
  . rw[if_neg (by simp[hx])]
    exact J2 true (by simp[hx])
  . rw[if_pos so,bb kH,fu,aa]
    exact J2 _ so
 by_cases hg:Nat.gcd (aJ a) (aJ b)=1
 . rw[if_neg (by simp[hg,FZ])]
   rw[hg,Nat.div_one,Nat.div_one] at J ⊢
   exact J
 . rw[if_pos (by simpa [EL] using hg)]
   have lg:(enc (Nat.gcd (aJ a) (aJ b))).length<=100000000:=Nat.le_trans (qj (Nat.gcd_le_right _ om)) lb
   refine ar (eX _ _ la lg j) ?_
   unfold DF
   rw[a_,a_,if_neg hg0]
   simp only[au,ao,ay,aa]
   refine ar (eX _ _ lb lg j) ?_
   unfold DF
   rw[a_,a_,if_neg hg0]
   simp only[au,ao,ay,aa]
   exact J
theorem Ws (c:UInt8):∀ (l:List UInt8) (i:Nat),X.xY c.toNat l i=if l.contains c=true then ((i+(l.takeWhile (· != c)).length:Nat):Int) else -1:=by
 intro l
 induction l with
 | nil=>intro i;rfl
 | cons a l j =>
  intro i
  show (bif Nat.beq a.toNat c.toNat then (i:Int) else X.xY c.toNat l (i+1))=_
  rw[ax,List.contains_cons]
  by_cases e:a=c
  . subst e
    simp
  . have o:a.toNat≠c.toNat:=fun q=>e (UInt8.toNat_inj.1 q)
    have p:(c == a)=false:=by simpa using fun q=>e q.symm
    have C:(a :: l).takeWhile (· != c)=a :: l.takeWhile (· != c):=by rw[List.takeWhile_cons,if_pos (sp e)]
    rw[decide_eq_false o,cond_false,j,p,Bool.false_or,C,List.length_cons]
    split
    . omega
    . rfl
def ZN (c:UInt8) (l:List UInt8):Int:=if l.contains c=true then (((l.takeWhile (· != c)).length:Nat):Int) else -1
theorem Ak (l:List UInt8) (c:UInt8) (h:H):CP aV [st l,v8 c.toNat] h fun w h'=>h'=h/\w=.int .i64 (ZN c l):=by
 refine .ext ⟨⟨_,_,rfl,rfl⟩,Tryz.f206,Extern.BytealgIndexByte.indexByte,JU.funcs aV Tryz.f206 (by kernel_rfl),by kernel_rfl,by kernel_rfl,by kernel_rfl,?_⟩
 intro ρ ARGS W o p
 cases o with
 | cons _ I _ L1 C hl =>
  cases hl with
  | cons _ J _ L2 h2 j =>
   cases j
   cases C
   cases h2
   refine⟨_,_,ρ,_,W,⟨rfl,rfl⟩,X.Co l c.toNat,?_,p,Ext.refl _ _ _⟩
   have e:X.xY (Nat.mod c.toNat 256) l 0=ZN c l:=by
    show X.xY (c.toNat % 256) l 0=ZN c l
    rw[Nat.mod_eq_of_lt c.toNat_lt,Ws,Nat.zero_add];rfl
   rw[e];exact .int _ _
theorem I7 (l:List UInt8) (c:UInt8) (h:H):ai PP cG [st l,v8 c.toNat] h (.v (.int .i64 (ZN c l)) h):=by
 refine aj.pure (nf ?_) (by simp[flat])
 unfold iH aq
 refine (Ak l c h).mono ?_
 rintro w h' ⟨rfl,rfl⟩
 exact⟨rfl,Fr.refl _⟩
theorem G' (l:List UInt8) (c:UInt8) (h:H):ai PP de [st l,st [c]] h (.v (.int .i64 (ZN c l)) h):=by
 refine aj.pure (qu ?_) (by simp[flat])
 unfold kr aq
 rw[bb kH,show (((([c]:List UInt8).length:Nat)):Int)=((1:Nat):Int) from rfl,zI,cn,aa,ag,if_pos dc,Go.X.bf,aa]
 unfold eP aq
 rw[ae]
 have j:MV (st [c]) (vI 0)=some (v8 c.toNat):=by rw[rO,if_pos dc];rfl
 by_cases e:[c]=l
 . rw[if_pos (sp e)]
   subst e
   refine⟨?_,Fr.refl _⟩
   unfold ZN;simp
 . rw[if_neg (sp e),oI,cn,aa,ae,if_pos dc,show (.int .i64 0:Value)=vI 0 from rfl,j,aa]
   exact ar (I7 l c h) ⟨rfl,Fr.refl _⟩
def gD (c:UInt8) (l:List UInt8):List UInt8:=l.takeWhile (· != c)
def iq (c:UInt8) (l:List UInt8):List UInt8:=(l.dropWhile (· != c)).drop 1
theorem I8 (p:UInt8->Bool) (l:List UInt8):l.drop (l.takeWhile p).length=l.dropWhile p:=by
 induction l with
 | nil=>rfl
 | cons a l j =>
  rw[List.takeWhile_cons,List.dropWhile_cons]
  split
  . rw[List.length_cons,List.drop_succ_cons,j]
  . rfl
theorem AO (p:UInt8->Bool) (l:List UInt8):l.take (l.takeWhile p).length=l.takeWhile p:=by
 induction l with
 | nil=>rfl
 | cons a l j =>
  rw[List.takeWhile_cons]
  split
  . rw[List.length_cons,List.take_succ_cons,j]
  . rfl
theorem ZO {c:UInt8} {l:List UInt8} (h:l.contains c=true):(gD c l).length<l.length:=by
 unfold gD
 induction l with
 | nil=>cases h
 | cons a l j =>
  rw[List.takeWhile_cons]
  split
  . rename_i q
    rw[List.contains_cons] at h
    have e:(c == a)=false:=by simpa using fun r=>(by simpa using q:a≠c) r.symm
    rw[e,Bool.false_or] at h
    have:=j h
    simp;exact this
  . simp
theorem vE {c:UInt8} {l:List UInt8} (h:l.contains c=false):gD c l=l/\iq c l=[]:=by
 unfold gD iq
 induction l with
 | nil=>exact⟨rfl,rfl⟩
 | cons a l j =>
  rw[List.contains_cons] at h
  simp at h
  have e:(a != c)=true:=by simpa using fun r=>h.1 r.symm
  rw[List.takeWhile_cons,List.dropWhile_cons,if_pos e,if_pos e]
  have:=j (sp h.2)
  exact⟨by rw[this.1],this.2⟩
theorem Wt (l:List UInt8) (c:UInt8) (hl:l.length<=bl) (h:H):ai PP fU [st l,st [c]] h (.v (.tuple ⟨[st (gD c l),st (iq c l),.bool (l.contains c)]⟩) h):=by
 have p:bl=1000000000:=rfl
 refine aj.pure (rZ ?_) (by simp[flat])
 unfold lW aq
 refine ar (G' l c h) ?_
 unfold ZN
 by_cases hc:l.contains c=true
 . rw[if_pos hc,zI,wg,aa,ae,if_pos sm]
   have o:=ZO hc
   unfold gD at o
   rw[dJ kH h l none (some (vI _)) (bm .i64 _ _ _ om) (fw _ _),aa]
   rw[ED kH,aa,show (((([c]:List UInt8).length:Nat)):Int)=((1:Nat):Int) from rfl,dm _ _ _ _ om,aa]
   rw[dJ kH h l (some (vI _)) none (fw _ _) (bm .i64 _ _ _ om),aa,hc,List.drop_zero,AO,List.take_length,<-List.drop_drop,I8]
   exact⟨rfl,Fr.refl _⟩
 . have j:l.contains c=false:=sp hc
   rw[if_neg hc,zI,Go.X.binOp_geq,aa,ae,if_neg dc,j,(vE j).1,(vE j).2]
   exact⟨rfl,Fr.refl _⟩
theorem Lu (l:List UInt8) (c:UInt8) (hl:l.length<=bl) (h:H):ai PP jM [st l,st [c]] h (.v (.tuple ⟨[st (gD c l),st (iq c l),.bool (l.contains c)]⟩) h):=by
 refine aj.pure (Ha ?_) (by simp[flat])
 unfold EN aq
 refine ar (Wt l c hl h) ?_
 simp only[au,ao,ay,aa]
 exact⟨trivial,Fr.refl _⟩
def iY (p l:List UInt8):Bool:=decide (l.take p.length=p)
theorem NL {p l:List UInt8} (h:iY p l=true):p.length<=l.length:=by
 unfold iY at h
 have:=congrArg List.length (of_decide_eq_true h)
 simp at this;omega
theorem sY (l p:List UInt8) (hl:l.length<=bl) (h:H):ai PP ca [st l,st p] h (.v (.bool (iY p l)) h):=by
 refine aj.pure (ng ?_) (by simp[flat])
 unfold iI dE aq
 rw[bb kH,bb kH,wg,aa,ag]
 by_cases hc:p.length<=l.length
 . rw[if_pos (sp hc),bb kH,dJ kH h l none (some (vI _)) (bm .i64 _ _ _ hc) (fw _ _),aa,Go.X.bf,aa,List.drop_zero]
   exact⟨rfl,Fr.refl _⟩
 . rw[if_neg (sp hc)]
   have:iY p l=false:=by
    cases e:iY p l with
    | false=>rfl
    | true=>exact absurd (NL e) hc
   rw[this];exact⟨rfl,Fr.refl _⟩
theorem lU (l p:List UInt8) (hl:l.length<=bl) (h:H):ai PP bo [st l,st p] h (.v (.bool (iY p l)) h):=by
 refine aj.pure (yL ?_) (by simp[flat])
 unfold ug aq
 exact ar (sY l p hl h) ⟨rfl,Fr.refl _⟩
def yM (p l:List UInt8):List UInt8:=if iY p l=true then l.drop p.length else l
theorem Hb (l p:List UInt8) (hl:l.length<=bl) (h:H):ai PP dP [st l,st p] h (.v (.tuple ⟨[st (yM p l),.bool (iY p l)]⟩) h):=by
 refine aj.pure (nh ?_) (by simp[flat])
 unfold iJ aq
 refine ar (sY l p hl h) ?_
 rw[aY,aa,ae]
 unfold yM
 by_cases hc:iY p l=true
 . rw[if_neg (by simp[hc]),if_pos hc,bb kH,dJ kH h l (some (vI _)) none (fw _ _) (bm .i64 _ _ _ (NL hc)),aa,List.take_length,hc]
   exact⟨rfl,Fr.refl _⟩
 . rw[if_pos (sp hc),if_neg hc]
   simp only[Bool.not_eq_true] at hc
   rw[hc];exact⟨rfl,Fr.refl _⟩
theorem AP (l p:List UInt8) (hl:l.length<=bl) (h:H):ai PP iz [st l,st p] h (.v (.tuple ⟨[st (yM p l),.bool (iY p l)]⟩) h):=by
 refine aj.pure (yN ?_) (by simp[flat])
 unfold uh aq
 refine ar (Hb l p hl h) ?_
 simp only[au,ao,ay,aa]
 exact⟨trivial,Fr.refl _⟩
def dX (l:List UInt8):Nat:=l.foldl (fun n c=>n * 10+(c.toNat-48)) 0
theorem Agq (n K:Nat) (h:n<=K):10 ^ n<=256 ^ K:=Nat.le_trans (Nat.pow_le_pow_left om _) (Nat.pow_le_pow_right om h)
theorem Hc (l:List UInt8):∀ n,l.foldl (fun n c=>n * 10+(c.toNat-48)) n=n * 10 ^ l.length+dX l:=by
 induction l with
 | nil=>intro n;simp[dX]
 | cons a l j =>
  intro n
  unfold dX
  rw[List.foldl_cons,List.foldl_cons,j,j (0 * 10+(a.toNat-48)),List.length_cons,Nat.pow_succ,Nat.add_mul,Nat.zero_mul,Nat.zero_add,Nat.mul_assoc,Nat.mul_comm 10]
  omega
theorem NM (a b:List UInt8):dX (a++b)=dX a * 10 ^ b.length+dX b:=by
 rw[dX,List.foldl_append,Hc];rfl
theorem J3 (a:List UInt8) (c:UInt8):dX (a++[c])=dX a * 10+(c.toNat-48):=by simp[dX,List.foldl_append]
theorem Wu:dX []=0:=rfl
theorem NN {c:UInt8} (h:aR c=true):48<=c.toNat/\c.toNat<=57:=by unfold aR at h;simpa using h
theorem J5 (c:UInt8) (l:List UInt8):dX (c :: l)=(c.toNat-48) * 10 ^ l.length+dX l:=by
 rw[dX,List.foldl_cons,Hc,Nat.zero_mul,Nat.zero_add]
theorem Lv (l:List UInt8) (h:l.all aR=true):dX l<10 ^ l.length:=by
 induction l with
 | nil=>decide
 | cons c l j =>
  rw[List.all_cons,Bool.and_eq_true] at h
  have o:=j h.2
  have h2:=NN h.1
  rw[J5,List.length_cons,Nat.pow_succ]
  have p:(c.toNat-48) * 10 ^ l.length<=9 * 10 ^ l.length:=Nat.mul_le_mul_right _ om
  omega
theorem Hd (l:List UInt8) (i:Nat) (hi:i<l.length):dX (l.take (i+1))=dX (l.take i) * 10+(l[i].toNat-48):=by
 rw[List.take_add_one,List.getElem?_eq_getElem hi,Option.toList_some,J3]
theorem NO {l:List UInt8} (h:l.all aR=true):(enc (dX l)).length<=l.length:=by
 refine mg (Nat.lt_of_lt_of_le (Lv l h) (Nat.pow_le_pow_left om _))
def dpP (l:List UInt8):List UInt8 × Nat:=if l=[]\/l.all aR=false then ([],3) else if 400<l.length then ([],9) else (enc (dX l),0)
def seV (p:List UInt8 × Nat):Value:=.tuple ⟨[st p.1,vI p.2]⟩
theorem I9 (l:List UInt8) (hb:l.length<=bl) (h:H):ai PP yO [st l] h (.v (seV (dpP l)) h):=by
 have qS:bl=1000000000:=rfl
 refine aj.pure (Lw ?_) (by unfold seV;simp[flat])
 unfold J7 aq
 rw[GH,Go.X.bf,aa,ag]
 have J:∀ x:Bool,(x=true<->l=[]\/l.all aR=false)->r9 (fun v h'=>v=seV (dpP l)/\Fr h h') (st l) (.bool x) h:=by
  intro x hx
  unfold r9 aq
  rw[ae]
  unfold dpP
  by_cases hc:l=[]\/l.all aR=false
  . rw[if_pos (hx.2 hc),if_pos hc];exact⟨rfl,Fr.refl _⟩
  rw[if_neg (fun q=>hc (hx.1 q)),if_neg hc,bb kH,show (.int .i64 400:Value)=vI 400 from rfl,fu,aa,ae]
  by_cases hl:400<l.length
  . rw[if_pos (sp hl),if_pos hl];exact⟨rfl,Fr.refl _⟩
  rw[if_neg (sp hl),if_neg hl]
  have hd:l.all aR=true:=by
   cases e:l.all aR with
   | true=>rfl
   | false=>exact absurd (.inr e) hc
  refine aL.ind (fun s h'=>Fr h h'/\∃ a b,s=[st b,st (enc (dX a))]/\l=a++b) (fun s _=>match aI s 0 with | .string b=>b.data.toList.length | _=>0) ?_ ⟨Fr.refl _,[],l,by rw[Wu,du];rfl,rfl⟩
  rintro s R ⟨f1,a,b,rfl,p⟩
  show u3 _ _ (st b) (st (enc (dX a))) R
  unfold u3 aq
  have hlen:l.length=a.length+b.length:=by rw[p,List.length_append]
  have I:a.all aR=true/\b.all aR=true:=by rw[p,List.all_append] at hd;simpa using hd
  rw[bb kH,zI,fu,aa,ae]
  by_cases gz:b.length=0
  . have:b=[]:=List.eq_nil_of_length_eq_zero gz
    subst this
    rw[if_neg sm]
    rw[List.append_nil] at p
    rw[p];exact⟨rfl,f1⟩
  . rw[if_pos so,bb kH,Li,show min (9:Int) (b.length:Int)=((min 9 b.length:Nat):Int) by omega]
    rw[dJ kH R b none (some (vI _)) (bm .i64 _ _ _ om) (fw _ _),aa,List.drop_zero]
    obtain⟨v2,h2,c1,c2,c3⟩:=AF kH pY yj R (b.take (min 9 b.length))
    rw[c1,aa]
    show blt EE h2 .len #[90] [v2] _
    rw[c3.len TB,List.length_map]
    have hck:(b.take (min 9 b.length)).length=min 9 b.length:=sm
    have o:b=b.take (min 9 b.length)++b.drop (min 9 b.length):=(List.take_append_drop _ _).symm
    have U:(b.take (min 9 b.length)).all aR=true:=by
     have:=I.2
     rw[o,List.all_append] at this
     simp only[Bool.and_eq_true] at this
     exact this.1
    generalize hK:min 9 b.length=K at *
    generalize hC:b.take K=j at *
    have p9:10 ^ j.length<=1000000000:=Nat.le_trans (Nat.pow_le_pow_right om (show j.length<=9 by omega)) dc
    refine aL.ind (fun s h'=>h'=h2/\∃ i:Nat,s=[st b,st (enc (dX a)),vI K,dD (dX (j.take i)),dD (10 ^ i),v2,vI j.length,vI i]/\i<=j.length) (fun s _=>match aI s 7 with | .int _ i=>j.length-i.toNat | _=>0) ?_ ⟨rfl,0,rfl,Nat.zero_le _⟩
    rintro s h' ⟨rfl,i,rfl,hi⟩
    show u4 _ _ _ (st b) (st (enc (dX a))) (vI K) (dD (dX (j.take i))) (dD (10 ^ i)) v2 (vI j.length) (vI i) h'
    unfold u4 aq
    rw[bI,aa,ae]
    have hti:dX (j.take i)<10 ^ i:=by
     have:=Lv (j.take i) (by rw[List.all_eq_true];intro x hx;exact (List.all_eq_true.1 U) x (List.mem_of_mem_take hx))
     rwa [List.length_take,Nat.min_eq_left hi] at this
    by_cases C:i<j.length
    . rw[if_pos (by simp[C])]
      have vt:i<(j.map fun b=>v8 b.toNat).length:=sp C
      have hdi:=NN ((List.all_eq_true.1 U) _ (List.getElem_mem C))
      have p8:10 ^ i * 10<=1000000000:=by
       rw[<-Nat.pow_succ]
       exact Nat.le_trans (Nat.pow_le_pow_right om om) p9
      rw[c3.rd vt,List.getElem_map,show (.int .u64 10:Value)=dD 10 from rfl,RD _ _ _ _ om,aa]
      rw[show (.int .u8 48:Value)=v8 48 from rfl,uK _ _ _ _ _ hdi.1,aa,wrap_u8,Nat.mod_eq_of_lt (show j[i].toNat-48<256 by omega),dI yj lQ,aa]
      show af (X.binOp EE .add 132 (dD (dX (j.take i) * 10)) (.int .u64 (IntKind.u64.wrap ((j[i].toNat-48:Nat):Int)))) _
      rw[bB,Nat.mod_eq_of_lt (show j[i].toNat-48<18446744073709551616 by omega)]
      rw[JO _ _ _ _ om,aa,RD _ _ _ _ om,aa,oI,fq,aa,wrap_i64 om,<-Hd j i C,<-Nat.pow_succ]
      refine⟨⟨rfl,i+1,rfl,om⟩,?_⟩
      show j.length-((i+1:Nat):Int).toNat<j.length-(i:Int).toNat
      omega
    . rw[if_neg (by simp[C])]
      have Zz:i=j.length:=om
      subst Zz
      rw[List.take_length] at hti ⊢
      have la:(enc (dX a)).length<=400:=Nat.le_trans (NO I.1) om
      refine ar (mw _ om h') (ar (tW _ _ om (by have:=mg (n:=10 ^ j.length) (k:=4) om;omega) h') (ar (mw _ om h') ?_))
      rw[a_,a_]
      have l1:(enc (dX a * 10 ^ j.length)).length<=410:=by
       refine mg ?_
       have R:=Lv a I.1
       have h2:dX a * 10 ^ j.length<10 ^ a.length * 10 ^ j.length:=Nat.mul_lt_mul_of_pos_right R (Nat.pow_pos om)
       rw[<-Nat.pow_add] at h2
       exact Nat.lt_of_lt_of_le h2 (Agq _ 410 om)
      refine ar (Nk _ _ om (by have:=mg (n:=dX j) (k:=4) om;omega) h') ?_
      rw[a_,a_,dJ kH h' b (some (vI K)) none (fw _ _) (bm .i64 _ _ _ om),aa,List.take_length,<-NM]
      refine⟨⟨f1.trans c2,a++j,b.drop K,rfl,by rw[List.append_assoc,<-o];exact p⟩,?_⟩
      show (b.drop K).length<b.length
      simp;omega
 by_cases h0:l=[]
 . rw[if_neg (by simp[h0])];exact J true (by simp[h0])
 . rw[if_pos (by simp[h0])]
   refine ar (Nr l hb h) (J _ ?_)
   constructor
   . intro q;right;simpa using q
   . rintro (q | q)
     . exact absurd q h0
     . rw[q];rfl
structure R3 where
 neg:Bool
 num:List UInt8
 den:List UInt8
 deriving DecidableEq
abbrev rv (r:R3):Value:=sQ r.neg r.num r.den
def ZP (p:R3 × Nat):Value:=.tuple ⟨[rv p.1,vI p.2]⟩
def r0:R3:=⟨false,[],[]⟩
def Cp (j:Bool) (A:Nat) (o:Bool) (B:Nat):R3 × Nat :=
 if B=0 then (r0,5)
 else if 32<(enc (A / Nat.gcd A B)).length\/32<(enc (B / Nat.gcd A B)).length then (r0,4)
 else (⟨decide (A≠0)&&decide (j≠o),enc (A / Nat.gcd A B),enc (B / Nat.gcd A B)⟩,0)
theorem Abg (n K:Nat) (h:n<K):10 ^ n<256 ^ K:=Nat.lt_of_le_of_lt (Nat.pow_le_pow_left om _) (Nat.pow_lt_pow_right om h)
theorem Wv (j:Bool) (A:Nat) (o:Bool) (B:Nat):NI j A o B=ZP (Cp j A o B):=by
 unfold NI Cp;split
 . rfl
 . split <;> rfl
theorem I_ (j o:Bool) (a b:List UInt8) (ha:a.length<=100000000) (hb:b.length<=100000000) (h:H):ai PP wM [Qf j a,Qf o b] h (.v (ZP (Cp j (aJ a) o (aJ b))) h):=by
 rw[<-Wv];exact Lt j o a b ha hb h
def tJ (l:List UInt8):Bool:=l.all aR&&decide (l≠[])
def qv (s:List UInt8):R3 × Nat :=
 if tJ (gD 46 s)=false\/(s.contains 46=true/\tJ (iq 46 s)=false) then (r0,10)
 else if 400<s.length then (r0,9)
 else Cp false (dX (gD 46 s++iq 46 s)) false (10 ^ (iq 46 s).length)
theorem Ly (c:UInt8) (l:List UInt8):(gD c l).length+(iq c l).length<=l.length:=by
 have h:l=l.takeWhile (· != c)++l.dropWhile (· != c):=(List.takeWhile_append_dropWhile).symm
 have h2:=congrArg List.length h
 rw[List.length_append] at h2
 unfold gD iq
 rw[List.length_drop];omega
theorem DR {h o:H} {b:Nat} {cs:List Value} {e:TypeId} {osz:Nat} (F:Fr h o) (hb:h.next<=b) (hr:o.row b=some ⟨cs,e,osz,0,false⟩) (hn:cs.length=3) (r:R3) (x:Nat) {Z:Value} (hz:ZP (r,x)=Z) :
 af (wa 3 o (pT b) (rv r)) (fun j=>af ((addrOf (pT b)).bind fun p=>(X.loadVar EE j 42 p).bind fun C=>((some []).map ((vI x) :: ·)).map (C :: ·)) fun vs=>(fun v h'=>v=Z/\Fr h h') (cN vs) j):=by
 refine lV hr rfl hn rfl fun J f4 I R=>?_
 rw[RT I rfl,aa]
 exact⟨hz,f4.fr F hb⟩
theorem yP:bC EE 42 []=some (rv r0):=Lm
theorem Al (s:List UInt8) (hb:s.length<=bl) (h:H):ai PP nK [st s] h (.v (ZP (qv s)) h):=by
 have R:bl=1000000000:=rfl
 refine aj.pure (Bl ?_) (by unfold ZP;simp[flat])
 unfold xZ aq
 refine bP fun o f1 r1 n1=>?_
 rw[show (bs [46]:ByteArray)=⟨⟨[46]⟩⟩ from rfl]
 refine ar (Lu s 46 hb o) ?_
 simp only[au,ao,ay,aa]
 have U:=Ly 46 s
 refine ar (sL (gD 46 s) om o) ?_
 rw[aY,aa,ag]
 have J:∀ x:Bool,(x=true<->tJ (gD 46 s)=false\/(s.contains 46=true/\tJ (iq 46 s)=false))->fi (fun v h'=>v=ZP (qv s)/\Fr h h') (st s) (pT h.next) (st (gD 46 s)) (st (iq 46 s)) (.bool x) o:=by
  intro x hx
  unfold fi qv aq
  rw[ae]
  by_cases hc:tJ (gD 46 s)=false\/(s.contains 46=true/\tJ (iq 46 s)=false)
  . rw[if_pos (hx.2 hc),if_pos hc,yP,aa]
    exact DR f1 nlr r1 rfl r0 10 rfl
  rw[if_neg (fun q=>hc (hx.1 q)),if_neg hc,bb kH,show (.int .i64 400:Value)=vI 400 from rfl,fu,aa,ae]
  by_cases hl:400<s.length
  . rw[if_pos (sp hl),if_pos hl,yP,aa]
    exact DR f1 nlr r1 rfl r0 9 rfl
  rw[if_neg (sp hl),if_neg hl,Go.X.gW,if_pos om,aa]
  refine ar (I9 (gD 46 s++iq 46 s) (by rw[List.length_append];omega) o) ?_
  have hA:tJ (gD 46 s)=true:=by
   cases e:tJ (gD 46 s) with
   | true=>rfl
   | false=>exact absurd (.inl e) hc
  have p:=hA
  unfold tJ at p
  simp only[Bool.and_eq_true,decide_eq_true_eq] at p
  have hB:(iq 46 s).all aR=true:=by
   cases e:s.contains 46 with
   | false=>rw[(vE e).2];rfl
   | true =>
    cases I:tJ (iq 46 s) with
    | true=>unfold tJ at I;simp only[Bool.and_eq_true] at I;exact I.1
    | false=>exact absurd (.inr ⟨e,I⟩) hc
  have C:(gD 46 s++iq 46 s).all aR=true:=by rw[List.all_append,p.1,hB];rfl
  have im:¬ (gD 46 s++iq 46 s=[]\/(gD 46 s++iq 46 s).all aR=false):=by
   rintro (q | q)
   . exact p.2 (List.append_eq_nil_iff.1 q).1
   . rw[C] at q;cases q
  unfold dpP
  rw[if_neg im,if_neg (by rw[List.length_append];omega)]
  unfold seV
  simp only[au,ao,ay,aa]
  rw[zI,cX,aa,ae,if_neg sm]
  have ld:=NO C
  rw[List.length_append] at ld
  refine ar (sW false _ o) ?_
  rw[bb kH,show (.int .u64 10:Value)=dD 10 from rfl]
  refine ar (j4 10 _ om om o) (ar (sW false _ o) ?_)
  rw[a_]
  have hp:P9 10 (iq 46 s).length=enc (10 ^ (iq 46 s).length):=by
   unfold P9
   refine if_pos (mg ?_)
   exact Abg _ 1024 om
  have lp:(enc (10 ^ (iq 46 s).length)).length<=1024:=mg (Abg _ 1024 om)
  rw[hp,a_]
  refine ar (I_ _ _ _ _ om om o) ?_
  rw[a_,a_]
  show af (dl (ZP _) 0) _
  rw[Bool.false_and,Bool.false_and]
  unfold ZP
  simp only[au,ao,ay,aa]
  exact DR f1 nlr r1 rfl _ _ rfl
 by_cases ha:tJ (gD 46 s)=true
 . have j:=ha
   unfold tJ at j
   rw[j,if_pos dc,ag]
   by_cases hc:s.contains 46=true
   . rw[if_pos hc]
     refine ar (sL (iq 46 s) om o) ?_
     rw[aY,aa]
     refine J _ ?_
     rw[ha,hc]
     show (!(tJ (iq 46 s)))=true<->_
     cases tJ (iq 46 s) <;> simp
   . rw[if_neg hc]
     refine J false ?_
     simp only[Bool.not_eq_true] at hc
     rw[ha,hc];simp
 . have j:=ha
   unfold tJ at j
   simp only[Bool.not_eq_true] at ha j
   rw[if_neg (by rw[j];decide)]
   exact J true (by simp[ha])
theorem qY {h:H} {b o:Nat} {cs:List Value} {v:Value} {e:TypeId} {osz:Nat} {K:H->Prop} (hr:h.row b=some ⟨cs,e,osz,0,false⟩) (hv:cells v=some [v]) (ha:bX v=true) (j:o<cs.length)
 (k:∀ h',eV b h h'->h'.row b=some ⟨ep cs o [v],e,osz,0,false⟩->h'.next=h.next->K h'):af (wa 1 h (.pointer (some ⟨b,o,none⟩)) v) K:=by
 rw[tT _ _ _ _ _ hv,if_pos rfl,bK,hr,Option.bind_some,if_pos ⟨rfl,Nat.zero_le _,by show o+1<=cs.length;omega,by rw[qp,ha];rfl⟩,aa]
 refine k _ (eV.put _ _ _) ?_ rfl
 rw[eH,if_pos rfl]
theorem NP (p l:List UInt8):(yM p l).length<=l.length:=by
 unfold yM;split
 . rw[List.length_drop];omega
 . omega
end Go.Proofs.YtikojelnedfmpaaGreatDoor
namespace Go.X
open Go
variable {E:Env} {t e:TypeId} {z:Value}
inductive oC (e:TypeId) (h0 h:H):Value->List Value->Prop
 | nil:oC e h0 h (.slice none 0 0) []
 | at (b n ib:Nat) (L:List Value) (gz:h0.next<=b) (hb:b<h.next) (hr:h.row b=some ⟨L,e,0,ib,false⟩) (hn:n<=L.length) (hf:ib<=n) (hz:L.length≠0):oC e h0 h (.slice (some ⟨b,0,none⟩) n L.length) (L.take n)
theorem oC.read {h0 h:H} {v:Value} {vs:List Value} (r:oC e h0 h v vs):bk h v vs:=by
 cases r with
 | nil=>exact .nil
 | «at» b n ib L gz hb hr hn hf hz =>
  have hl:(L.take n).length=n:=so
  have:=bk.at (h:=h) b 0 L.length (L.take n) hb ⟨_,hr,by rw[hl,List.drop_zero]⟩ (by rw[hl];exact hn)
  rw[hl] at this;exact this
structure FrV (v:Value) (h h':H):Prop where
 next:h.next<=h'.next
 get:∀ c,c<h.next->bt v c->h'.get c=h.get c
theorem FrV.refl (v:Value) (h:H):FrV v h h:=⟨Nat.le_refl _,fun _ _ _=>rfl⟩
theorem FrV.row {v:Value} {h h':H} (x:FrV v h h') {c:Nat} (hc:c<h.next) (j:bt v c):h'.row c=h.row c:=bg (x.get c hc j)
theorem Aem (T:Tz E t e z) {s2:TypeId} (is2:(E.under s2).map ku=some false) {h0 h:H} {v w:Value} {vs xs:List Value} (hf:Fr h0 h) (r:oC e h0 h v vs) (C:cV h 1 xs.length w=some xs) (hlw:X.lenOf w=some xs.length) (hl:vs.length<=10000000000) (PL:xs.length<=10000000000) (hx:da xs=true) {K:Value->H->Prop}
 (hK:∀ v' h',Fr h0 h'->FrV v h h'->(∀ c,c<h.next->bt v c->bt v' c)->oC e h0 h' v' (vs++xs)->K v' h'):ir E h #[t,s2] v w K:=by
 obtain⟨i,hi,qS,hsi⟩:=T.inf
 have p:∀ (base:Option Addr) (c:Nat),¬ vs.length+xs.length<=c->v=.slice base vs.length c->X.oh h base c=some false->cV h 1 vs.length v=some vs->ir E h #[t,s2] v w K:=by
  intro base c j hv ho hold
  refine⟨.inr (.inl ?_)⟩
  show rz E h [t,s2] v _ K
  unfold rz
  show af (some t) _
  rw[aa,T.un,aa]
  rw[hv] at hold ⊢
  show af (E.size e) _
  rw[T.sz,aa]
  show af ((E.under s2).map ku) _
  rw[is2,aa]
  rw[cond_false]
  rw[hlw,aa,C,aa,hold,aa,ho,aa]
  show (bif Nat.ble (vs.length+xs.length) c then False else _)
  rw[aP]
  simp only[j,decide_false,cond_false]
  unfold tD
  rw[hi,aa,T.zc,aa]
  have ZC:(vs.length+xs.length+64) * 4 * i.bytes<=(vs.length+xs.length+64) * 4 * 16:=Nat.mul_le_mul_left _ qS
  have hc:(Nat.ble ((vs.length+xs.length+64) * 4 * i.bytes) 70368744177664&&Nat.ble (vs.length+xs.length) 70368744177664&&Nat.beq (X.len [z]) 1)=true:=by
   simp only[aP,ax,br,Bool.and_eq_true,decide_eq_true_eq]
   exact⟨⟨om,om⟩,rfl⟩
  rw[hc]
  show ∀ G,_->_
  intro G hG
  rw[dF,dF,MS]
  have:=oC.at (e:=e) (h0:=h0) (h:=newRow h e (vs++xs++List.replicate (G-(vs.length+xs.length)) z) 0) h.next (vs.length+xs.length) 0 (vs++xs++List.replicate (G-(vs.length+xs.length)) z) hf.next sm (by rw[aS,if_pos rfl]) sm (Nat.zero_le _) (by simp;intro q1 q2;subst q1;subst q2;simp at j)
  have e1:(vs++xs++List.replicate (G-(vs.length+xs.length)) z).length=G:=so
  have e2:(vs++xs++List.replicate (G-(vs.length+xs.length)) z).take (vs.length+xs.length)=vs++xs:=by
   have:vs.length+xs.length=(vs++xs).length:=sm
   rw[this,List.take_left]
  rw[e1,e2] at this
  refine hK _ _ (hf.newRow _ _ _) ⟨sm,fun c hc _=>((Fr.refl h).newRow _ _ _).cK c hc⟩ ?_ this
  intro c hc _ b' o n k q
  cases q
  omega
 have I:∀ (base:Option Addr) (n c:Nat) (h':H),v=.slice base n c->n+xs.length<=c->X.vW h base n 1 xs.length c xs=some (.val (.slice base (n+xs.length) c) h')->K (.slice base (n+xs.length) c) h'->ir E h #[t,s2] v w K:=by
  intro base n c h' hv j J hk
  subst hv
  refine⟨.inl ?_⟩
  have:bq E h .append #[t,s2] [.slice base n c,w]=some (.val (.slice base (n+xs.length) c) h'):=by
   show X.append E h t (some s2) _ _=_
   unfold X.append
   rw[T.un]
   simp only[Option.bind_some,T.sz]
   rw[is2]
   simp only[Option.bind_some,hlw,C,aP,j,decide_true]
   exact J
  rw[this]
  exact hk
 cases r with
 | nil =>
  by_cases hm:xs.length=0
  . have:xs=[]:=List.eq_nil_of_length_eq_zero hm
    subst this
    exact I none 0 0 h rfl nlr rfl (hK _ _ hf (FrV.refl _ _) (fun _ _ q=>q) .nil)
  . exact p none 0 (by simp;exact fun q=>hm (by rw[q];rfl)) rfl rfl rfl
 | «at» b n ib L gz hb hr hn hfz hz =>
  have oz:(L.take n).length=n:=so
  rw[oz] at p
  by_cases j:n+xs.length<=L.length
  . by_cases hm:xs.length=0
    . have hxs:xs=[]:=List.eq_nil_of_length_eq_zero hm
      subst hxs
      refine I _ n _ h rfl j rfl (hK _ _ hf (FrV.refl _ _) (fun _ _ q=>q) ?_)
      rw[List.append_nil]
      exact oC.at b n ib L gz hb hr hn hfz hz
    . have O_:X.storeCells h (nE ⟨b,0,none⟩ (n * 1)) xs=some (h.put b (.row ⟨Dl L n xs,e,0,ib,false⟩)):=by
       rw[zS,bK,hr]
       simp only[Option.bind_some,Nat.zero_add,Nat.mul_one]
       rw[if_pos ⟨trivial,hfz,j,hx⟩,m6 _ _ _ j];rfl
      have J:X.vW h (some ⟨b,0,none⟩) n 1 xs.length L.length xs=some (.val (.slice (some ⟨b,0,none⟩) (n+xs.length) L.length) (h.put b (.row ⟨Dl L n xs,e,0,ib,false⟩))):=by
       show Bool.rec (motive:=fun _=>Option R) ((X.storeCells h (nE ⟨b,0,none⟩ (n * 1)) xs).bind fun h=>some (.val (.slice (some ⟨b,0,none⟩) (n+xs.length) L.length) h)) (some (.val (.slice (some ⟨b,0,none⟩) (n+xs.length) L.length) h)) (Nat.beq (xs.length * 1) 0)=_
       rw[ax,Nat.mul_one xs.length]
       simp only[hm,decide_false]
       rw[O_];rfl
      refine I _ n _ _ rfl j J (hK _ _ (hf.put _ gz) ⟨Nat.le_refl _,fun c hc ho=>jh (fun q=>ho b 0 n L.length rfl q.symm)⟩ (fun c _ ho b' o n' k q=>by cases q;exact ho b 0 n L.length rfl) ?_)
      have U:=PF L n xs j
      have:=oC.at (e:=e) (h0:=h0) (h:=h.put b (.row ⟨Dl L n xs,e,0,ib,false⟩)) b (n+xs.length) ib (Dl L n xs) gz hb (by rw[eH,if_pos rfl]) (by rw[U];exact j) om (by rw[U];exact hz)
      rw[U] at this
      have e1:(Dl L n xs).take (n+xs.length)=L.take n++xs:=by
       unfold Dl
       have:n+xs.length=(L.take n++xs).length:=so
       rw[this,List.take_left]
      rw[e1] at this
      exact this
  . refine p _ L.length om rfl ?_ ?_
    . show (h.row b).map _=_
      rw[hr];rfl
    . show (bif Nat.beq (n * 1) 0 then some [] else X.loadCells h ⟨b,0,none⟩ (n * 1))=_
      rw[ax]
      by_cases q:n * 1=0
      . have:n=0:=om
        subst this;simp
      . simp only[q,decide_false,cond_false]
        show (h.row b).bind _=_
        rw[hr]
        show takeN (n * 1) (mT 0 L)=_
        rw[mA,Nat.mul_one,ki hn]
theorem Acq (h:H) (s:List UInt8):cV h 1 s.length (st s)=some (s.map fun b=>v8 b.toNat):=by
 show (bif Nat.beq 1 1 then some (eN (Cc s s.length)) else none)=_
 rw[show Nat.beq 1 1=true from rfl,cond_true]
 have:Cc s s.length=s:=by
  induction s with
  | nil=>rfl
  | cons a s j=>show a :: Cc s s.length=_;rw[j]
 rw[this,wz]
theorem Cr (s:List UInt8):da (s.map fun b=>v8 b.toNat)=true:=by
 refine Rz ?_
 intro v hv
 obtain⟨b,_,rfl⟩:=List.mem_map.1 hv
 rfl
theorem Agu {pt:TypeId} (J:E.under pt=some (.pointer e)) (hs:E.size e=some 1) {h0 h:H} {q n c:Nat} {l:List UInt8} (r:oC e h0 h (.slice (some ⟨q,0,none⟩) n c) (l.map fun b=>v8 b.toNat)) (o:n≠0) (hl:n<=10000000000) {K:Value->H->Prop} {j:TypeId}
 (I:∀ h',eV q h h'->h'.next=h.next->oC e h0 h' (.slice (some ⟨q,0,none⟩) n c) (l.map fun b=>v8 b.toNat)->K (st l) h'):blt E h .unsafeString #[pt,j] [.pointer (some ⟨q,0,none⟩),vI n] K:=by
 generalize hv:(.slice (some ⟨q,0,none⟩) n c:Value)=v at r
 generalize p:(l.map fun b=>v8 b.toNat)=vs at r I
 cases r with
 | nil=>cases hv
 | «at» b n' ib L gz hb hr hn U hz =>
  cases hv
  show af (bq E h .unsafeString #[pt,j] [.pointer (some ⟨q,0,none⟩),vI n]) (Fx K)
  have C:bytesOf (L.take n)=some l:=by rw[<-p,EB]
  have:bq E h .unsafeString #[pt,j] [.pointer (some ⟨q,0,none⟩),vI n]=some (.val (st l) (h.put q (.row (kY ⟨L,e,0,ib,false⟩ (0+n))))):=by
   show X.pg E h [pt,j] (.pointer (some ⟨q,0,none⟩)) (.int .i64 (Int.ofNat n))=_
   unfold X.pg
   show (some pt).bind _=_
   rw[Option.bind_some]
   show Bool.rec (motive:=fun _=>Option R) (SW E h pt ⟨q,0,none⟩ n) (some (.val (.string ⟨⟨[]⟩⟩) h)) (Nat.beq n 0)=_
   rw[ax]
   simp only[o,decide_false]
   unfold SW
   rw[J,Option.bind_some]
   show (E.size e).bind _=_
   rw[hs,Option.bind_some]
   show (h.row q).bind _=_
   rw[hr,Option.bind_some]
   show (takeN n (mT 0 L)).bind _=_
   rw[mA,ki hn,Option.bind_some,C,Option.bind_some]
   have:(Nat.beq 1 1&&Nat.beq e e&&Nat.ble n 9223372036854775807&&!false)=true:=by
    rw[ax,ax,aP]
    simp;omega
   show Bool.rec (motive:=fun _=>Option R) none _ (Nat.beq 1 1&&Nat.beq e e&&Nat.ble n 9223372036854775807&&!false)=_
   rw[this]
  rw[this,aa]
  refine I _ (eV.put _ _ _) rfl ?_
  have e1:kY ⟨L,e,0,ib,false⟩ (0+n)=⟨L,e,0,n,false⟩:=by
   have:=Tf ib (0+n)
   unfold kY
   rw[this,show max ib (0+n)=n by omega];rfl
  exact .at q n n L gz (sp hb) (by rw[eH,if_pos rfl,e1]) hn nlr hz
end Go.X
namespace Go.Proofs.YtikojelnedfmpaaGreatDoor
open Go Go.X
theorem Lz:X.binOp EE .eql 89 (.pointer none) (.pointer none)=some (.bool true):=by kernel_rfl
theorem Aeh (b:Nat):X.binOp EE .eql 89 (pT b) (.pointer none)=some (.bool false):=by kernel_rfl
theorem Aei (b:Nat):X.binOp EE .neq 89 (pT b) (pT b)=some (.bool false):=by
 have j:X.binOp EE .neq 89 (pT b) (pT b)=(bif X.Cq ⟨b,0,none⟩ ⟨b,0,none⟩ then some true else none).bind (fun r=>some (.bool !r)):=by kernel_rfl
 rw[j];unfold X.Cq;simp[ax]
theorem Aej:EE.under 89=some (.pointer 92):=by kernel_rfl
theorem Aek:EE.under 151=some .unsafePointer:=by kernel_rfl
theorem Agr:EE.under 124=some (.pointer 5):=by kernel_rfl
theorem LA (b:Nat) (h:H):CP bJ [pT b] h fun w h'=>h'=h/\w=pT b:=by
 refine .ext ⟨⟨_,_,rfl,rfl⟩,Tryz.f120,Extern.AbiNoEscape.same,JU.funcs bJ Tryz.f120 (by kernel_rfl),by kernel_rfl,by kernel_rfl,by kernel_rfl,?_⟩
 intro ρ ARGS W j o
 cases j with
 | cons _ p _ L1 C hl =>
  cases hl
  exact⟨_,_,ρ,p,W,⟨rfl,rfl⟩,rfl,C,o,Ext.refl _ _ _⟩
theorem Ags {h:H} {b:Nat} {cs:List Value} {e:TypeId} {osz ib:Nat} {ro:Bool} (hr:h.row b=some ⟨cs,e,osz,ib,ro⟩) (hl:cs.length=2):aT EE h 89 151 (pT b)=some (pT b,h):=by
 unfold aT
 rw[Aej,Aek]
 show (DS EE h (.pointer 92) (some ⟨b,0,none⟩)).bind _=_
 have:DS EE h (.pointer 92) (some ⟨b,0,none⟩)=some (pT b):=by
  unfold DS
  show (EE.size 92).bind _=_
  rw[Acp,Option.bind_some]
  show (h.row b).bind _=_
  rw[hr,Option.bind_some]
  show (bif Nat.blt 0 2&&Nat.blt 0 (X.len cs) then _ else _)=_
  rw[dx,dx,br,hl];rfl
 rw[this];rfl
theorem pIn {h:H} {b:Nat} {cs:List Value} {ib:Nat} {ro:Bool} (hr:h.row b=some ⟨cs,92,0,ib,ro⟩) (hl:cs.length=2):aT EE h 151 89 (pT b)=some (pT b,h):=by
 unfold aT
 rw[Aej,Aek]
 show (J9 EE h .unsafePointer 92 (some ⟨b,0,none⟩)).bind _=_
 have:J9 EE h .unsafePointer 92 (some ⟨b,0,none⟩)=some (pT b):=by
  unfold J9
  show (EE.size 92).bind _=_
  rw[Acp,Option.bind_some]
  show (h.row b).bind _=_
  rw[hr,Option.bind_some]
  show (bif Nat.blt 0 2&&Nat.beq 0 0&&Nat.beq 92 92&&Nat.beq (Nat.mod 0 2) 0&&Nat.ble (0+2) (X.len cs) then _ else _)=_
  rw[br,hl];rfl
 rw[this];rfl
theorem uS {h:H} {b:Nat} {a v:Value} (hb:b<h.next) (hr:h.row b=some ⟨[a,v],92,0,0,false⟩) (ha:a=.pointer none\/a=pT b):CP cH [pT b] h fun w h'=>eV b h h'/\h'.next=h.next/\h'.row b=some ⟨[pT b,v],92,0,0,false⟩:=by
 refine .call (qZ ?_)
 unfold k_ aq
 simp only[sO,aa,aE,Nat.zero_add]
 rw[aA hr,ao,aa]
 rcases ha with rfl | rfl
 . rw[Lz,aa,ae,if_pos rfl,Ags hr rfl,aa]
   refine (LA b h).mono ?_
   rintro w h' ⟨rfl,rfl⟩
   rw[pIn hr rfl,aa]
   refine qY hr rfl rfl sm fun h2 f2 r2 j=>⟨f2,j,r2⟩
 . rw[Aeh,aa,ae,if_neg dc,aa,Aei,aa,ae,if_neg dc]
   exact⟨eV.refl _ _,trivial,hr⟩
abbrev We (l:List UInt8):List Value:=l.map fun b=>v8 b.toNat
structure qX (h0 h:H) (b:Nat) (l:List UInt8):Prop where
 lo:h0.next<=b
 hi:b<h.next
 ex:∃ a v,h.row b=some ⟨[a,v],92,0,0,false⟩/\(a=.pointer none\/a=pT b)/\oC 5 h0 h v (We l)/\bt v b
structure VB (b:Nat) (h h':H):Prop where
 next:h.next<=h'.next
 get:∀ c,c<h.next->c≠b->(∀ x,h.row c=some x->x.elem≠5)->h'.get c=h.get c
theorem VB.refl (b:Nat) (h:H):VB b h h:=⟨Nat.le_refl _,fun _ _ _ _=>rfl⟩
theorem VB.row {b:Nat} {h h':H} (x:VB b h h') {c:Nat} {y:IP} (hr:h.row c=some y) (hc:c<h.next) (hb:c≠b) (he:y.elem≠5):h'.row c=some y:=by
 rw[<-hr];exact bg (x.get c hc hb (fun z hz=>by rw[hr] at hz;cases hz;exact he))
theorem _root_.Go.X.oC.Ael {h0 h:H} {v:Value} {vs:List Value} (r:oC 5 h0 h v vs) {c:Nat} (he:∀ x,h.row c=some x->x.elem≠5):bt v c:=by
 intro b' o n k q
 cases r with
 | nil=>cases q
 | «at» b n ib L gz hb hr hn hf hz =>
  cases q
  intro e
  subst e
  exact he _ hr rfl
theorem qX.new {h0 h:H} (f:Fr h0 h) {b:Nat} (hb:h0.next<=b) (j:b<h.next) (hr:h.row b=some ⟨[.pointer none,.slice none 0 0],92,0,0,false⟩):qX h0 h b [] :=
 ⟨hb,j,_,_,hr,.inl rfl,.nil,fun _ _ _ _ q=>by cases q⟩
theorem Agt:(EE.under 9).map ku=some false:=by rw[kH];rfl
theorem _root_.Go.X.oC.mR {e:TypeId} {h0 h h':H} {v:Value} {vs:List Value} {b:Nat} (r:oC e h0 h v vs) (x:eV b h h') (j:bt v b):oC e h0 h' v vs:=by
 cases r with
 | nil=>exact .nil
 | «at» q n ib L gz hb hr hn hf hz=>exact .at q n ib L gz (Nat.lt_of_lt_of_le hb x.next) (by rw[x.row hb (j q 0 n L.length rfl)];exact hr) hn hf hz
theorem _root_.Go.X.oC.fr {e:TypeId} {h0 h h':H} {v:Value} {vs:List Value} (r:oC e h0 h v vs) (f:Fr h h'):oC e h0 h' v vs:=by
 cases r with
 | nil=>exact .nil
 | «at» q n ib L gz hb hr hn hf hz=>exact .at q n ib L gz (Nat.lt_of_lt_of_le hb f.next) (by rw[fa f hb];exact hr) hn hf hz
theorem Ue {h0 h o h2:H} {b:Nat} {l s:List UInt8} {v v':Value} (f0:Fr h0 h) (C:h0.next<=b) (hhi:b<h.next) (f1:eV b h o) (n1:o.next=h.next) (r1:o.row b=some ⟨[pT b,v],92,0,0,false⟩) (J:bt v b) (hF:oC 5 h0 h v (We l)) (f2:Fr h0 h2) (I:FrV v o h2) (U:∀ c,c<o.next->bt v c->bt v' c) (o2:oC 5 h0 h2 v' (We l++We s)) (hv:cells v'=some [v']) (R:bX v'=true) {K:H->Prop}
 (hK:∀ p,Fr h0 p->VB b h p->qX h0 p b (l++s)->K p):af (wa 1 h2 (.pointer (some ⟨b,0+1,none⟩)) v') K:=by
 have j:b<o.next:=om
 have r2:h2.row b=some ⟨[pT b,v],92,0,0,false⟩:=by rw[I.row j J,r1]
 refine qY r2 hv R sm fun p f3 r3 n3=>?_
 refine hK p (f3.fr f2 C) ⟨by have:=I.next;omega,?_⟩ ⟨C,by have:=I.next;omega,_,_,r3,.inr rfl,?_,U b j J⟩
 . intro c hc hb he
   rw[f3.cK c (by have:=I.next;omega) hb,I.get c om (hF.Ael he),f1.cK c hc hb]
 . have:=o2.mR f3 (U b j J)
   rwa [<-List.map_append] at this
theorem _root_.Go.X.oC.cell {e:TypeId} {h0 h:H} {v:Value} {vs:List Value} (r:oC e h0 h v vs):cells v=some [v]/\bX v=true:=by cases r <;> exact⟨rfl,rfl⟩
theorem cR {h0 h:H} {b:Nat} {l:List UInt8} (f0:Fr h0 h) (B:qX h0 h b l) (s:List UInt8) (hl:l.length<=bl) (hs:s.length<=bl):CP aC [pT b,st s] h fun w h'=>Fr h0 h'/\VB b h h'/\qX h0 h' b (l++s):=by
 have J:bl=1000000000:=rfl
 obtain⟨j,o,a,v,hr,ha,C,I⟩:=B
 refine .call (oX ?_)
 unfold j5 aq
 refine (uS o hr ha).mono ?_
 rintro w R ⟨f1,U,r1⟩
 simp only[sO,aa,aE]
 rw[aA r1,Nat.zero_add,ay,ao,aa]
 refine Aem TB Agt (f1.fr f0 j) (C.mR f1 I) (w:=st s) (xs:=We s) ?_ ?_ so so (Cr s) ?_
 . rw[List.length_map];exact Acq R s
 . show some (X.len s)=_
   rw[br,List.length_map]
 . intro v' h2 f2 g2 k2 p
   refine Ue f0 j o f1 U r1 I C f2 g2 k2 p p.cell.1 p.cell.2 fun h3 f3 g3 B3=>?_
   rw[bb kH]
   exact⟨f3,g3,B3⟩
theorem Ja {h0 h:H} {b:Nat} {l:List UInt8} (f0:Fr h0 h) (B:qX h0 h b l) (c:UInt8) (hl:l.length<=bl):CP dC [pT b,v8 c.toNat] h fun w h'=>Fr h0 h'/\VB b h h'/\qX h0 h' b (l++[c]):=by
 have qS:bl=1000000000:=rfl
 obtain⟨o,U,a,v,hr,ha,hF,J⟩:=B
 refine .call (q_ ?_)
 unfold lc aq
 refine (uS U hr ha).mono ?_
 rintro w j ⟨f1,n1,r1⟩
 simp only[sO,aa,aE]
 rw[aA r1,Nat.zero_add,ay,ao,aa]
 have hb:dM EE j 90 1 [(0,v8 c.toNat)]=some (X.newRow j 5 [v8 c.toNat] 0):=by
  unfold dM
  rw[TB.un]
  simp only[Option.bind_some,TB.sz,TB.zc]
  rfl
 unfold gh
 rw[hb,aa]
 have R:Fr j (X.newRow j 5 [v8 c.toNat] 0):=lB (Fr.refl j) _ _ _
 have rN:(X.newRow j 5 [v8 c.toNat] 0).row j.next=some ⟨[v8 c.toNat],5,0,0,false⟩:=by rw[aS,if_pos rfl]
 have nN:(X.newRow j 5 [v8 c.toNat] 0).next=j.next+1:=rfl
 show ir EE (X.newRow j 5 [v8 c.toNat] 0) #[90,90] v (.slice (some ⟨j.next,0,none⟩) 1 1) _
 generalize X.newRow j 5 [v8 c.toNat] 0=p at *
 have f1':eV b h p:=f1.trans (R.x b)
 have hFN:oC 5 h0 p v (We l):=(hF.mR f1 J).fr R
 refine Aem TB (by rw[TB.un];rfl) ((f1.fr f0 o).trans R) hFN (w:=.slice (some ⟨j.next,0,none⟩) 1 1) (xs:=We [c]) ?_ rfl so sm (Cr [c]) ?_
 . show (bif Nat.beq (1 * 1) 0 then some [] else X.loadCells p ⟨j.next,0,none⟩ (1 * 1))=_
   show X.loadCells p ⟨j.next,0,none⟩ 1=_
   show (p.row j.next).bind _=_
   rw[rN];rfl
 . intro v' h2 f2 I k2 o2
   have r1N:p.row b=some ⟨[pT b,v],92,0,0,false⟩:=R.aQ r1 om
   have C:b<p.next:=om
   have r2:h2.row b=some ⟨[pT b,v],92,0,0,false⟩:=by rw[I.row C J,r1N]
   refine qY r2 o2.cell.1 o2.cell.2 sm fun h3 f3 r3 n3=>?_
   refine⟨f3.fr f2 o,⟨by have:=I.next;omega,?_⟩,⟨o,by have:=I.next;omega,_,_,r3,.inr rfl,?_,k2 b C J⟩⟩
   . intro c hc hb he
     rw[f3.cK c (by have:=I.next;omega) hb,I.get c om (hF.Ael he),f1'.cK c hc hb]
   . have:=o2.mR f3 (k2 b C J)
     rwa [<-List.map_append] at this
theorem kj {h0 h:H} {b:Nat} {l:List UInt8} (f0:Fr h0 h) (B:qX h0 h b l) (hl:l.length<=bl):CP aW [pT b] h fun w h'=>w=st l/\Fr h0 h'/\VB b h h'/\qX h0 h' b l:=by
 have qS:bl=1000000000:=rfl
 obtain⟨o,p,a,v,hr,ha,hF,J⟩:=B
 refine .call (tK ?_)
 unfold nL aq
 simp only[sO,aa,aE]
 rw[aA hr,Nat.zero_add,ay,ao,aa]
 generalize j:We l=vs at *
 have hvl:vs.length=l.length:=by rw[<-j,List.length_map]
 cases hF with
 | nil =>
  have:l=[]:=by
   cases l with
   | nil=>rfl
   | cons a l=>simp at j
  subst this
  show af (bq EE h .unsafeSliceData #[90] [.slice none 0 0]) (Fx _)
  rw[show bq EE h .unsafeSliceData #[90] [.slice none 0 0]=some (.val (.pointer none) h) from rfl,aa]
  show af (aw h (.pointer (some ⟨b,1,none⟩))) _
  rw[aA hr,ay,ao,aa]
  refine⟨rfl,?_⟩
  rw[pw pY,aa]
  show af (bq EE h .unsafeString #[124,3] [.pointer none,vI 0]) (Fx _)
  rw[show bq EE h .unsafeString #[124,3] [.pointer none,vI 0]=some (.val (st []) h) from rfl,aa]
  exact⟨rfl,f0,VB.refl _ _,⟨o,p,a,_,hr,ha,by rw[j];exact .nil,J⟩⟩
 | «at» q n ib L gz hb C hn hf hz =>
  have U:n=l.length:=by
   have:=congrArg List.length j
   simp at this;omega
  show af (bq EE h .unsafeSliceData #[90] [.slice (some ⟨q,0,none⟩) n L.length]) (Fx _)
  have e1:bq EE h .unsafeSliceData #[90] [.slice (some ⟨q,0,none⟩) n L.length]=some (.val (pT q) h):=by
   show X.sx h (.slice (some ⟨q,0,none⟩) n L.length)=_
   show Bool.rec (motive:=fun _=>Option R) (some (.val (pT q) h)) none (Nat.beq L.length 0)=_
   rw[ax];simp only[hz,decide_false]
  rw[e1,aa]
  show af (aw h (.pointer (some ⟨b,1,none⟩))) _
  rw[aA hr,ay,ao,aa]
  refine⟨rfl,?_⟩
  rw[pw pY,aa]
  have hqb:q≠b:=J q 0 n L.length rfl
  by_cases I:n=0
  . subst I
    have:l=[]:=List.eq_nil_of_length_eq_zero U.symm
    subst this
    show af (bq EE h .unsafeString #[124,3] [pT q,vI 0]) (Fx _)
    rw[show bq EE h .unsafeString #[124,3] [pT q,vI 0]=some (.val (st []) h) from rfl,aa]
    exact⟨rfl,f0,VB.refl _ _,⟨o,p,a,_,hr,ha,by rw[j];exact .at q 0 ib L gz hb C hn hf hz,J⟩⟩
  . have oF:oC 5 h0 h (.slice (some ⟨q,0,none⟩) n L.length) (l.map fun b=>v8 b.toNat):=by
     show oC 5 h0 h _ (We l)
     rw[j];exact .at q n ib L gz hb C hn hf hz
    refine Agu Agr sz5 oF I om fun h2 f2 n2 o2=>?_
    refine⟨rfl,f2.fr f0 gz,⟨f2.next,fun c hc _ he=>f2.cK c hc (fun e=>by subst e;exact he _ C rfl)⟩,⟨o,om,a,_,?_,ha,o2,J⟩⟩
    rw[f2.row p (fun e=>hqb e.symm),hr]
theorem TS:Tz EE 48 9 (.string ⟨⟨[]⟩⟩):=⟨Aef,sz9,zc9,Lj by9 sz9 dc,rfl⟩
def pad:Nat->Nat->List UInt8
 | 0,_=>[]
 | k+1,n=>pad k (n / 10)++[UInt8.ofNat (48+n % 10)]
theorem RO:∀ k n,(pad k n).length=k:=by
 intro k
 induction k with
 | zero=>intro n;rfl
 | succ k j=>intro n;unfold pad;rw[List.length_append,j];rfl
theorem T3:∀ k n,pad (k+1) n=UInt8.ofNat (48+n / 10 ^ k % 10) :: pad k n:=by
 intro k
 induction k with
 | zero=>intro n;simp[pad]
 | succ k j =>
  intro n
  show pad (k+1) (n / 10)++_=_
  rw[j]
  rw[Nat.div_div_eq_div_mul,<-Nat.pow_succ']
  rfl
theorem ZG:∀ j k n,pad (j+k) n=pad j (n / 10 ^ k)++pad k n:=by
 intro j k
 induction k with
 | zero=>intro n;simp[pad]
 | succ k o =>
  intro n
  show pad (j+k) (n / 10)++_=_++(pad k (n / 10)++_)
  rw[o,Nat.div_div_eq_div_mul,<-Nat.pow_succ',List.append_assoc]
theorem ZH:∀ k n,pad k (n % 10 ^ k)=pad k n:=by
 intro k
 induction k with
 | zero=>intro n;rfl
 | succ k j =>
  intro n
  unfold pad
  have o:n % 10 ^ (k+1) / 10=n / 10 % 10 ^ k:=by rw[Nat.pow_succ',Nat.mod_mul_right_div_self]
  have p:n % 10 ^ (k+1) % 10=n % 10:=by rw[Nat.pow_succ',Nat.mod_mul_right_mod]
  rw[o,p,j]
def eI (n:Nat):List UInt8:=if h:n<10 then [UInt8.ofNat (48+n)] else eI (n / 10)++[UInt8.ofNat (48+n % 10)]
theorem fQ {n:Nat} (h:n<10):eI n=[UInt8.ofNat (48+n)]:=by rw[eI,dif_pos h]
theorem qh {n:Nat} (h:¬ n<10):eI n=eI (n / 10)++[UInt8.ofNat (48+n % 10)]:=by rw[eI,dif_neg h]
def vy (c:UInt8) (l:List UInt8):List UInt8:=l.dropWhile (· == c)
theorem Wc (d:Nat) (h:d<10):(UInt8.ofNat (48+d) == 48)=decide (d=0):=by
 have e:(UInt8.ofNat (48+d)).toNat=48+d:=ofNat_toNat om
 by_cases hd:d=0
 . subst hd;rfl
 . have:UInt8.ofNat (48+d)≠48:=by
    intro q
    rw[q] at e
    have:(48:UInt8).toNat=48:=rfl
    omega
   rw[decide_eq_false hd];simpa using this
theorem P8 (c:UInt8) (l:List UInt8) (x:UInt8):vy c (l++[x])=if vy c l=[] then (if x=c then [] else [x]) else vy c l++[x]:=by
 unfold vy
 induction l with
 | nil=>by_cases h:x=c <;> simp[h]
 | cons a l j =>
  by_cases h:a=c
  . subst h;simpa using j
  . have h2:(a == c)=false:=sp h
    simp[h2]
theorem Wd:∀ k n,n<10 ^ k->vy 48 (pad k n)=if n=0 then [] else eI n:=by
 intro k
 induction k with
 | zero=>intro n h;have:n=0:=sp h
         subst this;rfl
 | succ k o =>
  intro n h
  have j:n / 10<10 ^ k:=by rw[Nat.pow_succ] at h;omega
  show vy 48 (pad k (n / 10)++[_])=_
  rw[P8,o _ j]
  have hd:=Wc (n % 10) om
  by_cases h0:n / 10=0
  . rw[if_pos h0,if_pos rfl]
    by_cases hn:n=0
    . subst hn;rfl
    . have hm:n % 10≠0:=om
      rw[if_neg (by rw[decide_eq_false hm] at hd;simpa using hd),if_neg hn,fQ om]
      rw[show n % 10=n by omega]
  . have im:∀ m,eI m≠[]:=by
     intro m
     by_cases hm:m<10
     . rw[fQ hm];simp
     . rw[qh hm];simp
    rw[if_neg h0,if_neg (im _),if_neg om,qh (n:=n) om]
theorem GJ (n m:Nat) (hm:m<=20) (hn:n<18446744073709551616) (h:H):ai PP wA [dD n,vI m] h (.v (st (pad m n)) h):=by
 refine aj.pure (IX ?_) (by simp[flat])
 unfold GK aq
 obtain⟨u,h2,U,f2,o2⟩:=Be TB h m om
 rw[U,aa]
 refine aL.ind (fun s h'=>Fr h h'/\∃ i:Nat,s=[dD (n / 10 ^ i),vI m,u,vI m,vI i]/\i<=m/\bp 5 h h' u (List.replicate (m-i) (.int .u8 0)++We (pad i n))) (fun s _=>match aI s 4 with | .int _ i=>m-i.toNat | _=>0) ?_ ⟨f2,0,sm,Nat.zero_le _,by simpa [pad] using o2⟩
 rintro s R ⟨f3,i,rfl,hi,I⟩
 show uR _ _ (dD (n / 10 ^ i)) (vI m) u (vI m) (vI i) R
 unfold uR aq
 rw[bI,aa,ae]
 by_cases j:i<m
 . rw[if_pos (by simp[j]),oI,pX _ _ _ _ om om,aa,pX _ _ _ _ om om,aa]
   rw[show (.int .u64 10:Value)=dD 10 from rfl,Le _ _ _ _ _ om,aa,show (.int .u64 48:Value)=dD 48 from rfl,JO _ _ _ _ om,aa,dI lQ yj,aa]
   have o:(Value.int .u8 (IntKind.u8.wrap ((48+n / 10 ^ i % 10:Nat):Int)))=v8 (UInt8.ofNat (48+n / 10 ^ i % 10)).toNat:=RF _
   show af (AB 1 u (vI (m-1-i))) fun p=>af (wa 1 R p (Value.int .u8 (IntKind.u8.wrap ((48+n / 10 ^ i % 10:Nat):Int)))) _
   rw[o]
   refine I.set (i:=m-1-i) so rfl rfl ?_
   intro b h4 q1 q2 q3 q4 J
   rw[GA _ _ _ _ _ om,aa,bB,Nat.mod_eq_of_lt (Nat.lt_of_le_of_lt (Nat.div_le_self _ _) (Nat.lt_of_le_of_lt (Nat.div_le_self _ _) hn)),Nat.div_div_eq_div_mul,<-Nat.pow_succ,dm _ _ _ _ om,aa]
   refine⟨⟨q2.fr f3 q1,i+1,rfl,om,?_⟩,?_⟩
   . have e1:m-i=(m-1-i)+1:=om
     have e3:m-(i+1)=m-1-i:=om
     rw[e1,List.replicate_succ',List.append_assoc] at J
     have C:∀ (A B:List Value) (z x:Value) (k:Nat),k=A.length->(A++([z]++B)).set k x=A++(x :: B):=by
      intro A B z x k hk
      subst hk
      rw[List.set_append_right _ _ nlr,Nat.sub_self];rfl
     rw[C _ _ _ _ _ sm] at J
     rw[e3,T3]
     exact J
   . show m-((i+1:Nat):Int).toNat<m-(i:Int).toNat
     omega
 . rw[if_neg (by simp[j])]
   have:i=m:=om
   subst this
   rw[Nat.sub_self,List.replicate_zero,List.nil_append] at I
   rw[Nf pY yj kH I.read,aa]
   exact⟨rfl,f3⟩
theorem Ce (c:UInt8) (a:List UInt8) (h:H):ai PP ft [st a,v8 c.toNat] h (.v (st (vy c a)) h):=by
 refine aj.pure (mO ?_) (by simp[flat])
 unfold j_ aq
 refine aL.ind (fun s h'=>h'=h/\∃ b,s=[st b,v8 c.toNat]/\vy c b=vy c a) (fun s _=>match aI s 0 with | .string b=>b.data.toList.length | _=>0) ?_ ⟨rfl,a,rfl,rfl⟩
 rintro s h' ⟨rfl,b,rfl,hb⟩
 show dq _ _ (st b) (v8 c.toNat) h'
 unfold dq aq
 rw[bb kH,zI,fu,aa,ag]
 unfold dt aq
 cases b with
 | nil =>
  rw[if_neg sm,ae,if_neg dc,<-hb]
  exact⟨rfl,Fr.refl _⟩
 | cons x b =>
  have j:MV (st (x :: b)) (vI 0)=some (v8 x.toNat):=by rw[rO,if_pos dc];rfl
  rw[if_pos sm,j,aa,cn,aa,ae]
  by_cases hx:x=c
  . subst hx
    rw[if_pos sm,show (.int .i64 1:Value)=vI 1 from rfl,dJ kH h' (x :: b) (some (vI 1)) none (fw _ _) (bm .i64 _ _ _ sm),aa,List.take_length]
    refine⟨⟨rfl,b,rfl,?_⟩,?_⟩
    . rw[<-hb];unfold vy;simp
    . show b.length<(x :: b).length
      simp
  . rw[if_neg (by simpa using fun q=>hx (UInt8.toNat_inj.1 q)),<-hb]
    have:vy c (x :: b)=x :: b:=by unfold vy;rw[List.dropWhile_cons,if_neg (sp hx)]
    rw[this];exact⟨rfl,Fr.refl _⟩
theorem IY (c:UInt8) (hc:c.toNat<128) (a:List UInt8) (h:H):ai PP fK [st a,st [c]] h (.v (st (vy c a)) h):=by
 refine aj.pure (rE ?_) (by simp[flat])
 unfold oP aq
 rw[GH,Go.X.bf,aa,ag]
 by_cases ha:a=[]
 . subst ha
   rw[if_neg sm]
   unfold dV aq
   rw[ae,if_pos rfl]
   exact⟨rfl,Fr.refl h⟩
 . rw[if_pos (by simp[ha]),Go.X.bf,aa]
   unfold dV aq
   have j:MV (st [c]) (vI 0)=some (v8 c.toNat):=by rw[rO,if_pos dc];rfl
   rw[ae,if_neg sm,bb kH,show ((([c]:List UInt8).length:Nat):Int)=((1:Nat):Int) from rfl,oI,cn,aa,ag,if_pos dc,zI,j,aa,show (.int .u8 128:Value)=v8 128 from rfl,bI,aa]
   unfold gy aq
   rw[ae,if_pos (sp hc),zI,j,aa]
   exact ar (Ce c a h) ⟨rfl,Fr.refl h⟩
def parts (A:Nat):Nat->List (List UInt8)
 | 0=>[]
 | k+1=>parts A k++[pad 9 (A / 10 ^ (9 * k))]
theorem mU (A k:Nat):(parts A k).length=k:=by
 induction k with
 | zero=>rfl
 | succ k j=>unfold parts;simp[j]
theorem T4 (A:Nat):∀ k i,i<k->(parts A k)[i]?=some (pad 9 (A / 10 ^ (9 * i))):=by
 intro k
 induction k with
 | zero=>intro i h;omega
 | succ k j =>
  intro i h
  unfold parts
  by_cases hi:i<k
  . rw[List.getElem?_append_left (by rw[mU];exact hi),j i hi]
  . have:i=k:=om
    subst this
    rw[List.getElem?_append_right (by rw[mU];exact Nat.le_refl _),mU,Nat.sub_self];rfl
theorem Wf (A k j:Nat) (o:j<k):pad (9 * j) (A / 10 ^ (9 * (k-j)))++pad 9 (A / 10 ^ (9 * (k-1-j)))=pad (9 * (j+1)) (A / 10 ^ (9 * (k-(j+1)))):=by
 rw[show 9 * (j+1)=9 * j+9 by omega,ZG,Nat.div_div_eq_div_mul,<-Nat.pow_add,show 9 * (k-(j+1))+9=9 * (k-j) by omega,show k-(j+1)=k-1-j by omega]
theorem _root_.Go.X.bp.frB {b:Nat} {e:TypeId} {h0 h h':H} {v:Value} {vs:List Value} (r:bp e h0 h v vs) (x:∀ c y,c<h.next->c≠b->h.row c=some y->y.elem≠5->h'.row c=some y) (hn:h.next<=h'.next) (he:e≠5) (o:bt v b):bp e h0 h' v vs:=by
 cases r with
 | nil=>exact .nil
 | «at» q n L gz hb hr j=>exact .at q n L gz (Nat.lt_of_lt_of_le hb hn) (x q _ hb (o q 0 n L.length rfl) hr he) j
abbrev cD (l:List (List UInt8)):List Value:=l.map st
theorem RP (s:List UInt8):xS 1 (dZ [.string ⟨⟨[]⟩⟩] 1) [(0,st s)]=some [st s]:=rfl
theorem wB (a:List UInt8) (ha:a.length<=100000) (h:H):ai PP sN [st a] h (.v (st (eI (aJ a))) h):=by
 have qS:bl=1000000000:=rfl
 refine aj.pure (Ns ?_) (by simp[flat])
 unfold Nt aq
 refine ar (cS a h) ?_
 have J:(enc (aJ a)).length<=100000:=Nat.le_trans (kh nlr) ha
 generalize aJ a=A at *
 have o:∀ k,(k=0\/10 ^ (9 * (k-1))<=A)->9 * k<=1000000:=by
  rintro k (rfl | hk)
  . omega
  . have h2:=gV J
    have h3:2 ^ (9 * (k-1))<=10 ^ (9 * (k-1)):=Nat.pow_le_pow_left om _
    have key:∀ K,A<256 ^ K->9 * (k-1)<8 * K:=fun K h2=>by
     rw[show (256:Nat)=2 ^ 8 from rfl,<-Nat.pow_mul] at h2
     exact (Nat.pow_lt_pow_iff_right (a:=2) om).1 (Nat.lt_of_le_of_lt (Nat.le_trans h3 hk) h2)
    have:=key 100000 h2
    omega
 refine aL.ind (fun s h'=>Fr h h'/\∃ (k:Nat) (v:Value),s=[st (enc (A / 10 ^ (9 * k))),v]/\bp 9 h h' v (cD (parts A k))/\(k=0\/10 ^ (9 * (k-1))<=A)) (fun s _=>match aI s 0 with | .string b=>aJ b.data.toList | _=>0) ?_ ⟨Fr.refl _,0,.slice none 0 0,sm,.nil,.inl rfl⟩
 rintro s j ⟨f1,k,v,rfl,ov,hk⟩
 show yF _ _ (st (enc (A / 10 ^ (9 * k)))) v j
 have hks:=o k hk
 unfold yF aq
 rw[GH,Go.X.di,aa,ae]
 by_cases h0:A / 10 ^ (9 * k)=0
 . rw[if_neg (by simp[h0,du])]
   have R:A<10 ^ (9 * k):=by
    rcases Nat.lt_or_ge A (10 ^ (9 * k)) with q | q
    . exact q
    . have:=Nat.div_pos q (Nat.pow_pos om);omega
   refine bP fun h2 f2 r2 n2=>?_
   have U:=ov.fr f2
   rw[U.read.len TS,List.length_map,mU]
   have Ab9:bt v j.next:=ov.lt nlr
   have B0:qX h h2 j.next []:=qX.new (f1.trans f2) f1.next om r2
   refine aL.ind (fun s h'=>Fr h h'/\∃ i:Nat,s=[v,pT j.next,vI k,vI i]/\i<=k/\bp 9 h h' v (cD (parts A k))/\qX h h' j.next (pad (9 * i) (A / 10 ^ (9 * (k-i))))) (fun s _=>match aI s 3 with | .int _ i=>k-i.toNat | _=>0) ?_ ⟨f1.trans f2,0,rfl,Nat.zero_le _,U,B0⟩
   rintro s h3 ⟨f3,i,rfl,hi,p,B3⟩
   show wC _ _ v (pT j.next) (vI k) (vI i) h3
   unfold wC aq
   rw[bI,aa,ae]
   have hpl:(pad (9 * i) (A / 10 ^ (9 * (k-i)))).length<=bl:=by rw[RO];omega
   by_cases C:i<k
   . rw[if_pos (by simp[C]),p.read.len TS,List.length_map,mU,oI,pX _ _ _ _ om om,aa,pX _ _ _ _ om om,aa]
     have vt:k-1-i<(cD (parts A k)).length:=by rw[List.length_map,mU];omega
     have Gx:(cD (parts A k))[k-1-i]=st (pad 9 (A / 10 ^ (9 * (k-1-i)))):=by
      have:=T4 A k (k-1-i) om
      rw[List.getElem_map]
      congr 1
      rw[List.getElem?_eq_getElem (by rw[mU];omega)] at this
      rw[Option.some.inj this]
     rw[p.read.rd vt,Gx]
     refine (cR f3 B3 _ hpl (by rw[RO];omega)).mono ?_
     rintro w h4 ⟨f4,g4,B4⟩
     rw[dm _ _ _ _ om,aa]
     rw[Wf A k i C] at B4
     refine⟨⟨f4,i+1,rfl,om,p.frB (b:=j.next) (fun c y hc hb hr he=>g4.row hr hc hb he) g4.next dc Ab9,B4⟩,?_⟩
     show k-((i+1:Nat):Int).toNat<k-(i:Int).toNat
     omega
   . rw[if_neg (by simp[C])]
     have:i=k:=om
     subst this
     refine (kj f3 B3 hpl).mono ?_
     rintro w h4 ⟨rfl,f4,g4,B4⟩
     rw[show (bs [48]:ByteArray)=⟨⟨[48]⟩⟩ from rfl]
     refine ar (IY 48 dc _ h4) ?_
     rw[Nat.sub_self,Nat.mul_zero,Nat.pow_zero,Nat.div_one,Wd _ _ R,GH,Go.X.bf,aa,ae]
     by_cases I:A=0
     . rw[if_pos I,if_pos sm]
       subst I
       exact⟨by rw[fQ om];rfl,f4⟩
     . have im:∀ m,eI m≠[]:=by
        intro m
        by_cases hm:m<10
        . rw[fQ hm];simp
        . rw[qh hm];simp
       rw[if_neg I,if_neg (by simpa using im A)]
       exact⟨rfl,f4⟩
 . rw[if_pos (by simp[h0,fE])]
   have hO:ai PP gB [.int .u64 1000000000] j (.v (st (enc 1000000000)) j):=mw 1000000000 om j
   have hl1:(enc (A / 10 ^ (9 * k))).length<=100000:=Nat.le_trans (qj (Nat.div_le_self _ _)) J
   have PL:(enc 1000000000).length<=4:=mg dc
   refine ar hO (ar (eX _ _ om om j) ?_)
   unfold DF
   rw[a_,a_,if_neg om]
   simp only[au,ao,ay,aa]
   rw[zI,cX,aa,ae,if_neg sm]
   have hm:=Nat.mod_lt (A / 10 ^ (9 * k)) (show 1000000000 > 0 by omega)
   refine ar (AH _ (mg om) j) ?_
   simp only[au,ao,ay,aa]
   rw[a_]
   refine ar (GJ _ 9 om om j) ?_
   rw[show (1000000000:Nat)=10 ^ 9 from rfl,ZH,Nat.div_div_eq_div_mul,<-Nat.pow_add,show 9 * k+9=9 * (k+1) by omega]
   refine TC TS f1 ov (by rw[List.length_map,mU];omega) rfl (RP _) ?_
   intro v' h2 f2 o2
   have hge:10 ^ (9 * k)<=A:=by
    rcases Nat.lt_or_ge A (10 ^ (9 * k)) with q | q
    . exact absurd (Nat.div_eq_of_lt q) h0
    . exact q
   refine⟨⟨f2,k+1,v',rfl,by unfold parts;rw[cD,List.map_append];exact o2,.inr (sp hge)⟩,?_⟩
   show aJ (enc (A / 10 ^ (9 * (k+1))))<aJ (enc (A / 10 ^ (9 * k)))
   rw[a_,a_,show 9 * (k+1)=9 * k+9 by omega,Nat.pow_add,<-Nat.div_div_eq_div_mul]
   exact Nat.div_lt_self (Nat.pos_of_ne_zero h0) dc
theorem Agv (h:H) (x:UInt8):dM EE h 90 1 [(0,v8 x.toNat)]=some (X.newRow h 5 [v8 x.toNat] 0):=by
 unfold dM
 rw[TB.un]
 simp only[Option.bind_some,TB.sz,TB.zc]
 rfl
theorem Agg (t:TypeId) (a b:Nat) (h:a * b<=9223372036854775807):X.binOp EE .mul t (vI a) (vI b)=some (vI (a * b)):=by rw[Ds,wrap_i64 h]
theorem ZI {A B:Nat} (h:B≠0):DF A B=.tuple ⟨[st (enc (A / B)),st (enc (A % B)),vI 0]⟩:=by unfold DF;rw[if_neg h]
theorem Qa (neg:Bool) (n d:List UInt8):enc (aJ (wN neg n d))=wN neg n d:=vD (Ch neg n d)
theorem P' (neg:Bool) (n d:List UInt8):enc (aJ (wD neg n d))=wD neg n d:=vD (wF neg n d).1
theorem ixE (l:List UInt8) (i:Nat) (h:i<l.length):MV (st l) (vI i)=some (v8 l[i].toNat):=by
 rw[rO,if_pos om,Int.toNat_natCast,List.getElem?_eq_getElem h];rfl
theorem Nu (c:UInt8) (l:List UInt8):iY [c] l=(match l with | []=>false | x :: _=>decide (x=c)):=by
 unfold iY
 cases l with
 | nil=>simp
 | cons x l=>simp
end Go.Proofs.YtikojelnedfmpaaGreatDoor
namespace Go.Proofs.YtikojelnedfmpaaGreatDoor
open Go Go.X
set_option maxRecDepth 100000
theorem GL (n:Nat) (hn:n<=281474976710656) (h:H):CP eO [vI n] h fun w h'=>∃ c:Nat,n<=c/\c<=9223372036854775807/\w=.slice (some ⟨h.next,0,none⟩) n c/\h'=X.newRow h 5 (List.replicate c Aj) 0:=by
 refine .ext ⟨⟨_,_,n,Nat.le_refl _,om,rfl,rfl⟩,Tryz.f121,Extern.BytealgMakeNoZero.makeNoZero #[3] #[90],JU.funcs eO Tryz.f121 (by kernel_rfl),by kernel_rfl,by kernel_rfl,by kernel_rfl,?_⟩
 intro ρ ARGS W I J
 cases I with
 | cons _ A1 _ L1 R hl =>
  cases hl
  have:=R.ee
  subst this
  obtain⟨cs,j,o,p⟩:=Go.Lib.run_makeNoZero (P:=PP) W #[3] 90 5 (JU.dk pY) n hn
  have hle:(List.replicate cs.size Aj).length<=cs.size:=sm
  obtain⟨U,k2⟩:=rT (e:=5) (osz:=0) (c:=List.replicate cs.size Aj) (C:=cs) (F:=(0,0)) (W':=W.drew.drew.alloc (.cells cs 5)) J hle (by
   intro i v hv
   have hi:i<cs.size:=by
    rcases Nat.lt_or_ge i cs.size with q | q
    . exact q
    . rw[List.getElem?_eq_none (sp q)] at hv;cases hv
   rw[List.getElem?_replicate,if_pos hi] at hv
   cases hv
   exact⟨cs[i],by simp[hi],.Aj _⟩) (noF _) rfl rfl rfl rfl
  refine⟨_,_,_,_,_,⟨cs.size,o,p (by unfold maxLen;omega),rfl,rfl⟩,j,?_,U,k2⟩
  refine .slice _ _ _ _ _ _ _ (bS.add_same _ _ _) ?_
  unfold lA
  rw[if_neg (fun q=>q.1 rfl)]
  exact⟨rfl,rfl⟩
theorem Wg (h:H) (K:Value->H->Prop) (hk:K (vI 0) h):T5 EE h [90] (.slice none 0 0) K:=by
 unfold T5
 show af (some _) _
 rw[aa,pY,aa]
 show af (some false) _
 rw[aa]
 exact hk
theorem T6 {h:H} {q n ib:Nat} {L:List Value} {e:TypeId} (hr:h.row q=some ⟨L,e,0,ib,false⟩):aO EE h 90 (.slice (some ⟨q,0,none⟩) n L.length) none (some (vI 0)) none=some (.slice (some ⟨q,0,none⟩) 0 L.length):=by
 unfold aO
 rw[pY,Option.bind_some]
 show sK EE h 5 (some ⟨q,0,none⟩) n L.length none (some (vI 0)) none=_
 unfold sK
 rw[fw,Option.bind_some,bm _ 0 n L.length (Nat.zero_le _),Option.bind_some,fw,Option.bind_some]
 have o:(IW (some (vI 0)) (none:Option Value)&&Nat.ble 0 L.length&&Option.isSome (EE.size 5))=true:=by
  rw[sz5,aP];simp[IW]
 rw[o]
 have j:yC EE h 5 (some ⟨q,0,none⟩) L.length 0 L.length=some (some ⟨q,0,none⟩):=by
  unfold yC
  simp only[sz5,Option.bind_some,hr]
  have p:(!(Nat.beq 0 0)&&Nat.beq ((⟨q,0,none⟩:Addr).off+L.length * 0) (X.len L)&&Nat.beq L.length L.length)=false:=rfl
  rw[p,ax]
  by_cases q:L.length=0 <;> simp[q,nE]
 show (yC EE h 5 (some ⟨q,0,none⟩) L.length 0 L.length).bind _=_
 rw[j];rfl
theorem GM {h0 h:H} (f0:Fr h0 h) {b:Nat} (p:h0.next<=b) (U:b<h.next) (hr:h.row b=some ⟨[.pointer none,.slice none 0 0],92,0,0,false⟩) (n:Nat) (hn:n<=1000000000) :
 CP dN [pT b,vI n] h fun w h'=>Fr h0 h'/\eV b h h'/\qX h0 h' b []:=by
 refine .call (vz ?_)
 unfold qk aq
 refine (uS U hr (.inl rfl)).mono ?_
 rintro w j ⟨f1,n1,r1⟩
 have F1:Fr h0 j:=f1.fr f0 p
 rw[zI,bI,aa,ae,if_neg sm]
 simp only[sO,aa,aE,Nat.zero_add,aA r1,ay,ao]
 refine Wg j _ ?_
 rw[aA r1,ay,ao,aa]
 refine⟨rfl,?_⟩
 rw[pw pY,aa]
 show af (X.binOp EE .sub 3 (vI 0) (vI 0)) _
 rw[pX _ _ _ _ om om,aa,bI,aa,ae]
 have C:qX h0 j b []:=⟨p,om,_,_,r1,.inr rfl,.nil,fun _ _ _ _ q=>by cases q⟩
 by_cases I:0<n
 . rw[if_pos (sp I)]
   have hG:CP jk [pT b,vI n] j fun w h'=>Fr h0 h'/\eV b h h'/\qX h0 h' b []:=by
    refine .call (vA ?_)
    unfold qm aq
    simp only[sO,aa,aE,Nat.zero_add,aA r1,ay,ao]
    refine Wg j _ ?_
    rw[show (.int .i64 2:Value)=vI 2 from rfl,Agg _ _ _ om,aa,dm _ _ _ _ om,aa]
    refine (GL (2 * 0+n) om j).mono ?_
    rintro w h2 ⟨c,c1,c2,rfl,rfl⟩
    have f2:Fr j (X.newRow j 5 (List.replicate c Aj) 0):=lB (Fr.refl _) _ _ _
    have r2:(X.newRow j 5 (List.replicate c Aj) 0).row j.next=some ⟨List.replicate c Aj,5,0,0,false⟩:=by rw[aS,if_pos rfl]
    have n2:(X.newRow j 5 (List.replicate c Aj) 0).next=j.next+1:=rfl
    generalize X.newRow j 5 (List.replicate c Aj) 0=h2 at *
    have J:=f2.aQ r1 om
    rw[aA J,ay,ao,aa]
    refine⟨by first | rfl | (rw[aA r1];rfl),by first | rfl | (rw[aA r1];rfl),?_⟩
    rw[pw pY,aa]
    have R:=T6 (n:=2 * 0+n) r2
    rw[List.length_replicate] at R
    rw[show (.int .i64 ((0:Nat):Int):Value)=vI 0 from rfl,R,aa,aa]
    have hcp:bq EE h2 .copy #[90,90] [.slice (some ⟨j.next,0,none⟩) 0 c,.slice none 0 0]=some (.val (vI 0) h2):=by
     show (some 90).bind (fun st=>X.copyV EE h2 st (.slice (some ⟨j.next,0,none⟩) 0 c) (.slice none 0 0))=_
     rw[Option.bind_some]
     unfold X.copyV
     rw[pY,Option.bind_some]
     show (EE.size 5).bind _=_
     rw[sz5];rfl
    show af (bq EE h2 .copy #[90,90] [.slice (some ⟨j.next,0,none⟩) 0 c,.slice none 0 0]) (Fx _)
    rw[hcp,aa]
    show af (wa 1 h2 (.pointer (some ⟨b,1,none⟩)) (.slice (some ⟨j.next,0,none⟩) 0 c)) _
    refine qY J rfl rfl sm fun h3 f3 r3 n3=>?_
    refine⟨f3.fr (F1.trans f2) p,f1.trans ((f2.x b).trans f3),p,om,_,_,r3,.inr rfl,?_,?_⟩
    . have:=oC.at (e:=5) (h0:=h0) (h:=h3) j.next 0 0 (List.replicate c Aj) F1.next om (f3.aQ r2 om om) (Nat.zero_le _) nlr so
      rw[List.length_replicate,List.take_zero] at this
      exact this
    . intro b' o n' k q
      cases q
      omega
   refine hG.mono ?_
   rintro w h' q
   exact q
 . rw[if_neg (sp I)]
   exact⟨F1,f1,C⟩
theorem T7 (k:Nat) (hk:k<4294967296) (h:H):ai PP nG [dD 1,dD k] h (.v (.tuple ⟨[dD 0,dD k]⟩) h):=by
 refine aj.pure (Bh ?_) (by simp[flat])
 unfold xT aq
 have am:∀ x:Nat,x &&& 4294967295=x % 4294967296:=fun x=>Nat.and_two_pow_sub_one_eq_mod x 32
 simp only[show (.int .u64 4294967295:Value)=dD 4294967295 from rfl,Lc,am,bB,aa,vw]
 have j:k % 4294967296=k:=Nat.mod_eq_of_lt hk
 have o:k / 4294967296=0:=Nat.div_eq_of_lt hk
 simp only[j,o,Nat.mod_eq_of_lt (show k<18446744073709551616 by omega),Ds,fq,bB,aa,Nat.one_mul,Nat.zero_mul,Nat.mul_zero,Nat.zero_add,Nat.add_zero,vw,Lc,am,show (1:Nat) % 4294967296=1 from rfl,show (1:Nat) / 4294967296=0 from rfl,Nat.zero_mod,Nat.zero_div,show (1:Nat) % 18446744073709551616=1 from rfl]
 exact⟨trivial,Fr.refl _⟩
theorem Wh (k:Nat) (hk:k<4294967296) (h:H):ai PP mj [.int .u64 ((1:Nat):Int),.int .u64 (k:Int)] h (.v (.tuple ⟨[dD 0,dD k]⟩) h):=by
 refine aj.pure (DI ?_) (by simp[flat])
 unfold AJ aq
 rw[ae,if_neg dc]
 refine ar (T7 k hk h) ?_
 simp only[au,ao,ay,aa]
 exact⟨trivial,Fr.refl _⟩
theorem GN {h0 h:H} {b:Nat} {l:List UInt8} (B:qX h0 h b l):CP ei [pT b] h fun w h'=>h'=h/\w=vI l.length:=by
 obtain⟨j,o,a,v,hr,ha,p,C⟩:=B
 refine .call (wE ?_)
 unfold rF aq
 simp only[sO,aa,aE]
 rw[aA hr,Nat.zero_add,ay,ao,aa,p.read.len TB,List.length_map]
 exact⟨rfl,rfl⟩
theorem Wi (E:Env) (h:H) (ats:Array TypeId) (a b c:Nat) (K:Value->H->Prop):blt E h .min ats [vI a,vI b,vI c] K=K (vI (min (min a b) c)) h:=by
 show K (.int .i64 (Bool.rec (motive:=fun _=>Int) (c:Int) (Bool.rec (motive:=fun _=>Int) (b:Int) (a:Int) (gn a b)) (gn (Bool.rec (motive:=fun _=>Int) (b:Int) (a:Int) (gn a b)) c))) h=_
 rw[<-X.Cf,<-X.Cf]
 congr 1
 show Value.int _ _=Value.int _ _
 congr 1
 split <;> split <;> omega
theorem HPf (L:List Nat) (o:L.head?≠some 48) (h2:∀ n ∈ L.head?,n<256) (hl:L.length<=bl) (h:H):ai PP bo [.string (bs L),st [48]] h (.v (.bool false) h):=by
 have e:iY [48] (L.map UInt8.ofNat)=false:=by
  rw[Nu]
  cases L with
  | nil=>rfl
  | cons x l =>
   have hx:x≠48:=fun q=>o (by rw[q];rfl)
   have j:x<256:=h2 x rfl
   show decide (UInt8.ofNat x=48)=false
   rw[decide_eq_false_iff_not]
   intro q
   have:=congrArg UInt8.toNat q
   rw[ofNat_toNat j] at this
   exact hx (sp this)
 have:=lU (L.map UInt8.ofNat) [48] (by rw[List.length_map];exact hl) h
 rw[e] at this
 exact this
theorem HPt (L:List Nat) (j:L.head?=some 48) (hl:L.length<=bl) (h:H):ai PP bo [.string (bs L),st [48]] h (.v (.bool true) h):=by
 have e:iY [48] (L.map UInt8.ofNat)=true:=by
  rw[Nu]
  cases L with
  | nil=>cases j
  | cons x l =>
   have hx:x=48:=sp j
   subst hx;rfl
 have:=lU (L.map UInt8.ofNat) [48] (by rw[List.length_map];exact hl) h
 rw[e] at this
 exact this
noncomputable def mB (b:Nat) (h:H):Nat:=match h.row b with | some x=>(match nth x.cs 1 with | some (.slice _ n _)=>n | _=>0) | none=>0
theorem qX.mB {h0 h:H} {b:Nat} {l:List UInt8} (B:qX h0 h b l):mB b h=l.length:=by
 obtain⟨C,I,a,v,hr,ha,p,R⟩:=B
 unfold Go.Proofs.YtikojelnedfmpaaGreatDoor.mB
 rw[hr]
 show (match nth [a,v] 1 with | some (.slice _ n _)=>n | _=>0)=_
 rw[ay,ao]
 generalize o:We l=vs at p
 have j:vs.length=l.length:=by rw[<-o,List.length_map]
 cases p with
 | nil=>exact j
 | «at» q n ib L gz hb J hn hf hz =>
  show n=_
  rw[<-j,List.length_take];omega
theorem Nv (k:Nat) (hk:k<=1000) (h:H):ai PP oU [st [48],vI k] h (.v (st (List.replicate k 48)) h):=by
 have qS:bl=1000000000:=rfl
 refine aj.pure (Cg ?_) (by simp[flat])
 unfold yG aq
 rw[zI,cn,aa,ae]
 by_cases h0:k=0
 . rw[if_pos (by simp[h0])];subst h0;exact⟨rfl,Fr.refl _⟩
 rw[if_neg (by simp[h0]),oI,cn,aa,ae]
 by_cases o:k=1
 . rw[if_pos (by simp[o])];subst o;exact⟨rfl,Fr.refl _⟩
 rw[if_neg (by simp[o]),bI,aa,ae,if_neg sm,bb kH,dI Zh Nw,aa,dI Zh Nw,aa]
 show CP mj [.int .u64 (IntKind.u64.wrap ((1:Nat):Int)),.int .u64 (IntKind.u64.wrap (k:Int))] h _
 rw[bB,bB,Nat.mod_eq_of_lt (show k<18446744073709551616 by omega)]
 refine ar (Wh k om h) ?_
 simp only[au,ao,ay,aa]
 rw[show (.int .u64 0:Value)=dD 0 from rfl,fu,aa,ag,if_pos dc,show (.int .u64 9223372036854775807:Value)=dD 9223372036854775807 from rfl,fu,aa]
 unfold mz aq
 rw[ae,if_neg so,dI Nw Zh,aa]
 show blt EE h .len #[9] [st [48]] _
 have ew:(Value.int .i64 (IntKind.i64.wrap (k:Int)))=vI k:=by rw[wrap_i64 om]
 simp only[ew]
 rw[bb kH,show ((([48]:List UInt8).length:Nat):Int)=((1:Nat):Int) from rfl,zI,cn,aa,ae,if_neg dc]
 have e0:MV (st [48]) (vI 0)=some (v8 48):=rfl
 rw[e0,aa,show (.int .u8 32:Value)=v8 32 from rfl,cn,aa,ae,if_neg dc,show (.int .u8 45:Value)=v8 45 from rfl,cn,aa,ae,if_neg dc,show (.int .u8 48:Value)=v8 48 from rfl,cn,aa,ae,if_pos dc]
 have J37:jm (fun v h'=>v=st (List.replicate k 48)/\Fr h h') (st [48]) (vI k) h:=by
  unfold jm aq
  rw[show (.int .i64 8192:Value)=vI 8192 from rfl,fu,aa,ae,if_neg so]
  unfold iw aq
  refine bP fun o f1 r1 n1=>?_
  refine (GM f1 nlr om r1 k om).mono ?_
  rintro w h2 ⟨f2,g2,J⟩
  refine (cR f2 J [48] sm so).mono ?_
  rintro w h3 ⟨f3,g3,C⟩
  refine aL.ind (fun s h'=>Fr h h'/\∃ m:Nat,s=[vI k,vI k,pT h.next]/\1<=m/\m<=k/\qX h h' h.next (List.replicate m 48)) (fun _ h'=>k-mB h.next h') ?_ ⟨f3,1,rfl,Nat.le_refl _,om,C⟩
  clear f1 f2 f3 J C r1 n1 g2 g3 w o h2 h3
  rintro s o ⟨f1,m,rfl,hm1,hmk,I⟩
  show lC _ _ (vI k) (vI k) (pT h.next) o
  unfold lC aq
  have p:(List.replicate m (48:UInt8)).length<=bl:=by rw[List.length_replicate];omega
  refine (GN I).mono ?_
  rintro w h' ⟨rfl,rfl⟩
  rw[List.length_replicate,bI,aa,ae]
  by_cases R:m<k
  . rw[if_pos (by simp[R])]
    refine (GN I).mono ?_
    rintro w PJ ⟨rfl,rfl⟩
    rw[List.length_replicate,pX _ _ _ _ om om,aa]
    refine (GN I).mono ?_
    rintro w PJ ⟨rfl,rfl⟩
    rw[List.length_replicate,Wi]
    have hc:min (min (k-m) m) k=min (k-m) m:=om
    rw[hc]
    generalize Zi:min (k-m) m=c
    refine (kj f1 I p).mono ?_
    rintro w h2 ⟨rfl,f2,g2,J⟩
    rw[dJ kH h2 _ none (some (vI c)) (bm .i64 _ _ _ (by rw[List.length_replicate];omega)) (fw _ _),aa,List.drop_zero,List.take_replicate,Nat.min_eq_left om]
    refine (cR f2 J _ p (by rw[List.length_replicate];omega)).mono ?_
    rintro w h3 ⟨f3,g3,C⟩
    rw[List.replicate_append_replicate] at C
    refine⟨⟨f3,m+c,rfl,om,om,C⟩,?_⟩
    show k-mB h.next h3<k-mB h.next _
    rw[C.mB,I.mB,List.length_replicate,List.length_replicate]
    omega
  . rw[if_neg (by simp[R])]
    have:m=k:=om
    subst this
    refine (kj f1 I p).mono ?_
    rintro w h2 ⟨rfl,f2,g2,J⟩
    exact⟨rfl,f2⟩
 have U:jn (fun v h'=>v=st (List.replicate k 48)/\Fr h h') (st [48]) (vI k) (.bool false) h:=by
  unfold jn aq;rw[ae,if_neg dc];exact J37
 have J82:jo (fun v h'=>v=st (List.replicate k 48)/\Fr h h') (st [48]) (vI k) (.bool false) h:=by
  unfold jo aq
  rw[ae,if_neg dc,show (.int .i64 64:Value)=vI 64 from rfl,nD,aa,ag]
  split
  . exact ar (HPf _ dc dc dc h) U
  . exact U
 have J72:fR (fun v h'=>v=st (List.replicate k 48)/\Fr h h') (st [48]) (vI k) (.bool false) h:=by
  unfold fR aq
  rw[ae,if_neg dc,show (.int .i64 128:Value)=vI 128 from rfl,nD,aa,ag]
  split
  . exact ar (HPf _ dc dc dc h) J82
  . exact J82
 have J62:jq (fun v h'=>v=st (List.replicate k 48)/\Fr h h') (st [48]) (vI k) (.bool false) h:=by
  unfold jq aq
  rw[ae,if_neg dc,show (.int .i64 64:Value)=vI 64 from rfl,nD,aa,ag]
  by_cases j:k<=64
  . rw[if_pos (sp j)]
    refine ar (HPt _ dc dc h) ?_
    unfold fR aq
    rw[ae,if_pos rfl]
    show af (aO EE h 9 (st (List.replicate 64 48)) none (some (vI k)) none) _
    rw[dJ kH h _ none (some (vI k)) (bm .i64 _ _ _ (by rw[List.length_replicate];omega)) (fw _ _),aa,List.drop_zero,List.take_replicate,Nat.min_eq_left j]
    exact⟨rfl,Fr.refl _⟩
  . rw[if_neg (sp j)];exact J72
 have J52:jr (fun v h'=>v=st (List.replicate k 48)/\Fr h h') (st [48]) (vI k) (.bool false) h:=by
  unfold jr aq
  rw[ae,if_neg dc,show (.int .i64 128:Value)=vI 128 from rfl,nD,aa,ag]
  split
  . exact ar (HPf _ dc dc dc h) J62
  . exact J62
 unfold ez aq
 rw[ae,if_pos dc,show (.int .i64 128:Value)=vI 128 from rfl,nD,aa,ag]
 split
 . exact ar (HPf _ dc dc dc h) J52
 . exact J52
end Go.Proofs.YtikojelnedfmpaaGreatDoor
namespace Go.Proofs.YtikojelnedfmpaaGreatDoor
open Go Go.X
def DJ (n:Nat) (s:List UInt8):List UInt8 :=
 let t:=List.replicate (n+1-s.length) 48++s
 if n=0 then s else t.take (t.length-n)++[46]++t.drop (t.length-n)
def js (neg:Bool) (n d:List UInt8):List UInt8 × Bool :=
 if sP (aJ (wD neg n d))=true then (DJ (mV (aJ (wD neg n d))) (eI (aJ (wN neg n d) * 10 ^ mV (aJ (wD neg n d)) / aJ (wD neg n d))),true)
 else ([],false)
def sbV (p:List UInt8 × Bool):Value:=.tuple ⟨[st p.1,.bool p.2]⟩
theorem Nx:∀ k n,n<10 ^ (k+1)->(eI n).length<=k+1:=by
 intro k
 induction k with
 | zero=>intro n h;rw[fQ (sp h)];simp
 | succ k o =>
  intro n h
  by_cases j:n<10
  . rw[fQ j];simp
  . rw[qh j,List.length_append]
    have:=o (n / 10) (by rw[Nat.pow_succ] at h;omega)
    simp;omega
theorem yH {D:Nat} (j:0<D) (hl:(enc D).length<=32):mV D<256:=by
 have o:=vB (n:=2) om j hl
 have p:=vB (n:=5) om j hl
 unfold mV
 split <;> omega
theorem DK {n:Nat} (h:n<256):(enc (10 ^ n)).length<=256:=mg (Nat.lt_of_le_of_lt (Nat.pow_le_pow_left (by omega:10<=256) _) (Nat.pow_lt_pow_right om h))
theorem Acl {n:Nat} (h:n<256):P9 10 n=enc (10 ^ n):=by unfold P9;exact if_pos (by have:=DK h;omega)
theorem RQ {A B a b:Nat} (j:(enc A).length<=a) (h2:(enc B).length<=b):(enc (A * B)).length<=a+b:=by
 refine mg ?_
 rw[Nat.pow_add]
 exact Nat.mul_lt_mul'' (gV j) (gV h2)
theorem rU {A k:Nat} (h:(enc A).length<=k) (hk:0<k):(eI A).length<=3 * k:=by
 have o:=gV h
 have h2:256 ^ k<=10 ^ (3 * k):=by
  rw[Nat.pow_mul]
  exact Nat.pow_le_pow_left dc _
 obtain⟨j,p⟩:∃ j,3 * k=j+1:=⟨3 * k-1,om⟩
 rw[p] at h2 ⊢
 exact Nx j A (Nat.lt_of_lt_of_le o h2)
theorem Agh:(bs [46]:ByteArray)=⟨⟨[46]⟩⟩:=rfl
theorem Agi:(bs [48]:ByteArray)=⟨⟨[48]⟩⟩:=rfl
theorem Agj:(bs [47]:ByteArray)=⟨⟨[47]⟩⟩:=rfl
theorem T8 {h:H} {t:List UInt8} {n:Nat} (hn:n<=t.length) (hl:t.length<=100000) {K:Value->Prop} (hk:K (st (t.take (t.length-n)++[46]++t.drop (t.length-n)))) :
 af ((bq EE h .len #[9] [st t]).bind dw) fun j =>
 af (X.binOp EE .sub 3 j (vI n)) fun o =>
 af (aO EE h 9 (st t) none (some o) none) fun p =>
 af (X.binOp EE .add 9 p (.string (bs [46]))) fun C =>
 af ((bq EE h .len #[9] [st t]).bind dw) fun I =>
 af (X.binOp EE .sub 3 I (vI n)) fun J =>
 af (aO EE h 9 (st t) (some J) none none) fun R =>
 af (X.binOp EE .add 9 C R) K:=by
 rw[ED kH,aa,pX _ _ _ _ hn om,aa,dJ kH h t none (some (vI _)) (bm .i64 _ _ _ om) (fw _ _),aa,List.drop_zero,Agh,Go.X.gW,if_pos so,aa,aa,pX _ _ _ _ hn om,aa,dJ kH h t (some (vI _)) none (fw _ _) (bm .i64 _ _ _ om),aa,List.take_length,Go.X.gW,if_pos so,aa]
 exact hk
theorem Wj (E:Env) (h:H) (ats:Array TypeId) (b:Int) (K:Value->H->Prop):blt E h .max ats [.int .i64 0,.int .i64 b] K=K (vI b.toNat) h:=by
 rw[wk,show max (0:Int) b=((b.toNat:Nat):Int) by omega]
theorem ub (neg:Bool) (n d:List UInt8) (h:H):ai PP ml [sQ neg n d] h (.v (sbV (js neg n d)) h):=by
 have J:bl=1000000000:=rfl
 refine aj.pure (DL ?_) (by unfold sbV;simp[flat])
 unfold AK aq
 refine fz fun p f1 r1 n1=>?_
 rw[cO (n:=3) r1 rfl,aa]
 refine ar (oV neg n d p) ?_
 unfold JV js
 have R:=P_ neg n d
 have U:=P' neg n d
 have tn:=Qa neg n d
 have ld:=iG (wF neg n d).1
 have ln:=iG (Ch neg n d)
 have C:=yH R (by rw[U];exact ld)
 simp only[au,ao,ay,aa]
 rw[aY,aa,ae]
 by_cases he:sP (aJ (wD neg n d))=true
 . rw[if_neg (by simp[he]),if_pos he,cO (n:=3) r1 rfl,aa]
   refine ar (oW neg n d p) ?_
   rw[GO]
   refine lV r1 rfl rfl rfl fun h2 f2 r2 n2=>?_
   have I:Fr h h2:=f2.fr f1 nlr
   rw[aE,aa,aA r2,Nat.zero_add,ay,ao,aa,show (.int .u64 10:Value)=dD 10 from rfl]
   refine ar (j4 10 _ om om h2) ?_
   refine⟨by rw[aA r2];rfl,?_⟩
   rw[Acl C]
   have lp:=DK C
   refine ar (tW _ _ om om h2) ?_
   rw[a_,aE,aa,aA r2,Nat.zero_add,ay,ay,ao,aa]
   refine⟨by first | rfl | (rw[aA r2];rfl),by first | rfl | (rw[aA r2];rfl),?_⟩
   have lm:(enc (aJ (wN neg n d) * 10 ^ mV (aJ (wD neg n d)))).length<=288:=RQ (a:=32) (b:=256) (by rw[tn];exact ln) lp
   refine ar (eX _ _ om om h2) ?_
   rw[a_,ZI om]
   simp only[au,ao,ay,aa]
   rw[zI,cX,aa,ae,if_neg sm]
   have lq:(enc (aJ (wN neg n d) * 10 ^ mV (aJ (wD neg n d)) / aJ (wD neg n d))).length<=288:=Nat.le_trans (qj (Nat.div_le_self _ _)) lm
   refine ar (wB _ om h2) ?_
   have ls:=rU lq om
   rw[a_,cn,aa,ae]
   unfold DJ
   generalize eI (aJ (wN neg n d) * 10 ^ mV (aJ (wD neg n d)) / aJ (wD neg n d))=s at *
   generalize mV (aJ (wD neg n d))=m at *
   by_cases j:m=0
   . rw[if_pos (by simp[j]),if_pos j]
     exact⟨rfl,I⟩
   rw[if_neg (by simp[j]),if_neg j,oI,dm _ _ _ _ om,aa,bb kH,Go.X.binOp_sub,aa,wrap64 om om,show (vI 0:Value)=.int .i64 0 from rfl,Wj,show (((m+1:Nat):Int)-(s.length:Int)).toNat=m+1-s.length by omega,Agi]
   refine ar (Nv _ om h2) ?_
   rw[Go.X.gW,if_pos so,aa]
   exact T8 (h:=h2) (t:=List.replicate (m+1-s.length) 48++s) so so (K:=fun o=>(fun v h'=>v=sbV ((List.replicate (m+1-s.length) 48++s).take ((List.replicate (m+1-s.length) 48++s).length-m)++[46]++(List.replicate (m+1-s.length) 48++s).drop ((List.replicate (m+1-s.length) 48++s).length-m),true)/\Fr h h') (.tuple ⟨[o,.bool true]⟩) h2) ⟨rfl,I⟩
 . rw[if_pos (sp he),if_neg he]
   exact⟨rfl,f1⟩
theorem Lk (m:Nat):eI m≠[]:=by
 by_cases hm:m<10
 . rw[fQ hm];simp
 . rw[qh hm];simp
def Ny (neg:Bool) (n d:List UInt8):List UInt8 :=
 (if wS neg n d=true then [45] else []) ++
 (if sP (aJ (wD neg n d))=true/\mV (aJ (wD neg n d))<=20 then (js neg n d).1 else eI (aJ (wN neg n d))++[47]++eI (aJ (wD neg n d)))
theorem ZJ (neg:Bool) (n d:List UInt8):iZ (wS neg n d) (wN neg n d) (wD neg n d)=true:=by
 unfold wS wN wD
 by_cases h:iZ neg n d=true
 . rw[if_pos h,if_pos h,if_pos h];exact h
 . rw[if_neg h,if_neg h,if_neg h];rfl
theorem Acm (neg:Bool) (n d:List UInt8):wS (wS neg n d) (wN neg n d) (wD neg n d)=wS neg n d/\wN (wS neg n d) (wN neg n d) (wD neg n d)=wN neg n d/\wD (wS neg n d) (wN neg n d) (wD neg n d)=wD neg n d:=by
 have h:=ZJ neg n d
 generalize wS neg n d=s at *
 generalize wN neg n d=m at *
 generalize wD neg n d=e at *
 unfold wS wN wD
 rw[if_pos h,if_pos h,if_pos h];exact⟨rfl,rfl,rfl⟩
theorem Qb (m:Nat) (s:List UInt8):(DJ m s).length<=s.length+m+2:=by
 unfold DJ
 by_cases h:m=0
 . simp only[if_pos h];omega
 . simp only[if_neg h];simp;omega
theorem GP (neg:Bool) (n d:List UInt8):(js neg n d).1.length<=2000:=by
 unfold js
 split
 . have j:=P_ neg n d
   have o:=P' neg n d
   have tn:=Qa neg n d
   have p:=iG (wF neg n d).1
   have C:=iG (Ch neg n d)
   have I:=yH j (by rw[o];exact p)
   have J:(enc (aJ (wN neg n d) * 10 ^ mV (aJ (wD neg n d)))).length<=288:=RQ (a:=32) (b:=256) (by rw[tn];exact C) (DK I)
   have R:(enc (aJ (wN neg n d) * 10 ^ mV (aJ (wD neg n d)) / aJ (wD neg n d))).length<=288:=Nat.le_trans (qj (Nat.div_le_self _ _)) J
   have U:=rU R om
   have:=Qb (mV (aJ (wD neg n d))) (eI (aJ (wN neg n d) * 10 ^ mV (aJ (wD neg n d)) / aJ (wD neg n d)))
   show (DJ _ _).length<=2000
   omega
 . simp
theorem T9 (neg:Bool) (n d:List UInt8):(eI (aJ (wN neg n d))).length<=96/\(eI (aJ (wD neg n d))).length<=96:=by
 have j:=P' neg n d
 have tn:=Qa neg n d
 have o:=iG (wF neg n d).1
 have p:=iG (Ch neg n d)
 exact⟨rU (k:=32) (by rw[tn];exact p) om,rU (k:=32) (by rw[j];exact o) om⟩
theorem DM (neg:Bool) (n d:List UInt8) (h:H):ai PP sR [sQ neg n d] h (.v (st (Ny neg n d)) h):=by
 refine aj.pure (Fy ?_) (by simp[flat])
 unfold Ci aq
 refine fz fun I f1 r1 n1=>?_
 rw[cO (n:=3) r1 rfl,aa]
 refine ar (oW neg n d I) ?_
 rw[GO]
 refine lV r1 rfl rfl rfl fun h2 f2 r2 n2=>?_
 have C:Fr h h2:=f2.fr f1 nlr
 have hw:=Acm neg n d
 have R:=GP neg n d
 have U:=T9 neg n d
 have ld:=iG (wF neg n d).1
 have ln:=iG (Ch neg n d)
 have J:∀ j:List UInt8,j.length<=1->j=(if wS neg n d=true then [45] else [])->mm (fun v h'=>v=st (Ny neg n d)/\Fr h h') (pT h.next) (st j) h2:=by
  intro j T_ p
  unfold mm aq
  rw[cO (n:=3) r2 rfl,aa]
  refine ar (oV _ _ _ h2) ?_
  unfold JV
  rw[hw.2.2]
  simp only[au,ao,ay,aa]
  rw[ag]
  have o:∀ x:Bool,(x=true<->sP (aJ (wD neg n d))=true/\mV (aJ (wD neg n d))<=20)->kP (fun v h'=>v=st (Ny neg n d)/\Fr h h') (pT h.next) (st j) (.bool x) h2:=by
   intro x hx
   unfold kP Ny aq
   rw[ae,<-p]
   by_cases hc:sP (aJ (wD neg n d))=true/\mV (aJ (wD neg n d))<=20
   . rw[if_pos (hx.2 hc),if_pos hc,cO (n:=3) r2 rfl,aa]
     refine ar (ub _ _ _ h2) ?_
     have e:js (wS neg n d) (wN neg n d) (wD neg n d)=js neg n d:=by
      unfold js;rw[hw.2.2,hw.2.1]
     rw[e]
     unfold sbV
     simp only[au,ao,ay,aa]
     rw[Go.X.gW,if_pos om,aa]
     exact⟨rfl,C⟩
   . rw[if_neg (fun q=>hc (hx.1 q)),if_neg hc]
     simp only[aE,aa,aA r2,Nat.zero_add,ay,ao]
     refine ar (wB _ om h2) ?_
     rw[Go.X.gW,if_pos om,aa,Agj,Go.X.gW,if_pos so,aa]
     simp only[aE,aa,aA r2,Nat.zero_add,ay,ao]
     refine⟨trivial,ar (wB _ om h2) ?_⟩
     rw[Go.X.gW,if_pos so,aa]
     exact⟨sm,C⟩
  by_cases he:sP (aJ (wD neg n d))=true
  . rw[if_pos he,show (.int .i64 20:Value)=vI 20 from rfl,nD,aa]
    exact o _ (by simp[he])
  . rw[if_neg he]
    exact o false (by simp[he])
 rw[aE,aa,aA r2,ao,aa,ae]
 by_cases hs:wS neg n d=true
 . rw[if_pos hs]
   exact J [45] sm (by rw[if_pos hs])
 . rw[if_neg hs]
   exact J [] sm (by rw[if_neg hs])
end Go.Proofs.YtikojelnedfmpaaGreatDoor
namespace Go.Proofs.YtikojelnedfmpaaGreatDoor
open Go Go.X
set_option maxRecDepth 100000
structure V7 where
 kind:Int
 num:R3
 text:List UInt8
 uc:Bool
 fault:Int
 deriving DecidableEq
abbrev vv (v:V7):Value:=.agg ⟨[.int .i64 v.kind,.bool v.num.neg,st v.num.num,st v.num.den,st v.text,.bool v.uc,.int .i64 v.fault]⟩
def v0:V7:=⟨0,r0,[],false,0⟩
def JW:List (List UInt8):=[[],[35,68,73,86,47,48,33],[35,86,65,76,85,69,33],[35,82,69,70,33],[35,78,65,77,69,63],[35,78,85,77,33],[35,78,47,65],[35,67,73,82,67,33]]
def lP (n:Int):List UInt8:=if 1<=n/\n<=7 then JW.getD n.toNat [] else []
theorem agV:(EE.dO 103).map (·.agg)=some true:=by kernel_rfl
theorem ag8:(EE.dO 136).map (·.agg)=some true:=by kernel_rfl
theorem Agk {h':H} {b:Nat} {cs:List Value} {e:TypeId} {osz ib:Nat} {ro:Bool} (hr:h'.row b=some ⟨cs,e,osz,ib,ro⟩) (hn:cs.length=7) :
 ((addrOf (pT b)).bind fun j=>(X.loadVar EE h' 103 j).bind fun o=>(some []).map (o :: ·))=some [.agg ⟨cs⟩]:=by
 rw[km,Option.bind_some,ZK agV Abd hr hn];rfl
theorem Agl {h':H} {b:Nat} {cs:List Value} {e:TypeId} {osz ib:Nat} {ro:Bool} (hr:h'.row b=some ⟨cs,e,osz,ib,ro⟩) (hn:cs.length=8) :
 ((addrOf (pT b)).bind fun j=>(X.loadVar EE h' 136 j).bind fun o=>(some []).map (o :: ·))=some [.agg ⟨cs⟩]:=by
 rw[km,Option.bind_some,ZK ag8 Abe hr hn];rfl
theorem bV0:bC EE 103 []=some (vv v0):=by kernel_rfl
theorem bVF (n:Int):bC EE 103 [(0,.int .i64 4),(4,.int .i64 n)]=some (vv ⟨4,r0,[],false,n⟩):=by kernel_rfl
theorem bVT (l:List UInt8):bC EE 103 [(0,.int .i64 2),(2,st l)]=some (vv ⟨2,r0,l,false,0⟩):=by kernel_rfl
theorem bVB (b:Bool):bC EE 103 [(0,.int .i64 3),(3,.bool b)]=some (vv ⟨3,r0,[],b,0⟩):=by kernel_rfl
theorem bVN (r:R3):bC EE 103 [(0,.int .i64 1),(1,rv r)]=some (vv ⟨1,r,[],false,0⟩):=by kernel_rfl
theorem wG {h o:H} {b:Nat} {cs:List Value} {e:TypeId} {osz:Nat} (F:Fr h o) (hb:h.next<=b) (hr:o.row b=some ⟨cs,e,osz,0,false⟩) (hn:cs.length=7) (v:V7) {Z:Value} (hz:vv v=Z) :
 af (wa 7 o (pT b) (vv v)) (fun j=>af ((addrOf (pT b)).bind fun p=>(X.loadVar EE j 103 p).bind fun C=>(some []).map (C :: ·)) fun vs=>(fun v h'=>v=Z/\Fr h h') (cN vs) j):=by
 refine lV hr rfl hn rfl fun J f4 I R=>?_
 rw[Agk I rfl,aa]
 exact⟨hz,f4.fr F hb⟩
theorem xU (h:H):ai PP py [] h (.v (.agg ⟨cD JW⟩) h):=by
 refine aj.pure (GQ ?_) (by simp[flat,JW,cD])
 unfold EF aq
 refine bP fun j f1 r1 o=>?_
 have e:bC EE 136 [(0,.string (bs [])),(1,.string (bs [35,68,73,86,47,48,33])),(2,.string (bs [35,86,65,76,85,69,33])),(3,.string (bs [35,82,69,70,33])),(4,.string (bs [35,78,65,77,69,63])),(5,.string (bs [35,78,85,77,33])),(6,.string (bs [35,78,47,65])),(7,.string (bs [35,67,73,82,67,33]))]=some (.agg ⟨cD JW⟩):=by kernel_rfl
 rw[e,aa]
 refine lV r1 rfl rfl rfl fun h2 f2 r2 p=>?_
 rw[Agl r2 rfl,aa]
 exact⟨rfl,f2.fr f1 nlr⟩
theorem ko (n:Int) (h:H):ai PP jt [.int .i64 n] h (.v (st (lP n)) h):=by
 refine aj.pure (IZ ?_) (by simp[flat])
 unfold GR aq
 refine ar (xU h) ?_
 refine bP fun C f1 r1 I=>lV r1 rfl rfl rfl fun h2 f2 r2 R=>?_
 have j:Fr h h2:=f2.fr f1 nlr
 rw[Go.X.binOp_lss,aa,ag]
 have J:∀ x:Bool,(x=true<->n<0\/8<=n)->pA (fun v h'=>v=st (lP n)/\Fr h h') (.int .i64 n) (pT h.next) (.bool x) h2:=by
  intro x hx
  unfold pA aq
  rw[ae]
  by_cases hc:n<0\/8<=n
  . rw[if_pos (hx.2 hc)]
    unfold lP
    rw[if_neg om];exact⟨rfl,j⟩
  . rw[if_neg (fun q=>hc (hx.1 q))]
    obtain⟨m,rfl⟩:∃ m:Nat,n=(m:Int):=⟨n.toNat,om⟩
    have hm:m<8:=om
    have o:ixP 8 1 (pT h.next) (.int .i64 (m:Int))=some (.pointer (some ⟨h.next,m,none⟩)):=by
     show (bif Nat.blt m 8 then some (Value.pointer (some (nE ⟨h.next,0,none⟩ (m * 1)))) else none)=_
     rw[dx,decide_eq_true hm,cond_true,zS,Nat.zero_add,Nat.mul_one]
    rw[o,aa,aA r2]
    have p:nth (cD JW) m=some (st (lP m)):=by
     match m,hm with
     | 0,_=>rfl
     | 1,_=>rfl
     | 2,_=>rfl
     | 3,_=>rfl
     | 4,_=>rfl
     | 5,_=>rfl
     | 6,_=>rfl
     | 7,_=>rfl
    rw[p,aa]
    exact⟨rfl,j⟩
 by_cases h0:n<0
 . rw[if_neg (by simp[h0])];exact J true (by simp[h0])
 . rw[if_pos so,Go.X.binOp_geq,aa]
   exact J _ so
theorem Qd (n:Int):(lP n=[])<->¬ (1<=n/\n<=7):=by
 unfold lP
 by_cases h:1<=n/\n<=7
 . rw[if_pos h]
   obtain⟨m,rfl⟩:∃ m:Nat,n=(m:Int):=⟨n.toNat,om⟩
   have j:1<=m:=om
   have h2:m<=7:=om
   match m,j,h2 with
   | 1,_,_=>decide
   | 2,_,_=>decide
   | 3,_,_=>decide
   | 4,_,_=>decide
   | 5,_,_=>decide
   | 6,_,_=>decide
   | 7,_,_=>decide
 . rw[if_neg h];simp[h]
def GS (n:Int):V7:=⟨4,r0,[],false,if 1<=n/\n<=7 then n else 2⟩
theorem xV (n:Int) (h:H):ai PP pB [.int .i64 n] h (.v (vv (GS n)) h):=by
 refine aj.pure (GU ?_) (by simp[flat])
 unfold EG aq
 refine bP fun j f1 r1 o=>ar (ko n j) ?_
 rw[GH,Go.X.bf,aa,ae]
 unfold sS GS aq
 by_cases hc:1<=n/\n<=7
 . rw[if_neg (by simp[Qd,hc]),bVF,aa,if_pos hc]
   exact wG f1 nlr r1 rfl _ rfl
 . rw[if_pos (decide_eq_true ((Qd n).2 hc)),bVF,aa,if_neg hc]
   exact wG f1 nlr r1 rfl _ rfl
def jV (l:List UInt8):Bool:=l.all P6&&decide (l.length<=200)
def yI (l:List UInt8):V7:=if jV l=true then ⟨2,r0,l,false,0⟩ else GS 2
theorem sT (l:List UInt8) (hb:l.length<=bl) (h:H):ai PP ju [st l] h (.v (vv (yI l)) h):=by
 refine aj.pure (I1 ?_) (by simp[flat])
 unfold GV aq
 refine bP fun o f1 r1 p=>ar (Fv l hb o) ?_
 rw[aY,aa,ae]
 unfold yI
 by_cases hc:jV l=true
 . have j:=hc
   unfold jV at j
   rw[if_neg (by rw[j];decide),bVT,aa,if_pos hc]
   exact wG f1 nlr r1 rfl _ rfl
 . have j:=hc
   unfold jV at j
   rw[Bool.not_eq_true] at j
   rw[j,if_pos dc,if_neg hc]
   refine ar (xV 2 o) ?_
   exact wG f1 nlr r1 rfl _ rfl
theorem xW (b:Bool) (h:H):ai PP pC [.bool b] h (.v (vv ⟨3,r0,[],b,0⟩) h):=by
 refine aj.pure (GW ?_) (by simp[flat])
 unfold EH aq
 refine bP fun j f1 r1 o=>?_
 rw[bVB,aa]
 exact wG f1 nlr r1 rfl _ rfl
def Wk (r:R3):R3:=⟨wS r.neg r.num r.den,wN r.neg r.num r.den,wD r.neg r.num r.den⟩
theorem I3 (r:R3) (h:H):ai PP yJ [rv r] h (.v (vv ⟨1,Wk r,[],false,0⟩) h):=by
 refine aj.pure (Ll ?_) (by simp[flat])
 unfold JX aq
 refine fz fun p f1 r1 C=>bP fun h2 f2 r2 I=>?_
 have j:=f2.aQ r1 om
 rw[cO (n:=3) j rfl,aa]
 refine ar (uT _ _ _ h2) ?_
 rw[aY,aa,ae]
 unfold wH Wk wS wN wD aq
 by_cases hr:iZ r.neg r.num r.den=true
 . rw[if_neg (by simp[hr]),if_pos hr,if_pos hr,if_pos hr,cO (n:=3) j rfl,aa]
   show af (bC EE 103 [(0,.int .i64 1),(1,rv r)]) _
   rw[bVN,aa]
   exact wG (f1.trans f2) om r2 rfl _ rfl
 . rw[if_pos (sp hr),if_neg hr,if_neg hr,if_neg hr]
   refine ar (GX 0 om h2) ?_
   rw[du]
   refine lV j rfl rfl rfl fun J f3 o R=>?_
   rw[cO (n:=3) o rfl,aa]
   show af (bC EE 103 [(0,.int .i64 1),(1,rv ⟨false,[],[1]⟩)]) _
   rw[bVN,aa]
   exact wG (f3.fr (f1.trans f2) om) om (f3.aQ r2 om om) rfl _ rfl
def vOk (v:V7):Bool :=
 if v.kind=0 then decide (v=v0)
 else if v.kind=1 then decide (v=⟨1,Wk v.num,[],false,0⟩)
 else if v.kind=2 then decide (v=yI v.text)
 else if v.kind=3 then decide (v=⟨3,r0,[],v.uc,0⟩)
 else if v.kind=4 then decide (v=GS v.fault)
 else false
theorem veq (a b:V7):X.binOp EE .eql 103 (vv a) (vv b)=some (.bool (decide (a=b))):=by
 rw[Abf]
 congr 2
 obtain⟨k,⟨n,p,q⟩,t,u,f⟩:=a
 obtain⟨k',⟨j,o,C⟩,I,J,R⟩:=b
 simp only[V7.mk.injEq,R3.mk.injEq]
 apply decide_eq_decide.2
 constructor
 . rintro⟨a,b,c,d,e,f,g⟩;exact⟨a,⟨b,c,d⟩,e,f,g⟩
 . rintro⟨a,⟨b,c,d⟩,e,f,g⟩;exact⟨a,b,c,d,e,f,g⟩
theorem Qe {h:H} {n b o:Nat} {cs:List Value} {e:TypeId} {osz ib:Nat} {ro:Bool} (hr:h.row b=some ⟨cs,e,osz,ib,ro⟩) (hn:o+n<=cs.length):fJ n h (.pointer (some ⟨b,o,none⟩))=some (.agg ⟨(cs.drop o).take n⟩):=by
 rw[qo,hr,Option.bind_some]
 show (takeN n (mT o cs)).bind _=_
 rw[qg,ki (by rw[List.length_drop];omega)];rfl
theorem Nz (v:V7) (k:Int):X.binOp EE .eql 3 (.int .i64 v.kind) (.int .i64 k)=some (.bool (decide (v.kind=k))):=by rw[Go.X.ak]
theorem Fz (v:V7) (hb:v.text.length<=bl) (h:H):ai PP uU [vv v] h (.v (.bool (vOk v)) h):=by
 refine aj.pure (GY ?_) (by simp[flat])
 unfold EI aq
 refine fz fun o f1 r1 U=>?_
 rw[aE,aa,aA r1,ao,aa,Nz,aa,ae]
 unfold vOk
 have j:fJ 7 o (pT h.next)=some (vv v):=cO (n:=7) r1 rfl
 have ag3:fJ 3 o (.pointer (some ⟨h.next,0+1,none⟩))=some (rv v.num):=Qe r1 sm
 by_cases p:v.kind=0
 . rw[if_pos (by simp[p]),if_pos p,j,aa,bV0,aa,veq,aa]
   exact⟨rfl,f1⟩
 rw[if_neg (by simp[p]),if_neg p,Nz,aa,ae]
 by_cases C:v.kind=1
 . rw[if_pos (by simp[C]),if_pos C,j,aa,aE,aa,ag3,aa]
   refine ar (I3 v.num o) ?_
   refine⟨j,?_⟩
   rw[veq,aa]
   exact⟨rfl,f1⟩
 rw[if_neg (by simp[C]),if_neg C,Nz,aa,ae]
 by_cases I:v.kind=2
 . rw[if_pos (by simp[I]),if_pos I,j,aa,aE,aa,aA r1]
   simp only[Nat.zero_add,ay,ao,aa]
   refine ar (sT v.text hb o) ?_
   refine⟨j,?_⟩
   rw[veq,aa]
   exact⟨rfl,f1⟩
 rw[if_neg (by simp[I]),if_neg I,Nz,aa,ae]
 by_cases J:v.kind=3
 . rw[if_pos (by simp[J]),if_pos J,j,aa,aE,aa,aA r1]
   simp only[Nat.zero_add,ay,ao,aa]
   refine ar (xW v.uc o) ?_
   refine⟨j,?_⟩
   rw[veq,aa]
   exact⟨rfl,f1⟩
 rw[if_neg (by simp[J]),if_neg J,Nz,aa,ae]
 by_cases R:v.kind=4
 . rw[if_pos (by simp[R]),if_pos R,j,aa,aE,aa,aA r1]
   simp only[Nat.zero_add,ay,ao,aa]
   refine ar (xV v.fault o) ?_
   refine⟨j,?_⟩
   rw[veq,aa]
   exact⟨rfl,f1⟩
 rw[if_neg (by simp[R]),if_neg R]
 exact⟨rfl,f1⟩
def MW (s:List UInt8):Nat:=((List.range 8).find? fun i:Nat=>decide (i≠0)&&decide (lP (i:Int)=s)).getD 0
theorem ZL (i:Nat) (j:1<=i) (h2:i<=7):MW (lP (i:Int))=i:=by
 match i,j,h2 with
 | 1,_,_=>decide
 | 2,_,_=>decide
 | 3,_,_=>decide
 | 4,_,_=>decide
 | 5,_,_=>decide
 | 6,_,_=>decide
 | 7,_,_=>decide
theorem Wl {s:List UInt8} (h:∀ i:Nat,1<=i->i<=7->lP (i:Int)≠s):MW s=0:=by
 have:((List.range 8).find? fun i:Nat=>decide (i≠0)&&decide (lP (i:Int)=s))=none:=by
  rw[List.find?_eq_none]
  intro i hi q
  rw[List.mem_range] at hi
  simp only[Bool.and_eq_true,decide_eq_true_eq] at q
  exact h i om om q.2
 unfold MW
 rw[this];rfl
theorem Agm (m:Nat) (hm:m<8):Ua EE 8 1 9 (.agg ⟨cD JW⟩) (vI m)=some (st (lP (m:Int))):=by
 have h0:Ua EE 8 1 9 (.agg ⟨cD JW⟩) (vI 0)=some (st (lP ((0:Nat):Int))):=by kernel_rfl
 have j:Ua EE 8 1 9 (.agg ⟨cD JW⟩) (vI 1)=some (st (lP ((1:Nat):Int))):=by kernel_rfl
 have h2:Ua EE 8 1 9 (.agg ⟨cD JW⟩) (vI 2)=some (st (lP ((2:Nat):Int))):=by kernel_rfl
 have o:Ua EE 8 1 9 (.agg ⟨cD JW⟩) (vI 3)=some (st (lP ((3:Nat):Int))):=by kernel_rfl
 have p:Ua EE 8 1 9 (.agg ⟨cD JW⟩) (vI 4)=some (st (lP ((4:Nat):Int))):=by kernel_rfl
 have C:Ua EE 8 1 9 (.agg ⟨cD JW⟩) (vI 5)=some (st (lP ((5:Nat):Int))):=by kernel_rfl
 have I:Ua EE 8 1 9 (.agg ⟨cD JW⟩) (vI 6)=some (st (lP ((6:Nat):Int))):=by kernel_rfl
 have J:Ua EE 8 1 9 (.agg ⟨cD JW⟩) (vI 7)=some (st (lP ((7:Nat):Int))):=by kernel_rfl
 match m,hm with
 | 0,_=>exact h0
 | 1,_=>exact j
 | 2,_=>exact h2
 | 3,_=>exact o
 | 4,_=>exact p
 | 5,_=>exact C
 | 6,_=>exact I
 | 7,_=>exact J
theorem FA (s:List UInt8) (h:H):ai PP uV [st s] h (.v (.tuple ⟨[vI (MW s),.bool (decide (MW s≠0))]⟩) h):=by
 refine aj.pure (GZ ?_) (by simp[flat])
 unfold EJ aq
 refine ar (xU h) ?_
 refine aL.ind (fun I h'=>h'=h/\∃ i:Nat,I=[st s,.agg ⟨cD JW⟩,vI i]/\i<=8/\∀ j:Nat,1<=j->j<i->lP (j:Int)≠s) (fun I _=>match aI I 2 with | .int _ i=>8-i.toNat | _=>0) ?_ ⟨rfl,0,rfl,om,fun j J h2=>by omega⟩
 rintro I h' ⟨rfl,i,rfl,hi,U⟩
 show sU _ _ (st s) (.agg ⟨cD JW⟩) (vI i) h'
 unfold sU aq
 rw[show (.int .i64 8:Value)=vI 8 from rfl,bI,aa,ae]
 by_cases o:i<8
 . rw[if_pos (by simp[o]),Agm i o,aa,zI,fu,aa,ag]
   have next:lP (i:Int)≠s\/i=0->jE (fun v p=>v=.tuple ⟨[vI (MW s),.bool (decide (MW s≠0))]⟩/\Fr h' p) (fun C R=>(R=h'/\∃ i:Nat,C=[st s,.agg ⟨cD JW⟩,vI i]/\i<=8/\∀ j:Nat,1<=j->j<i->lP (j:Int)≠s)/\(match aI C 2 with | .int _ i=>8-i.toNat | _=>0)<8-(i:Int).toNat) (st s) (vI i) (.agg ⟨cD JW⟩) (vI i) (.bool false) h':=by
    intro im
    unfold jE aq
    rw[ae,if_neg dc,oI,dm _ _ _ _ om,aa]
    refine⟨⟨rfl,i+1,rfl,om,fun j J h2=>?_⟩,?_⟩
    . by_cases q:j=i
      . subst q
        rcases im with r | r
        . exact r
        . omega
      . exact U j J om
    . show 8-((i+1:Nat):Int).toNat<8-(i:Int).toNat
      omega
   by_cases h0:i=0
   . rw[if_neg (by simp[h0])]
     exact next (.inr h0)
   . rw[if_pos so,Go.X.bf,aa]
     by_cases hs:lP (i:Int)=s
     . rw[decide_eq_true hs]
       unfold jE aq
       rw[ae,if_pos rfl]
       have e:MW s=i:=by rw[<-hs];exact ZL i om om
       rw[e,decide_eq_true h0]
       exact⟨rfl,Fr.refl _⟩
     . rw[decide_eq_false hs]
       exact next (.inl hs)
 . rw[if_neg (by simp[o])]
   rw[Wl (fun i J h2=>U i J om)]
   exact⟨rfl,Fr.refl _⟩
def bT:List UInt8:=[84,82,85,69]
def bF:List UInt8:=[70,65,76,83,69]
def Wm (v:V7):List UInt8 :=
 if vOk v=false then []
 else if v.kind=1 then Ny v.num.neg v.num.num v.num.den
 else if v.kind=3 then (if v.uc=true then bT else bF)
 else if v.kind=4 then lP v.fault
 else v.text
theorem G0 (v:V7) (hb:v.text.length<=bl) (h:H):ai PP wI [vv v] h (.v (st (Wm v)) h):=by
 refine aj.pure (I4 ?_) (by simp[flat])
 unfold G2 aq
 refine fz fun j f1 r1 R=>?_
 have J:fJ 7 j (pT h.next)=some (vv v):=cO (n:=7) r1 rfl
 have ag3:fJ 3 j (.pointer (some ⟨h.next,0+1,none⟩))=some (rv v.num):=Qe r1 sm
 rw[J,aa]
 refine ar (Fz v hb j) ?_
 rw[aY,aa,ae]
 unfold Wm
 by_cases hv:vOk v=true
 . rw[if_neg (by simp[hv]),if_neg (by simp[hv]),aE,aa,aA r1,ao,aa,Nz,aa,ae]
   by_cases o:v.kind=1
   . rw[if_pos (by simp[o]),if_pos o,aE,aa,ag3,aa]
     exact ar (DM _ _ _ j) ⟨rfl,f1⟩
   rw[if_neg (by simp[o]),if_neg o,Nz,aa,ae]
   by_cases p:v.kind=3
   . rw[if_pos (by simp[p]),if_pos p,aE,aa,aA r1]
     simp only[Nat.zero_add,ay,ao,aa]
     rw[ae]
     by_cases C:v.uc=true
     . rw[if_pos C,if_pos C];exact⟨rfl,f1⟩
     . rw[if_neg C,if_neg C];exact⟨rfl,f1⟩
   rw[if_neg (by simp[p]),if_neg p,Nz,aa,ae]
   by_cases I:v.kind=4
   . rw[if_pos (by simp[I]),if_pos I,aE,aa,aA r1]
     simp only[Nat.zero_add,ay,ao,aa]
     exact ar (ko _ j) ⟨rfl,f1⟩
   rw[if_neg (by simp[I]),if_neg I,aE,aa,aA r1]
   simp only[Nat.zero_add,ay,ao,aa]
   exact⟨trivial,f1⟩
 . rw[if_pos (sp hv),if_pos (sp hv)]
   exact⟨rfl,f1⟩
theorem RR (n:Int):(lP n).length<=7:=by
 unfold lP
 split
 . rename_i h
   obtain⟨m,rfl⟩:∃ m:Nat,n=(m:Int):=⟨n.toNat,om⟩
   have j:1<=m:=om
   have h2:m<=7:=om
   match m,j,h2 with
   | 1,_,_=>decide
   | 2,_,_=>decide
   | 3,_,_=>decide
   | 4,_,_=>decide
   | 5,_,_=>decide
   | 6,_,_=>decide
   | 7,_,_=>decide
 . simp
def u5 (c r:Int):Bool:=decide (1<=c)&&decide (c<=52)&&(decide (1<=r)&&decide (r<=99))
def bN (c:UInt8):Bool:=decide (65<=c.toNat)&&decide (c.toNat<=90)
theorem wP (n m:Int) (h:H):ai PP jN [.int .i64 n,.int .i64 m] h (.v (.bool (decide (1<=n)&&decide (n<=m))) h):=by
 refine aj.pure (He ?_) (by simp[flat])
 unfold EO sZ aq
 rw[Go.X.binOp_geq,aa,ag]
 by_cases j:1<=n
 . rw[if_pos (sp j),Go.X.binOp_leq,aa]
   exact⟨by simp[j],Fr.refl _⟩
 . rw[if_neg (sp j)]
   exact⟨by simp[j],Fr.refl _⟩
theorem mW (c r:Int) (h:H):ai PP mX [.int .i64 c,.int .i64 r] h (.v (.bool (u5 c r)) h):=by
 refine aj.pure (Qi ?_) (by simp[flat])
 unfold RV Bm aq
 refine ar (wP c 52 h) ?_
 rw[ag]
 unfold u5
 by_cases j:(decide (1<=c)&&decide (c<=52))=true
 . rw[if_pos j,j]
   exact ar (wP r 99 h) ⟨sm,Fr.refl _⟩
 . rw[if_neg j]
   rw[Bool.not_eq_true] at j
   rw[j];exact⟨rfl,Fr.refl _⟩
def re (n:Int):List UInt8:=if 1<=n/\n<=26 then [UInt8.ofNat (64+n.toNat)] else if 27<=n/\n<=52 then [65,UInt8.ofNat (64+(n.toNat-26))] else []
def Am:List UInt8->Nat
 | [a]=>if bN a=true then a.toNat-64 else 0
 | [a,b]=>if a=65/\bN b=true then b.toNat-64+26 else 0
 | _=>0
theorem wQ {c:UInt8} (h:bN c=true):65<=c.toNat/\c.toNat<=90:=by unfold bN at h;simpa using h
theorem Ww {c:UInt8} (j:65<=c.toNat) (h2:c.toNat<=90):bN c=true:=by unfold bN;simp[j,h2]
theorem Wx:Am []=0:=rfl
theorem Hf (a:UInt8):Am [a]=if bN a=true then a.toNat-64 else 0:=rfl
theorem Hg (a b:UInt8):Am [a,b]=if a=65/\bN b=true then b.toNat-64+26 else 0:=rfl
theorem Wy (a b c:UInt8) (l:List UInt8):Am (a :: b :: c :: l)=0:=rfl
theorem Wz (i:Nat) (j:1<=i) (h2:i<=52) (s:List UInt8):re (i:Int)=s<->Am s=i:=by
 unfold re
 by_cases h:i<=26
 . rw[if_pos om,Int.toNat_natCast]
   have e:(UInt8.ofNat (64+i)).toNat=64+i:=ofNat_toNat om
   constructor
   . rintro rfl
     rw[Hf,if_pos (Ww om om),e];omega
   . intro q
     match s,q with
     | [],q=>rw[Wx] at q;omega
     | [a],q =>
      rw[Hf] at q
      by_cases hc:bN a=true
      . rw[if_pos hc] at q
        have:=wQ hc
        congr 1
        apply UInt8.toNat_inj.1
        omega
      . rw[if_neg hc] at q;omega
     | [a,b],q =>
      rw[Hg] at q
      by_cases hc:a=65/\bN b=true
      . rw[if_pos hc] at q
        have:=wQ hc.2
        omega
      . rw[if_neg hc] at q;omega
     | a :: b :: c :: l,q=>rw[Wy] at q;omega
 . rw[if_neg om,if_pos om,Int.toNat_natCast]
   have e:(UInt8.ofNat (64+(i-26))).toNat=64+(i-26):=ofNat_toNat om
   constructor
   . rintro rfl
     rw[Hg,if_pos ⟨rfl,Ww om om⟩,e];omega
   . intro q
     match s,q with
     | [],q=>rw[Wx] at q;omega
     | [a],q =>
      rw[Hf] at q
      by_cases hc:bN a=true
      . rw[if_pos hc] at q
        have:=wQ hc
        omega
      . rw[if_neg hc] at q;omega
     | [a,b],q =>
      rw[Hg] at q
      by_cases hc:a=65/\bN b=true
      . rw[if_pos hc] at q
        have:=wQ hc.2
        rw[hc.1]
        congr 2
        apply UInt8.toNat_inj.1
        omega
      . rw[if_neg hc] at q;omega
     | a :: b :: c :: l,q=>rw[Wy] at q;omega
theorem Abh {h:H} {m:Nat} (hm:m<256) {K:Value × H->Prop} (hk:∀ h',Fr h h'->K (st [UInt8.ofNat m],h')):af (aT EE h 3 5 (vI m)) fun r0=>gh EE r0.2 90 1 [(0,r0.1)] fun v1 h2=>af (aT EE h2 90 9 v1) K:=by
 rw[dI Zh yj,aa]
 show gh EE h 90 1 [(0,(Value.int .u8 (IntKind.u8.wrap ((m:Nat):Int))))] _
 rw[RF m]
 unfold gh
 rw[Agv,aa]
 have j:Fr h (X.newRow h 5 [v8 (UInt8.ofNat m).toNat] 0):=lB (Fr.refl h) _ _ _
 have o:(X.newRow h 5 [v8 (UInt8.ofNat m).toNat] 0).row h.next=some ⟨[v8 (UInt8.ofNat m).toNat],5,0,0,false⟩:=by rw[aS,if_pos rfl]
 have rd:bk (X.newRow h 5 [v8 (UInt8.ofNat m).toNat] 0) (.slice (some ⟨h.next,0,none⟩) 1 1) (([UInt8.ofNat m]:List UInt8).map fun b=>v8 b.toNat) :=
  .at h.next 0 1 [v8 (UInt8.ofNat m).toNat] sm ⟨_,o,rfl⟩ sm
 show af (aT EE (X.newRow h 5 [v8 (UInt8.ofNat m).toNat] 0) 90 9 (.slice (some ⟨h.next,0,none⟩) 1 1)) _
 rw[Nf pY yj kH rd,aa]
 exact hk _ j
theorem wR (n:Int) (h:H):ai PP s0 [.int .i64 n] h (.v (st (re n)) h):=by
 refine aj.pure (NQ ?_) (by simp[flat])
 unfold NR aq
 refine ar (wP n 52 h) ?_
 rw[aY,aa,ae]
 by_cases hc:1<=n/\n<=52
 . rw[if_neg (by simp[hc])]
   obtain⟨m,rfl⟩:∃ m:Nat,n=((m+1:Nat):Int):=⟨n.toNat-1,om⟩
   have hm:m<52:=om
   rw[oI,pX _ _ _ _ om om,aa,Nat.add_sub_cancel,show (.int .i64 26:Value)=vI 26 from rfl,Le _ _ _ _ _ om,aa,show (.int .i64 65:Value)=vI 65 from rfl,dm _ _ _ _ om,aa]
   refine Abh (m:=65+m % 26) om fun j f1=>?_
   rw[nD,aa,ae]
   unfold re
   by_cases o:m+1<=26
   . rw[if_pos so,if_pos om,Nat.mod_eq_of_lt (show m<26 by omega),Int.toNat_natCast,show 64+(m+1)=65+m by omega]
     exact⟨rfl,f1⟩
   . rw[if_neg so,if_neg om,if_pos om,Int.toNat_natCast,aa,GA _ _ _ _ _ om,aa,wrap_i64 om,dm _ _ _ _ om,aa,pX _ _ _ _ om om,aa]
     show af (aT EE j 3 5 (vI (65+m / 26-1))) _
     refine Abh (m:=65+m / 26-1) om fun h2 f2=>?_
     show af (X.binOp EE .add 9 (st [UInt8.ofNat (65+m / 26-1)]) (st [UInt8.ofNat (65+m % 26)])) _
     rw[Go.X.gW,if_pos sm,aa,show m / 26=1 by omega,show 64+(m+1-26)=65+m % 26 by omega]
     exact⟨rfl,f1.trans f2⟩
 . rw[if_pos so]
   unfold re
   rw[if_neg om,if_neg om]
   exact⟨rfl,Fr.refl _⟩
def Uf (n:Nat):Value:=.tuple ⟨[vI n,.bool (decide (n≠0))]⟩
def uq (c:UInt8):Bool:=decide (97<=c.toNat)&&decide (c.toNat<=122)
def mZ (c:UInt8):Bool:=bN c||uq c
def WU (c:UInt8):UInt8:=if uq c=true then UInt8.ofNat (c.toNat-32) else c
def BV (s:List UInt8):List UInt8:=s.map WU
def LC (c r:Int):List UInt8:=if u5 c r=true then re c++eI r.toNat else []
def vJ (b:List UInt8):Bool:=decide (1<=b.length)&&decide (b.length<=3)&&b.all aR&&decide (b.head?≠some 48)
def fk (s:List UInt8):Nat:=(s.takeWhile bN).length
def yU (s:List UInt8):Nat × Nat × Nat :=
 if vJ (s.drop (fk s))=false\/fk s<1\/2<fk s then (0,0,10)
 else if u5 (Am (s.take (fk s)):Nat) (dX (s.drop (fk s)):Nat)=false then (0,0,6)
 else (Am (s.take (fk s)),dX (s.drop (fk s)),0)
def RY (p:Nat × Nat × Nat):Value:=.tuple ⟨[vI p.1,vI p.2.1,vI p.2.2]⟩
structure Rf where
 aU:List UInt8
 gX:Int
 row:Int
 fc:Bool
 fr:Bool
 deriving DecidableEq
def Rf.c (r:Rf):List Value:=[st r.aU,.int .i64 r.gX,.int .i64 r.row,.bool r.fc,.bool r.fr]
abbrev NV (r:Rf):Value:=.agg ⟨r.c⟩
def ZR:Rf:=⟨[],0,0,false,false⟩
def LO (s:List UInt8):Bool:=decide (1<=fk s)&&decide (fk s<=2)&&decide (1<=s.length-fk s)&&decide (s.length-fk s<=3)&&(s.drop (fk s)).all aR
def r_ (s:List UInt8):Bool :=
 decide (1<=s.length)&&decide (s.length<=12)&&(s.take 1).all mZ&&s.all (fun c=>mZ c||aR c||decide (c=95)) &&
  !(LO (BV s))&&decide (BV s≠bT)&&decide (BV s≠bF)
def o7 (r:Rf):Bool:=(decide (r.aU=[])||r_ r.aU)&&u5 r.gX r.row
def mG (b:Bool):List UInt8:=if b=true then [36] else []
def An (r:Rf):List UInt8:=if o7 r=true then (if r.aU=[] then [] else r.aU++[33])++mG r.fc++re r.gX++mG r.fr++eI r.row.toNat else []
def Ao (s:List UInt8):Rf × Nat :=
 let fc:=iY [36] s
 let s:=yM [36] s
 let n:=fk s
 let d:=s.drop n
 let fr:=iY [36] d
 let row:=yM [36] d
 if fr=true/\(n=0\/0<fk row) then (ZR,10)
 else
  let p:=yU (s.take n++row)
  if p.2.2≠0 then (ZR,p.2.2) else (⟨[],p.1,p.2.1,fc,fr⟩,0)
def se (s:List UInt8):Rf × Nat :=
 if s.contains 33=true then
  if r_ (gD 33 s)=false then (ZR,10)
  else
   let p:=Ao (iq 33 s)
   if p.2≠0 then p else ({ p.1 with aU:=gD 33 s },0)
 else Ao s
def Ui (p:Rf × Nat):Value:=.tuple ⟨[NV p.1,vI p.2]⟩
structure Ar where
 c1:Int
 r1:Int
 c2:Int
 r2:Int
 deriving DecidableEq
def Ar.c (a:Ar):List Value:=[.int .i64 a.c1,.int .i64 a.r1,.int .i64 a.c2,.int .i64 a.r2]
abbrev WC (a:Ar):Value:=.agg ⟨a.c⟩
def ar0:Ar:=⟨0,0,0,0⟩
def rG (a:Ar):Ar:=⟨min a.c1 a.c2,min a.r1 a.r2,max a.c1 a.c2,max a.r1 a.r2⟩
def Cu (a:Ar):Int:=(a.c2-a.c1+1) * (a.r2-a.r1+1)
def fj (a:Ar):Ar × Nat :=
 if u5 a.c1 a.r1=false\/u5 a.c2 a.r2=false then (ar0,6)
 else if 200<Cu (rG a) then (ar0,7)
 else (rG a,0)
def NT (p:Ar × Nat):Value:=.tuple ⟨[WC p.1,vI p.2]⟩
structure Tk where
 kind:Nat
 text:List UInt8
 pos:Nat
 num:R3
def Tk.c (t:Tk):List Value:=[vI t.kind,st t.text,vI t.pos,.bool t.num.neg,st t.num.num,st t.num.den]
abbrev Jf (t:Tk):Value:=.agg ⟨t.c⟩
def jW:Tk:=⟨0,[],0,r0⟩
def fb (c:UInt8):Bool:=mZ c||aR c||decide (c=36)||decide (c=95)
def fe (p:UInt8->Bool) (s:List UInt8):Nat:=(s.takeWhile p).length
def j9 (s:List UInt8):Nat :=
 let n:=fe aR s
 let k:=fe aR (s.drop (n+1))
 if 0<k/\s[n]?=some 46 then n+1+k else n
def ni:List UInt8->Option (List UInt8 × Nat)
 | []=>none
 | c :: r =>
  if c=34 then
   match r with
   | []=>some ([],1)
   | d :: r'=>if d=34 then (ni r').map fun p=>(34 :: p.1,p.2+2) else some ([],1)
  else (ni r).map fun p=>(c :: p.1,p.2+1)
def tL (s:List UInt8):List UInt8:=(List.range 7).foldl (fun j i=>if j.length<(lP ((i+1:Nat):Int)).length/\iY (lP ((i+1:Nat):Int)) s=true then lP ((i+1:Nat):Int) else j) []
def cY (s:List UInt8):Nat × Nat :=
 match s with
 | []=>(0,0)
 | c :: r =>
  if c=40 then (5,1) else if c=41 then (6,1) else if c=44 then (7,1) else if c=58 then (8,1) else if c=33 then (9,1)
  else if c=60/\r.head?=some 62 then (4,2)
  else if (c=60\/c=62)/\r.head?=some 61 then (4,2)
  else if c=43\/c=45\/c=42\/c=47\/c=94\/c=38\/c=61\/c=60\/c=62\/c=37 then (4,1)
  else (0,0)
def nk (s:List UInt8) (at':Nat):Tk × Nat × Nat :=
 let d:=s.drop at'
 match d with
 | []=>(jW,0,0)
 | c :: r =>
  if aR c=true then
   let n:=j9 d
   let p:=qv (d.take n)
   if p.2≠0 then (jW,0,p.2) else (⟨1,d.take n,at',p.1⟩,n,0)
  else if c=34 then
   match ni r with
   | none=>(jW,0,10)
   | some (o,n)=>if jV o=true then (⟨2,o,at',r0⟩,n+1,0) else (jW,0,10)
  else if c=35 then
   if tL d=[] then (jW,0,10) else (⟨10,tL d,at',r0⟩,(tL d).length,0)
  else if fb c=true then (⟨3,d.take (fe fb d),at',r0⟩,fe fb d,0)
  else if (cY d).2=0 then (jW,0,10) else (⟨(cY d).1,d.take (cY d).2,at',r0⟩,(cY d).2,0)
def nj (s:List UInt8) (at':Nat):Tk × Nat × Nat :=
 let a:=at'+fe (fun c=>decide (c=32)) (s.drop at')
 if a=s.length then (⟨0,[],a,r0⟩,a,0)
 else
  let p:=nk s a
  (p.1,a+p.2.1,p.2.2)
def tc:Nat->List UInt8->Nat->List Tk->Nat × List Tk
 | 0,_,_,_=>(0,[])
 | f+1,s,at',acc =>
  let p:=nj s at'
  if p.2.2≠0 then (p.2.2,[]) else if p.1.kind=0 then (0,acc++[p.1]) else tc f s p.2.1 (acc++[p.1])
def jX (s:List UInt8):Nat × List Tk:=if 300<s.length then (9,[]) else tc (s.length+2) s 0 []
structure Nd where
 kind:Int
 op:Int
 a:Int
 b:Int
 num:R3
 text:List UInt8
 uc:Bool
 ref:Rf
 to:Rf
def tM:Nd:=⟨0,0,0,0,r0,[],false,ZR,ZR⟩
def Nd.c (n:Nd):List Value:=[.int .i64 n.kind,.int .i64 n.op,.int .i64 n.a,.int .i64 n.b,.bool n.num.neg,st n.num.num,st n.num.den,st n.text,.bool n.uc]++n.ref.c++n.to.c
abbrev Aq (n:Nd):Value:=.agg ⟨n.c⟩
inductive Lf where
 | num (r:R3) | Of (s:List UInt8) | Qq (b:Bool) | Og (n:Nat) | cell (r:Rf) | vu (a b:Rf)
mutual
inductive Ex where
 | leaf (l:Lf) | un (op:Nat) (a:Ex) | bin (op:Nat) (a b:Ex) | call (f:List UInt8) (l:bi)
inductive bi where
 | nil | cons (a:Ex) (l:bi)
end
def Lf.nd:Lf->Nd
 | .num r=>{ tM with kind:=1,num:=r }
 | .Of s=>{ tM with kind:=2,text:=s }
 | .Qq b=>{ tM with kind:=3,uc:=b }
 | .Og n=>{ tM with kind:=4,op:=n }
 | .cell r=>{ tM with kind:=5,ref:=r }
 | .vu a b=>{ tM with kind:=6,ref:=a,to:=b }
mutual
def Ex.sz:Ex->Nat
 | .leaf _=>1 | .un _ a=>a.sz+1 | .bin _ a b=>a.sz+b.sz+1 | .call _ l=>l.sz+1
def bi.sz:bi->Nat
 | .nil=>0 | .cons a l=>a.sz+l.sz
end
def bi.len:bi->Nat
 | .nil=>0 | .cons _ l=>l.len+1
mutual
/-- how many arguments -/
def Ex.az:Ex->Nat
 | .leaf _=>0 | .un _ a=>a.az | .bin _ a b=>a.az+b.az | .call _ l=>l.az+l.len
def bi.az:bi->Nat
 | .nil=>0 | .cons a l=>a.az+l.az
end
mutual
/-- a AgC nodes,behind k nodes and m arguments -/
def Ex.lN:Ex->Nat->Nat->List Nd
 | .leaf l,_,_=>[l.nd]
 | .un op a,k,m=>a.lN k m++[{ tM with kind:=7,op:=op,a:=(k+a.sz-1:Nat) }]
 | .bin op a b,k,m=>a.lN k m++b.lN (k+a.sz) (m+a.az)++[{ tM with kind:=8,op:=op,a:=(k+a.sz-1:Nat),b:=(k+a.sz+b.sz-1:Nat) }]
 | .call f l,k,m=>l.lN k m++[{ tM with kind:=9,text:=f,a:=(if l.len=0 then 0 else m+l.az:Nat),b:=(l.len:Nat) }]
def bi.lN:bi->Nat->Nat->List Nd
 | .nil,_,_=>[]
 | .cons a l,k,m=>a.lN k m++l.lN (k+a.sz) (m+a.az)
end
def bi.gF:bi->Nat->List Nat
 | .nil,_=>[]
 | .cons a l,k=>(k+a.sz-1) :: l.gF (k+a.sz)
mutual
def Ex.ars:Ex->Nat->List Nat
 | .leaf _,_=>[]
 | .un _ a,k=>a.ars k
 | .bin _ a b,k=>a.ars k++b.ars (k+a.sz)
 | .call _ l,k=>l.ars k++l.gF k
def bi.ars:bi->Nat->List Nat
 | .nil,_=>[]
 | .cons a l,k=>a.ars k++l.ars (k+a.sz)
end
mutual
theorem Ex.cf:∀ (e:Ex) (k m:Nat),(e.lN k m).length=e.sz
 | .leaf _,k,m=>rfl
 | .un _ a,k,m=>by simp[Ex.lN,Ex.sz,a.cf k m]
 | .bin _ a b,k,m=>by simp[Ex.lN,Ex.sz,a.cf k m,b.cf (k+a.sz) (m+a.az)];omega
 | .call _ l,k,m=>by simp[Ex.lN,Ex.sz,l.cf k m]
theorem bi.cf:∀ (e:bi) (k m:Nat),(e.lN k m).length=e.sz
 | .nil,k,m=>rfl
 | .cons a l,k,m=>by simp[bi.lN,bi.sz,a.cf k m,l.cf (k+a.sz) (m+a.az)]
end
theorem bi.gG:∀ (e:bi) (k:Nat),(e.gF k).length=e.len
 | .nil,k=>rfl
 | .cons a l,k=>by simp[bi.gF,bi.len,l.gG (k+a.sz)]
mutual
theorem Ex.dR:∀ (e:Ex) (k:Nat),(e.ars k).length=e.az
 | .leaf _,k=>rfl
 | .un _ a,k=>by simp[Ex.ars,Ex.az,a.dR k]
 | .bin _ a b,k=>by simp[Ex.ars,Ex.az,a.dR k,b.dR (k+a.sz)]
 | .call _ l,k=>by simp[Ex.ars,Ex.az,l.dR k,l.gG k]
theorem bi.dR:∀ (e:bi) (k:Nat),(e.ars k).length=e.az
 | .nil,k=>rfl
 | .cons a l,k=>by simp[bi.ars,bi.az,a.dR k,l.dR (k+a.sz)]
end
mutual
theorem Ex.Hr:∀ (e:Ex),0<e.sz
 | .leaf _=>by simp[Ex.sz]
 | .un _ a=>by simp[Ex.sz]
 | .bin _ a b=>by simp[Ex.sz]
 | .call _ l=>by simp[Ex.sz]
end
def Hs:List (List UInt8):=[[],[43],[45],[42],[47],[94],[38],[61],[60,62],[60],[60,61],[62],[62,61],[45],[37]]
def As (n:Int):List UInt8:=if 0<=n/\n<15 then Hs.getD n.toNat [] else []
def fH (op:Int):Nat:=if 7<=op/\op<=12 then 1 else if op=6 then 2 else if op=1\/op=2 then 3 else if op=3\/op=4 then 4 else if op=5 then 5 else 8
def jw (t:Tk) (n:Nat):Nat:=if t.kind=4 then (((List.range 12).find? fun i=>decide (Hs.getD (i+1) []=t.text)&&decide (fH ((i+1:Nat):Int)=n)).map (·+1)).getD 0 else 0
def oD (t:Tk) (c:UInt8):Bool:=decide (t.kind=4)&&decide (t.text=[c])
def Kj (s:List UInt8):Bool:=decide (1<=s.length)&&decide (s.length<=12)&&(s.take 1).all bN&&s.all (fun c=>bN c||aR c)
def hd (ts:List Tk):Tk:=ts.headD jW
def w4 (a b:Rf):Rf × Rf :=
 let x:=if b.gX<a.gX then { a with gX:=b.gX,fc:=b.fc } else a
 let y:=if b.gX<a.gX then { b with gX:=a.gX,fc:=a.fc } else b
 (if b.row<a.row then { x with row:=b.row,fr:=b.fr } else x,if b.row<a.row then { y with row:=a.row,fr:=a.fr } else y)
def jY (a b:Rf):Ar:=⟨a.gX,a.row,b.gX,b.row⟩
inductive PR (α:Type) where
 | err (e:Nat)
 | ok (a:α) (ts:List Tk)
def vN (aU:List UInt8) (w:Tk) (ts:List Tk):PR Ex :=
 if (se w.text).2≠0 then .err (se w.text).2
 else if (hd ts).kind≠8 then .ok (.leaf (.cell { (se w.text).1 with aU:=aU })) ts
 else if (hd (ts.drop 1)).kind≠3 then .err 10
 else if (se (hd (ts.drop 1)).text).2≠0 then .err (se (hd (ts.drop 1)).text).2
 else
  let p:=w4 { (se w.text).1 with aU:=aU } (se (hd (ts.drop 1)).text).1
  if (fj (jY p.1 p.2)).2≠0 then .err (fj (jY p.1 p.2)).2
  else .ok (.leaf (.vu p.1 p.2)) (ts.drop 2)
def kV:Ex->List Tk->Ex × List Tk
 | a,[]=>(a,[])
 | a,t :: ts=>if oD t 37=true then kV (.un 14 a) ts else (a,t :: ts)
mutual
def fp:Nat->Nat->Nat->List Tk->Option (PR Ex)
 | 0,_,_,_=>none
 | f+1,n,d,ts =>
  if 5<n then rm f d ts
  else match fp f (n+1) d ts with
   | none=>none
   | some (.err e)=>some (.err e)
   | some (.ok a bE)=>w7 f n d a bE
def w7:Nat->Nat->Nat->Ex->List Tk->Option (PR Ex)
 | 0,_,_,_,_=>none
 | f+1,n,d,a,ts =>
  if jw (hd ts) n=0 then some (.ok a ts)
  else match fp f (n+1) d (ts.drop 1) with
   | none=>none
   | some (.err e)=>some (.err e)
   | some (.ok b bE)=>w7 f n d (.bin (jw (hd ts) n) a b) bE
def rm:Nat->Nat->List Tk->Option (PR Ex)
 | 0,_,_=>none
 | f+1,d,ts =>
  if oD (hd ts) 45=true then
   if d=24 then some (.err 8)
   else match rm f (d+1) (ts.drop 1) with
    | none=>none
    | some (.err e)=>some (.err e)
    | some (.ok a bE)=>some (.ok (.un 13 a) bE)
  else At f d ts
def At:Nat->Nat->List Tk->Option (PR Ex)
 | 0,_,_=>none
 | f+1,d,ts =>
  match nV f d ts with
   | none=>none
   | some (.err e)=>some (.err e)
   | some (.ok a bE)=>some (.ok (kV a bE).1 (kV a bE).2)
def nV:Nat->Nat->List Tk->Option (PR Ex)
 | 0,_,_=>none
 | f+1,d,ts =>
  if (hd ts).kind=1 then some (.ok (.leaf (.num (hd ts).num)) (ts.drop 1))
  else if (hd ts).kind=2 then some (.ok (.leaf (.Of (hd ts).text)) (ts.drop 1))
  else if (hd ts).kind=10 then some (.ok (.leaf (.Og (MW (hd ts).text))) (ts.drop 1))
  else if (hd ts).kind=5 then
   if d=24 then some (.err 8)
   else match fp f 1 (d+1) (ts.drop 1) with
    | none=>none
    | some (.err e)=>some (.err e)
    | some (.ok a bE)=>if (hd bE).kind=6 then some (.ok a (bE.drop 1)) else some (.err 10)
  else if (hd ts).kind=3 then sj f d (hd ts) (ts.drop 1)
  else some (.err 10)
def sj:Nat->Nat->Tk->List Tk->Option (PR Ex)
 | 0,_,_,_=>none
 | f+1,d,t,ts =>
  if (hd ts).kind=5 then
   if Kj t.text=false then some (.err 10)
   else if d=24 then some (.err 8)
   else if (hd (ts.drop 1)).kind=6 then some (.ok (.call t.text .nil) (ts.drop 2))
   else match mH f (d+1) 0 (ts.drop 1) with
    | none=>none
    | some (.err e)=>some (.err e)
    | some (.ok l bE)=>some (.ok (.call t.text l) bE)
  else if (hd ts).kind=9 then
   if r_ t.text=false then some (.err 10)
   else if (hd (ts.drop 1)).kind≠3 then some (.err 10)
   else some (vN t.text (hd (ts.drop 1)) (ts.drop 2))
  else if t.text=bT\/t.text=bF then some (.ok (.leaf (.Qq (decide (t.text=bT)))) ts)
  else some (vN [] t ts)
def mH:Nat->Nat->Nat->List Tk->Option (PR bi)
 | 0,_,_,_=>none
 | f+1,d,n,ts =>
  if n=20 then some (.err 2)
  else match fp f 1 d ts with
   | none=>none
   | some (.err e)=>some (.err e)
   | some (.ok a bE) =>
    if (hd bE).kind=6 then some (.ok (.cons a .nil) (bE.drop 1))
    else if (hd bE).kind≠7 then some (.err 10)
    else match mH f d (n+1) (bE.drop 1) with
     | none=>none
     | some (.err e)=>some (.err e)
     | some (.ok l j)=>some (.ok (.cons a l) j)
end
def Ex.bA:Ex->Nat
 | .leaf _=>8 | .un op _=>if op=13 then 6 else if op=14 then 7 else 8 | .bin op _ _=>fH op | .call _ _=>8
mutual
def Ex.ja:Ex->Nat
 | .leaf _=>0
 | .un op a=>(if a.bA<Ex.bA (.un op a) then a.ja+1 else a.ja)+(if op=13 then 1 else 0)
 | .bin op a b=>max (if a.bA<fH op then a.ja+1 else a.ja) (if b.bA<=fH op then b.ja+1 else b.ja)
 | .call _ l=>l.ja+1
def bi.ja:bi->Nat
 | .nil=>0
 | .cons a l=>max a.ja l.ja
end
def Lf.ok:Lf->Bool
 | .num r=>iZ r.neg r.num r.den&&!r.neg&&sP (aJ (wD r.neg r.num r.den))
 | .Of s=>jV s
 | .Qq _=>true
 | .Og n=>decide (1<=n)&&decide (n<=7)
 | .cell r=>o7 r
 | .vu a b=>o7 a&&o7 b&&decide (b.aU=[])&&decide ((fj (jY a b)).2=0)&&decide ((fj (jY a b)).1=jY a b)
mutual
def Ex.ok:Ex->Bool
 | .leaf l=>l.ok
 | .un op a=>a.ok&&(decide (op=13)||decide (op=14))
 | .bin op a b=>a.ok&&b.ok&&(decide (1<=op)&&decide (op<=12))
 | .call f l=>l.ok&&Kj f&&decide (l.len<=20)
def bi.ok:bi->Bool
 | .nil=>true
 | .cons a l=>a.ok&&l.ok
end
def Ex.right (e:Ex):Bool:=e.ok&&decide (e.sz<=300)&&decide (e.ja<=24)
def quo (s:List UInt8):List UInt8:=[34]++s.flatMap (fun c=>if c=34 then [34,34] else [c])++[34]
def Lf.sh:Lf->List UInt8
 | .num r=>(js r.neg r.num r.den).1
 | .Of s=>quo s
 | .Qq b=>if b=true then bT else bF
 | .Og n=>lP (n:Int)
 | .cell r=>An r
 | .vu a b=>An a++[58]++An b
def dG (s:List UInt8) (l n:Nat):List UInt8:=if l<n then [40]++s++[41] else s
mutual
def Ex.sh:Ex->List UInt8
 | .leaf l=>l.sh
 | .un op a=>if op=13 then [45]++dG a.sh a.bA 6 else dG a.sh a.bA (Ex.bA (.un op a))++As (op:Int)
 | .bin op a b=>dG a.sh a.bA (fH op)++As (op:Int)++dG b.sh b.bA (fH op+1)
 | .call f l=>f++[40]++l.sh++[41]
def bi.sh:bi->List UInt8
 | .nil=>[]
 | .cons a .nil=>a.sh
 | .cons a l=>a.sh++[44]++l.sh
end
theorem XE (d:Nat) (h:d<10):aR (UInt8.ofNat (48+d))=true:=by
 have e:(UInt8.ofNat (48+d)).toNat=48+d:=ofNat_toNat om
 unfold aR;rw[e];simp;omega
theorem XF:∀ k n,n<k->(eI n).all aR=true:=by
 intro k
 induction k with
 | zero=>intro n h;omega
 | succ k j =>
  intro n h
  by_cases g:n<10
  . rw[fQ g,List.all_cons,XE n g];rfl
  . rw[qh g,List.all_append,j (n / 10) om,List.all_cons,XE (n % 10) om];rfl
theorem CR (n:Nat):(eI n).all aR=true:=XF (n+1) n om
theorem QF:∀ k n,n<k->dX (eI n)=n:=by
 intro k
 induction k with
 | zero=>intro n h;omega
 | succ k j =>
  intro n h
  by_cases g:n<10
  . have e:(UInt8.ofNat (48+n)).toNat=48+n:=ofNat_toNat om
    rw[fQ g];simp only[dX,List.foldl_cons,List.foldl_nil,e];omega
  . have e:(UInt8.ofNat (48+n % 10)).toNat=48+n % 10:=ofNat_toNat om
    rw[qh g,J3,j (n / 10) om,e];omega
theorem Kv (n:Nat):dX (eI n)=n:=QF (n+1) n om
theorem QG:∀ (k:Nat) (s:List UInt8),dX (List.replicate k 48++s)=dX s:=by
 intro k
 induction k with
 | zero=>intro s;rfl
 | succ k j=>intro s;rw[List.replicate_succ,List.cons_append,J5,j];simp
theorem Ae1:∀ {l:List UInt8},l.all aR=true->∀ c ∈ l,(c != 46)=true:=by
 intro l h c hc
 have:=List.all_eq_true.1 h c hc
 unfold aR at this
 simp only[Bool.and_eq_true,decide_eq_true_eq] at this
 rw[bne_iff_ne]
 intro q
 subst q
 exact absurd this.1 dc
theorem Ae2 {a b:List UInt8} (h:a.all aR=true):gD 46 (a++[46]++b)=a/\iq 46 (a++[46]++b)=b/\(a++[46]++b).contains 46=true:=by
 have hn:=Ae1 h
 refine⟨?_,?_,sm⟩
 . unfold gD
   rw[List.append_assoc,List.takeWhile_append_of_pos hn];simp
 . unfold iq
   rw[List.append_assoc,List.dropWhile_append_of_pos hn];simp
theorem AcU {a:List UInt8} (h:a.all aR=true):gD 46 a=a/\iq 46 a=[]/\a.contains 46=false:=by
 have hc:a.contains 46=false:=by
  rw[List.contains_eq_any_beq,List.any_eq_false]
  intro c hc q
  have:=Ae1 h c hc
  rw[bne_iff_ne] at this
  exact this (by simpa using (beq_iff_eq.1 q).symm)
 exact⟨(vE hc).1,(vE hc).2,hc⟩
theorem Aan {D:Nat} (h:sP D=true):D ∣ 10 ^ mV D:=by
 have h2:=h
 unfold sP at h2
 have e:=of_decide_eq_true h2
 unfold mV
 rw[if_pos h,show (10:Nat)=2 * 5 by rfl,Nat.mul_pow]
 conv=>lhs;rw[<-e]
 exact Nat.mul_dvd_mul (Nat.pow_dvd_pow 2 (Nat.le_max_left _ _)) (Nat.pow_dvd_pow 5 (Nat.le_max_right _ _))
structure XG (T:List UInt8):Prop where
 ne:T≠[]
 form:(T.all aR=true)\/∃ a b,T=a++[46]++b/\a.all aR=true/\b.all aR=true/\a≠[]/\b≠[]
theorem XH {r:R3} (h:Lf.ok (.num r)=true):qv (js r.neg r.num r.den).1=(r,0)/\XG (js r.neg r.num r.den).1:=by
 obtain⟨neg,n,d⟩:=r
 unfold Lf.ok at h
 simp only[Bool.and_eq_true,Bool.not_eq_true'] at h
 obtain⟨⟨hr,hn⟩,he⟩:=h
 subst hn
 have hd:wD false n d=d:=by unfold wD;rw[if_pos hr]
 have hN:wN false n d=n:=by unfold wN;rw[if_pos hr]
 show qv (js false n d).1=(⟨false,n,d⟩,0)/\XG (js false n d).1
 rw[hd] at he
 unfold js
 rw[hd,hN,if_pos he]
 have o:=hr
 unfold iZ at o
 simp only[Bool.and_eq_true,decide_eq_true_eq] at o
 obtain⟨⟨⟨tn,td⟩,dn⟩,I⟩:=o
 have en:=vD tn
 have ed:=vD td
 have ln:=iG tn
 have ld:=iG td
 generalize hNN:aJ n=N at *
 generalize hDD:aJ d=D at *
 have hD0:D≠0:=fun q=>dn (by rw[<-ed,q,du])
 have dv:=Aan he
 generalize hk:mV D=k at *
 obtain⟨E,J⟩:=dv
 have R:0<E:=by
  have:0<10 ^ k:=Nat.pow_pos om
  rw[J] at this
  exact Nat.pos_of_mul_pos_left this
 have hM:N * 10 ^ k / D=N * E:=by
  rw[J,show N * (D * E)=N * E * D by rw[Nat.mul_comm D E,Nat.mul_assoc],Nat.mul_div_cancel _ om]
 rw[hM]
 have U:Nat.gcd N D=1:=by
  by_cases q:n=[]
  . rw[if_pos q] at I
    simp only[Bool.and_eq_true,decide_eq_true_eq] at I
    have:D=1:=by rw[<-hDD,I.2];exact G6
    rw[this];exact Nat.gcd_one_right N
  . rw[if_neg q] at I;exact of_decide_eq_true I
 have hgc:Nat.gcd (N * E) (10 ^ k)=E:=by rw[J,Nat.gcd_mul_right,U,Nat.one_mul]
 have mk:Cp false (N * E) false (10 ^ k)=(⟨false,n,d⟩,0):=by
  unfold Cp
  rw[if_neg (by have:0<10 ^ k:=Nat.pow_pos om;omega),hgc,Nat.mul_div_cancel _ R,J,Nat.mul_div_cancel _ R,en,ed,if_neg om]
  simp
 have hNl:N<256 ^ 32:=gV (by rw[en];exact ln)
 have hkl:k<256:=by rw[<-hk];exact yH om (by rw[ed];exact ld)
 have T_:(eI (N * E)).length<=78+k:=by
  refine Nat.le_trans (Nx (77+k) _ ?_) om
  have h1:E<=10 ^ k:=by rw[J];exact Nat.le_mul_of_pos_left _ om
  have h2:N * E<=N * 10 ^ k:=Nat.mul_le_mul_left _ h1
  have h3:N * 10 ^ k<10 ^ 78 * 10 ^ k:=Nat.mul_lt_mul_of_pos_right (Nat.lt_of_lt_of_le hNl dc) (Nat.pow_pos om)
  rw[show 77+k+1=78+k by omega,Nat.pow_add]
  omega
 unfold DJ
 have hs:=CR (N * E)
 have hsn:=Lk (N * E)
 have hv:=Kv (N * E)
 generalize eI (N * E)=s at *
 by_cases k0:k=0
 . subst k0
   simp only[if_true]
   obtain⟨c1,c2,c3⟩:=AcU hs
   refine⟨?_,hsn,.inl hs⟩
   unfold qv
   rw[c1,c2,c3]
   have p:tJ s=true:=by unfold tJ;rw[hs];simp[hsn]
   rw[if_neg (by rw[p];simp),if_neg om,List.append_nil,hv]
   exact mk
 . simp only[if_neg k0]
   have ht:(List.replicate (k+1-s.length) 48++s).all aR=true:=by
    rw[List.all_append,hs,Bool.and_true]
    rw[List.all_eq_true]
    intro c hc
    rw[(List.mem_replicate.1 hc).2];rfl
   have htv:=QG (k+1-s.length) s
   have Zg:(List.replicate (k+1-s.length) 48++s).length=max s.length (k+1):=by
    rw[List.length_append,List.length_replicate];omega
   generalize List.replicate (k+1-s.length) 48++s=t at *
   have ha:(t.take (t.length-k)).all aR=true:=List.all_eq_true.2 fun c hc=>List.all_eq_true.1 ht c (List.mem_of_mem_take hc)
   have hb:(t.drop (t.length-k)).all aR=true:=List.all_eq_true.2 fun c hc=>List.all_eq_true.1 ht c (List.mem_of_mem_drop hc)
   have C:(t.take (t.length-k)).length=t.length-k:=by rw[List.length_take];omega
   have j:(t.drop (t.length-k)).length=k:=by rw[List.length_drop];omega
   have hab:t.take (t.length-k)++t.drop (t.length-k)=t:=List.take_append_drop _ _
   generalize t.take (t.length-k)=a at *
   generalize t.drop (t.length-k)=b at *
   have han:a≠[]:=fun q=>by rw[q] at C;simp at C;omega
   have hbn:b≠[]:=fun q=>by rw[q] at j;simp at j;omega
   obtain⟨c1,c2,c3⟩:=Ae2 (b:=b) ha
   refine⟨?_,sm,.inr ⟨a,b,rfl,ha,hb,han,hbn⟩⟩
   unfold qv
   rw[c1,c2,c3]
   have p:tJ a=true:=by unfold tJ;rw[ha];simp[han]
   have hd2:tJ b=true:=by unfold tJ;rw[hb];simp[hbn]
   rw[if_neg (by rw[p,hd2];simp),if_neg (by rw[List.length_append,List.length_append,C,j];show ¬ 400<_+1+_;omega),hab,htv,hv,j]
   exact mk
end Go.Proofs.YtikojelnedfmpaaGreatDoor
