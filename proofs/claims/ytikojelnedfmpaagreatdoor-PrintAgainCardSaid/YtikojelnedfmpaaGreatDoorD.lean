/- PrintAgain: of any text that is read as a formula, the text that is told of it is read as the same formula and told as it was. No conditions of its own. -/
import Derived.Orders
import Derived.Test.YtikojelnedfmpaaGreatDoorC
set_option linter.unusedSimpArgs false
set_option linter.unusedVariables false
namespace Go.X
open Go
variable {P:Program} {E:Env}
theorem Rh {t:Nat} (l:List Operand) (h:Operand.tmp t ∈ l):t ∈ Yq l:=by
 induction l with
 | nil=>cases h
 | cons x l j =>
  cases h with
  | head=>exact .head _
  | tail _ hm =>
   have:=j hm
   cases x with
   | tmp u=>exact .tail _ this
   | _=>exact this
theorem vY {d:Nat} {o:Option Nat} {l:List Nat}:d ∈ AaF o l<->o=some d\/d ∈ l:=by
 cases o with
 | none=>simp[AaF]
 | some e =>
  show d ∈ e :: l<->_
  simp only[List.mem_cons,Option.some.injEq]
  constructor
  . rintro (h | h);exact .inl h.symm;exact .inr h
  . rintro (h | h);exact .inl h.symm;exact .inr h
structure vZ (P:Program) (E:Env) (ops:Array Oper) (ps:List Nat) (al:List (Nat × Nat)) (T:Tr) (N:Nat) (base:Nat):Prop where
 facts:KO E ops ps
 laid:Laid base (T.Gt 0).next ops.size al
 sz:Sz (T.Bt 0) N
 step:∀ (k:Nat) (o:Oper),ops[k]?=some o->∃ p,ps[k]?=some p/\YM P E ops al T k o ∧
  (T.wanted ops k o true->oE E o.op≠2->∀ (j:Nat) (oj:Oper),j<k->ops[j]?=some oj->T.wanted ops j oj true->oE E oj.op=2->bit p j=false->Av E al k o (T.Bt k) (T.Gt j)=some (T.val k)) ∧
  (T.wanted ops k o true->oE E o.op=2->∀ (j:Nat) (oj:Oper),j<k->ops[j]?=some oj->T.wanted ops j oj true->oE E oj.op≠2->bit p j=false->Av E al j oj (T.Bt j) (T.Gt (k+1))=some (T.val j))
def WH (E:Env) (ops:Array Oper) (T:Tr) (k:Nat):Prop:=∃ o,ops[k]?=some o/\T.wanted ops k o true/\oE E o.op=2
section sched
variable {ops:Array Oper} {ps:List Nat} {al:List (Nat × Nat)} {T:Tr} {N base:Nat} (S:vZ P E ops ps al T N base)
include S
theorem vZ.szB:∀ k,k<=ops.size->Sz (T.Bt k) N:=by
 intro k
 induction k with
 | zero=>intro _;exact S.sz
 | succ k j =>
  intro hk
  obtain⟨p,_,⟨hb,_⟩,_⟩:=S.step k ops[k] (Array.getElem?_eq_getElem hk)
  rw[hb]
  have:=j om
  cases ops[k].dst with
  | none=>exact this
  | some d=>exact this.set d _
theorem vZ.En {x:Nat}:∀ y,x<=y->y<=ops.size->(∀ j,x<=j->j<y->¬ WH E ops T j)->T.Gt y=T.Gt x:=by
 intro y
 induction y with
 | zero=>intro h _ _;have:x=0:=om
         rw[this]
 | succ y I =>
  intro hx J hn
  by_cases e:x=y+1
  . rw[e]
  . rw[<-I om om (fun j o h2=>hn j o om)]
    have C:=Array.getElem?_eq_getElem (xs:=ops) (i:=y) J
    obtain⟨p,_,⟨_,g,hw,h0,o⟩,_⟩:=S.step y _ C
    cases g with
    | false=>exact (h0 rfl).2
    | true =>
     by_cases hc:oE E ops[y].op=2
     . exact absurd ⟨_,C,hw,hc⟩ (hn y om om)
     . exact (o rfl hc).2
theorem vZ.Ri {t x:Nat}:∀ y,x<=y->y<=ops.size->(∀ j o,x<=j->j<y->ops[j]?=some o->o.dst≠some t)->(T.Bt y).get t=(T.Bt x).get t:=by
 intro y
 induction y with
 | zero=>intro h _ _;have:x=0:=om
         rw[this]
 | succ y I =>
  intro hx J hn
  by_cases e:x=y+1
  . rw[e]
  . rw[<-I om om (fun j o R h2=>hn j o R om)]
    have C:=Array.getElem?_eq_getElem (xs:=ops) (i:=y) J
    obtain⟨p,_,⟨hb,_⟩,_⟩:=S.step y _ C
    rw[hb]
    have im:=hn y _ om om C
    cases hd:ops[y].dst with
    | none=>rfl
    | some d =>
     show ((T.Bt y).set d _).get t=_
     rw[(S.szB y om).su,if_neg (fun q=>im (by rw[hd,q.1]))]
theorem vZ.Fg {qQ:Nat->Prop} (U:∀ (i:Nat) (o:Oper),qQ i->ops[i]?=some o->∀ e ∈ o.after.toList,Region.binds .any e=true->qQ e.on) :
 ∀ (i:Nat) (o:Oper) (p:Nat),ops[i]?=some o->ps[i]?=some p->(∀ e ∈ o.after.toList,Region.binds .any e=true->qQ e.on)->∀ j,bit p j=true->qQ j:=by
 intro i
 induction i using Nat.strongRecOn with
 | _ i ih =>
  intro o p R hp he j hj
  obtain⟨e,C,hb,q⟩:=S.facts.bits i o p R hp j hj
  have I:=he e C hb
  rcases q with q | ⟨q,hq,hbq⟩
  . rw[<-q];exact I
  . have oz:=S.facts.AfC i o R e C hb
    have hi:i<ops.size:=by
     rcases Nat.lt_or_ge i ops.size with g | g
     . exact g
     . rw[Array.getElem?_eq_none g] at R;cases R
    have J:=Array.getElem?_eq_getElem (xs:=ops) (i:=e.on) om
    exact ih e.on oz _ q J hq (U e.on _ I J) j hbq
end sched
def ID (ops:Array Oper) (qQ:Nat->Prop):Prop:=∀ (i:Nat) (o:Oper),qQ i->ops[i]?=some o->∀ e ∈ o.after.toList,Region.binds .any e=true->qQ e.on
structure AaT (E:Env) (ops:Array Oper) (T:Tr) (ρ:bS) (k:Nat) (qQ:Nat->Prop) (a:Act):Prop where
 tmps:∀ t:Nat,∃ j,j<=ops.size/\aK ρ ((T.Bt j).get t) (a.tmps.getD t undef)/\(∀ (i:Nat) (o:Oper),ops[i]?=some o->o.dst=some t->qQ i->i<j)/\(∀ (i:Nat) (o:Oper),ops[i]?=some o->o.dst=some t->¬ qQ i->j<=i)
 behind:∀ j,WH E ops T j->qQ j->j<k
 ahead:∀ j,WH E ops T j->¬ qQ j->k<=j
structure Inv (E:Env) (ops:Array Oper) (al:List (Nat × Nat)) (mem:Tr->Prop) (N:Nat) (Dp:bS) (h0:H) (W0:World) (D:List Deferred) (qQ:Nat->Prop) (a:Act) (w:World):Prop where
 closed:ID ops qQ
 KP:a.tmps.size=N
 rest:∃ (ρ:bS) (k:Nat) (T0:Tr),mem T0/\k<=ops.size/\aX ρ (T0.Gt k) w/\Ext Dp h0 W0 ρ (T0.Gt k) w/\(T0.Gt 0).next<=(T0.Gt k).next/\(∀ i b:Nat,h_ i al=some b->¬ qQ i->ρ b=none)/\∀ T,mem T->dg 0 k T0 T->AaT E ops T ρ k qQ a
 defers:a.defers=D
section
variable {ops:Array Oper} {ps:List Nat} {al:List (Nat × Nat)} {T:Tr} {N base:Nat} (S:vZ P E ops ps al T N base)
variable {Dp:bS} {h0:H} {W0:World} {D:List Deferred} {qQ:Nat->Prop} {a:Act} {w:World}
include S
theorem vZ.has {i:Nat} {o:Oper} (j:ops[i]?=some o):i<ops.size:=by
 have _:=S.sz
 rcases Nat.lt_or_ge i ops.size with g | g
 . exact g
 . rw[Array.getElem?_eq_none g] at j;cases j
theorem vZ.reads (I:ID ops qQ) {ρ:bS} (ht:∀ t:Nat,∃ j,j<=ops.size/\aK ρ ((T.Bt j).get t) (a.tmps.getD t undef)/\(∀ (i:Nat) (o:Oper),ops[i]?=some o->o.dst=some t->qQ i->i<j)/\(∀ (i:Nat) (o:Oper),ops[i]?=some o->o.dst=some t->¬ qQ i->j<=i))
 {i:Nat} {o:Oper} {p:Nat} (ho:ops[i]?=some o) (hp:ps[i]?=some p) (hi:¬ qQ i) (he:∀ e ∈ o.after.toList,Region.binds .any e=true->qQ e.on) :
 ∀ t ∈ iA ops.toList o,aK ρ ((T.Bt i).get t) (a.tmps.getD t undef):=by
 intro t J
 obtain⟨j,hj,hv,h1,h2⟩:=ht t
 have U:=S.Fg I i o p ho hp he
 have oz:=S.has ho
 have e:(T.Bt i).get t=(T.Bt j).get t:=by
  rcases Nat.le_total i j with q | q
  . refine (S.Ri j q hj ?_).symm
    intro x R hx1 Sf C hd
    have hl:qQ x:=Classical.byContradiction fun n=>by have:=h2 x R C hd n;omega
    have hxi:x≠i:=fun q=>hi (q ▸ hl)
    obtain⟨px,hpx,_⟩:=S.step x R C
    have hb:=S.facts.IC x i R o px C ho om hpx (.inr (.inl ⟨t,hd,J⟩))
    exact hi (S.Fg I x R px C hpx (I x R hl C) i hb)
  . refine S.Ri i q om ?_
    intro x R hx1 Sf C hd
    have hl:¬ qQ x:=fun n=>by have:=h1 x R C hd n;omega
    have hb:=S.facts.IC i x o R p ho C Sf hp (.inl ⟨t,hd,J⟩)
    exact hl (U x hb)
 rw[e];exact hv
theorem vZ.AbJ (I:ID ops qQ) {k:Nat} (hk:k<=ops.size) (k1:∀ j,WH E ops T j->qQ j->j<k) (k2:∀ j,WH E ops T j->¬ qQ j->k<=j)
 {i:Nat} {o:Oper} {p:Nat} (ho:ops[i]?=some o) (hp:ps[i]?=some p) (hi:¬ qQ i) (he:∀ e ∈ o.after.toList,Region.binds .any e=true->qQ e.on) (hw:T.wanted ops i o true) :
 (oE E o.op=2->T.Gt i=T.Gt k/\k<=i)/\(oE E o.op≠2->Av E al i o (T.Bt i) (T.Gt k)=some (T.val i)):=by
 have AaU:=S.Fg I i o p ho hp he
 have oz:=S.has ho
 constructor
 . intro hc
   have hki:=k2 i ⟨o,ho,hw,hc⟩ hi
   refine⟨S.En i hki om ?_,hki⟩
   rintro j h1 h2 ⟨oj,C,R,J⟩
   have hb:=S.facts.IC i j o oj p ho C h2 hp (.inr (.inr ⟨J,hc⟩))
   have:=k1 j ⟨oj,C,R,J⟩ (AaU j hb)
   omega
 . intro hc
   obtain⟨p',hp',⟨_,g,hg,_,h1⟩,hx1,Sf⟩:=S.step i o ho
   rw[hp] at hp';cases hp'
   have hgt:g=true:=by
    have q1:cr ops (T.Bt i) o=some g:=hg
    have q2:cr ops (T.Bt i) o=some true:=hw
    rw[q1] at q2;cases q2;rfl
   obtain⟨YN,_⟩:=h1 hgt hc
   by_cases hex:∃ j,k<=j/\j<i/\WH E ops T j
   . -- DB first SX one ahead Uo is not behind us
     have:∃ j,(k<=j/\j<i/\WH E ops T j)/\∀ m,m<j->¬ (k<=m/\m<i/\WH E ops T m):=by
      obtain⟨j,hj⟩:=hex
      induction j using Nat.strongRecOn with
      | _ j ih =>
       by_cases q:∃ m,m<j/\(k<=m/\m<i/\WH E ops T m)
       . obtain⟨m,hm,hmm⟩:=q;exact ih m hm hmm
       . exact⟨j,hj,fun m hm hmm=>q ⟨m,hm,hmm⟩⟩
     obtain⟨j,⟨j1,j2,oj,C,R,J⟩,Aho⟩:=this
     have hnl:¬ qQ j:=fun hl=>by have:=k1 j ⟨oj,C,R,J⟩ hl;omega
     have hb:bit p j=false:=by
      cases q:bit p j with
      | false=>rfl
      | true=>exact absurd (AaU j q) hnl
     have Zr:=S.En j j1 om fun m m1 U hm=>Aho m U ⟨m1,om,hm⟩
     rw[<-Zr]
     exact hx1 hw hc j oj j2 C R J hb
   . by_cases AfD:∃ j,i<=j/\j<k/\WH E ops T j
     . have:∃ j,(i<=j/\j<k/\WH E ops T j)/\∀ m,j<m->m<k->¬ WH E ops T m:=by
        have gen:∀ d j,k-j=d->(i<=j/\j<k/\WH E ops T j)->∃ j,(i<=j/\j<k/\WH E ops T j)/\∀ m,j<m->m<k->¬ WH E ops T m:=by
         intro d
         induction d using Nat.strongRecOn with
         | _ d ih =>
          intro j hd hj
          by_cases q:∃ m,j<m/\m<k/\WH E ops T m
          . obtain⟨m,m1,U,m3⟩:=q
            exact ih (k-m) om m rfl ⟨om,U,m3⟩
          . exact⟨j,hj,fun m m1 U m3=>q ⟨m,m1,U,m3⟩⟩
        obtain⟨j,hj⟩:=AfD
        exact gen _ j rfl hj
       obtain⟨j,⟨j1,j2,oj,C,R,J⟩,Ahp⟩:=this
       have hl:qQ j:=Classical.byContradiction fun n=>by have:=k2 j ⟨oj,C,R,J⟩ n;omega
       have hji:j≠i:=fun q=>hi (q ▸ hl)
       obtain⟨pj,hpj,_,_,Ahq⟩:=S.step j oj C
       have hb:bit pj i=false:=by
        cases q:bit pj i with
        | false=>rfl
        | true=>exact absurd (S.Fg I j oj pj C hpj (I j oj hl C) i q) hi
       have Zr:=S.En (x:=j+1) k om hk fun m m1 U hm=>Ahp m om U hm
       rw[Zr]
       exact Ahq R J i o om ho hw hc hb
     . rcases Nat.le_total i k with q | q
       . rw[S.En k q hk fun m m1 U hm=>AfD ⟨m,m1,U,hm⟩];exact YN
       . rw[<-S.En i q om fun m m1 U hm=>hex ⟨m,m1,U,hm⟩];exact YN
omit S in
theorem AaV {ρ:bS} {b:B} {a:Act} {N t:Nat} (hb:Sz b N) (j:a.tmps.size=N) {v V:Value} (hv:aK ρ v V):aK ρ ((nr b (some t) v).get t) ((a.put (some t) V).tmps.getD t undef):=by
 show aK ρ ((b.set t v).get t) ((a.tmps.setIfInBounds t V).getD t undef)
 rw[hb.su]
 by_cases q:t<N
 . rw[if_pos ⟨rfl,q⟩]
   have:(a.tmps.setIfInBounds t V).getD t undef=V:=by simp[j,q]
   rw[this];exact hv
 . rw[if_neg (fun h=>q h.2),hb.Td t om]
   have:(a.tmps.setIfInBounds t V).getD t undef=undef:=by simp[j,q]
   rw[this];exact aK.undef ρ
theorem vZ.after (I:ID ops qQ) (tH:a.tmps.size=N) {ρ bY:bS} {k k':Nat} (hti:AaT E ops T ρ k qQ a)
 (hle:ρ.le bY) {i:Nat} {o:Oper} {p:Nat} (ho:ops[i]?=some o) (hp:ps[i]?=some p) (hi:¬ qQ i) (he:∀ e ∈ o.after.toList,Region.binds .any e=true->qQ e.on) {V:Value} (hv:aK bY (T.val i) V)
 (h1:∀ j,WH E ops T j->(qQ j\/j=i)->j<k') (h2:∀ j,WH E ops T j->¬ (qQ j\/j=i)->k'<=j):AaT E ops T bY k' (fun x=>qQ x\/x=i) (a.put o.dst V):=by
 have AaU:=S.Fg I i o p ho hp he
 have oz:=S.has ho
 obtain⟨p',hp',⟨hb,_⟩,_⟩:=S.step i o ho
 refine⟨?_,h1,h2⟩
 . intro t
   by_cases hd:o.dst=some t
   . refine⟨i+1,om,?_,?_,?_⟩
     . rw[hb,hd];exact AaV (S.szB i om) tH hv
     . intro x R C J hx
       rcases hx with hx | hx
       . refine Classical.byContradiction fun n=>?_
         have hxi:x≠i:=fun q=>hi (q ▸ hx)
         obtain⟨px,hpx,_⟩:=S.step x R C
         have U:=S.facts.IC x i R o px C ho om hpx (.inl ⟨t,hd,by unfold iA;rw[vY];exact .inl J⟩)
         exact hi (S.Fg I x R px C hpx (I x R hx C) i U)
       . omega
     . intro x R C J hx
       refine Classical.byContradiction fun n=>?_
       have hxi:x≠i:=fun q=>hx (.inr q)
       have U:=S.facts.IC i x o R p ho C om hp (.inl ⟨t,J,by unfold iA;rw[vY];exact .inl hd⟩)
       exact hx (.inl (AaU x U))
   . obtain⟨j,hj,hjv,h1,h2⟩:=hti.tmps t
     refine⟨j,hj,?_,?_,?_⟩
     . have:(a.put o.dst V).tmps.getD t undef=a.tmps.getD t undef:=by
        cases hq:o.dst with
        | none=>rfl
        | some d =>
         have im:d≠t:=fun q=>hd (by rw[hq,q])
         show (a.tmps.setIfInBounds d V).getD t undef=_
         simp[Array.getElem?_setIfInBounds_ne im]
       rw[this];exact hjv.mono hle
     . intro x R C J hx
       rcases hx with hx | hx
       . exact h1 x R C J hx
       . subst hx;rw[ho] at C;cases C;exact absurd J hd
     . intro x R C J hx
       exact h2 x R C J fun q=>hx (.inl q)
theorem vZ.still {ρ:bS} {k:Nat} (o:AaT E ops T ρ k qQ a) {i:Nat} (hn:¬ WH E ops T i):(∀ j,WH E ops T j->(qQ j\/j=i)->j<k)/\∀ j,WH E ops T j->¬ (qQ j\/j=i)->k<=j:=by
 have _:=S.sz
 refine⟨?_,fun j p n=>o.ahead j p fun r=>n (.inl r)⟩
 intro j p hl
 rcases hl with hl | hl
 . exact o.behind j p hl
 . exact absurd (hl ▸ p) hn
omit S in
theorem aX.real {ρ:bS} {h:H} {W W':World} (I:aX ρ h W) {b:Nat} {x:IP} {C:Array Value} (hx:h.get b=some (.row x)) (hr:ρ b=none) (hW:W'.heap=W.heap.push (.cells C x.elem (0,0))) (R:x.osz=0) (hC:bc ρ x.cs C.toList) :
 aX (ρ.add b ⟨W.heap.size,0,x.cs.length,0,C.size⟩) h W'/\∀ (Dp:bS) (h0:H) (W0:World),h0.next<=b->Ext Dp h0 W0 ρ h W->W'.os=W.os->W'.tape=W.tape->W'.output=W.output->Ext Dp h0 W0 (ρ.add b ⟨W.heap.size,0,x.cs.length,0,C.size⟩) h W':=by
 have hle:=ρ.xC b ⟨W.heap.size,0,x.cs.length,0,C.size⟩ hr
 have hold:∀ k,k<W.heap.size->W'.heap[k]?=W.heap[k]?:=fun k hk=>by rw[hW,Array.getElem?_push,if_neg om]
 have hs:W'.heap.size=W.heap.size+1:=by rw[hW];simp
 have im:∀ c,c≠b->(ρ.add b ⟨W.heap.size,0,x.cs.length,0,C.size⟩) c=ρ c:=fun c q=>if_neg q
 obtain⟨hc1,hc2⟩:=zD hC
 refine⟨⟨?_,?_,?_,I.fresh⟩,?_⟩
 . intro c y r J o
   by_cases q:c=b
   . subst q
     rw[hx] at J;cases J
     rw[bS.add_same] at o;cases o
     refine⟨C,(0,0),by rw[hW];simp,rfl,rfl,⟨R.symm,fun _=>rfl⟩,sp hc1,?_,⟨fun _ j _ _ q=>absurd q.2 (Nat.not_lt_zero _),fun _ _=>Nat.zero_le _⟩⟩
     intro i v e
     obtain⟨V,hV,hv⟩:=hc2 i v e
     exact⟨V,sp hV,hv.mono hle⟩
   . rw[im c q] at o
     exact (I.obj c y r J o).mono hle (hold _ (I.we _ _ o).2)
 . intro c c' y y' r r' J BA o p U PK
   by_cases q:c=b
   . subst q
     rw[bS.add_same] at o;cases o
     rw[im c' (fun q=>U q.symm)] at p
     have:=(I.we _ _ p).2
     show W.heap.size≠r'.dH
     omega
   . rw[im c q] at o
     by_cases q':c'=b
     . subst q'
       rw[bS.add_same] at p;cases p
       have:=(I.we _ _ o).2
       show r.dH≠W.heap.size
       omega
     . rw[im c' q'] at p
       exact I.inj c c' y y' r r' J BA o p U PK
 . intro c r e
   by_cases q:c=b
   . subst q
     rw[bS.add_same] at e;cases e
     refine⟨?_,by rw[hs];exact Nat.lt_succ_self _⟩
     refine Classical.byContradiction fun n=>?_
     have:=I.fresh c om
     rw[hx] at this;cases this
   . rw[im c q] at e
     have:=I.we c r e
     rw[hs];omega
 . intro Dp h0 W0 hb X J o e3
   refine⟨bS.le_trans X.le hle,by have:=X.size;omega,J.trans X.os,o.trans X.tape,e3.trans X.output,?_,?_,X.next,?_⟩
   . intro B hB hn
     rw[hold B (by have:=X.size;omega)]
     exact X.kept B hB hn
   . intro c y r k1 k2 k3 k4
     by_cases q:c=b
     . subst q
       rw[bS.add_same] at k3;cases k3
       have:=X.size
       have k4':W.heap.size<W0.heap.size:=k4
       omega
     . rw[im c q] at k3;exact X.own c y r k1 k2 k3 k4
   . intro c hc
     rw[im c om];exact X.cK c hc
end
theorem Pj {ρ bY:bS} {h:H} {W W':World} (j:aX ρ h W) (h2:aX bY h W') (o:Ext ρ h W bY h W'):bY=ρ:=by
 funext b
 rcases Nat.lt_or_ge b h.next with g | g
 . exact o.cK b g
 . have p:ρ b=none:=by
    cases q:ρ b with
    | none=>rfl
    | some r=>have:=(j.we b r q).1;omega
   have C:bY b=none:=by
    cases q:bY b with
    | none=>rfl
    | some r=>have:=(h2.we b r q).1;omega
   rw[p,C]
theorem dg.refl (i k:Nat) (T:Tr):dg i k T T:=⟨fun _ _ _=>⟨rfl,rfl⟩,fun _ _ _=>rfl⟩
theorem dg.trans {i k:Nat} {T T' o:Tr} (x:dg i k T T') (y:dg i k T' o):dg i k T o :=
 ⟨fun j a b=>⟨(y.1 j a b).1.trans (x.1 j a b).1,(y.1 j a b).2.trans (x.1 j a b).2⟩,fun j a b=>(y.2 j a b).trans (x.2 j a b)⟩
theorem dg.le {i k k':Nat} {T T':Tr} (x:dg i k T T') (h:k'<=k):dg i k' T T' :=
 ⟨fun j a b=>x.1 j a (Nat.le_trans b h),fun j a b=>x.2 j a (Nat.lt_of_lt_of_le b h)⟩
structure Fam (P:Program) (E:Env) (ops:Array Oper) (ps:List Nat) (al:List (Nat × Nat)) (mem:Tr->Prop) (N base:Nat):Prop where
 sched:∀ T,mem T->vZ P E ops ps al T N base
 SX:∀ T,mem T->∀ k o,ops[k]?=some o->T.wanted ops k o true->oE E o.op=2->zJ P o (T.Bt k) (T.Gt k) fun v h'=>∃ T',mem T'/\dg 0 k T T'/\T'.val k=v/\T'.Gt (k+1)=h'
section
variable {ops:Array Oper} {ps:List Nat} {al:List (Nat × Nat)} {mem:Tr->Prop} {N base:Nat} (F:Fam P E ops ps al mem N base)
variable {Dp:bS} {h0:H} {W0:World} {D:List Deferred} {qQ:Nat->Prop} {a:Act} {w:World}
include F
theorem Fam.one (hE:bj P E) (AhJ:h0.next<=base) (I:Inv E ops al mem N Dp h0 W0 D qQ a w) {i:Nat} {o:Oper} (ho:ops[i]?=some o) (hi:¬ qQ i) (he:∀ e ∈ o.after.toList,Region.binds .any e=true->qQ e.on)
 {rr:Option Nat} {Q:Exit->Act->World->Prop} {K:Act->World->Prop} (hK:∀ a' w',Inv E ops al mem N Dp h0 W0 D (fun x=>qQ x\/x=i) a' w'->K a' w'):wpOpIn (FW rr) 0 P ops Q i K a w:=by
 obtain⟨ρ,k,T0,R,hk,hH,hX,PW,AbK,J⟩:=I.rest
 have S:=F.sched T0 R
 obtain⟨p,hp,⟨hb,g,hg,hg0,hg1⟩,_⟩:=S.step i o ho
 have ht0:=J T0 R (dg.refl _ _ _)
 have hrd:∀ T,mem T->dg 0 k T0 T->∀ t ∈ iA ops.toList o,aK ρ ((T.Bt i).get t) (a.tmps.getD t undef):=fun T hm ha=>(F.sched T hm).reads I.closed (J T hm ha).tmps ho hp hi he
 have YO:∀ T,mem T->dg 0 k T0 T->∀ g',cr ops (T.Bt i) o=some g'->Region.wanted o (yielded ops a.tmps)=g':=fun T hm ha g' Zr =>
  MK (ρ:=ρ) (t:=T.Bt i) (a:=a) ops o (fun d hd=>hrd T hm ha d (by unfold iA;rw[vY,vY];exact .inr (.inl hd))) Zr
 have YP:=YO T0 R (dg.refl _ _ _) g hg
 have hgT:∀ T,mem T->dg 0 k T0 T->cr ops (T.Bt i) o=some g:=by
  intro T hm ha
  obtain⟨_,_,⟨_,g',Zr,_,_⟩,_⟩:=(F.sched T hm).step i o ho
  have:=YO T hm ha g' Zr
  rw[YP] at this;rw[this];exact Zr
 have AfE:∀ T,mem T->dg 0 k T0 T->∀ x ∈ o.op.operands.toList,aK ρ (ev (T.Bt i) x) (a.eval x):=by
  intro T hm ha x hx
  cases x with
  | tmp t=>exact hrd T hm ha t (by unfold iA;rw[vY,vY];exact .inr (.inr (Rh _ hx)))
  | const v=>exact Ia v ρ
  | global q=>exact .Aj _
  | func f=>exact .func _ _ _ _ _ _ (.func f) .nil .nil
 have AaW:∀ i' b:Nat,h_ i' al=some b->¬ (qQ i'\/i'=i)->ρ b=none:=fun i' b q n=>AbK i' b q fun r=>n (.inl r)
 have AfF:ID ops (fun x=>qQ x\/x=i):=by
  intro x ox hx hox e hem hbd
  rcases hx with hx | hx
  . exact .inl (I.closed x ox hx hox e hem hbd)
  . subst hx;rw[ho] at hox;cases hox;exact .inl (he e hem hbd)
 have tH:∀ V,(a.put o.dst V).tmps.size=N:=by
  intro V
  cases o.dst with
  | none=>exact I.KP
  | some d=>show (a.tmps.setIfInBounds d V).size=N;simp[I.KP]
 have AfG:∀ V,(a.put o.dst V).defers=D:=by
  intro V
  cases o.dst with
  | none=>exact I.defers
  | some d=>exact I.defers
 have hnT:∀ T,mem T->dg 0 k T0 T->(g=false\/oE E o.op≠2)->¬ WH E ops T i:=by
  rintro T hm ha hq ⟨o',ho',hw',Un⟩
  rw[ho] at ho';cases ho'
  rcases hq with hq | hq
  . have q1:=hgT T hm ha
    have q2:cr ops (T.Bt i) o=some true:=hw'
    rw[q1,hq] at q2;cases q2
  . exact hq Un
 -- behind one Uo is not SX
 have SY:(g=false\/oE E o.op≠2)->∀ (bY:bS) (V:Value) (w':World),ρ.le bY->aX bY (T0.Gt k) w'->Ext Dp h0 W0 bY (T0.Gt k) w'->(∀ i' b:Nat,h_ i' al=some b->¬ (qQ i'\/i'=i)->bY b=none)->(∀ T,mem T->dg 0 k T0 T->aK bY (T.val i) V)->K (a.put o.dst V) w':=by
  intro hq bY V w' hle q1 q2 q3 q4
  refine hK _ _ ⟨AfF,tH V,⟨bY,k,T0,R,hk,q1,q2,PW,q3,fun T hm ha=>?_⟩,AfG V⟩
  obtain⟨s1,s2⟩:=(F.sched T hm).still (J T hm ha) (hnT T hm ha hq)
  exact (F.sched T hm).after I.closed I.KP (J T hm ha) hle ho hp hi he (q4 T hm ha) s1 s2
 unfold Go.wpOpIn
 simp only[ho]
 cases g with
 | false =>
  rw[YP]
  simp only[Bool.false_eq_true,if_false]
  refine⟨fun _ _=>trivial,SY (.inl rfl) ρ undef w ρ.le_refl hH hX AaW fun T hm ha=>?_⟩
  obtain⟨_,_,⟨_,g',Zr,Ahr,_⟩,_⟩:=(F.sched T hm).step i o ho
  have q1:=hgT T hm ha
  have q2:cr ops (T.Bt i) o=some g':=Zr
  rw[q1] at q2;cases q2
  rw[(Ahr rfl).1];exact aK.undef ρ
 | true =>
  rw[YP]
  simp only[if_true]
  obtain⟨hf1,_⟩:=S.AbJ I.closed hk ht0.behind ht0.ahead ho hp hi he hg
  have AfH:∀ (i' b:Nat),h_ i' al=some b->b<(T0.Gt k).next:=fun i' b q=>by
   have:=(S.laid.range i' b q).2.1;omega
  by_cases hc:oE E o.op=2
  . obtain⟨hG,hki⟩:=hf1 hc
    have hv:=F.SX T0 R i o ho hg hc
    rw[hG] at hv
    refine hv.2 rr ρ a w K Q (AfE T0 R (dg.refl _ _ _)) hH ?_
    rintro v h' bY V w' ⟨T',hm',VG,hv',hG'⟩ q1 q2 q3
    have ha0:dg 0 k T0 T':=VG.le hki
    refine hK _ _ ⟨AfF,tH V,⟨bY,i+1,T',hm',S.has ho,by rw[hG'];exact q2,by rw[hG'];exact hX.trans q3,?_,?_,?_⟩,AfG V⟩
    . rw[hG',(VG.1 0 nlr (Nat.zero_le _)).2]
      have:=q3.next;omega
    . intro i' b q n
      rw[q3.cK b (AfH i' b q)]
      exact AaW i' b q n
    . intro T hm ha
      have haT:dg 0 k T0 T:=ha0.trans (ha.le om)
      have ST:=F.sched T hm
      refine ST.after I.closed I.KP (J T hm haT) q3.le ho hp hi he (by rw[ha.2 i (Nat.zero_le _) (Nat.lt_succ_self _),hv'];exact q1) ?_ ?_
      . intro j hj hl
        rcases hl with hl | hl
        . refine Classical.byContradiction fun n=>?_
          obtain⟨oj,hoj,hwj,hcj⟩:=hj
          have hji:j≠i:=fun q=>hi (q ▸ hl)
          obtain⟨pj,hpj,_⟩:=ST.step j oj hoj
          have qS:=ST.facts.IC j i oj o pj hoj ho om hpj (.inr (.inr ⟨hc,hcj⟩))
          exact hi (ST.Fg I.closed j oj pj hoj hpj (I.closed j oj hl hoj) i qS)
        . omega
      . intro j hj hl
        refine Classical.byContradiction fun n=>?_
        have hji:j≠i:=fun q=>hl (.inr q)
        obtain⟨oj,hoj,hwj,hcj⟩:=hj
        have qS:=ST.facts.IC i j o oj p ho hoj om hp (.inr (.inr ⟨hcj,hc⟩))
        exact hl (.inl (ST.Fg I.closed i o p ho hp he j qS))
  . have YN:∀ T,mem T->dg 0 k T0 T->Av E al i o (T.Bt i) (T0.Gt k)=some (T.val i):=by
     intro T hm ha
     obtain⟨_,hf2⟩:=(F.sched T hm).AbJ I.closed hk (J T hm ha).behind (J T hm ha).ahead ho hp hi he (hgT T hm ha)
     have:=hf2 hc
     rw[(ha.1 k (Nat.zero_le _) nlr).2] at this
     exact this
    by_cases hc0:oE E o.op=0
    . have AfI:∀ T,mem T->dg 0 k T0 T->Kz o.op E (T0.Gt k) (ev (T.Bt i))=some (.val (T.val i) (T0.Gt k)):=by
       intro T hm ha
       have C:Bool.rec (motive:=fun _=>Option Value) ((h_ i al).bind fun b=>ss E (T0.Gt k) b o.op) ((Kz o.op E (T0.Gt k) (ev (T.Bt i))).bind dw) (Nat.beq (oE E o.op) 0)=some (T.val i):=YN T hm ha
       rw[ax] at C
       simp only[hc0,decide_true] at C
       obtain⟨r,hop,hv⟩:=bind_some C
       rw[hop]
       cases r with
       | val v h' =>
        have hh:=Ra hc0 hop
        cases hv;rw[hh]
       | enter f args=>cases hv
       | round l args=>cases hv
      have AdG:o.semAt (FW rr).round a.eval=execOp a.eval o:=Oper.semAt_eq _ _ _ (Fa (AfI T0 R (dg.refl _ _ _)))
      refine⟨fun _ _=>trivial,?_⟩
      rw[AdG]
      have AbL:∀ T,mem T->dg 0 k T0 T->∃ bY W' V nx,(execOp a.eval o).run P w=.ok nx W'/\(nx=.value V\/(nx=.skip/\V=undef))/\aK bY (T.val i) V/\aX bY (T0.Gt k) W'/\Ext ρ (T0.Gt k) w bY (T0.Gt k) W':=by
       intro T hm ha
       obtain⟨bY,W',V,nx,U,PW,k1,k2,k3⟩:=Pa (P:=P) (o:=o) hE hH (a:=ev (T.Bt i)) (c:=a.eval) (AfE T hm ha) (AfI T hm ha)
       exact⟨bY,W',V,nx,U,PW,k1,k2,k3⟩
      obtain⟨bY,W',V,nx,U,PW,k1,k2,k3⟩:=AbL T0 R (dg.refl _ _ _)
      have hρ:=Pj hH k2 k3
      subst hρ
      have fin:∀ T,mem T->dg 0 k T0 T->aK bY (T.val i) V:=by
       intro T hm ha
       obtain⟨ρ2,W2,V2,nx2,AbM,Ahs,l1,l2,l3⟩:=AbL T hm ha
       have MH:=Pj hH l2 l3
       rw[U] at AbM;cases AbM
       rw[MH] at l1
       have:V2=V:=by
        rcases PW with e | ⟨e,e1⟩ <;> rcases Ahs with e' | ⟨e',BA⟩
        . rw[e] at e';cases e';rfl
        . rw[e] at e';cases e'
        . rw[e] at e';cases e'
        . rw[e1,BA]
       rw[this] at l1;exact l1
      rw[U]
      have hkk:=SY (.inr hc) bY V W' bY.le_refl k2 (hX.trans k3) AaW fin
      rcases PW with rfl | ⟨rfl,rfl⟩
      . exact hkk
      . exact hkk
    . have C:∀ T,mem T->dg 0 k T0 T->((h_ i al).bind fun b=>ss E (T0.Gt k) b o.op)=some (T.val i):=by
       intro T hm ha
       have C:Bool.rec (motive:=fun _=>Option Value) ((h_ i al).bind fun b=>ss E (T0.Gt k) b o.op) ((Kz o.op E (T0.Gt k) (ev (T.Bt i))).bind dw) (Nat.beq (oE E o.op) 0)=some (T.val i):=YN T hm ha
       rw[ax] at C
       simp only[hc0,decide_false] at C
       exact C
      obtain⟨b,hfb,hz⟩:=bind_some (C T0 R (dg.refl _ _ _))
      cases VJ:o.op with
      | alloc e =>
       rw[VJ] at hz
       obtain⟨z,Zl,hz2⟩:=bind_some hz
       obtain⟨x,hx,hz3⟩:=bind_some hz2
       obtain⟨AbN,hz4⟩:=jI hz3
       simp only[ax,Bool.and_eq_true,Bool.not_eq_true',decide_eq_true_eq] at AbN
       obtain⟨⟨⟨⟨c1,c2⟩,c3⟩,c4⟩,c5⟩:=AbN
       have IQ:=Dg _ _ c1
       obtain⟨Z,hZ,_,FP⟩:=hE.cz Zl w
       have AfJ:=AbK i b hfb hi
       have hW:(w.alloc (.cells Z.cells e (0,0))).heap=w.heap.push (.cells Z.cells x.elem (0,0)):=by rw[c2];rfl
       obtain⟨q2,q3⟩:=aX.real hH (W':=w.alloc (.cells Z.cells e (0,0))) (H.pS hx) AfJ hW c3 (by rw[IQ];exact FP ρ)
       have q3':=q3 Dp h0 W0 (by have:=(S.laid.range i b hfb).1;omega) hX rfl rfl rfl
       have U:(execOp a.eval o).run P w=.ok (.value (.pointer (some ⟨w.heap.size,0,none⟩))) (w.alloc (.cells Z.cells e (0,0))):=by
        simp only[execOp,VJ,Instr.alloc,newVar,Sem.run_bind,hZ,Result.andThen_ok,xE,Sem.run_pure]
        rfl
       refine⟨fun _ _=>trivial,?_⟩
       rw[Oper.semAt_eq _ _ _ (fun c q=>by rw[VJ] at q;cases q),U]
       have hle:=ρ.xC b ⟨w.heap.size,0,x.cs.length,0,Z.cells.size⟩ AfJ
       refine SY (.inr hc) _ _ _ hle q2 q3' ?_ ?_
       . intro i' b' q n
         have qS:b'≠b:=fun qq=>n (.inr (S.laid.inj i' i b (qq ▸ q) hfb))
         have:(ρ.add b ⟨w.heap.size,0,x.cs.length,0,Z.cells.size⟩) b'=ρ b':=if_neg qS
         rw[this]
         exact AaW i' b' q n
       . intro T hm ha
         have:T0.val i=.pointer (some ⟨b,0,none⟩):=(Option.some.inj hz4).symm
         have hT:T.val i=.pointer (some ⟨b,0,none⟩):=by
          have e2:=C T hm ha
          rw[C T0 R (dg.refl _ _ _),this] at e2
          exact (Option.some.inj e2).symm
         rw[hT]
         exact aK.ptr b 0 _ (bS.add_same _ _ _)
      | _=>rw[VJ] at hz;cases hz
omit F in
theorem Inv.congr (I:Inv E ops al mem N Dp h0 W0 D qQ a w) {j:Nat->Prop} (h:∀ x,qQ x<->j x):Inv E ops al mem N Dp h0 W0 D j a w:=by
 have:qQ=j:=funext fun x=>propext (h x)
 rw[<-this];exact I
theorem Fam.any {rr:Option Nat} (hE:bj P E) (U:h0.next<=base) {Q:Exit->Act->World->Prop} (hQ:∀ a w,Inv E ops al mem N Dp h0 W0 D (fun x=>x<ops.size) a w->Q .normal a w) :
 ∀ (p:Nat) (L:Array Bool) (a:Act) (w:World),L.size=ops.size->(L.toList.filter (! ·)).length<=p->Inv E ops al mem N Dp h0 W0 D (fun x=>L.getD x false=true) a w->wpAnyIn (FW rr) 0 P .any ops Q p L a w:=by
 intro p L0 a0 w0 hs0 hc0 I0
 obtain⟨T1,hm1⟩:∃ T,mem T:=by obtain⟨_,_,T0,hm0,_⟩:=I0.rest;exact⟨T0,hm0⟩
 have S:=F.sched T1 hm1
 revert L0 a0 w0
 -- nothing is ready: all is behind us
 have C:∀ (L:Array Bool) (a:Act) (w:World),L.size=ops.size->Region.ready .any ops L=[]->Inv E ops al mem N Dp h0 W0 D (fun x=>L.getD x false=true) a w->Q .normal a w:=by
  intro L a w hs hr I
  have J:∀ x,x<ops.size->L.getD x false=true:=by
   intro x
   induction x using Nat.strongRecOn with
   | _ x ih =>
    intro hx
    refine Classical.byContradiction fun n=>?_
    have ho:=Array.getElem?_eq_getElem (xs:=ops) (i:=x) hx
    have:x ∈ Region.ready .any ops L:=by
     rw[mem_ready]
     refine⟨?_,ops[x],ho,fun e he hb=>?_⟩
     . have hx':x<L.size:=om
       simp[hx'] at n ⊢
       exact n
     . have j:=S.facts.AfC x _ ho e (Array.mem_toList_iff.2 he) hb
       exact ih e.on j om
    rw[hr] at this;cases this
  refine hQ a w (I.congr fun x=>⟨fun q=>?_,J x⟩)
  rcases Nat.lt_or_ge x L.size with g | g
  . omega
  . simp[Array.getD_eq_getD_getElem?,Array.getElem?_eq_none g] at q
 induction p with
 | zero =>
  intro L a w hs hc I
  have hr:Region.ready .any ops L=[]:=by
   apply List.eq_nil_iff_forall_not_mem.2
   intro x hx
   obtain⟨h1,o,ho,_⟩:=mem_ready.1 hx
   have j:x<L.size:=by rw[hs];exact S.has ho
   have R:L[x]=false:=by simpa [j] using h1
   have:L[x] ∈ L.toList.filter (! ·):=List.mem_filter.2 ⟨Array.mem_toList_iff.2 (Array.getElem_mem j),by rw[R];rfl⟩
   have h0:L.toList.filter (! ·)=[]:=List.eq_nil_of_length_eq_zero om
   rw[h0] at this;cases this
  exact⟨hr,C L a w hs hr I⟩
 | succ p ih =>
  intro L a w hs hc I
  refine⟨fun hr=>C L a w hs hr I,fun i hir=>?_⟩
  obtain⟨h1,o,ho,J⟩:=mem_ready.1 hir
  have j:i<L.size:=by rw[hs];exact S.has ho
  have R:L[i]=false:=by simpa [j] using h1
  refine F.one hE U I ho ?_ (fun e he hb=>J e (Array.mem_toList_iff.1 he) hb) fun a' w' I'=>?_
  . simp[j,R]
  . refine ih _ a' w' (sp hs) ?_ (I'.congr fun x=>?_)
    . have key:∀ (l:List Bool) (i:Nat),l[i]?=some false->((l.set i true).filter (! ·)).length+1=(l.filter (! ·)).length:=by
       intro l
       induction l with
       | nil=>intro i h;simp at h
       | cons b l ihl =>
        intro i h
        cases i with
        | zero=>simp at h;subst h;simp
        | succ i =>
         have:=ihl i (sp h)
         cases b <;> simp <;> simpa using this
      have hk:=key L.toList i (by rw[Array.getElem?_toList,Array.getElem?_eq_getElem j,R])
      have e:(L.setIfInBounds i true).toList=L.toList.set i true:=sm
      rw[e];omega
    . by_cases q:x=i
      . subst q;simp[j]
      . rw[getD_set_ne false (Ne.symm q)]
        exact⟨fun r=>r.resolve_right q,.inl⟩
end
end Go.X
namespace Go.X
open Go
variable {P:Program} {E:Env}
theorem Pk {n:Nat} (B:Below P E n) {R:Option Nat} {fn:FuncId} {id:Nat} {ops:Array Oper} {st:St} {cE:ik} (hr:run E (n+1) (.exec R fn (.region id ops false) st)=some cE):gx P R (.region id ops false) st cE:=by
 obtain⟨j,he,hw⟩:=B.region _ _ _ _ (show run E n (.region ops ops.toList st)=some cE from hr)
 exact⟨.normal,j,he,fun o base ρ a W _ _ p C I=>j7 (fun _ q=>by cases q) (wpIn_region_list (hw o base ρ st.h W ρ a W p C (Ext.refl _ _ _) I))⟩
theorem Fh (hE:bj P E) {id:Nat} {ops:Array Oper} {t:B} {h:H} {ps:List Nat} {J:H} {al:List (Nat × Nat)} (hps:vn E ops.toList=some ps) (hq:fW E ops.toList 0 h []=some (J,al)) {K:B->H->Prop}
 (hTr:fX P E ops ps ops.toList 0 al [] [] t J K) {rr:Option Nat} {base:Nat} {ρ:bS} {a:Act} {W:World} (hT:gr ρ t a.tmps) (R:aX ρ h W) (hM:Marks base ρ h W a.defers) :
 Iu rr P (entry (.region id ops true)) (fun e a' W'=>∃ t' h',K t' h'/\e=El .normal/\a'.tmps.size=a.tmps.size/\∃ bY,gr bY t' a'.tmps/\aX bY h' W'/\Ext ρ h W bY h' W'/\Marks base bY h' W' a'.defers) a W:=by
 obtain⟨mem,⟨T1,hm1⟩,C,U⟩:=hTr
 obtain⟨F,hp⟩:=Vp hps
 obtain⟨l1,l2,l3,l4⟩:=Ph ops.toList h.next 0 h [] J al hq nlr ⟨fun j b e=>(by cases e),fun j j' b e=>(by cases e)⟩ R.fresh
 have hG0:∀ T,mem T->T.Gt 0=J:=fun T hm=>(C T hm).1.2.1
 have Nn:∀ T,mem T->T.Bt 0=t:=fun T hm=>(C T hm).1.1
 have S:∀ T,mem T->vZ P E ops ps al T a.tmps.size h.next:=by
  intro T hm
  refine⟨F,?_,by rw[Nn T hm];exact hT.1,?_⟩
  . rw[hG0 T hm];simpa using l4
  . intro k o ho
    obtain⟨p,p1,p2,p3,p4⟩:=(C T hm).1.2.2 k o (Nat.zero_le _) (by rw[Nat.sub_zero,Array.getElem?_toList];exact ho)
    refine⟨p,p1,p2,fun w c j oj j1 j2=>(p3 w c).2 j oj (Nat.zero_le _) j1 (by rw[Nat.sub_zero,Array.getElem?_toList];exact j2),fun w c j oj j1 j2=>(p4 w c).2 j oj (Nat.zero_le _) j1 (by rw[Nat.sub_zero,Array.getElem?_toList];exact j2)⟩
 have FM:Fam P E ops ps al mem a.tmps.size h.next:=⟨S,fun T hm k o ho=>U T hm k o (Nat.zero_le _) (by rw[Nat.sub_zero,Array.getElem?_toList];exact ho)⟩
 -- DB heap laid ahead
 have hH1:aX ρ J W:=by
  refine⟨?_,?_,?_,l3⟩
  . intro b x r e1 e2
    have:=(R.we b r e2).1
    rw[l2 b this] at e1
    exact R.obj b x r e1 e2
  . intro b b' x x' r r' e1 BA e2 Jl
    rw[l2 b (R.we b r e2).1] at e1
    rw[l2 b' (R.we b' r' Jl).1] at BA
    exact R.inj b b' x x' r r' e1 BA e2 Jl
  . intro b r e;have:=R.we b r e;omega
 have hX1:Ext ρ h W ρ J W:=by
  refine⟨ρ.le_refl,Nat.le_refl _,rfl,rfl,rfl,fun _ _ _=>rfl,?_,l1,fun _ _=>rfl⟩
  intro b x r e1 e2 e3 _
  rw[l2 b (R.we b r e3).1] at e1
  exact⟨b,x,r,e1,e2,e3,rfl⟩
 have hHd:aX ρ J { W with drawn:=W.drawn+1 }:=hH1.drew rfl
 have hXd:Ext ρ h W ρ J { W with drawn:=W.drawn+1 }:=hX1.trans (Ext.drew rfl rfl rfl rfl)
 refine j7 (fun _ q=>by cases q) (wpIn_region_any hE.mixed ?_)
 have hlen:ops.toList.length=ops.size:=Array.length_toList
 have hno:∀ i,¬ (Array.replicate ops.size false).getD i false=true:=by
  intro i hl'
  rw[Array.getD_eq_getD_getElem?,Array.getElem?_replicate] at hl'
  split at hl' <;> cases hl'
 refine FM.any hE (Dp:=ρ) (h0:=h) (W0:=W) (D:=a.defers) nlr ?_ ops.size (Array.replicate ops.size false) a _ sm ?_ ?_
 . intro a' w' I
   obtain⟨bY,k,T,hm,hk1,hH',hX',_,_,AdE⟩:=I.rest
   have hti:=AdE T hm (dg.refl _ _ _)
   have eG:T.Gt (0+ops.toList.length)=T.Gt k:=by
    rw[hlen,Nat.zero_add,(S T hm).En ops.size hk1 nlr (fun j J h2 hj=>by have:=hti.behind j hj h2;omega)]
   refine⟨_,_,(C T hm).2,rfl,by rw[I.KP],bY,⟨?_,fun t=>?_⟩,?_,?_,?_⟩
   . rw[I.KP]
     have:=(S T hm).szB ops.size nlr
     simpa [hlen] using this
   . obtain⟨j,hj,hv,j1,j2⟩:=hti.tmps t
     have:(T.Bt ops.size).get t=(T.Bt j).get t:=by
      refine (S T hm).Ri ops.size hj nlr ?_
      intro x ox hx1 Sf hox hd
      have:=j1 x ox hox hd Sf
      omega
     show aK bY ((T.Bt (0+ops.toList.length)).get t) _
     rw[hlen,Nat.zero_add,this];exact hv
   . rw[eG];exact hH'
   . rw[eG];exact hX'
   . rw[eG,I.defers];exact hM.ext hX'
 . have:((Array.replicate ops.size false).toList.filter (! ·))=List.replicate ops.size false:=sm
   rw[this];simp
 . refine⟨fun i o hl=>absurd hl (hno i),rfl,⟨ρ,0,T1,hm1,Nat.zero_le _,by rw[hG0 T1 hm1];exact hHd,by rw[hG0 T1 hm1];exact hXd,Nat.le_refl _,?_,fun T hm _=>⟨fun t=>⟨0,Nat.zero_le _,?_,fun i o _ _ hl=>absurd hl (hno i),fun _ _ _ _ _=>Nat.zero_le _⟩,fun j _ hl=>absurd hl (hno j),fun _ _ _=>Nat.zero_le _⟩⟩,rfl⟩
   . intro i b e _
     have hb:=(l4.range i b e).1
     cases q:ρ b with
     | none=>rfl
     | some r=>have:=(R.we b r q).1;omega
   . rw[Nn T hm];exact hT.2 t
theorem Rj (J:bj P E) {R:Option Nat} {id:Nat} {ops:Array Oper} {st:St} {cE:ik} {ps:List Nat} {C:H} {al:List (Nat × Nat)} (p:vn E ops.toList=some ps) (U:fW E ops.toList 0 st.h []=some (C,al))
 (j:fX P E ops ps ops.toList 0 al [] [] st.tmps C fun o h'=>cE=.a .normal ⟨o,st.xy,h'⟩):gx P R (.region id ops true) st cE:=by
 obtain⟨o,h',ha⟩:∃ o h',cE=.a .normal ⟨o,st.xy,h'⟩:=by
  obtain⟨mem,⟨T,hm⟩,h2,_⟩:=j
  exact⟨_,_,(h2 T hm).2⟩
 refine⟨.normal,_,ha,fun rr base ρ a W _ _ hT hH hM=>(Fh J p U j hT hH hM).mono ?_⟩
 rintro e a' W' ⟨t2,h2,I,rfl,_,bY,k⟩
 rw[ha] at I;cases I
 exact⟨rfl,bY,k⟩
theorem Vq (I:bj P E) {R:Option Nat} {n:Nat} (B:∀ m,m<=n->Below P E m) {fn:FuncId} {id:Nat} {ops:Array Oper} {st:St} {cE:ik} (hr:run E (n+1) (.exec R fn (.region id ops true) st)=some cE):gx P R (.region id ops true) st cE:=by
 have o:H2 E (run E n) ops st=some cE:=hr
 obtain⟨ps,j,p⟩:=bind_some o
 obtain⟨q,J,C⟩:=bind_some p
 obtain⟨U,al⟩:=q
 exact Rj I j J (Pg (P:=P) I j ops.toList n 0 [] [] _ cE (fun m hm=>(B m om).call) (fun m hm=>(B m om).round) C)
theorem below (j:bj P E) (C:∀ f,h_ f E.xs≠some 3) (n:Nat):Below P E n:=by
 induction n using Nat.strongRecOn with
 | _ n p =>
  cases n with
  | zero=>exact⟨fun _ _ _ _ _ h=>(by cases h),fun _ _ _ _ _ _ h=>(by cases h),fun _ _ _ _ h=>(by cases h),fun _ _ _ _ h=>(by cases h),fun _ _ _ _ h=>(by cases h)⟩
  | succ n =>
   have B:=p n (Nat.lt_succ_self n)
   refine⟨?_,fun R fn b c st cE h=>Pd B h,fun ops rest st cE h=>MG j B.call B.round B.region h,fun f args h cE hr=>Q_ j C B hr,fun l args h cE hr=>Pe B hr⟩
   intro R fn c st cE h
   cases c with
   | skip=>cases h;exact vX .normal (fun o Q a w q=>wpIn_skip q) (fun b q=>(by cases q))
   | region id ops draw =>
    cases draw with
    | false=>exact Pk B h
    | true=>exact Vq j (fun m hm=>p m om) h
   | seq x y=>exact YJ B h
   | cond c x y=>exact Vk B h
   | block id x=>exact QZ B h
   | loop x=>exact Vl B h
   | rangeFunc f ps zQq bd =>
    cases R with
    | none=>exact Q' j B h
    | some l=>cases h
   | exit id=>cases h;exact vX (.exit id) (fun o Q a w q=>wpIn_exit q) (fun b q=>(by cases q))
   | scope x=>exact Q0 B h
   | label l=>cases h;exact vX .normal (fun o Q a w q=>wpIn_label q) (fun b q=>(by cases q))
   | goto l=>cases h;exact vX (.goto l) (fun o Q a w q=>wpIn_goto q) (fun b q=>(by cases q))
   | ret=>cases h;exact vX .ret (fun o Q a w q=>wpIn_ret q) (fun b q=>(by cases q))
   | refuse w=>cases h
end Go.X
namespace Go.X
open Go
noncomputable def YQ (P:Program):Bool:=P.types.toList.all fun i=>match i.desc with | .named _ u=>decide (u<P.types.size) | _=>true
noncomputable def AfK (P:Program):Bool:=P.funcs.toList.all fun f=>!(f.name == "runtime.NumGoroutine")
noncomputable def AaX:Option TypeDesc->Bool
 | some (.struct fs)=>fs.toList.all fun f=>!(f.name == "_")
 | _=>true
noncomputable def AfL (P:Program) (l:List TypeId):Bool:=l.all fun t=>!(P.stoodInHeld t)&&!(P.eqGuardType P.depth t)&&AaX (P.underlying t)
theorem BR (P:Program) {t:TypeId} {j:TypeInfo} (h:P.types[t]?=some j):P.info? t=some j:=by
 have o:t<P.types.size:=by
  rcases Nat.lt_or_ge t P.types.size with g | g
  . exact g
  . rw[Array.getElem?_eq_none g] at h;cases h
 show Tables.info? _ t=_
 unfold Tables.info?
 rw[if_pos o];exact h
theorem M3 (P:Program) (xs:List (FuncId × Nat)) (eqs:List TypeId) (ht:P.types.size<2 ^ 20) (hf:P.funcs.size<2 ^ 20) (o:YQ P=true) (p:AfK P=true) (hm:P.follows .mixedOrders=true) (he:AfL P eqs=true) (hx:∀ f k,h_ f xs=some k->k≠3->VV P f k):bj P (Env.of P xs eqs):=by
 have J:∀ t:Nat,(UZ 20 P.types.toList).get t=P.types[t]?:=fun t=>by rw[MA 20 _ _ (sp ht),Array.getElem?_toList]
 refine⟨hx,?_,?_,?_,hm,?_⟩
 . intro t i hi
   have C:(UZ 20 (JC (Afc (UZ 20 P.types.toList)) P.types.toList)).get t=some i:=hi
   rw[MA 20 _ _ (by rw[Tb];simpa using ht),Tb,List.getElem?_map,Array.getElem?_toList] at C
   obtain⟨j,R,rfl⟩:=Option.map_eq_some_iff.1 C
   refine⟨j,BR P R,rfl,rfl,rfl,?_,rfl,rfl⟩
   show P.underlying t=some (descOf (UZ 20 P.types.toList) j.desc)
   unfold Program.underlying
   rw[BR P R]
   have hn:=(List.all_eq_true.1 o) j (Array.mem_toList_iff.2 (Array.mem_of_getElem? R))
   cases hd:j.desc with
   | named a u =>
    rw[hd] at hn
    have hu:u<P.types.size:=sp hn
    have I:=Array.getElem?_eq_getElem (xs:=P.types) (i:=u) hu
    obtain⟨d,s,b,z,m⟩:=j
    simp only at hd
    subst hd
    show (P.info? u).map (·.desc)=_
    rw[BR P I]
    show _=some (match (UZ 20 P.types.toList).get u with | some i=>i.desc | none=>.invalid)
    rw[J u,I];rfl
   | _ =>
    obtain⟨d,s,b,z,m⟩:=j
    simp only at hd
    subst hd
    rfl
 . intro f fn h
   have h':(UZ 20 P.funcs.toList).get f=some fn:=h
   rw[MA 20 _ _ (sp hf),Array.getElem?_toList] at h'
   exact h'
 . intro f fn h
   have:=(List.all_eq_true.1 p) fn (Array.mem_toList_iff.2 (Array.mem_of_getElem? h))
   simpa using this
 . intro t U
   have:=(List.all_eq_true.1 he) t U
   simp only[Bool.and_eq_true,Bool.not_eq_true'] at this
   obtain⟨⟨h1,h2⟩,h3⟩:=this
   refine⟨h1,h2,fun fs hfs f hfm=>?_⟩
   rw[hfs] at h3
   have:=(List.all_eq_true.1 h3) f hfm
   simpa using this
noncomputable def af {α:Type} (x:Option α) (k:α->Prop):Prop:=Option.rec (motive:=fun _=>Prop) False k x
theorem aD {α:Type} {x:Option α} {k:α->Prop}:af x k<->∃ a,x=some a/\k a:=by
 cases x with
 | none=>exact⟨fun h=>h.elim,fun ⟨_,h,_⟩=>by cases h⟩
 | some a=>exact⟨fun h=>⟨a,rfl,h⟩,fun ⟨_,h,k⟩=>by cases h;exact k⟩
theorem aa {α:Type} (a:α) (k:α->Prop):af (some a) k=k a:=rfl
inductive xR (P:Program) (f:FuncId) (args:List Value) (h:H) (K:Value->H->Prop):Prop
 | call (w:aj P f args h K)
 | ext (w:Vj P f args h K)
theorem xR.w {P:Program} {f:FuncId} {args:List Value} {h:H} {K:Value->H->Prop} (x:xR P f args h K):aj P f args h K\/Vj P f args h K:=by
 cases x with
 | call w=>exact .inl w
 | ext w=>exact .inr w
structure YT (P:Program) (l:Nat) (args:List Value) (h:H) (K:Value->H->Prop):Prop where
 w:Em P l args h K
noncomputable def onR (P:Program) (h:H) (K:Value->H->Prop) (r:R):Prop :=
 R.rec (motive:=fun _=>Prop) (fun v h'=>K v h') (fun f args=>xR P f args h K) (fun l args=>YT P l args h K) r
def YU (h:H) (l n:Nat):Prop:=∃ s pd f tm ps zQq bd d,h.get l=some (.loop s pd f tm ps zQq bd d)/\n=ps.length
noncomputable def AfM (P:Program) (E:Env) (v:Value) (args:List Value) (h:H) (K:Value->H->Prop):Prop :=
 match v with
 | .func (.func g) first captured=>match h_ g E.xs with
  | none=>xR P g (cW (cW first.toList args) captured.toList) h K
  | some _=>False
 | .func (.yield l) first _=>YU h l (cW first.toList args).length/\YT P l (cW first.toList args) h K
 | _=>False
structure AdJ (P:Program) (E:Env) (v:Value) (args:List Value) (h:H) (K:Value->H->Prop):Prop where
 w:AfM P E v args h K
noncomputable def Pl (c a b:Value):Option Value:=(Yg c).bind fun t=>some (Bool.rec (motive:=fun _=>Value) b a t)
noncomputable def YV (E:Env) (h:H) (t:TypeId) (a:Value):Option Value:=(addrOf a).bind fun a=>loadVar E h t a
noncomputable def YW (E:Env) (h:H) (t:TypeId) (a x:Value):Option H:=(addrOf a).bind fun a=>storeVar E h t a x
noncomputable def bC (E:Env) (t:TypeId) (ps:List (Nat × Value)):Option Value :=
 (E.cz t).bind fun z=>(E.under t).bind fun u=>match u with
 | .struct fields=>(Ed E fields.toList).bind fun _=>(HZ E fields z ps).bind fun c=>some (.agg ⟨c⟩)
 | .array _ e=>(E.size e).bind fun s=>(xS s z ps).bind fun c=>some (.agg ⟨c⟩)
 | _=>none
noncomputable def dM (E:Env) (h:H) (t:TypeId) (n:Nat) (ps:List (Nat × Value)):Option H :=
 (E.under t).bind fun u=>match u with
 | .slice e=>(E.size e).bind fun s=>(E.cz e).bind fun z=>(xS s (dZ z n) ps).bind fun c =>
  bif Nat.ble (n * s) 16777216&&Nat.beq (X.len z) s then some (newRow h e c 0) else none
 | _=>none
noncomputable def vU (E:Env) (h:H) (t:TypeId) (l c:Value):Option (Value × H) :=
 (E.under t).bind fun u=>match u,l,c with
 | .slice e,.int _ (.ofNat l),.int _ (.ofNat c)=>(E.dO e).bind fun i=>(E.cz e).bind fun z =>
  bif Nat.ble l c&&Nat.ble (i.bytes * c) 1099511627776&&Nat.ble c 1099511627776&&Nat.beq (len z) i.size then
   some (.slice (some ⟨h.next,0,none⟩) l c,newRow h e (dZ z c) 0)
  else none
 | _,_,_=>none
noncomputable def db (x:Value):Option Value :=
 match x with
 | .pointer (some a)=>some (.pointer (some a))
 | .iface t v=>some (.iface t v)
 | .func (.func f) first c=>some (.func (.func f) first c)
 | .func (.yield f) first c=>some (.func (.yield f) first c)
 | _=>none
noncomputable def aT (E:Env) (h:H) (s d:TypeId) (x:Value):Option (Value × H) :=
 (E.under s).bind fun j=>(E.under d).bind fun C=>match C,x with
 | .int k,.int _ n=>some (.int k (mS k n),h)
 | .string,.string b=>some (.string b,h)
 | .slice e,.string b=>(E.under e).bind fun o=>match o with
  | .int .u8=>some (.slice (some ⟨h.next,0,none⟩) (len b.data.toList) (len b.data.toList),newRow h e (eN b.data.toList) 1)
  | _=>none
 | .string,.slice a n c=>match j with
  | .slice e=>(E.under e).bind fun o=>match o with
   | .int .u8=>(cV h 1 n (.slice a n c)).bind fun cs=>(bytesOf cs).bind fun bs=>some (.string ⟨⟨bs⟩⟩,h)
   | _=>none
  | _=>none
 | .unsafePointer,.pointer p=>(DS E h j p).bind fun v=>some (v,h)
 | .pointer u,.pointer p=>(J9 E h j u p).bind fun v=>some (v,h)
 | _,_=>none
noncomputable def tC (E:Env) (t:TypeId) (x:Value):Option Value:=(E.under t).bind fun u=>match u with | .interface _=>none | _=>some (.iface t x)
noncomputable def Pm (fn:Fn) (first captured:List Value):Option Value:=bif Mr fn then some (.func fn ⟨first⟩ ⟨captured⟩) else none
noncomputable def Ep (E:Env) (s:TypeId) (x:Value) (f:Nat):Option Value :=
 (E.under s).bind fun u=>match u with
 | .struct fields=>(gN fields.toList f).bind fun fd=>(addrOf x).bind fun a=>(E.size fd.type).bind fun sz =>
  bif Nat.beq sz 0 then none else some (.pointer (some (nE a fd.offset)))
 | _=>none
noncomputable def AdK (E:Env) (fd:Field) (x:Value):Option Value:=match x with | .agg cs=>part E fd.type cs.toList fd.offset | _=>none
noncomputable def Er (E:Env) (t:TypeId) (x:Value) (f:Nat):Option Value :=
 (E.under t).bind fun u=>match u with
 | .struct fields=>(gN fields.toList f).bind fun fd=>AdK E fd x
 | _=>none
noncomputable def AB (s:Nat) (x ix:Value):Option Value :=
 match x,ix with
 | .slice (some a) len _,.int _ (.ofNat i)=>bif Nat.blt i len then some (.pointer (some (nE a (i * s)))) else none
 | _,_=>none
noncomputable def ixP (n s:Nat) (x ix:Value):Option Value :=
 match x,ix with
 | .pointer (some a),.int _ (.ofNat i)=>bif Nat.blt i n then some (.pointer (some (nE a (i * s)))) else none
 | _,_=>none
noncomputable def Es (E:Env) (t:TypeId) (x ix:Value):Option Value :=
 (E.under t).bind fun u=>match u with
 | .array len e=>(E.size e).bind fun s=>ixP len s x ix
 | .slice e=>(E.size e).bind fun s=>AB s x ix
 | _=>none
noncomputable def MV (x ix:Value):Option Value :=
 match x,ix with
 | .string s,.int _ (.ofNat i)=>(Mo s.data.toList i).bind fun b=>some (.int .u8 b.toNat)
 | _,_=>none
noncomputable def Ua (E:Env) (n s:Nat) (e:TypeId) (x ix:Value):Option Value :=
 match x,ix with
 | .agg cs,.int _ (.ofNat i)=>bif Nat.blt i n then part E e cs.toList (i * s) else none
 | _,_=>none
noncomputable def Et (E:Env) (t:TypeId) (x ix:Value):Option Value :=
 (E.under t).bind fun u=>match u with
 | .array len e=>(E.size e).bind fun s=>Ua E len s e x ix
 | .string=>MV x ix
 | _=>none
noncomputable def dl (t:Value) (ix:Nat):Option Value:=match t with | .tuple vs=>nth vs.toList ix | _=>none
noncomputable def Fx (K:Value->H->Prop) (r:R):Prop:=R.rec (motive:=fun _=>Prop) (fun v h'=>K v h') (fun _ _=>False) (fun _ _=>False) r
noncomputable def tD (E:Env) (h:H) (elem:TypeId) (sz l m:Nat) (cK new:List Value) (K:Value->H->Prop):Prop :=
 af (E.dO elem) fun i=>af (E.cz elem) fun z =>
  bif Nat.ble ((l+m+64) * 4 * i.bytes) 70368744177664&&Nat.ble (l+m) 70368744177664&&Nat.beq (len z) sz then
   ∀ G,l+m<=G->K (.slice (some ⟨h.next,0,none⟩) (l+m) G) (newRow h elem (cW (cW cK new) (dZ z (G-(l+m)))) 0)
  else False
noncomputable def rz (E:Env) (h:H) (ats:List TypeId) (s x:Value) (K:Value->H->Prop):Prop :=
 af (gN ats 0) fun st=>af (E.under st) fun u=>match u,s with
 | .slice elem,.slice base l c =>
  af (E.size elem) fun sz =>
  af (match gN ats 1 with | none=>some false | some j=>(E.under j).map ku) fun zs=>bif zs then False else
  af (lenOf x) fun m=>af (cV h sz m x) fun new=>af (cV h sz l s) fun cK =>
  af (oh h base c) fun o=>bif o then False else
  bif Nat.ble (l+m) c then False else tD E h elem sz l m cK new K
 | _,_=>False
noncomputable def Tj (E:Env) (h:H) (ats:List TypeId) (s x:Value) (K:Value->H->Prop):Prop :=
 af (gN ats 0) fun st=>af (E.under st) fun u=>af (gN ats 1) fun j=>af (E.under j) fun p=>match u,s,p,x with
 | .slice elem,.slice base l c,.int _,.int _ (.ofNat m) =>
  af (E.size elem) fun sz=>af (E.cz elem) fun z =>
  af (cV h sz l s) fun cK =>
  af (oh h base c) fun o=>bif o then False else
  bif Nat.ble (l+m) c then False else tD E h elem sz l m cK (dZ z m) K
 | _,_,_,_=>False
noncomputable def T5 (E:Env) (h:H) (ats:List TypeId) (s:Value) (K:Value->H->Prop):Prop :=
 af (gN ats 0) fun st=>af (E.under st) fun u=>match u,s with
 | .slice _,.slice base _ c=>af (oh h base c) fun o=>bif o then False else K (.int .i64 c) h
 | _,_=>False
noncomputable def YX (E:Env) (h:H) (ats:List TypeId) (s:Value) (K:Value->H->Prop):Prop :=
 af (gN ats 0) fun st=>af (E.under st) fun u=>match u,s with
 | .slice _,.slice none _ _=>K undef h
 | .slice elem,.slice (some a) n _=>bif Nat.beq n 0 then K undef h else
  af (E.cz elem) fun z=>af (storeCells h a (dZ z n)) fun h'=>K undef h'
 | _,_=>False
structure ir (E:Env) (h:H) (ats:Array TypeId) (s x:Value) (K:Value->H->Prop):Prop where
 w:af (bq E h .append ats [s,x]) (Fx K)\/rz E h ats.toList s x K\/Tj E h ats.toList s x K
noncomputable def AaZ (P:Program) (E:Env) (h:H) (b:Builtin) (ats:Array TypeId) (args:List Value) (K:Value->H->Prop):Prop :=
 match b,args with
 | .append,[s,x]=>ir E h ats s x K
 | .cap,[s]=>T5 E h ats.toList s K
 | .clear,[s]=>YX E h ats.toList s K
 | b,args=>af (bq E h b ats args) (Fx K)
noncomputable def YY (P:Program) (E:Env) (h:H) (ρ:Operand->Value) (c:Call) (K:Value->H->Prop):Prop :=
 Callee.rec (motive:=fun _=>Prop)
  (fun x=>Operand.rec (motive:=fun _=>Prop)
   (fun t=>AdJ P E (ρ (.tmp t)) (lK ρ c.args.toList) h K) (fun _=>False) (fun _=>False)
   (fun g=>Option.rec (motive:=fun _=>Prop) (xR P g (lK ρ c.args.toList) h K) (fun _=>False) (h_ g E.xs)) x)
  (fun _ _=>False)
  (fun b=>AaZ P E h b c.argTypes (lK ρ c.args.toList) K) c.callee
noncomputable def opC (P:Program) (E:Env) (o:Op) (ρ:Operand->Value) (h:H) (K:Value->H->Prop):Prop :=
 Op.casesOn (motive:=fun _=>Prop) o
  (fun x=>K (ρ x) h)
  (fun x=>K (ρ x) h)
  (fun c a b=>af (Pl (ρ c) (ρ a) (ρ b)) fun v=>K v h)
  (fun e=>af (E.cz e) fun z=>K (li h) (newRow h e z 0))
  (fun e x=>af (cells (ρ x)) fun c=>K (li h) (newRow h e c 0))
  (fun t parts=>af (bC E t (FN ρ parts.toList)) fun v=>K v h)
  (fun t n parts=>af (dM E h t n (FN ρ parts.toList)) fun h'=>K (.slice (some ⟨h.next,0,none⟩) n n) h')
  (fun _ _ _ _=>False)
  (fun t a=>af (YV E h t (ρ a)) fun v=>K v h)
  (fun t a x=>af (YW E h t (ρ a) (ρ x)) fun h'=>K undef h')
  (fun _=>False)
  (fun _=>False)
  (fun x=>af (db (ρ x)) fun v=>K v h)
  (fun op t x y _=>af (binOp E op t (ρ x) (ρ y)) fun v=>K v h)
  (fun op _ x=>af (unOp op (ρ x)) fun v=>K v h)
  (fun s d x=>af (aT E h s d (ρ x)) fun r=>K r.1 r.2)
  (fun _ _=>False)
  (fun t x=>af (tC E t (ρ x)) fun v=>K v h)
  (fun fn first captured=>af (Pm fn (lK ρ first.toList) (lK ρ captured.toList)) fun v=>K v h)
  (fun _ _=>False)
  (fun _ _=>False)
  (fun t l c=>af (vU E h t (ρ l) (ρ c)) fun r=>K r.1 r.2)
  (fun t x lo hi mx=>af (aO E h t (ρ x) (zm ρ lo) (zm ρ hi) (zm ρ mx)) fun v=>K v h)
  (fun s x f=>af (Ep E s (ρ x) f) fun v=>K v h)
  (fun t x f=>af (Er E t (ρ x) f) fun v=>K v h)
  (fun t x ix=>af (Es E t (ρ x) (ρ ix)) fun v=>K v h)
  (fun t x ix=>af (Et E t (ρ x) (ρ ix)) fun v=>K v h)
  (fun _ _ _ _=>False)
  (fun _ _ _ _=>False)
  (fun _ _ _=>False)
  (fun _ _ _ _=>False)
  (fun t x=>af (BC E h t (ρ x)) fun r=>K r.1 r.2)
  (fun it s=>af (EU h (ρ it) s) fun r=>K r.1 r.2)
  (fun _=>False)
  (fun _ _ _ _=>False)
  (fun t ix=>af (dl (ρ t) ix) fun v=>K v h)
  (fun c=>YY P E h ρ c K)
  (fun _=>False)
  (fun _=>False)
  (fun _=>False)
  (fun _ _=>False)
  (fun _ _ _=>False)
  (fun _ _=>False)
noncomputable def opL (E:Env) (o:Op) (ρ:Operand->Value) (h:H):Option Value :=
 Op.casesOn (motive:=fun _=>Option Value) o
  (fun x=>some (ρ x))
  (fun x=>some (ρ x))
  (fun c a b=>Pl (ρ c) (ρ a) (ρ b))
  (fun _=>none)
  (fun _ _=>none)
  (fun t parts=>bC E t (FN ρ parts.toList))
  (fun _ _ _=>none)
  (fun _ _ _ _=>none)
  (fun t a=>YV E h t (ρ a))
  (fun _ _ _=>none)
  (fun _=>none)
  (fun _=>none)
  (fun x=>db (ρ x))
  (fun op t x y _=>binOp E op t (ρ x) (ρ y))
  (fun op _ x=>unOp op (ρ x))
  (fun s d x=>(aT E h s d (ρ x)).bind fun r=>some r.1)
  (fun _ _=>none)
  (fun t x=>tC E t (ρ x))
  (fun fn first captured=>Pm fn (lK ρ first.toList) (lK ρ captured.toList))
  (fun _ _=>none)
  (fun _ _=>none)
  (fun _ _ _=>none)
  (fun t x lo hi mx=>aO E h t (ρ x) (zm ρ lo) (zm ρ hi) (zm ρ mx))
  (fun s x f=>Ep E s (ρ x) f)
  (fun t x f=>Er E t (ρ x) f)
  (fun t x ix=>Es E t (ρ x) (ρ ix))
  (fun t x ix=>Et E t (ρ x) (ρ ix))
  (fun _ _ _ _=>none)
  (fun _ _ _ _=>none)
  (fun _ _ _=>none)
  (fun _ _ _ _=>none)
  (fun _ _=>none)
  (fun _ _=>none)
  (fun _=>none)
  (fun _ _ _ _=>none)
  (fun t ix=>dl (ρ t) ix)
  (fun c=>Callee.rec (motive:=fun _=>Option Value) (fun _=>none) (fun _ _=>none) (fun b=>(bq E h b c.argTypes (lK ρ c.args.toList)).bind dw) c.callee)
  (fun _=>none)
  (fun _=>none)
  (fun _=>none)
  (fun _ _=>none)
  (fun _ _ _=>none)
  (fun _ _=>none)
noncomputable def aH (v:Value) (j:Bool) (X Y:Prop):Prop:=match v with | .bool b=>Bool.rec (motive:=fun _=>Prop) Y X (Bool.rec (motive:=fun _=>Bool) (!j) j b) | _=>False
noncomputable def AdL (v:Value) (X:Prop):Prop:=match v with | .tuple _=>X | _=>False
noncomputable def Eu (ops:List Oper) (o:List Nat) (t:B) (go skip:B->Prop) (g:Option (Nat × Bool)):Prop :=
 Option.rec (motive:=fun _=>Prop) (go t) (fun j=>Option.rec (motive:=fun _=>Prop) (skip t)
  (fun d=>Bool.rec (motive:=fun _=>Prop) (aH (t.get d) j.2 (go (t.set d (.bool j.2))) (skip (t.set d (.bool (!j.2))))) (AdL (t.get d) (skip t)) (A0 j.1 o))
  ((gN ops j.1).bind (·.dst))) g
noncomputable def Rk (P:Program) (E:Env) (ops:List Oper) (K:B->H->Prop) (l:List Oper):Nat->List Nat->B->H->Prop :=
 List.rec (motive:=fun _=>Nat->List Nat->B->H->Prop) (fun _ _ t h=>K t h)
  (fun o _ p i j t h=>Eu ops j t
   (fun t=>opC P E o.op (ev t) h fun v h'=>p (Nat.add i 1) j (nr t o.dst v) h')
   (fun t=>p (Nat.add i 1) (i :: j) (nr t o.dst undef) h) o.guard) l
noncomputable def Fl (E:Env):Op->Bool
 | .load .. | .slice .. | .alloc _ | .convert .. | .lookup ..=>true
 | _=>false
noncomputable def Rl (E:Env) (al:List (Nat × Nat)) (i:Nat) (o:Oper) (t:B) (h:H):Option Value :=
 Bool.rec (motive:=fun _=>Option Value) ((h_ i al).bind fun b=>ss E h b o.op) (opL E o.op (ev t) h) (Nat.beq (oE E o.op) 0)
noncomputable def Pn (E:Env) (al:List (Nat × Nat)) (p i:Nat) (o:Oper) (t:B) (v:Value) (X:Prop) (cB:List (Nat × H)):Prop :=
 List.rec (motive:=fun _=>Prop) X (fun x _ j=>Bool.rec (motive:=fun _=>Prop) (Bool.rec (motive:=fun _=>Prop) j (Rl E al i o t x.2=some v/\j) (Fl E o.op)) j (bit p x.1)) cB
noncomputable def Po (E:Env) (al:List (Nat × Nat)) (p:Nat) (h:H) (X:Prop) (bQ:List (Nat × Oper × B × Value)):Prop :=
 List.rec (motive:=fun _=>Prop) X (fun x _ j=>Bool.rec (motive:=fun _=>Prop) (Bool.rec (motive:=fun _=>Prop) j (Rl E al x.1 x.2.1 x.2.2.1 h=some x.2.2.2/\j) (Fl E x.2.1.op)) j (bit p x.1)) bQ
noncomputable def AfN (P:Program) (E:Env) (al:List (Nat × Nat)) (i:Nat) (o:Oper) (t:B) (h:H) (K:Value->Prop):Prop :=
 af (Rl E al i o t h) K
noncomputable def AbO (P:Program) (E:Env) (ops:List Oper) (ps:List Nat) (al:List (Nat × Nat)) (K:B->H->Prop) (l:List Oper):Nat->List Nat->List (Nat × H)->List (Nat × Oper × B × Value)->B->H->Prop :=
 List.rec (motive:=fun _=>Nat->List Nat->List (Nat × H)->List (Nat × Oper × B × Value)->B->H->Prop) (fun _ _ _ _ t h=>K t h)
  (fun o _ C i j cB bQ t h=>af (gN ps i) fun p=>Eu ops j t
   (fun t=>Bool.rec (motive:=fun _=>Prop)
    (AfN P E al i o t h fun v=>Pn E al p i o t v (C (Nat.add i 1) j cB ((i,o,t,v) :: bQ) (nr t o.dst v) h) cB)
    (opC P E o.op (ev t) h fun v h'=>Po E al p h' (C (Nat.add i 1) j ((i,h) :: cB) bQ (nr t o.dst v) h') bQ)
    (Nat.beq (oE E o.op) 2))
   (fun t=>C (Nat.add i 1) (i :: j) cB bQ (nr t o.dst undef) h) o.guard) l
noncomputable def Aa0 (E:Env) (K:H->List (Nat × Nat)->Prop) (l:List Oper):Nat->H->List (Nat × Nat)->Prop :=
 List.rec (motive:=fun _=>Nat->H->List (Nat × Nat)->Prop) (fun _ h al=>K h al)
  (fun o _ j i h al=>match o.op with
   | .alloc e=>af (E.cz e) fun z=>j (Nat.add i 1) (newRow h e z 0) ((i,h.next) :: al)
   | _=>j (Nat.add i 1) h al) l
noncomputable def Di (P:Program) (E:Env) (ops:Array Oper) (draw:Bool) (t:B) (h:H) (K:B->H->Prop):Prop :=
 Bool.rec (motive:=fun _=>Prop) (Rk P E ops.toList K ops.toList 0 [] t h)
  (af (vn E ops.toList) fun ps=>Aa0 E (fun h al=>AbO P E ops.toList ps al K ops.toList 0 [] [] [] t h) ops.toList 0 h []) draw
abbrev gj:=AE->B->H->Prop
structure aL (G:(List Value->H->Prop)->List Value->H->Prop) (s:List Value) (h:H):Prop where
 w:∀ I:List Value->H->Prop,(∀ s h J,(∀ s h,J s h->I s h)->G J s h->I s h)->I s h
theorem aL.unfold {G:(List Value->H->Prop)->List Value->H->Prop} {s:List Value} {h:H} (hh:G (aL G) s h):aL G s h :=
 ⟨fun I j=>j s h (aL G) (fun s h k=>k.w I j) hh⟩
theorem aL.ind {G:(List Value->H->Prop)->List Value->H->Prop} (Inv:List Value->H->Prop) (m:List Value->H->Nat)
 (step:∀ s h,Inv s h->G (fun j h'=>Inv j h'/\m j h'<m s h) s h) {s:List Value} {h:H} (h0:Inv s h):aL G s h:=by
 refine⟨?_⟩
 intro I o
 have key:∀ n s h,m s h<n->Inv s h->I s h:=by
  intro n
  induction n with
  | zero=>intro s h hm;omega
  | succ n p =>
   intro s h hm hi
   exact o s h _ (fun j h' ⟨C,J⟩=>p j h' om C) (step s h hi)
 exact key _ s h (Nat.lt_succ_self _) h0
noncomputable def B.mkU (f:Nat):Nat->B :=
 Nat.rec (motive:=fun _=>Nat->B) (fun _=>.nil)
  (fun _ j n=>Bool.rec (motive:=fun _=>B) (Bool.rec (motive:=fun _=>B) .nil (.leaf Aj) (Nat.beq n 1)) (.node (j (Nat.div (Nat.add n 1) 2)) (j (Nat.div n 2))) (Nat.ble 2 n)) f
noncomputable def Tl (s:List Value) (ks:List Nat):Nat->B->B :=
 List.rec (motive:=fun _=>Nat->B->B) (fun _ b=>b) (fun k _ j i b=>j (Nat.add i 1) (b.set k (aI s i))) ks
noncomputable def Ah (n:Nat) (ks:List Nat) (s:List Value):B:=Tl s ks 0 (B.mkU n n)
noncomputable def jd (t:B) (ks:List Nat):List Value:=List.rec (motive:=fun _=>List Value) [] (fun k _ j=>t.get k :: j) ks
structure Ann where
 n:Nat
 loops:List (Nat × List Nat × List Nat)
 scopes:List (Nat × List Nat × List Nat)
noncomputable def gS (l:List (Nat × List Nat × List Nat)) (key:Nat):List Nat × List Nat :=
 List.rec (motive:=fun _=>List Nat × List Nat) ([],[]) (fun x _ j=>Bool.rec (motive:=fun _=>List Nat × List Nat) j x.2 (Nat.beq x.1 key)) l
inductive aG (v:Value) (X Y:Prop):Prop
 | yes (e:v=.bool true) (x:X)
 | no (e:v=.bool false) (y:Y)
noncomputable def IF (e:AE) (n:Prop) (x g:Nat->Prop) (r:Prop):Prop:=AE.rec (motive:=fun _=>Prop) n x g r e
noncomputable def KS (N:B->H->Prop) (K:gj):gj:=fun e t h=>IF e (N t h) (fun id=>K (.exit id) t h) (fun l=>K (.goto l) t h) (K .ret t h)
noncomputable def Tm (id:Nat) (K:gj):gj:=fun e t h=>IF e (K .normal t h) (fun k=>Bool.rec (motive:=fun _=>Prop) (K (.exit k) t h) (K .normal t h) (Nat.beq k id)) (fun l=>K (.goto l) t h) (K .ret t h)
noncomputable def Rm (ks out:List Nat) (I:List Value->H->Prop) (K:AE->List Value->H->Prop):gj :=
 fun e t h=>IF e (I (jd t ks) h) (fun id=>K (.exit id) (jd t out) h) (fun l=>K (.goto l) (jd t out) h) (K .ret (jd t out) h)
noncomputable def Tn (b:Code) (N:Code->B->H->Prop) (K:gj):gj :=
 fun e t h=>IF e (K .normal t h) (fun id=>K (.exit id) t h) (fun l=>Option.rec (motive:=fun _=>Prop) (K (.goto l) t h) (fun rest=>N rest t h) (findLabel b l)) (K .ret t h)
noncomputable def jumps (o:Code->Nat->B->H->gj->Prop) (b:Code) (key:Nat) (K:gj) (j:Nat):gj :=
 Nat.rec (motive:=fun _=>gj) (Tn b (fun _ _ _=>False) K) (fun _ J=>Tn b (fun rest t h=>o rest key t h J) K) j
noncomputable def g_ (b:Code) (l:Nat) (ks:List Nat) (X:List Value->H->Prop) (K:gj):gj :=
 fun e t h=>IF e (K .normal t h) (fun id=>K (.exit id) t h) (fun l'=>Bool.rec (motive:=fun _=>Prop) (Option.rec (motive:=fun _=>Prop) (K (.goto l') t h) (fun _=>False) (findLabel b l')) (X (jd t ks) h) (Nat.beq l' l)) (K .ret t h)
noncomputable def MM (c:Code):List Nat :=
 Code.rec (motive:=fun _=>List Nat) [] (fun _ _ _=>[]) (fun _ _ a b=>cW a b) (fun _ _ _ a b=>cW a b) (fun _ _ a=>a) (fun _ a=>a) (fun _ _ _ _ a b=>cW a b) (fun id=>[id]) (fun _ a=>a) (fun _=>[]) (fun _=>[]) [] (fun _=>[]) c
noncomputable def YZ (id:Nat) (l:List (Nat × Prop)):Prop:=List.rec (motive:=fun _=>Prop) False (fun x _ j=>Bool.rec (motive:=fun _=>Prop) j x.2 (Nat.beq id x.1)) l
noncomputable def onJ (e:AE) (n:Prop) (xs:List (Nat × Prop)) (r:Prop):Prop:=AE.rec (motive:=fun _=>Prop) n (fun id=>YZ id xs) (fun _=>False) r e
def Zs:AE->Option Code | .normal=>none | .ret=>some .ret | .exit id=>some (.exit id) | .goto t=>some (.goto t)
def jst:AE->LoopState | .normal=>.ready | _=>.done
def jv:AE->Bool | .normal=>true | _=>false
noncomputable def BS (s:List Value) (n i:Nat):List Value:=Nat.rec (motive:=fun _=>Nat->List Value) (fun _=>[]) (fun _ j i=>aI s i :: j (Nat.add i 1)) n i
structure uN (P:Program) (fv:Value) (np:Nat) (RB:List Value->H->(H->(H->Prop)->Prop)->(AE->H->Prop)->Prop) (h:H) (K:AE->H->Prop):Prop where
 w:∀ lp:LoopState->Option Code->kJ,(∀ s p,MB (lp s p)=false)->(∀ h l s p,h.get l=some (lp s p)->YU h l np) ->
  (∀ (l:Nat) (args:List Value) (h:H) (pd:Option Code) (Q:Value->H->Prop),h.get l=some (lp .ready pd)->args.length=np ->
   RB args h (fun h k=>∃ pd,h.get l=some (lp .ready pd)/\k (h.put l (lp .busy pd))) (fun e h2=>(∃ s2 pd2,h2.get l=some (lp s2 pd2))/\Q (.bool (jv e)) (h2.put l (lp (jst e) (Zs e))))->Em P l args h Q) ->
  ∃ g first captured Q,fv=.func (.func g) ⟨first⟩ ⟨captured⟩/\aj P g (cW (cW first [.func (.yield h.next) ⟨[]⟩ ⟨[]⟩]) captured) (h.new (lp .ready none)) Q ∧
   ∀ v h',Q v h'->∃ e s,h'.get h.next=some (lp s (Zs e))/\s≠.busy/\K e (h'.del h.next)
noncomputable def oG (P:Program) (E:Env) (A:Ann) (d:Nat):Bool->Code->Nat->B->H->gj->Prop :=
 Nat.rec (motive:=fun _=>Bool->Code->Nat->B->H->gj->Prop) (fun _ _ _ _ _ _=>False)
  (fun _ j top c key t h K=>Code.casesOn (motive:=fun _=>Prop) c
   (K .normal t h)
   (fun _ ops draw=>Di P E ops draw t h fun t h=>K .normal t h)
   (fun a b=>j top a key t h (KS (fun t h=>j top b key t h K) K))
   (fun c a b=>aG (ev t c) (j top a key t h K) (j top b key t h K))
   (fun id b=>j top b id t h (Tm id K))
   (fun b=>aL (fun I s h=>j top b key (Ah A.n (gS A.loops key).1 s) h (Rm (gS A.loops key).1 (gS A.loops key).2 I fun e s h=>K e (Ah A.n (gS A.loops key).2 s) h)) (jd t (gS A.loops key).1) h)
   (fun f ps zQq bd=>Bool.rec (motive:=fun _=>Prop) False (uN P (ev t f) ps.toList.length
    (fun args h o p=>j false zQq key (kZ t ps.toList (BS args (len ps.toList) 0)) h (KS (fun t h=>o h fun h=>j false bd key t h (fun e _ h=>p e h)) (fun _ _ _=>False))) h
    (fun e h=>onJ e (K .normal t h) (JC (fun id=>(id,K (.exit id) t h)) (MM bd)) (K .ret t h))) top)
   (fun id=>K (.exit id) t h)
   (fun b=>List.casesOn (motive:=fun _=>Prop) (gS A.scopes key).1 (j top b key t h (jumps (j top) b key K 2)) (fun l ks=>Option.rec (motive:=fun _=>Prop) False (fun rest =>
    j top b key t h (g_ b l ks (aL fun I s h=>j top rest key (Ah A.n ks s) h (g_ b l ks I fun e t h=>K e (Ah A.n (gS A.scopes key).2 (jd t (gS A.scopes key).2)) h)) K)) (findLabel b l)))
   (fun _=>K .normal t h)
   (fun l=>K (.goto l) t h)
   (K .ret t h)
   (fun _=>False)) d
noncomputable def AfO (E:Env) (rs:List ResultVar) (Q:Value->H->Prop):gj :=
 fun e t h=>IF e (af (mr E ⟨t,[],h⟩ rs) fun vs=>Q (cN vs) h) (fun _=>False) (fun _=>False) (af (mr E ⟨t,[],h⟩ rs) fun vs=>Q (cN vs) h)
noncomputable def AbP (P:Program) (E:Env) (A:Ann) (fd:Func) (args:List Value) (h:H) (Q:Value->H->Prop):Prop :=
 af fd.body fun body=>oG P E A 200 true body 0 (B.OX args (B.mk (Nat.add (len args) (Nat.add fd.ntmps 1)) (Nat.add (len args) (Nat.sub fd.ntmps (len args)))) 0) h (AfO E fd.results.toList Q)
end Go.X
namespace Go.X
open Go
variable {P:Program} {E:Env}
theorem ot {v:Value} {h:H} {x:Option Value} (e:x=some v):lit x h=some (.val v h):=by subst e;rfl
theorem bind_eq {α β:Type} {x:Option α} {a:α} {f:α->Option β} (h:x=some a):x.bind f=f a:=by subst h;rfl
def Vr (P:Program) (h:H) (b:Builtin) (ats:Array TypeId) (args:List Value) (K:Value->H->Prop):Prop :=
 (∃ v h',K v h')/\∀ (ρ:bS) (W:World) (ty:TypeId) (j:Array Bool) (o:List Value),bc ρ args o->aX ρ h W ->
  ∃ bY W' v V h',(Go.builtin b ats ty j o.toArray).run P W=.ok (.value V) W'/\K v h'/\aK bY v V/\aX bY h' W'/\Ext ρ h W bY h' W'
theorem vr {ρ:bS} {z:List Value} {p:Value} {n:Nat} (C:p.cells.toList=z) (I:bc ρ z p.cells.toList):bc ρ (dZ z n) (Builtin.zeroCells p.cells n).toList:=by
 have j:z.length=p.cells.size:=by rw[<-C,Array.length_toList]
 refine bc.BK (by rw[xA,j];simp[Builtin.zeroCells]) fun i v e=>?_
 rw[Eh] at e
 split at e
 . rename_i q
   obtain⟨V,J,R⟩:=I.get _ _ e
   refine⟨V,?_,R⟩
   rw[j] at q J
   have o:i % p.cells.size<p.cells.size:=Nat.mod_lt _ (by rcases Nat.eq_zero_or_pos p.cells.size with g | g
                                                          . rw[g] at q;omega
                                                          . exact g)
   rw[Array.getElem?_toList,Array.getElem?_eq_getElem o] at J
   cases J
   simp[Builtin.zeroCells,q,o]
 . cases e
theorem xH {b of cp:Nat} {r:RI} {ρ:bS} {h:H} {W:World} (o:aX ρ h W) (hr:ρ b=some r) (p:oh h (some ⟨b,of,none⟩) cp=some false) {l C:Nat} {A:Addr} (hs:lA r of l cp A C):C=cp:=by
 obtain⟨x,hx,I,J,j⟩:=C8 o hr p
 unfold lA at hs
 split at hs
 . rename_i q
   rw[decide_eq_true q] at j;cases j
 . exact hs.2
theorem MN (hE:bj P E) {ρ:bS} {h:H} {W:World} (hH:aX ρ h W) (ats:Array TypeId) (ty:TypeId) {s x S X:Value} (hs:aK ρ s S) (hx:aK ρ x X) {K:Value->H->Prop} (hr:rz E h ats.toList s x K) :
 ∃ bY W' v V h',(Builtin.append_ ats ty #[S,X]).run P W=.ok V W'/\K v h'/\aK bY v V/\aX bY h' W'/\Ext ρ h W bY h' W':=by
 obtain⟨st,O_,hr0⟩:=aD.1 hr
 clear hr
 rw[fD,Array.getElem?_toList] at O_
 obtain⟨u,hu,hr⟩:=aD.1 hr0
 clear hr0
 have hU:=hE.dk hu
 split at hr
 . rename_i elem base l cp
   obtain⟨sz,tH,hr⟩:=aD.1 hr
   obtain⟨zs,hzs,hr⟩:=aD.1 hr
   cases zs with
   | true=>exact hr.elim
   | false =>
    obtain⟨m,hm,hr⟩:=aD.1 (show af (lenOf x) _ from hr)
    obtain⟨new,hnw,hr⟩:=aD.1 hr
    obtain⟨cK,hold,hr⟩:=aD.1 hr
    obtain⟨o,ho,hr⟩:=aD.1 hr
    cases o with
    | true=>exact hr.elim
    | false =>
     have U:(bif Nat.ble (l+m) cp then False else tD E h elem sz l m cK new K):=hr
     rw[aP] at U
     by_cases I:l+m<=cp
     . simp only[I,decide_true,cond_true] at U
     . simp only[I,decide_false,cond_false] at U
       obtain⟨i,hi,IR⟩:=aD.1 U
       obtain⟨z,hz,Zm⟩:=aD.1 IR
       have Tg:(bif (Nat.ble ((l+m+64) * 4 * i.bytes) 70368744177664&&Nat.ble (l+m) 70368744177664&&Nat.beq (len z) sz) then ∀ G,l+m<=G->K (.slice (some ⟨h.next,0,none⟩) (l+m) G) (newRow h elem (cW (cW cK new) (dZ z (G-(l+m)))) 0) else False):=Zm
       cases p:(Nat.ble ((l+m+64) * 4 * i.bytes) 70368744177664&&Nat.ble (l+m) 70368744177664&&Nat.beq (len z) sz) with
       | false=>rw[p] at Tg;exact Tg.elim
       | true =>
        rw[p] at Tg
        have hK:∀ G,l+m<=G->K (.slice (some ⟨h.next,0,none⟩) (l+m) G) (newRow h elem (cW (cW cK new) (dZ z (G-(l+m)))) 0):=Tg
        simp only[ax,aP,br,Bool.and_eq_true,decide_eq_true_eq] at p
        obtain⟨⟨TY,h63⟩,hzl⟩:=p
        have VD:∀ t,ats[1]?=some t->∃ d,P.underlying t=some d/\ku d=false:=by
         intro t ht
         rw[fD,Array.getElem?_toList,ht] at hzs
         obtain⟨d,hd,hi⟩:=map_some hzs
         exact⟨d,hE.dk hd,hi⟩
        have hl:=zE (P:=P) hm hx W
        obtain⟨BB,CC,hS⟩:∃ B C,S=.slice B l C:=by
         rcases Ag (x:=.slice base l cp) (L:=l) rfl hs with ⟨B,C,e⟩ | ⟨s',e,_⟩
         . exact⟨B,C,e⟩
         . subst e;cases hs
        subst hS
        have hCC:CC=cp:=by
         cases hs with
         | snil=>rfl
         | slice b of _ _ A _ r Te hsr=>exact xH hH Te ho hsr
        subst hCC
        obtain⟨i',j,zv,vt,hj,YA,Vc,QR,Zl,Vd⟩:=hE.KK hz
        rw[hi] at vt;cases vt
        have YE:i.size=sz:=by
         obtain⟨i2,ZB,O6⟩:=bind_some tH
         rw[show E.types.get elem=some i from hi] at ZB;cases ZB;cases O6;rfl
        have PQ:aX ρ h W.drew:=hH.drew rfl
        obtain⟨OLD,hfo,PK,hlo⟩:=na (P:=P) PQ hs (L:=l) rfl (Nat.le_refl l) hold
        obtain⟨J,AdF,YF,hlen⟩:=na (P:=P) PQ hx hm (Nat.le_refl m) hnw
        have hzz:zv.cells.size=sz:=by rw[<-hzl,<-Zl,Array.length_toList]
        have hns:Builtin.nextslicecap (l+m) CC * j.bytes<=281474976710656:=by
         have h1:Builtin.nextslicecap (l+m) CC * j.bytes<=2 * (l+m) * j.bytes:=Nat.mul_le_mul_right _ (nextslicecap_le om)
         have h2:2 * (l+m) * j.bytes<=(l+m+64) * 4 * j.bytes:=Nat.mul_le_mul_right _ om
         rw[Vc] at *
         omega
        have hG:=grownCap_ge W (l+m) CC elem
        generalize hGG:grownCap W (l+m) CC elem=G at *
        have QT:Ext ρ h W ρ h W.drew:=Ext.drew rfl rfl rfl rfl
        have IQ:cW (cW cK new) (dZ z (G-(l+m)))=cK++new++dZ z (G-(l+m)):=by rw[dF,dF]
        have R:z.length=zv.cells.size:=by rw[<-Zl,Array.length_toList]
        have AdM:bc ρ (dZ z (G-(l+m))) (Builtin.zeroCells zv.cells (G-(l+m))).toList:=by
         refine bc.BK (by rw[xA,R];simp[Builtin.zeroCells]) fun i v e=>?_
         rw[Eh] at e
         split at e
         . rename_i q
           obtain⟨V,hV,IS⟩:=(Vd ρ).get _ _ e
           refine⟨V,?_,IS⟩
           rw[R] at q hV
           have AfP:i % zv.cells.size<zv.cells.size:=Nat.mod_lt _ (by rcases Nat.eq_zero_or_pos zv.cells.size with g | g;· rw[g] at q;omega
                                                                      . exact g)
           rw[Array.getElem?_toList,Array.getElem?_eq_getElem AfP] at hV
           cases hV
           simp[Builtin.zeroCells,q,AfP]
         . cases e
        have FP:bc ρ (cK++new++dZ z (G-(l+m))) (OLD++J++(Builtin.zeroCells zv.cells (G-(l+m))).toList):=(PK.append YF).append AdM
        obtain⟨k1,k2⟩:=rT (e:=elem) (osz:=0) (c:=cW (cW cK new) (dZ z (G-(l+m)))) (C:=OLD.toArray++J.toArray++Builtin.zeroCells zv.cells (G-(l+m))) (W':=W.drew.alloc (.cells (OLD.toArray++J.toArray++Builtin.zeroCells zv.cells (G-(l+m))) elem)) PQ (by rw[IQ,FP.length];simp;omega) (by
         intro i v e
         rw[IQ] at e
         obtain⟨V,hV,IS⟩:=FP.get i v e
         refine⟨V,?_,IS⟩
         rw[<-hV,<-Array.getElem?_toList];simp) (noF _) rfl rfl rfl rfl
        refine⟨_,_,_,_,_,zG O_ hU hj (YA.trans YE) QR VD rfl hl hfo AdF I h63 hns,hK G hG,?_,?_,QT.trans (by rw[hGG];exact k2)⟩
        . rw[hGG]
          refine .slice _ _ _ _ _ _ _ (bS.add_same _ _ _) ?_
          unfold lA
          rw[if_neg (fun q=>q.1 rfl)]
          exact⟨rfl,rfl⟩
        . rw[hGG];exact k1
 . exact hr.elim
theorem Pp {h:H} {ats:List TypeId} {s x:Value} {K:Value->H->Prop} (hr:rz E h ats s x K):∃ v h',K v h':=by
 obtain⟨st,U,I⟩:=aD.1 hr
 clear hr
 obtain⟨u,hu,hr⟩:=aD.1 I
 clear I
 split at hr
 . rename_i elem base l cp
   obtain⟨sz,tH,hr⟩:=aD.1 hr
   obtain⟨zs,hzs,hr⟩:=aD.1 hr
   cases zs with
   | true=>exact hr.elim
   | false =>
    obtain⟨m,hm,hr⟩:=aD.1 (show af (lenOf x) _ from hr)
    obtain⟨new,hnw,hr⟩:=aD.1 hr
    obtain⟨cK,hold,hr⟩:=aD.1 hr
    obtain⟨o,ho,hr⟩:=aD.1 hr
    cases o with
    | true=>exact hr.elim
    | false =>
     have p:(bif Nat.ble (l+m) cp then False else tD E h elem sz l m cK new K):=hr
     cases hb:Nat.ble (l+m) cp with
     | true=>rw[hb] at p;exact p.elim
     | false =>
      rw[hb] at p
      obtain⟨i,hi,J⟩:=aD.1 (show tD E h elem sz l m cK new K from p)
      obtain⟨z,hz,R⟩:=aD.1 J
      have C:(bif (Nat.ble ((l+m+64) * 4 * i.bytes) 70368744177664&&Nat.ble (l+m) 70368744177664&&Nat.beq (len z) sz) then ∀ G,l+m<=G->K (.slice (some ⟨h.next,0,none⟩) (l+m) G) (newRow h elem (cW (cW cK new) (dZ z (G-(l+m)))) 0) else False):=R
      cases j:(Nat.ble ((l+m+64) * 4 * i.bytes) 70368744177664&&Nat.ble (l+m) 70368744177664&&Nat.beq (len z) sz) with
      | false=>rw[j] at C;exact C.elim
      | true =>
       rw[j] at C
       exact⟨_,_,C (l+m) nlr⟩
 . exact hr.elim
theorem Rn (p:bj P E) {h:H} {ats:Array TypeId} {s x:Value} {K:Value->H->Prop} (hh:rz E h ats.toList s x K):Vr P h .append ats [s,x] K:=by
 refine⟨Pp hh,fun ρ W ty j U C I=>?_⟩
 cases C with
 | cons _ S _ L1 hs hl =>
  cases hl with
  | cons _ X _ L2 hx o =>
   cases o
   obtain⟨bY,W',v,V,h',J,R,k⟩:=MN (P:=P) p I ats ty hs hx hh
   exact⟨bY,W',v,V,h',eU J,R,k⟩
theorem Pq {b:Bool} {x y:Prop} (h:bif b then x else y):(b=true/\x)\/(b=false/\y):=by
 cases b with
 | true=>exact .inl ⟨rfl,h⟩
 | false=>exact .inr ⟨rfl,h⟩
theorem Y0 (hE:bj P E) {h:H} {ats:Array TypeId} {s:Value} {K:Value->H->Prop} (hh:T5 E h ats.toList s K):Vr P h .cap ats [s] K:=by
 obtain⟨st,j,R⟩:=aD.1 hh
 clear hh
 rw[fD,Array.getElem?_toList] at j
 obtain⟨u,hu,h2⟩:=aD.1 R
 clear R
 have hU:=hE.dk hu
 split at h2
 . rename_i elem base l c
   obtain⟨o,ho,h3⟩:=aD.1 h2
   rcases Pq h3 with ⟨_,q⟩ | ⟨eo,k⟩
   . exact q.elim
   subst eo
   refine⟨⟨_,_,k⟩,fun ρ W ty I XS hX U=>?_⟩
   cases hX with
   | cons _ S _ L1 hs hl =>
    cases hl
    have p:∃ B,S=.slice B l c:=by
     cases hs with
     | snil=>exact⟨_,rfl⟩
     | slice b of _ _ A C r J hsr=>rw[xH U J ho hsr];exact⟨_,rfl⟩
    obtain⟨B,rfl⟩:=p
    refine⟨ρ,W,_,.int .i64 c,h,?_,k,.int _ _,U,Ext.refl _ _ _⟩
    refine eU (s:=Builtin.cap_ ats ty #[.slice B l c]) ?_
    simp[Builtin.cap_,j,aB hU,goInt]
 . exact h2.elim
theorem Ro (hE:bj P E) {h:H} {ats:Array TypeId} {s:Value} {K:Value->H->Prop} (hh:YX E h ats.toList s K):Vr P h .clear ats [s] K:=by
 obtain⟨st,p,h1⟩:=aD.1 hh
 clear hh
 rw[fD,Array.getElem?_toList] at p
 obtain⟨u,hu,h2⟩:=aD.1 h1
 clear h1
 have hU:=hE.dk hu
 split at h2
 . refine⟨⟨_,_,h2⟩,fun ρ W ty o XS J R=>?_⟩
   cases J with
   | cons _ S _ L1 hs hl =>
    cases hl
    cases hs
    refine⟨ρ,W,_,undef,h,?_,h2,aK.undef ρ,R,Ext.refl _ _ _⟩
    refine eU (s:=Builtin.clear_ ats ty _) ?_
    simp[Builtin.clear_,p,aB hU];rfl
 . rename_i elem a n c
   rcases Pq h2 with ⟨I,k⟩ | ⟨I,h3⟩
   . rw[ax,decide_eq_true_eq] at I
     subst I
     refine⟨⟨_,_,k⟩,fun ρ W ty o XS J R=>?_⟩
     cases J with
     | cons _ S _ L1 hs hl =>
      cases hl
      cases hs with
      | slice b of _ _ A C r U hsr =>
       refine⟨ρ,W,_,undef,h,?_,k,aK.undef ρ,R,Ext.refl _ _ _⟩
       refine eU (s:=Builtin.clear_ ats ty _) ?_
       simp[Builtin.clear_,p,aB hU];rfl
   . rw[ax,decide_eq_false_iff_not] at I
     obtain⟨z,hz,h4⟩:=aD.1 h3
     obtain⟨h',RM,k⟩:=aD.1 h4
     refine⟨⟨_,_,k⟩,fun ρ W ty o XS J R=>?_⟩
     cases J with
     | cons _ S _ L1 hs hl =>
      cases hl
      cases hs with
      | slice b of _ _ A C r U hsr =>
       obtain⟨i',j,zv,vt,hj,YA,Vc,QR,Zl,Vd⟩:=hE.KK hz
       have hA:=hsr.addr (.inl I)
       subst hA
       have AdM:=vr (n:=n) Zl (Vd ρ)
       obtain⟨W',k1,k2,k3⟩:=R.store (P:=P) U RM AdM
       refine⟨ρ,W',_,undef,h',?_,k,aK.undef ρ,k2,k3⟩
       refine eU (s:=Builtin.clear_ ats ty _) ?_
       have im:n≠0:=I
       cases n with
       | zero=>exact absurd rfl im
       | succ n =>
        simp[Builtin.clear_,p,aB hU,zeroValue,typeInfo,hj,QR,k1];rfl
 . exact h2.elim
theorem JK {zero:Array Value} {n:Nat} (h:n * zero.size=0):Builtin.zeroCells zero n=#[]:=by
 unfold Builtin.zeroCells;rw[h];simp
theorem FV {W:World} {ats:Array TypeId} {ty st xt elem:TypeId} {S:Value} {sz l m C:Nat} {B:Option Addr} {OLD:List Value} {j:TypeInfo} {z:Value} {k k':IntKind} (I:ats[0]?=some st) (hU:P.underlying st=some (.slice elem)) (hx:ats[1]?=some xt) (J:P.underlying xt=some (.int k))
 (hj:P.info? elem=some j) (R:j.size=sz) (hz:j.zero=some z) (U:z.cells.size=sz)
 (hS:S=.slice B l C) (ho:(Builtin.firstCells sz l S).run P W.drew=.ok OLD.toArray W.drew) (o:¬ l+m<=C) (hw:IntKind.i64.wrap ((m:Nat):Int)=m) (hb:((m:Nat):Int) * (j.bytes:Int)<=281474976710656)
 (h63:l+m<=70368744177664) (TY:Builtin.nextslicecap (l+m) C * j.bytes<=281474976710656) :
 (Builtin.append_ ats ty #[S,.int k' m]).run P W=.ok (.slice (some ⟨W.heap.size,0,none⟩) (l+m) (grownCap W (l+m) C elem)) (W.drew.alloc (.cells (OLD.toArray++Builtin.zeroCells z.cells m++Builtin.zeroCells z.cells (grownCap W (l+m) C elem-(l+m))) elem)):=by
 subst hS
 subst R
 have n1:¬ (9223372036854775807<((l:Int)+(m:Int))):=om
 have n2:¬ (281474976710656<Builtin.nextslicecap (l+m) C * j.bytes):=om
 have n3:¬ (281474976710656<((m:Nat):Int) * (j.bytes:Int)):=om
 have n4:¬ (((m:Nat):Int)<0):=om
 by_cases p:m * j.size=0
 . have e0:=JK (zero:=z.cells) (n:=m) (by rw[U];exact p)
   rw[e0]
   simp[Builtin.append_,I,hx,aB hU,aB J,sizeOf,typeInfo,zeroValue,hj,hz,ho,o,n1,n2,n3,n4,hw,p,asInt,asIntOf,Question.forced,Go.newRow,grownCap]
 . simp[Builtin.append_,I,hx,aB hU,aB J,sizeOf,typeInfo,zeroValue,hj,hz,ho,o,n1,n2,n3,n4,hw,p,asInt,asIntOf,Question.forced,Go.newRow,grownCap]
theorem Rq {h:H} {elem:TypeId} {sz l m:Nat} {cK new:List Value} {K:Value->H->Prop} (hh:tD E h elem sz l m cK new K):∃ i z,E.dO elem=some i/\E.cz elem=some z/\(l+m+64) * 4 * i.bytes<=70368744177664/\l+m<=70368744177664/\z.length=sz ∧
 ∀ G,l+m<=G->K (.slice (some ⟨h.next,0,none⟩) (l+m) G) (newRow h elem (cW (cW cK new) (dZ z (G-(l+m)))) 0):=by
 obtain⟨i,hi,j⟩:=aD.1 hh
 obtain⟨z,hz,h2⟩:=aD.1 j
 rcases Pq h2 with ⟨hc,k⟩ | ⟨_,q⟩
 . simp only[ax,aP,br,Bool.and_eq_true,decide_eq_true_eq] at hc
   exact⟨i,z,hi,hz,hc.1.1,hc.1.2,hc.2,k⟩
 . exact q.elim
theorem Pr (hE:bj P E) {h:H} {ats:Array TypeId} {s x:Value} {K:Value->H->Prop} (hh:Tj E h ats.toList s x K):Vr P h .append ats [s,x] K:=by
 obtain⟨st,R,h1⟩:=aD.1 hh
 obtain⟨u,hu,h2⟩:=aD.1 h1
 obtain⟨xt,U,h3⟩:=aD.1 h2
 obtain⟨ux,hux,h4⟩:=aD.1 h3
 clear hh h1 h2 h3
 rw[fD,Array.getElem?_toList] at R U
 have hU:=hE.dk hu
 have hUx:=hE.dk hux
 split at h4
 . rename_i elem base l c k k' m
   obtain⟨sz,tH,h5⟩:=aD.1 h4
   obtain⟨z,hz,h6⟩:=aD.1 h5
   obtain⟨cK,hold,h7⟩:=aD.1 h6
   obtain⟨o,ho,h8⟩:=aD.1 h7
   rcases Pq h8 with ⟨_,q⟩ | ⟨eo,h9⟩
   . exact q.elim
   subst eo
   rcases Pq h9 with ⟨_,q⟩ | ⟨er,Lh⟩
   . exact q.elim
   rw[aP,decide_eq_false_iff_not] at er
   obtain⟨i,z2,hi,hz2,TY,h63,hzl,hK⟩:=Rq Lh
   rw[hz] at hz2;cases hz2
   refine⟨⟨_,_,hK _ nlr⟩,fun ρ W ty YG XS hX hH=>?_⟩
   cases hX with
   | cons _ S _ L1 hs hl =>
    cases hl with
    | cons _ X _ L2 hx PL =>
     cases PL
     obtain⟨BB,CC,hS⟩:∃ B C,S=.slice B l C:=by
      rcases Ag (x:=.slice base l c) (L:=l) rfl hs with ⟨B,C,e⟩ | ⟨s',e,_⟩
      . exact⟨B,C,e⟩
      . subst e;cases hs
     subst hS
     have hCC:CC=c:=by
      cases hs with
      | snil=>rfl
      | slice b of _ _ A _ r Te hsr=>exact xH hH Te ho hsr
     subst hCC
     have hX:X=.int k' (.ofNat m):=by cases hx;rfl
     subst hX
     obtain⟨i',j,I,vt,hj,YA,Vc,QR,J,Vd⟩:=hE.KK hz
     rw[hi] at vt;cases vt
     have YE:i.size=sz:=by
      obtain⟨i2,ZB,O6⟩:=bind_some tH
      rw[show E.types.get elem=some i from hi] at ZB;cases ZB;cases O6;rfl
     have PQ:aX ρ h W.drew:=hH.drew rfl
     obtain⟨OLD,hfo,PK,hlo⟩:=na (P:=P) PQ hs (L:=l) rfl (Nat.le_refl l) hold
     have hzz:I.cells.size=sz:=by rw[<-hzl,<-J,Array.length_toList]
     have hns:Builtin.nextslicecap (l+m) CC * j.bytes<=281474976710656:=by
      have h1:Builtin.nextslicecap (l+m) CC * j.bytes<=2 * (l+m) * j.bytes:=Nat.mul_le_mul_right _ (nextslicecap_le om)
      have h2:2 * (l+m) * j.bytes<=(l+m+64) * 4 * j.bytes:=Nat.mul_le_mul_right _ om
      rw[Vc] at *
      omega
     have hmb:((m:Nat):Int) * (j.bytes:Int)<=281474976710656:=by
      have h1:m * j.bytes<=(l+m+64) * 4 * j.bytes:=Nat.mul_le_mul_right _ om
      have:m * j.bytes<=281474976710656:=by rw[Vc] at *;omega
      have e:=Int.ofNat_le.2 this
      rw[<-Int.natCast_mul];exact e
     have hwr:IntKind.i64.wrap ((m:Nat):Int)=m:=by
      have:m<=70368744177664:=om
      have h2:((m:Nat):Int) % 2 ^ 64=m:=Int.emod_eq_of_lt om om
      have h3:¬ ((m:Nat):Int) ≥ 2 ^ 63:=om
      simp[IntKind.wrap,IntKind.bits,IntKind.signed,h2]
      omega
     have hG:=grownCap_ge W (l+m) CC elem
     have QP:=FV (W:=W) (ats:=ats) (ty:=ty) (k':=k') (m:=m) R hU U hUx hj (YA.trans YE) QR hzz rfl hfo er hwr hmb h63 hns
     generalize grownCap W (l+m) CC elem=G at *
     have QT:Ext ρ h W ρ h W.drew:=Ext.drew rfl rfl rfl rfl
     have IQ:cW (cW cK (dZ z m)) (dZ z (G-(l+m)))=cK++dZ z m++dZ z (G-(l+m)):=by rw[dF,dF]
     have p:bc ρ (cK++dZ z m++dZ z (G-(l+m))) (OLD++(Builtin.zeroCells I.cells m).toList++(Builtin.zeroCells I.cells (G-(l+m))).toList):=(PK.append (vr J (Vd ρ))).append (vr J (Vd ρ))
     obtain⟨k1,k2⟩:=rT (e:=elem) (osz:=0) (c:=cW (cW cK (dZ z m)) (dZ z (G-(l+m)))) (C:=OLD.toArray++Builtin.zeroCells I.cells m++Builtin.zeroCells I.cells (G-(l+m))) (W':=W.drew.alloc (.cells (OLD.toArray++Builtin.zeroCells I.cells m++Builtin.zeroCells I.cells (G-(l+m))) elem)) PQ (by rw[IQ,p.length];simp) (by
      intro i v e
      rw[IQ] at e
      obtain⟨V,hV,IS⟩:=p.get i v e
      refine⟨V,?_,IS⟩
      rw[<-hV,<-Array.getElem?_toList];simp) (noF _) rfl rfl rfl rfl
     refine⟨_,_,_,_,_,eU QP,hK G hG,?_,k1,QT.trans k2⟩
     refine .slice _ _ _ _ _ _ _ (bS.add_same _ _ _) ?_
     unfold lA
     rw[if_neg (fun q=>q.1 rfl)]
     exact⟨rfl,rfl⟩
 . exact h4.elim
theorem Rr (j:bj P E) {h:H} {b:Builtin} {ats:Array TypeId} {args:List Value} {K:Value->H->Prop} (hh:AaZ P E h b ats args K):af (bq E h b ats args) (Fx K)\/Vr P h b ats args K:=by
 unfold AaZ at hh
 split at hh
 . rcases hh.w with hh | hh | hh
   . exact .inl hh
   . exact .inr (Rn j hh)
   . exact .inr (Pr j hh)
 . exact .inr (Y0 j hh)
 . exact .inr (Ro j hh)
 . exact .inl hh
def To (P:Program) (h:H) (ρ:Operand->Value) (c:Call) (K:Value->H->Prop):Prop:=∃ (b:Builtin) (args:Array Operand) (ats:Array TypeId),c=⟨.builtin b,args,ats⟩/\Vr P h b ats (lK ρ args.toList) K
theorem Ps (p:bj P E) {h:H} {ρ:Operand->Value} {c:Call} {K:Value->H->Prop} (o:∀ f,ρ (.func f)=.func (.func f) #[] #[]) (hh:YY P E h ρ c K):(∃ r,Ad E h ρ c=some r/\onR P h K r)\/To P h ρ c K:=by
 obtain⟨callee,args,ats⟩:=c
 cases callee with
 | value x =>
  cases x with
  | tmp t =>
   have j:AdJ P E (ρ (.tmp t)) (lK ρ args.toList) h K:=hh
   have j:=j.w
   unfold AfM at j
   split at j
   . rename_i g first captured e
     split at j
     . rename_i hx
       refine .inl ⟨.enter g (cW (cW first.toList (lK ρ args.toList)) captured.toList),?_,j⟩
       show (match ρ (.tmp t) with | .func fn first captured=>mK E h fn captured.toList (cW first.toList (lK ρ args.toList)) | _=>none)=_
       rw[e]
       show vm E h g _=_
       unfold vm;rw[hx]
     . exact j.elim
   . rename_i l first captured e
     obtain⟨⟨C,pd,f0,tm,ps,zQq,bd,d0,hl,hn⟩,hk⟩:=j
     refine .inl ⟨.round l (cW first.toList (lK ρ args.toList)),?_,hk⟩
     show (match ρ (.tmp t) with | .func fn first captured=>mK E h fn captured.toList (cW first.toList (lK ρ args.toList)) | _=>none)=_
     rw[e]
     show (match h.get l with | some (.loop _ _ _ _ ps _ _ _)=>bif Nat.beq (len (cW first.toList (lK ρ args.toList))) (len ps) then some (R.round l (cW first.toList (lK ρ args.toList))) else none | _=>none)=_
     rw[hl]
     simp only
     rw[ax,br,br,hn];simp
   . exact j.elim
  | const v=>exact hh.elim
  | global g=>exact hh.elim
  | func g =>
   have j:Option.rec (motive:=fun _=>Prop) (xR P g (lK ρ args.toList) h K) (fun _=>False) (h_ g E.xs):=hh
   cases hx:h_ g E.xs with
   | some k=>rw[hx] at j;exact j.elim
   | none =>
    rw[hx] at j
    refine .inl ⟨.enter g (lK ρ args.toList),?_,j⟩
    show (match ρ (.func g) with | .func fn first captured=>mK E h fn captured.toList (cW first.toList (lK ρ args.toList)) | _=>none)=_
    rw[o]
    show vm E h g (cW (cW [] (lK ρ args.toList)) [])=_
    rw[dF,dF]
    unfold vm;rw[hx];simp
 | invoke r m=>exact hh.elim
 | builtin b =>
  rcases Rr p (show AaZ P E h b ats (lK ρ args.toList) K from hh) with hh | hh
  . obtain⟨r,hr,hk⟩:=aD.1 hh
    refine .inl ⟨r,hr,?_⟩
    cases r with
    | val v h'=>exact hk
    | enter f args=>exact hk.elim
    | round l args=>exact hk.elim
  . exact .inr ⟨_,_,_,rfl,hh⟩
theorem Tp {o:Op} {h:H} {ρ:Operand->Value} {K:Value->H->Prop} (hn:∀ c,o≠.call c) (hh:opC P E o ρ h K):∃ v h',Kz o E h ρ=some (.val v h')/\K v h':=by
 cases o with
 | move x=>exact⟨_,_,rfl,hh⟩
 | assign x=>exact⟨_,_,rfl,hh⟩
 | pick c a b =>
  obtain⟨v,hv,hk⟩:=aD.1 (show af (Pl (ρ c) (ρ a) (ρ b)) _ from hh)
  obtain⟨t,ht,hv⟩:=bind_some hv
  cases hv
  exact⟨_,_,(bind_eq ht:xw E h ρ c a b=_),hk⟩
 | alloc e =>
  obtain⟨z,hz,hk⟩:=aD.1 (show af (E.cz e) _ from hh)
  exact⟨_,_,(bind_eq hz:CW E h ρ e=_),hk⟩
 | box e x =>
  obtain⟨z,hz,hk⟩:=aD.1 (show af (cells (ρ x)) _ from hh)
  exact⟨_,_,(bind_eq hz:Mq E h ρ e x=_),hk⟩
 | build t parts =>
  obtain⟨v,hv,hk⟩:=aD.1 (show af (bC E t _) _ from hh)
  refine⟨v,h,?_,hk⟩
  show qI E h ρ t parts=_
  unfold bC at hv
  unfold qI
  obtain⟨z,hz,hv⟩:=bind_some hv
  obtain⟨u,hu,hv⟩:=bind_some hv
  rw[bind_eq hz,bind_eq hu]
  split at hv
  . obtain⟨w,hw,hv⟩:=bind_some hv
    obtain⟨c,hc,hv⟩:=bind_some hv
    simp only
    rw[bind_eq hw,bind_eq hc];cases hv;rfl
  . obtain⟨w,hw,hv⟩:=bind_some hv
    obtain⟨c,hc,hv⟩:=bind_some hv
    simp only
    rw[bind_eq hw,bind_eq hc];cases hv;rfl
  . cases hv
 | buildSlice t n parts =>
  obtain⟨h',hv,hk⟩:=aD.1 (show af (dM E h t n _) _ from hh)
  refine⟨.slice (some ⟨h.next,0,none⟩) n n,h',?_,hk⟩
  show ma E h ρ t n parts=_
  unfold dM at hv
  unfold ma
  obtain⟨u,hu,hv⟩:=bind_some hv
  rw[bind_eq hu]
  split at hv
  . obtain⟨s,hs,hv⟩:=bind_some hv
    obtain⟨z,hz,hv⟩:=bind_some hv
    obtain⟨c,hc,hv⟩:=bind_some hv
    simp only
    rw[bind_eq hs,bind_eq hz,bind_eq hc]
    obtain⟨hb,hv⟩:=bx hv
    rw[hb];cases hv;rfl
  . cases hv
 | load t a =>
  obtain⟨v,hv,hk⟩:=aD.1 (show af (YV E h t _) _ from hh)
  refine⟨v,h,?_,hk⟩
  show Ab E h ρ t a=_
  obtain⟨A,I,hv⟩:=bind_some hv
  unfold Ab;rw[bind_eq I];exact ot hv
 | store t a x =>
  obtain⟨h',hv,hk⟩:=aD.1 (show af (YW E h t _ _) _ from hh)
  refine⟨undef,h',?_,hk⟩
  show zw E h ρ t a x=_
  obtain⟨A,I,hv⟩:=bind_some hv
  unfold zw;rw[bind_eq I,hv];rfl
 | nilCheck x =>
  obtain⟨v,hv,hk⟩:=aD.1 (show af (db _) _ from hh)
  refine⟨v,h,?_,hk⟩
  show eT E h ρ x=_
  unfold db at hv
  unfold eT
  split at hv <;> first | (cases hv;done) | (rename_i e;rw[e];cases hv;rfl)
 | binOp op t x y yt =>
  obtain⟨v,hv,hk⟩:=aD.1 (show af (binOp E op t _ _) _ from hh)
  exact⟨_,_,(ot hv:zz E h ρ op t x y=_),hk⟩
 | unOp op t x =>
  obtain⟨v,hv,hk⟩:=aD.1 (show af (unOp op _) _ from hh)
  exact⟨_,_,(ot hv:CX E h ρ op x=_),hk⟩
 | convert s d x =>
  obtain⟨v,hv,hk⟩:=aD.1 (show af (aT E h s d _) _ from hh)
  refine⟨v.1,v.2,?_,hk⟩
  show pn E h ρ s d x=_
  unfold aT at hv
  unfold pn
  obtain⟨us,J,hv⟩:=bind_some hv
  obtain⟨ud,R,hv⟩:=bind_some hv
  rw[bind_eq J,bind_eq R]
  split at hv
  . rename_i e;simp only[e];cases hv;rfl
  . rename_i e;simp only[e];cases hv;rfl
  . rename_i e;simp only[e]
    obtain⟨ue,C,hv⟩:=bind_some hv
    rw[bind_eq C]
    split at hv
    . cases hv;rfl
    . cases hv
  . rename_i e;simp only[e]
    split at hv
    . obtain⟨ue,C,hv⟩:=bind_some hv
      simp only
      rw[bind_eq C]
      split at hv
      . obtain⟨cs,U,hv⟩:=bind_some hv
        obtain⟨bs,ZA,hv⟩:=bind_some hv
        rw[bind_eq U,bind_eq ZA];cases hv;rfl
      . cases hv
    . cases hv
  . rename_i e;simp only[e]
    obtain⟨w,hw,hv⟩:=bind_some hv
    cases hv
    exact ot hw
  . rename_i e;simp only[e]
    obtain⟨w,hw,hv⟩:=bind_some hv
    cases hv
    exact ot hw
  . cases hv
 | makeInterface t x =>
  obtain⟨v,hv,hk⟩:=aD.1 (show af (tC E t _) _ from hh)
  refine⟨v,h,?_,hk⟩
  show dB E h ρ t x=_
  unfold tC at hv
  unfold dB
  obtain⟨u,hu,hv⟩:=bind_some hv
  rw[bind_eq hu]
  cases u <;> first | (cases hv;done) | (cases hv;rfl)
 | makeFunc fn first captured =>
  obtain⟨v,hv,hk⟩:=aD.1 (show af (Pm fn _ _) _ from hh)
  refine⟨v,h,?_,hk⟩
  show jc E h ρ fn first captured=_
  obtain⟨hb,hv⟩:=bx hv
  unfold jc;rw[hb];cases hv;rfl
 | makeSlice t l c =>
  obtain⟨v,hv,hk⟩:=aD.1 (show af (vU E h t _ _) _ from hh)
  refine⟨v.1,v.2,?_,hk⟩
  show oi E h ρ t l c=_
  unfold vU at hv
  unfold oi
  obtain⟨u,hu,hv⟩:=bind_some hv
  rw[bind_eq hu]
  split at hv
  . rename_i j p
    simp only[j,p]
    obtain⟨i,hi,hv⟩:=bind_some hv
    obtain⟨z,hz,hv⟩:=bind_some hv
    rw[bind_eq hi,bind_eq hz]
    obtain⟨hb,hv⟩:=bx hv
    rw[hb];cases hv;rfl
  . cases hv
 | slice t x lo hi mx =>
  obtain⟨v,hv,hk⟩:=aD.1 (show af (aO E h t _ _ _ _) _ from hh)
  exact⟨_,_,(ot hv:zA E h ρ t x lo hi mx=_),hk⟩
 | fieldAddr s x f =>
  obtain⟨v,hv,hk⟩:=aD.1 (show af (Ep E s _ f) _ from hh)
  refine⟨v,h,?_,hk⟩
  show gP E h ρ s x f=_
  unfold Ep at hv
  unfold gP
  obtain⟨u,hu,hv⟩:=bind_some hv
  rw[bind_eq hu]
  split at hv
  . obtain⟨fd,hf,hv⟩:=bind_some hv
    obtain⟨A,I,hv⟩:=bind_some hv
    obtain⟨sz,hs,hv⟩:=bind_some hv
    simp only
    rw[bind_eq hf,bind_eq I,bind_eq hs]
    cases hb:Nat.beq sz 0 with
    | true=>rw[hb] at hv;cases hv
    | false=>rw[hb] at hv;cases hv;rfl
  . cases hv
 | field t x f =>
  obtain⟨v,hv,hk⟩:=aD.1 (show af (Er E t _ f) _ from hh)
  refine⟨v,h,?_,hk⟩
  show qJ E h ρ t x f=_
  unfold Er at hv
  unfold qJ
  obtain⟨u,hu,hv⟩:=bind_some hv
  rw[bind_eq hu]
  split at hv
  . obtain⟨fd,hf,hv⟩:=bind_some hv
    unfold AdK at hv
    split at hv
    . rename_i e
      simp only[e]
      rw[bind_eq hf];exact ot hv
    . cases hv
  . cases hv
 | indexAddr t x ix =>
  obtain⟨v,hv,hk⟩:=aD.1 (show af (Es E t _ _) _ from hh)
  refine⟨v,h,?_,hk⟩
  show gQ E h ρ t x ix=_
  unfold Es at hv
  unfold gQ
  obtain⟨u,hu,hv⟩:=bind_some hv
  rw[bind_eq hu]
  split at hv
  . obtain⟨sz,hs,hv⟩:=bind_some hv
    unfold ixP at hv
    split at hv
    . rename_i j p
      simp only[j,p]
      rw[bind_eq hs]
      obtain⟨hb,hv⟩:=bx hv
      rw[hb];cases hv;rfl
    . cases hv
  . obtain⟨sz,hs,hv⟩:=bind_some hv
    unfold AB at hv
    split at hv
    . rename_i j p
      simp only[j,p]
      rw[bind_eq hs]
      obtain⟨hb,hv⟩:=bx hv
      rw[hb];cases hv;rfl
    . cases hv
  . cases hv
 | index t x ix =>
  obtain⟨v,hv,hk⟩:=aD.1 (show af (Et E t _ _) _ from hh)
  refine⟨v,h,?_,hk⟩
  show qK E h ρ t x ix=_
  unfold Et at hv
  unfold qK
  obtain⟨u,hu,hv⟩:=bind_some hv
  rw[bind_eq hu]
  split at hv
  . obtain⟨sz,hs,hv⟩:=bind_some hv
    unfold Ua at hv
    split at hv
    . rename_i j p
      simp only[j,p]
      rw[bind_eq hs]
      obtain⟨hb,hv⟩:=bx hv
      rw[hb];exact ot hv
    . cases hv
  . unfold MV at hv
    split at hv
    . rename_i j p
      simp only[j,p]
      obtain⟨b,hb,hv⟩:=bind_some hv
      rw[bind_eq hb];cases hv;rfl
    . cases hv
  . cases hv
 | extract t ix =>
  obtain⟨v,hv,hk⟩:=aD.1 (show af (dl _ ix) _ from hh)
  refine⟨v,h,?_,hk⟩
  show fV E h ρ t ix=_
  unfold dl at hv
  unfold fV
  split at hv
  . rename_i e;rw[e];exact ot hv
  . cases hv
 | call c=>exact absurd rfl (hn c)
 | range t x =>
  obtain⟨r,hr,hk⟩:=aD.1 (show af (BC E h t (ρ x)) _ from hh)
  exact⟨r.1,r.2,by show (BC E h t (ρ x)).map _=_;rw[hr];rfl,hk⟩
 | next x s =>
  obtain⟨r,hr,hk⟩:=aD.1 (show af (EU h (ρ x) s) _ from hh)
  exact⟨r.1,r.2,by show (EU h (ρ x) s).map _=_;rw[hr];rfl,hk⟩
 | _=>exact hh.elim
theorem Vs (p:bj P E) {o:Op} {h:H} {ρ:Operand->Value} {K:Value->H->Prop} (j:∀ f,ρ (.func f)=.func (.func f) #[] #[]) (hh:opC P E o ρ h K):(∃ r,Kz o E h ρ=some r/\onR P h K r)\/∃ c,o=.call c/\To P h ρ c K:=by
 by_cases hc:∃ c,o=.call c
 . obtain⟨c,rfl⟩:=hc
   rcases Ps p j (show YY P E h ρ c K from hh) with k | k
   . exact .inl k
   . exact .inr ⟨c,rfl,k⟩
 . obtain⟨v,h',C,h2⟩:=Tp (fun c e=>hc ⟨c,e⟩) hh
   exact .inl ⟨.val v h',C,h2⟩
theorem Vt {o:Op} {h:H} {ρ:Operand->Value} {v:Value} (hh:opL E o ρ h=some v):(Kz o E h ρ).bind dw=some v:=by
 by_cases hc:∃ c,o=.call c
 . obtain⟨c,rfl⟩:=hc
   obtain⟨callee,args,ats⟩:=c
   cases callee with
   | builtin b=>exact hh
   | value _=>cases hh
   | invoke _ _=>cases hh
 . have key:opC default E o ρ h fun v' _=>v'=v:=by
    cases o <;> first | (exact absurd ⟨_,rfl⟩ hc) | (cases hh;done) | exact Option.some.inj hh | exact aD.2 ⟨_,hh,rfl⟩ | skip
    obtain⟨r,hr,hv⟩:=bind_some (show (aT E h _ _ _).bind _=some v from hh)
    exact aD.2 ⟨r,hr,Option.some.inj hv⟩
   obtain⟨v',h',j,rfl⟩:=Tp (fun c e=>hc ⟨c,e⟩) key
   rw[j];rfl
theorem B.Aa1 {b:B} {n:Nat} (h:Sz b n):∀ k,k<n->b.set k (b.get k)=b:=by
 induction h with
 | nil=>intro k hk;omega
 | leaf u =>
  intro k hk
  have:k=0:=om
  subst this;rfl
 | node l r n h hl hr j o =>
  intro k hk
  rw[B.H9,B.qL]
  split
  . rw[j _ om]
  . rw[o _ om]
theorem Sz.Dk {b:B} {n:Nat} (h:Sz b n) {k:Nat} {v:Value} (hk:b.get k=v) (hv:v≠undef):b.set k v=b:=by
 rcases Nat.lt_or_ge k n with g | g
 . rw[<-hk];exact B.Aa1 h k g
 . rw[h.Td k g] at hk;exact absurd hk.symm hv
theorem Sz.Aht {b:B} {n:Nat} (h:Sz b n):∀ m,Sz b m->n=m:=by
 induction h with
 | nil=>intro m hm;cases hm;rfl
 | leaf u=>intro m hm;cases hm;rfl
 | node l r n h hl hr p C =>
  intro m hm
  cases hm with
  | node _ _ _ h' j o =>
   have:=p _ j
   have:=C _ o
   omega
theorem xI {ops:Array Oper} {o:Oper} {J:List Nat} {t:B} {n:Nat} {go skip:B->Prop} (I:Sz t n) (hh:Eu ops.toList J t go skip o.guard):∃ b,cr ops t o=some b/\(b=true->go t)/\(b=false->skip t):=by
 unfold Eu at hh
 unfold cr
 cases R:o.guard with
 | none=>rw[R] at hh;exact⟨true,rfl,fun _=>hh,fun q=>by cases q⟩
 | some U =>
  obtain⟨j,C⟩:=U
  rw[R] at hh
  simp only at hh ⊢
  cases hd:(gN ops.toList j).bind (·.dst) with
  | none=>rw[hd] at hh;exact⟨false,rfl,(fun q=>by cases q),fun _=>hh⟩
  | some d =>
   rw[hd] at hh
   simp only at hh ⊢
   cases hs:A0 j J with
   | true =>
    rw[hs] at hh
    have p:AdL (t.get d) (skip t):=hh
    unfold AdL at p
    split at p
    . rename_i vs e
      exact⟨false,by rw[e];rfl,(fun q=>by cases q),fun _=>p⟩
    . exact p.elim
   | false =>
    rw[hs] at hh
    have p:aH (t.get d) C (go (t.set d (.bool C))) (skip (t.set d (.bool (!C)))):=hh
    unfold aH at p
    split at p
    . rename_i b e
      rw[e]
      have im:∀ q:Bool,Value.bool q≠undef:=fun q hq=>by cases hq
      cases C <;> cases b
      . rw[I.Dk e (im _)] at p;exact⟨true,rfl,fun _=>p,fun q=>by cases q⟩
      . rw[show (t.set d (Value.bool (!false)))=t from I.Dk e (im _)] at p;exact⟨false,rfl,(fun q=>by cases q),fun _=>p⟩
      . rw[show (t.set d (Value.bool (!true)))=t from I.Dk e (im _)] at p;exact⟨false,rfl,(fun q=>by cases q),fun _=>p⟩
      . rw[I.Dk e (im _)] at p;exact⟨true,rfl,fun _=>p,fun q=>by cases q⟩
    . exact p.elim
def mN (N base:Nat) (ρ:bS) (h:H) (W:World) (K:gj):Exit->Act->World->Prop :=
 fun p j W'=>∃ e o h',K e o h'/\p=El e/\j.tmps.size=N/\∃ bY,gr bY o j.tmps/\aX bY h' W'/\Ext ρ h W bY h' W'/\Marks base bY h' W' j.defers
def Ax (P:Program) (top:Bool) (N:Nat) (c:Code) (t:B) (h:H) (K:gj):Prop :=
 ∀ (j:Option Nat) (base:Nat) (ρ:bS) (a:Act) (W:World),(top=true->j=none)->base<=W.heap.size->gr ρ t a.tmps->aX ρ h W->a.tmps.size=N->Marks base ρ h W a.defers->Iu j P (entry c) (mN N base ρ h W K) a W
theorem Pu (a:Act) (d:Option Tmp) (V:Value):(a.put d V).tmps.size=a.tmps.size:=by
 cases d with
 | none=>rfl
 | some d=>show (a.tmps.setIfInBounds d V).size=_;simp
theorem Aa2 {h:H} {K:Value->H->Prop} {r:R} (hk:onR P h K r):Iw P r h K:=by
 cases r with
 | val v h'=>exact .inl ⟨v,h',rfl,hk⟩
 | enter f args=>exact .inr (.inl ⟨f,args,rfl,hk.w⟩)
 | round l args=>exact .inr (.inr ⟨l,args,rfl,hk.w⟩)
theorem BT (J:bj P E) {o:Oper} {t:B} {h:H} {K:Value->H->Prop} (hh:opC P E o.op (ev t) h K):zJ P o t h K:=by
 rcases Vs J (fun f=>rfl) hh with ⟨r,hr,hk⟩ | ⟨c,I,b,args,ats,hc,hb⟩
 . exact .of J hr (Aa2 hk)
 . subst hc
   refine⟨hb.1,fun U ρ a W Kx Q hT hH hK=>?_⟩
   have j:=C6 (ρ:=ρ) (a:=ev t) (c:=a.eval) args.toList (fun x hx=>hT x (by rw[I];simpa [Op.operands,Call.operands] using hx))
   obtain⟨bY,W',v,V,h',R,kk,k1,k2,k3⟩:=hb.2 ρ W o.type (args.map fun | .const _=>true | _=>false) _ j hH
   have p:o.semAt (FW U).round a.eval=execOp a.eval o:=Oper.semAt_eq _ _ _ (fun c q=>by rw[I] at q;cases q)
   have he:(args.toList.map a.eval).toArray=args.map a.eval:=Array.ext' sm
   rw[he] at R
   have C:(execOp a.eval o).run P W=.ok (.value V) W':=by
    simp only[execOp,I,resolve,Sem.run_bind,Sem.run_pure,Result.andThen_ok,Go.invoke]
    exact R
   refine⟨fun _ _=>trivial,?_⟩
   rw[p,C]
   exact hK _ _ _ _ _ kk k1 k2 k3
theorem Rs (hE:bj P E) {rr:Option Nat} {ops:Array Oper} {K:B->H->Prop} {N base:Nat} {Dp:bS} {h0:H} {W0:World}:∀ (rest:List Oper) (i:Nat) (I:List Nat) (t:B) (h:H) (ρ:bS) (a:Act) (W:World),Rk P E ops.toList K rest i I t h ->
 gr ρ t a.tmps->aX ρ h W->Ext Dp h0 W0 ρ h W->Marks base ρ h W a.defers->a.tmps.size=N->wpListIn (FW rr) 0 P ops (mN N base Dp h0 W0 fun e t h=>IF e (K t h) (fun _=>False) (fun _=>False) False) rest a W:=by
 intro rest
 induction rest with
 | nil =>
  intro i I t h ρ a W hh p J R U hn
  exact⟨.normal,t,h,hh,rfl,hn,ρ,p,J,R,U⟩
 | cons o rest ih =>
  intro i I t h ρ a W hh p J R U hn
  have Rt:Eu ops.toList I t (fun t=>opC P E o.op (ev t) h fun v h'=>Rk P E ops.toList K rest (Nat.add i 1) I (nr t o.dst v) h') (fun t=>Rk P E ops.toList K rest (Nat.add i 1) (i :: I) (nr t o.dst undef) h) o.guard:=hh
  obtain⟨b,hg,YI,C⟩:=xI (o:=o) p.1 Rt
  have j:=zH p ops o hg
  unfold wpListIn
  cases b with
  | false =>
   rw[if_neg (by rw[j];simp)]
   obtain⟨p1,p2⟩:=Gj p o.dst (aK.undef ρ)
   exact⟨fun _ _=>trivial,ih _ _ _ _ ρ _ W (C rfl) p1 J R (by rw[p2];exact U) ((Pu _ _ _).trans hn)⟩
  | true =>
   rw[if_pos j]
   refine (BT hE (YI rfl)).2 rr ρ a W _ _ (fun x _=>Ir p x) J fun v h' bY V W' hk k1 k2 k3=>?_
   obtain⟨p1,p2⟩:=Gj (p.mono k3.le) o.dst k1
   exact ih _ _ _ _ bY _ W' hk p1 k2 (R.trans k3) (by rw[p2];exact U.ext k3) ((Pu _ _ _).trans hn)
end Go.X
namespace Go.X
open Go
variable {P:Program} {E:Env}
theorem pp (x:Option Value) (h:H):(lit x h).bind dw=x:=by cases x <;> rfl
theorem Pv (h:H) (ρ:Operand->Value) (c a b:Operand):(xw E h ρ c a b).bind dw=Pl (ρ c) (ρ a) (ρ b):=by
 unfold xw Pl;cases Yg (ρ c) <;> rfl
theorem KT (h:H) (ρ:Operand->Value) (t:TypeId) (parts:Array (Nat × Operand)):(qI E h ρ t parts).bind dw=bC E t (FN ρ parts.toList):=by
 unfold qI bC
 cases E.cz t with
 | none=>rfl
 | some z=>cases E.under t with
  | none=>rfl
  | some u =>
   cases u <;> try rfl
   . rename_i n e
     show ((E.size e).bind _).bind _=(E.size e).bind _
     cases E.size e with
     | none=>rfl
     | some s =>
      show ((xS s z _).bind _).bind _=(xS s z _).bind _
      cases xS s z (FN ρ parts.toList) <;> rfl
   . rename_i fields
     show ((Ed E fields.toList).bind _).bind _=(Ed E fields.toList).bind _
     cases Ed E fields.toList with
     | none=>rfl
     | some _ =>
      show ((HZ E fields z _).bind _).bind _=(HZ E fields z _).bind _
      cases HZ E fields z (FN ρ parts.toList) <;> rfl
theorem Tq (h:H) (ρ:Operand->Value) (x:Operand):(eT E h ρ x).bind dw=db (ρ x):=by
 unfold eT db
 generalize ρ x=v
 cases v <;> try rfl
 . rename_i a;cases a <;> rfl
 . rename_i f a c;cases f <;> rfl
theorem KU (h:H) (ρ:Operand->Value) (t:TypeId) (x:Operand):(dB E h ρ t x).bind dw=tC E t (ρ x):=by
 unfold dB tC
 cases E.under t with
 | none=>rfl
 | some u=>cases u <;> rfl
theorem Pw (h:H) (ρ:Operand->Value) (fn:Fn) (a b:Array Operand):(jc E h ρ fn a b).bind dw=Pm fn (lK ρ a.toList) (lK ρ b.toList):=by
 unfold jc Pm;cases Mr fn <;> rfl
theorem IG (h:H) (ρ:Operand->Value) (s:TypeId) (x:Operand) (f:Nat):(gP E h ρ s x f).bind dw=Ep E s (ρ x) f:=by
 unfold gP Ep
 cases E.under s with
 | none=>rfl
 | some u =>
  cases u <;> try rfl
  rename_i fields
  show ((gN fields.toList f).bind _).bind _=(gN fields.toList f).bind _
  cases gN fields.toList f with
  | none=>rfl
  | some fd =>
   show ((addrOf (ρ x)).bind _).bind _=(addrOf (ρ x)).bind _
   cases addrOf (ρ x) with
   | none=>rfl
   | some a =>
    show ((E.size fd.type).bind _).bind _=(E.size fd.type).bind _
    cases E.size fd.type with
    | none=>rfl
    | some sz =>
     show (bif Nat.beq sz 0 then none else some _).bind dw=bif Nat.beq sz 0 then none else some _
     cases Nat.beq sz 0 <;> rfl
theorem KV (h:H) (ρ:Operand->Value) (t:TypeId) (x:Operand) (f:Nat):(qJ E h ρ t x f).bind dw=Er E t (ρ x) f:=by
 unfold qJ Er
 cases E.under t with
 | none=>rfl
 | some u =>
  generalize ρ x=v
  cases u <;> try rfl
  rename_i fields
  cases v with
  | agg cs =>
   show ((gN fields.toList f).bind _).bind _=(gN fields.toList f).bind _
   cases gN fields.toList f with
   | none=>rfl
   | some fd=>exact pp _ h
  | _ =>
   show none=(gN fields.toList f).bind fun fd=>AdK E fd _
   cases gN fields.toList f <;> rfl
theorem iR {α β:Type} (x:Option α):(x.bind fun _=>(none:Option β))=none:=by cases x <;> rfl
theorem II (h:H) (ρ:Operand->Value) (t:TypeId) (x ix:Operand):(gQ E h ρ t x ix).bind dw=Es E t (ρ x) (ρ ix):=by
 unfold gQ Es
 cases E.under t with
 | none=>rfl
 | some u =>
  generalize ρ x=v
  generalize ρ ix=w
  cases u <;> try rfl
  . rename_i e
    show (match TypeDesc.slice e,v,w with
     | .array len e,.pointer (some a),.int _ (.ofNat i)=>(E.size e).bind fun s=>bif Nat.blt i len then some (R.val (.pointer (some (nE a (i * s)))) h) else none
     | .slice e,.slice (some a) len _,.int _ (.ofNat i)=>(E.size e).bind fun s=>bif Nat.blt i len then some (R.val (.pointer (some (nE a (i * s)))) h) else none
     | _,_,_=>none).bind dw=(E.size e).bind fun s=>AB s v w
    cases v <;> try exact (iR _).symm
    rename_i a n c
    cases a <;> try exact (iR _).symm
    cases w <;> try exact (iR _).symm
    rename_i k i
    cases i <;> try exact (iR _).symm
    rename_i a i
    show ((E.size e).bind _).bind _=(E.size e).bind _
    cases E.size e with
    | none=>rfl
    | some s=>show (bif Nat.blt i n then some _ else none).bind dw=bif Nat.blt i n then some _ else none
              cases Nat.blt i n <;> rfl
  . rename_i n e
    show (match TypeDesc.array n e,v,w with
     | .array len e,.pointer (some a),.int _ (.ofNat i)=>(E.size e).bind fun s=>bif Nat.blt i len then some (R.val (.pointer (some (nE a (i * s)))) h) else none
     | .slice e,.slice (some a) len _,.int _ (.ofNat i)=>(E.size e).bind fun s=>bif Nat.blt i len then some (R.val (.pointer (some (nE a (i * s)))) h) else none
     | _,_,_=>none).bind dw=(E.size e).bind fun s=>ixP n s v w
    cases v <;> try exact (iR _).symm
    rename_i a
    cases a <;> try exact (iR _).symm
    cases w <;> try exact (iR _).symm
    rename_i k i
    cases i <;> try exact (iR _).symm
    rename_i a i
    show ((E.size e).bind _).bind _=(E.size e).bind _
    cases E.size e with
    | none=>rfl
    | some s=>show (bif Nat.blt i n then some _ else none).bind dw=bif Nat.blt i n then some _ else none
              cases Nat.blt i n <;> rfl
theorem KW (h:H) (ρ:Operand->Value) (t:TypeId) (x ix:Operand):(qK E h ρ t x ix).bind dw=Et E t (ρ x) (ρ ix):=by
 unfold qK Et
 cases E.under t with
 | none=>rfl
 | some u =>
  generalize ρ x=v
  generalize ρ ix=w
  cases u <;> try rfl
  . cases v <;> try rfl
    cases w <;> try rfl
    rename_i s k i
    cases i <;> try rfl
    rename_i i
    show ((Mo s.data.toList i).bind _).bind _=(Mo s.data.toList i).bind _
    cases Mo s.data.toList i <;> rfl
  . rename_i n e
    show (match TypeDesc.array n e,v,w with
     | .array len e,.agg cs,.int _ (.ofNat i)=>(E.size e).bind fun s=>bif Nat.blt i len then lit (part E e cs.toList (i * s)) h else none
     | .string,.string s,.int _ (.ofNat i)=>(Mo s.data.toList i).bind fun b=>some (R.val (.int .u8 b.toNat) h)
     | _,_,_=>none).bind dw=(E.size e).bind fun s=>Ua E n s e v w
    cases v <;> try exact (iR _).symm
    cases w <;> try exact (iR _).symm
    rename_i cs k i
    cases i <;> try exact (iR _).symm
    rename_i i
    show ((E.size e).bind _).bind _=(E.size e).bind _
    cases E.size e with
    | none=>rfl
    | some s=>show (bif Nat.blt i n then lit _ h else none).bind dw=bif Nat.blt i n then _ else none
              cases Nat.blt i n
              . rfl
              . exact pp _ h
theorem Fm (h:H) (ρ:Operand->Value) (x:Operand) (i:Nat):(fV E h ρ x i).bind dw=dl (ρ x) i:=by
 unfold fV dl
 generalize ρ x=v
 cases v <;> first | rfl | exact pp _ h
theorem Ts (h:H) (ats:Array TypeId) (xs:List Value):(bq E h .len ats xs).bind dw=(bq E ⟨.e,0⟩ .len ats xs).bind dw:=by
 cases xs with
 | nil=>rfl
 | cons x xs =>
  cases xs with
  | cons _ _=>rfl
  | nil =>
   show ((gN ats.toList 0).bind _).bind _=((gN ats.toList 0).bind _).bind _
   cases gN ats.toList 0 with
   | none=>rfl
   | some t =>
    show ((E.under t).bind _).bind _=((E.under t).bind _).bind _
    cases E.under t with
    | none=>rfl
    | some u =>
     simp only[Option.bind_some]
     split <;> rfl
theorem Vu {o:Op} (hc:oE E o=0) (hh:Fl E o=false) (h h2:H) (ρ:Operand->Value):(Kz o E h ρ).bind dw=(Kz o E h2 ρ).bind dw:=by
 cases o <;> try first | (cases hh;done) | rfl | (cases hc;done)
 . exact (Pv (E:=E) h ρ _ _ _).trans (Pv (E:=E) h2 ρ _ _ _).symm
 . exact (KT h ρ _ _).trans (KT h2 ρ _ _).symm
 . exact (Tq (E:=E) h ρ _).trans (Tq (E:=E) h2 ρ _).symm
 . exact (pp _ h).trans (pp _ h2).symm
 . exact (pp _ h).trans (pp _ h2).symm
 . exact (KU h ρ _ _).trans (KU h2 ρ _ _).symm
 . exact (Pw (E:=E) h ρ _ _ _).trans (Pw (E:=E) h2 ρ _ _ _).symm
 . exact (IG h ρ _ _ _).trans (IG h2 ρ _ _ _).symm
 . exact (KV h ρ _ _ _).trans (KV h2 ρ _ _ _).symm
 . exact (II h ρ _ _ _).trans (II h2 ρ _ _ _).symm
 . exact (KW h ρ _ _ _).trans (KW h2 ρ _ _ _).symm
 . exact (Fm (E:=E) h ρ _ _).trans (Fm (E:=E) h2 ρ _ _).symm
 . rename_i c
   obtain⟨callee,args,ats⟩:=c
   cases callee with
   | value f=>cases hc
   | invoke r m=>cases hc
   | builtin b =>
    have hb:Ads b=0:=hc
    cases b <;> try (cases hb;done)
    exact (Ts h ats _).trans (Ts h2 ats _).symm
theorem KX {o:Oper} {al:List (Nat × Nat)} {i:Nat} {t:B} {v:Value} {h:H} (hc:oE E o.op≠2) (hh:Fl E o.op=false) (h2:H) (e:Av E al i o t h=some v):Av E al i o t h2=some v:=by
 by_cases h0:oE E o.op=0
 . unfold Av at e ⊢
   rw[h0] at e ⊢
   have j:(Kz o.op E h (ev t)).bind dw=some v:=e
   show (Kz o.op E h2 (ev t)).bind dw=some v
   rw[Vu h0 hh h2 h];exact j
 . exfalso
   cases q:o.op <;> rw[q] at h0 hc hh <;> first | exact h0 rfl | exact hc rfl | (cases hh;done) | skip
   rename_i c
   obtain⟨callee,args,ats⟩:=c
   cases callee with
   | value f=>exact hc rfl
   | invoke r m=>exact hc rfl
   | builtin b=>cases b <;> first | exact h0 rfl | exact hc rfl
theorem IJ {al:List (Nat × Nat)} {i:Nat} {o:Oper} {t:B} {h:H} {v:Value} (hh:Rl E al i o t h=some v):Av E al i o t h=some v:=by
 unfold Rl at hh
 unfold Av
 cases hb:Nat.beq (oE E o.op) 0 with
 | true=>rw[hb] at hh;exact Vt hh
 | false=>rw[hb] at hh;exact hh
theorem Px {al:List (Nat × Nat)} {p i:Nat} {o:Oper} {t:B} {v:Value} {X:Prop} {h:H} (hc:oE E o.op≠2) (h0:Av E al i o t h=some v) (cB:List (Nat × H)) (hh:Pn E al p i o t v X cB):X/\∀ x ∈ cB,bit p x.1=false->Av E al i o t x.2=some v:=by
 induction cB with
 | nil=>exact⟨hh,fun x hx=>by cases hx⟩
 | cons y l R =>
  have j:Bool.rec (motive:=fun _=>Prop) (Bool.rec (motive:=fun _=>Prop) (Pn E al p i o t v X l) (Rl E al i o t y.2=some v/\Pn E al p i o t v X l) (Fl E o.op)) (Pn E al p i o t v X l) (bit p y.1):=hh
  cases hb:bit p y.1 with
  | true =>
   rw[hb] at j
   obtain⟨I,J⟩:=R j
   refine⟨I,fun x hx C=>?_⟩
   cases hx with
   | head=>rw[hb] at C;cases C
   | tail _ hm=>exact J x hm C
  | false =>
   rw[hb] at j
   cases U:Fl E o.op with
   | true =>
    rw[U] at j
    obtain⟨I,J⟩:=R j.2
    refine⟨I,fun x hx C=>?_⟩
    cases hx with
    | head=>exact IJ j.1
    | tail _ hm=>exact J x hm C
   | false =>
    rw[U] at j
    obtain⟨I,J⟩:=R j
    exact⟨I,fun x hx C=>KX hc U _ h0⟩
def Gk (E:Env) (al:List (Nat × Nat)) (bQ:List (Nat × Oper × B × Value)):Prop:=∀ x ∈ bQ,oE E x.2.1.op≠2/\∃ h0,Av E al x.1 x.2.1 x.2.2.1 h0=some x.2.2.2
theorem Py {al:List (Nat × Nat)} {p:Nat} {h:H} {X:Prop} (bQ:List (Nat × Oper × B × Value)) (hi:Gk E al bQ) (hh:Po E al p h X bQ):X/\∀ x ∈ bQ,bit p x.1=false->Av E al x.1 x.2.1 x.2.2.1 h=some x.2.2.2:=by
 induction bQ with
 | nil=>exact⟨hh,fun x hx=>by cases hx⟩
 | cons y l R =>
  have j:Bool.rec (motive:=fun _=>Prop) (Bool.rec (motive:=fun _=>Prop) (Po E al p h X l) (Rl E al y.1 y.2.1 y.2.2.1 h=some y.2.2.2/\Po E al p h X l) (Fl E y.2.1.op)) (Po E al p h X l) (bit p y.1):=hh
  have C:Gk E al l:=fun x hx=>hi x (.tail _ hx)
  cases hb:bit p y.1 with
  | true =>
   rw[hb] at j
   obtain⟨I,J⟩:=R C j
   refine⟨I,fun x hx o=>?_⟩
   cases hx with
   | head=>rw[hb] at o;cases o
   | tail _ hm=>exact J x hm o
  | false =>
   rw[hb] at j
   cases U:Fl E y.2.1.op with
   | true =>
    rw[U] at j
    obtain⟨I,J⟩:=R C j.2
    refine⟨I,fun x hx o=>?_⟩
    cases hx with
    | head=>exact IJ j.1
    | tail _ hm=>exact J x hm o
   | false =>
    rw[U] at j
    obtain⟨I,J⟩:=R C j
    refine⟨I,fun x hx o=>?_⟩
    cases hx with
    | head =>
     obtain⟨c0,h0,e0⟩:=hi y (.head _)
     exact KX c0 U _ e0
    | tail _ hm=>exact J x hm o
theorem Ru {al:List (Nat × Nat)} {i:Nat} {o:Oper} {t:B} {h:H} {K:Value->Prop} (hh:AfN P E al i o t h K):∃ v,Av E al i o t h=some v/\K v:=by
 obtain⟨v,hv,hk⟩:=aD.1 hh
 exact⟨v,IJ hv,hk⟩
theorem Fp (hE:bj P E) {ops:Array Oper} {ps:List Nat} {al:List (Nat × Nat)} {K:B->H->Prop} {N:Nat}:∀ (rest:List Oper) (i:Nat) (U:List Nat) (cB:List (Nat × H)) (bQ:List (Nat × Oper × B × Value)) (t:B) (h:H),
 Sz t N->Gk E al bQ->AbO P E ops.toList ps al K rest i U cB bQ t h->fX P E ops ps rest i al cB bQ t h fun t' h'=>Sz t' N/\K t' h':=by
 intro rest
 induction rest with
 | nil =>
  intro i U cB bQ t h I J hh
  exact KM ⟨I,hh⟩
 | cons o rest ih =>
  intro i U cB bQ t h I J hh
  obtain⟨p,R,Rt⟩:=aD.1 (show af (gN ps i) _ from hh)
  rw[fD] at R
  obtain⟨b,hg,YI,j⟩:=xI (o:=o) I Rt
  have C:∀ v,Sz (nr t o.dst v) N:=fun v=>by cases o.dst with | none=>exact I | some d=>exact I.set d v
  cases b with
  | false =>
   have hT:=ih _ _ _ _ _ _ (C _) J (j rfl)
   exact uG hT R hg (fun _=>rfl) (fun q=>by cases q) (fun q=>by cases q) (fun q=>by cases q) (fun x hx=>hx) (fun q=>by cases q)
  | true =>
   have h2:=YI rfl
   rw[ax] at h2
   by_cases hc:oE E o.op=2
   . simp only[hc,decide_true] at h2
     refine Ff R hg hc ((BT hE h2).mono ?_)
     intro v h1 hq
     obtain⟨hq,hy⟩:=Py bQ J hq
     exact⟨hy,ih _ _ _ _ _ _ (C _) J hq⟩
   . simp only[hc,decide_false] at h2
     obtain⟨v,hv,h3⟩:=Ru h2
     obtain⟨h4,hx⟩:=Px hc hv cB h3
     have hP':Gk E al ((i,o,t,v) :: bQ):=by
      intro x hx
      cases hx with
      | head=>exact⟨hc,h,hv⟩
      | tail _ hm=>exact J x hm
     exact uG (ih _ _ _ _ _ _ (C _) hP' h4) R hg (fun q=>by cases q) (fun _=>hc) (fun _ _=>hv) (fun _ _=>hx) (fun x hx=>.tail _ hx) (fun _ _=>.head _)
theorem IK {K:H->List (Nat × Nat)->Prop}:∀ (l:List Oper) (i:Nat) (h:H) (al:List (Nat × Nat)),Aa0 E K l i h al->∃ h' j,fW E l i h al=some (h',j)/\K h' j:=by
 intro l
 induction l with
 | nil=>intro i h al hh;exact⟨h,al,rfl,hh⟩
 | cons o l C =>
  intro i h al hh
  have p:(match o.op with
   | .alloc e=>af (E.cz e) fun z=>Aa0 E K l (Nat.add i 1) (newRow h e z 0) ((i,h.next) :: al)
   | _=>Aa0 E K l (Nat.add i 1) h al):=hh
  show ∃ h' j,(match o.op with
   | .alloc e=>(E.cz e).bind fun z=>fW E l (Nat.add i 1) (newRow h e z 0) ((i,h.next) :: al)
   | _=>fW E l (Nat.add i 1) h al)=some (h',j)/\K h' j
  split at p
  . obtain⟨z,hz,hk⟩:=aD.1 p
    rw[bind_eq hz]
    exact C _ _ _ hk
  . exact C _ _ _ p
end Go.X
