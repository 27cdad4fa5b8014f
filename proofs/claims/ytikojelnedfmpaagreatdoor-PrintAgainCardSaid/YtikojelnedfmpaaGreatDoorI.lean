/- PrintAgain: of any text that is read as a formula, the text that is told of it is read as the same formula and told as it was. No conditions of its own. -/
import Derived.Test.YtikojelnedfmpaaGreatDoorH
set_option linter.unusedSimpArgs false
set_option linter.unusedVariables false
namespace Go.Proofs.YtikojelnedfmpaaGreatDoor
open Go Go.X
set_option maxRecDepth 100000
abbrev yf:Type:=Nat × List UInt8 × R3
def Tk.key (t:Tk):yf:=(t.kind,t.text,t.num)
def Lx (p w q:List UInt8) (L:List yf):Prop:=L.length<=w.length/\∀ f acc,∃ j:List Tk,j.map Tk.key=L/\tc (f+L.length) (p++w++q) p.length acc=tc f (p++w++q) (p.length+w.length) (acc++j)
theorem Lx.nil (p q:List UInt8):Lx p [] q []:=⟨Nat.le_refl _,fun f acc=>⟨[],rfl,sm⟩⟩
theorem Lx.cW {p j o q:List UInt8} {L1 L2:List yf} (a:Lx p j (o++q) L1) (b:Lx (p++j) o q L2):Lx p (j++o) q (L1++L2):=by
 refine⟨by have:=a.1;have:=b.1;simp;omega,fun f acc=>?_⟩
 obtain⟨C,R,I⟩:=a.2 (f+L2.length) acc
 obtain⟨U,k2,J⟩:=b.2 f (acc++C)
 have s1:p++j++(o++q)=p++(j++o)++q:=sm
 have s2:p++j++o++q=p++(j++o)++q:=sm
 rw[s1] at I
 rw[s2] at J
 refine⟨C++U,by rw[List.map_append,R,k2],?_⟩
 rw[List.length_append,show f+(L1.length+L2.length)=f+L2.length+L1.length by omega,I,<-List.length_append,J,List.length_append,List.length_append,List.append_assoc acc,Nat.add_assoc]
theorem Lx.tok {p w q:List UInt8} {c:UInt8} {r:List UInt8} (hw:w=c :: r) (hc:c≠32) {k:Nat} {t:List UInt8} {n:R3} (hk:k≠0) (j:nk (p++w++q) p.length=(⟨k,t,p.length,n⟩,w.length,0)):Lx p w q [(k,t,n)]:=by
 refine⟨by rw[hw];simp,fun f acc=>⟨[⟨k,t,p.length,n⟩],rfl,?_⟩⟩
 have hd:(p++w++q).drop p.length=w++q:=by rw[List.append_assoc,List.drop_left]
 have h0:fe (fun c=>decide (c=32)) ((p++w++q).drop p.length)=0:=by
  rw[hd,hw];unfold fe;rw[List.cons_append,List.takeWhile_cons,if_neg (sp hc)];rfl
 have hn:nj (p++w++q) p.length=(⟨k,t,p.length,n⟩,p.length+w.length,0):=by
  unfold nj
  simp only[h0,Nat.add_zero]
  rw[if_neg (by simp[hw]),j]
 show tc (f+1) _ _ _=_
 rw[tc]
 simp only[hn]
 rw[if_neg sm,if_neg hk]
theorem XI {p d:List UInt8}:(p++d).drop p.length=d:=List.drop_left
def Qw (q:List UInt8):Prop:=∀ c,q.head?=some c->fb c=false/\c≠46/\c≠34
theorem Eb {f:UInt8->Bool} {w q:List UInt8} (h:w.all f=true) (j:∀ c,q.head?=some c->f c=false):(w++q).takeWhile f=w:=by
 rw[List.takeWhile_append_of_pos fun c hc=>List.all_eq_true.1 h c hc]
 cases q with
 | nil=>simp
 | cons c q=>rw[List.takeWhile_cons,if_neg (by rw[j c rfl];simp),List.append_nil]
theorem AcV {c:UInt8} (h:fb c=false):aR c=false:=by
 unfold fb at h;simp only[Bool.or_eq_false_iff] at h;exact h.1.1.2
theorem XJ {T q:List UInt8} (h:XG T) (o:Qw q):j9 (T++q)=T.length:=by
 have p:∀ c,q.head?=some c->aR c=false:=fun c e=>AcV (o c e).1
 rcases h.form with C | ⟨a,b,rfl,ha,hb,R,bn⟩
 . unfold j9 fe
   simp only[Eb C p]
   rw[if_neg]
   rintro⟨_,e⟩
   rw[List.getElem?_append_right nlr,Nat.sub_self,<-List.head?_eq_getElem?] at e
   exact (o 46 e).2.1 rfl
 . have I:a++[46]++b++q=a++(46 :: (b++q)):=sm
   unfold j9 fe
   rw[I]
   have j:∀ c,(46 :: (b++q)).head?=some c->aR c=false:=fun c e=>by
    simp at e;subst e;rfl
   simp only[Eb ha j]
   have J:(a++(46 :: (b++q))).drop (a.length+1)=b++q:=by rw[show a.length+1=(a++[46]).length by simp,show a++(46 :: (b++q))=(a++[46])++(b++q) by simp,List.drop_left]
   simp only[J,Eb hb p]
   rw[if_pos ⟨List.length_pos_iff.2 bn,by rw[List.getElem?_append_right nlr,Nat.sub_self];rfl⟩]
   simp;omega
theorem XG.cons {T:List UInt8} (h:XG T):∃ c r,T=c :: r/\aR c=true:=by
 rcases h.form with j | ⟨a,b,rfl,ha,hb,o,bn⟩
 . cases T with
   | nil=>exact absurd rfl h.ne
   | cons c r=>exact⟨c,r,rfl,by simp at j;exact j.1⟩
 . cases a with
   | nil=>exact absurd rfl o
   | cons c r=>exact⟨c,_,rfl,by simp at ha;exact ha.1⟩
theorem AcW {p q:List UInt8} {r:R3} (h:Lf.ok (.num r)=true) (o:Qw q):Lx p (js r.neg r.num r.den).1 q [(1,(js r.neg r.num r.den).1,r)]:=by
 obtain⟨hd,j⟩:=XH h
 generalize (js r.neg r.num r.den).1=T at *
 obtain⟨c,t,e,hc⟩:=j.cons
 refine Lx.tok e ?_ dc ?_
 . rintro rfl;cases hc
 . unfold nk
   rw[List.append_assoc,XI]
   have hn:=XJ j o
   have hl:(T++q).take T.length=T:=List.take_left
   rw[e] at hn hl hd ⊢
   rw[List.cons_append] at hn hl ⊢
   simp only[hc,if_true,hn,hl,hd]
   rw[if_neg sm]
def Mk (s:List UInt8):List UInt8:=s.flatMap fun c=>if c=34 then [34,34] else [c]
theorem AcX:∀ (s q:List UInt8),Qw q->ni (Mk s++34 :: q)=some (s,(Mk s).length+1):=by
 intro s
 induction s with
 | nil =>
  intro q j
  show ni (34 :: q)=_
  cases q with
  | nil=>rfl
  | cons d q=>rw[ni.eq_def];simp only[if_true];rw[if_neg (j d rfl).2.2];rfl
 | cons c s o =>
  intro q j
  have e:Mk (c :: s)=(if c=34 then [34,34] else [c])++Mk s:=rfl
  rw[e]
  by_cases g:c=34
  . subst g
    rw[if_pos rfl]
    show ni (34 :: 34 :: (Mk s++34 :: q))=_
    rw[ni.eq_def];simp only[if_true]
    rw[o q j];simp <;> omega
  . rw[if_neg g]
    show ni (c :: (Mk s++34 :: q))=_
    rw[ni.eq_def];simp only[if_neg g]
    rw[o q j];simp <;> omega
theorem AcY {p q:List UInt8} {s:List UInt8} (h:jV s=true) (j:Qw q):Lx p (quo s) q [(2,s,r0)]:=by
 have e:quo s=34 :: (Mk s++[34]):=rfl
 refine Lx.tok e dc dc ?_
 unfold nk
 rw[List.append_assoc,XI,e,List.cons_append]
 have t:=AcX s q j
 have o:Mk s++[34]++q=Mk s++34 :: q:=sm
 rw[o]
 simp only[show aR 34=false by rfl,Bool.false_eq_true,if_false,if_true,t,h]
 simp
theorem Aao {c:UInt8} (h:fb c=true):c≠34/\c≠35/\c≠32:=by
 refine⟨?_,?_,?_⟩ <;> (rintro rfl;revert h;decide)
theorem OP {p q w:List UInt8} {c:UInt8} {r:List UInt8} (e:w=c :: r) (hc:aR c=false) (h:w.all fb=true) (j:Qw q):Lx p w q [(3,w,r0)]:=by
 have hw:fb c=true:=by rw[e] at h;simp at h;exact h.1
 obtain⟨o,h2,C⟩:=Aao hw
 refine Lx.tok e C dc ?_
 have t:fe fb (w++q)=w.length:=by unfold fe;rw[Eb h fun c e=>(j c e).1]
 have t2:(w++q).take w.length=w:=List.take_left
 unfold nk
 rw[List.append_assoc,XI]
 rw[e,List.cons_append] at t t2 ⊢
 simp only[hc,Bool.false_eq_true,if_false,o,h2,hw,if_true,t,t2]
theorem SG (n:Nat) (j:1<=n) (o:n<=7) (q:List UInt8):tL (lP (n:Int)++q)=lP (n:Int)/\∃ r,lP (n:Int)=35 :: r:=by
 have:n=1\/n=2\/n=3\/n=4\/n=5\/n=6\/n=7:=om
 rcases this with h | h | h | h | h | h | h <;> subst h <;> refine⟨?_,_,rfl⟩ <;> (unfold tL;simp[List.range,List.range.loop,lP,JW,iY])
theorem AcZ {p q:List UInt8} {n:Nat} (j:1<=n) (o:n<=7):Lx p (lP (n:Int)) q [(10,lP (n:Int),r0)]:=by
 obtain⟨e,r,hr⟩:=SG n j o q
 refine Lx.tok hr dc dc ?_
 unfold nk
 rw[List.append_assoc,XI]
 rw[hr,List.cons_append] at e ⊢
 simp only[show aR 35=false by rfl,Bool.false_eq_true,if_false,show ¬ ((35:UInt8)=34) by decide,if_true,e]
 rw[if_neg sm]
def Qs (q:List UInt8):Prop:=∀ c,q.head?=some c->c≠61/\c≠62
theorem Abv {p q w:List UInt8} {k:Nat} {c:UInt8} {r:List UInt8} (e:w=c :: r) (hd:aR c=false) (hw:fb c=false) (j:c≠34) (h2:c≠35) (o:c≠32) (hk:k≠0) (hs:cY (w++q)=(k,w.length)):Lx p w q [(k,w,r0)]:=by
 refine Lx.tok e o hk ?_
 unfold nk
 have t2:(w++q).take w.length=w:=List.take_left
 rw[List.append_assoc,XI]
 rw[e,List.cons_append] at hs t2 ⊢
 simp only[hd,Bool.false_eq_true,if_false,j,h2,hw,hs,t2]
 rw[if_neg sm]
def MY (r:Rf):List UInt8:=mG r.fc++re r.gX++mG r.fr++eI r.row.toNat
def Rf.cL (r:Rf):List yf:=(if r.aU=[] then [] else [(3,r.aU,r0),(9,[33],r0)])++[(3,MY r,r0)]
def Lf.cL:Lf->List yf
 | .num r=>[(1,(js r.neg r.num r.den).1,r)]
 | .Of s=>[(2,s,r0)]
 | .Qq b=>[(3,if b=true then bT else bF,r0)]
 | .Og n=>[(10,lP (n:Int),r0)]
 | .cell r=>r.cL
 | .vu a b=>a.cL++([(8,[58],r0)]++b.cL)
def jb (s:List yf) (l n:Nat):List yf:=if l<n then [(5,[40],r0)]++(s++[(6,[41],r0)]) else s
mutual
def Ex.cL:Ex->List yf
 | .leaf l=>l.cL
 | .un op a=>if op=13 then [(4,[45],r0)]++jb a.cL a.bA 6 else jb a.cL a.bA (Ex.bA (.un op a))++[(4,As (op:Int),r0)]
 | .bin op a b=>jb a.cL a.bA (fH op)++([(4,As (op:Int),r0)]++jb b.cL b.bA (fH op+1))
 | .call f l=>[(3,f,r0)]++([(5,[40],r0)]++(l.cL++[(6,[41],r0)]))
def bi.cL:bi->List yf
 | .nil=>[]
 | .cons a .nil=>a.cL
 | .cons a l=>a.cL++([(7,[44],r0)]++l.cL)
end
theorem Qw.cons {c:UInt8} {r:List UInt8} (j:fb c=false) (h2:c≠46) (o:c≠34):Qw (c :: r):=by
 intro d e
 simp at e;subst e;exact⟨j,h2,o⟩
theorem Ml {f:UInt8->Bool} {a b:List UInt8} (j:a.all f=true) (h2:b.all f=true):(a++b).all f=true:=by rw[List.all_append,j,h2];rfl
theorem Ge {f g:UInt8->Bool} {a:List UInt8} (h:a.all f=true) (i:∀ c,f c=true->g c=true):a.all g=true:=List.all_eq_true.2 fun c hc=>i c (List.all_eq_true.1 h c hc)
theorem XK {c:UInt8} (h:aR c=true):fb c=true:=by unfold fb;rw[h];simp
theorem XL {c:UInt8} (h:bN c=true):fb c=true:=by unfold fb mZ;rw[h];simp
theorem Mm {c:UInt8} (h:bN c=true):aR c=false:=by
 unfold bN at h;unfold aR
 simp only[Bool.and_eq_true,decide_eq_true_eq] at h
 simp;omega
theorem Aap {c:UInt8} (h:mZ c=true):aR c=false:=by
 unfold mZ bN uq at h;unfold aR
 simp only[Bool.or_eq_true,Bool.and_eq_true,decide_eq_true_eq] at h
 simp;omega
theorem XM (b:Bool):(mG b).all fb=true:=by cases b <;> rfl
theorem Mn (c:Int):(re c).all bN=true:=by
 unfold re
 split
 . rename_i h
   have e:(UInt8.ofNat (64+c.toNat)).toNat=64+c.toNat:=ofNat_toNat om
   rw[List.all_cons,List.all_nil,Bool.and_true];unfold bN;rw[e];simp;omega
 . split
   . rename_i h
     have e:(UInt8.ofNat (64+(c.toNat-26))).toNat=64+(c.toNat-26):=ofNat_toNat om
     rw[List.all_cons,List.all_cons,List.all_nil,Bool.and_true,show bN 65=true by rfl,Bool.true_and];unfold bN;rw[e];simp;omega
   . rfl
theorem XN {c r:Int} (h:u5 c r=true):re c≠[]:=by
 unfold u5 at h
 simp only[Bool.and_eq_true,decide_eq_true_eq] at h
 unfold re
 split
 . simp
 . rw[if_pos om];simp
theorem Abw (r:Rf):(MY r).all fb=true:=Ml (Ml (Ml (XM _) (Ge (Mn _) fun _=>XL)) (XM _)) (Ge (CR _) fun _=>XK)
theorem SH {r:Rf} (h:u5 r.gX r.row=true):∃ c t,MY r=c :: t/\aR c=false/\c≠61/\c≠62:=by
 unfold MY
 cases hf:r.fc with
 | true=>exact⟨36,_,rfl,rfl,dc,dc⟩
 | false =>
  have hc:=Mn r.gX
  cases e:re r.gX with
  | nil=>exact absurd e (XN h)
  | cons c t =>
   rw[e] at hc
   simp only[List.all_cons,Bool.and_eq_true] at hc
   refine⟨c,t++mG r.fr++eI r.row.toNat,by simp[mG],Mm hc.1,?_,?_⟩ <;> (rintro rfl;exact absurd hc.1 dc)
theorem SI {s:List UInt8} (h:r_ s=true):s.all fb=true/\∃ c t,s=c :: t/\mZ c=true:=by
 unfold r_ at h
 simp only[Bool.and_eq_true,decide_eq_true_eq] at h
 obtain⟨⟨⟨⟨⟨⟨j,_⟩,h2⟩,o⟩,_⟩,_⟩,_⟩:=h
 refine⟨Ge o fun c q=>?_,?_⟩
 . simp only[Bool.or_eq_true,decide_eq_true_eq] at q
   unfold fb
   rcases q with (q | q) | q
   . rw[q];simp
   . rw[q];simp
   . rw[q];rfl
 . cases s with
   | nil=>simp at j
   | cons c t=>exact⟨c,t,rfl,sp h2⟩
theorem HS {p q:List UInt8} (c:UInt8) (k:Nat) (hd:aR c=false) (hw:fb c=false) (j:c≠34) (h2:c≠35) (o:c≠32) (hk:k≠0) (hs:cY (c :: q)=(k,1)):Lx p [c] q [(k,[c],r0)] :=
 Abv rfl hd hw j h2 o hk hs
theorem XO {p q:List UInt8}:Lx p [40] q [(5,[40],r0)]:=HS 40 5 rfl rfl dc dc dc dc (by simp[cY])
theorem XP {p q:List UInt8}:Lx p [41] q [(6,[41],r0)]:=HS 41 6 rfl rfl dc dc dc dc (by simp[cY])
theorem Ac0 {p q:List UInt8}:Lx p [44] q [(7,[44],r0)]:=HS 44 7 rfl rfl dc dc dc dc (by simp[cY])
theorem Ac1 {p q:List UInt8}:Lx p [58] q [(8,[58],r0)]:=HS 58 8 rfl rfl dc dc dc dc (by simp[cY])
theorem Ac2 {p q:List UInt8}:Lx p [33] q [(9,[33],r0)]:=HS 33 9 rfl rfl dc dc dc dc (by simp[cY])
theorem Ac3 {p q:List UInt8}:Lx p [45] q [(4,[45],r0)]:=HS 45 4 rfl rfl dc dc dc dc (by simp[cY])
theorem Ac4 {p q:List UInt8}:Lx p [37] q [(4,[37],r0)]:=HS 37 4 rfl rfl dc dc dc dc (by simp[cY])
theorem Ae3 {p q:List UInt8} {op:Nat} (I:1<=op) (h2:op<=12) (j:Qs q):Lx p (As (op:Int)) q [(4,As (op:Int),r0)]:=by
 have o:q.head?≠some 61:=fun e=>(j _ e).1 rfl
 have C:q.head?≠some 62:=fun e=>(j _ e).2 rfl
 have:op=1\/op=2\/op=3\/op=4\/op=5\/op=6\/op=7\/op=8\/op=9\/op=10\/op=11\/op=12:=om
 rcases this with h | h | h | h | h | h | h | h | h | h | h | h <;> subst h <;>
  exact Abv (r:=_) rfl rfl rfl dc dc dc dc (by simp[As,Hs,cY,o,C])
theorem Aaq {op:Nat} (j:1<=op) (h2:op<=12):∃ c r,As (op:Int)=c :: r/\fb c=false/\c≠46/\c≠34:=by
 have:op=1\/op=2\/op=3\/op=4\/op=5\/op=6\/op=7\/op=8\/op=9\/op=10\/op=11\/op=12:=om
 rcases this with h | h | h | h | h | h | h | h | h | h | h | h <;> subst h <;> exact⟨_,_,rfl,rfl,dc,dc⟩
theorem SJ {r:Rf} (h:o7 r=true):An r=(if r.aU=[] then [] else r.aU++[33])++MY r:=by
 unfold An MY;rw[if_pos h];simp only[List.append_assoc]
theorem CT {r:Rf} (h:o7 r=true):u5 r.gX r.row=true/\(r.aU≠[]->r_ r.aU=true):=by
 unfold o7 at h
 simp only[Bool.and_eq_true,Bool.or_eq_true,decide_eq_true_eq] at h
 exact⟨h.2,fun q=>h.1.resolve_left q⟩
theorem Abx {p q:List UInt8} {r:Rf} (h:u5 r.gX r.row=true) (j:Qw q):Lx p (MY r) q [(3,MY r,r0)]:=by
 obtain⟨c,t,e,hc,_⟩:=SH h
 exact OP e hc (Abw r) j
theorem XQ {p q:List UInt8} {r:Rf} (h:o7 r=true) (j:Qw q):Lx p (An r) q r.cL:=by
 obtain⟨hi,hn⟩:=CT h
 rw[SJ h]
 unfold Rf.cL
 by_cases g:r.aU=[]
 . rw[if_pos g,if_pos g];exact Abx hi j
 . rw[if_neg g,if_neg g]
   obtain⟨hw,c,t,e,hl⟩:=SI (hn g)
   have a:Lx p r.aU ([33]++(MY r++q)) [(3,r.aU,r0)]:=OP e (Aap hl) hw (Qw.cons rfl dc dc)
   exact (a.cW (L2:=[(9,[33],r0)]) Ac2).cW (Abx hi j)
theorem Lf.lx {l:Lf} (h:l.ok=true) {p q:List UInt8} (j:Qw q):Lx p l.sh q l.cL:=by
 cases l with
 | num r=>exact AcW h j
 | Of s=>exact AcY h j
 | Qq b =>
  cases b with
  | true=>exact OP (c:=84) rfl rfl rfl j
  | false=>exact OP (c:=70) rfl rfl rfl j
 | Og n =>
  unfold Lf.ok at h
  simp only[Bool.and_eq_true,decide_eq_true_eq] at h
  exact AcZ h.1 h.2
 | cell r=>exact XQ h j
 | vu a b =>
  unfold Lf.ok at h
  simp only[Bool.and_eq_true] at h
  show Lx p (An a++[58]++An b) q (a.cL++([(8,[58],r0)]++b.cL))
  rw[List.append_assoc]
  exact (XQ h.1.1.1.1 (Qw.cons rfl dc dc)).cW (Lx.cW Ac1 (XQ h.1.1.1.2 j))
def UW (s:List UInt8):Prop:=∃ c r,s=c :: r/\c≠61/\c≠62
theorem UW.cW {s t:List UInt8} (h:UW s):UW (s++t):=by
 obtain⟨c,r,rfl,j,h2⟩:=h
 exact⟨c,r++t,rfl,j,h2⟩
theorem UW.qs {s t:List UInt8} (h:UW s):Qs (s++t):=by
 obtain⟨c,r,rfl,j,h2⟩:=h
 intro d e
 simp at e;subst e;exact⟨j,h2⟩
theorem UW.held {s:List UInt8} (h:UW s) (l n:Nat):UW (dG s l n):=by
 unfold dG
 split
 . exact⟨40,_,rfl,dc,dc⟩
 . exact h
theorem Aby {r:Rf} (h:o7 r=true):UW (An r):=by
 obtain⟨hi,hn⟩:=CT h
 rw[SJ h]
 by_cases g:r.aU=[]
 . rw[if_pos g]
   obtain⟨c,t,e,_,j,h2⟩:=SH hi
   exact⟨c,t,e,j,h2⟩
 . rw[if_neg g]
   obtain⟨hw,c,t,e,hl⟩:=SI (hn g)
   refine⟨c,t++[33]++MY r,by rw[e];simp,?_,?_⟩ <;> (rintro rfl;exact absurd hl dc)
theorem Lf.hd {l:Lf} (h:l.ok=true):UW l.sh:=by
 cases l with
 | num r =>
  obtain⟨c,t,e,hc⟩:=(XH h).2.cons
  refine⟨c,t,e,?_,?_⟩ <;> (rintro rfl;exact absurd hc dc)
 | Of s=>exact⟨34,_,rfl,dc,dc⟩
 | Qq b=>cases b <;> exact⟨_,_,rfl,dc,dc⟩
 | Og n =>
  unfold Lf.ok at h
  simp only[Bool.and_eq_true,decide_eq_true_eq] at h
  obtain⟨_,r,hr⟩:=SG n h.1 h.2 []
  exact⟨35,r,hr,dc,dc⟩
 | cell r=>exact Aby h
 | vu a b =>
  unfold Lf.ok at h
  simp only[Bool.and_eq_true] at h
  exact (Aby h.1.1.1.1).cW.cW
theorem SK {f:List UInt8} (h:Kj f=true):∃ c t,f=c :: t/\bN c=true/\f.all fb=true:=by
 unfold Kj at h
 simp only[Bool.and_eq_true,decide_eq_true_eq] at h
 obtain⟨⟨⟨j,_⟩,h2⟩,o⟩:=h
 cases f with
 | nil=>simp at j
 | cons c t =>
  refine⟨c,t,rfl,sp h2,Ge o fun c q=>?_⟩
  simp only[Bool.or_eq_true] at q
  rcases q with q | q
  . exact XL q
  . exact XK q
theorem Ex.hd:∀ {e:Ex},e.ok=true->UW e.sh
 | .leaf l,h=>Lf.hd h
 | .un op a,h=>by
  unfold Ex.ok at h
  simp only[Bool.and_eq_true] at h
  have j:=Ex.hd h.1
  show UW (if op=13 then [45]++dG a.sh a.bA 6 else dG a.sh a.bA (Ex.bA (.un op a))++As (op:Int))
  split
  . exact⟨45,_,rfl,dc,dc⟩
  . exact (j.held _ _).cW
 | .bin op a b,h=>by
  unfold Ex.ok at h
  simp only[Bool.and_eq_true] at h
  exact ((Ex.hd h.1.1).held _ _).cW.cW
 | .call f l,h=>by
  unfold Ex.ok at h
  simp only[Bool.and_eq_true] at h
  obtain⟨c,t,e,hc,_⟩:=SK h.1.2
  show UW (f++[40]++l.sh++[41])
  refine⟨c,t++[40]++l.sh++[41],by rw[e];simp,?_,?_⟩ <;> (rintro rfl;exact absurd hc dc)
theorem Gf {s:List UInt8} {L:List yf} (h:∀ p q,Qw q->Lx p s q L) (l n:Nat) {p q:List UInt8} (j:Qw q):Lx p (dG s l n) q (jb L l n):=by
 unfold dG jb
 split
 . rw[List.append_assoc]
   exact Lx.cW XO ((h _ _ (Qw.cons rfl dc dc)).cW XP)
 . exact h p q j
mutual
theorem Ex.lx:∀ (e:Ex),e.ok=true->∀ p q,Qw q->Lx p e.sh q e.cL
 | .leaf l,h,p,q,j=>Lf.lx h j
 | .un op a,h,p,q,j=>by
  unfold Ex.ok at h
  simp only[Bool.and_eq_true,Bool.or_eq_true,decide_eq_true_eq] at h
  have o:=Ex.lx a h.1
  show Lx p (if op=13 then [45]++dG a.sh a.bA 6 else dG a.sh a.bA (Ex.bA (.un op a))++As (op:Int)) q (if op=13 then [(4,[45],r0)]++jb a.cL a.bA 6 else jb a.cL a.bA (Ex.bA (.un op a))++[(4,As (op:Int),r0)])
  by_cases g:op=13
  . rw[if_pos g,if_pos g]
    exact Lx.cW Ac3 (Gf o _ _ j)
  . rw[if_neg g,if_neg g]
    have e:op=14:=h.2.resolve_left g
    subst e
    exact (Gf o _ _ (Qw.cons (c:=37) rfl dc dc)).cW Ac4
 | .bin op a b,h,p,q,j=>by
  unfold Ex.ok at h
  simp only[Bool.and_eq_true,decide_eq_true_eq] at h
  have C:=Ex.lx a h.1.1
  have I:=Ex.lx b h.1.2
  show Lx p (dG a.sh a.bA (fH op)++As (op:Int)++dG b.sh b.bA (fH op+1)) q (jb a.cL a.bA (fH op)++([(4,As (op:Int),r0)]++jb b.cL b.bA (fH op+1)))
  rw[List.append_assoc]
  have J:=Ae3 (p:=p++dG a.sh a.bA (fH op)) (q:=dG b.sh b.bA (fH op+1)++q) h.2.1 h.2.2 ((Ex.hd h.1.2).held _ _).qs
  refine (Gf C _ _ ?_).cW (J.cW (Gf I _ _ j))
  obtain⟨c,r,e,R,h2,U⟩:=Aaq h.2.1 h.2.2
  rw[e];exact Qw.cons R h2 U
 | .call f l,h,p,q,j=>by
  unfold Ex.ok at h
  simp only[Bool.and_eq_true] at h
  obtain⟨c,t,e,hc,hw⟩:=SK h.1.2
  have o:=bi.lx l h.1.1
  show Lx p (f++[40]++l.sh++[41]) q ([(3,f,r0)]++([(5,[40],r0)]++(l.cL++[(6,[41],r0)])))
  rw[List.append_assoc,List.append_assoc]
  exact (OP e (Mm hc) hw (Qw.cons rfl dc dc)).cW (Lx.cW XO ((o _ _ (Qw.cons rfl dc dc)).cW XP))
theorem bi.lx:∀ (l:bi),l.ok=true->∀ p q,Qw q->Lx p l.sh q l.cL
 | .nil,_,p,q,_=>Lx.nil p q
 | .cons a .nil,h,p,q,j=>by
  unfold bi.ok at h
  simp only[Bool.and_eq_true] at h
  show Lx p a.sh q a.cL
  exact Ex.lx a h.1 p q j
 | .cons a (.cons b l),h,p,q,j=>by
  unfold bi.ok at h
  simp only[Bool.and_eq_true] at h
  have o:=bi.lx (.cons b l) h.2
  show Lx p (a.sh++[44]++(bi.cons b l).sh) q (a.cL++([(7,[44],r0)]++(bi.cons b l).cL))
  rw[List.append_assoc]
  exact (Ex.lx a h.1 _ _ (Qw.cons rfl dc dc)).cW (Lx.cW Ac0 (o _ _ j))
end
theorem Ac5 {e:Ex} (h:e.ok=true) (hl:e.sh.length<=300):∃ j:List Tk,j.map Tk.key=e.cL/\jX e.sh=(0,j++[⟨0,[],e.sh.length,r0⟩]):=by
 obtain⟨hle,hx⟩:=Ex.lx e h [] [] (fun c q=>by cases q)
 obtain⟨j,k,o⟩:=hx (e.sh.length+2-e.cL.length) []
 refine⟨j,k,?_⟩
 unfold jX
 rw[if_neg om]
 simp only[List.nil_append,List.append_nil,List.length_nil,Nat.zero_add] at o
 rw[show e.sh.length+2-e.cL.length+e.cL.length=e.sh.length+2 by omega] at o
 rw[o]
 obtain⟨f,hf⟩:∃ f,e.sh.length+2-e.cL.length=f+1:=⟨e.sh.length+1-e.cL.length,om⟩
 rw[hf,tc]
 have hn:nj e.sh e.sh.length=(⟨0,[],e.sh.length,r0⟩,e.sh.length,0):=by
  unfold nj fe
  simp
 simp only[hn]
 rw[if_neg sm,if_pos trivial]
theorem u6 {t:TypeId} {a b:Int} (j:-9223372036854775808<=a+b) (h2:a+b<=9223372036854775807):X.binOp EE .add t (.int .i64 a) (.int .i64 b)=some (.int .i64 (a+b)):=by rw[Go.X.binOp_add,wrap64 j h2]
theorem WB {t:TypeId} {a b:Int} (j:-9223372036854775808<=a-b) (h2:a-b<=9223372036854775807):X.binOp EE .sub t (.int .i64 a) (.int .i64 b)=some (.int .i64 (a-b)):=by rw[Go.X.binOp_sub,wrap64 j h2]
theorem ZQ {t:TypeId} {a b:Int} (j:-9223372036854775808<=a * b) (h2:a * b<=9223372036854775807):X.binOp EE .mul t (.int .i64 a) (.int .i64 b)=some (.int .i64 (a * b)):=by rw[Go.X.binOp_mul,wrap64 j h2]
theorem eY (h:H) (l:List UInt8) (K:Value->H->Prop):blt EE h .len #[9] [st l] K=K (.int .i64 l.length) h:=bb kH h l K
theorem wix {l:List UInt8} {i:Nat} (h:i<l.length):MV (st l) (.int .i64 (i:Int))=some (.int .u8 (l[i].toNat:Int)):=ixE l i h
theorem WI {c:UInt8} {l:List UInt8}:MV (st (c :: l)) (.int .i64 0)=some (.int .u8 (c.toNat:Int)):=ixE (c :: l) 0 sm
theorem Aer {h:H} {l:List UInt8} {i:Nat} (hi:i<=l.length):aO EE h 9 (st l) none (some (.int .i64 (i:Int))) none=some (st (l.take i)):=by
 have:=dJ kH h l none (some (vI i)) (a:=0) (b:=i) (bm _ _ _ _ hi) (fw _ _)
 simpa using this
theorem CB {h:H} {l:List UInt8} {i:Nat} (hi:i<=l.length):aO EE h 9 (st l) (some (.int .i64 (i:Int))) none none=some (st (l.drop i)):=by
 have:=dJ kH h l (some (vI i)) none (a:=i) (b:=l.length) (fw _ _) (bm _ _ _ _ hi)
 simpa using this
theorem Qn {h:H} {l:List UInt8} {i j:Nat} (hi:i<=j) (o:j<=l.length):aO EE h 9 (st l) (some (.int .i64 (i:Int))) (some (.int .i64 (j:Int))) none=some (st ((l.take j).drop i)):=by
 exact dJ kH h l (some (vI i)) (some (vI j)) (a:=i) (b:=j) (bm _ _ _ _ o) (bm _ _ _ _ hi)
theorem Bq (a b:List UInt8) (h:a.length+b.length<=1000000000):X.binOp EE .add 9 (st a) (st b)=some (st (a++b)):=by
 rw[Go.X.gW,if_pos om]
theorem sb (l:List UInt8):(⟨⟨l⟩⟩:ByteArray)=⟨⟨l⟩⟩:=rfl
theorem LG {p:UInt8->Bool}:∀ {l:List UInt8} {i:Nat} (hi:i<=l.length),(l.take i).all p=true->(∀ h:i<l.length,p l[i]=false)->(l.takeWhile p).length=i:=by
 intro l
 induction l with
 | nil=>intro i hi _ _;simp at hi;simp[hi]
 | cons c l j =>
  intro i hi ha hn
  cases i with
  | zero=>have:=hn sm;simp at this;simp[List.takeWhile_cons,this]
  | succ i =>
   simp only[List.take_succ_cons,List.all_cons,Bool.and_eq_true] at ha
   rw[List.takeWhile_cons,ha.1]
   simp only[if_true,List.length_cons,Nat.add_right_cancel_iff]
   exact j (sp hi) ha.2 fun h=>by have:=hn (sp h);rwa [List.getElem_cons_succ] at this
theorem EP {p:UInt8->Bool} (l:List UInt8):(l.takeWhile p).length<=l.length:=by
 induction l with
 | nil=>simp
 | cons c l j=>rw[List.takeWhile_cons];cases p c <;> simp <;> omega
theorem vG {c:UInt8}:bN c=true<->65<=c.toNat/\c.toNat<=90:=by unfold bN;simp
theorem DY {c:UInt8}:uq c=true<->97<=c.toNat/\c.toNat<=122:=by unfold uq;simp
theorem DW {c:UInt8}:aR c=true<->48<=c.toNat/\c.toNat<=57:=by unfold aR;simp
theorem wU {c:UInt8}:bN c=false<->c.toNat<65\/90<c.toNat:=by unfold bN;simp;omega
theorem LV {c:UInt8}:uq c=false<->c.toNat<97\/122<c.toNat:=by unfold uq;simp;omega
theorem LR {c:UInt8}:aR c=false<->c.toNat<48\/57<c.toNat:=by unfold aR;simp;omega
theorem Hx (s:List UInt8) (hb:s.length<=bl) (h:H):ai PP w_ [st s] h (.v (.tuple ⟨[st (s.take (fk s)),st (s.drop (fk s))]⟩) h):=by
 have I:bl=1000000000:=rfl
 refine aj.pure (Jn ?_) (by simp[flat])
 unfold Hy aq
 refine aL.ind (fun C h'=>h'=h/\∃ i:Nat,C=[st s,vI i]/\i<=s.length/\(s.take i).all bN=true) (fun C _=>match aI C 1 with | .int _ i=>s.length-i.toNat | _=>0) ?_ ⟨rfl,0,rfl,Nat.zero_le _,rfl⟩
 rintro C h' ⟨rfl,i,rfl,hi,ha⟩
 show vd _ _ (st s) (vI i) h'
 have out:(∀ hl:i<s.length,bN s[i]=false)->jP (fun v o=>v=.tuple ⟨[st (s.take (fk s)),st (s.drop (fk s))]⟩/\Fr h' o) (fun p o=>(o=h'/\∃ i:Nat,p=[st s,vI i]/\i<=s.length/\(s.take i).all bN=true)/\(match aI p 1 with | .int _ i=>s.length-i.toNat | _=>0)<(match aI [st s,vI i] 1 with | .int _ i=>s.length-i.toNat | _=>0)) (st s) (vI i) (.bool false) h':=by
  intro hn
  unfold jP aq
  rw[ae,if_neg sm,Aer hi,aa,CB hi,aa]
  unfold fk
  rw[LG hi ha hn]
  exact⟨rfl,Fr.refl _⟩
 unfold vd aq
 rw[eY,Go.X.binOp_lss,aa,ag]
 by_cases j:i<s.length
 . rw[if_pos (by simp[j]),wix j,aa,Go.X.binOp_geq,aa,ag]
   by_cases J:65<=s[i].toNat
   . rw[if_pos so,aa,Go.X.binOp_leq,aa]
     by_cases h2:s[i].toNat<=90
     . unfold jP aq
       rw[ae,if_pos so,u6 om om,aa]
       refine⟨⟨rfl,i+1,rfl,j,by rw[cQ _ _ _ j,ha,vG.2 ⟨J,h2⟩];rfl⟩,?_⟩
       show s.length-((i:Int)+1).toNat<s.length-(i:Int).toNat
       omega
     . rw[decide_eq_false om]
       exact out fun _=>wU.2 om
   . rw[if_neg so]
     exact out fun _=>wU.2 om
 . rw[if_neg (by simp[j])]
   exact out fun hl=>absurd hl j
def nq (l:List UInt8):Nat:=l.foldl (fun n c=>26 * n+(c.toNat-65)+1) 0
theorem UE (l:List UInt8) (c:UInt8):nq (l++[c])=26 * nq l+(c.toNat-65)+1:=by simp[nq,List.foldl_append]
theorem UF (l:List UInt8) (i:Nat) (hi:i<l.length):nq (l.take (i+1))=26 * nq (l.take i)+(l[i].toNat-65)+1:=by
 rw[List.take_add_one,List.getElem?_eq_getElem hi,Option.toList_some,UE]
theorem Aaf (l:List UInt8) (h:l.all bN=true) (hl:l.length<=2):nq l<1000:=by
 match l,h with
 | [],_=>simp[nq]
 | [a],h=>simp[bN] at h;simp[nq];omega
 | [a,b],h=>simp[bN] at h;simp[nq];omega
 | a :: b :: c :: l,_=>simp at hl
theorem UG (s:List UInt8) (j:1<=s.length) (h2:s.length<=2) (ha:s.all bN=true):Am s=if nq s<=52 then nq s else 0:=by
 match s,ha with
 | [],_=>simp at j
 | [a],ha =>
  simp only[List.all_cons,List.all_nil,Bool.and_true] at ha
  have:=wQ ha
  rw[Hf,if_pos ha,show nq [a]=a.toNat-64 by simp[nq];omega,if_pos om]
 | [a,b],ha =>
  simp only[List.all_cons,List.all_nil,Bool.and_true,Bool.and_eq_true] at ha
  have o:=wQ ha.1
  have p:=wQ ha.2
  rw[Hg]
  by_cases q:a=65
  . rw[if_pos ⟨q,ha.2⟩,show nq [a,b]=b.toNat-64+26 by subst q;simp[nq];omega,if_pos om]
  . have:a.toNat≠65:=fun e=>q (UInt8.toNat_inj.1 e)
    rw[if_neg (fun e=>q e.1),if_neg (by simp[nq];omega)]
 | a :: b :: c :: l,_=>simp at h2
theorem W7 (s:List UInt8) (i:Nat) (hi:i<s.length) (h:bN s[i]=false):Am s=0:=by
 match s with
 | []=>rfl
 | [a] =>
  have:i=0:=by simp at hi;exact hi
  subst this
  rw[Hf,if_neg (sp h)]
 | [a,b] =>
  rw[Hg]
  rcases i with _ | _ | i
  . rw[if_neg];rintro⟨rfl,_⟩;simp[bN] at h
  . rw[if_neg];rintro⟨_,q⟩;simp[q] at h
  . simp at hi;omega
 | a :: b :: c :: l=>rfl
theorem HF (s:List UInt8) (h:H):ai PP xb [st s] h (.v (Uf (Am s)) h):=by
 refine aj.pure (Jq ?_) (by unfold Uf;simp[flat])
 unfold HG aq
 have p:∀ h',Fr h h'->(s.length<1\/2<s.length)->lZ (fun v h'=>v=Uf (Am s)/\Fr h h') (st s) (.bool true) h':=by
  intro h' f hl
  unfold lZ aq
  rw[ae,if_pos rfl]
  refine⟨?_,f⟩
  have:Am s=0:=by
   match s with
   | []=>rfl
   | [a]=>simp at hl
   | [a,b]=>simp at hl
   | a :: b :: c :: l=>rfl
  rw[this];rfl
 rw[eY,Go.X.binOp_lss,aa,ag]
 by_cases U:s.length<1
 . rw[if_neg so];exact p h (Fr.refl _) (.inl U)
 rw[if_pos so,eY,Go.X.binOp_gtr,aa]
 by_cases h2:2<s.length
 . rw[decide_eq_true om];exact p h (Fr.refl _) (.inr h2)
 rw[decide_eq_false om]
 unfold lZ aq
 rw[ae,if_neg sm]
 obtain⟨v2,g,c1,c2,c3⟩:=AF kH pY yj h s
 rw[c1,aa]
 show blt EE g .len #[90] [v2] _
 rw[c3.len TB,List.length_map]
 refine aL.ind (fun I h'=>h'=g/\∃ i:Nat,I=[vI (nq (s.take i)),v2,vI s.length,vI i]/\i<=s.length/\(s.take i).all bN=true) (fun I _=>match aI I 3 with | .int _ i=>s.length-i.toNat | _=>0) ?_ ⟨rfl,0,rfl,Nat.zero_le _,rfl⟩
 rintro I h' ⟨rfl,i,rfl,hi,ha⟩
 show tp _ _ (vI (nq (s.take i))) v2 (vI s.length) (vI i) h'
 unfold tp aq
 have hc:=Aaf (s.take i) ha so
 rw[bI,aa,ae]
 by_cases j:i<s.length
 . rw[if_pos (by simp[j])]
   have J:i<(s.map fun b=>v8 b.toNat).length:=sp j
   rw[c3.rd J,List.getElem_map,Go.X.binOp_lss,aa,ag]
   have bad:bN s[i]=false->kB (fun v o=>v=Uf (Am s)/\Fr h o) (fun C o=>(o=h'/\∃ i:Nat,C=[vI (nq (s.take i)),v2,vI s.length,vI i]/\i<=s.length/\(s.take i).all bN=true)/\(match aI C 3 with | .int _ i=>s.length-i.toNat | _=>0)<(match aI [vI (nq (s.take i)),v2,vI s.length,vI i] 3 with | .int _ i=>s.length-i.toNat | _=>0)) (vI (nq (s.take i))) (v8 s[i].toNat) v2 (vI s.length) (vI i) (.bool true) h':=by
    intro q
    unfold kB aq
    rw[ae,if_pos rfl,W7 s i j q]
    exact⟨rfl,c2⟩
   by_cases q1:s[i].toNat<65
   . rw[if_neg so];exact bad (wU.2 (.inl q1))
   . rw[if_pos so,Go.X.binOp_gtr,aa]
     by_cases q2:90<s[i].toNat
     . rw[decide_eq_true om];exact bad (wU.2 (.inr q2))
     . rw[decide_eq_false om]
       unfold kB aq
       have e1:X.binOp EE .sub 5 (v8 s[i].toNat) (.int .u8 65)=some (v8 (s[i].toNat-65)):=by
        show X.binOp EE .sub 5 (v8 s[i].toNat) (v8 65)=_
        rw[uK _ _ _ _ _ om,wrap_u8,Nat.mod_eq_of_lt om]
       rw[ae,if_neg sm,ZQ om om,aa,e1,aa,dI yj Zh,aa]
       show af (X.binOp EE .add 3 (.int .i64 (26 * (nq (s.take i):Int))) (.int .i64 (IntKind.i64.wrap ((s[i].toNat-65:Nat):Int)))) _
       rw[wrap_i64 om,u6 om om,aa,u6 om om,aa,u6 om om,aa]
       refine⟨⟨rfl,i+1,?_,j,by rw[cQ _ _ _ j,ha,vG.2 ⟨om,om⟩];rfl⟩,?_⟩
       . rw[UF s i j]
         show [Value.int .i64 (26 * (nq (s.take i):Int)+((s[i].toNat-65:Nat):Int)+1),v2,vI s.length,.int .i64 ((i:Int)+1)]=_
         rw[show (26 * (nq (s.take i):Int)+((s[i].toNat-65:Nat):Int)+1)=((26 * nq (s.take i)+(s[i].toNat-65)+1:Nat):Int) by omega];rfl
       . show s.length-((i:Int)+1).toNat<s.length-(i:Int).toNat
         omega
 . have R:i=s.length:=om
   subst R
   rw[List.take_length] at ha hc ⊢
   rw[if_neg sm]
   refine ar (wP _ _ h') ?_
   rw[aY,aa,ae,UG s om om ha]
   have:1<=nq s:=by
    match s with
    | []=>simp at U
    | [a]=>simp[nq]
    | [a,b]=>simp[nq]
    | a :: b :: c :: l=>simp at h2
   by_cases q:nq s<=52
   . rw[if_neg so,if_pos q]
     refine⟨?_,c2⟩
     unfold Uf
     rw[decide_eq_true (show nq s≠0 by omega)]
   . rw[if_pos so,if_neg q]
     exact⟨rfl,c2⟩
theorem Kk (b:List UInt8):vJ b=true<->1<=b.length/\b.length<=3/\b.all aR=true/\b.head?≠some 48:=by unfold vJ;simp only[Bool.and_eq_true,decide_eq_true_eq];constructor <;> (rintro h;simp_all)
theorem Gb {b:List UInt8} (h:¬ (1<=b.length/\b.length<=3/\b.all aR=true/\b.head?≠some 48)):vJ b=false:=by
 cases q:vJ b with
 | false=>rfl
 | true=>exact absurd ((Kk b).1 q) h
theorem QD (l:List UInt8) (h:l.all aR=true) (hl:l.length<=3):dX l<1000:=by
 match l,h with
 | [],_=>simp[dX]
 | [a],h=>simp[aR] at h;simp[dX];omega
 | [a,b],h=>simp[aR] at h;simp[dX];omega
 | [a,b,c],h=>simp[aR] at h;simp[dX];omega
 | a :: b :: c :: d :: l,_=>simp at hl
theorem UH (l:List UInt8) (i:Nat) (hi:i<l.length):dX (l.take (i+1))=dX (l.take i) * 10+(l[i].toNat-48):=by
 rw[List.take_add_one,List.getElem?_eq_getElem hi,Option.toList_some];unfold dX;rw[List.foldl_append];rfl
def Oz (b:List UInt8):Value:=.tuple ⟨[vI (if vJ b=true then dX b else 0),.bool (vJ b)]⟩
theorem FH (s:List UInt8) (h:H):ai PP ve [st s] h (.v (Oz s) h):=by
 refine aj.pure (HI ?_) (by unfold Oz;simp[flat])
 unfold E2 aq
 have o:∀ h',Fr h h'->vJ s=false->iL (fun v h'=>v=Oz s/\Fr h h') (st s) (.bool true) h':=by
  intro h' f q
  unfold iL Oz aq
  rw[ae,if_pos rfl,q]
  exact⟨rfl,f⟩
 rw[GH,Go.X.bf,aa,ag]
 by_cases h0:s=[]
 . rw[if_neg (by simp[h0])];exact o h (Fr.refl _) (Gb (by simp[h0]))
 rw[if_pos (by simp[h0]),eY,Go.X.binOp_gtr,aa,ag]
 by_cases h1:3<s.length
 . rw[if_neg so];exact o h (Fr.refl _) (Gb om)
 obtain⟨c,r,rfl⟩:=List.exists_cons_of_ne_nil h0
 rw[if_pos (by simp at h1 ⊢;omega),WI,aa,Go.X.ak,aa]
 by_cases h2:c=48
 . rw[decide_eq_true (by subst h2;rfl)];exact o h (Fr.refl _) (Gb (by simp[h2]))
 have J:¬ (c.toNat:Int)=48:=fun e=>h2 (UInt8.toNat_inj.1 (by show c.toNat=48;omega))
 rw[decide_eq_false J]
 have hh:(c :: r).head?≠some 48:=sp h2
 have hlen:1<=(c :: r).length:=sm
 generalize c :: r=s at *
 unfold iL aq
 rw[ae,if_neg sm]
 obtain⟨v2,g,c1,c2,c3⟩:=AF kH pY yj h s
 rw[c1,aa]
 show blt EE g .len #[90] [v2] _
 rw[c3.len TB,List.length_map]
 refine aL.ind (fun I h'=>h'=g/\∃ i:Nat,I=[vI (dX (s.take i)),v2,vI s.length,vI i]/\i<=s.length/\(s.take i).all aR=true) (fun I _=>match aI I 3 with | .int _ i=>s.length-i.toNat | _=>0) ?_ ⟨rfl,0,rfl,Nat.zero_le _,rfl⟩
 rintro I h' ⟨rfl,i,rfl,hi,ha⟩
 show ru _ _ (vI (dX (s.take i))) v2 (vI s.length) (vI i) h'
 unfold ru aq
 have hc:=QD (s.take i) ha so
 rw[bI,aa,ae]
 by_cases j:i<s.length
 . rw[if_pos (by simp[j])]
   have R:i<(s.map fun b=>v8 b.toNat).length:=sp j
   rw[c3.rd R,List.getElem_map,Go.X.binOp_lss,aa,ag]
   have bad:aR s[i]=false->jG (fun v p=>v=Oz s/\Fr h p) (fun C p=>(p=h'/\∃ i:Nat,C=[vI (dX (s.take i)),v2,vI s.length,vI i]/\i<=s.length/\(s.take i).all aR=true)/\(match aI C 3 with | .int _ i=>s.length-i.toNat | _=>0)<(match aI [vI (dX (s.take i)),v2,vI s.length,vI i] 3 with | .int _ i=>s.length-i.toNat | _=>0)) (vI (dX (s.take i))) (v8 s[i].toNat) v2 (vI s.length) (vI i) (.bool true) h':=by
    intro q
    unfold jG Oz aq
    rw[ae,if_pos rfl,Gb (fun e=>by have:=kN _ s i j q;rw[this] at e;exact absurd e.2.2.1 sm)]
    exact⟨rfl,c2⟩
   by_cases q1:s[i].toNat<48
   . rw[if_neg so];exact bad (LR.2 (.inl q1))
   . rw[if_pos so,Go.X.binOp_gtr,aa]
     by_cases q2:57<s[i].toNat
     . rw[decide_eq_true om];exact bad (LR.2 (.inr q2))
     . rw[decide_eq_false om]
       unfold jG aq
       have e1:X.binOp EE .sub 5 (v8 s[i].toNat) (.int .u8 48)=some (v8 (s[i].toNat-48)):=by
        show X.binOp EE .sub 5 (v8 s[i].toNat) (v8 48)=_
        rw[uK _ _ _ _ _ om,wrap_u8,Nat.mod_eq_of_lt om]
       rw[ae,if_neg sm,ZQ om om,aa,e1,aa,dI yj Zh,aa]
       show af (X.binOp EE .add 3 (.int .i64 (10 * (dX (s.take i):Int))) (.int .i64 (IntKind.i64.wrap ((s[i].toNat-48:Nat):Int)))) _
       rw[wrap_i64 om,u6 om om,aa,u6 om om,aa]
       refine⟨⟨rfl,i+1,?_,j,by rw[cQ _ _ _ j,ha,DW.2 ⟨om,om⟩];rfl⟩,?_⟩
       . rw[UH s i j]
         show [Value.int .i64 (10 * (dX (s.take i):Int)+((s[i].toNat-48:Nat):Int)),v2,vI s.length,.int .i64 ((i:Int)+1)]=_
         rw[show (10 * (dX (s.take i):Int)+((s[i].toNat-48:Nat):Int))=((dX (s.take i) * 10+(s[i].toNat-48):Nat):Int) by omega];rfl
       . show s.length-((i:Int)+1).toNat<s.length-(i:Int).toNat
         omega
 . have U:i=s.length:=om
   subst U
   rw[List.take_length] at ha hc ⊢
   rw[if_neg sm]
   unfold Oz
   rw[(Kk s).2 ⟨hlen,om,ha,hh⟩]
   exact⟨rfl,c2⟩
section
variable {t n b:Nat} {h h':H} {cs:List Value} {e:TypeId} {osz ib:Nat} {ro:Bool}
theorem AcB (j:(EE.dO t).map (·.agg)=some true) (sz:EE.size t=some n) (hr:h'.row b=some ⟨cs,e,osz,ib,ro⟩) (hn:cs.length=n) :
 ((addrOf (pT b)).bind fun o=>(X.loadVar EE h' t o).bind fun p=>(some []).map (p :: ·))=some [.agg ⟨cs⟩]:=by
 rw[km,Option.bind_some,ZK j sz hr hn];rfl
theorem EW (j:(EE.dO t).map (·.agg)=some true) (sz:EE.size t=some n) (hr:h'.row b=some ⟨cs,e,osz,ib,ro⟩) (hn:cs.length=n) (x:Value) :
 ((addrOf (pT b)).bind fun o=>(X.loadVar EE h' t o).bind fun p=>((some []).map (x :: ·)).map (p :: ·))=some [.agg ⟨cs⟩,x]:=by
 rw[km,Option.bind_some,ZK j sz hr hn];rfl
theorem R_ (j:(EE.dO t).map (·.agg)=some true) (sz:EE.size t=some n) (hr:h'.row b=some ⟨cs,e,osz,ib,ro⟩) (hn:cs.length=n) (x y:Value) :
 ((addrOf (pT b)).bind fun o=>(X.loadVar EE h' t o).bind fun p=>(((some []).map (y :: ·)).map (x :: ·)).map (p :: ·))=some [.agg ⟨cs⟩,x,y]:=by
 rw[km,Option.bind_some,ZK j sz hr hn];rfl
theorem Ug {h0:H} (C:(EE.dO t).map (·.agg)=some true) (sz:EE.size t=some n) (F:Fr h0 h) (hb:h0.next<=b) (hr:h.row b=some ⟨cs,e,osz,0,false⟩) (hn:cs.length=n) {j:List Value} (o:j.length=n) (ha:da j=true) (x:Value) {Z:Value} (hz:.tuple ⟨[.agg ⟨j⟩,x]⟩=Z) :
 af (wa n h (pT b) (.agg ⟨j⟩)) (fun p=>af ((addrOf (pT b)).bind fun I=>(X.loadVar EE p t I).bind fun J=>((some []).map (x :: ·)).map (J :: ·)) fun vs=>(fun v h'=>v=Z/\Fr h0 h') (cN vs) p):=by
 refine lV hr o hn ha fun U f4 R n4=>?_
 rw[EW C sz R o,aa]
 exact⟨hz,f4.fr F hb⟩
theorem stG {h0:H} (C:(EE.dO t).map (·.agg)=some true) (sz:EE.size t=some n) (F:Fr h0 h) (hb:h0.next<=b) (hr:h.row b=some ⟨cs,e,osz,0,false⟩) (hn:cs.length=n) {j:List Value} (o:j.length=n) (ha:da j=true) {Z:Value} (hz:.agg ⟨j⟩=Z) :
 af (wa n h (pT b) (.agg ⟨j⟩)) (fun p=>af ((addrOf (pT b)).bind fun I=>(X.loadVar EE p t I).bind fun J=>(some []).map (J :: ·)) fun vs=>(fun v h'=>v=Z/\Fr h0 h') (cN vs) p):=by
 refine lV hr o hn ha fun U f4 R n4=>?_
 rw[AcB C sz R o,aa]
 exact⟨hz,f4.fr F hb⟩
end
theorem WG:(EE.dO 51).map (·.agg)=some true:=by kernel_rfl
theorem Acr:(EE.dO 182).map (·.agg)=some true:=by kernel_rfl
theorem Aep:bC EE 182 []=some (WC ar0):=by kernel_rfl
theorem bAr (a b c d:Int):bC EE 182 [(0,.int .i64 a),(1,.int .i64 b),(2,.int .i64 c),(3,.int .i64 d)]=some (WC ⟨a,b,c,d⟩):=by kernel_rfl
theorem zT {c r:Int}:u5 c r=true<->1<=c/\c<=52/\1<=r/\r<=99:=by unfold u5;simp;omega
theorem AeT {c r:Int}:u5 c r=false<->¬ (1<=c/\c<=52/\1<=r/\r<=99):=by rw[<-zT];simp
theorem UK (n:Nat) (hn:n<100) (h:H):ai PP gZ [vI n] h (.v (st (eI n)) h):=by
 refine aj.pure (tP ?_) (by simp[flat])
 unfold nZ aq
 rw[Go.X.binOp_lss,aa,ae]
 by_cases o:n<10
 . rw[if_pos so,u6 om om,aa]
   have hd:∀ m:Fin 10,(([48,49,50,51,52,53,54,55,56,57,97,98,99,100,101,102,103,104,105,106,107,108,109,110,111,112,113,114,115,116,117,118,119,120,121,122]:List UInt8).take (m.val+1)).drop m.val=eI m.val:=by
    intro m
    have:eI m.val=[UInt8.ofNat (48+m.val)]:=by rw[eI];rw[dif_pos m.isLt]
    rw[this];clear this;revert m;decide
   rw[show ((n:Int)+1)=((n+1:Nat):Int) by omega]
   show af (aO EE h 9 (st [48,49,50,51,52,53,54,55,56,57,97,98,99,100,101,102,103,104,105,106,107,108,109,110,111,112,113,114,115,116,117,118,119,120,121,122]) (some (vI n)) (some (vI (n+1))) none) _
   rw[Qn om so,aa]
   exact⟨by rw[hd ⟨n,o⟩],Fr.refl _⟩
 . rw[if_neg so,ZQ om om,aa,aa,u6 om om,aa]
   rw[show ((n:Int) * 2)=((2 * n:Nat):Int) by omega,show (((2 * n:Nat):Int)+2)=((2 * n+2:Nat):Int) by omega]
   have e:∀ m:Fin 100,10<=m.val->∀ L:List UInt8,L=((List.range 100).flatMap fun i=>[UInt8.ofNat (48+i / 10),UInt8.ofNat (48+i % 10)])->(L.take (2 * m.val+2)).drop (2 * m.val)=[UInt8.ofNat (48+m.val / 10),UInt8.ofNat (48+m.val % 10)]:=by
    intro m _ L p;subst p;revert m;decide
   have C:eI n=[UInt8.ofNat (48+n / 10),UInt8.ofNat (48+n % 10)]:=by
    rw[eI,dif_neg o,eI,dif_pos om];rfl
   refine (congrFun (congrArg af (Qn (h:=h) (l:=((List.range 100).flatMap fun i=>[UInt8.ofNat (48+i / 10),UInt8.ofNat (48+i % 10)])) (i:=2 * n) (j:=2 * n+2) om (by rw[show ((List.range 100).flatMap fun i=>[UInt8.ofNat (48+i / 10),UInt8.ofNat (48+i % 10)]).length=200 by decide];omega))) _).mpr ?_
   rw[aa,e ⟨n,hn⟩ (by show 10<=n;omega) _ rfl,C]
   exact⟨rfl,Fr.refl _⟩
theorem W_ (n:Nat) (hn:n<100) (h:H):ai PP tq [vI n] h (.v (st (eI n)) h):=by
 refine aj.pure (FJ ?_) (by simp[flat])
 unfold CN aq
 refine ar (v:=st (eI n)) (h':=h) (aj.pure (vf ?_) (by simp[flat])) ⟨rfl,Fr.refl _⟩
 unfold oL aq
 refine ar (v:=st (eI n)) (h':=h) (aj.pure (qG ?_) (by simp[flat])) ⟨rfl,Fr.refl _⟩
 unfold kC aq
 rw[Go.X.ak,aa,ae,if_pos sm,Go.X.binOp_leq,aa,ag,if_pos sm,Go.X.binOp_lss,aa,decide_eq_true om]
 unfold eS aq
 rw[ae,if_pos rfl]
 exact ar (UK n hn h) ⟨rfl,Fr.refl _⟩
theorem CD (n:Int):(re n).length<=2:=by
 unfold re;split
 . simp
 . split <;> simp
theorem zU (n:Nat) (h:n<100):(eI n).length<=2:=by
 rw[eI]
 split
 . simp
 . rw[eI,dif_pos om];simp
theorem Jd (c r:Int) (h:H):ai PP zk [.int .i64 c,.int .i64 r] h (.v (st (LC c r)) h):=by
 refine aj.pure (Mg ?_) (by simp[flat])
 unfold Kr LC aq
 refine ar (mW c r h) ?_
 rw[aY,aa,ae]
 by_cases j:u5 c r=true
 . rw[if_neg (by simp[j]),if_pos j]
   have hr:=zT.1 j
   obtain⟨m,rfl⟩:∃ m:Nat,r=(m:Int):=⟨r.toNat,om⟩
   refine ar (wR c h) ?_
   refine ar (W_ m om h) ?_
   have o:=CD c
   have h2:=zU m om
   rw[Bq _ _ om,aa]
   exact⟨rfl,Fr.refl _⟩
 . rw[if_pos (sp j),if_neg j]
   exact⟨rfl,Fr.refl _⟩
theorem Aak (s:List UInt8):fk s<=s.length:=EP s
theorem Hl (s:List UInt8) (hb:s.length<=bl) (h:H):ai PP xi [st s] h (.v (RY (yU s)) h):=by
 have J:bl=1000000000:=rfl
 refine aj.pure (Jx ?_) (by unfold RY;simp[flat])
 unfold HP aq
 refine ar (Hx s hb h) ?_
 simp only[au,ao,ay,aa]
 refine ar (FH _ h) ?_
 unfold Oz
 simp only[au,ao,ay,aa,aY,ag]
 have hk:=Aak s
 have j:(s.take (fk s)).length=fk s:=so
 have bad:∀ x,(vJ (s.drop (fk s))=false\/fk s<1\/2<fk s)->iN (fun v h'=>v=RY (yU s)/\Fr h h') x (st (s.take (fk s))) (.bool true) h:=by
  intro x q
  unfold iN yU aq
  rw[ae,if_pos rfl,if_pos q]
  exact⟨rfl,Fr.refl _⟩
 by_cases C:vJ (s.drop (fk s))=true
 . simp only[C,if_true]
   rw[if_pos sm,eY,j,Go.X.binOp_lss,aa,ag]
   by_cases h2:fk s<1
   . rw[if_neg so];exact bad _ (.inr (.inl h2))
   rw[if_pos so,eY,j,Go.X.binOp_gtr,aa]
   by_cases R:2<fk s
   . rw[decide_eq_true om];exact bad _ (.inr (.inr R))
   rw[decide_eq_false om]
   unfold iN yU aq
   rw[ae,if_neg sm,if_neg (by simp[C];omega)]
   refine ar (HF _ h) ?_
   unfold Uf
   simp only[au,ao,ay,aa,aY,ag]
   by_cases I:Am (s.take (fk s))=0
   . rw[if_neg (by simp[I])]
     unfold od aq
     rw[ae,if_pos rfl,if_pos (by rw[I];exact AeT.2 om)]
     exact⟨rfl,Fr.refl _⟩
   . rw[if_pos (by simp[I])]
     refine ar (mW _ _ h) ?_
     rw[aY,aa]
     unfold od aq
     rw[ae]
     by_cases p:u5 (Am (s.take (fk s)):Nat) (dX (s.drop (fk s)):Nat)=true
     . rw[if_neg (by simp[p]),if_neg (by simp[p])]
       exact⟨rfl,Fr.refl _⟩
     . rw[if_pos (sp p),if_pos (sp p)]
       exact⟨rfl,Fr.refl _⟩
 . have o:vJ (s.drop (fk s))=false:=sp C
   rw[if_neg (by simp[o])]
   exact bad _ (.inl o)
theorem Kf (c:UInt8):mZ c=decide ((65<=c.toNat/\c.toNat<=90)\/(97<=c.toNat/\c.toNat<=122)):=by
 unfold mZ bN uq;simp
theorem vH (c:UInt8):aR c=decide (48<=c.toNat/\c.toNat<=57):=by
 unfold aR;simp
theorem tt (c:UInt8) (h:H):ai PP oe [.int .u8 (c.toNat:Int)] h (.v (.bool (mZ c)) h):=by
 refine aj.pure (Jy ?_) (by simp[flat])
 unfold HQ jS aq
 simp only[Go.X.binOp_geq,Go.X.binOp_leq,aa,ag,Kf,decide_eq_true_eq,decide_eq_false_iff_not]
 repeat' split
 all_goals first | exact⟨congrArg Value.bool (decide_eq_decide.2 om),Fr.refl _⟩ | exact⟨by rw[decide_eq_true om],Fr.refl _⟩ | exact⟨by rw[decide_eq_false om],Fr.refl _⟩
theorem AY (c:UInt8) (h:H):ai PP uC [.int .u8 (c.toNat:Int)] h (.v (.bool (aR c)) h):=by
 refine aj.pure (Mh ?_) (by simp[flat])
 unfold Ks xj aq
 simp only[Go.X.binOp_geq,Go.X.binOp_leq,aa,ag,vH,decide_eq_true_eq,decide_eq_false_iff_not]
 repeat' split
 all_goals first | exact⟨congrArg Value.bool (decide_eq_decide.2 om),Fr.refl _⟩ | exact⟨by rw[decide_eq_true om],Fr.refl _⟩ | exact⟨by rw[decide_eq_false om],Fr.refl _⟩
theorem SD {c:UInt8} (h:uq c=true):(WU c).toNat=c.toNat-32:=by
 have:=DY.1 h
 unfold WU;rw[if_pos h,ofNat_toNat om]
theorem SE {c:UInt8} (h:uq c=false):WU c=c:=by unfold WU;rw[if_neg (by simp[h])]
theorem US (c:UInt8):uq (WU c)=false:=by
 cases q:uq c with
 | true=>rw[LV,SD q];have:=DY.1 q;omega
 | false=>rw[SE q];exact q
theorem CO (s:List UInt8):(BV s).length=s.length:=by simp[BV]
inductive Jz (h0 h:H):Value->List UInt8->Prop
 | at (b:Nat) (l:List UInt8) (gz:h0.next<=b) (hb:b<h.next) (hr:h.row b=some ⟨l.map fun b=>v8 b.toNat,5,1,0,false⟩):Jz h0 h (.slice (some ⟨b,0,none⟩) l.length l.length) l
theorem Jz.read {h0 h:H} {v:Value} {l:List UInt8} (r:Jz h0 h v l):bk h v (l.map fun b=>v8 b.toNat):=by
 cases r with
 | «at» b _ gz hb hr =>
  have:=bk.at (h:=h) b 0 l.length (l.map fun b=>v8 b.toNat) hb ⟨_,hr,by simp;exact List.take_of_length_le sm⟩ sm
  simpa using this
theorem Ae0 (h:H) (l:List UInt8):∃ v h',aT EE h 9 90 (st l)=some (v,h')/\Fr h h'/\Jz h h' v l:=by
 refine⟨.slice (some ⟨h.next,0,none⟩) l.length l.length,X.newRow h 5 (eN l) 1,?_,lB (Fr.refl h) _ _ _,?_⟩
 . unfold aT
   rw[kH,Option.bind_some,pY,Option.bind_some]
   show (EE.under 5).bind _=_
   rw[yj,Option.bind_some]
   show some (Value.slice (some ⟨h.next,0,none⟩) (X.len l) (X.len l),X.newRow h 5 (eN l) 1)=_
   rw[br]
 . exact .at h.next l nlr sm (by rw[aS,if_pos rfl,wz])
theorem Jz.set {h0 h:H} {v:Value} {l:List UInt8} (r:Jz h0 h v l) {i:Nat} (hi:i<l.length) (x:UInt8) {K:H->Prop}
 (j:∀ b h',h0.next<=b->eV b h h'->Jz h0 h' v (l.set i x)->K h'):af (AB 1 v (vI i)) fun p=>af (wa 1 h p (v8 x.toNat)) K:=by
 cases r with
 | «at» b _ gz hb hr =>
  rw[Kt,if_pos ⟨om,sp hi⟩,aa,tT _ _ _ _ _ rfl,if_pos rfl,bK,hr]
  simp only[Option.bind_some,Int.toNat_natCast,Nat.zero_add,Nat.mul_one]
  rw[if_pos ⟨trivial,Nat.zero_le _,so,rfl⟩,aa]
  refine j b _ gz (eV.put h b _) ?_
  rw[xk _ i _ (sp hi)]
  have:=Jz.at (h0:=h0) (h:=h.put b (.row ⟨(l.set i x).map fun b=>v8 b.toNat,5,1,0,false⟩)) b (l.set i x) gz hb (by rw[eH,if_pos rfl])
  rw[List.length_set,List.map_set] at this
  exact this
def PO (s:List UInt8) (i:Nat):List UInt8:=BV (s.take i)++s.drop i
theorem XC (s:List UInt8):PO s 0=s:=by simp[PO,BV]
theorem Aal (s:List UInt8):PO s s.length=BV s:=by simp[PO]
theorem Mi (s:List UInt8) (i:Nat):(PO s i).length=s.length:=by simp[PO,CO];omega
theorem SF (s:List UInt8) (i:Nat) (hi:i<s.length):(PO s i)[i]'(by rw[Mi];exact hi)=s[i]:=by
 unfold PO
 rw[List.getElem_append_right (by rw[CO];simp;omega)]
 simp[CO,Nat.min_eq_left (Nat.le_of_lt hi)]
theorem OO (s:List UInt8) (i:Nat) (hi:i<s.length):PO s (i+1)=(PO s i).set i (WU s[i]):=by
 unfold PO
 have hl:(BV (s.take i)).length=i:=by simp[CO];omega
 rw[List.set_append_right _ _ om,hl,Nat.sub_self,List.drop_eq_getElem_cons hi,List.set_cons_zero,List.take_add_one,List.getElem?_eq_getElem hi,Option.toList_some]
 show (List.map WU (s.take i++[s[i]]))++_=List.map WU (s.take i)++_
 rw[List.map_append,List.append_assoc];rfl
theorem FL (s:List UInt8) (hb:s.length<=bl) (h:H):ai PP vj [st s] h (.v (st (BV s)) h):=by
 have qS:bl=1000000000:=rfl
 refine aj.pure (HR ?_) (by simp[flat])
 unfold E3 aq
 obtain⟨v2,g,c1,c2,U⟩:=Ae0 h s
 rw[c1,aa]
 show blt EE g .len #[90] [v2] _
 rw[U.read.len TB,List.length_map]
 refine aL.ind (fun I h'=>Fr h h'/\∃ i:Nat,I=[v2,v2,vI s.length,vI i]/\i<=s.length/\Jz h h' v2 (PO s i)) (fun I _=>match aI I 3 with | .int _ i=>s.length-i.toNat | _=>0) ?_ ⟨c2,0,rfl,Nat.zero_le _,by rw[XC];exact U⟩
 rintro I h' ⟨fr,i,rfl,hi,p⟩
 show tu _ _ v2 v2 (vI s.length) (vI i) h'
 unfold tu aq
 rw[bI,aa,ae]
 by_cases j:i<s.length
 . rw[if_pos (by simp[j])]
   have J:i<((PO s i).map fun b=>v8 b.toNat).length:=by rw[List.length_map,Mi];exact j
   rw[p.read.rd J,List.getElem_map,SF s i j]
   have skip:uq s[i]=false->jH (fun v o=>v=st (BV s)/\Fr h o) (fun C o=>(Fr h o/\∃ i:Nat,C=[v2,v2,vI s.length,vI i]/\i<=s.length/\Jz h o v2 (PO s i))/\(match aI C 3 with | .int _ i=>s.length-i.toNat | _=>0)<(match aI [v2,v2,vI s.length,vI i] 3 with | .int _ i=>s.length-i.toNat | _=>0)) v2 (vI i) (v8 s[i].toNat) v2 (vI s.length) (vI i) (.bool false) h':=by
    intro q
    unfold jH mq aq
    rw[ae,if_neg sm,u6 om om,aa]
    refine⟨⟨fr,i+1,rfl,j,?_⟩,?_⟩
    . rw[OO s i j,SE q]
      have e:(PO s i).set i s[i]=PO s i:=by
       have:=SF s i j
       conv=>lhs;rw[<-this]
       exact List.set_getElem_self _
      rw[e];exact p
    . show s.length-((i:Int)+1).toNat<s.length-(i:Int).toNat
      omega
   rw[Go.X.binOp_geq,aa,ag]
   by_cases q1:97<=s[i].toNat
   . rw[if_pos so,Go.X.binOp_leq,aa]
     by_cases q2:s[i].toNat<=122
     . rw[decide_eq_true om]
       unfold jH aq
       have e1:X.binOp EE .sub 5 (v8 s[i].toNat) (.int .u8 97)=some (v8 (s[i].toNat-97)):=by
        show X.binOp EE .sub 5 (v8 s[i].toNat) (v8 97)=_
        rw[uK _ _ _ _ _ om,wrap_u8,Nat.mod_eq_of_lt om]
       have e2:X.binOp EE .add 5 (v8 (s[i].toNat-97)) (.int .u8 65)=some (v8 (WU s[i]).toNat):=by
        show X.binOp EE .add 5 (v8 (s[i].toNat-97)) (v8 65)=_
        rw[fq,wrap_u8,Nat.mod_eq_of_lt om,SD (DY.2 ⟨q1,q2⟩)]
        congr 3;omega
       rw[ae,if_pos rfl,e1,aa,e2,aa]
       refine p.set (by rw[Mi];exact j) (WU s[i]) fun b h2 gz x2 o2=>?_
       unfold mq aq
       rw[u6 om om,aa]
       refine⟨⟨x2.fr fr gz,i+1,rfl,j,?_⟩,?_⟩
       . rw[OO s i j];exact o2
       . show s.length-((i:Int)+1).toNat<s.length-(i:Int).toNat
         omega
     . rw[decide_eq_false om];exact skip (LV.2 (.inr om))
   . rw[if_neg so];exact skip (LV.2 (.inl om))
 . rw[if_neg (by simp[j])]
   have R:i=s.length:=om
   subst R
   rw[Aal] at p
   rw[Nf pY yj kH p.read,aa]
   exact⟨rfl,fr⟩
theorem Kc {s:List UInt8} {i:Nat} (hi:i<=s.length) (ha:(s.take i).all bN=true) (hn:∀ h:i<s.length,bN s[i]=false):fk s=i:=LG hi ha hn
def XD (s:List UInt8):Prop:=∀ c ∈ s,uq c=false
theorem UT (s:List UInt8):XD (BV s):=by
 intro c hc
 unfold BV at hc
 obtain⟨d,_,rfl⟩:=List.mem_map.1 hc
 exact US d
theorem UU {s:List UInt8} (h:XD s) {i:Nat} (hi:i<s.length):mZ s[i]=bN s[i]:=by
 unfold mZ;rw[h _ (List.getElem_mem hi),Bool.or_false]
theorem zl (s:List UInt8):LO s=decide (1<=fk s/\fk s<=2/\1<=s.length-fk s/\s.length-fk s<=3/\(s.drop (fk s)).all aR=true):=by
 unfold LO
 rw[Bool.eq_iff_iff];simp[and_assoc]
theorem CQ (s:List UInt8) (hl:XD s) (hb:s.length<=bl) (h:H):ai PP ry [st s] h (.v (.bool (LO s)) h):=by
 have qS:bl=1000000000:=rfl
 refine aj.pure (Ea ?_) (by simp[flat])
 unfold AZ aq
 refine aL.ind (fun C h'=>h'=h/\∃ i:Nat,C=[st s,vI i]/\i<=s.length/\(s.take i).all bN=true) (fun C _=>match aI C 1 with | .int _ i=>s.length-i.toNat | _=>0) ?_ ⟨rfl,0,rfl,Nat.zero_le _,rfl⟩
 rintro C h' ⟨rfl,i,rfl,hi,ha⟩
 show pe _ _ (st s) (vI i) h'
 have out:(∀ hl:i<s.length,bN s[i]=false)->iO (fun v p=>v=.bool (LO s)/\Fr h' p) (fun U p=>(p=h'/\∃ i:Nat,U=[st s,vI i]/\i<=s.length/\(s.take i).all bN=true)/\(match aI U 1 with | .int _ i=>s.length-i.toNat | _=>0)<(match aI [st s,vI i] 1 with | .int _ i=>s.length-i.toNat | _=>0)) (st s) (vI i) (.bool false) h':=by
  intro hn
  have hk:=Kc hi ha hn
  unfold iO aq
  rw[ae,if_neg sm,CB hi,aa]
  obtain⟨v2,g,c1,c2,c3⟩:=AF kH pY yj h' (s.drop i)
  rw[c1,aa]
  show blt EE g .len #[90] [v2] _
  rw[c3.len TB,List.length_map]
  generalize hd:s.drop i=d at *
  have Wb:d.length=s.length-i:=by rw[<-hd];simp
  refine aL.ind (fun C p=>p=g/\∃ j:Nat,C=[st s,vI i,v2,vI d.length,vI j]/\j<=d.length/\(d.take j).all aR=true) (fun C _=>match aI C 4 with | .int _ i=>d.length-i.toNat | _=>0) ?_ ⟨rfl,0,rfl,Nat.zero_le _,rfl⟩
  rintro C p ⟨rfl,j,rfl,hj,J⟩
  show og _ _ (st s) (vI i) v2 (vI d.length) (vI j) p
  unfold og aq
  rw[bI,aa,ae]
  by_cases o:j<d.length
  . rw[if_pos (by simp[o])]
    have vt:j<(d.map fun b=>v8 b.toNat).length:=sp o
    rw[c3.rd vt,List.getElem_map]
    refine ar (AY _ p) ?_
    rw[aY,aa,ae]
    by_cases R:aR d[j]=true
    . rw[if_neg (by simp[R]),u6 om om,aa]
      refine⟨⟨rfl,j+1,rfl,o,by rw[cQ _ _ _ o,J,R];rfl⟩,?_⟩
      show d.length-((j:Int)+1).toNat<d.length-(j:Int).toNat
      omega
    . have I:aR d[j]=false:=sp R
      rw[if_pos (by simp[I])]
      refine⟨?_,c2⟩
      rw[zl,hk,hd,decide_eq_false]
      rintro⟨_,_,_,_,q⟩
      rw[kN _ d j o I] at q
      exact absurd q sm
  . rw[if_neg (by simp[o])]
    have hje:j=d.length:=om
    subst hje
    rw[List.take_length] at J
    unfold gL aq
    rw[Go.X.binOp_geq,aa,ag]
    by_cases h1:1<=i
    . rw[if_pos so,Go.X.binOp_leq,aa,ag]
      by_cases h2:i<=2
      . rw[if_pos so,eY,Go.X.binOp_gtr,aa,ag]
        by_cases h3:i<s.length
        . rw[if_pos so,eY,u6 om om,aa,Go.X.binOp_leq,aa]
          refine⟨?_,c2⟩
          rw[zl,hk,hd]
          refine congrArg Value.bool (decide_eq_decide.2 ?_)
          constructor
          . intro q;exact⟨h1,h2,om,om,J⟩
          . rintro⟨_,_,_,q,_⟩;omega
        . rw[if_neg so]
          exact⟨by rw[zl,hk,decide_eq_false om],c2⟩
      . rw[if_neg so]
        exact⟨by rw[zl,hk,decide_eq_false om],c2⟩
    . rw[if_neg so]
      exact⟨by rw[zl,hk,decide_eq_false om],c2⟩
 unfold pe aq
 rw[eY,Go.X.binOp_lss,aa,ag]
 by_cases o:i<s.length
 . rw[if_pos (by simp[o]),wix o,aa]
   refine ar (tt _ h') ?_
   rw[UU hl o]
   by_cases hc:bN s[i]=true
   . rw[hc]
     unfold iO aq
     rw[ae,if_pos rfl,u6 om om,aa]
     refine⟨⟨rfl,i+1,rfl,o,by rw[cQ _ _ _ o,ha,hc];rfl⟩,?_⟩
     show s.length-((i:Int)+1).toNat<s.length-(i:Int).toNat
     omega
   . rw[Bool.not_eq_true] at hc
     rw[hc]
     exact out fun _=>hc
 . rw[if_neg (by simp[o])]
   exact out fun hl=>absurd hl o
def Zj (c:UInt8):Bool:=mZ c||aR c||decide (c=95)
theorem CA (s:List UInt8):r_ s=decide (1<=s.length/\s.length<=12/\(s.take 1).all mZ=true/\s.all Zj=true/\LO (BV s)=false/\BV s≠bT/\BV s≠bF):=by
 unfold r_
 rw[Bool.eq_iff_iff]
 simp only[Bool.and_eq_true,decide_eq_true_eq,Bool.not_eq_true',and_assoc]
 rfl
theorem Aam (c:UInt8) (j:mZ c=false) (h2:aR c=false):Zj c=decide (c=95):=by unfold Zj;rw[j,h2];rfl
theorem Qk (c:UInt8) (k:UInt8) (n:Int) (hk:(k.toNat:Int)=n):((c.toNat:Int)=n)<->c=k:=by
 subst hk
 constructor
 . intro e;exact UInt8.toNat_inj.1 om
 . rintro rfl;rfl
theorem u7 (s:List UInt8) (hb:s.length<=bl) (h:H):ai PP qH [st s] h (.v (.bool (r_ s)) h):=by
 have qS:bl=1000000000:=rfl
 refine aj.pure (Mj ?_) (by simp[flat])
 unfold Ku aq
 have bad:¬ (1<=s.length/\s.length<=12/\(s.take 1).all mZ=true/\s.all Zj=true/\LO (BV s)=false/\BV s≠bT/\BV s≠bF)->jB (fun v h'=>v=.bool (r_ s)/\Fr h h') (st s) (.bool true) h:=by
  intro q
  unfold jB aq
  rw[ae,if_pos rfl,CA,decide_eq_false q]
  exact⟨rfl,Fr.refl _⟩
 rw[GH,Go.X.bf,aa,ag]
 by_cases h0:s=[]
 . rw[if_neg (by simp[h0])];exact bad (by subst h0;simp)
 rw[if_pos (by simp[h0]),eY,Go.X.binOp_gtr,aa,ag]
 by_cases h1:12<s.length
 . rw[if_neg so];exact bad om
 obtain⟨c,r,p⟩:=List.exists_cons_of_ne_nil h0
 have e0:MV (st s) (.int .i64 0)=some (.int .u8 (c.toNat:Int)):=by rw[p];exact WI
 have C:(s.take 1).all mZ=mZ c:=by rw[p];simp
 have hl1:1<=s.length:=by rw[p];simp
 rw[if_pos so,e0,aa]
 refine ar (tt _ h) ?_
 rw[aY,aa]
 cases hc:mZ c with
 | false=>exact bad (by rw[C,hc];simp)
 | true =>
  show jB _ (st s) (.bool false) h
  unfold jB aq
  rw[ae,if_neg sm]
  obtain⟨v2,g,c1,c2,c3⟩:=AF kH pY yj h s
  rw[c1,aa]
  show blt EE g .len #[90] [v2] _
  rw[c3.len TB,List.length_map]
  refine aL.ind (fun U h'=>h'=g/\∃ i:Nat,U=[st s,v2,vI s.length,vI i]/\i<=s.length/\(s.take i).all Zj=true) (fun U _=>match aI U 3 with | .int _ i=>s.length-i.toNat | _=>0) ?_ ⟨rfl,0,rfl,Nat.zero_le _,rfl⟩
  rintro U h' ⟨rfl,i,rfl,hi,ha⟩
  show vk _ _ (st s) v2 (vI s.length) (vI i) h'
  unfold vk aq
  rw[bI,aa,ae]
  by_cases j:i<s.length
  . rw[if_pos (by simp[j])]
    have vt:i<(s.map fun b=>v8 b.toNat).length:=sp j
    rw[c3.rd vt,List.getElem_map]
    have J:∀ x:Bool,x=!(Zj s[i])->l8 (fun v o=>v=.bool (r_ s)/\Fr h o) (fun I o=>(o=h'/\∃ i:Nat,I=[st s,v2,vI s.length,vI i]/\i<=s.length/\(s.take i).all Zj=true)/\(match aI I 3 with | .int _ i=>s.length-i.toNat | _=>0)<(match aI [st s,v2,vI s.length,vI i] 3 with | .int _ i=>s.length-i.toNat | _=>0)) (st s) v2 (vI s.length) (vI i) (.bool x) h':=by
     rintro x rfl
     unfold l8 aq
     rw[ae]
     cases hn:Zj s[i] with
     | true =>
      rw[if_neg sm,u6 om om,aa]
      refine⟨⟨rfl,i+1,rfl,j,by rw[cQ _ _ _ j,ha,hn];rfl⟩,?_⟩
      show s.length-((i:Int)+1).toNat<s.length-(i:Int).toNat
      omega
     | false =>
      rw[if_pos sm,CA,decide_eq_false]
      . exact⟨rfl,c2⟩
      . rintro⟨_,_,_,q,_⟩
        rw[kN _ s i j hn] at q
        exact absurd q sm
    refine ar (tt _ h') ?_
    rw[aY,aa,ag]
    cases ql:mZ s[i] with
    | true=>rw[if_neg sm];exact J false (by unfold Zj;rw[ql];rfl)
    | false =>
     rw[if_pos sm]
     refine ar (AY _ h') ?_
     rw[aY,aa,ag]
     cases qd:aR s[i] with
     | true=>rw[if_neg sm];exact J false (by unfold Zj;rw[ql,qd];rfl)
     | false =>
      rw[if_pos sm,Go.X.sJ,aa]
      refine J _ ?_
      rw[Aam _ ql qd,<-decide_not]
      exact decide_eq_decide.2 (not_congr (Qk _ 95 95 rfl))
  . rw[if_neg (by simp[j])]
    have Zz:i=s.length:=om
    subst Zz
    rw[List.take_length] at ha
    refine ar (FL s hb h') ?_
    have base:r_ s=decide (LO (BV s)=false/\BV s≠bT/\BV s≠bF):=by
     rw[CA]
     refine decide_eq_decide.2 ⟨fun q=>q.2.2.2.2,fun q=>⟨hl1,om,by rw[C,hc],ha,q⟩⟩
    have no:(BV s=bT\/BV s=bF)->l_ (fun v o=>v=.bool (r_ s)/\Fr h o) (st (BV s)) (.bool true) h':=by
     intro q
     unfold l_ aq
     rw[ae,if_pos rfl,base,decide_eq_false (by rintro⟨_,q1,q2⟩;rcases q with q | q;exact q1 q;exact q2 q)]
     exact⟨rfl,c2⟩
    show af (X.binOp EE .eql 9 (st (BV s)) (st bT)) _
    rw[Go.X.bf,aa,ae]
    by_cases R:BV s=bT
    . rw[if_pos (sp R),decide_eq_true R];exact no (.inl R)
    rw[if_neg (sp R)]
    show af (X.binOp EE .eql 9 (st (BV s)) (st bF)) _
    rw[Go.X.bf,aa]
    by_cases hF:BV s=bF
    . rw[decide_eq_true hF];exact no (.inr hF)
    rw[decide_eq_false hF]
    unfold l_ aq
    rw[ae,if_neg sm]
    refine ar (CQ _ (UT s) (by rw[CO];exact hb) h') ?_
    rw[aY,aa,base]
    refine⟨?_,c2⟩
    cases LO (BV s) <;> simp[R,hF]
end Go.Proofs.YtikojelnedfmpaaGreatDoor
namespace Go.X
open Go
structure Kd (α:Type) where
 c:α->List Value
 k:Nat
 z:α
 pos:0<k
 len:∀ a,(c a).length=k
 one:∀ a,da (c a)=true
theorem RA (a b:List Value):da (a++b)=(da a&&da b):=by
 induction a with
 | nil=>simp
 | cons v a j=>simp[j,Bool.and_assoc]
section
variable {α:Type} (D:Kd α)
def Kd.val (a:α):Value:=.agg ⟨D.c a⟩
def Kd.flat (l:List α):List Value:=l.flatMap D.c
theorem Kd.Y7:D.flat []=[]:=rfl
theorem Kd.Ai (a:α) (l:List α):D.flat (a :: l)=D.c a++D.flat l:=rfl
theorem Kd.v7 (a b:List α):D.flat (a++b)=D.flat a++D.flat b:=by simp[Kd.flat]
theorem Kd.CH (a:α):D.flat [a]=D.c a:=by rw[D.Ai,D.Y7,List.append_nil]
theorem Kd.md (l:List α):(D.flat l).length=D.k * l.length:=by
 induction l with
 | nil=>rfl
 | cons a l j=>rw[D.Ai,List.length_append,j,D.len,List.length_cons,Nat.mul_succ];omega
theorem Kd.Y8 (l:List α):da (D.flat l)=true:=by
 induction l with
 | nil=>rfl
 | cons a l j=>rw[D.Ai,RA,j,D.one];rfl
theorem Kd.Vy (n:Nat):dZ (D.c D.z) n=D.flat (List.replicate n D.z):=by
 induction n with
 | zero=>rfl
 | succ n j=>show cW (D.c D.z) (dZ (D.c D.z) n)=_;rw[dF,j];rfl
theorem Kd.D5 (l:List α) (n:Nat):(D.flat l).take (D.k * n)=D.flat (l.take n):=by
 by_cases h:n<=l.length
 . have j:D.flat l=D.flat (l.take n)++D.flat (l.drop n):=by rw[<-D.v7,List.take_append_drop]
   have h2:(D.flat (l.take n)).length=D.k * n:=by rw[D.md,List.length_take,Nat.min_eq_left h]
   rw[j,<-h2,List.take_left]
 . rw[List.take_of_length_le (by rw[D.md];exact Nat.mul_le_mul_left _ om),List.take_of_length_le om]
theorem Kd.vS (l:List α) (n:Nat):(D.flat l).drop (D.k * n)=D.flat (l.drop n):=by
 by_cases h:n<=l.length
 . have j:D.flat l=D.flat (l.take n)++D.flat (l.drop n):=by rw[<-D.v7,List.take_append_drop]
   have h2:(D.flat (l.take n)).length=D.k * n:=by rw[D.md,List.length_take,Nat.min_eq_left h]
   rw[j,<-h2,List.drop_left]
 . rw[List.drop_of_length_le (by rw[D.md];exact Nat.mul_le_mul_left _ om),List.drop_of_length_le om];rfl
theorem Kd.Aa7 (l:List α) (i:Nat) (hi:i<l.length):((D.flat l).drop (D.k * i)).take D.k=D.c l[i]:=by
 rw[D.vS,List.drop_eq_getElem_cons hi,D.Ai,<-D.len l[i],List.take_left]
def Dw (l:List α) (i:Nat) (fs:List α):List α:=l.take i++fs++l.drop (i+fs.length)
theorem Y9 (l:List α) (i:Nat) (fs:List α) (h:i+fs.length<=l.length):(Dw l i fs).length=l.length:=by unfold Dw;simp;omega
theorem Vz (l:List α) (i:Nat) (fs:List α) (h:i<=l.length):(Dw l i fs).take (i+fs.length)=l.take i++fs:=by
 unfold Dw
 have:i+fs.length=(l.take i++fs).length:=so
 rw[this,List.take_left]
theorem Kd.sV (l:List α) (i:Nat) (fs:List α) (h:i+fs.length<=l.length):ep (D.flat l) (D.k * i) (D.flat fs)=D.flat (Dw l i fs):=by
 have hk:D.k * (i+fs.length)<=D.k * l.length:=Nat.mul_le_mul_left _ h
 rw[Nat.mul_add] at hk
 rw[m6 _ _ _ (by rw[D.md,D.md];exact hk),D.D5,D.md,<-Nat.mul_add,D.vS]
 unfold Dw
 rw[D.v7,D.v7]
end
structure Sk (v:Value) (h:H) (v':Value) (h':H):Prop where
 next:h.next<=h'.next
 get:∀ c,c<h.next->bt v c->h'.get c=h.get c
 off:∀ c,c<h.next->bt v c->bt v' c
theorem Sk.trans {v v' j:Value} {h h' o:H} (a:Sk v h v' h') (b:Sk v' h' j o):Sk v h j o :=
 ⟨Nat.le_trans a.next b.next,fun c hc p=>(b.get c (Nat.lt_of_lt_of_le hc a.next) (a.off c hc p)).trans (a.get c hc p),fun c hc p=>b.off c (Nat.lt_of_lt_of_le hc a.next) (a.off c hc p)⟩
theorem Fr.frK {h h':H} (f:Fr h h') (v:Value):Sk v h v h':=⟨f.next,fun c hc _=>f.cK c hc,fun _ _ q=>q⟩
theorem Sk.row {v v':Value} {h h':H} (a:Sk v h v' h') {c:Nat} (hc:c<h.next) (j:bt v c):h'.row c=h.row c:=bg (a.get c hc j)
structure PM (E:Env) (t e:TypeId) {α:Type} (D:Kd α):Prop where
 un:E.under t=some (.slice e)
 sz:E.size e=some D.k
 zc:E.cz e=some (D.c D.z)
 inf:∃ i,E.dO e=some i/\i.bytes<=1000/\i.size=D.k
section
variable {α:Type} {D:Kd α}
inductive aZ (D:Kd α) (h:H):Value->List α->Prop
 | nil:aZ D h (.slice none 0 0) []
 | at (b o c:Nat) (l:List α) (hb:b<h.next) (hr:∃ x,h.row b=some x/\(x.osz=0\/x.osz=D.k)/\(x.cs.drop o).take (D.k * l.length)=D.flat l) (hc:l.length<=c):aZ D h (.slice (some ⟨b,o,none⟩) l.length c) l
inductive cI (D:Kd α) (e:TypeId) (h0 h:H):Value->List α->Prop
 | nil:cI D e h0 h (.slice none 0 0) []
 | at (b n:Nat) (L:List α) (gz:h0.next<=b) (hb:b<h.next) (hr:h.row b=some ⟨D.flat L,e,0,0,false⟩) (hn:n<=L.length):cI D e h0 h (.slice (some ⟨b,0,none⟩) n L.length) (L.take n)
variable {h0 h h':H} {v w:Value} {l fs:List α} {e:TypeId}
theorem aZ.fr (r:aZ D h v l) (f:Fr h h'):aZ D h' v l:=by
 cases r with
 | nil=>exact .nil
 | «at» b o c _ hb hr hc=>exact .at b o c _ (Nat.lt_of_lt_of_le hb f.next) (by rw[fa f hb];exact hr) hc
theorem cI.fr (r:cI D e h0 h v l) (f:Fr h h'):cI D e h0 h' v l:=by
 cases r with
 | nil=>exact .nil
 | «at» b n L gz hb hr hn=>exact .at b n L gz (Nat.lt_of_lt_of_le hb f.next) (by rw[fa f hb];exact hr) hn
theorem aZ.row {b:Nat} {L:List α} {j:Nat} {ro:Bool} (hb:b<h.next) (hr:h.row b=some ⟨D.flat L,e,0,j,ro⟩) (i n c:Nat) (hn:i+n<=L.length) (hc:n<=c):aZ D h (.slice (some ⟨b,D.k * i,none⟩) n c) ((L.drop i).take n):=by
 have hl:((L.drop i).take n).length=n:=so
 have:=aZ.at (D:=D) (h:=h) b (D.k * i) c ((L.drop i).take n) hb ⟨_,hr,.inl rfl,by rw[hl,D.vS,D.D5]⟩ om
 rw[hl] at this;exact this
theorem cI.read (r:cI D e h0 h v l):aZ D h v l:=by
 cases r with
 | nil=>exact .nil
 | «at» b n L gz hb hr hn=>have:=aZ.row hb hr 0 n L.length om hn;simpa using this
theorem aZ.mR {b:Nat} (r:aZ D h v l) (x:eV b h h') (j:bt v b):aZ D h' v l:=by
 cases r with
 | nil=>exact .nil
 | «at» b' o c _ hb hr hc=>exact .at b' o c _ (Nat.lt_of_lt_of_le hb x.next) (by rw[x.row hb (j _ _ _ _ rfl)];exact hr) hc
theorem cI.mR {b:Nat} (r:cI D e h0 h v l) (x:eV b h h') (j:bt v b):cI D e h0 h' v l:=by
 cases r with
 | nil=>exact .nil
 | «at» b' n L gz hb hr hn=>exact .at b' n L gz (Nat.lt_of_lt_of_le hb x.next) (by rw[x.row hb (j _ _ _ _ rfl)];exact hr) hn
theorem cI.lt (r:cI D e h0 h v l) {b:Nat} (hb:h.next<=b):bt v b:=by
 cases r with
 | nil=>intro b' o n c q;cases q
 | «at» b' n L _ gz hr hn=>intro b2 o n c q;cases q;omega
theorem aZ.lt (r:aZ D h v l) {b:Nat} (hb:h.next<=b):bt v b:=by
 cases r with
 | nil=>intro b' o n c q;cases q
 | «at» b' o c _ gz hr hc=>intro b2 o n c q;cases q;omega
theorem cI.ne {j:TypeId} (r:cI D e h0 h v l) {b:Nat} {cs:List Value} {osz ib:Nat} {ro:Bool} (hb:h.row b=some ⟨cs,j,osz,ib,ro⟩) (he:e≠j):bt v b:=by
 cases r with
 | nil=>intro b' o n c q;cases q
 | «at» b' n L _ _ hr hn =>
  intro b2 o n c q;cases q
  intro p;subst p
  rw[hb] at hr;cases hr;exact he rfl
theorem cI.cell (r:cI D e h0 h v l):cells v=some [v]/\bX v=true:=by cases r <;> exact⟨rfl,rfl⟩
theorem aZ.cell (r:aZ D h v l):cells v=some [v]/\bX v=true:=by cases r <;> exact⟨rfl,rfl⟩
theorem aZ.sl (r:aZ D h v l):∃ a c,v=.slice a l.length c/\l.length<=c:=by
 cases r with
 | nil=>exact⟨_,_,rfl,Nat.le_refl _⟩
 | «at» b o c _ hb hr hc=>exact⟨_,_,rfl,hc⟩
variable {E:Env} {t:TypeId}
theorem aZ.len (r:aZ D h v l) (T:PM E t e D) (K:Value->H->Prop):blt E h .len #[t] [v] K=K (.int .i64 l.length) h:=by
 cases r with
 | nil=>rw[pW T.un];rfl
 | «at» b o c _ hr hc=>rw[pW T.un]
structure AtK (D:Kd α) (h:H) (b o:Nat) (a:α):Prop where
 row:∃ x,h.row b=some x/\(x.cs.drop o).take D.k=D.c a
theorem AtK.agg {b o:Nat} {a:α} (r:AtK D h b o a):fJ D.k h (.pointer (some ⟨b,o,none⟩))=some (D.val a):=by
 obtain⟨x,hx,hc⟩:=r.row
 rw[qo,hx]
 show (takeN D.k (mT o x.cs)).bind _=_
 have hlen:D.k<=(x.cs.drop o).length:=by
  have:=congrArg List.length hc
  rw[List.length_take,D.len] at this;omega
 rw[qg,ki hlen,hc];rfl
theorem AtK.cell {b o:Nat} {a:α} (r:AtK D h b o a) (i:Nat) (hi:i<D.k):aw h (.pointer (some ⟨b,o+i,none⟩))=(D.c a)[i]?:=by
 obtain⟨x,hx,hc⟩:=r.row
 rw[c9,hx]
 show nth x.cs (o+i)=_
 rw[DV,<-hc,List.getElem?_take_of_lt hi,List.getElem?_drop]
theorem aZ.ix (r:aZ D h v l) {i:Nat} (hi:i<l.length):∃ b o,AB D.k v (.int .i64 i)=some (.pointer (some ⟨b,o,none⟩))/\AtK D h b o l[i]:=by
 cases r with
 | nil=>cases hi
 | «at» b o c _ hb hr hc =>
  obtain⟨x,hx,_,j⟩:=hr
  refine⟨b,o+i * D.k,by simp[hi],⟨x,hx,?_⟩⟩
  have p:D.k * i+D.k<=D.k * l.length:=by rw[<-Nat.mul_succ];exact Nat.mul_le_mul_left _ hi
  rw[<-D.Aa7 l i hi,<-j,List.drop_take,List.drop_drop,List.take_take,Nat.mul_comm i,Nat.min_eq_left om]
theorem aZ.rd (r:aZ D h v l) {i:Nat} (hi:i<l.length) (K:Value->Prop):(af (AB D.k v (.int .i64 i)) fun p=>af (fJ D.k h p) K)=K (D.val l[i]):=by
 obtain⟨b,o,j,C⟩:=r.ix hi
 rw[j,aa,C.agg,aa]
theorem aZ.src (r:aZ D h v l):X.lenOf v=some l.length/\cV h D.k l.length v=some (D.flat l):=by
 cases r with
 | nil=>exact⟨rfl,rfl⟩
 | «at» b o c _ hb hr hc =>
  refine⟨rfl,?_⟩
  obtain⟨x,hx,_,j⟩:=hr
  show (bif Nat.beq (l.length * D.k) 0 then some [] else X.loadCells h ⟨b,o,none⟩ (l.length * D.k))=_
  rw[ax,Nat.mul_comm l.length]
  by_cases q:D.k * l.length=0
  . have:l=[]:=List.eq_nil_of_length_eq_zero ((Nat.mul_eq_zero.1 q).resolve_left (Nat.ne_of_gt D.pos))
    subst this;rfl
  . simp only[q,decide_false,cond_false]
    show (h.row b).bind _=_
    rw[hx]
    show takeN (D.k * l.length) (mT o x.cs)=_
    have hlen:D.k * l.length<=(x.cs.drop o).length:=by
     have:=congrArg List.length j
     rw[List.length_take,D.md] at this;omega
    rw[qg,ki hlen,<-j]
theorem AdS {b:Nat} {L:List α} (hr:h.row b=some ⟨D.flat L,e,0,0,false⟩) (i:Nat) (fs:List α) (hi:i+fs.length<=L.length):X.storeCells h ⟨b,D.k * i,none⟩ (D.flat fs)=some (h.put b (.row ⟨D.flat (Dw L i fs),e,0,0,false⟩)):=by
 have hk:D.k * (i+fs.length)<=D.k * L.length:=Nat.mul_le_mul_left _ hi
 rw[Nat.mul_add] at hk
 rw[bK,hr]
 simp only[Option.bind_some]
 rw[if_pos ⟨trivial,Nat.zero_le _,by rw[D.md,D.md];exact hk,D.Y8 _⟩,D.sV L i fs hi]
theorem AfR (T:PM E t e D) {n m:Nat} (hn:n<=1000000000) (hm:m<=1000000000):∃ i,E.dO e=some i/\(Nat.ble ((n+m+64) * 4 * i.bytes) 70368744177664&&Nat.ble (n+m) 70368744177664&&Nat.beq (X.len (D.c D.z)) D.k)=true:=by
 obtain⟨i,hi,hb,hs⟩:=T.inf
 refine⟨i,hi,?_⟩
 have j:(n+m+64) * 4 * i.bytes<=(n+m+64) * 4 * 1000:=Nat.mul_le_mul_left _ hb
 simp only[aP,ax,br,Bool.and_eq_true,decide_eq_true_eq,D.len]
 exact⟨⟨om,om⟩,trivial⟩
theorem Oi {b:Nat} (n c:Nat) (hb:h.next<=b):∀ d,d<h.next->bt (.slice (some ⟨b,0,none⟩) n c) d:=fun d hd b' o j p q=>by cases q;omega
theorem nP (n c:Nat) (d:Nat):bt (.slice none n c) d:=fun b' o j p q=>by cases q
theorem D7 {b:Nat} {o j n p c C:Nat} {d:Nat} (hv:bt (.slice (some ⟨b,o,none⟩) n c) d):bt (.slice (some ⟨b,j,none⟩) p C) d:=fun b' _ _ _ q=>by cases q;exact hv _ _ _ _ rfl
theorem Aa8 (T:PM E t e D) (hf:Fr h0 h) (hl:l.length<=1000000000) (j:fs.length<=1000000000) {K:Value->H->Prop}
 (o:∀ v' h',Fr h h'->(∀ c,c<h.next->bt v' c)->cI D e h0 h' v' (l++fs)->K v' h'):tD E h e D.k l.length fs.length (D.flat l) (D.flat fs) K:=by
 obtain⟨i,hi,hc⟩:=AfR T hl j
 unfold tD
 rw[hi,aa,T.zc,aa,hc]
 show ∀ G,_->_
 intro G I
 rw[dF,dF,D.Vy,<-D.v7,<-D.v7]
 have:=cI.at (D:=D) (e:=e) (h0:=h0) (h:=newRow h e (D.flat (l++fs++List.replicate (G-(l.length+fs.length)) D.z)) 0) h.next (l.length+fs.length) (l++fs++List.replicate (G-(l.length+fs.length)) D.z) hf.next sm (by rw[aS,if_pos rfl]) sm
 have p:(l++fs++List.replicate (G-(l.length+fs.length)) D.z).length=G:=so
 have C:(l++fs++List.replicate (G-(l.length+fs.length)) D.z).take (l.length+fs.length)=l++fs:=by
  have:l.length+fs.length=(l++fs).length:=sm
  rw[this,List.take_left]
 rw[p,C] at this
 exact o _ _ ((Fr.refl h).newRow _ _ _) (Oi _ _ nlr) this
theorem WW (T:PM E t e D) (hf:Fr h0 h) (r:cI D e h0 h v l) (rx:aZ D h w fs) (hl:l.length<=1000000000) (PL:fs.length<=1000000000) {K:Value->H->Prop}
 (hK:∀ v' h',Fr h0 h'->Sk v h v' h'->cI D e h0 h' v' (l++fs)->K v' h'):ir E h #[t,t] v w K:=by
 have U:((E.under t).map ku)=some false:=by rw[T.un];rfl
 obtain⟨r1,r2⟩:=rx.src
 obtain⟨o1,o2⟩:=r.read.src
 have C:∀ (base:Option Addr) (c:Nat),¬ l.length+fs.length<=c->v=.slice base l.length c->X.oh h base c=some false->ir E h #[t,t] v w K:=by
  intro base c j hv ho
  refine⟨.inr (.inl ?_)⟩
  show rz E h [t,t] v _ K
  unfold rz
  show af (some t) _
  rw[aa,T.un,aa]
  rw[hv] at o2 ⊢
  show af (E.size e) _
  rw[T.sz,aa]
  show af ((E.under t).map ku) _
  rw[U,aa]
  rw[cond_false]
  rw[r1,aa,r2,aa,o2,aa,ho,aa]
  show (bif Nat.ble (l.length+fs.length) c then False else _)
  rw[aP]
  simp only[j,decide_false,cond_false]
  exact Aa8 T hf hl PL fun v' h' f g o=>hK v' h' (hf.trans f) ⟨f.next,fun b hb _=>f.cK b hb,fun c hc _=>g c hc⟩ o
 have I:∀ (base:Option Addr) (n c:Nat) (h':H),v=.slice base n c->n+fs.length<=c->X.vW h base n D.k fs.length c (D.flat fs)=some (.val (.slice base (n+fs.length) c) h')->K (.slice base (n+fs.length) c) h'->ir E h #[t,t] v w K:=by
  intro base n c h' hv j J hk
  subst hv
  refine⟨.inl ?_⟩
  have:bq E h .append #[t,t] [.slice base n c,w]=some (.val (.slice base (n+fs.length) c) h'):=by
   show X.append E h t (some t) _ _=_
   unfold X.append
   rw[T.un]
   simp only[Option.bind_some,T.sz]
   rw[U]
   simp only[Option.bind_some,r1,r2,aP,j,decide_true]
   exact J
  rw[this]
  exact hk
 have p:∀ (base:Option Addr) (n c:Nat),fs=[]->X.vW h base n D.k fs.length c (D.flat fs)=some (.val (.slice base (n+fs.length) c) h):=by
  intro base n c q
  subst q
  cases base with
  | none=>rfl
  | some a =>
   show Bool.rec (motive:=fun _=>Option R) ((X.storeCells h (nE a (n * D.k)) []).bind fun h=>some (.val (.slice (some a) (n+0) c) h)) (some (.val (.slice (some a) (n+0) c) h)) (Nat.beq (0 * D.k) 0)=_
   rw[Nat.zero_mul];rfl
 cases r with
 | nil =>
  by_cases hm:fs=[]
  . exact I none 0 0 h rfl (by rw[hm];exact Nat.le_refl _) (p _ _ _ hm) (hK _ _ hf ⟨Nat.le_refl _,fun _ _ _=>rfl,fun _ _ q=>nP _ _ _⟩ (by subst hm;exact .nil))
  . exact C none 0 (by have:=List.length_pos_iff.2 hm;simp only[List.length_nil];omega) rfl rfl
 | «at» b n L gz hb hr hn =>
  have hl:(L.take n).length=n:=so
  by_cases j:n+fs.length<=L.length
  . by_cases hm:fs=[]
    . refine I _ n _ h rfl j (p _ _ _ hm) (hK _ _ hf ⟨Nat.le_refl _,fun _ _ _=>rfl,fun _ _ q=>D7 q⟩ ?_)
      subst hm
      rw[List.append_nil]
      exact cI.at b n L gz hb hr hn
    . have J:X.vW h (some ⟨b,0,none⟩) n D.k fs.length L.length (D.flat fs)=some (.val (.slice (some ⟨b,0,none⟩) (n+fs.length) L.length) (h.put b (.row ⟨D.flat (Dw L n fs),e,0,0,false⟩))):=by
       show Bool.rec (motive:=fun _=>Option R) ((X.storeCells h (nE ⟨b,0,none⟩ (n * D.k)) (D.flat fs)).bind fun h=>some (.val (.slice (some ⟨b,0,none⟩) (n+fs.length) L.length) h)) (some (.val (.slice (some ⟨b,0,none⟩) (n+fs.length) L.length) h)) (Nat.beq (fs.length * D.k) 0)=_
       have:fs.length * D.k≠0:=Nat.mul_ne_zero (fun q=>hm (List.eq_nil_of_length_eq_zero q)) (Nat.ne_of_gt D.pos)
       rw[ax]
       simp only[this,decide_false,zS,Nat.zero_add]
       rw[Nat.mul_comm n,AdS hr n fs j];rfl
      refine I _ n _ _ rfl j J (hK _ _ (hf.put _ gz) ⟨Nat.le_refl _,fun c _ hc=>jh (fun q=>hc _ _ _ _ rfl q.symm),fun _ _ q=>D7 q⟩ ?_)
      have T_:=Y9 L n fs j
      have:=cI.at (D:=D) (e:=e) (h0:=h0) (h:=h.put b (.row ⟨D.flat (Dw L n fs),e,0,0,false⟩)) b (n+fs.length) (Dw L n fs) gz hb (by rw[eH,if_pos rfl]) (by rw[T_];exact j)
      rw[T_,Vz L n fs hn] at this
      exact this
  . refine C _ L.length (by rw[hl];omega) (by rw[hl]) ?_
    show (h.row b).map _=_
    rw[hr];rfl
theorem Acw (T:PM E t e D) (a:α) (h:H) (j:xS D.k (dZ (D.c D.z) 1) [(0,D.val a)]=some (D.c a)) (hk:D.k<=16777216):dM E h t 1 [(0,D.val a)]=some (newRow h e (D.c a) 0):=by
 unfold dM
 rw[T.un]
 simp only[Option.bind_some,T.sz,T.zc,j]
 have hc:(Nat.ble (1 * D.k) 16777216&&Nat.beq (X.len (D.c D.z)) D.k)=true:=by
  simp only[aP,ax,br,Bool.and_eq_true,decide_eq_true_eq,D.len]
  exact⟨om,trivial⟩
 rw[hc];rfl
theorem Aev (T:PM E t e D) (hf:Fr h0 h) (r:cI D e h0 h v l) (hl:l.length<1000000000) (a:α) (hb:dM E h t 1 [(0,D.val a)]=some (newRow h e (D.c a) 0)) {K:Value->H->Prop}
 (j:∀ v' h',Fr h0 h'->Sk v h v' h'->cI D e h0 h' v' (l++[a])->K v' h'):gh E h t 1 [(0,D.val a)] fun w p=>ir E p #[t,t] v w K:=by
 unfold gh
 rw[hb,aa]
 have f1:Fr h (newRow h e (D.c a) 0):=(Fr.refl h).newRow _ _ _
 have hr:(newRow h e (D.c a) 0).row h.next=some ⟨D.flat [a],e,0,0,false⟩:=by rw[aS,if_pos rfl,D.CH]
 have rd:=aZ.row (D:=D) (h:=newRow h e (D.c a) 0) sm hr 0 1 1 sm nlr
 refine WW T (hf.trans f1) (r.fr f1) (fs:=[a]) (sp rd) om sm fun v' h' f g o=>j v' h' f ((f1.frK v).trans g) o
end
section
variable {E:Env} {t e:TypeId} {k:Nat}
theorem vT (un:E.under t=some (.slice e)) (sz:E.size e=some k) {h:H} {b o n c l hh m:Nat} {lo hi mx:Option Value} (hx:∃ x,h.row b=some x/\(x.osz=0\/x.osz=k)) (hm:jD mx c c=some m) (h2:jD hi n m=some hh) (I:jD lo 0 hh=some l) (hle:hh<=m) (p:IW hi mx=true) :
 ∃ a:Addr,aO E h t (.slice (some ⟨b,o,none⟩) n c) lo hi mx=some (.slice (some a) (hh-l) (m-l))/\((m=l/\a=⟨b,o,none⟩)\/a=⟨b,o+l * k,none⟩):=by
 obtain⟨x,hx,J⟩:=hx
 have j:∃ a:Addr,yC E h e (some ⟨b,o,none⟩) c l m=some (some a)/\((m=l/\a=⟨b,o,none⟩)\/a=⟨b,o+l * k,none⟩):=by
  unfold yC
  simp only[sz,Option.bind_some,hx]
  generalize C:(!(Nat.beq x.osz 0)&&Nat.beq ((⟨b,o,none⟩:Addr).off+c * x.osz) (len x.cs)&&Nat.beq m c)=B
  cases B with
  | true =>
   have e:Nat.beq x.osz k=true:=by
    rcases J with q | q
    . rw[q] at C;cases C
    . rw[q];exact Nat.beq_refl k
   rw[e]
   exact⟨_,rfl,.inr rfl⟩
  | false =>
   rw[ax]
   by_cases q:m=l
   . rw[decide_eq_true q];exact⟨_,rfl,.inl ⟨q,rfl⟩⟩
   . rw[decide_eq_false q];exact⟨_,rfl,.inr rfl⟩
 obtain⟨a,j,ha⟩:=j
 refine⟨a,?_,ha⟩
 unfold aO
 rw[un]
 show sK E h e (some ⟨b,o,none⟩) n c lo hi mx=_
 unfold sK
 rw[hm,Option.bind_some,h2,Option.bind_some,I,Option.bind_some,p,aP]
 have R:(true&&decide (hh<=m)&&(E.size e).isSome)=true:=by rw[sz];simp[hle]
 rw[R]
 show (yC E h e (some ⟨b,o,none⟩) c l m).bind _=_
 rw[j];rfl
theorem D8 (un:E.under t=some (.slice e)) (sz:E.size e=some k) {h:H} {b o n c hh m:Nat} {hi mx:Option Value} (hx:∃ x,h.row b=some x/\(x.osz=0\/x.osz=k)) (hm:jD mx c c=some m) (h2:jD hi n m=some hh) (hle:hh<=m) (j:IW hi mx=true) :
 aO E h t (.slice (some ⟨b,o,none⟩) n c) none hi mx=some (.slice (some ⟨b,o,none⟩) hh m):=by
 obtain⟨a,p,ha⟩:=vT (lo:=none) (l:=0) un sz hx hm h2 rfl hle j
 have:a=⟨b,o,none⟩:=by
  rcases ha with ⟨_,r⟩ | r
  . exact r
  . rw[r,Nat.zero_mul];rfl
 subst this
 exact p
theorem mJ (un:E.under t=some (.slice e)) (sz:E.size e=some k) (h:H) {lo hi mx:Option Value} (hm:jD mx 0 0=some 0) (h2:jD hi 0 0=some 0) (o:jD lo 0 0=some 0) (j:IW hi mx=true) :
 aO E h t (.slice none 0 0) lo hi mx=some (.slice none 0 0):=by
 unfold aO
 rw[un]
 show sK E h e none 0 0 lo hi mx=_
 unfold sK
 rw[hm,Option.bind_some,h2,Option.bind_some,o,Option.bind_some,j,aP]
 have p:(true&&decide (0<=0)&&(E.size e).isSome)=true:=by rw[sz];rfl
 rw[p]
 rfl
variable {z:Value}
def AQ (h:H) (v:Value) (e:TypeId):Prop:=∀ b o n c,v=.slice (some ⟨b,o,none⟩) n c->b<h.next/\∃ x,h.row b=some x/\x.elem=e
theorem bp.drop (T:Tz E t e z) {h0 h:H} {v:Value} {vs:List Value} (r:bp e h0 h v vs) {i:Nat} (hi:i<=vs.length):∃ w,aO E h t v (some (vI i)) none none=some w/\bk h w (vs.drop i)/\(∀ b,bt v b->bt w b)/\AQ h w e:=by
 cases r with
 | nil =>
  have:i=0:=sp hi
  subst this
  exact⟨_,mJ T.un T.sz h rfl rfl rfl rfl,.nil,fun _ q=>q,fun _ _ _ _ q=>by cases q⟩
 | «at» b n L gz hb hr hn =>
  have hl:(L.take n).length=n:=so
  rw[hl] at hi
  obtain⟨a,j,ha⟩:=vT (lo:=some (vI i)) (hi:=none) (mx:=none) (n:=n) (c:=L.length) (o:=0) T.un T.sz ⟨_,hr,.inl rfl⟩ (m:=L.length) rfl (hh:=n) rfl (bm .i64 i 0 n hi) hn rfl
  refine⟨_,j,?_,fun b' q=>?_,?_⟩
  . have hd:((L.take n).drop i).length=n-i:=so
    rcases ha with ⟨q,rfl⟩ | rfl
    . have e:(L.take n).drop i=[]:=List.drop_of_length_le so
      rw[e,show n-i=0 by omega]
      exact .at b 0 _ [] hb ⟨_,hr,sm⟩ (Nat.zero_le _)
    . have:=bk.at (h:=h) b (0+i * 1) (L.length-i) ((L.take n).drop i) hb ⟨_,hr,by rw[hd,Nat.zero_add,Nat.mul_one,List.drop_take]⟩ (by rw[hd];omega)
      rw[hd] at this;exact this
  . rcases ha with ⟨_,rfl⟩ | rfl <;> exact fun b2 p C c2 e=>by cases e;exact q _ _ _ _ rfl
  . rcases ha with ⟨_,rfl⟩ | rfl <;> exact fun b2 p C c2 e=>by cases e;exact⟨hb,_,hr,rfl⟩
theorem bp.Ct {h0 h h':H} {v:Value} {vs:List Value} (r:bp e h0 h v vs) (hn:h.next<=h'.next) (p:∀ b o n c,v=.slice (some ⟨b,o,none⟩) n c->h'.get b=h.get b):bp e h0 h' v vs:=by
 cases r with
 | nil=>exact .nil
 | «at» b n L gz hb hr j=>exact .at b n L gz (Nat.lt_of_lt_of_le hb hn) (by rw[bg (p _ _ _ _ rfl)];exact hr) j
theorem cI.Ct {α:Type} {D:Kd α} {h0 h h':H} {v:Value} {vs:List α} (r:cI D e h0 h v vs) (hn:h.next<=h'.next) (p:∀ b o n c,v=.slice (some ⟨b,o,none⟩) n c->h'.get b=h.get b):cI D e h0 h' v vs:=by
 cases r with
 | nil=>exact .nil
 | «at» b n L gz hb hr j=>exact .at b n L gz (Nat.lt_of_lt_of_le hb hn) (by rw[bg (p _ _ _ _ rfl)];exact hr) j
theorem AQ.Ct {h h':H} {v:Value} (t:AQ h v e) (hn:h.next<=h'.next) (j:∀ b o n c,v=.slice (some ⟨b,o,none⟩) n c->h'.get b=h.get b):AQ h' v e:=fun b o n c q=>by
 obtain⟨p,y,C,I⟩:=t b o n c q
 exact⟨Nat.lt_of_lt_of_le p hn,y,by rw[bg (j b o n c q)];exact C,I⟩
theorem bk.Ct {h h':H} {v:Value} {vs:List Value} (r:bk h v vs) (hn:h.next<=h'.next) (j:∀ b o n c,v=.slice (some ⟨b,o,none⟩) n c->h'.get b=h.get b):bk h' v vs:=by
 cases r with
 | nil=>exact .nil
 | «at» b o c _ hb hr hc=>exact .at b o c _ (Nat.lt_of_lt_of_le hb hn) (by rw[bg (j _ _ _ _ rfl)];exact hr) hc
theorem aZ.Ct {α:Type} {D:Kd α} {h h':H} {v:Value} {vs:List α} (r:aZ D h v vs) (hn:h.next<=h'.next) (j:∀ b o n c,v=.slice (some ⟨b,o,none⟩) n c->h'.get b=h.get b):aZ D h' v vs:=by
 cases r with
 | nil=>exact .nil
 | «at» b o c _ hb hr hc=>exact .at b o c _ (Nat.lt_of_lt_of_le hb hn) (by rw[bg (j _ _ _ _ rfl)];exact hr) hc
theorem AQ.nil (h:H) (n c:Nat) (e:TypeId):AQ h (.slice none n c) e:=fun _ _ _ _ q=>by cases q
theorem AQ.fr {h h':H} {v:Value} (t:AQ h v e) (f:Fr h h'):AQ h' v e:=fun b o n c q=>by
 obtain⟨j,x,h2,p⟩:=t b o n c q
 exact⟨Nat.lt_of_lt_of_le j f.next,x,by rw[fa f j];exact h2,p⟩
theorem bp.ty {h0 h:H} {v:Value} {vs:List Value} (r:bp e h0 h v vs):AQ h v e:=by
 cases r with
 | nil=>exact AQ.nil _ _ _ _
 | «at» b n L gz hb hr hn=>intro b' o j c q;cases q;exact⟨hb,_,hr,rfl⟩
theorem cI.ty {α:Type} {D:Kd α} {h0 h:H} {v:Value} {vs:List α} (r:cI D e h0 h v vs):AQ h v e:=by
 cases r with
 | nil=>exact AQ.nil _ _ _ _
 | «at» b n L gz hb hr hn=>intro b' o j c q;cases q;exact⟨hb,_,hr,rfl⟩
theorem AQ.off {h:H} {v:Value} (t:AQ h v e) {b:Nat} {x:IP} (hb:h.row b=some x) (he:x.elem≠e):bt v b:=by
 intro b' o n c q j
 obtain⟨_,y,h2,p⟩:=t b' o n c q
 subst j
 rw[h2] at hb;cases hb;exact he p
variable {α:Type} {D:Kd α}
theorem aZ.drop (T:PM E t e D) {h:H} {v:Value} {l:List α} (r:aZ D h v l) {i:Nat} (hi:i<=l.length):∃ w,aO E h t v (some (vI i)) none none=some w/\aZ D h w (l.drop i)/\∀ b,bt v b->bt w b:=by
 cases r with
 | nil =>
  have:i=0:=sp hi
  subst this
  exact⟨_,mJ T.un T.sz h rfl rfl rfl rfl,.nil,fun _ q=>q⟩
 | «at» b o c _ hb hr hc =>
  obtain⟨x,hx,j,p⟩:=hr
  obtain⟨a,C,ha⟩:=vT (lo:=some (vI i)) (hi:=none) (mx:=none) (n:=l.length) (c:=c) (o:=o) T.un T.sz ⟨x,hx,j⟩ (m:=c) rfl (hh:=l.length) rfl (bm .i64 i 0 _ hi) hc rfl
  refine⟨_,C,?_,fun b' q=>?_⟩
  . have hd:(l.drop i).length=l.length-i:=sm
    rw[<-hd]
    rcases ha with ⟨q,rfl⟩ | rfl
    . have e:l.drop i=[]:=List.drop_of_length_le om
      rw[e]
      exact .at b o _ [] hb ⟨x,hx,j,by simp[Kd.flat]⟩ (Nat.zero_le _)
    . refine .at b (o+i * D.k) _ (l.drop i) hb ⟨x,hx,j,?_⟩ (by rw[hd];omega)
      rw[hd,<-D.vS,<-p,List.drop_take,List.drop_drop,Nat.mul_comm i,Nat.mul_sub]
  . rcases ha with ⟨_,rfl⟩ | rfl <;> exact fun b2 I J c2 e=>by cases e;exact q _ _ _ _ rfl
theorem AcH (T:PM E t e D) {h0 h:H} {v x:Value} {l:List α} (hf:Fr h0 h) (r:cI D e h0 h v l) (hl:l.length<1000000000) (a:α) (hb:dM E h t 1 [(0,x)]=some (newRow h e (D.c a) 0)) {K:Value->H->Prop}
 (j:∀ v' h',Fr h0 h'->Sk v h v' h'->cI D e h0 h' v' (l++[a])->K v' h'):gh E h t 1 [(0,x)] fun w p=>ir E p #[t,t] v w K:=by
 unfold gh
 rw[hb,aa]
 have f1:Fr h (newRow h e (D.c a) 0):=(Fr.refl h).newRow _ _ _
 have hr:(newRow h e (D.c a) 0).row h.next=some ⟨D.flat [a],e,0,0,false⟩:=by rw[aS,if_pos rfl,D.CH]
 have rd:=aZ.row (D:=D) (h:=newRow h e (D.c a) 0) sm hr 0 1 1 sm nlr
 refine WW T (hf.trans f1) (r.fr f1) (fs:=[a]) (sp rd) om sm fun v' h' f g o=>j v' h' f ((f1.frK v).trans g) o
theorem aZ.ZZ {h:H} {v:Value} {l:List α} (r:aZ D h v l) {i:Nat} (hi:i<l.length) (j:Nat) (p:j<D.k):∃ b o,AB D.k v (.int .i64 i)=some (.pointer (some ⟨b,o,none⟩))/\aw h (.pointer (some ⟨b,o+j,none⟩))=(D.c l[i])[j]?:=by
 obtain⟨b,o,C,I⟩:=r.ix hi
 exact⟨b,o,C,I.cell j p⟩
end
end Go.X
namespace Go.Proofs.YtikojelnedfmpaaGreatDoor
open Go Go.X
set_option maxRecDepth 100000
def ui (sep:List UInt8):List (List UInt8)->List UInt8
 | []=>[]
 | [a]=>a
 | a :: b :: l=>a++sep++ui sep (b :: l)
def vF (sep:List UInt8) (l:List (List UInt8)):List UInt8:=l.flatMap fun a=>sep++a
theorem Bp (sep a:List UInt8) (l:List (List UInt8)):ui sep (a :: l)=a++vF sep l:=by
 induction l generalizing a with
 | nil=>simp[ui,vF]
 | cons b l j=>rw[ui,j];simp[vF]
def eC (l:List (List UInt8)):Nat:=(l.map List.length).sum
theorem sy (l:List (List UInt8)) (a:List UInt8):eC (l++[a])=eC l+a.length:=by simp[eC]
theorem J_ (l:List (List UInt8)) (i:Nat) (hi:i<l.length):eC (l.take (i+1))=eC (l.take i)+l[i].length:=by
 rw[List.take_add_one,List.getElem?_eq_getElem hi,Option.toList_some,sy]
theorem WA (a b:List (List UInt8)):eC (a++b)=eC a+eC b:=by simp[eC]
theorem F8 (l:List (List UInt8)) (i:Nat):eC (l.take i)<=eC l:=by
 conv=>rhs;rw[<-List.take_append_drop i l]
 rw[WA];omega
theorem J' (sep:List UInt8) (l:List (List UInt8)):(vF sep l).length=l.length * sep.length+eC l:=by
 induction l with
 | nil=>simp[vF,eC]
 | cons a l j =>
  show (sep++a++vF sep l).length=_
  rw[List.length_append,List.length_append,j,List.length_cons,Nat.succ_mul];simp[eC];omega
theorem Qj (sep:List UInt8) (l:List (List UInt8)) (i:Nat) (hi:i<l.length):vF sep (l.take (i+1))=vF sep (l.take i)++sep++l[i]:=by
 rw[List.take_add_one,List.getElem?_eq_getElem hi,Option.toList_some];unfold vF;rw[List.flatMap_append];simp
theorem VB.ty {b:Nat} {h h':H} (x:VB b h h') {v:Value} {e:TypeId} (t:AQ h v e) (he:e≠5) (j:bt v b) {c o n cp:Nat} (hv:v=.slice (some ⟨c,o,none⟩) n cp):h'.get c=h.get c:=by
 obtain⟨p,y,h2,C⟩:=t c o n cp hv
 exact x.get c p (j _ _ _ _ hv) fun z hz=>by rw[h2] at hz;cases hz;rw[C];exact he
theorem NS {h0 h:H} {v:Value} {L:List (List UInt8)} (R:bp 9 h0 h v (cD L)) (sep:List UInt8) (hs:sep.length<=1000) (hL:L.length<=1000) (hT:eC L<=100000000):ai PP nM [v,st sep] h (.v (st (ui sep L)) h):=by
 have qS:bl=1000000000:=rfl
 refine aj.pure (FE ?_) (by simp[flat])
 unfold Cs aq
 rw[R.read.len TS,List.length_map,Go.X.ak,aa,ae]
 match L,R,hL,hT with
 | [],R,hL,hT=>rw[if_pos sm];exact⟨rfl,Fr.refl _⟩
 | [a],R,hL,hT =>
  rw[if_neg sm,Go.X.ak,aa,ae,if_pos sm]
  have:=R.read.rd (i:=0) sm (fun w=>(fun v h'=>v=st (ui sep [a])/\Fr h h') w h)
  refine (show _=_ from this).mpr ?_
  exact⟨rfl,Fr.refl _⟩
 | a :: U :: C,R,hL,hT =>
  rw[if_neg so,Go.X.ak,aa,ae,if_neg so]
  have Abi:∀ n:Nat,n<=1000000->kR (fun w h'=>w=st (ui sep (a :: U :: C))/\Fr h h') v (st sep) (vI n) h:=by
   intro n hn
   unfold kR aq
   rw[R.read.len TS,List.length_map]
   generalize hLL:a :: U :: C=I at *
   refine aL.ind (fun s' h'=>h'=h/\∃ i:Nat,s'=[v,st sep,vI (n+eC (I.take i)),v,vI I.length,vI i]/\i<=I.length) (fun s' _=>match aI s' 5 with | .int _ i=>I.length-i.toNat | _=>0) ?_ ⟨rfl,0,rfl,Nat.zero_le _⟩
   rintro s' h' ⟨rfl,i,rfl,hi⟩
   show oY _ _ v (st sep) (vI (n+eC (I.take i))) v (vI I.length) (vI i) h'
   have hle:=F8 I i
   unfold oY aq
   rw[bI,aa,ae]
   by_cases oz:i<I.length
   . rw[if_pos (by simp[oz])]
     have vt:i<(cD I).length:=sp oz
     have ht:=J_ I i oz
     have AhS:=F8 I (i+1)
     rw[R.read.rd vt,List.getElem_map]
     show blt EE h' .len #[9] [st I[i]] _
     rw[eY,WB om om,aa,Go.X.binOp_gtr,aa,ae,if_neg so,eY,u6 om om,aa,u6 om om,aa]
     refine⟨⟨rfl,i+1,?_,oz⟩,?_⟩
     . show [v,st sep,Value.int .i64 (((n+eC (I.take i):Nat):Int)+(I[i].length:Int)),v,vI I.length,.int .i64 ((i:Int)+1)]=_
       rw[ht,show (((n+eC (I.take i):Nat):Int)+(I[i].length:Int))=((n+(eC (I.take i)+I[i].length):Nat):Int) by omega];rfl
     . show I.length-((i:Int)+1).toNat<I.length-(i:Int).toNat
       omega
   . rw[if_neg (by simp[oz])]
     subst hLL
     refine bP fun h1 f1 r1 n1=>?_
     refine (GM f1 nlr om r1 _ om).mono ?_
     rintro w h2 ⟨f2,x2,B2⟩
     have Abj:bt v h'.next:=R.lt nlr
     have tv1:AQ h1 v 9:=(R.ty).fr f1
     have rv2:bk h2 v (cD (a :: U :: C)):=(R.read).fr f2
     have tv2:AQ h2 v 9:=R.ty.fr f2
     have:=rv2.rd (i:=0) sm (fun q=>CP aC [pT h'.next,q] h2 fun v68 h69=>af (aO EE h69 48 v (some (.int .i64 1)) none none) fun v71=>blt EE h69 .len #[48] [v71] fun v72 h73 =>
      aL (fun I75 s h=>kS (fun w PJ=>w=st (ui sep (a :: U :: C))/\Fr h' PJ) I75 (aI s 0) (aI s 1) (aI s 2) (aI s 3) (aI s 4) h) [st sep,pT h'.next,v71,v72,(.int .i64 0)] h73)
     refine (show _=_ from this).mpr ?_
     have ha:a.length+(U.length+eC C)<=100000000:=by have:eC (a :: U :: C)=a.length+(U.length+eC C):=by simp[eC]
                                                     omega
     show CP aC [pT h'.next,st a] h2 _
     refine (cR f2 B2 a sm om).mono ?_
     rintro w3 h3 ⟨f3,g3,B3⟩
     rw[List.nil_append] at B3
     have ov3:bp 9 h0 h3 v (cD (a :: U :: C)):=R.Ct (by have:=f3.next;omega) fun b o n c q=>by
      obtain⟨k1,_⟩:=R.ty b o n c q
      rw[g3.ty tv2 dc Abj q,f2.cK b k1]
     obtain⟨p,e71,r71,o71,t71⟩:=ov3.drop TS (i:=1) sm
     have Agw:aO EE h3 48 v (some (.int .i64 1)) none none=some p:=e71
     have Aen:bk h3 p (cD (U :: C)):=r71
     rw[Agw,aa,Aen.len TS,List.length_map]
     have Abk:bt p h'.next:=o71 _ Abj
     clear this
     have hll:(U :: C).length<=1000:=by simp at hL ⊢;omega
     have Zg:eC (U :: C)<=100000000:=by simp[eC] at ha ⊢;omega
     generalize hl:U :: C=l at *
     rw[Bp]
     refine aL.ind (fun s' PJ=>Fr h' PJ/\∃ j:Nat,s'=[st sep,pT h'.next,p,vI l.length,vI j]/\j<=l.length/\qX h' PJ h'.next (a++vF sep (l.take j))/\bk PJ p (cD l)/\AQ PJ p 9) (fun s' _=>match aI s' 4 with | .int _ i=>l.length-i.toNat | _=>0) ?_ ⟨f3,0,rfl,Nat.zero_le _,by simpa [vF] using B3,Aen,t71⟩
     rintro s' h4 ⟨f4,j,rfl,hj,B4,r4,t4⟩
     show kS _ _ (st sep) (pT h'.next) p (vI l.length) (vI j) h4
     have hmul:∀ m,m<=l.length->m * sep.length<=1000 * 1000:=fun m hm=>Nat.mul_le_mul om hs
     have Aeo:(a++vF sep (l.take j)).length<=300000000:=by
      rw[List.length_append,J']
      have:=F8 l j
      have:=hmul (l.take j).length so
      omega
     unfold kS aq
     rw[bI,aa,ae]
     by_cases J:j<l.length
     . rw[if_pos (by simp[J])]
       have hj':j<(cD l).length:=sp J
       rw[r4.rd hj',List.getElem_map]
       refine (cR f4 B4 sep om om).mono ?_
       rintro w5 h5 ⟨f5,g5,B5⟩
       have AhT:=F8 l (j+1)
       have ht3:=J_ l j J
       refine (cR f5 B5 l[j] (by rw[List.length_append];omega) om).mono ?_
       rintro w6 h6 ⟨f6,g6,B6⟩
       rw[u6 om om,aa]
       have fr5:∀ b o n c,p=.slice (some ⟨b,o,none⟩) n c->h5.get b=h4.get b:=fun b o n c q=>g5.ty t4 dc Abk q
       have t5:AQ h5 p 9:=t4.Ct g5.next fr5
       have fr6:∀ b o n c,p=.slice (some ⟨b,o,none⟩) n c->h6.get b=h4.get b:=fun b o n c q=>(g6.ty t5 dc Abk q).trans (fr5 b o n c q)
       have t6:AQ h6 p 9:=t4.Ct (Nat.le_trans g5.next g6.next) fr6
       refine⟨⟨f6,j+1,rfl,J,?_,r4.Ct (by have:=g5.next;have:=g6.next;omega) fr6,t6⟩,?_⟩
       . rw[Qj sep l j J]
         simpa [List.append_assoc] using B6
       . show l.length-((j:Int)+1).toNat<l.length-(j:Int).toNat
         omega
     . rw[if_neg (by simp[J])]
       have hje:j=l.length:=om
       subst hje
       rw[List.take_length] at B4 Aeo
       refine (kj f4 B4 om).mono ?_
       rintro w5 h5 ⟨rfl,f5,_,_⟩
       exact⟨rfl,f5⟩
  rw[eY,Go.X.binOp_gtr,aa,ae]
  by_cases hs0:0<sep.length
  . have hlen:(a :: U :: C).length=C.length+2:=sm
    rw[if_pos (sp hs0),eY,R.read.len TS,List.length_map,hlen,WB om om,aa]
    have e1:((C.length+2:Nat):Int)-1=((C.length+1:Nat):Int):=om
    rw[e1,show (.int .i64 9223372036854775807:Value)=vI 9223372036854775807 from rfl,GA _ _ _ _ _ om,aa]
    have e2:9223372036854775807 / (C.length+1) ≥ 1000000:=by
     have hl3:C.length+1<=1000:=by rw[hlen] at hL;omega
     have:9223372036854775807 / 1000<=9223372036854775807 / (C.length+1):=Nat.div_le_div_left hl3 om
     omega
    have e3:9223372036854775807 / (C.length+1)<=9223372036854775807:=Nat.div_le_self _ _
    rw[wrap_i64 e3,wg,aa,ae,if_neg so,eY,R.read.len TS,List.length_map,hlen,WB om om,aa,e1]
    have hm:sep.length * (C.length+1)<=1000 * 1000:=Nat.mul_le_mul hs (by rw[hlen] at hL;omega)
    rw[Ds,aa,wrap_i64 om,u6 om om,aa,Int.zero_add]
    exact Abi _ om
  . rw[if_neg (sp hs0)]
    exact Abi 0 om
theorem AR (a:Ar) (hw:∀ x ∈ [a.c1,a.r1,a.c2,a.r2],-1000<=x/\x<=1000) (h:H):ai PP kT [WC a] h (.v (.int .i64 (Cu a)) h):=by
 obtain⟨c1,r1,c2,r2⟩:=a
 have j:=hw c1 sm
 have o:=hw r1 sm
 have p:=hw c2 sm
 have C:=hw r2 sm
 refine aj.pure (Cv ?_) (by simp[flat])
 unfold yQ aq
 refine fz fun R f1 I U=>?_
 unfold Cu
 simp only at j o p C ⊢
 have b1:-2001<=c2-c1+1/\c2-c1+1<=2001:=om
 have b2:-2001<=r2-r1+1/\r2-r1+1<=2001:=om
 have b3:-4004001<=(c2-c1+1) * (r2-r1+1)/\(c2-c1+1) * (r2-r1+1)<=4004001:=by
  generalize c2-c1+1=x at *
  generalize r2-r1+1=y at *
  have hx:x.natAbs<=2001:=om
  have J:y.natAbs<=2001:=om
  have hm:(x * y).natAbs<=2001 * 2001:=by rw[Int.natAbs_mul];exact Nat.mul_le_mul hx J
  omega
 simp only[aE,aa,aA I,Nat.zero_add,Ar.c,ao,ay]
 rw[WB om om,aa,u6 om om,aa,WB om om,aa,u6 om om,aa,ZQ om om,aa]
 exact⟨rfl,f1⟩
theorem RW {a:Ar} (j:u5 a.c1 a.r1=true) (h2:u5 a.c2 a.r2=true):∀ x ∈ [(rG a).c1,(rG a).r1,(rG a).c2,(rG a).r2],-1000<=x/\x<=1000:=by
 have o:=zT.1 j
 have p:=zT.1 h2
 intro x hx
 unfold rG at hx
 simp only[List.mem_cons,List.not_mem_nil,or_false] at hx
 omega
theorem AS (a:Ar) (h:H):ai PP kU [WC a] h (.v (NT (fj a)) h):=by
 refine aj.pure (Cw ?_) (by unfold NT;simp[flat,Ar.c])
 unfold yR aq
 refine fz fun h1 f1 q1 n1=>bP fun h2 f2 U n2=>?_
 have j:=f2.aQ q1 om
 have F2:=f1.trans f2
 have bad:(u5 a.c1 a.r1=false\/u5 a.c2 a.r2=false)->eZ (fun v h'=>v=NT (fj a)/\Fr h h') (pT h.next) (pT h1.next) (.bool true) h2:=by
  intro q
  unfold eZ fj aq
  rw[ae,if_pos rfl,if_pos q,Aep,aa]
  exact Ug Acr RX F2 om U rfl rfl rfl (vI 6) rfl
 simp only[aE,aa,aA j,Nat.zero_add,Ar.c,ao,ay]
 refine ar (mW _ _ h2) ?_
 rw[aY,aa,ag]
 by_cases o:u5 a.c1 a.r1=true
 . rw[if_pos (by simp[o])]
   simp only[aA j,Ar.c,ao,ay,aa]
   refine ar (mW _ _ h2) ?_
   rw[aY,aa]
   by_cases p:u5 a.c2 a.r2=true
   . rw[p]
     show eZ _ _ _ (.bool false) h2
     unfold eZ fj aq
     have bd:=RW o p
     rw[ae,if_neg sm,if_neg (by simp[o,p])]
     simp only[aE,aa,aA j,Nat.zero_add,Ar.c,ao,ay,Li,wk]
     refine qY j rfl rfl (by simp[Ar.c]) fun h3 f3 q3 n3=>?_
     refine qY q3 rfl rfl (by simp[Ar.c]) fun h4 f4 q4 n4=>?_
     have C:h4.row h.next=some ⟨[.int .i64 (min a.c1 a.c2),.int .i64 a.r1,.int .i64 (max a.c1 a.c2),.int .i64 a.r2],182,0,0,false⟩:=q4
     simp only[aE,aa,aA C,Nat.zero_add,ao,ay,Li,wk]
     refine qY C rfl rfl (by simp[Ar.c]) fun h5 f5 q5 n5=>?_
     refine qY q5 rfl rfl (by simp[Ar.c]) fun J f6 q6 n6=>?_
     have I:J.row h.next=some ⟨(rG a).c,182,0,0,false⟩:=q6
     have f36:eV h.next h2 J:=((f3.trans f4).trans f5).trans f6
     have F6:Fr h J:=f36.fr F2 nlr
     have r6:=f36.aQ U om om
     rw[cO (n:=4) I rfl,aa]
     refine ar (AR (rG a) bd J) ?_
     rw[Go.X.binOp_gtr,aa,ae]
     by_cases R:200<Cu (rG a)
     . rw[if_pos (sp R),if_pos R,Aep,aa]
       exact Ug Acr RX F6 om r6 rfl rfl rfl (vI 7) rfl
     . rw[if_neg (sp R),if_neg R,cO (n:=4) I rfl,aa]
       exact Ug Acr RX F6 om r6 rfl rfl rfl (vI 0) rfl
   . rw[Bool.not_eq_true] at p
     rw[p];exact bad (.inr p)
 . rw[Bool.not_eq_true] at o
   rw[if_neg (by simp[o])];exact bad (.inl o)
def AT (a:Ar):Bool:=decide ((fj a).2=0)&&decide ((fj a).1=a)
theorem Ar.WD (a b:Ar):(a.c1=b.c1/\a.r1=b.r1/\a.c2=b.c2/\a.r2=b.r2)<->a=b:=by
 cases a;cases b;simp
theorem Agx (a b:Ar):X.binOp EE .eql 182 (WC a) (WC b)=some (.bool (decide (a=b))):=by
 refine (Abl a.c1 a.r1 a.c2 a.r2 b.c1 b.r1 b.c2 b.r2).trans ?_
 exact congrArg (fun x=>some (Value.bool x)) (decide_eq_decide.2 (Ar.WD a b))
theorem Jb (a:Ar) (h:H):ai PP oZ [WC a] h (.v (.bool (AT a)) h):=by
 refine aj.pure (Cx ?_) (by simp[flat])
 unfold yS mE aq
 refine fz fun p f1 o R=>?_
 rw[cO (n:=4) o rfl,aa]
 refine ar (AS a p) ?_
 unfold NT
 simp only[au,ao,ay,aa]
 refine bP fun h2 f2 C U=>lV C rfl rfl rfl fun I f3 J n3=>?_
 have j:=f3.aQ (f2.aQ o om) om om
 have F:Fr h I:=f3.fr (f1.trans f2) om
 unfold AT
 rw[Go.X.ak,aa,ag]
 by_cases g:(fj a).2=0
 . rw[if_pos (by simp[g]),cO (n:=4) j rfl,aa,cO (n:=4) J rfl,aa]
   refine (congrFun (congrArg af (Agx a (fj a).1)) _).mpr ?_
   rw[aa,decide_eq_true g,Bool.true_and]
   exact⟨congrArg Value.bool (decide_eq_decide.2 ⟨fun q=>q.symm,fun q=>q.symm⟩),F⟩
 . rw[if_neg (by simp[g])]
   exact⟨by simp[g],F⟩
theorem Jc (a:Ar) (h:H):ai PP o6 [WC a] h (.v (.int .i64 (if AT a=true then Cu a else 0)) h):=by
 refine aj.pure (Cy ?_) (by simp[flat])
 unfold yT aq
 refine fz fun C f1 I J=>?_
 rw[cO (n:=4) I rfl,aa]
 refine ar (Jb a C) ?_
 rw[aY,aa,ae]
 by_cases g:AT a=true
 . rw[if_neg (by simp[g]),if_pos g,cO (n:=4) I rfl,aa]
   have o:=g
   unfold AT at o
   simp only[Bool.and_eq_true,decide_eq_true_eq] at o
   have hb:u5 a.c1 a.r1=true/\u5 a.c2 a.r2=true:=by
    have j:=o.1
    unfold fj at j
    by_cases q:u5 a.c1 a.r1=false\/u5 a.c2 a.r2=false
    . rw[if_pos q] at j;exact absurd j sm
    . simpa using q
   have hn:rG a=a:=by
    have p:=o.2
    unfold fj at p
    rw[if_neg (by simp[hb])] at p
    split at p
    . rename_i q
      have j:=o.1
      unfold fj at j
      rw[if_neg (by simp[hb]),if_pos q] at j
      exact absurd j sm
    . exact p
   have bd:=RW hb.1 hb.2
   rw[hn] at bd
   exact ar (AR a bd C) ⟨rfl,f1⟩
 . rw[if_pos (sp g),if_neg g]
   exact⟨rfl,f1⟩
theorem Cz (r:Rf):o7 r=true<->(r.aU=[]\/r_ r.aU=true)/\u5 r.gX r.row=true:=by unfold o7;simp
theorem Hh {s:List UInt8} (h:r_ s=true):1<=s.length/\s.length<=12:=by
 rw[CA,decide_eq_true_eq] at h;exact⟨h.1,h.2.1⟩
theorem NU {r:Rf} (h:o7 r=true):r.aU.length<=12:=by
 rcases ((Cz r).1 h).1 with q | q
 . rw[q];simp
 . exact (Hh q).2
theorem pE (r:Rf) (hb:r.aU.length<=bl) (h:H):ai PP mY [NV r] h (.v (.bool (o7 r)) h):=by
 refine aj.pure (LB ?_) (by simp[flat])
 unfold Ka sa aq
 refine fz fun j f1 o p=>?_
 simp only[aE,aa,aA o,Nat.zero_add,Rf.c,ao,ay]
 rw[GH,Go.X.bf,aa,ag]
 by_cases h0:r.aU=[]
 . rw[if_neg (by simp[h0])]
   refine ar (mW _ _ j) ?_
   refine⟨?_,f1⟩
   unfold o7;rw[h0];simp
 . rw[if_pos (by simp[h0])]
   refine ar (u7 _ hb j) ?_
   rw[ag]
   cases hn:r_ r.aU with
   | true =>
    rw[if_pos rfl]
    simp only[aA o,Rf.c,ao,ay,aa]
    refine ar (mW _ _ j) ?_
    refine⟨?_,f1⟩
    unfold o7;rw[hn];simp
   | false =>
    rw[if_neg sm]
    refine⟨?_,f1⟩
    unfold o7;rw[hn];simp[h0]
theorem Hi (l p:List UInt8) (hl:l.length<=bl) (h:H):ai PP kv [st l,st p] h (.v (st (yM p l)) h):=by
 refine aj.pure (ya ?_) (by simp[flat])
 unfold s_ aq
 refine ar (v:=st (yM p l)) (h':=h) (aj.pure (mF ?_) (by simp[flat])) ⟨rfl,Fr.refl _⟩
 unfold ig aq
 refine ar (sY l p hl h) ?_
 rw[ae]
 unfold yM
 by_cases q:iY p l=true
 . have hle:p.length<=l.length:=by
    unfold iY at q
    rw[decide_eq_true_eq] at q
    have:=congrArg List.length q
    rw[List.length_take] at this;omega
   rw[if_pos q,if_pos q,eY,CB hle,aa];exact⟨rfl,Fr.refl _⟩
 . rw[if_neg q,if_neg q];exact⟨rfl,Fr.refl _⟩
theorem Uh (L:List (List UInt8)):ui [] L=L.flatten:=by
 cases L with
 | nil=>rfl
 | cons a L=>rw[Bp];simp[vF,List.flatMap_def]
theorem WE (p l:List UInt8):yM p (p++l)=l:=by
 unfold yM iY
 rw[List.take_left,if_pos sm,List.drop_left]
theorem Hj {h0 h:H} {v:Value} {L:List (List UInt8)} (hf:Fr h0 h) (o:bp 9 h0 h v (cD L)) (hl:L.length<=100000) (a:List UInt8) {K:Value->H->Prop}
 (p:∀ v' h',Fr h0 h'->bp 9 h0 h' v' (cD (L++[a]))->K v' h'):gh EE h 48 1 [(0,st a)] fun w C=>ir EE C #[48,48] v w K:=by
 refine TC TS hf o (by rw[List.length_map];omega) rfl (RP a) fun v' h' f j=>p v' h' f ?_
 unfold cD at j ⊢
 rw[List.map_append];exact j
theorem Aeq (h:H) (a b:List UInt8):dM EE h 48 2 [(0,st a),(1,st b)]=some (X.newRow h 9 [st a,st b] 0):=by kernel_rfl
theorem wT (r:Rf) (hb:r.aU.length<=bl) (h:H):ai PP ta [NV r] h (.v (st (An r)) h):=by
 refine aj.pure (NW ?_) (by simp[flat])
 unfold NX aq
 refine fz fun j f1 q1 n1=>?_
 rw[cO (n:=5) q1 rfl,aa]
 refine ar (pE r hb j) ?_
 rw[aY,aa,ae]
 unfold An
 by_cases ok:o7 r=true
 . rw[if_neg (by simp[ok]),if_pos ok]
   have hs:=NU ok
   have hg:=zT.1 ((Cz r).1 ok).2
   have TA:=CD r.gX
   obtain⟨m,hm⟩:∃ m:Nat,r.row=(m:Int):=⟨r.row.toNat,om⟩
   have Wb:=zU m om
   have row:∀ {h':H},Fr j h'->h'.row h.next=some ⟨r.c,51,0,0,false⟩:=fun f=>f.aQ q1 om
   have at_:LC r.gX r.row=re r.gX++eI r.row.toNat:=by unfold LC;rw[if_pos ((Cz r).1 ok).2]
   have J:∀ (v:Value) (L:List (List UInt8)) (h2:H),Fr j h2->bp 9 j h2 v (cD L)->L.length<=10->eC L<=100->(L++[eI r.row.toNat]).flatten=(if r.aU=[] then [] else r.aU++[33])++mG r.fc++re r.gX++mG r.fr++eI r.row.toNat->sc (fun v h'=>v=st ((if r.aU=[] then [] else r.aU++[33])++mG r.fc++re r.gX++mG r.fr++eI r.row.toNat)/\Fr h h') (pT h.next) v h2:=by
    intro v L h2 f2 C hl R he
    unfold sc aq
    simp only[aE,aa,aA (row f2),Nat.zero_add,Rf.c,ao,ay]
    refine ar (Jd _ _ h2) ?_
    simp only[aE,aa,aA (row f2),Nat.zero_add,Rf.c,ao,ay]
    refine ar (wR _ h2) ?_
    rw[at_]
    refine ar (Hi _ _ (by rw[List.length_append,hm,Int.toNat_natCast];show _<=1000000000;omega) h2) ?_
    rw[WE]
    refine Hj f2 C om _ fun v' h' f' o'=>?_
    refine ar (NS o' [] sm so (by rw[sy,hm,Int.toNat_natCast];omega)) ?_
    rw[Uh,he]
    exact⟨rfl,f1.trans f'⟩
   have U:∀ (v:Value) (L:List (List UInt8)) (h2:H),Fr j h2->bp 9 j h2 v (cD L)->L.length<=5->eC L<=50->L.flatten=(if r.aU=[] then [] else r.aU++[33])++mG r.fc->sd (fun v h'=>v=st ((if r.aU=[] then [] else r.aU++[33])++mG r.fc++re r.gX++mG r.fr++eI r.row.toNat)/\Fr h h') (pT h.next) v h2:=by
    intro v L h2 f2 C hl R he
    unfold sd aq
    simp only[aE,aa,aA (row f2),Nat.zero_add,Rf.c,ao,ay]
    refine ar (wR _ h2) ?_
    refine Hj f2 C om _ fun v3 h3 f3 o3=>?_
    have I:nth r.c 4=some (.bool r.fr):=rfl
    rw[aA (row f3),I,aa,ae]
    cases o:r.fr with
    | true =>
     rw[if_pos rfl]
     refine Hj f3 o3 so [36] fun v4 h4 f4 o4=>?_
     have:=J v4 (L++[re r.gX]++[[36]]) h4 f4 o4 so (by rw[sy,sy];simp;omega) (by rw[o];simp[he,mG])
     rw[o] at this;exact this
    | false =>
     rw[if_neg sm]
     have:=J v3 (L++[re r.gX]) h3 f3 o3 so (by rw[sy];omega) (by rw[o];simp[he,mG])
     rw[o] at this;exact this
   have J8:∀ (v:Value) (L:List (List UInt8)) (h2:H),Fr j h2->bp 9 j h2 v (cD L)->L.length<=2->eC L<=20->L.flatten=(if r.aU=[] then [] else r.aU++[33])->uj (fun v h'=>v=st ((if r.aU=[] then [] else r.aU++[33])++mG r.fc++re r.gX++mG r.fr++eI r.row.toNat)/\Fr h h') (pT h.next) v h2:=by
    intro v L h2 f2 C hl R he
    unfold uj aq
    have I:nth r.c 3=some (.bool r.fc):=rfl
    rw[aE,aa,aA (row f2),I,aa,ae]
    cases p:r.fc with
    | true =>
     rw[if_pos rfl]
     refine Hj f2 C om [36] fun v4 h4 f4 o4=>?_
     have:=U v4 (L++[[36]]) h4 f4 o4 so (by rw[sy];simp;omega) (by rw[p];simp[he,mG])
     rw[p] at this;exact this
    | false =>
     rw[if_neg sm]
     have:=U v L h2 f2 C om om (by rw[p];simp[he,mG])
     rw[p] at this;exact this
   have I:nth r.c 0=some (st r.aU):=rfl
   rw[aE,aa,aA q1,I,aa,GH,Go.X.di,aa,ae]
   by_cases h0:r.aU=[]
   . rw[if_neg (by simp[h0])]
     exact J8 _ [] j (Fr.refl _) .nil sm (by simp[eC]) (by simp[h0])
   . rw[if_pos (by simp[h0]),aa,aA q1,I,aa]
     refine Ab7 TS (Fr.refl j) .nil sm (xs:=[st r.aU,st [33]]) sm rfl (Aeq _ _ _) rfl fun v4 h4 f4 o4=>?_
     exact J8 v4 [r.aU,[33]] h4 f4 o4 sm (by simp[eC];omega) (by simp[h0])
 . rw[if_pos (sp ok),if_neg ok]
   exact⟨rfl,f1⟩
theorem Acs:bC EE 51 []=some (NV ZR):=by kernel_rfl
theorem NY {c:UInt8} {l:List UInt8}:0<fk (c :: l)<->bN c=true:=by
 unfold fk
 rw[List.takeWhile_cons]
 cases bN c <;> simp
theorem Je (s:List UInt8) (hb:s.length<=100000000) (h:H):ai PP uk [st s] h (.v (Ui (se s)) h):=by
 have qS:bl=1000000000:=rfl
 refine aj.pure (LD ?_) (by unfold Ui;simp[flat,Rf.c])
 unfold Kb aq
 refine bP fun J f1 q1 n1=>bP fun h2 f2 q2 n2=>?_
 have ZS:=f2.aQ q1 om
 have F2:=f1.trans f2
 -- behind DB aU
 have J4:∀ (sh t:List UInt8) (h3:H),t.length<=100000000->eV J.next h2 h3->h3.next=h2.next->h3.row J.next=some ⟨[st sh,.int .i64 0,.int .i64 0,.bool false,.bool false],51,0,0,false⟩ ->
  (∀ p,Ao t=p->se s=if p.2≠0 then p else ({ p.1 with aU:=sh },0))->sf (fun v h'=>v=Ui (se s)/\Fr h h') (st t) (pT h.next) (pT J.next) h3:=by
  intro sh t h3 ht f3 n3 r3 hP
  have j:=hP _ rfl
  clear hP
  unfold sf aq
  refine ar (AP t [36] om h3) ?_
  simp only[au,ao,ay,aa,aE,Nat.zero_add]
  refine qY r3 rfl rfl sm fun h4 f4 r4 n4=>?_
  have r4':h4.row J.next=some ⟨[st sh,.int .i64 0,.int .i64 0,.bool (iY [36] t),.bool false],51,0,0,false⟩:=r4
  have q4:=(f3.trans f4).aQ ZS om om
  have F4:Fr h h4:=(f3.trans f4).fr F2 om
  clear r3 r4 f3 f4
  unfold Ao at j
  generalize hu:yM [36] t=u at *
  have hul:u.length<=100000000:=by rw[<-hu];exact Nat.le_trans (NP _ _) ht
  generalize iY [36] t=fc at *
  simp only at j
  have bad:∀ (h5:H) (e:Nat),se s=(ZR,e)->Fr h h5->h5.row h.next=some ⟨[.string (bs []),.int .i64 0,.int .i64 0,.bool false,.bool false],51,0,0,false⟩ ->
   af (bC EE 51 []) fun v74=>af (wa 5 h5 (pT h.next) v74) fun h75=>af ((addrOf (pT h.next)).bind fun a0=>(X.loadVar EE h75 51 a0).bind fun w0=>((some []).map ((vI e) :: ·)).map (w0 :: ·)) fun vs=>(fun v h'=>v=Ui (se s)/\Fr h h') (cN vs) h75:=by
   intro h5 e he F5 r5
   rw[Acs,aa]
   exact Ug WG Uj F5 nlr r5 rfl rfl rfl (vI e) (by rw[he];rfl)
  refine aL.ind (fun s' h'=>h'=h4/\∃ i:Nat,s'=[st u,pT h.next,pT J.next,vI i]/\i<=u.length/\(u.take i).all bN=true) (fun s' _=>match aI s' 3 with | .int _ i=>u.length-i.toNat | _=>0) ?_ ⟨rfl,0,rfl,Nat.zero_le _,rfl⟩
  rintro s' h' ⟨rfl,i,rfl,hi,ha⟩
  show u9 _ _ (st u) (pT h.next) (pT J.next) (vI i) h'
  have out:(∀ hl:i<u.length,bN u[i]=false)->jO (fun v R=>v=Ui (se s)/\Fr h R) (fun VC R=>(R=h'/\∃ i:Nat,VC=[st u,pT h.next,pT J.next,vI i]/\i<=u.length/\(u.take i).all bN=true)/\(match aI VC 3 with | .int _ i=>u.length-i.toNat | _=>0)<(match aI [st u,pT h.next,pT J.next,vI i] 3 with | .int _ i=>u.length-i.toNat | _=>0)) (st u) (pT h.next) (pT J.next) (vI i) (.bool false) h':=by
   intro hn
   have hk:=Kc hi ha hn
   rw[hk] at j
   unfold jO aq
   rw[ae,if_neg sm,CB hi,aa]
   refine ar (AP _ [36] so h') ?_
   simp only[au,ao,ay,aa]
   rw[ag]
   have Wb:(yM [36] (u.drop i)).length<=u.length-i:=Nat.le_trans (NP _ _) sm
   generalize yM [36] (u.drop i)=row at *
   generalize iY [36] (u.drop i)=fr at *
   -- DB last part
   have C:∀ x:Bool,(x=true<->(fr=true/\(i=0\/0<fk row)))->gY (fun v R=>v=Ui (se s)/\Fr h R) (st u) (pT h.next) (pT J.next) (vI i) (st row) (.bool fr) (.bool x) h':=by
    intro x hx
    unfold gY aq
    rw[ae]
    by_cases VD:fr=true/\(i=0\/0<fk row)
    . rw[if_pos (hx.2 VD)]
      rw[if_pos VD] at j
      exact bad h' 10 (by rw[j];rfl) F4 q4
    . rw[if_neg (fun q=>VD (hx.1 q))]
      rw[if_neg VD] at j
      simp only[aE,aa,Nat.zero_add]
      refine qY r4' rfl rfl sm fun h5 f5 r5 n5=>?_
      have r5':h5.row J.next=some ⟨[st sh,.int .i64 0,.int .i64 0,.bool fc,.bool fr],51,0,0,false⟩:=r5
      have hlen:(u.take i++row).length<=100000000:=so
      rw[Aer hi,aa,Bq _ _ so,aa]
      refine ar (Hl _ om h5) ?_
      generalize hp:yU (u.take i++row)=p at *
      unfold RY
      simp only[au,ao,ay,aa,aE,Nat.zero_add]
      refine qY r5' rfl rfl sm fun h6 f6 r6 n6=>?_
      refine qY r6 rfl rfl sm fun h7 f7 r7 n7=>?_
      have r7':h7.row J.next=some ⟨[st sh,vI p.1,vI p.2.1,.bool fc,.bool fr],51,0,0,false⟩:=r7
      have f57:=(f5.trans f6).trans f7
      have F7:Fr h h7:=f57.fr F4 om
      have q7:=f57.aQ q4 om om
      rw[show (.int .i64 0:Value)=vI 0 from rfl,cX,aa,ae]
      by_cases hz:p.2.2=0
      . rw[if_neg (by simp[hz]),cO (n:=5) r7' rfl,aa]
        simp only[hz,ne_eq,not_true_eq_false,if_false] at j
        exact Ug WG Uj F7 nlr q7 rfl rfl rfl (vI 0) (by rw[j];rfl)
      . rw[if_pos (sp hz)]
        simp only[hz,ne_eq,not_false_eq_true,if_true] at j
        exact bad h7 p.2.2 j F7 q7
   cases o:fr with
   | false =>
    rw[if_neg sm]
    have:=C false (by simp[o])
    rw[o] at this;exact this
   | true =>
    rw[if_pos rfl,Go.X.ak,aa,ag]
    by_cases U:i=0
    . rw[if_neg (by simp[U])]
      have:=C true (by simp[o,U])
      rw[o] at this;exact this
    . rw[if_pos so,GH,Go.X.di,aa,ag]
      match row,C with
      | [],C =>
       rw[if_neg sm]
       have:=C false (by simp[o,U,fk])
       rw[o] at this;exact this
      | c :: r,C =>
       rw[if_pos sm,WI,aa,Go.X.binOp_geq,aa,ag]
       by_cases c1:65<=c.toNat
       . rw[if_pos so,aa,Go.X.binOp_leq,aa]
         have:=C (decide ((c.toNat:Int)<=90)) (by rw[NY,vG];simp[o,U];omega)
         rw[o] at this;exact this
       . rw[if_neg so]
         have:=C false (by rw[NY,vG];simp[o,U];omega)
         rw[o] at this;exact this
  unfold u9 aq
  rw[eY,Go.X.binOp_lss,aa,ag]
  by_cases I:i<u.length
  . rw[if_pos (by simp[I]),wix I,aa,Go.X.binOp_geq,aa,ag]
    by_cases g1:65<=u[i].toNat
    . rw[if_pos so,aa,Go.X.binOp_leq,aa]
      by_cases g2:u[i].toNat<=90
      . unfold jO aq
        rw[ae,if_pos so,u6 om om,aa]
        refine⟨⟨rfl,i+1,rfl,I,by rw[cQ _ _ _ I,ha,vG.2 ⟨g1,g2⟩];rfl⟩,?_⟩
        show u.length-((i:Int)+1).toNat<u.length-(i:Int).toNat
        omega
      . rw[decide_eq_false om]
        exact out fun _=>wU.2 om
    . rw[if_neg so]
      exact out fun _=>wU.2 om
  . rw[if_neg (by simp[I])]
    exact out fun hl=>absurd hl I
 refine ar (Lu s 33 om h2) ?_
 simp only[au,ao,ay,aa]
 rw[ae]
 have TA:=Ly 33 s
 by_cases hc:s.contains 33=true
 . rw[if_pos hc]
   refine ar (u7 _ om h2) ?_
   rw[aY,aa,ae]
   by_cases hn:r_ (gD 33 s)=true
   . rw[if_neg (by simp[hn]),aE,aa]
     refine qY q2 rfl rfl sm fun h3 f3 r3 n3=>?_
     refine J4 (gD 33 s) (iq 33 s) h3 om f3 n3 r3 ?_
     rintro p rfl
     unfold se
     rw[if_pos hc,if_neg (by simp[hn])]
   . rw[if_pos (sp hn),Acs,aa]
     refine Ug WG Uj F2 nlr ZS rfl rfl rfl (vI 10) ?_
     unfold se
     rw[if_pos hc,if_pos (sp hn)];rfl
 . rw[if_neg hc]
   refine J4 [] s h2 hb (eV.refl _ _) rfl q2 ?_
   rintro p rfl
   unfold se
   rw[if_neg hc]
   by_cases hz:(Ao s).2=0
   . rw[if_neg (by simp[hz])]
     have e:(Ao s).1.aU=[]:=by
      unfold Ao
      simp only
      split
      . rfl
      . split <;> rfl
     generalize Ao s=p at *
     obtain⟨⟨a,b,c,d,f⟩,g⟩:=p
     simp only at e hz
     subst e hz;rfl
   . rw[if_pos hz]
theorem Uk (c:UInt8):iY [c] []=false:=by unfold iY;simp
theorem Abm (c d:UInt8) (l:List UInt8):iY [c] (d :: l)=decide (d=c):=by unfold iY;simp
theorem Acu:(EE.dO 44).map (·.agg)=some true:=by kernel_rfl
theorem ZT:bC EE 44 []=some (Jf jW):=by kernel_rfl
theorem Agy (a:Int):bC EE 44 [(2,.int .i64 a)]=some (.agg ⟨[vI 0,st [],.int .i64 a,.bool false,st [],st []]⟩):=by kernel_rfl
theorem bTk (k a:Int) (s:List UInt8) (r:R3):bC EE 44 [(0,.int .i64 k),(1,st s),(2,.int .i64 a),(3,rv r)]=some (.agg ⟨[.int .i64 k,st s,.int .i64 a,.bool r.neg,st r.num,st r.den]⟩):=by kernel_rfl
theorem pF (c:UInt8) (h:H):ai PP fG [.int .u8 (c.toNat:Int)] h (.v (.bool (aR c)) h):=by
 refine aj.pure (LF ?_) (by simp[flat])
 unfold Ke wV aq
 simp only[Go.X.binOp_geq,Go.X.binOp_leq,aa,ag,vH,decide_eq_true_eq,decide_eq_false_iff_not]
 repeat' split
 all_goals first | exact⟨congrArg Value.bool (decide_eq_decide.2 om),Fr.refl _⟩ | exact⟨by rw[decide_eq_true om],Fr.refl _⟩ | exact⟨by rw[decide_eq_false om],Fr.refl _⟩
theorem WJ (c:UInt8):fb c=decide ((65<=c.toNat/\c.toNat<=90)\/(97<=c.toNat/\c.toNat<=122)\/(48<=c.toNat/\c.toNat<=57)\/c.toNat=36\/c.toNat=95):=by
 unfold fb
 rw[Kf,vH,show decide (c=36)=decide (c.toNat=36) from decide_eq_decide.2 ⟨fun e=>by rw[e];rfl,fun e=>UInt8.toNat_inj.1 e⟩,show decide (c=95)=decide (c.toNat=95) from decide_eq_decide.2 ⟨fun e=>by rw[e];rfl,fun e=>UInt8.toNat_inj.1 e⟩]
 rw[Bool.eq_iff_iff];simp;omega
theorem yV (c:UInt8) (h:H):ai PP sg [.int .u8 (c.toNat:Int)] h (.v (.bool (fb c)) h):=by
 refine aj.pure (Jg ?_) (by simp[flat])
 unfold Hm bU aq
 have D:∀ K:Value->H->Prop,K (.bool (aR c)) h->CP fG [.int .u8 (c.toNat:Int)] h K:=fun K hk=>ar (pF c h) hk
 have hd:=vH c
 simp only[Go.X.binOp_geq,Go.X.binOp_leq,Go.X.ak,aa,ag,WJ,decide_eq_true_eq,decide_eq_false_iff_not]
 have fin:∀ x:Bool,(x=true<->((65<=c.toNat/\c.toNat<=90)\/(97<=c.toNat/\c.toNat<=122)\/(48<=c.toNat/\c.toNat<=57)\/c.toNat=36\/c.toNat=95))->(Value.bool x=.bool (decide ((65<=c.toNat/\c.toNat<=90)\/(97<=c.toNat/\c.toNat<=122)\/(48<=c.toNat/\c.toNat<=57)\/c.toNat=36\/c.toNat=95))/\Fr h h):=fun x hx=>⟨congrArg Value.bool (by rw[Bool.eq_iff_iff,hx,decide_eq_true_eq]),Fr.refl _⟩
 by_cases j:48<=c.toNat/\c.toNat<=57
 . rw[decide_eq_true j] at hd
   rw[hd] at D
   repeat' split
   all_goals first
    | exact fin _ so
    | (refine D _ ?_;rw[ag,if_neg sm];exact fin _ so)
 . rw[decide_eq_false j] at hd
   rw[hd] at D
   repeat' split
   all_goals first
    | exact fin _ so
    | (refine D _ ?_;rw[ag,if_pos rfl];(repeat' split) <;> first | exact fin _ so | exact fin _ (by rw[decide_eq_true_eq];omega))
theorem Jh (c:UInt8) (h:H):ai PP wW [.int .u8 (c.toNat:Int)] h (.v (.bool (decide (c=32))) h):=by
 refine aj.pure (Ji ?_) (by simp[flat])
 unfold Hn aq
 rw[Go.X.ak,aa]
 exact⟨congrArg Value.bool (decide_eq_decide.2 (Qk c 32 32 rfl)),Fr.refl _⟩
theorem Acv {g:FuncId} {args:List Value} {h h':H} {v:Value} {K:Value->H->Prop} (hc:ai PP g args h (.v v h')) (hk:K v h'):DP (.func (.func g) ⟨[]⟩ ⟨[]⟩) args h K:=by
 refine⟨?_⟩
 show xR PP g (cW (cW [] args) []) h K
 have e:cW (cW [] args) []=args:=by rw[dF,dF,List.append_nil,List.nil_append]
 rw[e]
 exact ar hc hk
theorem ul {g:FuncId} {p:UInt8->Bool} (hg:∀ c h,ai PP g [.int .u8 (c.toNat:Int)] h (.v (.bool (p c)) h)) (s:List UInt8) (hb:s.length<=bl) (at':Nat) (TD:at'<=bl) (h:H):ai PP sA [st s,vI at',.func (.func g) ⟨[]⟩ ⟨[]⟩] h (.v (vI (fe p (s.drop at'))) h):=by
 have qS:bl=1000000000:=rfl
 refine aj.pure (Ql ?_) (by simp[flat])
 unfold RZ aq
 have Wb:(s.drop at').length=s.length-at':=sm
 have I:∀ (j:Nat) (h1:j<(s.drop at').length) (h2:at'+j<s.length),(s.drop at')[j]=s[at'+j]:=fun j h1 h2=>List.getElem_drop
 generalize s.drop at'=d at *
 refine aL.ind (fun U h'=>h'=h/\∃ i:Nat,U=[st s,vI at',.func (.func g) ⟨[]⟩ ⟨[]⟩,vI i]/\i<=d.length/\(d.take i).all p=true) (fun U _=>match aI U 3 with | .int _ i=>s.length-i.toNat | _=>0) ?_ ⟨rfl,0,rfl,Nat.zero_le _,rfl⟩
 rintro U h' ⟨rfl,i,rfl,hi,ha⟩
 show Bu _ _ (st s) (vI at') (.func (.func g) ⟨[]⟩ ⟨[]⟩) (vI i) h'
 have hw:X.binOp EE .add 3 (vI at') (vI i)=some (vI (at'+i)):=dm EE 3 at' i om
 have WK:X.binOp EE .add 3 (vI i) (.int .i64 1)=some (vI (i+1)):=dm EE 3 i 1 om
 have key:at'+i<s.length<->i<d.length:=om
 have dec:i<d.length->s.length-((i+1:Nat):Int).toNat<s.length-(i:Int).toNat:=fun q=>by omega
 have out:(∀ hl:i<d.length,p d[i]=false)->tb (fun v J=>v=vI (fe p d)/\Fr h' J) (fun R J=>(J=h'/\∃ i:Nat,R=[st s,vI at',.func (.func g) ⟨[]⟩ ⟨[]⟩,vI i]/\i<=d.length/\(d.take i).all p=true)/\(match aI R 3 with | .int _ i=>s.length-i.toNat | _=>0)<(match aI [st s,vI at',.func (.func g) ⟨[]⟩ ⟨[]⟩,vI i] 3 with | .int _ i=>s.length-i.toNat | _=>0)) (st s) (vI at') (.func (.func g) ⟨[]⟩ ⟨[]⟩) (vI i) (.bool false) h':=by
  intro hn
  unfold tb aq
  rw[ae,if_neg sm]
  unfold fe
  rw[LG hi ha hn]
  exact⟨rfl,Fr.refl _⟩
 unfold Bu aq
 rw[hw,aa,eY,bI,aa,ag]
 by_cases C:at'+i<s.length
 . have o:i<d.length:=key.1 C
   rw[if_pos (by simp[C]),aa,wix C,aa]
   refine Acv (hg _ h') ?_
   cases hp:p s[at'+i] with
   | true =>
    unfold tb aq
    rw[ae,if_pos rfl,WK,aa]
    exact⟨⟨rfl,i+1,rfl,o,by rw[cQ _ _ _ o,ha,I i o C,hp];rfl⟩,dec o⟩
   | false=>exact out fun _=>by rw[I i o C];exact hp
 . rw[if_neg (by simp[C])]
   exact out fun hl=>absurd (key.2 hl) C
def yW (e:Nat) (t:Tk) (n:Nat) (w:Value):Prop:=∃ j o,w=.tuple ⟨[Jf j,vI o,vI e]⟩/\(e=0->j=t/\o=n)
theorem LH {h0 h:H} {b:Nat} {cs:List Value} {e:TypeId} {osz:Nat} (F:Fr h0 h) (hb:h0.next<=b) (hr:h.row b=some ⟨cs,e,osz,0,false⟩) (hn:cs.length=6) (j:Tk) {x t:Tk} {m p er:Nat} (hx:j=j) (hz:er=0->j=t/\m=p) :
 af (wa 6 h (pT b) (Jf j)) (fun o=>af ((addrOf (pT b)).bind fun C=>(X.loadVar EE o 44 C).bind fun I=>(((some []).map ((vI er) :: ·)).map ((vI m) :: ·)).map (I :: ·)) fun vs=>(fun v h'=>Fr h0 h'/\yW er t p v) (cN vs) o):=by
 refine lV hr rfl hn rfl fun R f4 J U=>?_
 rw[R_ Acu Ul J rfl,aa]
 exact⟨f4.fr F hb,j,m,rfl,hz⟩
theorem LI (s:List UInt8):j9 s<=s.length:=by
 unfold j9
 have j:fe aR s<=s.length:=EP s
 simp only
 split
 . rename_i h
   have h2:fe aR (s.drop (fe aR s+1))<=(s.drop (fe aR s+1)).length:=EP _
   rw[List.length_drop] at h2
   omega
 . exact j
theorem Ho (s:List UInt8) (hb:s.length<=300) (at':Nat) (TD:at'<=s.length) (h:H) :
 CP wX [st s,vI at'] h fun w h'=>Fr h h'/\yW (qv ((s.drop at').take (j9 (s.drop at')))).2 ⟨1,(s.drop at').take (j9 (s.drop at')),at',(qv ((s.drop at').take (j9 (s.drop at')))).1⟩ (j9 (s.drop at')) w:=by
 have qS:bl=1000000000:=rfl
 refine .call (Jj ?_)
 unfold Hp aq
 refine bP fun I f1 q1 n1=>?_
 refine ar (ul pF s om at' om I) ?_
 have Wb:(s.drop at').length=s.length-at':=sm
 have hn:fe aR (s.drop at')<=(s.drop at').length:=EP _
 have hdd:s.drop (at'+fe aR (s.drop at')+1)=(s.drop at').drop (fe aR (s.drop at')+1):=by rw[List.drop_drop];rfl
 have j:j9 (s.drop at')=if 0<fe aR ((s.drop at').drop (fe aR (s.drop at')+1))/\(s.drop at')[fe aR (s.drop at')]?=some 46 then fe aR (s.drop at')+1+fe aR ((s.drop at').drop (fe aR (s.drop at')+1)) else fe aR (s.drop at'):=rfl
 have hle:=LI (s.drop at')
 generalize hnn:fe aR (s.drop at')=n at *
 have WK:X.binOp EE .add 3 (vI at') (vI n)=some (vI (at'+n)):=dm _ _ _ _ om
 rw[WK,aa]
 have Qm:X.binOp EE .add 3 (vI (at'+n)) (.int .i64 1)=some (vI (at'+n+1)):=dm EE 3 (at'+n) 1 om
 rw[Qm,aa]
 refine ar (ul pF s om (at'+n+1) om I) ?_
 rw[hdd]
 have hk:fe aR ((s.drop at').drop (n+1))<=(s.drop at').length-(n+1):=Nat.le_trans (EP _) (by rw[List.length_drop];exact Nat.le_refl _)
 generalize hkk:fe aR ((s.drop at').drop (n+1))=k at *
 have J4:pG (fun w h'=>Fr h h'/\yW (qv ((s.drop at').take (j9 (s.drop at')))).2 ⟨1,(s.drop at').take (j9 (s.drop at')),at',(qv ((s.drop at').take (j9 (s.drop at')))).1⟩ (j9 (s.drop at')) w) (st s) (vI at') (pT h.next) (vI (j9 (s.drop at'))) I:=by
  generalize j9 (s.drop at')=m at *
  have C:(s.take (at'+m)).drop at'=(s.drop at').take m:=by rw[List.drop_take];congr 1;omega
  have ZU:X.binOp EE .add 3 (vI at') (vI m)=some (vI (at'+m)):=dm _ _ _ _ om
  unfold pG aq
  rw[ZU,aa,Qn om om,aa,C]
  have hml:((s.drop at').take m).length<=300:=by rw[List.length_take];omega
  refine ar (Al _ om I) ?_
  generalize qv ((s.drop at').take m)=p at *
  unfold ZP
  simp only[au,ao,ay,aa]
  refine bP fun h2 f2 q2 n2=>lV q2 rfl rfl rfl fun h3 f3 q3 n3=>?_
  rw[Qn om om,aa,C,cO (n:=3) q3 rfl,aa]
  have e:=bTk 1 at' ((s.drop at').take m) p.1
  rw[e,aa]
  have ZS:=f3.aQ (f2.aQ q1 om) om om
  exact LH (f3.fr (f1.trans f2) om) nlr ZS rfl ⟨1,(s.drop at').take m,at',p.1⟩ (x:=jW) rfl fun _=>⟨rfl,rfl⟩
 have J:∀ x:Bool,(x=true<->(0<k/\(s.drop at')[n]?=some 46))->nO (fun w h'=>Fr h h'/\yW (qv ((s.drop at').take (j9 (s.drop at')))).2 ⟨1,(s.drop at').take (j9 (s.drop at')),at',(qv ((s.drop at').take (j9 (s.drop at')))).1⟩ (j9 (s.drop at')) w) (st s) (vI at') (pT h.next) (vI n) (vI k) (.bool x) I:=by
  intro x hx
  unfold nO aq
  rw[ae]
  by_cases q:0<k/\(s.drop at')[n]?=some 46
  . rw[if_pos (hx.2 q)]
    rw[if_pos q] at j
    have hw4:X.binOp EE .add 3 (.int .i64 1) (vI k)=some (vI (1+k)):=dm EE 3 1 k om
    have hw5:X.binOp EE .add 3 (vI n) (vI (1+k))=some (vI (n+(1+k))):=dm _ _ _ _ om
    rw[hw4,aa,hw5,aa,show n+(1+k)=n+1+k by omega,<-j]
    exact J4
  . rw[if_neg (fun z=>q (hx.1 z))]
    rw[if_neg q] at j
    have:=J4
    conv at this=>arg 5;rw[j]
    exact this
 rw[Go.X.binOp_gtr,aa,ag]
 by_cases o:0<k
 . have oz:at'+n<s.length:=om
   have R:n<(s.drop at').length:=om
   rw[if_pos (sp o),aa,wix oz,aa,Go.X.ak,aa]
   refine J _ ?_
   have U:(s.drop at')[n]?=some s[at'+n]:=by rw[List.getElem?_eq_getElem R,List.getElem_drop]
   rw[decide_eq_true_eq,Qk _ 46 46 rfl,U]
   constructor
   . intro e;exact⟨o,by rw[e]⟩
   . rintro⟨_,e⟩;exact Option.some.inj e
 . rw[if_neg (sp o)]
   exact J false (by simp[o])
def yb (d:List UInt8) (k:Nat):List UInt8:=(List.range k).foldl (fun j i=>if j.length<(lP ((i+1:Nat):Int)).length/\iY (lP ((i+1:Nat):Int)) d=true then lP ((i+1:Nat):Int) else j) []
theorem zV (d:List UInt8) (k:Nat):yb d (k+1)=if (yb d k).length<(lP ((k+1:Nat):Int)).length/\iY (lP ((k+1:Nat):Int)) d=true then lP ((k+1:Nat):Int) else yb d k:=by
 unfold yb;rw[List.range_succ,List.foldl_append];rfl
theorem WL (d:List UInt8) (k:Nat):(yb d k).length<=10:=by
 induction k with
 | zero=>simp[yb]
 | succ k j=>rw[zV];split;exact Nat.le_trans (RR _) om;exact j
theorem WM (d:List UInt8) (k:Nat):(yb d k).length<=d.length:=by
 induction k with
 | zero=>simp[yb]
 | succ k j =>
  rw[zV]
  split
  . rename_i h
    have:=h.2
    unfold iY at this
    rw[decide_eq_true_eq] at this
    have:=congrArg List.length this
    rw[List.length_take] at this;omega
  . exact j
def Ap (s:List UInt8) (at':Nat):Tk × Nat × Nat:=if tL (s.drop at')=[] then (jW,0,10) else (⟨10,tL (s.drop at'),at',r0⟩,(tL (s.drop at')).length,0)
theorem Jk (s:List UInt8) (hb:s.length<=300) (at':Nat) (R:at'<=s.length) (h:H) :
 CP yX [st s,vI at'] h fun w h'=>Fr h h'/\yW (Ap s at').2.2 (Ap s at').1 (Ap s at').2.1 w:=by
 have qS:bl=1000000000:=rfl
 refine .call (LJ ?_)
 unfold Kg aq
 refine bP fun h1 f1 q1 n1=>?_
 refine aL.ind (fun J h'=>h'=h1/\∃ k:Nat,J=[st s,vI at',pT h.next,st (yb (s.drop at') k),vI (k+1)]/\k<=7) (fun J _=>match aI J 4 with | .int _ i=>9-i.toNat | _=>0) ?_ ⟨rfl,0,rfl,om⟩
 rintro J h' ⟨rfl,k,rfl,hk⟩
 show wY _ _ (st s) (vI at') (pT h.next) (st (yb (s.drop at') k)) (vI (k+1)) h'
 unfold wY aq
 rw[show (.int .i64 7:Value)=vI 7 from rfl,nD,aa,ae]
 by_cases p:k<7
 . rw[if_pos so]
   refine ar (ko _ h') ?_
   have j:9-((k+1+1:Nat):Int).toNat<9-((k+1:Nat):Int).toNat:=om
   have hw:X.binOp EE .add 3 (vI (k+1)) (.int .i64 1)=some (vI (k+1+1)):=dm EE 3 (k+1) 1 om
   have C:∀ x:Bool,(x=true<->((yb (s.drop at') k).length<(lP ((k+1:Nat):Int)).length/\iY (lP ((k+1:Nat):Int)) (s.drop at')=true))->pH (fun w o=>Fr h o/\yW (Ap s at').2.2 (Ap s at').1 (Ap s at').2.1 w) (fun I o=>(o=h'/\∃ k:Nat,I=[st s,vI at',pT h.next,st (yb (s.drop at') k),vI (k+1)]/\k<=7)/\(match aI I 4 with | .int _ i=>9-i.toNat | _=>0)<(match aI [st s,vI at',pT h.next,st (yb (s.drop at') k),vI (k+1)] 4 with | .int _ i=>9-i.toNat | _=>0)) (st s) (vI at') (pT h.next) (st (yb (s.drop at') k)) (vI (k+1)) (st (lP ((k+1:Nat):Int))) (.bool x) h':=by
    intro x hx
    unfold pH u_ aq
    rw[ae,hw,aa,aa]
    by_cases q:(yb (s.drop at') k).length<(lP ((k+1:Nat):Int)).length/\iY (lP ((k+1:Nat):Int)) (s.drop at')=true
    . rw[if_pos (hx.2 q)]
      exact⟨⟨rfl,k+1,by rw[zV,if_pos q],p⟩,j⟩
    . rw[if_neg (fun z=>q (hx.1 z))]
      exact⟨⟨rfl,k+1,by rw[zV,if_neg q],p⟩,j⟩
   rw[eY,eY,Go.X.binOp_gtr,aa,ag]
   by_cases hl:(yb (s.drop at') k).length<(lP ((k+1:Nat):Int)).length
   . rw[if_pos (sp hl),CB R,aa]
     refine ar (lU _ _ so h') ?_
     exact C _ (by simp only[hl,true_and])
   . rw[if_neg (sp hl)]
     exact C false (by simp only[hl,false_and];simp)
 . have U:k=7:=om
   subst U
   rw[if_neg sm]
   have hf:yb (s.drop at') 7=tL (s.drop at'):=by unfold yb tL;rfl
   rw[hf,GH,Go.X.bf,aa,ae]
   unfold Ap
   clear hf
   generalize tL (s.drop at')=fl
   by_cases h0:fl=[]
   . rw[if_pos (sp h0),if_pos h0,ZT,aa]
     exact LH f1 nlr q1 rfl jW (m:=0) (er:=10) (x:=jW) rfl fun q=>absurd q sm
   . rw[if_neg (sp h0),if_neg h0,yP,aa]
     have e:=bTk 10 at' fl r0
     rw[e,aa,eY]
     exact LH f1 nlr q1 rfl ⟨10,fl,at',r0⟩ (x:=jW) rfl fun _=>⟨rfl,rfl⟩
theorem Abn (a b c:UInt8) (r:List UInt8):iY [a,b] (c :: r)=true<->c=a/\r.head?=some b:=by
 unfold iY
 cases r with
 | nil=>simp
 | cons d r=>simp
theorem LK (c:UInt8) (r:List UInt8) (hb:(c :: r).length<=300) (h:H):ai PP Bv [st (c :: r)] h (.v (.tuple ⟨[vI (cY (c :: r)).1,vI (cY (c :: r)).2]⟩) h):=by
 have qS:bl=1000000000:=rfl
 refine aj.pure (NZ ?_) (by simp[flat])
 unfold N0 aq
 rw[WI,aa]
 have E:∀ (k:UInt8),X.binOp EE .eql 5 (.int .u8 (c.toNat:Int)) (.int .u8 (k.toNat:Int))=some (.bool (decide (c=k))):=fun k=>by
  rw[Go.X.ak];exact congrArg (fun x=>some (Value.bool x)) (decide_eq_decide.2 (Qk c k _ rfl))
 have E40:=E 40
 have E41:=E 41
 have E44:=E 44
 have E58:=E 58
 have E33:=E 33
 have E60:=E 60
 have E62:=E 62
 have E43:=E 43
 have E45:=E 45
 have E42:=E 42
 have E47:=E 47
 have E94:=E 94
 have E38:=E 38
 have E61:=E 61
 have E37:=E 37
 have J6:∀ z,((c=60\/c=62)/\r.head?=some 61->z=(4,2))->(¬ ((c=60\/c=62)/\r.head?=some 61)->z=(4,1))->(c=60\/c=62)->um (fun v h'=>v=.tuple ⟨[vI (z:Nat × Nat).1,vI z.2]⟩/\Fr h h') (st (c :: r)) h:=by
  intro z z1 z2 hc
  unfold um wZ uo aq
  rw[eY,Go.X.binOp_gtr,aa,ag]
  cases r with
  | nil =>
   rw[if_neg sm,ae,if_neg sm,z2 sm]
   exact⟨rfl,Fr.refl _⟩
  | cons d r =>
   have e1:MV (st (c :: d :: r)) (.int .i64 1)=some (.int .u8 (d.toNat:Int)):=ixE (c :: d :: r) 1 sm
   rw[if_pos so,e1,aa,Go.X.ak,aa,ae]
   by_cases hd:d=61
   . rw[if_pos (by rw[hd];rfl),z1 ⟨hc,by rw[hd];rfl⟩]
     exact⟨rfl,Fr.refl _⟩
   . rw[if_neg (by rw[decide_eq_true_eq,Qk d 61 61 rfl];exact hd),z2 (by rintro⟨_,q⟩;exact hd (Option.some.inj q))]
     exact⟨rfl,Fr.refl _⟩
 show af (X.binOp EE .eql 5 (.int .u8 (c.toNat:Int)) (.int .u8 (((40:UInt8).toNat:Nat):Int))) _
 rw[E40,aa,ae]
 by_cases c40:c=40
 . have e:cY (c :: r)=(5,1):=by simp[cY,c40]
   rw[if_pos (sp c40),e];exact⟨rfl,Fr.refl _⟩
 rw[if_neg (sp c40)]
 show af (X.binOp EE .eql 5 (.int .u8 (c.toNat:Int)) (.int .u8 (((41:UInt8).toNat:Nat):Int))) _
 rw[E41,aa,ae]
 by_cases c41:c=41
 . have e:cY (c :: r)=(6,1):=by simp[cY,c41]
   rw[if_pos (sp c41),e];exact⟨rfl,Fr.refl _⟩
 rw[if_neg (sp c41)]
 show af (X.binOp EE .eql 5 (.int .u8 (c.toNat:Int)) (.int .u8 (((44:UInt8).toNat:Nat):Int))) _
 rw[E44,aa,ae]
 by_cases c44:c=44
 . have e:cY (c :: r)=(7,1):=by simp[cY,c44]
   rw[if_pos (sp c44),e];exact⟨rfl,Fr.refl _⟩
 rw[if_neg (sp c44)]
 show af (X.binOp EE .eql 5 (.int .u8 (c.toNat:Int)) (.int .u8 (((58:UInt8).toNat:Nat):Int))) _
 rw[E58,aa,ae]
 by_cases c58:c=58
 . have e:cY (c :: r)=(8,1):=by simp[cY,c58]
   rw[if_pos (sp c58),e];exact⟨rfl,Fr.refl _⟩
 rw[if_neg (sp c58)]
 show af (X.binOp EE .eql 5 (.int .u8 (c.toNat:Int)) (.int .u8 (((33:UInt8).toNat:Nat):Int))) _
 rw[E33,aa,ae]
 by_cases c33:c=33
 . have e:cY (c :: r)=(9,1):=by simp[cY,c33]
   rw[if_pos (sp c33),e];exact⟨rfl,Fr.refl _⟩
 rw[if_neg (sp c33)]
 show af (X.binOp EE .eql 5 (.int .u8 (c.toNat:Int)) (.int .u8 (((60:UInt8).toNat:Nat):Int))) _
 rw[E60,aa,ae]
 by_cases j:c=60
 . rw[if_pos (sp j)]
   refine ar (lU (c :: r) [60,62] om h) ?_
   rw[ae]
   by_cases hh:r.head?=some 62
   . have e:cY (c :: r)=(4,2):=by simp[cY,j,hh]
     rw[if_pos ((Abn _ _ _ _).2 ⟨j,hh⟩),e];exact⟨rfl,Fr.refl _⟩
   . rw[if_neg (fun q=>hh ((Abn _ _ _ _).1 q).2)]
     refine J6 _ (fun q=>?_) (fun q=>?_) (.inl j)
     . simp[cY,j,q.2]
     . have q2:¬ r.head?=some 61:=fun z=>q ⟨.inl j,z⟩
       simp[cY,j,hh,q2]
 rw[if_neg (sp j)]
 show af (X.binOp EE .eql 5 (.int .u8 (c.toNat:Int)) (.int .u8 (((62:UInt8).toNat:Nat):Int))) _
 rw[E62,aa,ae]
 by_cases p:c=62
 . rw[if_pos (sp p)]
   refine J6 _ (fun q=>?_) (fun q=>?_) (.inr p)
   . simp[cY,p,q.2]
   . have q2:¬ r.head?=some 61:=fun z=>q ⟨.inr p,z⟩
     simp[cY,p,q2]
 rw[if_neg (sp p)]
 have o:∀ x,cY (c :: r)=(4,1)->x=true->dQ (fun v h'=>v=.tuple ⟨[vI (cY (c :: r)).1,vI (cY (c :: r)).2]⟩/\Fr h h') (.bool x) h:=by
  rintro x e rfl
  rw[e]
  unfold dQ uo aq
  rw[ae,if_pos rfl]
  exact⟨rfl,Fr.refl _⟩
 show af (X.binOp EE .eql 5 (.int .u8 (c.toNat:Int)) (.int .u8 (((43:UInt8).toNat:Nat):Int))) _
 rw[E43,aa,ae]
 by_cases C:c=43
 . rw[if_pos (sp C)];exact o _ (by simp[cY,C]) (sp C)
 rw[if_neg (sp C)]
 show af (X.binOp EE .eql 5 (.int .u8 (c.toNat:Int)) (.int .u8 (((45:UInt8).toNat:Nat):Int))) _
 rw[E45,aa,ae]
 by_cases I:c=45
 . rw[if_pos (sp I)];exact o _ (by simp[cY,I]) (sp I)
 rw[if_neg (sp I)]
 show af (X.binOp EE .eql 5 (.int .u8 (c.toNat:Int)) (.int .u8 (((42:UInt8).toNat:Nat):Int))) _
 rw[E42,aa,ae]
 by_cases J:c=42
 . rw[if_pos (sp J)];exact o _ (by simp[cY,J]) (sp J)
 rw[if_neg (sp J)]
 show af (X.binOp EE .eql 5 (.int .u8 (c.toNat:Int)) (.int .u8 (((47:UInt8).toNat:Nat):Int))) _
 rw[E47,aa,ae]
 by_cases R:c=47
 . rw[if_pos (sp R)];exact o _ (by simp[cY,R]) (sp R)
 rw[if_neg (sp R)]
 show af (X.binOp EE .eql 5 (.int .u8 (c.toNat:Int)) (.int .u8 (((94:UInt8).toNat:Nat):Int))) _
 rw[E94,aa,ae]
 by_cases U:c=94
 . rw[if_pos (sp U)];exact o _ (by simp[cY,U]) (sp U)
 rw[if_neg (sp U)]
 show af (X.binOp EE .eql 5 (.int .u8 (c.toNat:Int)) (.int .u8 (((38:UInt8).toNat:Nat):Int))) _
 rw[E38,aa,ae]
 by_cases c38:c=38
 . rw[if_pos (sp c38)];exact o _ (by simp[cY,c38]) (sp c38)
 rw[if_neg (sp c38)]
 show af (X.binOp EE .eql 5 (.int .u8 (c.toNat:Int)) (.int .u8 (((61:UInt8).toNat:Nat):Int))) _
 rw[E61,aa,ae]
 by_cases c61:c=61
 . rw[if_pos (sp c61)];exact o _ (by simp[cY,c61]) (sp c61)
 rw[if_neg (sp c61)]
 show af (X.binOp EE .eql 5 (.int .u8 (c.toNat:Int)) (.int .u8 (((37:UInt8).toNat:Nat):Int))) _
 rw[E37,aa]
 by_cases c37:c=37
 . exact o _ (by simp[cY,c37]) (sp c37)
 have e:cY (c :: r)=(0,0):=by simp[cY,c40,c41,c44,c58,c33,j,p,C,I,J,R,U,c38,c61,c37]
 unfold dQ aq
 rw[ae,if_neg (sp c37),e]
 exact⟨rfl,Fr.refl _⟩
end Go.Proofs.YtikojelnedfmpaaGreatDoor
