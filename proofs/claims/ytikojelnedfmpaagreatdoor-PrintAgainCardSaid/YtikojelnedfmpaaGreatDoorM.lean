/- PrintAgain: of any text that is read as a formula, the text that is told of it is read as the same formula and told as it was. No conditions of its own. -/
import Derived.KernelRfl
import Derived.Test.YtikojelnedfmpaaGreatDoorL
set_option linter.unusedSimpArgs false
set_option linter.unusedVariables false
namespace Go.Proofs.YtikojelnedfmpaaGreatDoor
open Go Go.X
set_option maxRecDepth 1000000
noncomputable def EX:Env:=Env.of Tryz.prog [(bJ,0),(aV,2)] PU
theorem Af0:∀ f k,h_ f [(bJ,0),(aV,2)]=some k->k≠3->VV PP f k:=by
 intro f k h _
 have h':(Bool.rec (motive:=fun _=>Option Nat) (Bool.rec (motive:=fun _=>Option Nat) none (some 2) (Nat.beq aV f)) (some 0) (Nat.beq bJ f))=some k:=h
 rw[ax,ax] at h'
 by_cases j:bJ=f
 . simp only[j,decide_true] at h'
   cases h'
   subst j
   exact⟨Tryz.f120,_,by kernel_rfl,by kernel_rfl,by kernel_rfl,by kernel_rfl,fun _=>rfl,fun q=>by cases q⟩
 . simp only[j,decide_false] at h'
   by_cases o:aV=f
   . simp only[o,decide_true] at h'
     cases h'
     subst o
     exact⟨Tryz.f206,_,by kernel_rfl,by kernel_rfl,by kernel_rfl,by kernel_rfl,(fun q=>by cases q),fun _=>rfl⟩
   . simp only[o,decide_false] at h'
     cases h'
theorem Ab0:bj PP EX:=M3 _ _ _ b3 b4 b1 b2 b6 b5 Af0
theorem Ab1:∀ f,h_ f EX.xs≠some 3:=by
 intro f h
 have h':(Bool.rec (motive:=fun _=>Option Nat) (Bool.rec (motive:=fun _=>Option Nat) none (some 2) (Nat.beq aV f)) (some 0) (Nat.beq bJ f))=some 3:=h
 revert h'
 cases Nat.beq aV f <;> cases Nat.beq bJ f <;> (intro q;cases q)
noncomputable def VQ (x:Option ik) (K:Value->H->Option Bool):Option Bool :=
 match x with
 | some (.v v h)=>K v h
 | _=>none
theorem Dr {x:Option ik} {K:Value->H->Option Bool} {r:Bool} (h:VQ x K=some r):∃ v h',x=some (.v v h')/\K v h'=some r:=by
 unfold VQ at h
 split at h
 . exact⟨_,_,rfl,h⟩
 . cases h
def AhK:Value->Bool
 | .bool b=>b
 | _=>false
def Ze:Value->Value->Bool
 | .int .i64 a,.int .i64 b=>decide (a=b)
 | .bool a,.bool b=>decide (a=b)
 | .string ⟨⟨a⟩⟩,.string ⟨⟨b⟩⟩=>decide (a=b)
 | _,_=>false
theorem VR {a b:Value} (h:Ze a b=true):a=b:=by
 unfold Ze at h
 split at h
 . rw[of_decide_eq_true h]
 . rw[of_decide_eq_true h]
 . rw[of_decide_eq_true h]
 . cases h
def Zw:List Value->List Value->Bool
 | [],[]=>true
 | a :: l,b :: m=>Ze a b&&Zw l m
 | _,_=>false
theorem RC:∀ {l m:List Value},Zw l m=true->l=m
 | [],[],_=>rfl
 | a :: l,b :: m,h=>by
  unfold Zw at h
  rw[Bool.and_eq_true] at h
  rw[VR h.1,RC h.2]
 | [],_ :: _,h=>by cases h
 | _ :: _,[],h=>by cases h
noncomputable def rdB {α:Type} (D:Kd α) (h:H) (v:Value) (l:List α):Bool :=
 match v with
 | .slice (some ⟨b,o,none⟩) n c=>decide (b<h.next)&&decide (n=l.length)&&decide (l.length<=c) &&
  (match h.row b with
  | some x=>(decide (x.osz=0)||decide (x.osz=D.k))&&Zw ((x.cs.drop o).take (D.k * l.length)) (D.flat l)
  | none=>false)
 | _=>false
theorem VT {α:Type} {D:Kd α} {h:H} {v:Value} {l:List α} (q:rdB D h v l=true):aZ D h v l:=by
 unfold rdB at q
 split at q
 . rename_i b o n c
   split at q
   . rename_i x hx
     simp only[Bool.and_eq_true,Bool.or_eq_true,decide_eq_true_eq] at q
     obtain⟨⟨⟨j,p⟩,C⟩,I,J⟩:=q
     subst p
     exact .at b o c l j ⟨x,hx,I,RC J⟩ C
   . simp at q
 . cases q
def t15:Ex:=.bin 3 (.bin 1 (.leaf (.num ⟨false,[1],[1]⟩)) (.leaf (.num ⟨false,[2],[1]⟩))) (.call [83,85,77] (.cons (.leaf (.vu ⟨[],1,1,false,false⟩ ⟨[],2,2,true,false⟩)) (.cons (.un 14 (.leaf (.num ⟨false,[3],[1]⟩))) .nil)))
theorem Ad6:pfW t15=.tuple ⟨[st [40,49,43,50,41,42,83,85,77,40,65,49,58,36,66,50,44,51,37,41],vI 0]⟩:=by kernel_rfl
theorem AbY:t15.sm:=by
 unfold t15
 simp[Ex.sm,bi.sm,Lf.sm,bi.len]
 decide
noncomputable def k15:Option Bool :=
 VQ (run EX 3000 (.call me [(.string (bs [40,40,49,41,43,50,41,42,83,85,77,40,65,49,32,58,32,98,33,99,44,32,51,37,41]))] ⟨.e,0⟩)) fun v0 p =>
 (dl v0 0).bind fun v2=>(dl v0 1).bind fun _=>(dl v0 2).bind fun _ =>
 (wa 2 (X.newRow p 25 [(.slice none 0 0),(.slice none 0 0)] 0) (li p) v2).bind fun U =>
 VQ (run EX 3000 (.call me [(.string (bs [40,40,49,41,43,50,41,42,83,85,77,40,65,49,32,58,32,36,66,50,44,32,51,37,41]))] U)) fun v8 C =>
 (dl v8 0).bind fun v10=>(dl v8 1).bind fun _=>(dl v8 2).bind fun _ =>
 (wa 2 (X.newRow C 25 [(.slice none 0 0),(.slice none 0 0)] 0) (li C) v10).bind fun j =>
 (fJ 2 j (li C)).bind fun I =>
 (fJ 2 j (li p)).bind fun J =>
 VQ (run EX 3000 (.call e_ [J] j)) fun o _ =>
 (dl o 0).bind fun _=>(dl o 1).bind fun R =>
 match I with
 | .agg ⟨[nv,av]⟩=>some (rdB Gn j nv (t15.lN 0 0)&&(rdB wc j av ((t15.ars 0).map Int.ofNat)&&Ze R (.int .i64 3)))
 | _=>none
theorem VU:k15=some true:=by kernel_rfl
end Go.Proofs.YtikojelnedfmpaaGreatDoor
