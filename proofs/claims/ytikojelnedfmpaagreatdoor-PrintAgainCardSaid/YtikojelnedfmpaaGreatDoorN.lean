/- PrintAgain: of any text that is read as a formula, the text that is told of it is read as the same formula and told as it was. No conditions of its own. -/
import Derived.Test.YtikojelnedfmpaaGreatDoorM
set_option linter.unusedSimpArgs false
set_option linter.unusedVariables false
namespace Go.Proofs.YtikojelnedfmpaaGreatDoor
open Go Go.X
set_option maxRecDepth 1000000
theorem AbZ {P:Program} {f:FuncId} {v:Value} {h':H} (x:ai P f [] ⟨.e,0⟩ (.v v h')) (hv:flat v=true) (h:H):ai P f [] h (.v v h):=by
 obtain⟨R,v',h2,e,hc⟩:=x
 cases e
 refine⟨R,v,h,rfl,fun ρ ARGS W U j=>?_⟩
 cases U
 have h0:aX (fun _=>none) ⟨.e,0⟩ W:=⟨fun b x r h=>(by cases h),fun b b' x x' r r' h=>(by cases h),fun b r h=>(by cases h),fun b _=>rfl⟩
 refine (hc _ [] W .nil h0).mono ?_
 intro e W' C
 cases e with
 | returned V =>
  obtain⟨bY,k1,k2,o⟩:=C
  have hk:∀ B,B<W.heap.size->W'.heap[B]?=W.heap[B]?:=fun B I=>o.kept B I fun b x r q=>(by cases q)
  refine⟨ρ,M2 hv k1,⟨fun b x r J p=>(j.obj b x r J p).mono ρ.le_refl (hk _ (j.we b r p).2),j.inj,fun b r e=>⟨(j.we b r e).1,Nat.lt_of_lt_of_le (j.we b r e).2 o.size⟩,j.fresh⟩,?_⟩
  exact⟨ρ.le_refl,o.size,o.os,o.tape,o.output,fun B I _=>hk B I,fun b x r J p e3 _=>⟨b,x,r,J,p,e3,rfl⟩,Nat.le_refl _,fun _ _=>rfl⟩
 | panicked _=>exact C.elim
 | outgrown=>exact C.elim
theorem Fr0 (h:H):Fr ⟨.e,0⟩ h:=⟨Nat.zero_le _,fun b hb=>absurd hb (Nat.not_lt_zero b)⟩
theorem Ty:ai PP gT [] ⟨.e,0⟩ (.v (.bool true) ⟨.e,0⟩):=by
 have k:=VU
 unfold k15 at k
 obtain⟨v0,o,r1,k⟩:=Dr k
 obtain⟨v2,e2,k⟩:=Option.bind_eq_some_iff.1 k
 obtain⟨v3,e3,k⟩:=Option.bind_eq_some_iff.1 k
 obtain⟨v4,e4,k⟩:=Option.bind_eq_some_iff.1 k
 obtain⟨h7,e7,k⟩:=Option.bind_eq_some_iff.1 k
 obtain⟨v8,p,r8,k⟩:=Dr k
 obtain⟨v10,C,k⟩:=Option.bind_eq_some_iff.1 k
 obtain⟨v11,I,k⟩:=Option.bind_eq_some_iff.1 k
 obtain⟨v12,J,k⟩:=Option.bind_eq_some_iff.1 k
 obtain⟨j,R,k⟩:=Option.bind_eq_some_iff.1 k
 obtain⟨v16,U,k⟩:=Option.bind_eq_some_iff.1 k
 obtain⟨v21,e21,k⟩:=Option.bind_eq_some_iff.1 k
 obtain⟨v22,Zx,r22,k⟩:=Dr k
 obtain⟨v24,e24,k⟩:=Option.bind_eq_some_iff.1 k
 obtain⟨v25,e25,k⟩:=Option.bind_eq_some_iff.1 k
 split at k
 . rename_i nv av
   have k:=Option.some.inj k
   rw[Bool.and_eq_true,Bool.and_eq_true] at k
   obtain⟨k1,k2,k3⟩:=k
   have k3:=VR k3
   subst k3
   refine aj.pure (Gp ?_) rfl
   unfold Ew aq
   refine ar ((below Ab0 Ab1 3000).call _ _ _ _ r1) ?_
   rw[e2,aa,e3,aa,e4,aa]
   show af (wa 2 (X.newRow o 25 [(.slice none 0 0),(.slice none 0 0)] 0) (li o) v2) _
   rw[e7,aa]
   refine ar ((below Ab0 Ab1 3000).call _ _ _ _ r8) ?_
   rw[C,aa,I,aa,J,aa]
   show af (wa 2 (X.newRow p 25 [(.slice none 0 0),(.slice none 0 0)] 0) (li p) v10) _
   rw[R,aa]
   show af (fJ 2 j (li p)) _
   rw[U,aa]
   refine ar (nu (VT k1) (VT k2) AbY dc dc) ?_
   rw[Ad6]
   simp only[au,ao,ay,aa]
   show af (fJ 2 j (li o)) _
   rw[e21,aa]
   refine ar ((below Ab0 Ab1 3000).call _ _ _ _ r22) ?_
   rw[e24,aa,e25,aa,Go.X.bf,aa,ag,if_pos (by rfl),Go.X.ak,aa,ag,if_pos (by rfl),Go.X.ak,aa,ag,if_pos (by rfl)]
   refine ar (xM [97,34,98] Zx dc) ?_
   rw[Go.X.bf,aa]
   unfold jC aq
   exact⟨rfl,Fr0 _⟩
 . cases k
theorem Ad3 (h:H):ai PP gT [] h (.v (.bool true) h):=AbZ Ty (by simp[flat]) h
end Go.Proofs.YtikojelnedfmpaaGreatDoor
