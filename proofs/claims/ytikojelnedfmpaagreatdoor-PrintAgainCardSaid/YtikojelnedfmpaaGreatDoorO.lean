/- PrintAgain: of any text that is read as a formula, the text that is told of it is read as the same formula and told as it was. No conditions of its own. -/
import Derived.Carry
import Derived.ChangeSame
import Derived.ChangeVars
import Derived.JoinedOf
import Derived.RowKit
import Derived.LaidLaws
import Derived.Stop.Joined
import Derived.WideShapes
import Derived.Test.YtikojelnedfmpaaGreatDoorN
set_option linter.unusedSimpArgs false
set_option linter.unusedVariables false
namespace Go.Proofs.YtikojelnedfmpaaGreatDoor
open Go Go.X Go.ChangeShapes Go.WideShapes Go.RowKit
set_option maxRecDepth 1000000
theorem Ad2 (W:World) {base:Nat} {v:Value} (o:Value.okWide PP W .any base 9 v):Calls PP cv #[v] W fun e W'=>e=.returned (.bool true)/\RowKit.Below W.heap.size W W':=by
 obtain⟨s,rfl⟩:=okWide_string Tryz.underlying9 o
 exact Zv (Gm Ad3 s.data.toList ⟨.e,0⟩) (Ad4 W) ro0 (.cons _ _ _ _ (.string s) .nil)
def Bd:DataW Unit->List Value
 | .lit (.int k n)=>[.int k n]
 | _=>[]
def PT:DataW Unit->List Value
 | .agg l=>l.flatMap Bd
 | d=>Bd d
def Tw:DataW Unit->List Value
 | .agg l=>l.flatMap PT
 | d=>Bd d
noncomputable def Dq (os:Os):World :=
 let j:=World.holding Tryz.prog os ⟨#[],#[],[]⟩
 let put (h:Array Obj) (g:Nat) (d:DataW Unit):Array Obj:=h.modify g fun
  | .cells _ t frozen=>.cells (Tw d).toArray t frozen
  | o=>o
 { j with heap:=put (put (put (put (put j.heap 1 Rows.laid_unicode_utf8_first) 2 Rows.laid_unicode_utf8_acceptRanges) 3 Rows.laid_internal_strconv_uint64pow10) 4 Rows.laid_math_bits_deBruijn32tab) 5 Rows.laid_math_bits_deBruijn64tab }
theorem Tx (os:Os) (args:Array Value):laidMetH Tryz.prog Rows.printAgainRow.laid ((Dq os).forCall (fun _ _=>0) ⟨#[],args,[]⟩).memory:=by
 have h:laidMet Tryz.prog Rows.printAgainRow.laid ((Dq os).forCall (fun _ _=>0) ⟨#[],args,[]⟩).memory:=laidMet_of_run' 20 (by kernel_rfl) (by kernel_rfl)
 exact h
theorem AfY:ownKnob Tryz.prog.godebug=none:=by kernel_rfl
theorem VO:laidOutB Tryz.prog=true:=by kernel_rfl
theorem AbX {j:Type} {enc:TypeId × Value->j} {W:World} {gs:List (DataW j)} {q:List MemPlace} (o:DataW.TrodVars enc Tryz.prog W (fun _=>true) [] gs q):gs=[]/\q=[]:=by
 cases gs with
 | nil=>exact⟨rfl,o⟩
 | cons g r=>exact absurd o (by intro h;cases h)
theorem VP (os:Os) (started:os.Started) (H:Type) (enc:TypeId × Value->H) :
 ReturnsInHanded {} Tryz.checked os cv .any (fun w args=>(Rows.printAgainSpec.pre enc Tryz.prog Tryz.f3 [] false w args/\laidMetH Tryz.prog Rows.printAgainRow.laid w)/\sizedMet enc Tryz.prog Tryz.f3 (OpenSpec.ofChange Rows.printAgainSpec) false w args)
  (Rows.printAgainSpec.post enc Tryz.prog Tryz.f3 false true false false):=by
 refine returnsInHanded_of_change_and (C:=Tryz.checked) (X:=fun w _=>laidMetH Tryz.prog Rows.printAgainRow.laid w) (fun _ _ _ hh h=>h.of_heap hh) AfY started (by kernel_rfl) Tryz.func3
  (ChangeSpec.witness_at (enc:=enc) (C:=Tryz.checked) (os:=os) (X:=fun w _=>laidMetH Tryz.prog Rows.printAgainRow.laid w) false (Dq os) #[.string ⟨#[]⟩] 12 rfl (by kernel_rfl) (by kernel_rfl) (by kernel_rfl) (by kernel_rfl) (by kernel_rfl) (Tx os _)) ?_
 intro W base args ds gs before I hW _ _ hL _
 have o:∀ (j:Nat) t v,Tryz.f3.params[j]?=some t->args[j]?=some v->Value.okWide Tryz.prog W .any base t v:=I
 have J:=hW
 obtain⟨p,q,R,U,rfl,hfz,hnd⟩:=hW
 have hA:DataW.TrodAll enc Tryz.prog W 0 (fun _=>true) true Tryz.f3.params.toList args.toList ds p:=R
 have hV:DataW.TrodVars enc Tryz.prog W (fun _=>true) [] gs q:=U
 rw[Tryz.params3] at hA o
 obtain⟨v0,d0,rfl,rfl,h0⟩:=trodAll_one hA
 obtain⟨rfl,rfl⟩:=AbX hV
 have e1:Rows.printAgainSpec.fn H ([d0]++[])={ results:=[.lit (.bool true)],args:=[d0] }:=rfl
 refine (Ad2 W (o 0 9 v0 rfl rfl)).mono fun e W' ⟨he,hB⟩=>?_
 subst he
 have oz:∀ x ∈ p,x.block<W.heap.size:=fun x hx=>by simpa using J.lt x (sp hx)
 have t0:=Below.trod VO (by kernel_rfl) (of_decide_eq_true (by kernel_rfl)) h0 hB oz
 refine⟨_,rfl,_,_,_,[],p,[],J,?_,?_,?_,hB.frame _,fun h=>by cases h⟩
 . rw[e1];exact trodAll_mk1 (shut_bool Tryz.underlying4 true)
 . rw[e1];exact trodAll_mk1 t0
 . rw[e1];rfl
end Go.Proofs.YtikojelnedfmpaaGreatDoor
