/- PrintAgain: of any text that is read as a formula, the text that is told of it is read as the same formula and told as it was. No conditions of its own. -/
import Derived.Test.YtikojelnedfmpaaGreatDoorTie
import Derived.Test.YtikojelnedfmpaaGreatDoorCards
import Derived.SevenTiedAt
import Derived.Test.YtikojelnedfmpaaGreatDoorO
set_option linter.unusedSimpArgs false
set_option linter.unusedVariables false
namespace Go.Proofs.YtikojelnedfmpaaGreatDoor
open Go Go.X
set_option maxRecDepth 1000000
theorem sc1:Tryz.pinned.checked.prog.funcNamed Rows.printAgainRow.func=some cv:=by kernel_rfl
theorem sc2:joinedFacts Tryz.pinned.checked.prog cv Tryz.f3 Rows.printAgainSpec Rows.printAgainRow=true:=by kernel_rfl
theorem sc3:Tryz.f3.isInstance Tryz.pinned.checked.prog Rows.printAgainRow.origin Rows.printAgainRow.targs:=of_decide_eq_true (by kernel_rfl)
theorem sc4:Tryz.f3.isWrapper Tryz.pinned.checked.prog Rows.printAgainRow.wrapper Rows.printAgainRow.mainSum:=by unfold Func.isWrapper;rw[if_neg (of_decide_eq_false (by kernel_rfl))];exact⟨rfl,rfl⟩
theorem AfZ (os:Os) (started:os.Started) (H:Type) (enc:TypeId × Value->H):ReturnsInHanded Rows.printAgainRow.assume Tryz.pinned.checked os cv .any (Rows.printAgainRow.pre enc Tryz.pinned.checked.prog Tryz.f3 (OpenSpec.ofChange Rows.printAgainSpec))
 (Rows.printAgainSpec.post enc Tryz.pinned.checked.prog Tryz.f3 Rows.printAgainRow.apart Rows.printAgainRow.fresh Rows.printAgainRow.handsOn Rows.printAgainRow.again):=VP os started H enc
theorem Ad5:Rows.PrintAgainSaid :=
 OpenClaim.holds_of_wide cv Tryz.f3 rfl rfl rfl rfl rfl rfl rfl ⟨rfl,rfl,rfl,rfl,rfl⟩ rfl rfl rfl rfl rfl sc1 Tryz.func3 sc2 sc3 sc4
  (fun os started H enc _=>AfZ os started H enc)
theorem sd2:Tryz.pinned.checked.prog.mainIs=some (true,"cafc5038b82051b2a308e6fa292dc3b4ea29774418e439f9690d96f7d79b9ae1".toList):=by kernel_rfl
theorem sd4:false=Tryz.pinned.checked.prog.looks []:=by kernel_rfl
theorem sdw:Tryz.prog.wantsStandIn 9=false:=by kernel_rfl
theorem sd1:Rows.printAgainRow.wfByText (OpenSpec.ofChange Rows.printAgainSpec)=true:=by kernel_rfl
theorem sd3:Tryz.prog.funcNamed "abacist/abacistlaw15.PrintAgain"=some cv:=by kernel_rfl
theorem sd6:false=Rows.printAgainRow.goesBy Tryz.pinned.checked.prog:=by kernel_rfl
theorem sd7 (f:FuncId) (fn:Func) (hf:Tryz.pinned.checked.prog.funcNamed Rows.printAgainRow.func=some f) (o:Tryz.pinned.checked.prog.funcs[f]?=some fn) :
 false=Tryz.pinned.checked.prog.looks []/\∀ (j:Nat) t,fn.params[j]?=some t->Tryz.pinned.checked.prog.wantsStandIn t=false:=by
 obtain rfl:f=3:=Option.some.inj (sd3.symm.trans hf) |>.symm
 obtain rfl:fn=Tryz.f3:=(Option.some.inj (Tryz.func3.symm.trans o)).symm
 refine⟨sd4,fun j t p=>?_⟩
 rw[Tryz.params3] at p
 rcases j with _ | j
 . obtain rfl:t=9:=sp p.symm
   exact sdw
 simp at p
theorem printAgain_holds:Rows.PrintAgainCardSaid :=
 Claim7.holds_tied_plain_at .later [] [.data,.data,.data,.data,.pinned] true (true,"cafc5038b82051b2a308e6fa292dc3b4ea29774418e439f9690d96f7d79b9ae1") false
  Ad5 (fun _ h=>by cases h) sd1 (fun _ h=>by cases h) printAgain_row_tie rfl ⟨rfl,rfl⟩ sd2 rfl sd7 sd6
#print axioms printAgain_holds
end Go.Proofs.YtikojelnedfmpaaGreatDoor
