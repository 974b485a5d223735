/-
  Statement 'GoodTellsUpto' of the law spandrellaw23.GoodTells: for every declaration, rules, a number, of bulk at most the statement's own bound, the law returns true, its arguments read as they did. Conditions: none beyond the statement's own.
-/
import Derived.Test.YtlfnfiihfjggoaaGreatDoorT17
set_option linter.all false
set_option linter.unusedVariables false
set_option linter.unusedSimpArgs false
set_option linter.unnecessarySimpa false
set_option maxHeartbeats 8000000
set_option maxRecDepth 100000
namespace Go.Proofs.YtlfnfiihfjggoaaGreatDoor
open Go.RowKit Go.Proofs.Tryz
open Go.ChangeShapes Go.WideShapes Go.ChangeAt Go.RowKit
namespace GoodTellsRow
theorem facts:joinedFacts Tryz.pinned.checked.prog 3 Tryz.f3 (Rows.OpenSpec.upto Rows.goodTellsSpec).bare Rows.goodTellsUptoRow=true:=by
 simp only[joinedFacts,Bool.and_eq_true]
 repeat' apply And.intro
 all_goals (as_aux_lemma=>kernel_rfl)
theorem said:Rows.GoodTellsUptoSaid :=
 OpenClaim.holds_of_cond 3 Tryz.f3 rfl rfl rfl rfl rfl rfl rfl ⟨rfl,rfl,rfl,rfl,rfl⟩ rfl rfl rfl rfl rfl (by kernel_rfl) func3 facts
  (of_decide_eq_true (by kernel_rfl)) (by unfold Func.isWrapper;first|(rw[if_pos (by decide +kernel)];kernel_rfl)|(rw[if_neg (by decide +kernel)];exact⟨rfl,rfl⟩))
  (λ os started H enc _ F=>by rw[OpenClaim.pre_eq_preRow];exact lifted os started H enc F)
theorem plain (f : FuncId) (fn : Func) (hf : Tryz.pinned.checked.prog.funcNamed "spandrel/spandrellaw23.GoodTells" = some f) (hfn : Tryz.pinned.checked.prog.funcs[f]? = some fn) :
  true=Tryz.pinned.checked.prog.looks []/\∀(j:Nat) t,fn.params[j]? = some t->Tryz.pinned.checked.prog.wantsStandIn t=false:=by
 obtain rfl : f = 3 := Option.some.inj ((show prog.funcNamed "spandrel/spandrellaw23.GoodTells" = some 3 by kernel_rfl).symm.trans hf) |>.symm
 obtain rfl:fn=Tryz.f3:=(Option.some.inj (func3.symm.trans hfn)).symm
 refine⟨by kernel_rfl,λ j t ht=>?_⟩
 rw[params3] at ht
 have:t=34∨t=35∨t=3:=by
  have:=Array.mem_of_getElem? ht
  simp at this
  rcases this with h|h|h<;>simp[h]
 rcases this with rfl|rfl|rfl
 ·exact (show prog.wantsStandIn 34=false by kernel_rfl)
 ·exact (show prog.wantsStandIn 35=false by kernel_rfl)
 ·exact (show prog.wantsStandIn 3=false by kernel_rfl)
end GoodTellsRow
theorem goodTellsUpto_card_holds:Rows.GoodTellsUptoCardSaid :=
 Claim7.holds_tied_plain_at .later [] _ _ _ _ GoodTellsRow.said (λ _ h=>by cases h) (by kernel_rfl) (λ _ h=>by cases h) goodTellsUpto_row_tie rfl ⟨rfl,rfl⟩ (by kernel_rfl) rfl GoodTellsRow.plain (by kernel_rfl)
end Go.Proofs.YtlfnfiihfjggoaaGreatDoor
