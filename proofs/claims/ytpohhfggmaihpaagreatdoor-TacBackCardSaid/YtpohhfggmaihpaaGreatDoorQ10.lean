/-
  TacBack: PROVED FOR EVERY INPUT: the call returns true, and its argument reads as it read; over worlds whose listed tables read as the program lays them. The tied card.
-/
import Derived.Test.YtpohhfggmaihpaaGreatDoorZ18
import Derived.Test.YtpohhfggmaihpaaGreatDoorJ5
namespace Go.Proofs.YtpohhfggmaihpaaGreatDoor
open Go.Wk Go.ChangeShapes Go.WideShapes Go.ChangeAt Go.RowKit
set_option linter.unusedVariables false
set_option maxRecDepth 100000

theorem tacBack_said : Rows.TacBackSaid :=
  OpenClaim.holds_of_cond 7 Tryz.f7 rfl rfl rfl rfl rfl rfl rfl ⟨rfl, rfl, rfl, rfl, rfl⟩ rfl rfl rfl rfl rfl (by as_aux_lemma => kernel_rfl) Tryz.func7 tacBack_facts
    (of_decide_eq_true (by kernel_rfl)) (by unfold Func.isWrapper; first | (rw [if_pos (by decide +kernel)]; kernel_rfl) | (rw [if_neg (by decide +kernel)]; exact ⟨rfl, rfl⟩))
    (fun os started H enc _ F => by rw [OpenClaim.pre_eq_preRow]; exact tacBack_lifted os started H enc F)
theorem tacBack_plain (f : FuncId) (fn : Func) (hf : Tryz.pinned.checked.prog.funcNamed "mortise/mortiselaw13.TacBack" = some f) (hfn : Tryz.pinned.checked.prog.funcs[f]? = some fn) :
    true = Tryz.pinned.checked.prog.looks [] ∧ ∀ (j : Nat) t, fn.params[j]? = some t → Tryz.pinned.checked.prog.wantsStandIn t = false := by
  obtain rfl : f = 7 := Option.some.inj ((show Tryz.prog.funcNamed "mortise/mortiselaw13.TacBack" = some 7 by kernel_rfl).symm.trans hf) |>.symm
  obtain rfl : fn = Tryz.f7 := (Option.some.inj (Tryz.func7.symm.trans hfn)).symm
  refine ⟨by as_aux_lemma => kernel_rfl, fun j t ht => ?_⟩
  rw [Tryz.params7] at ht
  have hm : t = 25 := by simpa using Array.mem_of_getElem? ht
  rw [hm]
  exact (show Tryz.prog.wantsStandIn 25 = false by kernel_rfl)
theorem tacBack_card : Rows.TacBackCardSaid :=
  Claim7.holds_tied_plain_at .later [] _ _ _ _ tacBack_said (fun _ h => by cases h) (by as_aux_lemma => kernel_rfl) (fun _ h => by cases h) tacBack_row_tie rfl ⟨rfl, rfl⟩ (by as_aux_lemma => kernel_rfl) rfl tacBack_plain (by as_aux_lemma => kernel_rfl)
end Go.Proofs.YtpohhfggmaihpaaGreatDoor
