/-
  The closed facts that the row TacPrints asks of the program.
-/
import Derived.Test.YtpohhfggmaihpaaGreatDoorRows
import Derived.JoinedCond
namespace Go.Proofs.YtpohhfggmaihpaaGreatDoor
set_option maxRecDepth 100000
set_option maxHeartbeats 8000000 in
theorem tacPrints_facts : joinedFacts Tryz.pinned.checked.prog 6 Tryz.f6 Rows.tacPrintsSpec Rows.tacPrintsRow = true := by
  unfold joinedFacts
  simp only [Bool.and_eq_true]
  repeat' apply And.intro
  all_goals as_aux_lemma => kernel_rfl
end Go.Proofs.YtpohhfggmaihpaaGreatDoor
