/-
  The closed facts that the row TacBack asks of the program.
-/
import Derived.Test.YtpohhfggmaihpaaGreatDoorRows
import Derived.JoinedCond
namespace Go.Proofs.YtpohhfggmaihpaaGreatDoor
set_option maxRecDepth 100000
set_option maxHeartbeats 8000000 in
theorem tacBack_facts : joinedFacts Tryz.pinned.checked.prog 7 Tryz.f7 Rows.tacBackSpec Rows.tacBackRow = true := by
  unfold joinedFacts
  simp only [Bool.and_eq_true]
  repeat' apply And.intro
  all_goals as_aux_lemma => kernel_rfl
end Go.Proofs.YtpohhfggmaihpaaGreatDoor
