/-
  The closed facts that the row TacAsks asks of the program.
-/
import Derived.Test.YthiehhglnaiohaaGreatDoorRows
import Derived.JoinedCond
namespace Go.Proofs.YthiehhglnaiohaaGreatDoor
set_option maxRecDepth 100000
set_option maxHeartbeats 8000000 in
theorem tacAsks_facts : joinedFacts Tryz.pinned.checked.prog 5 Tryz.f5 Rows.tacAsksSpec Rows.tacAsksRow = true := by
  unfold joinedFacts
  simp only [Bool.and_eq_true]
  repeat' apply And.intro
  all_goals as_aux_lemma => kernel_rfl
end Go.Proofs.YthiehhglnaiohaaGreatDoor
