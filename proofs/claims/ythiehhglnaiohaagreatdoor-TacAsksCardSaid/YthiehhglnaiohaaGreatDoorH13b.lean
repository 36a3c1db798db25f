/-
  The heads of law 13 are true.
-/
import Derived.Test.YthiehhglnaiohaaGreatDoorH13a
namespace Go.Proofs.YthiehhglnaiohaaGreatDoor
open Go.Wk Go.Ev
set_option maxRecDepth 100000
theorem heads13_true (more : List Value) (e : TypeId) (fz : Nat × Nat) : isTrue ((evK (ct13 more e fz) 1000 60).fn 16 [] ⟨0, .e⟩) = true := by kernel_rfl
end Go.Proofs.YthiehhglnaiohaaGreatDoor
