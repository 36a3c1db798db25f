/-
  What the rows ask of a walk: the frame's last word, turned into a row's.
-/
import Derived.Test.YthiehhglnaiohaaGreatDoorP0
namespace Go.Proofs.YthiehhglnaiohaaGreatDoor
open Go.Wk Go.ChangeShapes Go.WideShapes Go.ChangeAt Go.RowKit
set_option linter.unusedVariables false
theorem own_knob : ownKnob Tryz.prog.godebug = none := by kernel_rfl
theorem laid_out : laidOutB Tryz.prog = true := by kernel_rfl
theorem eff_below {W w' : World} (h : Eff W [] w' []) : Below W.heap.size W w' := ⟨h.os, h.tape, h.output, h.size, fun k hk => h.keep k hk (by simp [ids])⟩
theorem code_again {H : Type} {enc : TypeId × Value → H} {W W' : World} {v : Value} {d : DataW H} {p : List MemPlace} (h : DataW.Trod enc Tryz.prog W 0 (fun _ => true) true 30 v d p) (hB : Below W.heap.size W W') (hlt : ∀ x ∈ p, x.block < W.heap.size) :
    DataW.Trod enc Tryz.prog W' 0 (fun b => decide (b < W.heap.size)) true 30 v d p :=
  Below.trod laid_out (by kernel_rfl) (of_decide_eq_true (by kernel_rfl)) h hB hlt
end Go.Proofs.YthiehhglnaiohaaGreatDoor
