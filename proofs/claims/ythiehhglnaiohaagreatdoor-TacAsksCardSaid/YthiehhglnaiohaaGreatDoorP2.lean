/-
  What the rows of law 13 tell of the package-level tables; a world that has them.
-/
import Derived.Test.YthiehhglnaiohaaGreatDoorP1
import Derived.Test.YthiehhglnaiohaaGreatDoorG2
import Derived.Test.YthiehhglnaiohaaGreatDoorCards
import Derived.Test.YthiehhglnaiohaaGreatDoorTie
import Derived.Lay
import Derived.Lib.LaidTab
import Derived.LaidSub
import Derived.LaidMore
import Derived.MakeChecks
import Derived.Deep.DeepHandedRow
import Derived.Deep.DeepWitnessRowRef
import Derived.SevenTiedAt
import Derived.OpenShut
import Derived.Stop.Joined
namespace Go.Proofs.YthiehhglnaiohaaGreatDoor
open Go.Wk Go.ChangeShapes Go.WideShapes Go.ChangeAt Go.RowKit
set_option linter.unusedVariables false
set_option maxRecDepth 100000

/-- The variables that every row of law 13 lists. -/
def laid13 : List (String × DataW Unit) := Rows.tacAsksRow.laid
def pow10Z : List Int := [1, 10, 100, 1000, 10000, 100000, 1000000, 10000000, 100000000, 1000000000, 10000000000, 100000000000, 1000000000000, 10000000000000, 100000000000000, 1000000000000000, 10000000000000000, 100000000000000000, 1000000000000000000, 10000000000000000000]
theorem gPow : Tryz.prog.globalNamed "internal/strconv.uint64pow10" = some 1 := by kernel_rfl
theorem gPowT : (Tryz.prog.globals[1]?).map (·.type) = some 358 := by kernel_rfl
theorem pow10_of {W : World} (h : laidMetH Tryz.prog laid13 W) : Pow10 (hw W) := by
  rw [MakeChecks.laidMetH_plain _ _ _ (by kernel_rfl)] at h
  have h1 := laidMet.filter (fun x => x.1 == "internal/strconv.uint64pow10") h
  have e : laid13.filter (fun x => x.1 == "internal/strconv.uint64pow10") = [("internal/strconv.uint64pow10", Lib.tabData .u64 pow10Z)] := by kernel_rfl
  rw [e] at h1
  have ht : Lib.TabIs Tryz.prog W "internal/strconv.uint64pow10" .u64 pow10Z := Lib.tabIs_of_head (rest := []) gPow gPowT Tryz.underlying358 Tryz.underlying80 (by kernel_rfl) (by kernel_rfl) h1
  have hc : ∀ i, i < 20 → W.cell? ⟨1, i, none⟩ = some (.int .u64 (pow10Z.getD i 0)) := fun i hi => ht.cell gPow i (by show i < 20; exact hi)
  have h0 := hc 0 (by decide)
  unfold World.cell? at h0
  have hex : ∃ c e fz, W.heap[1]? = some (.cells c e fz) := by
    cases hh : W.heap[1]? with
    | none => simp [hh] at h0
    | some o => cases o with
      | cells c e fz => exact ⟨c, e, fz, rfl⟩
      | _ => simp [hh] at h0
  obtain ⟨c, e, fz, hh⟩ := hex
  have hci : ∀ i, i < 20 → c.toList[i]? = some (.int .u64 (pow10Z.getD i 0)) := fun i hi => by
    have := hc i hi
    simpa [World.cell?, hh] using this
  refine ⟨c.toList.drop 20, e, fz, ?_⟩
  have hl : c.toList.take 20 = pow10 := by
    apply List.ext_getElem?
    intro i
    rw [List.getElem?_take]
    by_cases hi : i < 20
    · rw [if_pos hi, hci i hi]
      have hp : pow10 = pow10Z.map (Value.int .u64) := rfl
      have hi' : i < pow10Z.length := hi
      rw [hp, List.getElem?_map, List.getD_eq_getElem?_getD, List.getElem?_eq_getElem hi']
      rfl
    · rw [if_neg hi, List.getElem?_eq_none (by show 20 ≤ i; omega)]
  have e3 : c = ⟨pow10 ++ c.toList.drop 20⟩ := by
    rw [← hl, List.take_append_drop]
  show hw W 1 = _
  rw [← e3]
  exact hh
theorem laid13_met (os : Os) (args : Array Value) : laidMetH Tryz.prog laid13 ((World.laidAll Tryz.prog os laid13).forCall (fun _ _ => 0) ⟨#[], args, []⟩).memory := by
  rw [MakeChecks.laidMetH_plain _ _ _ (by kernel_rfl)]
  exact laidMet_laidAll args (by kernel_rfl) (by kernel_rfl)
end Go.Proofs.YthiehhglnaiohaaGreatDoor
