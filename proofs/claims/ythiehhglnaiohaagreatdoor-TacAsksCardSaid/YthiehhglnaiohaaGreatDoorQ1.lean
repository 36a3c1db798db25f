/-
  TacAsks: PROVED FOR EVERY INPUT: the call returns true, and its arguments read as they read; over worlds whose listed tables read as the program lays them.
-/
import Derived.Test.YthiehhglnaiohaaGreatDoorP2
namespace Go.Proofs.YthiehhglnaiohaaGreatDoor
open Go.Wk Go.ChangeShapes Go.WideShapes Go.ChangeAt Go.RowKit
set_option linter.unusedVariables false
set_option maxRecDepth 100000

theorem tacAsks_contract (H : Type) (enc : TypeId × Value → H) (W : World) (base : Nat) (args : Array Value) (ds gs : List (DataW H)) (before : List MemPlace)
    (hval : ∀ (j : Nat) t v, Tryz.f5.params[j]? = some t → args[j]? = some v → Value.okWide Tryz.prog W .any base t v)
    (hW : DataW.Whole enc Tryz.prog Tryz.f5.params.toList Rows.tacAsksSpec.vars false W args.toList ds gs before)
    (hsz : (DataW.weightsEach Tryz.prog (Tryz.f5.params.toList ++ Rows.tacAsksSpec.plain.varTypes Tryz.prog) (ds ++ gs)).all (· ≤ reachBytes) = true) (hL : laidMetH Tryz.prog laid13 W) :
    Calls Tryz.prog 5 args W fun e W' => ∃ v, e = .returned v ∧ Rows.tacAsksSpec.post enc Tryz.prog Tryz.f5 false true false false W args v W' := by
  have hW' := hW
  obtain ⟨p, q, hA0, hV, rfl, hfz, hnd⟩ := hW
  have hA : DataW.TrodAll enc Tryz.prog W 0 (fun _ => true) true Tryz.f5.params.toList args.toList ds p := hA0
  rw [Tryz.params5] at hA hval hsz
  obtain ⟨v0, v1, d0, d1, p0, p1, rfl, rfl, rfl, h0, h1⟩ := trodAll_two hA
  obtain ⟨rfl, rfl⟩ := trodVars_none hV
  have hws : ∀ n ∈ d0.weights Tryz.prog 30, n ≤ reachBytes := fun n hn => by
    have := List.all_eq_true.1 hsz n (DataW.weights_mem_each (j := 0) rfl rfl n hn)
    simpa using this
  obtain ⟨A0, n0, c0, rfl⟩ := okWide_slice Tryz.underlying30 (hval 0 30 _ rfl rfl)
  obtain ⟨i, rfl, rfl, rfl, hwf⟩ := open_int Tryz.underlying3 (hval 1 3 _ rfl rfl) h1
  obtain ⟨fuel, h0'⟩ := h0
  obtain ⟨A, c, l, he, hc, -⟩ := code_read h0' hws
  cases he
  clear hA0 hval hA hsz
  simp only [List.append_nil] at hW'
  refine (tacAsks_sp l i A0 c0 W hc (pow10_of hL)).mono fun e W' ⟨_, _, he, hE⟩ => ?_
  subst he
  have hB := eff_below hE
  have hlt : ∀ x ∈ p0, x.block < W.heap.size := fun x hx => by simpa using hW'.lt x hx
  refine ⟨_, rfl, _, _, _, [], p0, [], hW', ?_, ?_, ?_, hB.frame _, fun h => by cases h⟩
  · exact trodAll_mk1 (shut_bool Tryz.underlying4 _)
  · have hh := code_again ⟨fuel, h0'⟩ hB hlt
    have h2 := trodAll_cons_mk hh (trodAll_cons_mk (shut_int (P := Tryz.prog) (w := W') Tryz.underlying3 hwf) trodAll_mk0)
    have e : p0 ++ ([] ++ ([] : List MemPlace)) = p0 := by simp
    rw [e] at h2
    exact h2
  · exact rfl

theorem tacAsks_reads (os : Os) {H : Type} (enc : TypeId × Value → H) : ∃ places, DataW.whole enc Tryz.prog ((World.laidAll Tryz.prog os laid13).forCall (fun _ _ => 0) ⟨#[], #[.slice none 0 0, .int .i64 0], []⟩).memory Tryz.f5.params.toList Rows.tacAsksSpec.vars false #[Value.slice none 0 0, .int .i64 0].toList 8 = some ([.nil, .lit (.int .i64 0)], [], places) :=
  ⟨[], by kernel_rfl⟩
theorem tacAsks_lifted (os : Os) (started : os.Started) (H : Type) (enc : TypeId × Value → H) (F : Stop.Interp) :
    ReturnsInHanded {} Tryz.checked os 5 .any ((OpenSpec.ofChange Rows.tacAsksSpec).preRow enc Tryz.prog Tryz.f5 Rows.tacAsksRow.domain false Rows.tacAsksRow.laid) (((OpenSpec.ofChange Rows.tacAsksSpec).at F).post enc Tryz.prog Tryz.f5 false true false false) := by
  obtain ⟨places, hx⟩ := tacAsks_reads os enc
  refine returnsInHanded_of_row (C := Tryz.checked) (s := OpenSpec.ofChange Rows.tacAsksSpec) own_knob started (by kernel_rfl) Tryz.func5
    (witness_row_atRef (enc := enc) (C := Tryz.checked) false (World.laidAll Tryz.prog os laid13) #[.slice none 0 0, .int .i64 0] (World.laidAll_os _ _ _) (by kernel_rfl) (by kernel_rfl) (by kernel_rfl)
      (OpenSpec.preRow_of_cond 8 hx (by kernel_rfl) (fun k hk => by cases hk) (by kernel_rfl) (laid13_met os _))) ?_
  intro W base args ds gs before hval hW _ _ hsz hL _ _
  exact tacAsks_contract H enc W base args ds gs before hval hW hsz hL
end Go.Proofs.YthiehhglnaiohaaGreatDoor
