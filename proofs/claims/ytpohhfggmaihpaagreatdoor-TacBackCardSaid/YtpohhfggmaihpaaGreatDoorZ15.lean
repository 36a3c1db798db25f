/-
  tac's reader: an instruction.
  tac's unhex.
  Programs without their addresses: what Check says of them.
  A program read line by line: what each line does to it.
  What a walk knows, less.
-/
import Derived.Test.YtpohhfggmaihpaaGreatDoorZ14
import Derived.Test.YtpohhfggmaihpaaGreatDoorZ11

/- tac's reader: an instruction. -/
namespace Go.Proofs.YtpohhfggmaihpaaGreatDoor
open Go.Wk
set_option linter.unusedVariables false
set_option linter.unusedSimpArgs false
attribute [local irreducible] G GC GQ GA GS Exit.then Exit.inBlock

def insY (x : Ins) (ad : Option Addr) (c : Nat) : Ins := { x with aA := ad, aC := c }
structure SmI (x : Ins) : Prop where
  d : sm x.d
  d1 : -1 ≤ x.d
  n : sm x.n
  off : sm x.off
  width : sm x.width
  a : x.a.ok
  b : x.b.ok
  args : ∀ a ∈ x.args, a.ok
def ShI (x : Ins) : Prop := alikeB x (shapeI x) = true ∧ (x.op ≠ 8 → x.args = [])
theorem dW_pos {n : Int} (h : 0 ≤ n) : tmpT n = dW n := by unfold dW; rw [if_neg (by omega)]
theorem argc_rd {h : Nat → Option Obj} {g : Nat} {e : TypeId} {fz : Nat × Nat} {a : Arg} (hg : h g = some (.cells ⟨a.cells⟩ e fz)) : Rd h Arg.cells 2 (some ⟨g, 0, none⟩) [a] := fun i x hx => by
  have hi : i = 0 := by have := (List.getElem?_eq_some_iff.1 hx).1; simpa using this
  subst hi
  simp only [List.getElem?_cons_zero, Option.some.injEq] at hx
  subst hx
  refine ⟨g, 0, rfl, fun j u hu => ?_⟩
  unfold cellAt
  rw [hg]
  simpa using hu
set_option maxHeartbeats 64000000 in
theorem rins_sp (b : Nat) (x : Ins) (R0 : RL) (w : World) (hP : PI x) (hbin : binOk x) (hS : SmI x) (hsh : ShI x) (hB : RD b (insW x).tail R0) (hE : Eff w R0.flatten w R0.flatten) :
    Sp Tryz.prog 74 [.pointer (some ⟨b, 0, none⟩), .string (mkB (opN x))] w R0.flatten (fun y : Option Addr × Nat × HL × RL => .agg (insY x y.1 y.2.1).cells.toArray) (fun y => y.2.2.1 :: y.2.2.2) (fun y => RD b [] y.2.2.2 ∧ OwnL 40 2 Arg.cells (.slice y.1 x.args.length y.2.1) x.args y.2.2.1) := by
  have ha := hP.a
  have hb := hP.b
  have hd := hP.d
  refine enter (s := Tryz.sx) R0 Tryz.func74 rfl rfl rfl hE ?_
  refine gc_seq ?_
  repeat' (first | refine g_nil ?_ | refine gq_then ?_ | refine gc_region ?_ | refine g_alloc rfl rfl (fun _ => ?_))
  rename_i b4
  refine gc_seq ?_
  repeat' (refine gc_region ?_)
  refine g_p (p_build rfl rfl rfl rfl) rfl ?_
  repeat' (first | refine g_nil ?_ | refine gq_then ?_ | refine g_alloc rfl rfl (fun _ => ?_) | refine g_st 0 rfl rfl rfl rfl rfl rfl rfl ?_)
  rename_i b5
  refine gc_heap (R' := [[(b5, .cells ⟨[.int .i64 0, .int .i64 0, .int .i64 (-1), .int .i64 0, .int .u32 0, .int .i64 0, .int .u32 0, .int .i64 0, .int .i64 0, .int .i64 0, .bool false, .slice none 0 0]⟩ 43 (0, 0))], [(b4, .cells ⟨[.int .i64 0, .int .i64 0, .int .i64 0, .int .i64 0, .int .u32 0, .int .i64 0, .int .u32 0, .int .i64 0, .int .i64 0, .int .i64 0, .bool false, .slice none 0 0]⟩ 43 (0, 0))]] ++ R0) (fun w H => H) ?_
  refine gc_seq ?_
  refine gc_seq ?_
  repeat' (first | refine g_pv rfl rfl ?_ | refine g_nil ?_ | refine gq_then ?_ | refine gc_region ?_ | refine gc_block ?_)
  repeat' (first | refine gc_seq ?_ | refine gc_region ?_)
  refine g_p (p_eqT rfl rfl rfl) rfl ?_
  refine g_eq 31 (u' := .bool (decide (x.op = 1))) rfl (congrArg Value.bool ((eqT_mk (opN x) (keyOp 1)).trans (opN_is hP hbin (by decide)))) ?_
  repeat' (first | refine g_pv rfl rfl ?_ | refine g_nil ?_ | refine gq_then ?_)
  refine gc_condC rfl (fun c1 => ?_) (fun c1 => ?_)
  · have c1 := of_decide_eq_true c1
    have hW : (insW x).tail = [dW x.d, argT x.a] := by simp [insW, c1, dW_pos (hd (by omega))]
    rw [hW] at hB
    have hR0 := hB
    repeat' (first | refine g_pv rfl rfl ?_ | refine gc_region ?_)
    refine g_heap (R' := R0 ++ [[(b5, .cells ⟨[.int .i64 0, .int .i64 0, .int .i64 (-1), .int .i64 0, .int .u32 0, .int .i64 0, .int .u32 0, .int .i64 0, .int .i64 0, .int .i64 0, .bool false, .slice none 0 0]⟩ 43 (0, 0))], [(b4, .cells ⟨[.int .i64 0, .int .i64 0, .int .i64 0, .int .i64 0, .int .u32 0, .int .i64 0, .int .u32 0, .int .i64 0, .int .i64 0, .int .i64 0, .bool false, .slice none 0 0]⟩ 43 (0, 0))]]) (fun w H => hp_permL H List.perm_append_comm) ?_
    refine g_call1 (A := R0) (F := [[(b5, .cells ⟨[.int .i64 0, .int .i64 0, .int .i64 (-1), .int .i64 0, .int .u32 0, .int .i64 0, .int .u32 0, .int .i64 0, .int .i64 0, .int .i64 0, .bool false, .slice none 0 0]⟩ 43 (0, 0))], [(b4, .cells ⟨[.int .i64 0, .int .i64 0, .int .i64 0, .int .i64 0, .int .u32 0, .int .i64 0, .int .u32 0, .int .i64 0, .int .i64 0, .int .i64 0, .bool false, .slice none 0 0]⟩ 43 (0, 0))]]) rfl rfl (Cl.of Tryz.func114 rfl rfl) rfl rfl (fun w' hE' => rtmp_sp b x.d ([argT x.a]) R0 w' hS.d hS.d1 hR0 (hp_own hE')) rfl (fun R1 hR1 => ?_)
    repeat' (refine g_pv rfl rfl ?_)
    refine g_call1 (A := R1) (F := [[(b5, .cells ⟨[.int .i64 0, .int .i64 0, .int .i64 (-1), .int .i64 0, .int .u32 0, .int .i64 0, .int .u32 0, .int .i64 0, .int .i64 0, .int .i64 0, .bool false, .slice none 0 0]⟩ 43 (0, 0))], [(b4, .cells ⟨[.int .i64 0, .int .i64 0, .int .i64 0, .int .i64 0, .int .u32 0, .int .i64 0, .int .u32 0, .int .i64 0, .int .i64 0, .int .i64 0, .bool false, .slice none 0 0]⟩ 43 (0, 0))]]) rfl rfl (Cl.of Tryz.func115 rfl rfl) rfl rfl (fun w' hE' => rarg_sp' b x.a ([]) R1 w' hS.a (ha (by omega)) hR1 (hp_own hE')) rfl (fun R2 hR2 => ?_)
    refine g_heap (R' := [[(b5, .cells ⟨[.int .i64 0, .int .i64 0, .int .i64 (-1), .int .i64 0, .int .u32 0, .int .i64 0, .int .u32 0, .int .i64 0, .int .i64 0, .int .i64 0, .bool false, .slice none 0 0]⟩ 43 (0, 0))], [(b4, .cells ⟨[.int .i64 0, .int .i64 0, .int .i64 0, .int .i64 0, .int .u32 0, .int .i64 0, .int .u32 0, .int .i64 0, .int .i64 0, .int .i64 0, .bool false, .slice none 0 0]⟩ 43 (0, 0))]] ++ R2) (fun w H => hp_permL H List.perm_append_comm) ?_
    repeat' (first | refine g_pv rfl rfl ?_ | refine g_ld 0 rfl rfl rfl rfl rfl rfl ?_ | refine g_nil ?_ | refine gq_then ?_ | refine gc_seq ?_ | refine gc_region ?_ | refine gc_ret ?_ | refine gq_block ?_ | refine g_st 0 rfl rfl rfl rfl rfl rfl rfl ?_ | refine g_st 1 rfl rfl rfl rfl rfl rfl rfl ?_)
    have hargs : x.args = [] := hsh.2 (by omega)
    have hq := hsh.1
    rw [shape1 c1] at hq
    simp [alikeB] at hq
    have hc12 : (insY x none 0).cells = [.int .i64 1, .int .i64 0, .int .i64 x.d, .int .i64 x.a.k, .int .u32 x.a.n, .int .i64 0, .int .u32 0, .int .i64 0, .int .i64 0, .int .i64 0, .bool false, .slice none 0 0] := by simp [insY, Ins.cells, c1, hargs, hq]
    refine gq_retC (.inr rfl) rfl rfl 1 rfl rfl rfl rfl rfl (fun w' H => ⟨(none, 0, [], R2), ⟨hR2, by rw [hargs]; exact OwnL.nil _ _ _⟩, ?_, hp_tail (hp_tail H)⟩)
    dsimp only
    rw [hc12]
  have c1 := of_decide_eq_false c1
  refine gc_cut (Y := Unit) (fun _ => True) (fun _ => [(0, .pointer (some ⟨b, 0, none⟩)), (1, .string (mkB (opN x))), (4, .pointer (some ⟨b4, 0, none⟩)), (5, .pointer (some ⟨b5, 0, none⟩)), (9, .string (mkB (opN x))), (39, .bool (decide (x.op = 3 ∨ x.op = 4)))]) (fun _ => [[(b5, .cells ⟨[.int .i64 0, .int .i64 0, .int .i64 (-1), .int .i64 0, .int .u32 0, .int .i64 0, .int .u32 0, .int .i64 0, .int .i64 0, .int .i64 0, .bool false, .slice none 0 0]⟩ 43 (0, 0))], [(b4, .cells ⟨[.int .i64 0, .int .i64 0, .int .i64 0, .int .i64 0, .int .u32 0, .int .i64 0, .int .u32 0, .int .i64 0, .int .i64 0, .int .i64 0, .bool false, .slice none 0 0]⟩ 43 (0, 0))]] ++ R0) ?_ ?_
  · repeat' (first | refine gc_seq ?_ | refine gc_region ?_)
    refine g_p (p_eqT rfl rfl rfl) rfl ?_
    refine g_eq 40 (u' := .bool (decide (x.op = 3))) rfl (congrArg Value.bool ((eqT_mk (opN x) (keyOp 3)).trans (opN_is hP hbin (by decide)))) ?_
    repeat' (first | refine g_pv rfl rfl ?_ | refine g_nil ?_ | refine gq_then ?_)
    refine gc_condC rfl (fun c3 => ?_) (fun c3 => ?_)
    · have c3 := of_decide_eq_true c3
      repeat' (refine gc_skip ?_)
      exact gq_at () trivial ⟨rfl, rfl, rfl, rfl, rfl, by rw [decide_eq_true (p := x.op = 3 ∨ x.op = 4) (.inl c3)]; rfl, trivial⟩ (fun w' H => H)
    · have c3 := of_decide_eq_false c3
      repeat' (refine gc_region ?_)
      refine g_p (p_eqT rfl rfl rfl) rfl ?_
      refine g_eq 41 (u' := .bool (decide (x.op = 4))) rfl (congrArg Value.bool ((eqT_mk (opN x) (keyOp 4)).trans (opN_is hP hbin (by decide)))) ?_
      repeat' (first | refine g_pv rfl rfl ?_ | refine g_nil ?_)
      exact gq_at () trivial ⟨rfl, rfl, rfl, rfl, rfl, by rw [show decide (x.op = 3 ∨ x.op = 4) = decide (x.op = 4) from decide_eq_decide.2 ⟨fun h => h.resolve_left c3, .inr⟩]; rfl, trivial⟩ (fun w' H => H)
  rintro ⟨⟩ -
  repeat' (fail)
  refine gc_condC rfl (fun c34 => ?_) (fun c34 => ?_)
  · have c34 := of_decide_eq_true c34
    repeat' (first | refine g_pv rfl rfl ?_ | refine g_nil ?_ | refine gq_then ?_ | refine gc_seq ?_ | refine gc_region ?_ | refine g_st 0 rfl rfl rfl rfl rfl rfl rfl ?_)
    refine g_p (p_eqT rfl rfl rfl) rfl ?_
    refine g_eq 44 (u' := .bool (decide (x.op = 4))) rfl (congrArg Value.bool ((eqT_mk (opN x) (keyOp 4)).trans (opN_is hP hbin (by decide)))) ?_
    repeat' (first | refine g_nil ?_ | refine gq_then ?_)
    refine gc_condC rfl (fun c4 => ?_) (fun c4 => ?_)
    · have c4 := of_decide_eq_true c4
      have hW : (insW x).tail = [dW x.d, Lib.itoa x.n, Lib.itoa x.off] := by simp [insW, c4, dW_pos (hd (by omega))]
      rw [hW] at hB
      have hR0 := hB
      repeat' (first | refine g_pv rfl rfl ?_ | refine g_nil ?_ | refine gq_then ?_ | refine gc_region ?_ | refine g_st 0 rfl rfl rfl rfl rfl rfl rfl ?_)
      refine g_heap (R' := R0 ++ [[(b5, .cells ⟨[.int .i64 4, .int .i64 0, .int .i64 (-1), .int .i64 0, .int .u32 0, .int .i64 0, .int .u32 0, .int .i64 0, .int .i64 0, .int .i64 0, .bool false, .slice none 0 0]⟩ 43 (0, 0))], [(b4, .cells ⟨[.int .i64 0, .int .i64 0, .int .i64 0, .int .i64 0, .int .u32 0, .int .i64 0, .int .u32 0, .int .i64 0, .int .i64 0, .int .i64 0, .bool false, .slice none 0 0]⟩ 43 (0, 0))]]) (fun w H => hp_permL H List.perm_append_comm) ?_
      refine g_call1 (A := R0) (F := [[(b5, .cells ⟨[.int .i64 4, .int .i64 0, .int .i64 (-1), .int .i64 0, .int .u32 0, .int .i64 0, .int .u32 0, .int .i64 0, .int .i64 0, .int .i64 0, .bool false, .slice none 0 0]⟩ 43 (0, 0))], [(b4, .cells ⟨[.int .i64 0, .int .i64 0, .int .i64 0, .int .i64 0, .int .u32 0, .int .i64 0, .int .u32 0, .int .i64 0, .int .i64 0, .int .i64 0, .bool false, .slice none 0 0]⟩ 43 (0, 0))]]) rfl rfl (Cl.of Tryz.func114 rfl rfl) rfl rfl (fun w' hE' => rtmp_sp b x.d ([Lib.itoa x.n, Lib.itoa x.off]) R0 w' hS.d hS.d1 hR0 (hp_own hE')) rfl (fun R1 hR1 => ?_)
      repeat' (refine g_pv rfl rfl ?_)
      refine g_call1 (A := R1) (F := [[(b5, .cells ⟨[.int .i64 4, .int .i64 0, .int .i64 (-1), .int .i64 0, .int .u32 0, .int .i64 0, .int .u32 0, .int .i64 0, .int .i64 0, .int .i64 0, .bool false, .slice none 0 0]⟩ 43 (0, 0))], [(b4, .cells ⟨[.int .i64 0, .int .i64 0, .int .i64 0, .int .i64 0, .int .u32 0, .int .i64 0, .int .u32 0, .int .i64 0, .int .i64 0, .int .i64 0, .bool false, .slice none 0 0]⟩ 43 (0, 0))]]) rfl rfl (Cl.of Tryz.func70 rfl rfl) rfl rfl (fun w' hE' => num_sp b x.n ([Lib.itoa x.off]) R1 w' hS.n hR1 (hp_own hE')) rfl (fun R2 hR2 => ?_)
      repeat' (refine g_pv rfl rfl ?_)
      refine g_call1 (A := R2) (F := [[(b5, .cells ⟨[.int .i64 4, .int .i64 0, .int .i64 (-1), .int .i64 0, .int .u32 0, .int .i64 0, .int .u32 0, .int .i64 0, .int .i64 0, .int .i64 0, .bool false, .slice none 0 0]⟩ 43 (0, 0))], [(b4, .cells ⟨[.int .i64 0, .int .i64 0, .int .i64 0, .int .i64 0, .int .u32 0, .int .i64 0, .int .u32 0, .int .i64 0, .int .i64 0, .int .i64 0, .bool false, .slice none 0 0]⟩ 43 (0, 0))]]) rfl rfl (Cl.of Tryz.func70 rfl rfl) rfl rfl (fun w' hE' => num_sp b x.off ([]) R2 w' hS.off hR2 (hp_own hE')) rfl (fun R3 hR3 => ?_)
      refine g_heap (R' := [[(b5, .cells ⟨[.int .i64 4, .int .i64 0, .int .i64 (-1), .int .i64 0, .int .u32 0, .int .i64 0, .int .u32 0, .int .i64 0, .int .i64 0, .int .i64 0, .bool false, .slice none 0 0]⟩ 43 (0, 0))], [(b4, .cells ⟨[.int .i64 0, .int .i64 0, .int .i64 0, .int .i64 0, .int .u32 0, .int .i64 0, .int .u32 0, .int .i64 0, .int .i64 0, .int .i64 0, .bool false, .slice none 0 0]⟩ 43 (0, 0))]] ++ R3) (fun w H => hp_permL H List.perm_append_comm) ?_
      repeat' (first | refine g_pv rfl rfl ?_ | refine g_ld 0 rfl rfl rfl rfl rfl rfl ?_ | refine g_nil ?_ | refine gq_then ?_ | refine gc_seq ?_ | refine gc_region ?_ | refine gc_ret ?_ | refine gq_block ?_ | refine g_st 0 rfl rfl rfl rfl rfl rfl rfl ?_ | refine g_st 1 rfl rfl rfl rfl rfl rfl rfl ?_)
      have hargs : x.args = [] := hsh.2 (by omega)
      have hq := hsh.1
      rw [shape4 c4] at hq
      simp [alikeB] at hq
      have hc12 : (insY x none 0).cells = [.int .i64 4, .int .i64 0, .int .i64 x.d, .int .i64 0, .int .u32 0, .int .i64 0, .int .u32 0, .int .i64 x.n, .int .i64 x.off, .int .i64 0, .bool false, .slice none 0 0] := by simp [insY, Ins.cells, c4, hargs, hq]
      refine gq_retC (.inr rfl) rfl rfl 1 rfl rfl rfl rfl rfl (fun w' H => ⟨(none, 0, [], R3), ⟨hR3, by rw [hargs]; exact OwnL.nil _ _ _⟩, ?_, hp_tail (hp_tail H)⟩)
      dsimp only
      rw [hc12]
    · have c4 := of_decide_eq_false c4
      have c3 : x.op = 3 := c34.resolve_right c4
      have hW : (insW x).tail = [dW x.d, Lib.itoa x.n, Lib.itoa x.off] := by simp [insW, c3, dW_pos (hd (by omega))]
      rw [hW] at hB
      have hR0 := hB
      repeat' (first | refine g_pv rfl rfl ?_ | refine gq_then ?_ | refine gc_region ?_ | refine gc_skip ?_)
      refine g_heap (R' := R0 ++ [[(b5, .cells ⟨[.int .i64 3, .int .i64 0, .int .i64 (-1), .int .i64 0, .int .u32 0, .int .i64 0, .int .u32 0, .int .i64 0, .int .i64 0, .int .i64 0, .bool false, .slice none 0 0]⟩ 43 (0, 0))], [(b4, .cells ⟨[.int .i64 0, .int .i64 0, .int .i64 0, .int .i64 0, .int .u32 0, .int .i64 0, .int .u32 0, .int .i64 0, .int .i64 0, .int .i64 0, .bool false, .slice none 0 0]⟩ 43 (0, 0))]]) (fun w H => hp_permL H List.perm_append_comm) ?_
      refine g_call1 (A := R0) (F := [[(b5, .cells ⟨[.int .i64 3, .int .i64 0, .int .i64 (-1), .int .i64 0, .int .u32 0, .int .i64 0, .int .u32 0, .int .i64 0, .int .i64 0, .int .i64 0, .bool false, .slice none 0 0]⟩ 43 (0, 0))], [(b4, .cells ⟨[.int .i64 0, .int .i64 0, .int .i64 0, .int .i64 0, .int .u32 0, .int .i64 0, .int .u32 0, .int .i64 0, .int .i64 0, .int .i64 0, .bool false, .slice none 0 0]⟩ 43 (0, 0))]]) rfl rfl (Cl.of Tryz.func114 rfl rfl) rfl rfl (fun w' hE' => rtmp_sp b x.d ([Lib.itoa x.n, Lib.itoa x.off]) R0 w' hS.d hS.d1 hR0 (hp_own hE')) rfl (fun R1 hR1 => ?_)
      repeat' (refine g_pv rfl rfl ?_)
      refine g_call1 (A := R1) (F := [[(b5, .cells ⟨[.int .i64 3, .int .i64 0, .int .i64 (-1), .int .i64 0, .int .u32 0, .int .i64 0, .int .u32 0, .int .i64 0, .int .i64 0, .int .i64 0, .bool false, .slice none 0 0]⟩ 43 (0, 0))], [(b4, .cells ⟨[.int .i64 0, .int .i64 0, .int .i64 0, .int .i64 0, .int .u32 0, .int .i64 0, .int .u32 0, .int .i64 0, .int .i64 0, .int .i64 0, .bool false, .slice none 0 0]⟩ 43 (0, 0))]]) rfl rfl (Cl.of Tryz.func70 rfl rfl) rfl rfl (fun w' hE' => num_sp b x.n ([Lib.itoa x.off]) R1 w' hS.n hR1 (hp_own hE')) rfl (fun R2 hR2 => ?_)
      repeat' (refine g_pv rfl rfl ?_)
      refine g_call1 (A := R2) (F := [[(b5, .cells ⟨[.int .i64 3, .int .i64 0, .int .i64 (-1), .int .i64 0, .int .u32 0, .int .i64 0, .int .u32 0, .int .i64 0, .int .i64 0, .int .i64 0, .bool false, .slice none 0 0]⟩ 43 (0, 0))], [(b4, .cells ⟨[.int .i64 0, .int .i64 0, .int .i64 0, .int .i64 0, .int .u32 0, .int .i64 0, .int .u32 0, .int .i64 0, .int .i64 0, .int .i64 0, .bool false, .slice none 0 0]⟩ 43 (0, 0))]]) rfl rfl (Cl.of Tryz.func70 rfl rfl) rfl rfl (fun w' hE' => num_sp b x.off ([]) R2 w' hS.off hR2 (hp_own hE')) rfl (fun R3 hR3 => ?_)
      refine g_heap (R' := [[(b5, .cells ⟨[.int .i64 3, .int .i64 0, .int .i64 (-1), .int .i64 0, .int .u32 0, .int .i64 0, .int .u32 0, .int .i64 0, .int .i64 0, .int .i64 0, .bool false, .slice none 0 0]⟩ 43 (0, 0))], [(b4, .cells ⟨[.int .i64 0, .int .i64 0, .int .i64 0, .int .i64 0, .int .u32 0, .int .i64 0, .int .u32 0, .int .i64 0, .int .i64 0, .int .i64 0, .bool false, .slice none 0 0]⟩ 43 (0, 0))]] ++ R3) (fun w H => hp_permL H List.perm_append_comm) ?_
      repeat' (first | refine g_pv rfl rfl ?_ | refine g_ld 0 rfl rfl rfl rfl rfl rfl ?_ | refine g_nil ?_ | refine gq_then ?_ | refine gc_seq ?_ | refine gc_region ?_ | refine gc_ret ?_ | refine gq_block ?_ | refine g_st 0 rfl rfl rfl rfl rfl rfl rfl ?_ | refine g_st 1 rfl rfl rfl rfl rfl rfl rfl ?_)
      have hargs : x.args = [] := hsh.2 (by omega)
      have hq := hsh.1
      rw [shape3 c3] at hq
      simp [alikeB] at hq
      have hc12 : (insY x none 0).cells = [.int .i64 3, .int .i64 0, .int .i64 x.d, .int .i64 0, .int .u32 0, .int .i64 0, .int .u32 0, .int .i64 x.n, .int .i64 x.off, .int .i64 0, .bool false, .slice none 0 0] := by simp [insY, Ins.cells, c3, hargs, hq]
      refine gq_retC (.inr rfl) rfl rfl 1 rfl rfl rfl rfl rfl (fun w' H => ⟨(none, 0, [], R3), ⟨hR3, by rw [hargs]; exact OwnL.nil _ _ _⟩, ?_, hp_tail (hp_tail H)⟩)
      dsimp only
      rw [hc12]
  have c34 := of_decide_eq_false c34
  have c3 : ¬ x.op = 3 := fun h => c34 (.inl h)
  have c4 : ¬ x.op = 4 := fun h => c34 (.inr h)
  repeat' (first | refine gc_seq ?_ | refine gc_region ?_)
  refine g_p (p_eqT rfl rfl rfl) rfl ?_
  refine g_eq 56 (u' := .bool (decide (x.op = 5))) rfl (congrArg Value.bool ((eqT_mk (opN x) (keyOp 5)).trans (opN_is hP hbin (by decide)))) ?_
  repeat' (first | refine g_pv rfl rfl ?_ | refine g_nil ?_ | refine gq_then ?_)
  refine gc_condC rfl (fun c5 => ?_) (fun c5 => ?_)
  · have c5 := of_decide_eq_true c5
    cases hsg : x.signed
    · have hW : (insW x).tail = [dW x.d, argT x.a, Lib.itoa x.off, Lib.itoa x.width] := by simp [insW, c5, hsg, dW_pos (hd (by omega))]
      rw [hW] at hB
      have hR0 := hB
      repeat' (first | refine g_pv rfl rfl ?_ | refine gc_seq ?_ | refine gc_region ?_)
      refine g_heap (R' := R0 ++ [[(b5, .cells ⟨[.int .i64 0, .int .i64 0, .int .i64 (-1), .int .i64 0, .int .u32 0, .int .i64 0, .int .u32 0, .int .i64 0, .int .i64 0, .int .i64 0, .bool false, .slice none 0 0]⟩ 43 (0, 0))], [(b4, .cells ⟨[.int .i64 0, .int .i64 0, .int .i64 0, .int .i64 0, .int .u32 0, .int .i64 0, .int .u32 0, .int .i64 0, .int .i64 0, .int .i64 0, .bool false, .slice none 0 0]⟩ 43 (0, 0))]]) (fun w H => hp_permL H List.perm_append_comm) ?_
      refine g_call1 (A := R0) (F := [[(b5, .cells ⟨[.int .i64 0, .int .i64 0, .int .i64 (-1), .int .i64 0, .int .u32 0, .int .i64 0, .int .u32 0, .int .i64 0, .int .i64 0, .int .i64 0, .bool false, .slice none 0 0]⟩ 43 (0, 0))], [(b4, .cells ⟨[.int .i64 0, .int .i64 0, .int .i64 0, .int .i64 0, .int .u32 0, .int .i64 0, .int .u32 0, .int .i64 0, .int .i64 0, .int .i64 0, .bool false, .slice none 0 0]⟩ 43 (0, 0))]]) rfl rfl (Cl.of Tryz.func114 rfl rfl) rfl rfl (fun w' hE' => rtmp_sp b x.d ([argT x.a, Lib.itoa x.off, Lib.itoa x.width]) R0 w' hS.d hS.d1 hR0 (hp_own hE')) rfl (fun R1 hR1 => ?_)
      repeat' (refine g_pv rfl rfl ?_)
      refine g_call1 (A := R1) (F := [[(b5, .cells ⟨[.int .i64 0, .int .i64 0, .int .i64 (-1), .int .i64 0, .int .u32 0, .int .i64 0, .int .u32 0, .int .i64 0, .int .i64 0, .int .i64 0, .bool false, .slice none 0 0]⟩ 43 (0, 0))], [(b4, .cells ⟨[.int .i64 0, .int .i64 0, .int .i64 0, .int .i64 0, .int .u32 0, .int .i64 0, .int .u32 0, .int .i64 0, .int .i64 0, .int .i64 0, .bool false, .slice none 0 0]⟩ 43 (0, 0))]]) rfl rfl (Cl.of Tryz.func115 rfl rfl) rfl rfl (fun w' hE' => rarg_sp' b x.a ([Lib.itoa x.off, Lib.itoa x.width]) R1 w' hS.a (ha (by omega)) hR1 (hp_own hE')) rfl (fun R2 hR2 => ?_)
      repeat' (refine g_pv rfl rfl ?_)
      refine g_call1 (A := R2) (F := [[(b5, .cells ⟨[.int .i64 0, .int .i64 0, .int .i64 (-1), .int .i64 0, .int .u32 0, .int .i64 0, .int .u32 0, .int .i64 0, .int .i64 0, .int .i64 0, .bool false, .slice none 0 0]⟩ 43 (0, 0))], [(b4, .cells ⟨[.int .i64 0, .int .i64 0, .int .i64 0, .int .i64 0, .int .u32 0, .int .i64 0, .int .u32 0, .int .i64 0, .int .i64 0, .int .i64 0, .bool false, .slice none 0 0]⟩ 43 (0, 0))]]) rfl rfl (Cl.of Tryz.func70 rfl rfl) rfl rfl (fun w' hE' => num_sp b x.off ([Lib.itoa x.width]) R2 w' hS.off hR2 (hp_own hE')) rfl (fun R3 hR3 => ?_)
      repeat' (refine g_pv rfl rfl ?_)
      refine g_call1 (A := R3) (F := [[(b5, .cells ⟨[.int .i64 0, .int .i64 0, .int .i64 (-1), .int .i64 0, .int .u32 0, .int .i64 0, .int .u32 0, .int .i64 0, .int .i64 0, .int .i64 0, .bool false, .slice none 0 0]⟩ 43 (0, 0))], [(b4, .cells ⟨[.int .i64 0, .int .i64 0, .int .i64 0, .int .i64 0, .int .u32 0, .int .i64 0, .int .u32 0, .int .i64 0, .int .i64 0, .int .i64 0, .bool false, .slice none 0 0]⟩ 43 (0, 0))]]) rfl rfl (Cl.of Tryz.func70 rfl rfl) rfl rfl (fun w' hE' => num_sp b x.width ([]) R3 w' hS.width hR3 (hp_own hE')) rfl (fun R4 hR4 => ?_)
      refine g_heap (R' := [[(b5, .cells ⟨[.int .i64 0, .int .i64 0, .int .i64 (-1), .int .i64 0, .int .u32 0, .int .i64 0, .int .u32 0, .int .i64 0, .int .i64 0, .int .i64 0, .bool false, .slice none 0 0]⟩ 43 (0, 0))], [(b4, .cells ⟨[.int .i64 0, .int .i64 0, .int .i64 0, .int .i64 0, .int .u32 0, .int .i64 0, .int .u32 0, .int .i64 0, .int .i64 0, .int .i64 0, .bool false, .slice none 0 0]⟩ 43 (0, 0))]] ++ R4) (fun w H => hp_permL H List.perm_append_comm) ?_
      repeat' (first | refine g_pv rfl rfl ?_ | refine g_nil ?_ | refine gq_then ?_ | refine gc_region ?_ | refine g_st 0 rfl rfl rfl rfl rfl rfl rfl ?_)
      refine g_heap (R' := R4 ++ [[(b5, .cells ⟨[.int .i64 5, .int .i64 0, .int .i64 x.d, .int .i64 x.a.k, .int .u32 x.a.n, .int .i64 0, .int .u32 0, .int .i64 0, .int .i64 x.off, .int .i64 x.width, .bool false, .slice none 0 0]⟩ 43 (0, 0))], [(b4, .cells ⟨[.int .i64 0, .int .i64 0, .int .i64 0, .int .i64 0, .int .u32 0, .int .i64 0, .int .u32 0, .int .i64 0, .int .i64 0, .int .i64 0, .bool false, .slice none 0 0]⟩ 43 (0, 0))]]) (fun w H => hp_permL H List.perm_append_comm) ?_
      refine g_call1 (A := R4) (F := [[(b5, .cells ⟨[.int .i64 5, .int .i64 0, .int .i64 x.d, .int .i64 x.a.k, .int .u32 x.a.n, .int .i64 0, .int .u32 0, .int .i64 0, .int .i64 x.off, .int .i64 x.width, .bool false, .slice none 0 0]⟩ 43 (0, 0))], [(b4, .cells ⟨[.int .i64 0, .int .i64 0, .int .i64 0, .int .i64 0, .int .u32 0, .int .i64 0, .int .u32 0, .int .i64 0, .int .i64 0, .int .i64 0, .bool false, .slice none 0 0]⟩ 43 (0, 0))]]) rfl rfl (Cl.of Tryz.func73 rfl rfl) rfl rfl (fun w' hE' => maybe0_sp b k_signed R4 w' hR4 (hp_own hE')) rfl (fun R5 hR5 => ?_)
      refine g_heap (R' := [[(b5, .cells ⟨[.int .i64 5, .int .i64 0, .int .i64 x.d, .int .i64 x.a.k, .int .u32 x.a.n, .int .i64 0, .int .u32 0, .int .i64 0, .int .i64 x.off, .int .i64 x.width, .bool false, .slice none 0 0]⟩ 43 (0, 0))], [(b4, .cells ⟨[.int .i64 0, .int .i64 0, .int .i64 0, .int .i64 0, .int .u32 0, .int .i64 0, .int .u32 0, .int .i64 0, .int .i64 0, .int .i64 0, .bool false, .slice none 0 0]⟩ 43 (0, 0))]] ++ R5) (fun w H => hp_permL H List.perm_append_comm) ?_
      repeat' (first | refine g_pv rfl rfl ?_ | refine g_ld 0 rfl rfl rfl rfl rfl rfl ?_ | refine g_nil ?_ | refine gq_then ?_ | refine gc_seq ?_ | refine gc_region ?_ | refine gc_ret ?_ | refine gq_block ?_ | refine g_st 0 rfl rfl rfl rfl rfl rfl rfl ?_ | refine g_st 1 rfl rfl rfl rfl rfl rfl rfl ?_)
      have hargs : x.args = [] := hsh.2 (by omega)
      have hq := hsh.1
      rw [shape5 c5] at hq
      simp [alikeB] at hq
      have hc12 : (insY x none 0).cells = [.int .i64 5, .int .i64 0, .int .i64 x.d, .int .i64 x.a.k, .int .u32 x.a.n, .int .i64 0, .int .u32 0, .int .i64 0, .int .i64 x.off, .int .i64 x.width, .bool false, .slice none 0 0] := by simp [insY, Ins.cells, c5, hargs, hq, hsg]
      refine gq_retC (.inr rfl) rfl rfl 1 rfl rfl rfl rfl rfl (fun w' H => ⟨(none, 0, [], R5), ⟨hR5, by rw [hargs]; exact OwnL.nil _ _ _⟩, ?_, hp_tail (hp_tail H)⟩)
      dsimp only
      rw [hc12]
    · have hW : (insW x).tail = [dW x.d, argT x.a, Lib.itoa x.off, Lib.itoa x.width, k_signed] := by simp [insW, c5, hsg, dW_pos (hd (by omega))]
      rw [hW] at hB
      have hR0 := hB
      repeat' (first | refine g_pv rfl rfl ?_ | refine gc_seq ?_ | refine gc_region ?_)
      refine g_heap (R' := R0 ++ [[(b5, .cells ⟨[.int .i64 0, .int .i64 0, .int .i64 (-1), .int .i64 0, .int .u32 0, .int .i64 0, .int .u32 0, .int .i64 0, .int .i64 0, .int .i64 0, .bool false, .slice none 0 0]⟩ 43 (0, 0))], [(b4, .cells ⟨[.int .i64 0, .int .i64 0, .int .i64 0, .int .i64 0, .int .u32 0, .int .i64 0, .int .u32 0, .int .i64 0, .int .i64 0, .int .i64 0, .bool false, .slice none 0 0]⟩ 43 (0, 0))]]) (fun w H => hp_permL H List.perm_append_comm) ?_
      refine g_call1 (A := R0) (F := [[(b5, .cells ⟨[.int .i64 0, .int .i64 0, .int .i64 (-1), .int .i64 0, .int .u32 0, .int .i64 0, .int .u32 0, .int .i64 0, .int .i64 0, .int .i64 0, .bool false, .slice none 0 0]⟩ 43 (0, 0))], [(b4, .cells ⟨[.int .i64 0, .int .i64 0, .int .i64 0, .int .i64 0, .int .u32 0, .int .i64 0, .int .u32 0, .int .i64 0, .int .i64 0, .int .i64 0, .bool false, .slice none 0 0]⟩ 43 (0, 0))]]) rfl rfl (Cl.of Tryz.func114 rfl rfl) rfl rfl (fun w' hE' => rtmp_sp b x.d ([argT x.a, Lib.itoa x.off, Lib.itoa x.width, k_signed]) R0 w' hS.d hS.d1 hR0 (hp_own hE')) rfl (fun R1 hR1 => ?_)
      repeat' (refine g_pv rfl rfl ?_)
      refine g_call1 (A := R1) (F := [[(b5, .cells ⟨[.int .i64 0, .int .i64 0, .int .i64 (-1), .int .i64 0, .int .u32 0, .int .i64 0, .int .u32 0, .int .i64 0, .int .i64 0, .int .i64 0, .bool false, .slice none 0 0]⟩ 43 (0, 0))], [(b4, .cells ⟨[.int .i64 0, .int .i64 0, .int .i64 0, .int .i64 0, .int .u32 0, .int .i64 0, .int .u32 0, .int .i64 0, .int .i64 0, .int .i64 0, .bool false, .slice none 0 0]⟩ 43 (0, 0))]]) rfl rfl (Cl.of Tryz.func115 rfl rfl) rfl rfl (fun w' hE' => rarg_sp' b x.a ([Lib.itoa x.off, Lib.itoa x.width, k_signed]) R1 w' hS.a (ha (by omega)) hR1 (hp_own hE')) rfl (fun R2 hR2 => ?_)
      repeat' (refine g_pv rfl rfl ?_)
      refine g_call1 (A := R2) (F := [[(b5, .cells ⟨[.int .i64 0, .int .i64 0, .int .i64 (-1), .int .i64 0, .int .u32 0, .int .i64 0, .int .u32 0, .int .i64 0, .int .i64 0, .int .i64 0, .bool false, .slice none 0 0]⟩ 43 (0, 0))], [(b4, .cells ⟨[.int .i64 0, .int .i64 0, .int .i64 0, .int .i64 0, .int .u32 0, .int .i64 0, .int .u32 0, .int .i64 0, .int .i64 0, .int .i64 0, .bool false, .slice none 0 0]⟩ 43 (0, 0))]]) rfl rfl (Cl.of Tryz.func70 rfl rfl) rfl rfl (fun w' hE' => num_sp b x.off ([Lib.itoa x.width, k_signed]) R2 w' hS.off hR2 (hp_own hE')) rfl (fun R3 hR3 => ?_)
      repeat' (refine g_pv rfl rfl ?_)
      refine g_call1 (A := R3) (F := [[(b5, .cells ⟨[.int .i64 0, .int .i64 0, .int .i64 (-1), .int .i64 0, .int .u32 0, .int .i64 0, .int .u32 0, .int .i64 0, .int .i64 0, .int .i64 0, .bool false, .slice none 0 0]⟩ 43 (0, 0))], [(b4, .cells ⟨[.int .i64 0, .int .i64 0, .int .i64 0, .int .i64 0, .int .u32 0, .int .i64 0, .int .u32 0, .int .i64 0, .int .i64 0, .int .i64 0, .bool false, .slice none 0 0]⟩ 43 (0, 0))]]) rfl rfl (Cl.of Tryz.func70 rfl rfl) rfl rfl (fun w' hE' => num_sp b x.width ([k_signed]) R3 w' hS.width hR3 (hp_own hE')) rfl (fun R4 hR4 => ?_)
      refine g_heap (R' := [[(b5, .cells ⟨[.int .i64 0, .int .i64 0, .int .i64 (-1), .int .i64 0, .int .u32 0, .int .i64 0, .int .u32 0, .int .i64 0, .int .i64 0, .int .i64 0, .bool false, .slice none 0 0]⟩ 43 (0, 0))], [(b4, .cells ⟨[.int .i64 0, .int .i64 0, .int .i64 0, .int .i64 0, .int .u32 0, .int .i64 0, .int .u32 0, .int .i64 0, .int .i64 0, .int .i64 0, .bool false, .slice none 0 0]⟩ 43 (0, 0))]] ++ R4) (fun w H => hp_permL H List.perm_append_comm) ?_
      repeat' (first | refine g_pv rfl rfl ?_ | refine g_nil ?_ | refine gq_then ?_ | refine gc_region ?_ | refine g_st 0 rfl rfl rfl rfl rfl rfl rfl ?_)
      refine g_heap (R' := R4 ++ [[(b5, .cells ⟨[.int .i64 5, .int .i64 0, .int .i64 x.d, .int .i64 x.a.k, .int .u32 x.a.n, .int .i64 0, .int .u32 0, .int .i64 0, .int .i64 x.off, .int .i64 x.width, .bool false, .slice none 0 0]⟩ 43 (0, 0))], [(b4, .cells ⟨[.int .i64 0, .int .i64 0, .int .i64 0, .int .i64 0, .int .u32 0, .int .i64 0, .int .u32 0, .int .i64 0, .int .i64 0, .int .i64 0, .bool false, .slice none 0 0]⟩ 43 (0, 0))]]) (fun w H => hp_permL H List.perm_append_comm) ?_
      refine g_call1 (A := R4) (F := [[(b5, .cells ⟨[.int .i64 5, .int .i64 0, .int .i64 x.d, .int .i64 x.a.k, .int .u32 x.a.n, .int .i64 0, .int .u32 0, .int .i64 0, .int .i64 x.off, .int .i64 x.width, .bool false, .slice none 0 0]⟩ 43 (0, 0))], [(b4, .cells ⟨[.int .i64 0, .int .i64 0, .int .i64 0, .int .i64 0, .int .u32 0, .int .i64 0, .int .u32 0, .int .i64 0, .int .i64 0, .int .i64 0, .bool false, .slice none 0 0]⟩ 43 (0, 0))]]) rfl rfl (Cl.of Tryz.func73 rfl rfl) rfl rfl (fun w' hE' => maybe1_sp b k_signed R4 w' hR4 (hp_own hE')) rfl (fun R5 hR5 => ?_)
      refine g_heap (R' := [[(b5, .cells ⟨[.int .i64 5, .int .i64 0, .int .i64 x.d, .int .i64 x.a.k, .int .u32 x.a.n, .int .i64 0, .int .u32 0, .int .i64 0, .int .i64 x.off, .int .i64 x.width, .bool false, .slice none 0 0]⟩ 43 (0, 0))], [(b4, .cells ⟨[.int .i64 0, .int .i64 0, .int .i64 0, .int .i64 0, .int .u32 0, .int .i64 0, .int .u32 0, .int .i64 0, .int .i64 0, .int .i64 0, .bool false, .slice none 0 0]⟩ 43 (0, 0))]] ++ R5) (fun w H => hp_permL H List.perm_append_comm) ?_
      repeat' (first | refine g_pv rfl rfl ?_ | refine g_ld 0 rfl rfl rfl rfl rfl rfl ?_ | refine g_nil ?_ | refine gq_then ?_ | refine gc_seq ?_ | refine gc_region ?_ | refine gc_ret ?_ | refine gq_block ?_ | refine g_st 0 rfl rfl rfl rfl rfl rfl rfl ?_ | refine g_st 1 rfl rfl rfl rfl rfl rfl rfl ?_)
      have hargs : x.args = [] := hsh.2 (by omega)
      have hq := hsh.1
      rw [shape5 c5] at hq
      simp [alikeB] at hq
      have hc12 : (insY x none 0).cells = [.int .i64 5, .int .i64 0, .int .i64 x.d, .int .i64 x.a.k, .int .u32 x.a.n, .int .i64 0, .int .u32 0, .int .i64 0, .int .i64 x.off, .int .i64 x.width, .bool true, .slice none 0 0] := by simp [insY, Ins.cells, c5, hargs, hq, hsg]
      refine gq_retC (.inr rfl) rfl rfl 1 rfl rfl rfl rfl rfl (fun w' H => ⟨(none, 0, [], R5), ⟨hR5, by rw [hargs]; exact OwnL.nil _ _ _⟩, ?_, hp_tail (hp_tail H)⟩)
      dsimp only
      rw [hc12]
  have c5 := of_decide_eq_false c5
  repeat' (first | refine gc_seq ?_ | refine gc_region ?_)
  refine g_p (p_eqT rfl rfl rfl) rfl ?_
  refine g_eq 74 (u' := .bool (decide (x.op = 6))) rfl (congrArg Value.bool ((eqT_mk (opN x) (keyOp 6)).trans (opN_is hP hbin (by decide)))) ?_
  repeat' (first | refine g_pv rfl rfl ?_ | refine g_nil ?_ | refine gq_then ?_)
  refine gc_condC rfl (fun c6 => ?_) (fun c6 => ?_)
  · have c6 := of_decide_eq_true c6
    have hW : (insW x).tail = [argT x.a, Lib.itoa x.off, argT x.b, Lib.itoa x.width] := by simp [insW, c6]
    rw [hW] at hB
    have hR0 := hB
    repeat' (first | refine g_pv rfl rfl ?_ | refine gc_region ?_)
    refine g_heap (R' := R0 ++ [[(b5, .cells ⟨[.int .i64 0, .int .i64 0, .int .i64 (-1), .int .i64 0, .int .u32 0, .int .i64 0, .int .u32 0, .int .i64 0, .int .i64 0, .int .i64 0, .bool false, .slice none 0 0]⟩ 43 (0, 0))], [(b4, .cells ⟨[.int .i64 0, .int .i64 0, .int .i64 0, .int .i64 0, .int .u32 0, .int .i64 0, .int .u32 0, .int .i64 0, .int .i64 0, .int .i64 0, .bool false, .slice none 0 0]⟩ 43 (0, 0))]]) (fun w H => hp_permL H List.perm_append_comm) ?_
    refine g_call1 (A := R0) (F := [[(b5, .cells ⟨[.int .i64 0, .int .i64 0, .int .i64 (-1), .int .i64 0, .int .u32 0, .int .i64 0, .int .u32 0, .int .i64 0, .int .i64 0, .int .i64 0, .bool false, .slice none 0 0]⟩ 43 (0, 0))], [(b4, .cells ⟨[.int .i64 0, .int .i64 0, .int .i64 0, .int .i64 0, .int .u32 0, .int .i64 0, .int .u32 0, .int .i64 0, .int .i64 0, .int .i64 0, .bool false, .slice none 0 0]⟩ 43 (0, 0))]]) rfl rfl (Cl.of Tryz.func115 rfl rfl) rfl rfl (fun w' hE' => rarg_sp' b x.a ([Lib.itoa x.off, argT x.b, Lib.itoa x.width]) R0 w' hS.a (ha (by omega)) hR0 (hp_own hE')) rfl (fun R1 hR1 => ?_)
    repeat' (refine g_pv rfl rfl ?_)
    refine g_call1 (A := R1) (F := [[(b5, .cells ⟨[.int .i64 0, .int .i64 0, .int .i64 (-1), .int .i64 0, .int .u32 0, .int .i64 0, .int .u32 0, .int .i64 0, .int .i64 0, .int .i64 0, .bool false, .slice none 0 0]⟩ 43 (0, 0))], [(b4, .cells ⟨[.int .i64 0, .int .i64 0, .int .i64 0, .int .i64 0, .int .u32 0, .int .i64 0, .int .u32 0, .int .i64 0, .int .i64 0, .int .i64 0, .bool false, .slice none 0 0]⟩ 43 (0, 0))]]) rfl rfl (Cl.of Tryz.func70 rfl rfl) rfl rfl (fun w' hE' => num_sp b x.off ([argT x.b, Lib.itoa x.width]) R1 w' hS.off hR1 (hp_own hE')) rfl (fun R2 hR2 => ?_)
    repeat' (refine g_pv rfl rfl ?_)
    refine g_call1 (A := R2) (F := [[(b5, .cells ⟨[.int .i64 0, .int .i64 0, .int .i64 (-1), .int .i64 0, .int .u32 0, .int .i64 0, .int .u32 0, .int .i64 0, .int .i64 0, .int .i64 0, .bool false, .slice none 0 0]⟩ 43 (0, 0))], [(b4, .cells ⟨[.int .i64 0, .int .i64 0, .int .i64 0, .int .i64 0, .int .u32 0, .int .i64 0, .int .u32 0, .int .i64 0, .int .i64 0, .int .i64 0, .bool false, .slice none 0 0]⟩ 43 (0, 0))]]) rfl rfl (Cl.of Tryz.func115 rfl rfl) rfl rfl (fun w' hE' => rarg_sp' b x.b ([Lib.itoa x.width]) R2 w' hS.b (hb (by omega)) hR2 (hp_own hE')) rfl (fun R3 hR3 => ?_)
    repeat' (refine g_pv rfl rfl ?_)
    refine g_call1 (A := R3) (F := [[(b5, .cells ⟨[.int .i64 0, .int .i64 0, .int .i64 (-1), .int .i64 0, .int .u32 0, .int .i64 0, .int .u32 0, .int .i64 0, .int .i64 0, .int .i64 0, .bool false, .slice none 0 0]⟩ 43 (0, 0))], [(b4, .cells ⟨[.int .i64 0, .int .i64 0, .int .i64 0, .int .i64 0, .int .u32 0, .int .i64 0, .int .u32 0, .int .i64 0, .int .i64 0, .int .i64 0, .bool false, .slice none 0 0]⟩ 43 (0, 0))]]) rfl rfl (Cl.of Tryz.func70 rfl rfl) rfl rfl (fun w' hE' => num_sp b x.width ([]) R3 w' hS.width hR3 (hp_own hE')) rfl (fun R4 hR4 => ?_)
    refine g_heap (R' := [[(b5, .cells ⟨[.int .i64 0, .int .i64 0, .int .i64 (-1), .int .i64 0, .int .u32 0, .int .i64 0, .int .u32 0, .int .i64 0, .int .i64 0, .int .i64 0, .bool false, .slice none 0 0]⟩ 43 (0, 0))], [(b4, .cells ⟨[.int .i64 0, .int .i64 0, .int .i64 0, .int .i64 0, .int .u32 0, .int .i64 0, .int .u32 0, .int .i64 0, .int .i64 0, .int .i64 0, .bool false, .slice none 0 0]⟩ 43 (0, 0))]] ++ R4) (fun w H => hp_permL H List.perm_append_comm) ?_
    repeat' (first | refine g_pv rfl rfl ?_ | refine g_ld 0 rfl rfl rfl rfl rfl rfl ?_ | refine g_nil ?_ | refine gq_then ?_ | refine gc_seq ?_ | refine gc_region ?_ | refine gc_ret ?_ | refine gq_block ?_ | refine g_st 0 rfl rfl rfl rfl rfl rfl rfl ?_ | refine g_st 1 rfl rfl rfl rfl rfl rfl rfl ?_)
    have hargs : x.args = [] := hsh.2 (by omega)
    have hq := hsh.1
    rw [shape6 c6] at hq
    simp [alikeB] at hq
    have hc12 : (insY x none 0).cells = [.int .i64 6, .int .i64 0, .int .i64 (-1), .int .i64 x.a.k, .int .u32 x.a.n, .int .i64 x.b.k, .int .u32 x.b.n, .int .i64 0, .int .i64 x.off, .int .i64 x.width, .bool false, .slice none 0 0] := by simp [insY, Ins.cells, c6, hargs, hq]
    refine gq_retC (.inr rfl) rfl rfl 1 rfl rfl rfl rfl rfl (fun w' H => ⟨(none, 0, [], R4), ⟨hR4, by rw [hargs]; exact OwnL.nil _ _ _⟩, ?_, hp_tail (hp_tail H)⟩)
    dsimp only
    rw [hc12]
  have c6 := of_decide_eq_false c6
  repeat' (first | refine gc_seq ?_ | refine gc_region ?_)
  refine g_p (p_eqT rfl rfl rfl) rfl ?_
  refine g_eq 89 (u' := .bool (decide (x.op = 7))) rfl (congrArg Value.bool ((eqT_mk (opN x) (keyOp 7)).trans (opN_is hP hbin (by decide)))) ?_
  repeat' (first | refine g_pv rfl rfl ?_ | refine g_nil ?_ | refine gq_then ?_)
  refine gc_condC rfl (fun c7 => ?_) (fun c7 => ?_)
  · have c7 := of_decide_eq_true c7
    have hW : (insW x).tail = [argT x.a, argT x.b, Lib.itoa x.off, Lib.itoa x.width] := by simp [insW, c7]
    rw [hW] at hB
    have hR0 := hB
    repeat' (first | refine g_pv rfl rfl ?_ | refine gc_region ?_)
    refine g_heap (R' := R0 ++ [[(b5, .cells ⟨[.int .i64 0, .int .i64 0, .int .i64 (-1), .int .i64 0, .int .u32 0, .int .i64 0, .int .u32 0, .int .i64 0, .int .i64 0, .int .i64 0, .bool false, .slice none 0 0]⟩ 43 (0, 0))], [(b4, .cells ⟨[.int .i64 0, .int .i64 0, .int .i64 0, .int .i64 0, .int .u32 0, .int .i64 0, .int .u32 0, .int .i64 0, .int .i64 0, .int .i64 0, .bool false, .slice none 0 0]⟩ 43 (0, 0))]]) (fun w H => hp_permL H List.perm_append_comm) ?_
    refine g_call1 (A := R0) (F := [[(b5, .cells ⟨[.int .i64 0, .int .i64 0, .int .i64 (-1), .int .i64 0, .int .u32 0, .int .i64 0, .int .u32 0, .int .i64 0, .int .i64 0, .int .i64 0, .bool false, .slice none 0 0]⟩ 43 (0, 0))], [(b4, .cells ⟨[.int .i64 0, .int .i64 0, .int .i64 0, .int .i64 0, .int .u32 0, .int .i64 0, .int .u32 0, .int .i64 0, .int .i64 0, .int .i64 0, .bool false, .slice none 0 0]⟩ 43 (0, 0))]]) rfl rfl (Cl.of Tryz.func115 rfl rfl) rfl rfl (fun w' hE' => rarg_sp' b x.a ([argT x.b, Lib.itoa x.off, Lib.itoa x.width]) R0 w' hS.a (ha (by omega)) hR0 (hp_own hE')) rfl (fun R1 hR1 => ?_)
    repeat' (refine g_pv rfl rfl ?_)
    refine g_call1 (A := R1) (F := [[(b5, .cells ⟨[.int .i64 0, .int .i64 0, .int .i64 (-1), .int .i64 0, .int .u32 0, .int .i64 0, .int .u32 0, .int .i64 0, .int .i64 0, .int .i64 0, .bool false, .slice none 0 0]⟩ 43 (0, 0))], [(b4, .cells ⟨[.int .i64 0, .int .i64 0, .int .i64 0, .int .i64 0, .int .u32 0, .int .i64 0, .int .u32 0, .int .i64 0, .int .i64 0, .int .i64 0, .bool false, .slice none 0 0]⟩ 43 (0, 0))]]) rfl rfl (Cl.of Tryz.func115 rfl rfl) rfl rfl (fun w' hE' => rarg_sp' b x.b ([Lib.itoa x.off, Lib.itoa x.width]) R1 w' hS.b (hb (by omega)) hR1 (hp_own hE')) rfl (fun R2 hR2 => ?_)
    repeat' (refine g_pv rfl rfl ?_)
    refine g_call1 (A := R2) (F := [[(b5, .cells ⟨[.int .i64 0, .int .i64 0, .int .i64 (-1), .int .i64 0, .int .u32 0, .int .i64 0, .int .u32 0, .int .i64 0, .int .i64 0, .int .i64 0, .bool false, .slice none 0 0]⟩ 43 (0, 0))], [(b4, .cells ⟨[.int .i64 0, .int .i64 0, .int .i64 0, .int .i64 0, .int .u32 0, .int .i64 0, .int .u32 0, .int .i64 0, .int .i64 0, .int .i64 0, .bool false, .slice none 0 0]⟩ 43 (0, 0))]]) rfl rfl (Cl.of Tryz.func70 rfl rfl) rfl rfl (fun w' hE' => num_sp b x.off ([Lib.itoa x.width]) R2 w' hS.off hR2 (hp_own hE')) rfl (fun R3 hR3 => ?_)
    repeat' (refine g_pv rfl rfl ?_)
    refine g_call1 (A := R3) (F := [[(b5, .cells ⟨[.int .i64 0, .int .i64 0, .int .i64 (-1), .int .i64 0, .int .u32 0, .int .i64 0, .int .u32 0, .int .i64 0, .int .i64 0, .int .i64 0, .bool false, .slice none 0 0]⟩ 43 (0, 0))], [(b4, .cells ⟨[.int .i64 0, .int .i64 0, .int .i64 0, .int .i64 0, .int .u32 0, .int .i64 0, .int .u32 0, .int .i64 0, .int .i64 0, .int .i64 0, .bool false, .slice none 0 0]⟩ 43 (0, 0))]]) rfl rfl (Cl.of Tryz.func70 rfl rfl) rfl rfl (fun w' hE' => num_sp b x.width ([]) R3 w' hS.width hR3 (hp_own hE')) rfl (fun R4 hR4 => ?_)
    refine g_heap (R' := [[(b5, .cells ⟨[.int .i64 0, .int .i64 0, .int .i64 (-1), .int .i64 0, .int .u32 0, .int .i64 0, .int .u32 0, .int .i64 0, .int .i64 0, .int .i64 0, .bool false, .slice none 0 0]⟩ 43 (0, 0))], [(b4, .cells ⟨[.int .i64 0, .int .i64 0, .int .i64 0, .int .i64 0, .int .u32 0, .int .i64 0, .int .u32 0, .int .i64 0, .int .i64 0, .int .i64 0, .bool false, .slice none 0 0]⟩ 43 (0, 0))]] ++ R4) (fun w H => hp_permL H List.perm_append_comm) ?_
    repeat' (first | refine g_pv rfl rfl ?_ | refine g_ld 0 rfl rfl rfl rfl rfl rfl ?_ | refine g_nil ?_ | refine gq_then ?_ | refine gc_seq ?_ | refine gc_region ?_ | refine gc_ret ?_ | refine gq_block ?_ | refine g_st 0 rfl rfl rfl rfl rfl rfl rfl ?_ | refine g_st 1 rfl rfl rfl rfl rfl rfl rfl ?_)
    have hargs : x.args = [] := hsh.2 (by omega)
    have hq := hsh.1
    rw [shape7 c7] at hq
    simp [alikeB] at hq
    have hc12 : (insY x none 0).cells = [.int .i64 7, .int .i64 0, .int .i64 (-1), .int .i64 x.a.k, .int .u32 x.a.n, .int .i64 x.b.k, .int .u32 x.b.n, .int .i64 0, .int .i64 x.off, .int .i64 x.width, .bool false, .slice none 0 0] := by simp [insY, Ins.cells, c7, hargs, hq]
    refine gq_retC (.inr rfl) rfl rfl 1 rfl rfl rfl rfl rfl (fun w' H => ⟨(none, 0, [], R4), ⟨hR4, by rw [hargs]; exact OwnL.nil _ _ _⟩, ?_, hp_tail (hp_tail H)⟩)
    dsimp only
    rw [hc12]
  have c7 := of_decide_eq_false c7
  repeat' (first | refine gc_seq ?_ | refine gc_region ?_)
  refine g_p (p_eqT rfl rfl rfl) rfl ?_
  refine g_eq 104 (u' := .bool (decide (x.op = 8))) rfl (congrArg Value.bool ((eqT_mk (opN x) (keyOp 8)).trans (opN_is hP hbin (by decide)))) ?_
  repeat' (first | refine g_pv rfl rfl ?_ | refine g_nil ?_ | refine gq_then ?_)
  refine gc_condC rfl (fun c8 => ?_) (fun c8 => ?_)
  · have c8 := of_decide_eq_true c8
    have hW : (insW x).tail = [dW x.d, Lib.itoa x.n] ++ x.args.map argT := by simp [insW, c8]; rfl
    rw [hW] at hB
    have hR0 := hB
    have hal := (hP.args c8).2
    have hak := (hP.args c8).1
    repeat' (first | refine g_pv rfl rfl ?_ | refine gc_seq ?_ | refine gc_region ?_)
    refine g_heap (R' := R0 ++ [[(b5, .cells ⟨[.int .i64 0, .int .i64 0, .int .i64 (-1), .int .i64 0, .int .u32 0, .int .i64 0, .int .u32 0, .int .i64 0, .int .i64 0, .int .i64 0, .bool false, .slice none 0 0]⟩ 43 (0, 0))], [(b4, .cells ⟨[.int .i64 0, .int .i64 0, .int .i64 0, .int .i64 0, .int .u32 0, .int .i64 0, .int .u32 0, .int .i64 0, .int .i64 0, .int .i64 0, .bool false, .slice none 0 0]⟩ 43 (0, 0))]]) (fun w H => hp_permL H List.perm_append_comm) ?_
    refine g_call1 (A := R0) (F := [[(b5, .cells ⟨[.int .i64 0, .int .i64 0, .int .i64 (-1), .int .i64 0, .int .u32 0, .int .i64 0, .int .u32 0, .int .i64 0, .int .i64 0, .int .i64 0, .bool false, .slice none 0 0]⟩ 43 (0, 0))], [(b4, .cells ⟨[.int .i64 0, .int .i64 0, .int .i64 0, .int .i64 0, .int .u32 0, .int .i64 0, .int .u32 0, .int .i64 0, .int .i64 0, .int .i64 0, .bool false, .slice none 0 0]⟩ 43 (0, 0))]]) rfl rfl (Cl.of Tryz.func114 rfl rfl) rfl rfl (fun w' hE' => rtmp_sp b x.d (Lib.itoa x.n :: x.args.map argT) R0 w' hS.d hS.d1 hR0 (hp_own hE')) rfl (fun R1 hR1 => ?_)
    repeat' (refine g_pv rfl rfl ?_)
    refine g_call1 (A := R1) (F := [[(b5, .cells ⟨[.int .i64 0, .int .i64 0, .int .i64 (-1), .int .i64 0, .int .u32 0, .int .i64 0, .int .u32 0, .int .i64 0, .int .i64 0, .int .i64 0, .bool false, .slice none 0 0]⟩ 43 (0, 0))], [(b4, .cells ⟨[.int .i64 0, .int .i64 0, .int .i64 0, .int .i64 0, .int .u32 0, .int .i64 0, .int .u32 0, .int .i64 0, .int .i64 0, .int .i64 0, .bool false, .slice none 0 0]⟩ 43 (0, 0))]]) rfl rfl (Cl.of Tryz.func70 rfl rfl) rfl rfl (fun w' hE' => num_sp b x.n (x.args.map argT) R1 w' hS.n hR1 (hp_own hE')) rfl (fun R2 hR2 => ?_)
    refine g_heap (R' := [[(b5, .cells ⟨[.int .i64 0, .int .i64 0, .int .i64 (-1), .int .i64 0, .int .u32 0, .int .i64 0, .int .u32 0, .int .i64 0, .int .i64 0, .int .i64 0, .bool false, .slice none 0 0]⟩ 43 (0, 0))], [(b4, .cells ⟨[.int .i64 0, .int .i64 0, .int .i64 0, .int .i64 0, .int .u32 0, .int .i64 0, .int .u32 0, .int .i64 0, .int .i64 0, .int .i64 0, .bool false, .slice none 0 0]⟩ 43 (0, 0))]] ++ R2) (fun w H => hp_permL H List.perm_append_comm) ?_
    repeat' (first | refine g_pv rfl rfl ?_ | refine g_nil ?_ | refine gq_then ?_ | refine gc_block ?_ | refine g_st 0 rfl rfl rfl rfl rfl rfl rfl ?_)
    refine gc_loop (Y := Value × HL × RL × Nat) (fun y => OwnL 40 2 Arg.cells y.1 (x.args.take y.2.2.2) y.2.1 ∧ RD b ((x.args.drop y.2.2.2).map argT) y.2.2.1 ∧ y.2.2.2 ≤ x.args.length) (fun y => [(0, .pointer (some ⟨b, 0, none⟩)), (4, .pointer (some ⟨b4, 0, none⟩)), (5, .pointer (some ⟨b5, 0, none⟩))]) (fun y => [[(b5, .cells ⟨[.int .i64 8, .int .i64 0, .int .i64 x.d, .int .i64 0, .int .u32 0, .int .i64 0, .int .u32 0, .int .i64 x.n, .int .i64 0, .int .i64 0, .bool false, y.1]⟩ 43 (0, 0))], [(b4, .cells ⟨[.int .i64 0, .int .i64 0, .int .i64 0, .int .i64 0, .int .u32 0, .int .i64 0, .int .u32 0, .int .i64 0, .int .i64 0, .int .i64 0, .bool false, .slice none 0 0]⟩ 43 (0, 0))], y.2.1] ++ y.2.2.1) (fun y => x.args.length - y.2.2.2) (.slice none 0 0, [], R2, 0)
      ⟨OwnL.nil _ _ _, by rw [List.drop_zero]; exact hR2, Nat.zero_le _⟩ ⟨rfl, rfl, rfl, trivial⟩ (fun w' H => hp_perm H (List.Perm.of_eq rfl)) ?_
    rintro ⟨v1, A1, R3, k⟩ ⟨ho, hR3, hk⟩
    dsimp only at ho hR3 hk ⊢
    have hR3' := hR3
    obtain ⟨ad, c, g0, cs, hRR, hcc, -⟩ := hR3'
    have hlen : ((x.args.drop k).map argT).length = x.args.length - k := by rw [List.length_map, List.length_drop]
    refine gc_cut (Y := Unit) (fun _ => k < x.args.length) (fun _ => [(0, .pointer (some ⟨b, 0, none⟩)), (4, .pointer (some ⟨b4, 0, none⟩)), (5, .pointer (some ⟨b5, 0, none⟩))]) (fun _ => [[(b5, .cells ⟨[.int .i64 8, .int .i64 0, .int .i64 x.d, .int .i64 0, .int .u32 0, .int .i64 0, .int .u32 0, .int .i64 x.n, .int .i64 0, .int .i64 0, .bool false, v1]⟩ 43 (0, 0))], [(b4, .cells ⟨[.int .i64 0, .int .i64 0, .int .i64 0, .int .i64 0, .int .u32 0, .int .i64 0, .int .u32 0, .int .i64 0, .int .i64 0, .int .i64 0, .bool false, .slice none 0 0]⟩ 43 (0, 0))], A1] ++ R3) ?_ ?_
    · refine gc_heap (R' := [[(b5, .cells ⟨[.int .i64 8, .int .i64 0, .int .i64 x.d, .int .i64 0, .int .u32 0, .int .i64 0, .int .u32 0, .int .i64 x.n, .int .i64 0, .int .i64 0, .bool false, v1]⟩ 43 (0, 0))], [(b4, .cells ⟨[.int .i64 0, .int .i64 0, .int .i64 0, .int .i64 0, .int .u32 0, .int .i64 0, .int .u32 0, .int .i64 0, .int .i64 0, .int .i64 0, .bool false, .slice none 0 0]⟩ 43 (0, 0))], A1, [(b, .cells ⟨[.slice ad (x.args.length - k) c]⟩ 127 (0, 0))], [(g0, .cells ⟨cs⟩ 9 (0, 0))]]) (fun w H => by rw [hRR, hlen] at H; exact H) ?_
      repeat' (first | refine g_pv rfl rfl ?_ | refine g_ld 3 rfl rfl rfl rfl rfl rfl ?_ | refine g_nil ?_ | refine gq_then ?_ | refine gc_seq ?_ | refine gc_region ?_)
      try refine g_ld 3 rfl rfl rfl rfl rfl rfl ?_
      repeat' (fail)
      refine gc_condC rfl (fun cc => ?_) (fun cc => ?_)
      · have hlt : k < x.args.length := by have := of_decide_eq_true cc; omega
        repeat' (refine gc_skip ?_)
        exact gq_at () hlt ⟨rfl, rfl, rfl, trivial⟩ (fun w' H => by rw [hRR, hlen]; exact H)
      · have hge : k = x.args.length := by have := of_decide_eq_false cc; omega
        subst hge
        rw [List.take_length] at ho
        obtain ⟨ad1, c1', rfl, -⟩ := Own.shape ho
        have hR9 : RD b [] R3 := by rw [List.drop_length] at hR3; exact hR3
        repeat' (first | refine g_ld 0 rfl rfl rfl rfl rfl rfl ?_ | refine g_nil ?_ | refine gq_then ?_ | refine gc_seq ?_ | refine gc_region ?_ | refine gc_exit ?_ | refine gc_ret ?_ | refine gq_then_exit ?_ | refine gq_block ?_ | refine gq_block_exit ?_ | refine g_st 1 rfl rfl rfl rfl rfl rfl rfl ?_)
        have hq := hsh.1
        rw [shape8 c8] at hq
        simp [alikeB] at hq
        have hc12 : (insY x ad1 c1').cells = [.int .i64 8, .int .i64 0, .int .i64 x.d, .int .i64 0, .int .u32 0, .int .i64 0, .int .u32 0, .int .i64 x.n, .int .i64 0, .int .i64 0, .bool false, .slice ad1 x.args.length c1'] := by simp [insY, Ins.cells, c8, hq]
        refine gq_retC (.inr rfl) rfl rfl 1 rfl rfl rfl rfl rfl (fun w' H => ⟨(ad1, c1', A1, R3), ⟨hR9, ho⟩, ?_, by rw [hRR]; rw [← hlen] at H; exact hp_tail (hp_tail H)⟩)
        dsimp only
        rw [hc12]
    rintro ⟨⟩ hlt
    have hxk : x.args[k]? = some (x.args[k]) := List.getElem?_eq_getElem hlt
    have hdk : (x.args.drop k).map argT = argT x.args[k] :: (x.args.drop (k + 1)).map argT := by rw [List.drop_eq_getElem_cons hlt, List.map_cons]
    have hok := hS.args x.args[k] (List.getElem_mem hlt)
    have hkk := hak x.args[k] (List.getElem_mem hlt)
    have htk : x.args.take (k + 1) = x.args.take k ++ [x.args[k]] := List.take_succ_eq_append_getElem hlt
    generalize x.args[k] = a at hxk hdk hok hkk htk
    rw [hdk] at hR3
    have htl : (x.args.take k).length ≤ 8 := by rw [List.length_take]; omega
    refine gc_block ?_
    refine gc_draw [[(b5, .cells ⟨[.int .i64 8, .int .i64 0, .int .i64 x.d, .int .i64 0, .int .u32 0, .int .i64 0, .int .u32 0, .int .i64 x.n, .int .i64 0, .int .i64 0, .bool false, v1]⟩ 43 (0, 0))], [(b4, .cells ⟨[.int .i64 0, .int .i64 0, .int .i64 0, .int .i64 0, .int .u32 0, .int .i64 0, .int .u32 0, .int .i64 0, .int .i64 0, .int .i64 0, .bool false, .slice none 0 0]⟩ 43 (0, 0))]] (A1 :: R3) rfl (List.Perm.of_eq rfl) ?_
    (refine aP 0 rfl rfl ?_); (refine aL 1 0 rfl wanted_none rfl rfl rfl rfl rfl ?_); (refine aP 2 rfl rfl ?_)
    refine aO 3 rfl (fun K hK => ?_)
    refine g_heap (R' := R3 ++ [[(b5, .cells ⟨[.int .i64 8, .int .i64 0, .int .i64 x.d, .int .i64 0, .int .u32 0, .int .i64 0, .int .u32 0, .int .i64 x.n, .int .i64 0, .int .i64 0, .bool false, v1]⟩ 43 (0, 0))], [(b4, .cells ⟨[.int .i64 0, .int .i64 0, .int .i64 0, .int .i64 0, .int .u32 0, .int .i64 0, .int .u32 0, .int .i64 0, .int .i64 0, .int .i64 0, .bool false, .slice none 0 0]⟩ 43 (0, 0))], A1]) (fun w H => hp_permL H List.perm_append_comm) ?_
    refine g_call1 (A := R3) (F := [[(b5, .cells ⟨[.int .i64 8, .int .i64 0, .int .i64 x.d, .int .i64 0, .int .u32 0, .int .i64 0, .int .u32 0, .int .i64 x.n, .int .i64 0, .int .i64 0, .bool false, v1]⟩ 43 (0, 0))], [(b4, .cells ⟨[.int .i64 0, .int .i64 0, .int .i64 0, .int .i64 0, .int .u32 0, .int .i64 0, .int .u32 0, .int .i64 0, .int .i64 0, .int .i64 0, .bool false, .slice none 0 0]⟩ 43 (0, 0))], A1]) rfl rfl (Cl.of Tryz.func115 rfl rfl) rfl rfl (fun w' hE' => rarg_sp' b a _ R3 w' hok hkk hR3 (hp_own hE')) rfl (fun R4 hR4 => ?_)
    refine g_heap (R' := [[(b5, .cells ⟨[.int .i64 8, .int .i64 0, .int .i64 x.d, .int .i64 0, .int .u32 0, .int .i64 0, .int .u32 0, .int .i64 x.n, .int .i64 0, .int .i64 0, .bool false, v1]⟩ 43 (0, 0))], [(b4, .cells ⟨[.int .i64 0, .int .i64 0, .int .i64 0, .int .i64 0, .int .u32 0, .int .i64 0, .int .u32 0, .int .i64 0, .int .i64 0, .int .i64 0, .bool false, .slice none 0 0]⟩ 43 (0, 0))], A1] ++ R4) (fun w H => hp_permL H List.perm_append_comm) ?_
    refine g_nil ?_
    refine hK _ _ ⟨A1 :: R4, List.Perm.of_eq rfl⟩ ?_
    refine aO 4 rfl (fun K hK => ?_)
    refine g_litL rfl rfl rfl rfl rfl rfl rfl rfl rfl rfl (fun g => ?_)
    refine g_nil ?_
    refine hK _ _ ⟨[(g, .cells ⟨a.cells⟩ 40 (0, 0))] :: A1 :: R4, List.perm_middle⟩ ?_
    refine aO 5 rfl (fun K hK => ?_)
    refine g_appL 3 (f := Arg.cells) (m := [a]) rfl rfl rfl rfl rfl rfl rfl ho (fun _ => rfl) (fun w' H => argc_rd (hp_in H 0 rfl g _ List.mem_cons_self)) (fun _ => rfl) (Nat.le_trans (Nat.add_le_add_right htl 1) (by decide)) (Nat.le_trans (Nat.mul_le_mul_right 16 (Nat.add_le_add_right htl 1)) (by decide)) rfl (fun v2 A2 ho2 => ?_)
    refine g_nil ?_
    refine hK _ _ ⟨[(g, .cells ⟨a.cells⟩ 40 (0, 0))] :: A2 :: R4, List.perm_middle⟩ ?_
    (refine aP 6 rfl rfl ?_)
    rw [← htk] at ho2
    obtain ⟨ad2, c2, rfl, -⟩ := Own.shape ho2
    refine ga_one (i := 7) (by kernel_rfl) (gs_last rfl (by kernel_rfl) (by kernel_rfl) (fun K hK => ?_))
    refine g_st 1 rfl rfl rfl rfl rfl rfl rfl ?_
    refine g_nil ?_
    refine hK _ _ ?_
    repeat' (refine gq_block ?_)
    exact gq_again (.slice ad2 (x.args.take (k + 1)).length c2, A2, R4, k + 1) ⟨ho2, hR4, hlt⟩ (by dsimp only; omega) ⟨rfl, rfl, rfl, trivial⟩ (fun w' H => hp_tail H)
  have c8 := of_decide_eq_false c8
  repeat' (first | refine gc_seq ?_ | refine gc_region ?_)
  refine g_p (p_eqT rfl rfl rfl) rfl ?_
  refine g_eq 126 (u' := .bool (decide (x.op = 9))) rfl (congrArg Value.bool ((eqT_mk (opN x) (keyOp 9)).trans (opN_is hP hbin (by decide)))) ?_
  repeat' (first | refine g_pv rfl rfl ?_ | refine g_nil ?_ | refine gq_then ?_)
  refine gc_condC rfl (fun c9 => ?_) (fun c9 => ?_)
  · have c9 := of_decide_eq_true c9
    by_cases c0 : x.a.k = 0
    · have c0' : x.a.n = 0 := by
        rcases hP.a9 c9 with h | h
        · rcases h with h | h <;> omega
        · exact h.2
      have hW : (insW x).tail = [] := by simp [insW, c9, c0]
      rw [hW] at hB
      have hB' := hB
      obtain ⟨ad, c, g, cs, rfl, hcc, -⟩ := hB'
      repeat' (first | refine g_pv rfl rfl ?_ | refine g_ld 0 rfl rfl rfl rfl rfl rfl ?_ | refine g_ld 2 rfl rfl rfl rfl rfl rfl ?_ | refine g_nil ?_ | refine gq_then ?_ | refine gc_seq ?_ | refine gc_region ?_ | refine gc_cond_f rfl ?_ | refine gc_skip ?_ | refine gc_ret ?_ | refine gq_block ?_ | refine g_st 0 rfl rfl rfl rfl rfl rfl rfl ?_ | refine g_st 1 rfl rfl rfl rfl rfl rfl rfl ?_)
      have hargs : x.args = [] := hsh.2 (by omega)
      have hq := hsh.1
      rw [shape9 c9] at hq
      simp [alikeB] at hq
      have hc12 : (insY x none 0).cells = [.int .i64 9, .int .i64 0, .int .i64 (-1), .int .i64 0, .int .u32 0, .int .i64 0, .int .u32 0, .int .i64 0, .int .i64 0, .int .i64 0, .bool false, .slice none 0 0] := by simp [insY, Ins.cells, c9, hargs, hq, c0, c0']
      refine gq_retC (.inr rfl) rfl rfl 1 rfl rfl rfl rfl rfl (fun w' H => ⟨(none, 0, [], _), ⟨hB, by rw [hargs]; exact OwnL.nil _ _ _⟩, ?_, hp_tail (hp_tail H)⟩)
      dsimp only
      rw [hc12]
    · have hka : argK x.a := by
        rcases hP.a9 c9 with h | h
        · exact h
        · exact absurd h.1 c0
      have hW : (insW x).tail = [argT x.a] := by simp [insW, c9, c0]
      rw [hW] at hB
      have hB' := hB
      obtain ⟨ad, c, g, cs, rfl, hcc, -⟩ := hB'
      repeat' (first | refine g_pv rfl rfl ?_ | refine g_ld 2 rfl rfl rfl rfl rfl rfl ?_ | refine g_nil ?_ | refine gq_then ?_ | refine gc_seq ?_ | refine gc_region ?_ | refine gc_cond_t rfl ?_ | refine g_st 0 rfl rfl rfl rfl rfl rfl rfl ?_)
      refine g_heap (R' := [[(b, .cells ⟨[.slice ad 1 c]⟩ 127 (0, 0))], [(g, .cells ⟨cs⟩ 9 (0, 0))]] ++ [[(b5, .cells ⟨[.int .i64 9, .int .i64 0, .int .i64 (-1), .int .i64 0, .int .u32 0, .int .i64 0, .int .u32 0, .int .i64 0, .int .i64 0, .int .i64 0, .bool false, .slice none 0 0]⟩ 43 (0, 0))], [(b4, .cells ⟨[.int .i64 0, .int .i64 0, .int .i64 0, .int .i64 0, .int .u32 0, .int .i64 0, .int .u32 0, .int .i64 0, .int .i64 0, .int .i64 0, .bool false, .slice none 0 0]⟩ 43 (0, 0))]]) (fun w H => hp_permL H List.perm_append_comm) ?_
      refine g_call1 (A := [[(b, .cells ⟨[.slice ad 1 c]⟩ 127 (0, 0))], [(g, .cells ⟨cs⟩ 9 (0, 0))]]) (F := [[(b5, .cells ⟨[.int .i64 9, .int .i64 0, .int .i64 (-1), .int .i64 0, .int .u32 0, .int .i64 0, .int .u32 0, .int .i64 0, .int .i64 0, .int .i64 0, .bool false, .slice none 0 0]⟩ 43 (0, 0))], [(b4, .cells ⟨[.int .i64 0, .int .i64 0, .int .i64 0, .int .i64 0, .int .u32 0, .int .i64 0, .int .u32 0, .int .i64 0, .int .i64 0, .int .i64 0, .bool false, .slice none 0 0]⟩ 43 (0, 0))]]) rfl rfl (Cl.of Tryz.func115 rfl rfl) rfl rfl (fun w' hE' => rarg_sp' b x.a ([]) _ w' hS.a hka hB (hp_own hE')) rfl (fun R1 hR1 => ?_)
      refine g_heap (R' := [[(b5, .cells ⟨[.int .i64 9, .int .i64 0, .int .i64 (-1), .int .i64 0, .int .u32 0, .int .i64 0, .int .u32 0, .int .i64 0, .int .i64 0, .int .i64 0, .bool false, .slice none 0 0]⟩ 43 (0, 0))], [(b4, .cells ⟨[.int .i64 0, .int .i64 0, .int .i64 0, .int .i64 0, .int .u32 0, .int .i64 0, .int .u32 0, .int .i64 0, .int .i64 0, .int .i64 0, .bool false, .slice none 0 0]⟩ 43 (0, 0))]] ++ R1) (fun w H => hp_permL H List.perm_append_comm) ?_
      repeat' (first | refine g_pv rfl rfl ?_ | refine g_ld 0 rfl rfl rfl rfl rfl rfl ?_ | refine g_nil ?_ | refine gq_then ?_ | refine gc_seq ?_ | refine gc_region ?_ | refine gc_ret ?_ | refine gq_block ?_ | refine g_st 0 rfl rfl rfl rfl rfl rfl rfl ?_ | refine g_st 1 rfl rfl rfl rfl rfl rfl rfl ?_)
      have hargs : x.args = [] := hsh.2 (by omega)
      have hq := hsh.1
      rw [shape9 c9] at hq
      simp [alikeB] at hq
      have hc12 : (insY x none 0).cells = [.int .i64 9, .int .i64 0, .int .i64 (-1), .int .i64 x.a.k, .int .u32 x.a.n, .int .i64 0, .int .u32 0, .int .i64 0, .int .i64 0, .int .i64 0, .bool false, .slice none 0 0] := by simp [insY, Ins.cells, c9, hargs, hq]
      refine gq_retC (.inr rfl) rfl rfl 1 rfl rfl rfl rfl rfl (fun w' H => ⟨(none, 0, [], R1), ⟨hR1, by rw [hargs]; exact OwnL.nil _ _ _⟩, ?_, hp_tail (hp_tail H)⟩)
      dsimp only
      rw [hc12]
  have c9 := of_decide_eq_false c9
  repeat' (first | refine gc_seq ?_ | refine gc_region ?_)
  refine g_p (p_eqT rfl rfl rfl) rfl ?_
  refine g_eq 138 (u' := .bool (decide (x.op = 10))) rfl (congrArg Value.bool ((eqT_mk (opN x) (keyOp 10)).trans (opN_is hP hbin (by decide)))) ?_
  repeat' (first | refine g_pv rfl rfl ?_ | refine g_nil ?_ | refine gq_then ?_)
  refine gc_condC rfl (fun c10 => ?_) (fun c10 => ?_)
  · have c10 := of_decide_eq_true c10
    have hW : (insW x).tail = [Lib.itoa x.n] := by simp [insW, c10]
    rw [hW] at hB
    have hR0 := hB
    repeat' (first | refine g_pv rfl rfl ?_ | refine gc_region ?_)
    refine g_heap (R' := R0 ++ [[(b5, .cells ⟨[.int .i64 0, .int .i64 0, .int .i64 (-1), .int .i64 0, .int .u32 0, .int .i64 0, .int .u32 0, .int .i64 0, .int .i64 0, .int .i64 0, .bool false, .slice none 0 0]⟩ 43 (0, 0))], [(b4, .cells ⟨[.int .i64 0, .int .i64 0, .int .i64 0, .int .i64 0, .int .u32 0, .int .i64 0, .int .u32 0, .int .i64 0, .int .i64 0, .int .i64 0, .bool false, .slice none 0 0]⟩ 43 (0, 0))]]) (fun w H => hp_permL H List.perm_append_comm) ?_
    refine g_call1 (A := R0) (F := [[(b5, .cells ⟨[.int .i64 0, .int .i64 0, .int .i64 (-1), .int .i64 0, .int .u32 0, .int .i64 0, .int .u32 0, .int .i64 0, .int .i64 0, .int .i64 0, .bool false, .slice none 0 0]⟩ 43 (0, 0))], [(b4, .cells ⟨[.int .i64 0, .int .i64 0, .int .i64 0, .int .i64 0, .int .u32 0, .int .i64 0, .int .u32 0, .int .i64 0, .int .i64 0, .int .i64 0, .bool false, .slice none 0 0]⟩ 43 (0, 0))]]) rfl rfl (Cl.of Tryz.func70 rfl rfl) rfl rfl (fun w' hE' => num_sp b x.n ([]) R0 w' hS.n hR0 (hp_own hE')) rfl (fun R1 hR1 => ?_)
    refine g_heap (R' := [[(b5, .cells ⟨[.int .i64 0, .int .i64 0, .int .i64 (-1), .int .i64 0, .int .u32 0, .int .i64 0, .int .u32 0, .int .i64 0, .int .i64 0, .int .i64 0, .bool false, .slice none 0 0]⟩ 43 (0, 0))], [(b4, .cells ⟨[.int .i64 0, .int .i64 0, .int .i64 0, .int .i64 0, .int .u32 0, .int .i64 0, .int .u32 0, .int .i64 0, .int .i64 0, .int .i64 0, .bool false, .slice none 0 0]⟩ 43 (0, 0))]] ++ R1) (fun w H => hp_permL H List.perm_append_comm) ?_
    repeat' (first | refine g_pv rfl rfl ?_ | refine g_ld 0 rfl rfl rfl rfl rfl rfl ?_ | refine g_nil ?_ | refine gq_then ?_ | refine gc_seq ?_ | refine gc_region ?_ | refine gc_ret ?_ | refine gq_block ?_ | refine g_st 0 rfl rfl rfl rfl rfl rfl rfl ?_ | refine g_st 1 rfl rfl rfl rfl rfl rfl rfl ?_)
    have hargs : x.args = [] := hsh.2 (by omega)
    have hq := hsh.1
    rw [shape10 c10] at hq
    simp [alikeB] at hq
    have hc12 : (insY x none 0).cells = [.int .i64 10, .int .i64 0, .int .i64 (-1), .int .i64 0, .int .u32 0, .int .i64 0, .int .u32 0, .int .i64 x.n, .int .i64 0, .int .i64 0, .bool false, .slice none 0 0] := by simp [insY, Ins.cells, c10, hargs, hq]
    refine gq_retC (.inr rfl) rfl rfl 1 rfl rfl rfl rfl rfl (fun w' H => ⟨(none, 0, [], R1), ⟨hR1, by rw [hargs]; exact OwnL.nil _ _ _⟩, ?_, hp_tail (hp_tail H)⟩)
    dsimp only
    rw [hc12]
  have c10 := of_decide_eq_false c10
  repeat' (first | refine gc_seq ?_ | refine gc_region ?_)
  refine g_p (p_eqT rfl rfl rfl) rfl ?_
  refine g_eq 144 (u' := .bool (decide (x.op = 11))) rfl (congrArg Value.bool ((eqT_mk (opN x) (keyOp 11)).trans (opN_is hP hbin (by decide)))) ?_
  repeat' (first | refine g_pv rfl rfl ?_ | refine g_nil ?_ | refine gq_then ?_)
  refine gc_condC rfl (fun c11 => ?_) (fun c11 => ?_)
  · have c11 := of_decide_eq_true c11
    have hW : (insW x).tail = [argT x.a, Lib.itoa x.n] := by simp [insW, c11]
    rw [hW] at hB
    have hR0 := hB
    repeat' (first | refine g_pv rfl rfl ?_ | refine gc_region ?_)
    refine g_heap (R' := R0 ++ [[(b5, .cells ⟨[.int .i64 0, .int .i64 0, .int .i64 (-1), .int .i64 0, .int .u32 0, .int .i64 0, .int .u32 0, .int .i64 0, .int .i64 0, .int .i64 0, .bool false, .slice none 0 0]⟩ 43 (0, 0))], [(b4, .cells ⟨[.int .i64 0, .int .i64 0, .int .i64 0, .int .i64 0, .int .u32 0, .int .i64 0, .int .u32 0, .int .i64 0, .int .i64 0, .int .i64 0, .bool false, .slice none 0 0]⟩ 43 (0, 0))]]) (fun w H => hp_permL H List.perm_append_comm) ?_
    refine g_call1 (A := R0) (F := [[(b5, .cells ⟨[.int .i64 0, .int .i64 0, .int .i64 (-1), .int .i64 0, .int .u32 0, .int .i64 0, .int .u32 0, .int .i64 0, .int .i64 0, .int .i64 0, .bool false, .slice none 0 0]⟩ 43 (0, 0))], [(b4, .cells ⟨[.int .i64 0, .int .i64 0, .int .i64 0, .int .i64 0, .int .u32 0, .int .i64 0, .int .u32 0, .int .i64 0, .int .i64 0, .int .i64 0, .bool false, .slice none 0 0]⟩ 43 (0, 0))]]) rfl rfl (Cl.of Tryz.func115 rfl rfl) rfl rfl (fun w' hE' => rarg_sp' b x.a ([Lib.itoa x.n]) R0 w' hS.a (ha (by omega)) hR0 (hp_own hE')) rfl (fun R1 hR1 => ?_)
    repeat' (refine g_pv rfl rfl ?_)
    refine g_call1 (A := R1) (F := [[(b5, .cells ⟨[.int .i64 0, .int .i64 0, .int .i64 (-1), .int .i64 0, .int .u32 0, .int .i64 0, .int .u32 0, .int .i64 0, .int .i64 0, .int .i64 0, .bool false, .slice none 0 0]⟩ 43 (0, 0))], [(b4, .cells ⟨[.int .i64 0, .int .i64 0, .int .i64 0, .int .i64 0, .int .u32 0, .int .i64 0, .int .u32 0, .int .i64 0, .int .i64 0, .int .i64 0, .bool false, .slice none 0 0]⟩ 43 (0, 0))]]) rfl rfl (Cl.of Tryz.func70 rfl rfl) rfl rfl (fun w' hE' => num_sp b x.n ([]) R1 w' hS.n hR1 (hp_own hE')) rfl (fun R2 hR2 => ?_)
    refine g_heap (R' := [[(b5, .cells ⟨[.int .i64 0, .int .i64 0, .int .i64 (-1), .int .i64 0, .int .u32 0, .int .i64 0, .int .u32 0, .int .i64 0, .int .i64 0, .int .i64 0, .bool false, .slice none 0 0]⟩ 43 (0, 0))], [(b4, .cells ⟨[.int .i64 0, .int .i64 0, .int .i64 0, .int .i64 0, .int .u32 0, .int .i64 0, .int .u32 0, .int .i64 0, .int .i64 0, .int .i64 0, .bool false, .slice none 0 0]⟩ 43 (0, 0))]] ++ R2) (fun w H => hp_permL H List.perm_append_comm) ?_
    repeat' (first | refine g_pv rfl rfl ?_ | refine g_ld 0 rfl rfl rfl rfl rfl rfl ?_ | refine g_nil ?_ | refine gq_then ?_ | refine gc_seq ?_ | refine gc_region ?_ | refine gc_ret ?_ | refine gq_block ?_ | refine g_st 0 rfl rfl rfl rfl rfl rfl rfl ?_ | refine g_st 1 rfl rfl rfl rfl rfl rfl rfl ?_)
    have hargs : x.args = [] := hsh.2 (by omega)
    have hq := hsh.1
    rw [shape11 c11] at hq
    simp [alikeB] at hq
    have hc12 : (insY x none 0).cells = [.int .i64 11, .int .i64 0, .int .i64 (-1), .int .i64 x.a.k, .int .u32 x.a.n, .int .i64 0, .int .u32 0, .int .i64 x.n, .int .i64 0, .int .i64 0, .bool false, .slice none 0 0] := by simp [insY, Ins.cells, c11, hargs, hq]
    refine gq_retC (.inr rfl) rfl rfl 1 rfl rfl rfl rfl rfl (fun w' H => ⟨(none, 0, [], R2), ⟨hR2, by rw [hargs]; exact OwnL.nil _ _ _⟩, ?_, hp_tail (hp_tail H)⟩)
    dsimp only
    rw [hc12]
  have c11 := of_decide_eq_false c11
  repeat' (first | refine gc_seq ?_ | refine gc_region ?_)
  refine g_p (p_eqT rfl rfl rfl) rfl ?_
  refine g_eq 153 (u' := .bool (decide (x.op = 12))) rfl (congrArg Value.bool ((eqT_mk (opN x) (keyOp 12)).trans (opN_is hP hbin (by decide)))) ?_
  repeat' (first | refine g_pv rfl rfl ?_ | refine g_nil ?_ | refine gq_then ?_)
  refine gc_condC rfl (fun c12 => ?_) (fun c12 => ?_)
  · have c12 := of_decide_eq_true c12
    have hW : (insW x).tail = [argT x.a] := by simp [insW, c12]
    rw [hW] at hB
    have hR0 := hB
    repeat' (first | refine g_pv rfl rfl ?_ | refine gc_region ?_)
    refine g_heap (R' := R0 ++ [[(b5, .cells ⟨[.int .i64 0, .int .i64 0, .int .i64 (-1), .int .i64 0, .int .u32 0, .int .i64 0, .int .u32 0, .int .i64 0, .int .i64 0, .int .i64 0, .bool false, .slice none 0 0]⟩ 43 (0, 0))], [(b4, .cells ⟨[.int .i64 0, .int .i64 0, .int .i64 0, .int .i64 0, .int .u32 0, .int .i64 0, .int .u32 0, .int .i64 0, .int .i64 0, .int .i64 0, .bool false, .slice none 0 0]⟩ 43 (0, 0))]]) (fun w H => hp_permL H List.perm_append_comm) ?_
    refine g_call1 (A := R0) (F := [[(b5, .cells ⟨[.int .i64 0, .int .i64 0, .int .i64 (-1), .int .i64 0, .int .u32 0, .int .i64 0, .int .u32 0, .int .i64 0, .int .i64 0, .int .i64 0, .bool false, .slice none 0 0]⟩ 43 (0, 0))], [(b4, .cells ⟨[.int .i64 0, .int .i64 0, .int .i64 0, .int .i64 0, .int .u32 0, .int .i64 0, .int .u32 0, .int .i64 0, .int .i64 0, .int .i64 0, .bool false, .slice none 0 0]⟩ 43 (0, 0))]]) rfl rfl (Cl.of Tryz.func115 rfl rfl) rfl rfl (fun w' hE' => rarg_sp' b x.a ([]) R0 w' hS.a (ha (by omega)) hR0 (hp_own hE')) rfl (fun R1 hR1 => ?_)
    refine g_heap (R' := [[(b5, .cells ⟨[.int .i64 0, .int .i64 0, .int .i64 (-1), .int .i64 0, .int .u32 0, .int .i64 0, .int .u32 0, .int .i64 0, .int .i64 0, .int .i64 0, .bool false, .slice none 0 0]⟩ 43 (0, 0))], [(b4, .cells ⟨[.int .i64 0, .int .i64 0, .int .i64 0, .int .i64 0, .int .u32 0, .int .i64 0, .int .u32 0, .int .i64 0, .int .i64 0, .int .i64 0, .bool false, .slice none 0 0]⟩ 43 (0, 0))]] ++ R1) (fun w H => hp_permL H List.perm_append_comm) ?_
    repeat' (first | refine g_pv rfl rfl ?_ | refine g_ld 0 rfl rfl rfl rfl rfl rfl ?_ | refine g_nil ?_ | refine gq_then ?_ | refine gc_seq ?_ | refine gc_region ?_ | refine gc_ret ?_ | refine gq_block ?_ | refine g_st 0 rfl rfl rfl rfl rfl rfl rfl ?_ | refine g_st 1 rfl rfl rfl rfl rfl rfl rfl ?_)
    have hargs : x.args = [] := hsh.2 (by omega)
    have hq := hsh.1
    rw [shape12 c12] at hq
    simp [alikeB] at hq
    have hc12 : (insY x none 0).cells = [.int .i64 12, .int .i64 0, .int .i64 (-1), .int .i64 x.a.k, .int .u32 x.a.n, .int .i64 0, .int .u32 0, .int .i64 0, .int .i64 0, .int .i64 0, .bool false, .slice none 0 0] := by simp [insY, Ins.cells, c12, hargs, hq]
    refine gq_retC (.inr rfl) rfl rfl 1 rfl rfl rfl rfl rfl (fun w' H => ⟨(none, 0, [], R1), ⟨hR1, by rw [hargs]; exact OwnL.nil _ _ _⟩, ?_, hp_tail (hp_tail H)⟩)
    dsimp only
    rw [hc12]
  have c12 := of_decide_eq_false c12
  repeat' (first | refine gc_seq ?_ | refine gc_region ?_)
  refine g_p (p_eqT rfl rfl rfl) rfl ?_
  refine g_eq 159 (u' := .bool (decide (x.op = 13))) rfl (congrArg Value.bool ((eqT_mk (opN x) (keyOp 13)).trans (opN_is hP hbin (by decide)))) ?_
  repeat' (first | refine g_pv rfl rfl ?_ | refine g_nil ?_ | refine gq_then ?_)
  refine gc_condC rfl (fun c13 => ?_) (fun c13 => ?_)
  · have c13 := of_decide_eq_true c13
    have hW : (insW x).tail = [dW x.d] := by simp [insW, c13, dW_pos (hd (by omega))]
    rw [hW] at hB
    have hR0 := hB
    repeat' (first | refine g_pv rfl rfl ?_ | refine gc_region ?_)
    refine g_heap (R' := R0 ++ [[(b5, .cells ⟨[.int .i64 0, .int .i64 0, .int .i64 (-1), .int .i64 0, .int .u32 0, .int .i64 0, .int .u32 0, .int .i64 0, .int .i64 0, .int .i64 0, .bool false, .slice none 0 0]⟩ 43 (0, 0))], [(b4, .cells ⟨[.int .i64 0, .int .i64 0, .int .i64 0, .int .i64 0, .int .u32 0, .int .i64 0, .int .u32 0, .int .i64 0, .int .i64 0, .int .i64 0, .bool false, .slice none 0 0]⟩ 43 (0, 0))]]) (fun w H => hp_permL H List.perm_append_comm) ?_
    refine g_call1 (A := R0) (F := [[(b5, .cells ⟨[.int .i64 0, .int .i64 0, .int .i64 (-1), .int .i64 0, .int .u32 0, .int .i64 0, .int .u32 0, .int .i64 0, .int .i64 0, .int .i64 0, .bool false, .slice none 0 0]⟩ 43 (0, 0))], [(b4, .cells ⟨[.int .i64 0, .int .i64 0, .int .i64 0, .int .i64 0, .int .u32 0, .int .i64 0, .int .u32 0, .int .i64 0, .int .i64 0, .int .i64 0, .bool false, .slice none 0 0]⟩ 43 (0, 0))]]) rfl rfl (Cl.of Tryz.func114 rfl rfl) rfl rfl (fun w' hE' => rtmp_sp b x.d ([]) R0 w' hS.d hS.d1 hR0 (hp_own hE')) rfl (fun R1 hR1 => ?_)
    refine g_heap (R' := [[(b5, .cells ⟨[.int .i64 0, .int .i64 0, .int .i64 (-1), .int .i64 0, .int .u32 0, .int .i64 0, .int .u32 0, .int .i64 0, .int .i64 0, .int .i64 0, .bool false, .slice none 0 0]⟩ 43 (0, 0))], [(b4, .cells ⟨[.int .i64 0, .int .i64 0, .int .i64 0, .int .i64 0, .int .u32 0, .int .i64 0, .int .u32 0, .int .i64 0, .int .i64 0, .int .i64 0, .bool false, .slice none 0 0]⟩ 43 (0, 0))]] ++ R1) (fun w H => hp_permL H List.perm_append_comm) ?_
    repeat' (first | refine g_pv rfl rfl ?_ | refine g_ld 0 rfl rfl rfl rfl rfl rfl ?_ | refine g_nil ?_ | refine gq_then ?_ | refine gc_seq ?_ | refine gc_region ?_ | refine gc_ret ?_ | refine gq_block ?_ | refine g_st 0 rfl rfl rfl rfl rfl rfl rfl ?_ | refine g_st 1 rfl rfl rfl rfl rfl rfl rfl ?_)
    have hargs : x.args = [] := hsh.2 (by omega)
    have hq := hsh.1
    rw [shape13 c13] at hq
    simp [alikeB] at hq
    have hc12 : (insY x none 0).cells = [.int .i64 13, .int .i64 0, .int .i64 x.d, .int .i64 0, .int .u32 0, .int .i64 0, .int .u32 0, .int .i64 0, .int .i64 0, .int .i64 0, .bool false, .slice none 0 0] := by simp [insY, Ins.cells, c13, hargs, hq]
    refine gq_retC (.inr rfl) rfl rfl 1 rfl rfl rfl rfl rfl (fun w' H => ⟨(none, 0, [], R1), ⟨hR1, by rw [hargs]; exact OwnL.nil _ _ _⟩, ?_, hp_tail (hp_tail H)⟩)
    dsimp only
    rw [hc12]
  have c13 := of_decide_eq_false c13
  repeat' (first | refine gc_seq ?_ | refine gc_region ?_)
  refine g_p (p_eqT rfl rfl rfl) rfl ?_
  refine g_eq 165 (u' := .bool (decide (x.op = 14))) rfl (congrArg Value.bool ((eqT_mk (opN x) (keyOp 14)).trans (opN_is hP hbin (by decide)))) ?_
  repeat' (first | refine g_pv rfl rfl ?_ | refine g_nil ?_ | refine gq_then ?_)
  refine gc_condC rfl (fun c14 => ?_) (fun c14 => ?_)
  · have c14 := of_decide_eq_true c14
    have hW : (insW x).tail = [argT x.a] := by simp [insW, c14]
    rw [hW] at hB
    have hR0 := hB
    repeat' (first | refine g_pv rfl rfl ?_ | refine gc_region ?_)
    refine g_heap (R' := R0 ++ [[(b5, .cells ⟨[.int .i64 0, .int .i64 0, .int .i64 (-1), .int .i64 0, .int .u32 0, .int .i64 0, .int .u32 0, .int .i64 0, .int .i64 0, .int .i64 0, .bool false, .slice none 0 0]⟩ 43 (0, 0))], [(b4, .cells ⟨[.int .i64 0, .int .i64 0, .int .i64 0, .int .i64 0, .int .u32 0, .int .i64 0, .int .u32 0, .int .i64 0, .int .i64 0, .int .i64 0, .bool false, .slice none 0 0]⟩ 43 (0, 0))]]) (fun w H => hp_permL H List.perm_append_comm) ?_
    refine g_call1 (A := R0) (F := [[(b5, .cells ⟨[.int .i64 0, .int .i64 0, .int .i64 (-1), .int .i64 0, .int .u32 0, .int .i64 0, .int .u32 0, .int .i64 0, .int .i64 0, .int .i64 0, .bool false, .slice none 0 0]⟩ 43 (0, 0))], [(b4, .cells ⟨[.int .i64 0, .int .i64 0, .int .i64 0, .int .i64 0, .int .u32 0, .int .i64 0, .int .u32 0, .int .i64 0, .int .i64 0, .int .i64 0, .bool false, .slice none 0 0]⟩ 43 (0, 0))]]) rfl rfl (Cl.of Tryz.func115 rfl rfl) rfl rfl (fun w' hE' => rarg_sp' b x.a ([]) R0 w' hS.a (ha (by omega)) hR0 (hp_own hE')) rfl (fun R1 hR1 => ?_)
    refine g_heap (R' := [[(b5, .cells ⟨[.int .i64 0, .int .i64 0, .int .i64 (-1), .int .i64 0, .int .u32 0, .int .i64 0, .int .u32 0, .int .i64 0, .int .i64 0, .int .i64 0, .bool false, .slice none 0 0]⟩ 43 (0, 0))], [(b4, .cells ⟨[.int .i64 0, .int .i64 0, .int .i64 0, .int .i64 0, .int .u32 0, .int .i64 0, .int .u32 0, .int .i64 0, .int .i64 0, .int .i64 0, .bool false, .slice none 0 0]⟩ 43 (0, 0))]] ++ R1) (fun w H => hp_permL H List.perm_append_comm) ?_
    repeat' (first | refine g_pv rfl rfl ?_ | refine g_ld 0 rfl rfl rfl rfl rfl rfl ?_ | refine g_nil ?_ | refine gq_then ?_ | refine gc_seq ?_ | refine gc_region ?_ | refine gc_ret ?_ | refine gq_block ?_ | refine g_st 0 rfl rfl rfl rfl rfl rfl rfl ?_ | refine g_st 1 rfl rfl rfl rfl rfl rfl rfl ?_)
    have hargs : x.args = [] := hsh.2 (by omega)
    have hq := hsh.1
    rw [shape14 c14] at hq
    simp [alikeB] at hq
    have hc12 : (insY x none 0).cells = [.int .i64 14, .int .i64 0, .int .i64 (-1), .int .i64 x.a.k, .int .u32 x.a.n, .int .i64 0, .int .u32 0, .int .i64 0, .int .i64 0, .int .i64 0, .bool false, .slice none 0 0] := by simp [insY, Ins.cells, c14, hargs, hq]
    refine gq_retC (.inr rfl) rfl rfl 1 rfl rfl rfl rfl rfl (fun w' H => ⟨(none, 0, [], R1), ⟨hR1, by rw [hargs]; exact OwnL.nil _ _ _⟩, ?_, hp_tail (hp_tail H)⟩)
    dsimp only
    rw [hc12]
  have c14 := of_decide_eq_false c14
  have c2 : x.op = 2 := by have := op_split hP; omega
  have hW : (insW x).tail = [dW x.d, argT x.a, argT x.b] := by simp [insW, c2, dW_pos (hd (by omega))]
  rw [hW] at hB
  have hR0 := hB
  have hbi := hbin c2
  have hnm : mkB (opN x) = nameL x.bin := by rw [show opN x = bytesL (nameL x.bin) from by simp [opN, c2]]; rfl
  repeat' (first | refine gc_seq ?_ | refine gc_region ?_)
  refine g_call rfl (Cl.of Tryz.func116 rfl rfl) rfl rfl (fun w' hE => operations_sp w') rfl ?_
  rintro mm ⟨kv, hM, hO⟩
  have hml : ml kv (mkB (opN x)) = some (.int .i64 x.bin) := by rw [hnm]; have := hO x.bin.toNat (by omega) (by omega); rwa [show ((x.bin.toNat : Nat) : Int) = x.bin from by omega] at this
  refine g_heap (R' := [[(mm.1, .map mm.2.1 mm.2.2)], [(b5, .cells ⟨[.int .i64 0, .int .i64 0, .int .i64 (-1), .int .i64 0, .int .u32 0, .int .i64 0, .int .u32 0, .int .i64 0, .int .i64 0, .int .i64 0, .bool false, .slice none 0 0]⟩ 43 (0, 0))], [(b4, .cells ⟨[.int .i64 0, .int .i64 0, .int .i64 0, .int .i64 0, .int .u32 0, .int .i64 0, .int .u32 0, .int .i64 0, .int .i64 0, .int .i64 0, .bool false, .slice none 0 0]⟩ 43 (0, 0))]] ++ R0) (fun w H => H) ?_
  repeat' (refine g_pv rfl rfl ?_)
  refine g_look2 0 (kf := Value.string) (k := mkB (opN x)) rfl rfl rfl rfl rfl (kl_string (Tryz.sx.ok.at rfl)) hM rfl ?_
  refine g_eq 13 (u' := .tuple #[.int .i64 x.bin, .bool true]) rfl (by rw [hml]; rfl) ?_
  repeat' (first | refine g_pv rfl rfl ?_ | refine g_nil ?_ | refine gq_then ?_ | refine gc_seq ?_ | refine gc_region ?_)
  refine g_call rfl (Cl.of Tryz.func71 rfl rfl) rfl rfl (fun w' hE => must_sp w') rfl (fun _ _ => ?_)
  repeat' (first | refine g_pv rfl rfl ?_ | refine g_nil ?_ | refine gq_then ?_ | refine gc_region ?_)
  refine g_heap (R' := R0 ++ [[(mm.1, .map mm.2.1 mm.2.2)], [(b5, .cells ⟨[.int .i64 0, .int .i64 0, .int .i64 (-1), .int .i64 0, .int .u32 0, .int .i64 0, .int .u32 0, .int .i64 0, .int .i64 0, .int .i64 0, .bool false, .slice none 0 0]⟩ 43 (0, 0))], [(b4, .cells ⟨[.int .i64 0, .int .i64 0, .int .i64 0, .int .i64 0, .int .u32 0, .int .i64 0, .int .u32 0, .int .i64 0, .int .i64 0, .int .i64 0, .bool false, .slice none 0 0]⟩ 43 (0, 0))]]) (fun w H => hp_permL H List.perm_append_comm) ?_
  refine g_call1 (A := R0) (F := [[(mm.1, .map mm.2.1 mm.2.2)], [(b5, .cells ⟨[.int .i64 0, .int .i64 0, .int .i64 (-1), .int .i64 0, .int .u32 0, .int .i64 0, .int .u32 0, .int .i64 0, .int .i64 0, .int .i64 0, .bool false, .slice none 0 0]⟩ 43 (0, 0))], [(b4, .cells ⟨[.int .i64 0, .int .i64 0, .int .i64 0, .int .i64 0, .int .u32 0, .int .i64 0, .int .u32 0, .int .i64 0, .int .i64 0, .int .i64 0, .bool false, .slice none 0 0]⟩ 43 (0, 0))]]) rfl rfl (Cl.of Tryz.func114 rfl rfl) rfl rfl (fun w' hE' => rtmp_sp b x.d ([argT x.a, argT x.b]) R0 w' hS.d hS.d1 hR0 (hp_own hE')) rfl (fun R1 hR1 => ?_)
  repeat' (refine g_pv rfl rfl ?_)
  refine g_call1 (A := R1) (F := [[(mm.1, .map mm.2.1 mm.2.2)], [(b5, .cells ⟨[.int .i64 0, .int .i64 0, .int .i64 (-1), .int .i64 0, .int .u32 0, .int .i64 0, .int .u32 0, .int .i64 0, .int .i64 0, .int .i64 0, .bool false, .slice none 0 0]⟩ 43 (0, 0))], [(b4, .cells ⟨[.int .i64 0, .int .i64 0, .int .i64 0, .int .i64 0, .int .u32 0, .int .i64 0, .int .u32 0, .int .i64 0, .int .i64 0, .int .i64 0, .bool false, .slice none 0 0]⟩ 43 (0, 0))]]) rfl rfl (Cl.of Tryz.func115 rfl rfl) rfl rfl (fun w' hE' => rarg_sp' b x.a ([argT x.b]) R1 w' hS.a (ha (by omega)) hR1 (hp_own hE')) rfl (fun R2 hR2 => ?_)
  repeat' (refine g_pv rfl rfl ?_)
  refine g_call1 (A := R2) (F := [[(mm.1, .map mm.2.1 mm.2.2)], [(b5, .cells ⟨[.int .i64 0, .int .i64 0, .int .i64 (-1), .int .i64 0, .int .u32 0, .int .i64 0, .int .u32 0, .int .i64 0, .int .i64 0, .int .i64 0, .bool false, .slice none 0 0]⟩ 43 (0, 0))], [(b4, .cells ⟨[.int .i64 0, .int .i64 0, .int .i64 0, .int .i64 0, .int .u32 0, .int .i64 0, .int .u32 0, .int .i64 0, .int .i64 0, .int .i64 0, .bool false, .slice none 0 0]⟩ 43 (0, 0))]]) rfl rfl (Cl.of Tryz.func115 rfl rfl) rfl rfl (fun w' hE' => rarg_sp' b x.b ([]) R2 w' hS.b (hb (by omega)) hR2 (hp_own hE')) rfl (fun R3 hR3 => ?_)
  refine g_heap (R' := [[(b5, .cells ⟨[.int .i64 0, .int .i64 0, .int .i64 (-1), .int .i64 0, .int .u32 0, .int .i64 0, .int .u32 0, .int .i64 0, .int .i64 0, .int .i64 0, .bool false, .slice none 0 0]⟩ 43 (0, 0))], [(b4, .cells ⟨[.int .i64 0, .int .i64 0, .int .i64 0, .int .i64 0, .int .u32 0, .int .i64 0, .int .u32 0, .int .i64 0, .int .i64 0, .int .i64 0, .bool false, .slice none 0 0]⟩ 43 (0, 0))]] ++ R3) (fun w H => hp_back H) ?_
  repeat' (first | refine g_pv rfl rfl ?_ | refine g_ld 0 rfl rfl rfl rfl rfl rfl ?_ | refine g_nil ?_ | refine gq_then ?_ | refine gc_seq ?_ | refine gc_region ?_ | refine gc_ret ?_ | refine gq_block ?_ | refine g_st 0 rfl rfl rfl rfl rfl rfl rfl ?_ | refine g_st 1 rfl rfl rfl rfl rfl rfl rfl ?_)
  have hargs : x.args = [] := hsh.2 (by omega)
  have hq := hsh.1
  rw [shape2 c2] at hq
  simp [alikeB] at hq
  have hc12 : (insY x none 0).cells = [.int .i64 2, .int .i64 x.bin, .int .i64 x.d, .int .i64 x.a.k, .int .u32 x.a.n, .int .i64 x.b.k, .int .u32 x.b.n, .int .i64 0, .int .i64 0, .int .i64 0, .bool false, .slice none 0 0] := by simp [insY, Ins.cells, c2, hargs, hq]
  refine gq_retC (.inr rfl) rfl rfl 1 rfl rfl rfl rfl rfl (fun w' H => ⟨(none, 0, [], R3), ⟨hR3, by rw [hargs]; exact OwnL.nil _ _ _⟩, ?_, hp_tail (hp_tail H)⟩)
  dsimp only
  rw [hc12]
  rfl
end Go.Proofs.YtpohhfggmaihpaaGreatDoor

/- tac's unhex. -/
namespace Go.Proofs.YtpohhfggmaihpaaGreatDoor
open Go.Wk
set_option linter.unusedVariables false
set_option linter.unusedSimpArgs false
attribute [local irreducible] G GC GQ GA GS Exit.then Exit.inBlock

theorem ibyte_sp (s : ByteArray) (c : Int) (w : World) : Sp Tryz.prog 110 [.string s, .int .u8 c] w [] (fun _ : Unit => .int .i64 (Lib.indexByte s.data.toList c.toNat.toUInt8)) (fun _ => []) (fun _ => True) := by
  refine Calls.mono (Any.strings_IndexByte Tryz.lays137 s c w) ?_
  rintro e w' ⟨he, rfl⟩
  exact ⟨(), trivial, he, Eff.refl _⟩
theorem hd_all : ((List.range 16).all fun d => Lib.indexByte hexd (hd (d : Int)) == (d : Int)) = true := by kernel_rfl
theorem hd_back {d : Int} (h0 : 0 ≤ d) (h1 : d < 16) : Lib.indexByte hexd (((hd d).toNat : Int).toNat.toUInt8) = d := by
  have := List.all_eq_true.1 hd_all d.toNat (List.mem_range.2 (by omega))
  rw [show ((d.toNat : Nat) : Int) = d from by omega] at this
  have h := beq_iff_eq.1 this
  rw [show ((hd d).toNat : Int).toNat.toUInt8 = hd d from by simp]
  exact h
theorem hex2_at {bs : List Int} {k : Nat} {b : Int} (h : bs[k]? = some b) : (bs.flatMap hex2)[2 * k]? = some (hd (b / 16)) ∧ (bs.flatMap hex2)[2 * k + 1]? = some (hd (b % 16)) := by
  induction bs generalizing k with
  | nil => simp at h
  | cons a r ih =>
    rw [List.flatMap_cons]
    cases k with
    | zero => simp only [List.getElem?_cons_zero, Option.some.injEq] at h; subst h; exact ⟨rfl, rfl⟩
    | succ k =>
      rw [List.getElem?_cons_succ] at h
      obtain ⟨h1, h2⟩ := ih h
      have e : hex2 a = [hd (a / 16), hd (a % 16)] := rfl
      rw [e]
      refine ⟨?_, ?_⟩
      · rw [show 2 * (k + 1) = 2 * k + 2 from by omega]; simpa using h1
      · rw [show 2 * (k + 1) + 1 = (2 * k + 1) + 2 from by omega]; simpa using h2
theorem set_mid {bs l : List Int} {k : Nat} {b : Int} (h : bs[k]? = some b) (hl : k < l.length) : (bs.take k ++ l.drop k).set k b = bs.take (k + 1) ++ l.drop (k + 1) := by
  have hk := (List.getElem?_eq_some_iff.1 h).1
  have e : (bs.take k).length = k := by rw [List.length_take]; omega
  rw [List.set_append_right _ _ (by omega), e, Nat.sub_self, List.drop_eq_getElem_cons hl, List.set_cons_zero, List.take_add_one, h]
  simp
theorem byte_back {b : Int} (h : 0 ≤ b ∧ b ≤ 255) : IntKind.u8.wrap (IntKind.i64.wrap (IntKind.i64.wrap (16 * (b / 16)) + b % 16)) = b := by
  rw [IntKind.wrap_i64, IntKind.wrap_i64]
  simp only [IntKind.wrap, IntKind.signed, IntKind.bits]; simp; omega
set_option maxHeartbeats 16000000 in
theorem unhex_sp (bs l : List Int) (v : Value) (A : HL) (w : World) (hb : ∀ b ∈ bs, 0 ≤ b ∧ b ≤ 255) (hl : bs.length ≤ l.length) (hs : l.length ≤ 1099511627776) (ho : OwnL 5 1 fB v l A) (hE : Eff w A w A) :
    Sp Tryz.prog 72 [.string (mkB (bs.flatMap hex2)), v] w A (fun _ : HL => .tuple #[]) (fun A' => [A']) (fun A' => OwnL 5 1 fB v (bs ++ l.drop bs.length) A') := by
  have hsz : (mkB (bs.flatMap hex2)).size = 2 * bs.length := by rw [size_bytesL]; exact hex2_len bs
  obtain ⟨ad, c, rfl, -⟩ := Own.shape ho
  refine enterA (s := Tryz.sx) [A] (by simp) Tryz.func72 rfl rfl rfl hE ?_
  have hm : IntKind.i64.wrap (((2 * bs.length : Nat) : Int).tdiv 2) = (bs.length : Int) := by
    rw [Int.tdiv_eq_ediv_of_nonneg (Int.natCast_nonneg _), IntKind.wrap_i64]; omega
  have hr : (((2 * bs.length : Nat) : Int).tmod 2) = 0 := by rw [Int.tmod_eq_emod_of_nonneg (Int.natCast_nonneg _)]; omega
  refine gc_seq ?_
  repeat' (first | refine g_pv rfl rfl ?_ | refine gc_region ?_)
  refine g_rem rfl rfl (by decide) rfl ?_
  refine g_eq 9 (u' := .int .i64 0) rfl (by rw [hsz, hr]) ?_
  repeat' (first | refine g_pv rfl rfl ?_ | refine g_yes rfl rfl rfl ?_)
  refine g_quo rfl rfl (by decide) rfl ?_
  refine g_eq 14 (u' := .int .i64 bs.length) rfl (by rw [hsz, hm]) ?_
  repeat' (first | refine g_pv rfl rfl ?_ | refine g_yes rfl rfl rfl ?_)
  refine g_eq 18 (u' := .bool true) rfl (congrArg Value.bool (decide_eq_true (by omega))) ?_
  refine g_call rfl (Cl.of Tryz.func71 rfl rfl) rfl rfl (fun w' hE => must_sp w') rfl (fun _ _ => ?_)
  repeat' (first | refine g_nil ?_ | refine gq_then ?_)
  refine gc_seq ?_
  repeat' (first | refine g_pv rfl rfl ?_ | refine gc_region ?_)
  refine g_quo rfl rfl (by decide) rfl ?_
  refine g_eq 22 (u' := .int .i64 bs.length) rfl (by rw [hsz, hm]) ?_
  repeat' (first | refine g_pv rfl rfl ?_ | refine g_nil ?_ | refine gq_then ?_ | refine gc_block ?_)
  refine gc_loop (Y := HL × Nat) (fun y => OwnL 5 1 fB (.slice ad l.length c) (bs.take y.2 ++ l.drop y.2) y.1 ∧ y.2 ≤ bs.length) (fun y => [(0, .string (mkB (bs.flatMap hex2))), (1, .slice ad l.length c), (22, .int .i64 bs.length), (23, .int .i64 y.2)]) (fun y => [y.1])
    (fun y => bs.length - y.2) (A, 0) ⟨by simpa using ho, Nat.zero_le _⟩ ⟨rfl, rfl, rfl, rfl, trivial⟩ (fun w' H => H) ?_
  rintro ⟨A1, k⟩ ⟨ho1, hk⟩
  dsimp only at ho1 hk ⊢
  repeat' (first | refine g_pv rfl rfl ?_ | refine g_nil ?_ | refine gq_then ?_ | refine gc_seq ?_ | refine gc_region ?_)
  refine gc_condC rfl (fun cc => ?_) (fun cc => ?_)
  rotate_left
  · have hge : k = bs.length := by have := of_decide_eq_false cc; omega
    subst hge
    rw [List.take_length] at ho1
    repeat' (first | refine gc_exit ?_ | refine gq_then_exit ?_ | refine gq_block_exit ?_)
    exact gq_ret0 (.inl rfl) rfl rfl (fun w' H => ⟨A1, ho1, rfl, H⟩)
  have hlt := of_decide_lt cc
  have hxk : bs[k]? = some (bs[k]) := List.getElem?_eq_getElem hlt
  have hbk := hb _ (List.mem_of_getElem? hxk)
  have hsm := set_mid (l := l) hxk (by omega)
  have h2 := hex2_at hxk
  generalize bs[k] = x at hxk hbk hsm h2
  have hlen : (bs.take k ++ l.drop k).length = l.length := by rw [List.length_append, List.length_take, List.length_drop]; omega
  repeat' (first | refine g_pv rfl rfl ?_ | refine g_nil ?_ | refine gq_then ?_ | refine gc_seq ?_ | refine gc_region ?_ | refine gc_block ?_ | refine gc_skip ?_)
  refine gc_draw [] [A1] rfl (List.Perm.of_eq rfl) ?_
  (refine aP 0 rfl rfl ?_); (refine aP 1 rfl rfl ?_); (refine aP 2 rfl rfl ?_)
  refine ga_eq 28 (u' := .int .i64 ((2 * k : Nat) : Int)) rfl (congrArg (Value.int .i64) (by rw [IntKind.wrap_i64]; omega)) ?_
  refine aQ 3 rfl (p_idxT rfl rfl rfl (Int.natCast_nonneg _) h2.1) ?_
  (refine aP 5 rfl rfl ?_); (refine aP 6 rfl rfl ?_); (refine aP 7 rfl rfl ?_); (refine aP 8 rfl rfl ?_)
  refine ga_eq 34 (u' := .int .i64 ((2 * k + 1 : Nat) : Int)) rfl (congrArg (Value.int .i64) (by rw [IntKind.wrap_i64, IntKind.wrap_i64]; omega)) ?_
  refine aQ 9 rfl (p_idxT rfl rfl rfl (Int.natCast_nonneg _) h2.2) ?_
  refine aO 4 rfl (fun K hK => ?_)
  refine g_call rfl (Cl.of Tryz.func110 rfl rfl) rfl rfl (fun w' hE => ibyte_sp _ _ w') rfl (fun _ _ => ?_)
  refine g_eq 30 (u' := .int .i64 (x / 16)) rfl (congrArg (Value.int .i64) (hd_back (by omega) (by omega))) ?_
  refine g_nil ?_
  refine hK _ _ ⟨[A1], List.Perm.of_eq rfl⟩ ?_
  refine aO 10 rfl (fun K hK => ?_)
  refine g_call rfl (Cl.of Tryz.func110 rfl rfl) rfl rfl (fun w' hE => ibyte_sp _ _ w') rfl (fun _ _ => ?_)
  refine g_eq 36 (u' := .int .i64 (x % 16)) rfl (congrArg (Value.int .i64) (hd_back (by omega) (by omega))) ?_
  refine g_nil ?_
  refine hK _ _ ⟨[A1], List.Perm.of_eq rfl⟩ ?_
  (refine aP 11 rfl rfl ?_); (refine aP 12 rfl rfl ?_)
  refine ga_nil (by kernel_rfl) ?_
  repeat' (first | refine g_pv rfl rfl ?_ | refine gq_then ?_ | refine gc_seq ?_ | refine gc_region ?_)
  refine g_case (t := 39) rfl (fun h => ?_) (fun h => absurd (of_decide_eq_false h) (by omega))
  repeat' (first | refine g_pv rfl rfl ?_ | refine g_yes rfl rfl rfl ?_)
  refine g_eq 42 (u' := .bool true) rfl (congrArg Value.bool (decide_eq_true (by omega))) ?_
  refine g_call rfl (Cl.of Tryz.func71 rfl rfl) rfl rfl (fun w' hE => must_sp w') rfl (fun _ _ => ?_)
  repeat' (first | refine g_pv rfl rfl ?_ | refine g_nil ?_ | refine gq_then ?_ | refine gc_region ?_)
  refine g_eq 50 (u' := .int .u8 x) rfl (congrArg (Value.int .u8) (byte_back hbk)) ?_
  refine g_setL 0 (q := x) rfl rfl (show OwnL 5 1 fB (.slice ad l.length c) (bs.take k ++ l.drop k) A1 from ho1) (fun _ => rfl) rfl rfl rfl rfl (Int.natCast_nonneg k) (by rw [hlen]; omega) rfl rfl rfl rfl rfl (fun a A2 ho2 => ?_)
  have ho2 : OwnL 5 1 fB (.slice ad l.length c) (bs.take (k + 1) ++ l.drop (k + 1)) A2 := by rw [← hsm]; exact ho2
  repeat' (first | refine g_pv rfl rfl ?_ | refine g_nil ?_ | refine gq_then ?_ | refine gc_region ?_ | refine gq_block ?_)
  exact gq_again (A2, k + 1) ⟨ho2, hlt⟩ (by dsimp only; omega) ⟨rfl, rfl, rfl, inc_eq (by omega), trivial⟩ (fun w' H => H)
end Go.Proofs.YtpohhfggmaihpaaGreatDoor

/- Programs without their addresses: what Check says of them. -/
namespace Go.Proofs.YtpohhfggmaihpaaGreatDoor
open Go.Wk
set_option linter.unusedVariables false
set_option linter.unusedSimpArgs false
attribute [local irreducible] G GC GQ GA GS Exit.then Exit.inBlock

def Ins.er (x : Ins) : Ins := { x with aA := none, aC := 0 }
def Fn.er (f : Fn) : Fn := { f with sA := none, sC := 0, code := f.code.map Ins.er, cA := none, cC := 0 }
def Ob.er (o : Ob) : Ob := { o with bA := none, bC := 0, rA := none, rC := 0 }
def Pr.er (p : Pr) : Pr := { p with obs := p.obs.map Ob.er, oA := none, oC := 0, fns := p.fns.map Fn.er, fA := none, fC := 0 }
theorem len_er {α β : Type} (e : α → β) (l : List α) : (l.map e).length = l.length := List.length_map e
theorem okI_er (nb : Bool) (p : Pr) (f : Fn) (x : Ins) : okI nb ⟨p.er, f.er⟩ x.er = okI nb ⟨p, f⟩ x := by
  unfold okI
  simp only [Pr.er, Fn.er, Ins.er, len_er, List.getElem?_map]
  cases p.obs[x.n.toNat]? <;> cases p.fns[x.n.toNat]? <;> rfl
theorem rightB_er (nb : Bool) (p : Pr) (f : Fn) (x : Ins) : rightB nb ⟨p.er, f.er⟩ x.er = rightB nb ⟨p, f⟩ x := by
  unfold rightB
  rw [okI_er]
  rfl
theorem lastB_er (f : Fn) : lastB f.er = lastB f := by
  unfold lastB
  simp only [Fn.er, len_er, List.getElem?_map]
  cases f.code[f.code.length - 1]? <;> rfl
theorem all_er {α β : Type} (e : α → β) (g : β → Bool) (h : α → Bool) (l : List α) (H : ∀ x, g (e x) = h x) : (l.map e).all g = l.all h := by
  rw [List.all_map]; congr 1; funext x; exact H x
theorem funcB_er (p : Pr) (f : Fn) : funcB ⟨p.er, f.er⟩ = funcB ⟨p, f⟩ := by
  unfold funcB
  dsimp only
  rw [lastB_er, show f.er.code.all (rightB true ⟨p.er, f.er⟩) = f.code.all (rightB true ⟨p, f⟩) from all_er _ _ _ _ (rightB_er true p f), show f.er.code.length = f.code.length from len_er _ _]
  rfl
theorem relB_er (p : Pr) (f g : Fn) (o : Ob) (fr : Int) (r : Rel) : relB ⟨p.er, f⟩ o.er fr r = relB ⟨p, g⟩ o fr r := by
  unfold relB
  simp only [Pr.er, Ob.er, len_er, List.getElem?_map]
  cases p.obs[r.gl.toNat]? <;> rfl
theorem relsB_er (p : Pr) (f g : Fn) (o : Ob) : ∀ (l : List Rel) (fr : Int), relsB ⟨p.er, f⟩ o.er fr l = relsB ⟨p, g⟩ o fr l
  | [], _ => rfl
  | r :: t, fr => by simp only [relsB]; rw [relB_er p f g, relsB_er p f g o t]
theorem objB_er (p : Pr) (f g : Fn) (o : Ob) : objB ⟨p.er, f⟩ o.er = objB ⟨p, g⟩ o := by
  unfold objB
  rw [show o.er.rels = o.rels from rfl, relsB_er p f g]
  rfl
theorem fnsB_er (p : Pr) : ∀ (l : List Fn) (s : List ByteArray), fnsB p.er s (l.map Fn.er) = fnsB p s l
  | [], _ => rfl
  | f :: t, s => by
    rw [List.map_cons, fnsB_cons, fnsB_cons, funcB_er, fnsB_er p t]
    rfl
theorem mainB_er (p : Pr) : mainB p.er = mainB p := by
  unfold mainB
  simp only [Pr.er, List.getElem?_map]
  cases p.fns[p.main.toNat]? <;> rfl
theorem checkB_er (p : Pr) : checkB p.er = checkB p := by
  unfold checkB
  rw [mainB_er, show p.er.obs.all (objB ⟨p.er, fn0⟩) = p.obs.all (objB ⟨p, fn0⟩) from all_er _ _ _ _ (objB_er p fn0 fn0), show fnsB p.er [] p.er.fns = fnsB p [] p.fns from fnsB_er p p.fns [],
    show p.er.obs.length = p.obs.length from len_er _ _, show p.er.fns.length = p.fns.length from len_er _ _]
  rfl
theorem checkB_same {p q : Pr} (h : q.er = p.er) : checkB q = checkB p := by rw [← checkB_er q, h, checkB_er]
end Go.Proofs.YtpohhfggmaihpaaGreatDoor

/- A program read line by line: what each line does to it. -/
namespace Go.Proofs.YtpohhfggmaihpaaGreatDoor
open Go.Wk
set_option linter.unusedVariables false
set_option linter.unusedSimpArgs false
attribute [local irreducible] G GC GQ GA GS Exit.then Exit.inBlock

inductive Ln where
  | ob (nm : ByteArray) (size align : Int)
  | da (bs : List Int)
  | re (r : Rel)
  | fu (nm : ByteArray) (pa te : Int) (gi : Bool)
  | ma (n : Int)
  | sl (s : Slt)
  | ins (x : Ins)
def Ln.words : Ln → List Bs
  | .ob nm size align => [k_object, bytesL nm, Lib.itoa size, Lib.itoa align]
  | .da bs => [k_data, bs.flatMap hex2]
  | .re r => relW r
  | .fu nm pa te gi => [k_func, bytesL nm, Lib.itoa pa, Lib.itoa te] ++ (if gi then [k_gives] else [])
  | .ma n => [k_main, Lib.itoa n]
  | .sl s => slotW s
  | .ins x => insW x
def modL {α : Type} (f : α → α) (l : List α) : List α := l.dropLast ++ (l.getLast?.map f).toList
theorem modL_snoc {α : Type} (f : α → α) (l : List α) (x : α) : modL f (l ++ [x]) = l ++ [f x] := by simp [modL]
def Ln.app : Ln → Pr → Pr
  | .ob nm size align, p => { p with obs := p.obs ++ [⟨nm, size, align, List.replicate size.toNat 0, none, 0, [], none, 0⟩] }
  | .da bs, p => { p with obs := modL (fun o => { o with bytes := bs ++ o.bytes.drop bs.length }) p.obs }
  | .re r, p => { p with obs := modL (fun o => { o with rels := o.rels ++ [r] }) p.obs }
  | .fu nm pa te gi, p => { p with fns := p.fns ++ [⟨nm, pa, te, gi, [], none, 0, [], none, 0⟩] }
  | .ma n, p => { p with main := n }
  | .sl s, p => { p with fns := modL (fun f => { f with slots := f.slots ++ [s] }) p.fns }
  | .ins x, p => { p with fns := modL (fun f => { f with code := f.code ++ [x.er] }) p.fns }
def obL (o : Ob) : List Ln := [.ob o.nm o.size o.align] ++ (if trimZ o.bytes = [] then [] else [.da (trimZ o.bytes)]) ++ o.rels.map .re
def fnL (f : Fn) : List Ln := [.fu f.nm f.pa f.te f.gi] ++ f.slots.map .sl ++ f.code.map .ins
def prL (p : Pr) : List Ln := p.obs.flatMap obL ++ p.fns.flatMap fnL ++ [.ma p.main]
theorem obL_words (o : Ob) : (obL o).map Ln.words = obW o := by
  unfold obL obW obD
  rw [List.map_append, List.map_append, List.map_map]
  congr 1
  congr 1
  by_cases h : trimZ o.bytes = []
  · rw [if_pos h, if_pos ((hexB_nil _).2 h)]; rfl
  · rw [if_neg h, if_neg (fun e => h ((hexB_nil _).1 e))]; rfl
theorem fnL_words (f : Fn) : (fnL f).map Ln.words = fnW f := by
  unfold fnL fnW
  rw [List.map_append, List.map_append, List.map_map, List.map_map]; rfl
theorem prL_words (p : Pr) : (prL p).map Ln.words = prW p := by
  unfold prL prW
  rw [List.map_append, List.map_append, List.map_flatMap, List.map_flatMap]
  congr 1
  congr 1
  · exact flatMap_eq (fun o _ => obL_words o)
  · exact flatMap_eq (fun f _ => fnL_words f)
def rd (l : List Ln) (p : Pr) : Pr := l.foldl (fun p ℓ => ℓ.app p) p
theorem rd_app (l m : List Ln) (p : Pr) : rd (l ++ m) p = rd m (rd l p) := List.foldl_append
def pr0 : Pr := ⟨[], none, 0, [], none, 0, 0⟩
theorem rd_rels (pre : List Ob) (o : Ob) (p : Pr) : ∀ (l : List Rel), p.obs = pre ++ [o] → rd (l.map .re) p = { p with obs := pre ++ [{ o with rels := o.rels ++ l }] }
  | [], h => by
    show p = _
    cases p; simp only at h; subst h; simp
  | r :: t, h => by
    show rd (t.map .re) (Ln.app (.re r) p) = _
    have e : (Ln.app (.re r) p).obs = pre ++ [{ o with rels := o.rels ++ [r] }] := by simp only [Ln.app]; rw [h, modL_snoc]
    rw [rd_rels pre _ _ t e]
    simp [Ln.app]
theorem rd_slots (pre : List Fn) (f : Fn) (p : Pr) : ∀ (l : List Slt), p.fns = pre ++ [f] → rd (l.map .sl) p = { p with fns := pre ++ [{ f with slots := f.slots ++ l }] }
  | [], h => by
    show p = _
    cases p; simp only at h; subst h; simp
  | r :: t, h => by
    show rd (t.map .sl) (Ln.app (.sl r) p) = _
    have e : (Ln.app (.sl r) p).fns = pre ++ [{ f with slots := f.slots ++ [r] }] := by simp only [Ln.app]; rw [h, modL_snoc]
    rw [rd_slots pre _ _ t e]
    simp [Ln.app]
theorem rd_code (pre : List Fn) (f : Fn) (p : Pr) : ∀ (l : List Ins), p.fns = pre ++ [f] → rd (l.map .ins) p = { p with fns := pre ++ [{ f with code := f.code ++ l.map Ins.er }] }
  | [], h => by
    show p = _
    cases p; simp only at h; subst h; simp
  | r :: t, h => by
    show rd (t.map .ins) (Ln.app (.ins r) p) = _
    have e : (Ln.app (.ins r) p).fns = pre ++ [{ f with code := f.code ++ [r.er] }] := by simp only [Ln.app]; rw [h, modL_snoc]
    rw [rd_code pre _ _ t e]
    simp [Ln.app]
theorem trimZ_zeros (l : List Int) : trimZ l ++ List.replicate (l.length - (trimZ l).length) 0 = l := by
  have h : ∀ m : List Int, m = List.replicate (m.length - (m.dropWhile (· == 0)).length) 0 ++ m.dropWhile (· == 0) := fun m => by
    induction m with
    | nil => rfl
    | cons a r ih =>
      by_cases ha : a = 0
      · subst ha
        have e : (0 :: r).dropWhile (· == 0) = r.dropWhile (· == 0) := by simp
        rw [e, List.length_cons]
        have := (List.dropWhile_sublist (· == 0) (l := r)).length_le
        rw [show r.length + 1 - (r.dropWhile (· == 0)).length = (r.length - (r.dropWhile (· == 0)).length) + 1 from by omega, List.replicate_succ, List.cons_append, ← ih]
      · have e : (a :: r).dropWhile (· == 0) = a :: r := by simp [ha]
        rw [e]; simp
  have h1 := congrArg List.reverse (h l.reverse)
  rw [List.reverse_append, List.reverse_reverse, List.reverse_replicate] at h1
  have h2 : l.length - (trimZ l).length = l.reverse.length - (l.reverse.dropWhile (· == 0)).length := by unfold trimZ; simp
  rw [h2]; exact h1.symm
theorem rd_obj (o : Ob) (p : Pr) (hs : (o.bytes.length : Int) = o.size) : rd (obL o) p = { p with obs := p.obs ++ [o.er] } := by
  unfold obL
  rw [rd_app, rd_app]
  have hsz : o.size.toNat = o.bytes.length := by omega
  have hz := trimZ_zeros o.bytes
  have hl := trimZ_len o.bytes
  have e1 : rd [.ob o.nm o.size o.align] p = { p with obs := p.obs ++ [⟨o.nm, o.size, o.align, List.replicate o.bytes.length 0, none, 0, [], none, 0⟩] } := by simp [rd, Ln.app, hsz]
  rw [e1]
  have e2 : rd (if trimZ o.bytes = [] then [] else [.da (trimZ o.bytes)]) { p with obs := p.obs ++ [⟨o.nm, o.size, o.align, List.replicate o.bytes.length 0, none, 0, [], none, 0⟩] } = { p with obs := p.obs ++ [⟨o.nm, o.size, o.align, o.bytes, none, 0, [], none, 0⟩] } := by
    split
    · rename_i h
      rw [h] at hz
      simp only [List.nil_append, List.length_nil, Nat.sub_zero] at hz
      show ({ p with obs := _ } : Pr) = _
      rw [hz]
    · simp only [rd, List.foldl_cons, List.foldl_nil, Ln.app, modL_snoc]
      rw [List.drop_replicate, hz]
  rw [e2, rd_rels p.obs _ _ o.rels rfl]
  simp [Ob.er]
theorem rd_fn (f : Fn) (p : Pr) : rd (fnL f) p = { p with fns := p.fns ++ [f.er] } := by
  unfold fnL
  rw [rd_app, rd_app]
  have e1 : rd [.fu f.nm f.pa f.te f.gi] p = { p with fns := p.fns ++ [⟨f.nm, f.pa, f.te, f.gi, [], none, 0, [], none, 0⟩] } := by simp [rd, Ln.app]
  rw [e1, rd_slots p.fns _ _ f.slots rfl, rd_code p.fns _ _ f.code rfl]
  simp [Fn.er]
theorem rd_objs : ∀ (l : List Ob) (p : Pr), (∀ o ∈ l, (o.bytes.length : Int) = o.size) → rd (l.flatMap obL) p = { p with obs := p.obs ++ l.map Ob.er }
  | [], p, _ => by cases p; simp [rd]
  | o :: t, p, h => by
    rw [List.flatMap_cons, rd_app, rd_obj o p (h o List.mem_cons_self), rd_objs t _ (fun x hx => h x (List.mem_cons_of_mem _ hx))]
    simp
theorem rd_fns : ∀ (l : List Fn) (p : Pr), rd (l.flatMap fnL) p = { p with fns := p.fns ++ l.map Fn.er }
  | [], p => by cases p; simp [rd]
  | f :: t, p => by
    rw [List.flatMap_cons, rd_app, rd_fn f p, rd_fns t _]
    simp
/-- What was written is read again. -/
theorem rd_all (p : Pr) (h : ∀ o ∈ p.obs, (o.bytes.length : Int) = o.size) : rd (prL p) pr0 = p.er := by
  unfold prL
  rw [rd_app, rd_app, rd_objs _ _ h, rd_fns]
  simp [rd, Ln.app, pr0, Pr.er]
end Go.Proofs.YtpohhfggmaihpaaGreatDoor

/- What a walk knows, less. -/
namespace Go.Wk
set_option linter.unusedVariables false
set_option linter.unusedSimpArgs false
theorem gq_sub {X : Cx} {Q : Post} {e : Exit} {L L' : LT} {R : RL} (h : subL L L') (k : GQ X Q e L' R) : GQ X Q e L R := fun a w ha hE => k a w ⟨ha.size, ha.defers, subL.kn ha.kn h⟩ hE
theorem gq_hp {X : Cx} {Q : Post} {e : Exit} {L : LT} {R R' : RL} (h : ∀ w, Hp X w R → Hp X w R') (k : GQ X Q e L R') : GQ X Q e L R := fun a w ha hE => k a w ha (h w hE)
end Go.Wk
