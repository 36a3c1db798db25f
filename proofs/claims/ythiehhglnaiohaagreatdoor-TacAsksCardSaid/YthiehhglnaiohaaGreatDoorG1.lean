/-
  Next where there is no instruction.
-/
import Derived.Test.YthiehhglnaiohaaGreatDoorF5
namespace Go.Proofs.YthiehhglnaiohaaGreatDoor
open Go.Wk
set_option linter.unusedVariables false
set_option linter.unusedSimpArgs false
attribute [local irreducible] G GC GQ GA GS Exit.then Exit.inBlock

theorem next_out (l : Nat) (i : Int) (ad : Option Addr) (cap : Nat) (w : World) (hi : ¬ (0 ≤ i ∧ i < l)) :
    Sp Tryz.prog 17 [.slice ad l cap, .int .i64 i] w [] (fun y : Value × HL => y.1) (fun y => [y.2]) (fun y => OwnI y.1 [] y.2) := by
  refine enter (s := Tryz.sx) [] Tryz.func17 rfl rfl rfl (Eff.refl w) ?_
  refine gc_seq ?_
  repeat' (first | refine g_pv rfl rfl ?_ | refine g_ld 0 rfl rfl rfl rfl rfl rfl ?_ | refine g_ld 1 rfl rfl rfl rfl rfl rfl ?_ | refine g_ld 2 rfl rfl rfl rfl rfl rfl ?_ | refine g_ld 3 rfl rfl rfl rfl rfl rfl ?_ | refine g_ld 4 rfl rfl rfl rfl rfl rfl ?_ | refine g_nil ?_ | refine gq_then ?_ | refine gc_region ?_ | refine gc_block ?_ | refine gc_cond_t rfl ?_ | refine gc_cond_f rfl ?_ | refine gc_skip ?_ | refine gc_exit ?_ | refine gc_ret ?_ | refine gq_then_exit ?_ | refine gq_then_ret ?_ | refine gq_block ?_ | refine gq_block_ret ?_ | refine gq_block_exit ?_ | refine gq_block_exit' rfl ?_ | refine g_yes rfl rfl rfl ?_ | refine g_no rfl rfl rfl rfl rfl ?_ | refine g_box rfl rfl (fun _ => ?_) | refine g_alloc rfl rfl (fun _ => ?_) | refine g_st 0 rfl rfl rfl rfl rfl rfl rfl ?_ | refine g_st 1 rfl rfl rfl rfl rfl rfl rfl ?_ | refine g_st 2 rfl rfl rfl rfl rfl rfl rfl ?_ | refine g_st 3 rfl rfl rfl rfl rfl rfl rfl ?_)
  rename_i b2
  refine gc_seq ?_
  refine gc_seq ?_
  repeat' (first | refine g_pv rfl rfl ?_ | refine g_ld 0 rfl rfl rfl rfl rfl rfl ?_ | refine g_ld 1 rfl rfl rfl rfl rfl rfl ?_ | refine g_ld 2 rfl rfl rfl rfl rfl rfl ?_ | refine g_ld 3 rfl rfl rfl rfl rfl rfl ?_ | refine g_ld 4 rfl rfl rfl rfl rfl rfl ?_ | refine g_nil ?_ | refine gq_then ?_ | refine gc_region ?_ | refine gc_block ?_ | refine gc_cond_t rfl ?_ | refine gc_cond_f rfl ?_ | refine gc_skip ?_ | refine gc_exit ?_ | refine gc_ret ?_ | refine gq_then_exit ?_ | refine gq_then_ret ?_ | refine gq_block ?_ | refine gq_block_ret ?_ | refine gq_block_exit ?_ | refine gq_block_exit' rfl ?_ | refine g_yes rfl rfl rfl ?_ | refine g_no rfl rfl rfl rfl rfl ?_ | refine g_box rfl rfl (fun _ => ?_) | refine g_alloc rfl rfl (fun _ => ?_) | refine g_st 0 rfl rfl rfl rfl rfl rfl rfl ?_ | refine g_st 1 rfl rfl rfl rfl rfl rfl rfl ?_ | refine g_st 2 rfl rfl rfl rfl rfl rfl rfl ?_ | refine g_st 3 rfl rfl rfl rfl rfl rfl rfl ?_)
  refine g_call rfl (Cl.of Tryz.func42 rfl rfl) rfl rfl (fun w hE => within_sp _ _ w) rfl (fun y hy => ?_)
  rw [show (decide ((0 : Int) ≤ i) && decide (i < (l : Int))) = false from by
    rw [Bool.and_eq_false_iff, decide_eq_false_iff_not, decide_eq_false_iff_not]; omega]
  repeat' (first | refine g_pv rfl rfl ?_ | refine g_ld 0 rfl rfl rfl rfl rfl rfl ?_ | refine g_ld 1 rfl rfl rfl rfl rfl rfl ?_ | refine g_ld 2 rfl rfl rfl rfl rfl rfl ?_ | refine g_ld 3 rfl rfl rfl rfl rfl rfl ?_ | refine g_ld 4 rfl rfl rfl rfl rfl rfl ?_ | refine g_nil ?_ | refine gq_then ?_ | refine gc_seq ?_ | refine gc_region ?_ | refine gc_block ?_ | refine gc_cond_t rfl ?_ | refine gc_cond_f rfl ?_ | refine gc_skip ?_ | refine gc_exit ?_ | refine gc_ret ?_ | refine gq_then_exit ?_ | refine gq_then_ret ?_ | refine gq_block ?_ | refine gq_block_ret ?_ | refine gq_block_exit ?_ | refine gq_block_exit' rfl ?_ | refine g_yes rfl rfl rfl ?_ | refine g_no rfl rfl rfl rfl rfl ?_ | refine g_box rfl rfl (fun _ => ?_) | refine g_alloc rfl rfl (fun _ => ?_) | refine g_st 0 rfl rfl rfl rfl rfl rfl rfl ?_ | refine g_st 1 rfl rfl rfl rfl rfl rfl rfl ?_ | refine g_st 2 rfl rfl rfl rfl rfl rfl rfl ?_ | refine g_st 3 rfl rfl rfl rfl rfl rfl rfl ?_)
  exact gq_ret1 (.inr rfl) rfl rfl rfl (fun w' H => ⟨(.slice none 0 0, []), OwnL.nil 3 1 fI, rfl, hp_perm (hp_nil H) (by simp)⟩)

theorem rnext_out (l : Nat) (i : Int) (ad : Option Addr) (cap : Nat) (w : World) (hl : l ≤ 1256584718000) (hi : ¬ (0 ≤ i ∧ i < l)) :
    Sp Tryz.prog 26 [.slice ad l cap, .int .i64 i] w [] (fun y : Value × HL => y.1) (fun y => [y.2]) (fun y => OwnI y.1 [] y.2) := by
  refine enter (s := Tryz.sx) [] Tryz.func26 rfl rfl rfl (Eff.refl w) ?_
  refine gc_seq ?_
  repeat' (first | refine g_pv rfl rfl ?_ | refine g_ld 0 rfl rfl rfl rfl rfl rfl ?_ | refine g_ld 1 rfl rfl rfl rfl rfl rfl ?_ | refine g_ld 2 rfl rfl rfl rfl rfl rfl ?_ | refine g_ld 3 rfl rfl rfl rfl rfl rfl ?_ | refine g_ld 4 rfl rfl rfl rfl rfl rfl ?_ | refine g_nil ?_ | refine gq_then ?_ | refine gc_region ?_ | refine gc_block ?_ | refine gc_cond_t rfl ?_ | refine gc_cond_f rfl ?_ | refine gc_skip ?_ | refine gc_exit ?_ | refine gc_ret ?_ | refine gq_then_exit ?_ | refine gq_then_ret ?_ | refine gq_block ?_ | refine gq_block_ret ?_ | refine gq_block_exit ?_ | refine gq_block_exit' rfl ?_ | refine g_yes rfl rfl rfl ?_ | refine g_no rfl rfl rfl rfl rfl ?_ | refine g_box rfl rfl (fun _ => ?_) | refine g_alloc rfl rfl (fun _ => ?_) | refine g_st 0 rfl rfl rfl rfl rfl rfl rfl ?_ | refine g_st 1 rfl rfl rfl rfl rfl rfl rfl ?_ | refine g_st 2 rfl rfl rfl rfl rfl rfl rfl ?_ | refine g_st 3 rfl rfl rfl rfl rfl rfl rfl ?_)
  refine gc_seq ?_
  refine gc_seq ?_
  repeat' (first | refine g_pv rfl rfl ?_ | refine g_ld 0 rfl rfl rfl rfl rfl rfl ?_ | refine g_ld 1 rfl rfl rfl rfl rfl rfl ?_ | refine g_ld 2 rfl rfl rfl rfl rfl rfl ?_ | refine g_ld 3 rfl rfl rfl rfl rfl rfl ?_ | refine g_ld 4 rfl rfl rfl rfl rfl rfl ?_ | refine g_nil ?_ | refine gq_then ?_ | refine gc_region ?_ | refine gc_block ?_ | refine gc_cond_t rfl ?_ | refine gc_cond_f rfl ?_ | refine gc_skip ?_ | refine gc_exit ?_ | refine gc_ret ?_ | refine gq_then_exit ?_ | refine gq_then_ret ?_ | refine gq_block ?_ | refine gq_block_ret ?_ | refine gq_block_exit ?_ | refine gq_block_exit' rfl ?_ | refine g_yes rfl rfl rfl ?_ | refine g_no rfl rfl rfl rfl rfl ?_ | refine g_box rfl rfl (fun _ => ?_) | refine g_alloc rfl rfl (fun _ => ?_) | refine g_st 0 rfl rfl rfl rfl rfl rfl rfl ?_ | refine g_st 1 rfl rfl rfl rfl rfl rfl rfl ?_ | refine g_st 2 rfl rfl rfl rfl rfl rfl rfl ?_ | refine g_st 3 rfl rfl rfl rfl rfl rfl rfl ?_)
  rw [show IntKind.i64.wrap ((l : Int) - 1) = (l : Int) - 1 from by rw [IntKind.wrap_i64]; omega]
  refine g_call rfl (Cl.of Tryz.func49 rfl rfl) rfl rfl (fun w hE => rwithin_sp _ _ _ w) rfl (fun y hy => ?_)
  rw [show (decide ((0 : Int) ≤ i) && decide (i ≤ (l : Int) - 1)) = false from by
    rw [Bool.and_eq_false_iff, decide_eq_false_iff_not, decide_eq_false_iff_not]; omega]
  repeat' (first | refine g_pv rfl rfl ?_ | refine g_ld 0 rfl rfl rfl rfl rfl rfl ?_ | refine g_ld 1 rfl rfl rfl rfl rfl rfl ?_ | refine g_ld 2 rfl rfl rfl rfl rfl rfl ?_ | refine g_ld 3 rfl rfl rfl rfl rfl rfl ?_ | refine g_ld 4 rfl rfl rfl rfl rfl rfl ?_ | refine g_nil ?_ | refine gq_then ?_ | refine gc_seq ?_ | refine gc_region ?_ | refine gc_block ?_ | refine gc_cond_t rfl ?_ | refine gc_cond_f rfl ?_ | refine gc_skip ?_ | refine gc_exit ?_ | refine gc_ret ?_ | refine gq_then_exit ?_ | refine gq_then_ret ?_ | refine gq_block ?_ | refine gq_block_ret ?_ | refine gq_block_exit ?_ | refine gq_block_exit' rfl ?_ | refine g_yes rfl rfl rfl ?_ | refine g_no rfl rfl rfl rfl rfl ?_ | refine g_box rfl rfl (fun _ => ?_) | refine g_alloc rfl rfl (fun _ => ?_) | refine g_st 0 rfl rfl rfl rfl rfl rfl rfl ?_ | refine g_st 1 rfl rfl rfl rfl rfl rfl rfl ?_ | refine g_st 2 rfl rfl rfl rfl rfl rfl rfl ?_ | refine g_st 3 rfl rfl rfl rfl rfl rfl rfl ?_)
  exact gq_ret1 (.inr rfl) rfl rfl rfl (fun w' H => ⟨(.slice none 0 0, []), OwnL.nil 3 1 fI, rfl, hp_perm (hp_nil H) (by simp)⟩)
theorem OwnI.small {v : Value} {l : List Int} {A : HL} (h : OwnI v l A) : l.length < 9223372036854775808 := by
  rcases h.own with ⟨-, rfl, -⟩ | ⟨g, cap, rest, -, -, h1, h2, -⟩
  · decide
  · unfold maxLen at h2; omega
/-- What Next answers anywhere. -/
def nextAt (l : List Ins) (i : Int) : List Int := if h : 0 ≤ i ∧ i < l.length then nextL l.length (l[i.toNat]'(by omega)) i else []
theorem nextAny_sp (l : List Ins) (i : Int) (ad : Option Addr) (cap : Nat) (w : World) (hc : CodeIn (hw w) ad l) :
    Sp Tryz.prog 17 [.slice ad l.length cap, .int .i64 i] w [] (fun y : Value × HL => y.1) (fun y => [y.2]) (fun y => OwnI y.1 (nextAt l i) y.2) := by
  unfold nextAt
  split
  · rename_i h
    have := next_sp l i.toNat ad cap w hc (by omega)
    rwa [Int.toNat_of_nonneg h.1] at this
  · rename_i h; exact next_out l.length i ad cap w h
theorem rnextAny_sp (l : List Ins) (i : Int) (ad : Option Addr) (cap : Nat) (w : World) (hc : CodeIn (hw w) ad l) :
    Sp Tryz.prog 26 [.slice ad l.length cap, .int .i64 i] w [] (fun y : Value × HL => y.1) (fun y => [y.2]) (fun y => OwnI y.1 (nextAt l i) y.2) := by
  unfold nextAt
  split
  · rename_i h
    have := rnext_sp l i.toNat ad cap w hc (by omega)
    rwa [Int.toNat_of_nonneg h.1] at this
  · rename_i h; exact rnext_out l.length i ad cap w hc.len h
end Go.Proofs.YthiehhglnaiohaaGreatDoor
