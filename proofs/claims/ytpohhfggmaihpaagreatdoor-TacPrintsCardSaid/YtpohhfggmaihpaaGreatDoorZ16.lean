/-
  The document's object.
  The document's function.
  The document's Check.
  The document's Print; the law TacPrints.
  TacPrints: PROVED FOR EVERY INPUT: the call returns true, and its argument reads as it read; over worlds whose listed tables read as the program lays them.
-/
import Derived.Test.YtpohhfggmaihpaaGreatDoorZ15
import Derived.Test.YtpohhfggmaihpaaGreatDoorZ10
import Derived.Test.YtpohhfggmaihpaaGreatDoorZ7

/- The document's object. -/
namespace Go.Proofs.YtpohhfggmaihpaaGreatDoor
open Go.Wk
set_option linter.unusedVariables false
set_option linter.unusedSimpArgs false
attribute [local irreducible] G GC GQ GA GS Exit.then Exit.inBlock

theorem foldMax_zero : ∀ (l : List Int) (a : Int), 0 ≤ a → (∀ x ∈ l, 0 ≤ x) → (l.foldl (fun m x => if x > m then x else m) a == 0) = (a == 0 && l.all (· == 0))
  | [], a, _, _ => by simp
  | x :: r, a, ha, hl => by
    have hx := hl x List.mem_cons_self
    rw [List.foldl_cons, foldMax_zero r _ (by split <;> assumption) (fun y hy => hl y (List.mem_cons_of_mem _ hy)), List.all_cons, ← Bool.and_assoc]
    congr 1
    by_cases h : x > a
    · rw [if_pos h, beq_eq_false_iff_ne.2 (show x ≠ 0 by omega)]; simp
    · rw [if_neg h]
      by_cases h0 : a = 0
      · have : x = 0 := by omega
        subst h0; subst this; rfl
      · rw [beq_eq_false_iff_ne.2 h0]; rfl
theorem maxL_zero {l : List Int} (h : ∀ x ∈ l, 0 ≤ x) : (maxL l == 0) = l.all (· == 0) := by
  cases l with
  | nil => rfl
  | cons a r => exact foldMax_zero r a (h a List.mem_cons_self) (fun x hx => h x (List.mem_cons_of_mem _ hx))
set_option maxHeartbeats 16000000 in
theorem robject_sp (p : Pr) (fn : Fn) (o : Ob) (w : World) (hp : PrIn (hw w) p) (ho : ObIn (hw w) o) : Sp Tryz.prog 31 [p.val, o.val] w [] (fun b : Bool => .bool b) (fun _ => []) (fun b => b = objB ⟨p, fn⟩ o) := by
  have holen := hp.olen
  refine enter (s := Tryz.sx) [] Tryz.func31 rfl rfl rfl (Eff.refl w) ?_
  repeat' (first | refine g_pv rfl rfl ?_ | refine g_ld 0 rfl rfl rfl rfl rfl rfl ?_ | refine g_nil ?_ | refine gq_then ?_ | refine gc_seq ?_ | refine gc_region ?_ | refine g_box rfl rfl (fun _ => ?_))
  rename_i b2 b3
  refine g_call rfl (Cl.of Tryz.func52 rfl rfl) rfl rfl (fun w' hE => rtag_sp o.nm w') rfl ?_
  rintro t1 ht1
  repeat' (refine g_pv rfl rfl ?_)
  cases t1
  · repeat' (first | refine g_pv rfl rfl ?_ | refine g_nil ?_ | refine gq_then ?_ | refine gc_seq ?_ | refine gc_region ?_ | refine gc_cond_t rfl ?_ | refine gc_ret ?_ | refine gq_then_ret ?_ | refine g_no rfl rfl rfl rfl rfl ?_)
    refine gq_ret1 (.inr rfl) rfl rfl rfl (fun w' H => ⟨false, ?_, rfl, hp_nil H⟩)
    unfold objB; rw [← ht1]; rfl
  repeat' (first | refine g_pv rfl rfl ?_ | refine g_ld 0 rfl rfl rfl rfl rfl rfl ?_ | refine g_yes rfl rfl rfl ?_)
  refine g_case (t := 18) rfl (fun h1 => ?_) (fun h1 => ?_)
  · have h1 : decide (o.size < 1) = true := h1
    repeat' (first | refine g_pv rfl rfl ?_ | refine g_nil ?_ | refine gq_then ?_ | refine gc_seq ?_ | refine gc_region ?_ | refine gc_cond_t rfl ?_ | refine gc_ret ?_ | refine gq_then_ret ?_ | refine g_no rfl rfl rfl rfl rfl ?_)
    refine gq_ret1 (.inr rfl) rfl rfl rfl (fun w' H => ⟨false, ?_, rfl, hp_nil H⟩)
    unfold objB; rw [← ht1, h1]; rfl
  have h1 : decide (o.size < 1) = false := h1
  repeat' (first | refine g_pv rfl rfl ?_ | refine g_ld 0 rfl rfl rfl rfl rfl rfl ?_ | refine g_yes rfl rfl rfl ?_)
  refine g_case (t := 23) rfl (fun h2 => ?_) (fun h2 => ?_)
  · have h2 : decide (o.size > 16384) = true := h2
    repeat' (first | refine g_pv rfl rfl ?_ | refine g_nil ?_ | refine gq_then ?_ | refine gc_seq ?_ | refine gc_region ?_ | refine gc_cond_t rfl ?_ | refine gc_ret ?_ | refine gq_then_ret ?_ | refine g_no rfl rfl rfl rfl rfl ?_)
    refine gq_ret1 (.inr rfl) rfl rfl rfl (fun w' H => ⟨false, ?_, rfl, hp_nil H⟩)
    unfold objB; rw [← ht1, h1, h2]; rfl
  have h2 : decide (o.size > 16384) = false := h2
  repeat' (first | refine g_pv rfl rfl ?_ | refine g_ld 0 rfl rfl rfl rfl rfl rfl ?_ | refine g_yes rfl rfl rfl ?_)
  refine g_call rfl (Cl.of Tryz.func53 rfl rfl) rfl rfl (fun w' hE => rpower_sp o.align w') rfl ?_
  rintro t3 ht3
  have ht3 : t3 = powB o.align := ht3
  repeat' (first | refine g_pv rfl rfl ?_ | refine g_yes rfl rfl rfl ?_)
  cases t3
  · -- no
    repeat' (first | refine g_pv rfl rfl ?_ | refine g_nil ?_ | refine gq_then ?_ | refine gc_seq ?_ | refine gc_region ?_ | refine gc_cond_t rfl ?_ | refine gc_ret ?_ | refine gq_then_ret ?_ | refine g_no rfl rfl rfl rfl rfl ?_)
    refine gq_ret1 (.inr rfl) rfl rfl rfl (fun w' H => ⟨false, ?_, rfl, hp_nil H⟩)
    unfold objB; rw [← ht1, h1, h2, ← ht3]; rfl
  repeat' (first | refine g_pv rfl rfl ?_ | refine g_ld 0 rfl rfl rfl rfl rfl rfl ?_ | refine g_nil ?_ | refine gq_then ?_ | refine g_yes rfl rfl rfl ?_)
  refine gc_condC rfl (fun h4 => ?_) (fun h4 => ?_)
  · have h4' : ((o.bytes.length : Int) == o.size) = false := by simpa using h4
    repeat' (first | refine g_pv rfl rfl ?_ | refine g_nil ?_ | refine gq_then ?_ | refine gc_seq ?_ | refine gc_region ?_ | refine gc_ret ?_ | refine gq_then_ret ?_)
    refine gq_ret1 (.inr rfl) rfl rfl rfl (fun w' H => ⟨false, ?_, rfl, hp_nil H⟩)
    unfold objB; rw [← ht1, h1, h2, ← ht3, h4']; rfl
  have h4' : ((o.bytes.length : Int) == o.size) = true := by simpa using h4
  have hsz : (o.bytes.length : Int) = o.size := beq_iff_eq.1 h4'
  have hs1 := of_decide_eq_false h1
  have hs2 := of_decide_eq_false h2
  have hO : objB ⟨p, fn⟩ o = relsB ⟨p, fn⟩ o 0 o.rels := by unfold objB; rw [← ht1, h1, h2, ← ht3, h4']; rfl
  have hrlen := ho.rlen
  repeat' (first | refine g_pv rfl rfl ?_ | refine g_nil ?_ | refine gq_then ?_ | refine gc_seq ?_ | refine gc_region ?_ | refine gc_block ?_ | refine gc_skip ?_)
  refine gc_loop (Y := Nat × Int) (fun y => y.1 ≤ o.rels.length ∧ 0 ≤ y.2 ∧ y.2 ≤ 16384 ∧ relsB ⟨p, fn⟩ o 0 o.rels = relsB ⟨p, fn⟩ o y.2 (o.rels.drop y.1))
    (fun y => [(2, .pointer (some ⟨b2, 0, none⟩)), (3, .pointer (some ⟨b3, 0, none⟩)), (5, .int .i64 (y.2 - 4)), (6, .int .i64 y.1)])
    (fun y => [[(b3, .cells ⟨o.cells⟩ 66 (0, 0))], [(b2, .cells ⟨p.cells⟩ 25 (0, 0))]])
    (fun y => o.rels.length - y.1) (0, 0) ⟨Nat.zero_le _, Int.le_refl _, by decide, rfl⟩ ⟨rfl, rfl, rfl, rfl, trivial⟩ (fun w' H => H) ?_
  rintro ⟨k, fr⟩ ⟨hk, hf0, hf1, hR⟩
  dsimp only at hk hf0 hf1 hR ⊢
  repeat' (first | refine g_pv rfl rfl ?_ | refine g_ld 0 rfl rfl rfl rfl rfl rfl ?_ | refine g_nil ?_ | refine gq_then ?_ | refine gc_seq ?_ | refine gc_region ?_)
  refine gc_condC rfl (fun hc => ?_) (fun hc => ?_)
  rotate_left
  · have hge : k = o.rels.length := by have := of_decide_eq_false hc; omega
    repeat' (first | refine g_pv rfl rfl ?_ | refine g_nil ?_ | refine gq_then ?_ | refine gc_seq ?_ | refine gc_region ?_ | refine gc_exit ?_ | refine gc_ret ?_ | refine gq_then_exit ?_ | refine gq_block_exit ?_)
    refine gq_ret1 (.inr rfl) rfl rfl rfl (fun w' H => ⟨true, ?_, rfl, hp_nil H⟩)
    rw [hO, hR, hge, List.drop_length]; rfl
  have hlt : k < o.rels.length := by have := of_decide_eq_true hc; omega
  have hx : o.rels[k]? = some (o.rels[k]) := List.getElem?_eq_getElem hlt
  have hd : o.rels.drop k = o.rels[k] :: o.rels.drop (k + 1) := List.drop_eq_getElem_cons hlt
  have hr := ho.rs _ (List.getElem_mem hlt)
  generalize o.rels[k] = r at hx hd hr
  rw [hd] at hR
  repeat' (first | refine g_pv rfl rfl ?_ | refine g_ld 0 rfl rfl rfl rfl rfl rfl ?_ | refine gq_then ?_ | refine gc_seq ?_ | refine gc_region ?_ | refine gc_block ?_ | refine gc_skip ?_)
  refine g_at (l := o.rels) (f := Rel.cells) (u := r) rfl rfl rfl rfl rfl (Int.natCast_nonneg k) (by omega) (ho.rels.le (old_le0 _ w)) hx rfl rfl rfl rfl (fun a => ?_)
  repeat' (first | refine g_nil ?_ | refine gq_then ?_ | refine g_alloc rfl rfl (fun _ => ?_) | refine g_st 0 rfl rfl rfl rfl rfl rfl rfl ?_)
  rename_i b7
  refine gc_heap (R' := [[(b7, .cells ⟨r.cells⟩ 78 (0, 0))], [(b3, .cells ⟨o.cells⟩ 66 (0, 0))], [(b2, .cells ⟨p.cells⟩ 25 (0, 0))]]) (fun w H => H) ?_
  repeat' (first | refine g_pv rfl rfl ?_ | refine g_ld 0 rfl rfl rfl rfl rfl rfl ?_ | refine gc_seq ?_ | refine gc_region ?_)
  refine g_case (t := 55) rfl (fun g0 => ?_) (fun g0 => ?_)
  · have g0 : decide (r.off < 0) = true := g0
    repeat' (first | refine g_pv rfl rfl ?_ | refine g_nil ?_ | refine gq_then ?_ | refine gc_seq ?_ | refine gc_region ?_ | refine gc_cond_t rfl ?_ | refine gc_ret ?_ | refine gq_then_ret ?_ | refine gq_block_ret ?_ | refine g_no rfl rfl rfl rfl rfl ?_)
    refine gq_ret1 (.inr rfl) rfl rfl rfl (fun w' H => ⟨false, ?_, rfl, hp_nil H⟩)
    rw [hO, hR, relsB_no (by unfold relB; rw [show decide (r.off < fr) = true from decide_eq_true (by have := of_decide_eq_true g0; omega)]; simp)]
  have g0 : decide (r.off < 0) = false := g0
  repeat' (first | refine g_pv rfl rfl ?_ | refine g_ld 0 rfl rfl rfl rfl rfl rfl ?_ | refine g_ld 1 rfl rfl rfl rfl rfl rfl ?_ | refine g_yes rfl rfl rfl ?_)
  refine g_case (t := 63) rfl (fun g1 => ?_) (fun g1 => ?_)
  · have g1 : decide (r.off > IntKind.i64.wrap (o.size - 4)) = true := g1
    repeat' (first | refine g_pv rfl rfl ?_ | refine g_nil ?_ | refine gq_then ?_ | refine gc_seq ?_ | refine gc_region ?_ | refine gc_cond_t rfl ?_ | refine gc_ret ?_ | refine gq_then_ret ?_ | refine gq_block_ret ?_ | refine g_no rfl rfl rfl rfl rfl ?_)
    refine gq_ret1 (.inr rfl) rfl rfl rfl (fun w' H => ⟨false, ?_, rfl, hp_nil H⟩)
    rw [hO, hR, relsB_no (by unfold relB; rw [g1]; simp)]
  have g1 : decide (r.off > IntKind.i64.wrap (o.size - 4)) = false := g1
  repeat' (first | refine g_pv rfl rfl ?_ | refine g_ld 0 rfl rfl rfl rfl rfl rfl ?_ | refine g_yes rfl rfl rfl ?_)
  refine g_p (p_rem rfl rfl (by decide)) rfl ?_
  repeat' (first | refine g_pv rfl rfl ?_ | refine g_yes rfl rfl rfl ?_)
  refine g_case (t := 69) rfl (fun g2 => ?_) (fun g2 => ?_)
  · have g2' : (r.off.tmod 4 == 0) = false := by simpa using g2
    repeat' (first | refine g_pv rfl rfl ?_ | refine g_nil ?_ | refine gq_then ?_ | refine gc_seq ?_ | refine gc_region ?_ | refine gc_cond_t rfl ?_ | refine gc_ret ?_ | refine gq_then_ret ?_ | refine gq_block_ret ?_ | refine g_no rfl rfl rfl rfl rfl ?_)
    refine gq_ret1 (.inr rfl) rfl rfl rfl (fun w' H => ⟨false, ?_, rfl, hp_nil H⟩)
    rw [hO, hR, relsB_no (by unfold relB; rw [g2']; simp)]
  have g2' : (r.off.tmod 4 == 0) = true := by simpa using g2
  repeat' (first | refine g_pv rfl rfl ?_ | refine g_ld 1 rfl rfl rfl rfl rfl rfl ?_ | refine g_yes rfl rfl rfl ?_)
  refine g_case (t := 74) rfl (fun g3 => ?_) (fun g3 => ?_)
  · have g3' : (o.align == 4) = false := by simpa using g3
    repeat' (first | refine g_pv rfl rfl ?_ | refine g_nil ?_ | refine gq_then ?_ | refine gc_seq ?_ | refine gc_region ?_ | refine gc_cond_t rfl ?_ | refine gc_ret ?_ | refine gq_then_ret ?_ | refine gq_block_ret ?_ | refine g_no rfl rfl rfl rfl rfl ?_)
    refine gq_ret1 (.inr rfl) rfl rfl rfl (fun w' H => ⟨false, ?_, rfl, hp_nil H⟩)
    rw [hO, hR, relsB_no (by unfold relB; rw [g3']; simp)]
  have g3' : (o.align == 4) = true := by simpa using g3
  repeat' (first | refine g_pv rfl rfl ?_ | refine g_ld 0 rfl rfl rfl rfl rfl rfl ?_ | refine g_nil ?_ | refine gq_then ?_ | refine g_yes rfl rfl rfl ?_)
  have hfr : IntKind.i64.wrap (fr - 4 + 4) = fr := by rw [IntKind.wrap_i64] <;> omega
  refine gc_condC rfl (fun g4 => ?_) (fun g4 => ?_)
  · have g4 : decide (r.off < IntKind.i64.wrap (fr - 4 + 4)) = true := g4
    rw [hfr] at g4
    repeat' (first | refine g_pv rfl rfl ?_ | refine g_nil ?_ | refine gq_then ?_ | refine gc_seq ?_ | refine gc_region ?_ | refine gc_ret ?_ | refine gq_then_ret ?_ | refine gq_block_ret ?_)
    refine gq_ret1 (.inr rfl) rfl rfl rfl (fun w' H => ⟨false, ?_, rfl, hp_nil H⟩)
    rw [hO, hR, relsB_no (by unfold relB; rw [g4]; simp)]
  have g4 : decide (r.off < IntKind.i64.wrap (fr - 4 + 4)) = false := g4
  rw [hfr] at g4
  repeat' (first | refine gq_then ?_ | refine gc_seq ?_ | refine gc_skip ?_)
  refine gc_draw [[(b7, .cells ⟨r.cells⟩ 78 (0, 0))], [(b3, .cells ⟨o.cells⟩ 66 (0, 0))], [(b2, .cells ⟨p.cells⟩ 25 (0, 0))]] [] rfl (List.Perm.of_eq rfl) ?_
  (refine aP 0 rfl rfl ?_); (refine aL 1 0 rfl wanted_none rfl rfl rfl rfl rfl ?_); (refine aP 2 rfl rfl ?_); (refine aP 3 rfl rfl ?_)
  refine ga_case (t := 84) rfl (fun g5 => ?_) (fun g5 => ?_)
  · have g5 : decide (r.gl < 0) = true := g5
    (refine aN 4 rfl rfl rfl rfl rfl ?_); (refine aN 5 rfl rfl rfl rfl rfl ?_); (refine aN 6 rfl rfl rfl rfl rfl ?_); (refine aN 7 rfl rfl rfl rfl rfl ?_); (refine aN 8 rfl rfl rfl rfl rfl ?_); (refine aN 9 rfl rfl rfl rfl rfl ?_); (refine aP 10 rfl rfl ?_); (refine aP 11 rfl rfl ?_); (refine aN 12 rfl rfl rfl rfl rfl ?_); (refine aN 13 rfl rfl rfl rfl rfl ?_); (refine aN 14 rfl rfl rfl rfl rfl ?_); (refine aP 15 rfl rfl ?_); (refine aP 16 rfl rfl ?_); (refine aN 17 rfl rfl rfl rfl rfl ?_); (refine aN 18 rfl rfl rfl rfl rfl ?_); (refine aN 19 rfl rfl rfl rfl rfl ?_); (refine aN 20 rfl rfl rfl rfl rfl ?_); (refine aN 21 rfl rfl rfl rfl rfl ?_); (refine aN 22 rfl rfl rfl rfl rfl ?_); (refine aN 23 rfl rfl rfl rfl rfl ?_); (refine aN 24 rfl rfl rfl rfl rfl ?_); (refine aN 25 rfl rfl rfl rfl rfl ?_); (refine aN 26 rfl rfl rfl rfl rfl ?_); (refine aP 27 rfl rfl ?_)
    refine ga_nil (by kernel_rfl) ?_
    repeat' (first | refine g_pv rfl rfl ?_ | refine g_nil ?_ | refine gq_then ?_ | refine gc_seq ?_ | refine gc_region ?_ | refine gc_cond_t rfl ?_ | refine gc_ret ?_ | refine gq_then_ret ?_ | refine gq_block_ret ?_)
    refine gq_ret1 (.inr rfl) rfl rfl rfl (fun w' H => ⟨false, ?_, rfl, hp_nil H⟩)
    rw [hO, hR, relsB_no (by unfold relB; rw [show inB r.gl p.obs.length = false from by unfold inB; rw [decide_eq_false (show ¬ 0 ≤ r.gl by have := of_decide_eq_true g5; omega)]; rfl]; simp)]
  have g5 : decide (r.gl < 0) = false := g5
  (refine aY 4 rfl rfl rfl rfl rfl ?_); (refine aL 5 0 rfl (wanted_yes rfl rfl rfl) rfl rfl rfl rfl rfl ?_); (refine aY 6 rfl rfl rfl rfl rfl ?_); (refine aL 7 2 rfl (wanted_yes rfl rfl rfl) rfl rfl rfl rfl rfl ?_); (refine aY 8 rfl rfl rfl rfl rfl ?_); (refine aY 9 rfl rfl rfl rfl rfl ?_); (refine aP 10 rfl rfl ?_); (refine aP 11 rfl rfl ?_)
  refine ga_case (t := 92) rfl (fun g6 => ?_) (fun g6 => ?_)
  · have g6 : decide (r.gl ≥ p.obs.length) = true := g6
    (refine aN 12 rfl rfl rfl rfl rfl ?_); (refine aN 13 rfl rfl rfl rfl rfl ?_); (refine aN 14 rfl rfl rfl rfl rfl ?_); (refine aP 15 rfl rfl ?_); (refine aP 16 rfl rfl ?_); (refine aN 17 rfl rfl rfl rfl rfl ?_); (refine aN 18 rfl rfl rfl rfl rfl ?_); (refine aN 19 rfl rfl rfl rfl rfl ?_); (refine aN 20 rfl rfl rfl rfl rfl ?_); (refine aN 21 rfl rfl rfl rfl rfl ?_); (refine aN 22 rfl rfl rfl rfl rfl ?_); (refine aN 23 rfl rfl rfl rfl rfl ?_); (refine aN 24 rfl rfl rfl rfl rfl ?_); (refine aN 25 rfl rfl rfl rfl rfl ?_); (refine aN 26 rfl rfl rfl rfl rfl ?_); (refine aP 27 rfl rfl ?_)
    refine ga_nil (by kernel_rfl) ?_
    repeat' (first | refine g_pv rfl rfl ?_ | refine g_nil ?_ | refine gq_then ?_ | refine gc_seq ?_ | refine gc_region ?_ | refine gc_cond_t rfl ?_ | refine gc_ret ?_ | refine gq_then_ret ?_ | refine gq_block_ret ?_)
    refine gq_ret1 (.inr rfl) rfl rfl rfl (fun w' H => ⟨false, ?_, rfl, hp_nil H⟩)
    rw [hO, hR, relsB_no (by unfold relB; rw [show inB r.gl p.obs.length = false from by unfold inB; rw [decide_eq_false (show ¬ r.gl < p.obs.length by have := of_decide_eq_true g6; omega)]; simp]; simp)]
  have g6 : decide (r.gl ≥ p.obs.length) = false := g6
  (refine aY 12 rfl rfl rfl rfl rfl ?_); (refine aL 13 0 rfl (wanted_yes rfl rfl rfl) rfl rfl rfl rfl rfl ?_); (refine aY 14 rfl rfl rfl rfl rfl ?_); (refine aP 15 rfl rfl ?_); (refine aP 16 rfl rfl ?_)
  refine ga_case (t := 97) rfl (fun g7 => ?_) (fun g7 => ?_)
  · have g7 : decide (r.add < 0) = true := g7
    (refine aN 17 rfl rfl rfl rfl rfl ?_); (refine aN 18 rfl rfl rfl rfl rfl ?_); (refine aN 19 rfl rfl rfl rfl rfl ?_); (refine aN 20 rfl rfl rfl rfl rfl ?_); (refine aN 21 rfl rfl rfl rfl rfl ?_); (refine aN 22 rfl rfl rfl rfl rfl ?_); (refine aN 23 rfl rfl rfl rfl rfl ?_); (refine aN 24 rfl rfl rfl rfl rfl ?_); (refine aN 25 rfl rfl rfl rfl rfl ?_); (refine aN 26 rfl rfl rfl rfl rfl ?_); (refine aP 27 rfl rfl ?_)
    refine ga_nil (by kernel_rfl) ?_
    repeat' (first | refine g_pv rfl rfl ?_ | refine g_nil ?_ | refine gq_then ?_ | refine gc_seq ?_ | refine gc_region ?_ | refine gc_cond_t rfl ?_ | refine gc_ret ?_ | refine gq_then_ret ?_ | refine gq_block_ret ?_)
    refine gq_ret1 (.inr rfl) rfl rfl rfl (fun w' H => ⟨false, ?_, rfl, hp_nil H⟩)
    rw [hO, hR, relsB_no (by unfold relB; rw [g7]; simp)]
  have g7 : decide (r.add < 0) = false := g7
  have hb5 : 0 ≤ r.gl ∧ r.gl < p.obs.length := ⟨by have := of_decide_eq_false g5; omega, by have := of_decide_eq_false g6; omega⟩
  have g56 : inB r.gl p.obs.length = true := inB_iff.2 hb5
  have hlx : p.obs[r.gl.toNat]? = some (p.obs[r.gl.toNat]'(by omega)) := List.getElem?_eq_getElem (by omega)
  generalize p.obs[r.gl.toNat]'(by omega) = q at hlx
  obtain ⟨bb, oo, hA, hcq⟩ := hp.obs r.gl.toNat _ hlx
  have hoff0 : 0 ≤ r.off := by have := of_decide_eq_false g0; omega
  have hoff1 : r.off + 4 ≤ o.bytes.length := by
    have h8 := of_decide_eq_false g1
    rw [show IntKind.i64.wrap (o.size - 4) = o.size - 4 from by rw [IntKind.wrap_i64]; omega] at h8
    omega
  (refine aY 17 rfl rfl rfl rfl rfl ?_); (refine aL 18 0 rfl (wanted_yes rfl rfl rfl) rfl rfl rfl rfl rfl ?_); (refine aY 19 rfl rfl rfl rfl rfl ?_); (refine aL 20 2 rfl (wanted_yes rfl rfl rfl) rfl rfl rfl rfl rfl ?_); (refine aY 21 rfl rfl rfl rfl rfl ?_); (refine aL 22 0 rfl (wanted_yes rfl rfl rfl) rfl rfl rfl rfl rfl ?_)
  refine ga_py 23 (by repeat first | exact NoP.sp | apply NoP.then | apply NoP.block) rfl rfl rfl rfl (p_ix (bx := bb) (o := oo) (by show some (Value.slice p.oA _ _) = _; rw [hA]) rfl rfl rfl hb5.1 hb5.2) rfl (by kernel_rfl) (by kernel_rfl) (by kernel_rfl) ?_
  (refine aY 24 rfl rfl rfl rfl rfl ?_)
  refine ga_ldO 25 (cs := [.int .i64 q.size]) (by repeat first | exact NoP.sp | apply NoP.then | apply NoP.block) rfl (wanted_yes rfl rfl rfl) rfl rfl rfl rfl (fun k u hk => ?_) rfl (by kernel_rfl) (by kernel_rfl) (by kernel_rfl) ?_
  · have hk0 : k = 0 := by have := (List.getElem?_eq_some_iff.1 hk).1; simp at this; omega
    subst hk0
    simp only [List.getElem?_cons_zero, Option.some.injEq] at hk; subst hk
    exact (old_le0 _ w).cell (hcq 1 _ rfl)
  (refine aY 26 rfl rfl rfl rfl rfl ?_); (refine aP 27 rfl rfl ?_)
  refine ga_nil (by kernel_rfl) ?_
  repeat' (refine gq_then ?_)
  refine gc_condC rfl (fun g8 => ?_) (fun g8 => ?_)
  · have g8 : decide (r.add > q.size) = true := g8
    repeat' (first | refine g_pv rfl rfl ?_ | refine g_nil ?_ | refine gq_then ?_ | refine gc_seq ?_ | refine gc_region ?_ | refine gc_ret ?_ | refine gq_then_ret ?_ | refine gq_block_ret ?_)
    refine gq_ret1 (.inr rfl) rfl rfl rfl (fun w' H => ⟨false, ?_, rfl, hp_nil H⟩)
    rw [hO, hR, relsB_no (by unfold relB; rw [hlx]; dsimp only; rw [g8]; simp)]
  have g8 : decide (r.add > q.size) = false := g8
  have hB : relB ⟨p, fn⟩ o fr r = ((o.bytes.drop r.off.toNat).take 4).all (· == 0) := by
    unfold relB; rw [g1, g2', g3', g4, hlx]; dsimp only; rw [g56, g7, g8, maxL_zero (fun x hx => (ho.bs x (List.mem_of_mem_drop (List.mem_of_mem_take hx))).1)]; rfl
  repeat' (first | refine g_pv rfl rfl ?_ | refine g_nil ?_ | refine gq_then ?_ | refine gc_seq ?_ | refine gc_region ?_ | refine gc_block ?_ | refine gc_skip ?_)
  refine gc_loop (Y := Nat) (fun y => y ≤ 4 ∧ ((o.bytes.drop r.off.toNat).take y).all (· == 0) = true)
    (fun y => [(2, .pointer (some ⟨b2, 0, none⟩)), (3, .pointer (some ⟨b3, 0, none⟩)), (5, .int .i64 (fr - 4)), (6, .int .i64 k), (7, .pointer (some ⟨b7, 0, none⟩)), (8, .int .i64 y)])
    (fun y => [[(b7, .cells ⟨r.cells⟩ 78 (0, 0))], [(b3, .cells ⟨o.cells⟩ 66 (0, 0))], [(b2, .cells ⟨p.cells⟩ 25 (0, 0))]])
    (fun y => 4 - y) 0 ⟨Nat.zero_le _, rfl⟩ ⟨rfl, rfl, rfl, rfl, rfl, rfl, trivial⟩ (fun w' H => H) ?_
  rintro m ⟨hm, hall⟩
  dsimp only at hm hall ⊢
  repeat' (first | refine g_pv rfl rfl ?_ | refine g_nil ?_ | refine gq_then ?_ | refine gc_seq ?_ | refine gc_region ?_)
  refine gc_condC rfl (fun hc2 => ?_) (fun hc2 => ?_)
  rotate_left
  · have hge : m = 4 := by have := of_decide_eq_false hc2; omega
    rw [hge] at hall
    repeat' (first | refine g_pv rfl rfl ?_ | refine g_ld 0 rfl rfl rfl rfl rfl rfl ?_ | refine g_nil ?_ | refine gq_then ?_ | refine gc_region ?_ | refine gc_exit ?_ | refine gq_then_exit ?_ | refine gq_block ?_ | refine gq_block_exit ?_)
    refine gq_again (k + 1, r.off + 4) ⟨hlt, by dsimp only; omega, by dsimp only; omega, ?_⟩ (by dsimp only; omega) ⟨rfl, rfl, ?_, inc_eq (by omega), trivial⟩ (fun w' H => hp_drop 0 H)
    · dsimp only
      rw [hR, relsB_yes (by rw [hB, hall])]
    · show some (Value.int .i64 r.off) = some (Value.int .i64 (r.off + 4 - 4))
      congr 2; omega
  have hmlt : m < 4 := by have := of_decide_eq_true hc2; omega
  have hbl : r.off.toNat + m < o.bytes.length := by omega
  have hxb : o.bytes[r.off.toNat + m]? = some (o.bytes[r.off.toNat + m]) := List.getElem?_eq_getElem hbl
  have htk : (o.bytes.drop r.off.toNat).take (m + 1) = (o.bytes.drop r.off.toNat).take m ++ [o.bytes[r.off.toNat + m]] := by
    rw [List.take_succ_eq_append_getElem (by rw [List.length_drop]; omega), List.getElem_drop]
  generalize o.bytes[r.off.toNat + m] = c at hxb htk
  repeat' (first | refine g_pv rfl rfl ?_ | refine g_ld 0 rfl rfl rfl rfl rfl rfl ?_ | refine g_ld 1 rfl rfl rfl rfl rfl rfl ?_ | refine gq_then ?_ | refine gc_seq ?_ | refine gc_region ?_ | refine gc_block ?_ | refine gc_skip ?_)
  refine g_eq 119 (u' := .int .i64 ((r.off.toNat + m : Nat) : Int)) rfl (by congr 1; rw [IntKind.wrap_i64]; omega) ?_
  refine g_at (l := o.bytes) (f := fB) (u := c) rfl rfl rfl rfl rfl (Int.natCast_nonneg _) (by omega) (ho.bytes.le (old_le0 _ w)) hxb rfl rfl rfl rfl (fun a => ?_)
  repeat' (first | refine g_pv rfl rfl ?_ | refine g_nil ?_ | refine gq_then ?_)
  refine gc_condC rfl (fun g9 => ?_) (fun g9 => ?_)
  · have g9' : (c == 0) = false := by simpa using g9
    repeat' (first | refine g_pv rfl rfl ?_ | refine g_nil ?_ | refine gq_then ?_ | refine gc_seq ?_ | refine gc_region ?_ | refine gc_ret ?_ | refine gq_then_ret ?_ | refine gq_block_ret ?_)
    refine gq_ret1 (.inr rfl) rfl rfl rfl (fun w' H => ⟨false, ?_, rfl, hp_nil H⟩)
    rw [hO, hR, relsB_no (by
      rw [hB, show (4 : Nat) = (m + 1) + (3 - m) from by omega, List.take_add, List.all_append, htk, List.all_append, hall]
      simp [g9'])]
  have g9' : (c == 0) = true := by simpa using g9
  repeat' (first | refine g_pv rfl rfl ?_ | refine g_nil ?_ | refine gq_then ?_ | refine gc_region ?_ | refine gc_skip ?_ | refine gq_block ?_)
  refine gq_again (m + 1) ⟨hmlt, ?_⟩ (by omega) ⟨rfl, rfl, rfl, rfl, rfl, inc_eq (by omega), trivial⟩ (fun w' H => H)
  rw [htk, List.all_append, hall]; simp [g9']
end Go.Proofs.YtpohhfggmaihpaaGreatDoor

/- The document's function. -/
namespace Go.Proofs.YtpohhfggmaihpaaGreatDoor
open Go.Wk
set_option linter.unusedVariables false
set_option linter.unusedSimpArgs false
attribute [local irreducible] G GC GQ GA GS Exit.then Exit.inBlock

theorem rng_eq (n : Int) (lo hi : Int) : rngB n lo hi = (!decide (n < lo) && !decide (n > hi)) := by
  unfold rngB; rw [← decide_not, ← decide_not]
  congr 1 <;> exact decide_eq_decide.2 (by omega)
theorem rng_in {n lo hi : Int} (h : rngB n lo hi = true) : lo ≤ n ∧ n ≤ hi := by simpa [rngB] using h
def slotR (s : Slt) : Bool := rngB s.size 1 16384 && powB s.align
theorem slotR_eq (s : Slt) : slotR s = slotB s := by unfold slotR slotB; rw [rng_eq, Bool.and_assoc]
theorem slotB_size {s : Slt} (h : slotB s = true) : 1 ≤ s.size ∧ s.size ≤ 16384 := by
  rw [← slotR_eq] at h; unfold slotR at h
  simp only [Bool.and_eq_true] at h
  exact rng_in h.1
def funcR (p : Pr) (f : Fn) : Bool := tagB f.nm && (rngB f.pa 0 8 && (!decide (f.pa > f.te) && (!decide (f.te > 4096) && (!decide ((f.slots.length : Int) > 256) && (rngB f.code.length 1 16384 && (f.slots.all slotB && (f.code.all (rightB true ⟨p, f⟩) && lastB f)))))))
theorem funcR_eq (p : Pr) (f : Fn) : funcR p f = funcB ⟨p, f⟩ := by
  unfold funcR funcB
  rw [rng_eq, rng_eq, Bool.and_comm (f.code.all _) (lastB f)]
  simp only [Bool.and_assoc]
theorem memT_app {x : ByteArray} {l m : List ByteArray} : memT x (l ++ m) = (memT x l || memT x m) := by simp [memT]
theorem all_no {α : Type} {q : α → Bool} {l : List α} {x : α} (hx : x ∈ l) (h : q x = false) : l.all q = false := by
  cases hq : l.all q with
  | false => rfl
  | true => rw [List.all_eq_true.1 hq x hx] at h; cases h
theorem beqT {a b : ByteArray} : (a.toList == b.toList) = decide (a = b) := by
  by_cases h : a = b
  · subst h; simp
  · rw [decide_eq_false h]
    refine beq_eq_false_iff_ne.2 (fun e => h ?_)
    rw [ByteArray.toList_eq, ByteArray.toList_eq] at e
    cases a; cases b; congr 1; exact Array.toList_inj.1 e
set_option maxHeartbeats 16000000 in
theorem rfunction_sp (p : Pr) (f : Fn) (i : Nat) (w : World) (hp : PrIn (hw w) p) (hif : p.fns[i]? = some f) (hps : ∀ s ∈ p.obs, in64 s.size ∧ s.size ≤ 16384) :
    Sp Tryz.prog 32 [p.val, .int .i64 i] w [] (fun b : Bool => .bool b) (fun _ => []) (fun b => b = (!memT f.nm ((p.fns.take i).map Fn.nm) && funcB ⟨p, f⟩)) := by
  have hflen := hp.flen
  have hilt := (List.getElem?_eq_some_iff.1 hif).1
  have hfm : f ∈ p.fns := List.mem_of_getElem? hif
  have hfin := hp.fn f hfm
  have hslen := hfin.slen
  have hclen := hfin.code.len
  rw [← funcR_eq]
  refine enter (s := Tryz.sx) [] Tryz.func32 rfl rfl rfl (Eff.refl w) ?_
  refine gc_seq ?_
  repeat' (first | refine g_pv rfl rfl ?_ | refine g_nil ?_ | refine gq_then ?_ | refine gc_region ?_ | refine g_box rfl rfl (fun _ => ?_))
  rename_i b2
  refine gc_seq ?_
  repeat' (first | refine g_pv rfl rfl ?_ | refine g_ld 0 rfl rfl rfl rfl rfl rfl ?_ | refine gc_region ?_)
  refine g_at (l := p.fns) (f := Fn.cells) (u := f) rfl rfl rfl rfl rfl (Int.natCast_nonneg i) (by omega) (hp.fns.le (old_le0 _ w)) hif rfl rfl rfl rfl (fun a => ?_)
  repeat' (first | refine g_nil ?_ | refine gq_then ?_ | refine g_alloc rfl rfl (fun _ => ?_) | refine g_st 0 rfl rfl rfl rfl rfl rfl rfl ?_)
  rename_i b5
  refine gc_heap (R' := [[(b5, .cells ⟨f.cells⟩ 32 (0, 0))], [(b2, .cells ⟨p.cells⟩ 25 (0, 0))]]) (fun w H => H) ?_
  repeat' (first | refine g_pv rfl rfl ?_ | refine g_ld 0 rfl rfl rfl rfl rfl rfl ?_ | refine gc_seq ?_ | refine gc_region ?_)
  refine g_call rfl (Cl.of Tryz.func52 rfl rfl) rfl rfl (fun w' hE => rtag_sp f.nm w') rfl ?_
  rintro t1 ht1
  repeat' (refine g_pv rfl rfl ?_)
  cases t1
  · repeat' (first | refine g_pv rfl rfl ?_ | refine g_nil ?_ | refine gq_then ?_ | refine gc_seq ?_ | refine gc_region ?_ | refine gc_cond_t rfl ?_ | refine gc_ret ?_ | refine gq_then_ret ?_ | refine g_no rfl rfl rfl rfl rfl ?_)
    refine gq_ret1 (.inr rfl) rfl rfl rfl (fun w' H => ⟨false, ?_, rfl, hp_nil H⟩)
    unfold funcR; rw [← ht1]; simp
  repeat' (first | refine g_pv rfl rfl ?_ | refine g_ld 0 rfl rfl rfl rfl rfl rfl ?_ | refine g_yes rfl rfl rfl ?_)
  refine g_call rfl (Cl.of Tryz.func30 rfl rfl) rfl rfl (fun w' hE => rwithin_sp _ _ _ w') rfl (fun _ _ => ?_)
  refine g_eq 22 (u' := .bool (rngB f.pa 0 8)) rfl rfl ?_
  repeat' (first | refine g_pv rfl rfl ?_ | refine g_yes rfl rfl rfl ?_)
  refine g_case (t := 25) rfl (fun h1 => ?_) (fun h1 => ?_)
  · have h1 : (rngB f.pa 0 8) = false := (Bool.not_eq_true' _).mp h1
    repeat' (first | refine g_pv rfl rfl ?_ | refine g_nil ?_ | refine gq_then ?_ | refine gc_seq ?_ | refine gc_region ?_ | refine gc_cond_t rfl ?_ | refine gc_ret ?_ | refine gq_then_ret ?_ | refine g_no rfl rfl rfl rfl rfl ?_)
    refine gq_ret1 (.inr rfl) rfl rfl rfl (fun w' H => ⟨false, ?_, rfl, hp_nil H⟩)
    unfold funcR; rw [h1]; simp
  have h1 : (rngB f.pa 0 8) = true := (Bool.not_eq_false' _).mp h1
  repeat' (first | refine g_pv rfl rfl ?_ | refine g_ld 0 rfl rfl rfl rfl rfl rfl ?_ | refine g_yes rfl rfl rfl ?_)
  refine g_case (t := 32) rfl (fun h2 => ?_) (fun h2 => ?_)
  · have h2 : decide (f.pa > f.te) = true := h2
    repeat' (first | refine g_pv rfl rfl ?_ | refine g_nil ?_ | refine gq_then ?_ | refine gc_seq ?_ | refine gc_region ?_ | refine gc_cond_t rfl ?_ | refine gc_ret ?_ | refine gq_then_ret ?_ | refine g_no rfl rfl rfl rfl rfl ?_)
    refine gq_ret1 (.inr rfl) rfl rfl rfl (fun w' H => ⟨false, ?_, rfl, hp_nil H⟩)
    unfold funcR; rw [h2]; simp
  have h2 : decide (f.pa > f.te) = false := h2
  repeat' (first | refine g_pv rfl rfl ?_ | refine g_ld 0 rfl rfl rfl rfl rfl rfl ?_ | refine g_yes rfl rfl rfl ?_)
  refine g_case (t := 37) rfl (fun h3 => ?_) (fun h3 => ?_)
  · have h3 : decide (f.te > 4096) = true := h3
    repeat' (first | refine g_pv rfl rfl ?_ | refine g_nil ?_ | refine gq_then ?_ | refine gc_seq ?_ | refine gc_region ?_ | refine gc_cond_t rfl ?_ | refine gc_ret ?_ | refine gq_then_ret ?_ | refine g_no rfl rfl rfl rfl rfl ?_)
    refine gq_ret1 (.inr rfl) rfl rfl rfl (fun w' H => ⟨false, ?_, rfl, hp_nil H⟩)
    unfold funcR; rw [h3]; simp
  have h3 : decide (f.te > 4096) = false := h3
  repeat' (first | refine g_pv rfl rfl ?_ | refine g_ld 0 rfl rfl rfl rfl rfl rfl ?_ | refine g_yes rfl rfl rfl ?_)
  refine g_case (t := 43) rfl (fun h4 => ?_) (fun h4 => ?_)
  · have h4 : decide ((f.slots.length : Int) > 256) = true := h4
    repeat' (first | refine g_pv rfl rfl ?_ | refine g_nil ?_ | refine gq_then ?_ | refine gc_seq ?_ | refine gc_region ?_ | refine gc_cond_t rfl ?_ | refine gc_ret ?_ | refine gq_then_ret ?_ | refine g_no rfl rfl rfl rfl rfl ?_)
    refine gq_ret1 (.inr rfl) rfl rfl rfl (fun w' H => ⟨false, ?_, rfl, hp_nil H⟩)
    unfold funcR; rw [h4]; simp
  have h4 : decide ((f.slots.length : Int) > 256) = false := h4
  repeat' (first | refine g_pv rfl rfl ?_ | refine g_ld 0 rfl rfl rfl rfl rfl rfl ?_ | refine g_yes rfl rfl rfl ?_)
  refine g_call rfl (Cl.of Tryz.func30 rfl rfl) rfl rfl (fun w' hE => rwithin_sp _ _ _ w') rfl (fun _ _ => ?_)
  refine g_eq 47 (u' := .bool (rngB f.code.length 1 16384)) rfl rfl ?_
  repeat' (first | refine g_pv rfl rfl ?_ | refine g_nil ?_ | refine gq_then ?_ | refine g_yes rfl rfl rfl ?_)
  refine gc_condC rfl (fun h5 => ?_) (fun h5 => ?_)
  · have h5 : (rngB f.code.length 1 16384) = false := (Bool.not_eq_true' _).mp h5
    repeat' (first | refine g_pv rfl rfl ?_ | refine g_nil ?_ | refine gq_then ?_ | refine gc_seq ?_ | refine gc_region ?_ | refine gc_ret ?_ | refine gq_then_ret ?_)
    refine gq_ret1 (.inr rfl) rfl rfl rfl (fun w' H => ⟨false, ?_, rfl, hp_nil H⟩)
    unfold funcR; rw [h5]; simp
  have h5 : (rngB f.code.length 1 16384) = true := (Bool.not_eq_false' _).mp h5
  repeat' (first | refine g_pv rfl rfl ?_ | refine g_nil ?_ | refine gq_then ?_ | refine gc_seq ?_ | refine gc_region ?_ | refine gc_block ?_ | refine gc_skip ?_)
  have hF : funcR p f = (f.slots.all slotB && (f.code.all (rightB true ⟨p, f⟩) && lastB f)) := by unfold funcR; rw [← ht1, h1, h2, h3, h4, h5]; simp
  have hcb := rng_in h5
  refine gc_loop (Y := Nat) (fun y => y ≤ i ∧ memT f.nm ((p.fns.take y).map Fn.nm) = false)
    (fun y => [(1, .int .i64 i), (2, .pointer (some ⟨b2, 0, none⟩)), (5, .pointer (some ⟨b5, 0, none⟩)), (6, .int .i64 y)])
    (fun y => [[(b5, .cells ⟨f.cells⟩ 32 (0, 0))], [(b2, .cells ⟨p.cells⟩ 25 (0, 0))]])
    (fun y => i - y) 0 ⟨Nat.zero_le _, rfl⟩ ⟨rfl, rfl, rfl, rfl, trivial⟩ (fun w' H => H) ?_
  rintro k ⟨hk, hnm⟩
  dsimp only at hk hnm ⊢
  repeat' (first | refine g_pv rfl rfl ?_ | refine g_nil ?_ | refine gq_then ?_ | refine gc_seq ?_ | refine gc_region ?_)
  refine gc_condC rfl (fun hc => ?_) (fun hc => ?_)
  · have hlt : k < i := by have := of_decide_eq_true hc; omega
    have hxk : p.fns[k]? = some (p.fns[k]'(by omega)) := List.getElem?_eq_getElem (by omega)
    have htk : p.fns.take (k + 1) = p.fns.take k ++ [p.fns[k]'(by omega)] := List.take_succ_eq_append_getElem (by omega)
    have hmk : p.fns[k]'(by omega) ∈ p.fns.take i := by
      rw [List.mem_take_iff_getElem]; exact ⟨k, by omega, rfl⟩
    generalize p.fns[k]'(by omega) = g at hxk htk hmk
    obtain ⟨bb, oo, hA, hcq⟩ := hp.fns k _ hxk
    repeat' (first | refine gq_then ?_ | refine gc_seq ?_ | refine gc_block ?_ | refine gc_skip ?_)
    refine gc_draw [[(b5, .cells ⟨f.cells⟩ 32 (0, 0))], [(b2, .cells ⟨p.cells⟩ 25 (0, 0))]] [] rfl (List.Perm.of_eq rfl) ?_
    (refine aP 0 rfl rfl ?_); (refine aL 1 1 rfl wanted_none rfl rfl rfl rfl rfl ?_); (refine aP 2 rfl rfl ?_)
    refine aQ 3 rfl (p_ix (bx := bb) (o := oo) (by show some (Value.slice p.fA _ _) = _; rw [hA]) rfl rfl rfl (Int.natCast_nonneg k) (by omega)) ?_
    (refine aP 4 rfl rfl ?_)
    refine ga_ldO 5 (cs := [.string g.nm]) (by repeat first | exact NoP.sp | apply NoP.then | apply NoP.block) rfl wanted_none rfl rfl rfl rfl (fun k u hk => ?_) rfl (by kernel_rfl) (by kernel_rfl) (by kernel_rfl) ?_
    · have hk0 : k = 0 := by have := (List.getElem?_eq_some_iff.1 hk).1; simp at this; omega
      subst hk0
      simp only [List.getElem?_cons_zero, Option.some.injEq] at hk; subst hk
      exact (old_le0 _ w).cell (hcq 0 _ rfl)
    (refine aP 6 rfl rfl ?_); (refine aL 7 0 rfl wanted_none rfl rfl rfl rfl rfl ?_)
    refine aQ 8 rfl (p_eqT rfl rfl rfl) ?_
    refine ga_nil (by kernel_rfl) ?_
    repeat' (refine gq_then ?_)
    refine gc_condC rfl (fun h6 => ?_) (fun h6 => ?_)
    · have h6 : (g.nm.toList == f.nm.toList) = true := h6
      rw [beqT] at h6
      repeat' (first | refine g_pv rfl rfl ?_ | refine g_nil ?_ | refine gq_then ?_ | refine gc_seq ?_ | refine gc_region ?_ | refine gc_ret ?_ | refine gq_then_ret ?_ | refine gq_block_ret ?_)
      refine gq_ret1 (.inr rfl) rfl rfl rfl (fun w' H => ⟨false, ?_, rfl, hp_nil H⟩)
      rw [memT_iff.2 (by rw [← of_decide_eq_true h6]; exact List.mem_map.2 ⟨g, hmk, rfl⟩)]; rfl
    have h6 : (g.nm.toList == f.nm.toList) = false := h6
    rw [beqT] at h6
    repeat' (first | refine g_pv rfl rfl ?_ | refine g_nil ?_ | refine gq_then ?_ | refine gc_region ?_ | refine gc_skip ?_ | refine gq_block ?_)
    refine gq_again (k + 1) ⟨hlt, ?_⟩ (by omega) ⟨rfl, rfl, rfl, inc_eq (by omega), trivial⟩ (fun w' H => H)
    rw [htk, List.map_append, memT_app, hnm]
    simp only [memT, List.map_cons, List.map_nil, List.any_cons, List.any_nil, Bool.or_false, Bool.false_or]
    exact h6
  have hki : k = i := by have := of_decide_eq_false hc; omega
  rw [hki] at hnm
  rw [hnm]
  repeat' (first | refine g_pv rfl rfl ?_ | refine g_nil ?_ | refine gq_then ?_ | refine gc_seq ?_ | refine gc_region ?_ | refine gc_block ?_ | refine gc_exit ?_ | refine gq_then_exit ?_ | refine gq_block_exit ?_)
  refine gc_loop (Y := Nat) (fun y => y ≤ f.slots.length ∧ (f.slots.take y).all slotB = true)
    (fun y => [(2, .pointer (some ⟨b2, 0, none⟩)), (5, .pointer (some ⟨b5, 0, none⟩)), (7, .int .i64 y)])
    (fun y => [[(b5, .cells ⟨f.cells⟩ 32 (0, 0))], [(b2, .cells ⟨p.cells⟩ 25 (0, 0))]])
    (fun y => f.slots.length - y) 0 ⟨Nat.zero_le _, rfl⟩ ⟨rfl, rfl, rfl, trivial⟩ (fun w' H => H) ?_
  rintro m ⟨hm, hall⟩
  dsimp only at hm hall ⊢
  repeat' (first | refine g_pv rfl rfl ?_ | refine g_ld 0 rfl rfl rfl rfl rfl rfl ?_ | refine g_nil ?_ | refine gq_then ?_ | refine gc_seq ?_ | refine gc_region ?_)
  refine gc_condC rfl (fun hc2 => ?_) (fun hc2 => ?_)
  · have hlt : m < f.slots.length := by have := of_decide_eq_true hc2; omega
    have hxs : f.slots[m]? = some (f.slots[m]) := List.getElem?_eq_getElem hlt
    have htk : f.slots.take (m + 1) = f.slots.take m ++ [f.slots[m]] := List.take_succ_eq_append_getElem hlt
    have hms : f.slots[m] ∈ f.slots := List.getElem_mem hlt
    generalize f.slots[m] = s at hxs htk hms
    repeat' (first | refine g_pv rfl rfl ?_ | refine g_ld 0 rfl rfl rfl rfl rfl rfl ?_ | refine gq_then ?_ | refine gc_seq ?_ | refine gc_region ?_ | refine gc_block ?_ | refine gc_skip ?_)
    refine g_atF (l := f.slots) (f := Slt.cells) (q := s) (cs := [.int .i64 s.size]) (off := 0) rfl rfl rfl rfl rfl rfl rfl rfl (Int.natCast_nonneg m) (by omega) (hfin.slots.le (old_le0 _ w)) hxs rfl rfl rfl rfl rfl (fun a a2 => ?_)
    repeat' (fail)
    refine g_call rfl (Cl.of Tryz.func30 rfl rfl) rfl rfl (fun w' hE => rwithin_sp _ _ _ w') rfl (fun _ _ => ?_)
    refine g_eq 77 (u' := .bool (rngB s.size 1 16384)) rfl rfl ?_
    repeat' (refine g_pv rfl rfl ?_)
    refine g_case (t := 79) rfl (fun h7 => ?_) (fun h7 => ?_)
    · have h7 : (rngB s.size 1 16384) = false := (Bool.not_eq_true' _).mp h7
      repeat' (first | refine g_pv rfl rfl ?_ | refine g_nil ?_ | refine gq_then ?_ | refine gc_seq ?_ | refine gc_region ?_ | refine gc_cond_t rfl ?_ | refine gc_ret ?_ | refine gq_then_ret ?_ | refine gq_block_ret ?_ | refine g_no rfl rfl rfl rfl rfl ?_)
      refine gq_ret1 (.inr rfl) rfl rfl rfl (fun w' H => ⟨false, ?_, rfl, hp_nil H⟩)
      rw [hF, all_no hms (by rw [← slotR_eq]; unfold slotR; rw [h7]; rfl)]; simp
    have h7 : (rngB s.size 1 16384) = true := (Bool.not_eq_false' _).mp h7
    repeat' (first | refine g_pv rfl rfl ?_ | refine g_ld 0 rfl rfl rfl rfl rfl rfl ?_ | refine g_yes rfl rfl rfl ?_)
    obtain ⟨bb, oo, hA, hcq⟩ := hfin.slots m _ hxs
    refine g_p (p_ix (bx := bb) (o := oo) (by show some (Value.slice f.sA _ _) = _; rw [hA]) rfl rfl rfl (Int.natCast_nonneg m) (by omega)) rfl ?_
    repeat' (first | refine g_pv rfl rfl ?_ | refine g_yes rfl rfl rfl ?_)
    refine g_ldO rfl rfl (cs := [.int .i64 s.align]) rfl rfl (fun i u hu => ?_) rfl ?_
    · have hi0 : i = 0 := by have := (List.getElem?_eq_some_iff.1 hu).1; simp at this; omega
      subst hi0
      simp only [List.getElem?_cons_zero, Option.some.injEq] at hu; subst hu
      exact (old_le0 _ w).cell (hcq 1 _ rfl)
    repeat' (refine g_yes rfl rfl rfl ?_)
    refine g_call rfl (Cl.of Tryz.func53 rfl rfl) rfl rfl (fun w' hE => rpower_sp s.align w') rfl ?_
    rintro t8 ht8
    have ht8 : powB s.align = t8 := ht8.symm
    repeat' (first | refine g_pv rfl rfl ?_ | refine g_nil ?_ | refine gq_then ?_ | refine g_yes rfl rfl rfl ?_)
    cases t8
    · repeat' (first | refine g_pv rfl rfl ?_ | refine g_nil ?_ | refine gq_then ?_ | refine gc_seq ?_ | refine gc_region ?_ | refine gc_cond_t rfl ?_ | refine gc_ret ?_ | refine gq_then_ret ?_ | refine gq_block_ret ?_)
      refine gq_ret1 (.inr rfl) rfl rfl rfl (fun w' H => ⟨false, ?_, rfl, hp_nil H⟩)
      rw [hF, all_no hms (by rw [← slotR_eq]; unfold slotR; rw [h7, ht8]; rfl)]; simp
    repeat' (first | refine g_pv rfl rfl ?_ | refine g_nil ?_ | refine gq_then ?_ | refine gc_region ?_ | refine gc_cond_f rfl ?_ | refine gc_skip ?_ | refine gq_block ?_)
    refine gq_again (m + 1) ⟨hlt, ?_⟩ (by omega) ⟨rfl, rfl, inc_eq (by omega), trivial⟩ (fun w' H => H)
    rw [htk, List.all_append, hall]
    simp only [List.all_cons, List.all_nil, Bool.and_true, Bool.true_and]
    rw [← slotR_eq]; unfold slotR; rw [h7, ht8]; rfl
  have hm2 : m = f.slots.length := by have := of_decide_eq_false hc2; omega
  rw [hm2, List.take_length] at hall
  have hF2 : funcR p f = (f.code.all (rightB true ⟨p, f⟩) && lastB f) := by rw [hF, hall]; rfl
  have hfs : ∀ s ∈ f.slots, in64 s.size ∧ s.size ≤ 16384 := fun s hs => ⟨(hfin.ss s hs).1, (slotB_size (List.all_eq_true.1 hall s hs)).2⟩
  repeat' (first | refine g_pv rfl rfl ?_ | refine g_nil ?_ | refine gq_then ?_ | refine gc_seq ?_ | refine gc_region ?_ | refine gc_block ?_ | refine gc_exit ?_ | refine gq_then_exit ?_ | refine gq_block_exit ?_)
  refine gc_loop (Y := Nat) (fun y => y ≤ f.code.length ∧ (f.code.take y).all (rightB true ⟨p, f⟩) = true)
    (fun y => [(2, .pointer (some ⟨b2, 0, none⟩)), (5, .pointer (some ⟨b5, 0, none⟩)), (8, .int .i64 y)])
    (fun y => [[(b5, .cells ⟨f.cells⟩ 32 (0, 0))], [(b2, .cells ⟨p.cells⟩ 25 (0, 0))]])
    (fun y => f.code.length - y) 0 ⟨Nat.zero_le _, rfl⟩ ⟨rfl, rfl, rfl, trivial⟩ (fun w' H => H) ?_
  rintro n ⟨hn, hall2⟩
  dsimp only at hn hall2 ⊢
  repeat' (first | refine g_pv rfl rfl ?_ | refine g_ld 0 rfl rfl rfl rfl rfl rfl ?_ | refine g_nil ?_ | refine gq_then ?_ | refine gc_seq ?_ | refine gc_region ?_)
  refine gc_condC rfl (fun hc3 => ?_) (fun hc3 => ?_)
  · have hlt : n < f.code.length := by have := of_decide_eq_true hc3; omega
    have hxs : f.code[n]? = some (f.code[n]) := List.getElem?_eq_getElem hlt
    have htk : f.code.take (n + 1) = f.code.take n ++ [f.code[n]] := List.take_succ_eq_append_getElem hlt
    have hms : f.code[n] ∈ f.code := List.getElem_mem hlt
    generalize f.code[n] = x at hxs htk hms
    have hxin := hfin.code.all x hms
    repeat' (first | refine gq_then ?_ | refine gc_seq ?_ | refine gc_block ?_ | refine gc_skip ?_)
    refine gc_draw [[(b5, .cells ⟨f.cells⟩ 32 (0, 0))], [(b2, .cells ⟨p.cells⟩ 25 (0, 0))]] [] rfl (List.Perm.of_eq rfl) ?_
    (refine aL 0 1 rfl wanted_none rfl rfl rfl rfl rfl ?_); (refine aL 1 0 rfl wanted_none rfl rfl rfl rfl rfl ?_); (refine aP 2 rfl rfl ?_); (refine aL 3 0 rfl wanted_none rfl rfl rfl rfl rfl ?_); (refine aP 4 rfl rfl ?_)
    refine ga_at 5 6 (l := f.code) (f := Ins.cells) (u := x) (by repeat first | exact NoP.sp | apply NoP.then | apply NoP.block) rfl wanted_none rfl (fun a _ => wanted_none a) rfl rfl rfl rfl rfl (Int.natCast_nonneg n) (by omega) (still_rdO (hfin.code.row.le (old_le0 _ w))) hxs rfl rfl rfl rfl (by kernel_rfl) (by kernel_rfl) (by kernel_rfl) (by kernel_rfl) (by kernel_rfl) (fun _ => ?_)
    refine aO 7 rfl (fun K hK => ?_)
    refine g_call rfl (Cl.of Tryz.func54 rfl rfl) rfl rfl (fun w' hE => rright_sp p f x w' (hp.le (fun b o h => old_le hE b o (old_le0 _ w b o h))) (hfin.le (fun b o h => old_le hE b o (old_le0 _ w b o h))) (hxin.le (fun b o h => old_le hE b o (old_le0 _ w b o h))) hfs hps (by omega)) rfl ?_
    rintro b hb
    refine g_nil ?_
    refine hK _ _ ⟨[], List.Perm.of_eq rfl⟩ ?_
    (refine aP 8 rfl rfl ?_)
    refine ga_nil (by kernel_rfl) ?_
    repeat' (refine gq_then ?_)
    cases b
    · repeat' (first | refine g_pv rfl rfl ?_ | refine g_nil ?_ | refine gq_then ?_ | refine gc_seq ?_ | refine gc_region ?_ | refine gc_cond_t rfl ?_ | refine gc_ret ?_ | refine gq_then_ret ?_ | refine gq_block_ret ?_)
      refine gq_ret1 (.inr rfl) rfl rfl rfl (fun w' H => ⟨false, ?_, rfl, hp_nil H⟩)
      rw [hF2, all_no hms hb.symm]; rfl
    repeat' (first | refine g_pv rfl rfl ?_ | refine g_nil ?_ | refine gq_then ?_ | refine gc_region ?_ | refine gc_cond_f rfl ?_ | refine gc_skip ?_ | refine gq_block ?_)
    refine gq_again (n + 1) ⟨hlt, ?_⟩ (by omega) ⟨rfl, rfl, inc_eq (by omega), trivial⟩ (fun w' H => H)
    rw [htk, List.all_append, hall2]; simp [← hb]
  have hn2 : n = f.code.length := by have := of_decide_eq_false hc3; omega
  rw [hn2, List.take_length] at hall2
  have hlast : f.code[f.code.length - 1]? = some (f.code[f.code.length - 1]'(by omega)) := List.getElem?_eq_getElem (by omega)
  generalize f.code[f.code.length - 1]'(by omega) = x at hlast
  have hF3 : funcR p f = (x.op == 9 || (x.op == 10 || x.op == 14)) := by
    rw [hF2, hall2]; unfold lastB; rw [hlast]; rfl
  repeat' (first | refine g_pv rfl rfl ?_ | refine g_ld 0 rfl rfl rfl rfl rfl rfl ?_ | refine gq_then ?_ | refine gc_seq ?_ | refine gc_region ?_ | refine gc_exit ?_ | refine gq_then_exit ?_ | refine gq_block_exit ?_)
  refine g_eq 110 (u' := .int .i64 ((f.code.length - 1 : Nat) : Int)) rfl (by congr 1; rw [IntKind.wrap_i64]; omega) ?_
  refine g_atF (l := f.code) (f := Ins.cells) (q := x) (cs := [.int .i64 x.op]) (off := 0) rfl rfl rfl rfl rfl rfl rfl rfl (Int.natCast_nonneg _) (by omega) (hfin.code.row.le (old_le0 _ w)) hlast rfl rfl rfl rfl rfl (fun a a2 => ?_)
  repeat' (first | refine g_pv rfl rfl ?_ | refine g_nil ?_ | refine gq_then ?_ | refine gc_seq ?_ | refine gc_region ?_)
  refine g_case (t := 116) rfl (fun h9 => ?_) (fun h9 => ?_)
  · have h9 : (x.op == 9) = true := h9
    repeat' (first | refine g_pv rfl rfl ?_ | refine g_nil ?_ | refine gq_then ?_ | refine gc_ret ?_ | refine g_no rfl rfl rfl rfl rfl ?_)
    refine gq_ret1 (.inr rfl) rfl rfl rfl (fun w' H => ⟨true, ?_, rfl, hp_nil H⟩)
    rw [hF3, h9]; rfl
  have h9 : (x.op == 9) = false := h9
  repeat' (first | refine g_pv rfl rfl ?_ | refine g_yes rfl rfl rfl ?_)
  refine g_case (t := 120) rfl (fun h10 => ?_) (fun h10 => ?_)
  · have h10 : (x.op == 10) = true := h10
    repeat' (first | refine g_pv rfl rfl ?_ | refine g_nil ?_ | refine gq_then ?_ | refine gc_ret ?_ | refine g_no rfl rfl rfl rfl rfl ?_)
    refine gq_ret1 (.inr rfl) rfl rfl rfl (fun w' H => ⟨true, ?_, rfl, hp_nil H⟩)
    rw [hF3, h10]; simp
  have h10 : (x.op == 10) = false := h10
  repeat' (first | refine g_pv rfl rfl ?_ | refine g_nil ?_ | refine gq_then ?_ | refine gc_ret ?_ | refine g_yes rfl rfl rfl ?_)
  refine gq_ret1 (.inr rfl) rfl rfl rfl (fun w' H => ⟨x.op == 14, ?_, rfl, hp_nil H⟩)
  rw [hF3, h9, h10]; rfl
end Go.Proofs.YtpohhfggmaihpaaGreatDoor

/- The document's Check. -/
namespace Go.Proofs.YtpohhfggmaihpaaGreatDoor
open Go.Wk
set_option linter.unusedVariables false
set_option linter.unusedSimpArgs false
attribute [local irreducible] G GC GQ GA GS Exit.then Exit.inBlock

def checkR (p : Pr) : Bool := !decide ((p.obs.length : Int) > 256) && (rngB p.fns.length 1 64 && (inB p.main p.fns.length && (mainB p && (p.obs.all (objB ⟨p, fn0⟩) && fnsB p [] p.fns))))
theorem checkR_eq (p : Pr) : checkR p = checkB p := by
  unfold checkR checkB; rw [rng_eq, Bool.and_assoc]
theorem objB_size {j : Jg} {o : Ob} (h : objB j o = true) : 1 ≤ o.size ∧ o.size ≤ 16384 := by
  unfold objB at h
  simp only [Bool.and_eq_true, Bool.not_eq_true', decide_eq_false_iff_not] at h
  exact ⟨by omega, by omega⟩
set_option maxHeartbeats 16000000 in
theorem rcheck_sp (p : Pr) (w : World) (hp : PrIn (hw w) p) : Sp Tryz.prog 14 [p.val] w [] (fun e : Int => .int .i64 e) (fun _ => []) (fun e => e = errB (checkB p)) := by
  have holen := hp.olen
  have hflen := hp.flen
  rw [← checkR_eq]
  refine enter (s := Tryz.sx) [] Tryz.func14 rfl rfl rfl (Eff.refl w) ?_
  repeat' (first | refine g_pv rfl rfl ?_ | refine g_ld 0 rfl rfl rfl rfl rfl rfl ?_ | refine g_nil ?_ | refine gq_then ?_ | refine gc_seq ?_ | refine gc_region ?_ | refine g_box rfl rfl (fun _ => ?_))
  rename_i b1
  refine g_case (t := 9) rfl (fun h0 => ?_) (fun h0 => ?_)
  · have h0 : decide ((p.obs.length : Int) > 256) = true := h0
    repeat' (first | refine g_pv rfl rfl ?_ | refine g_nil ?_ | refine gq_then ?_ | refine gc_seq ?_ | refine gc_region ?_ | refine gc_cond_t rfl ?_ | refine gc_ret ?_ | refine gq_then_ret ?_ | refine g_no rfl rfl rfl rfl rfl ?_)
    refine gq_ret1 (.inr rfl) rfl rfl rfl (fun w' H => ⟨130, ?_, rfl, hp_nil H⟩)
    unfold checkR; rw [h0]; rfl
  have h0 : decide ((p.obs.length : Int) > 256) = false := h0
  repeat' (first | refine g_pv rfl rfl ?_ | refine g_ld 0 rfl rfl rfl rfl rfl rfl ?_ | refine g_yes rfl rfl rfl ?_)
  refine g_call rfl (Cl.of Tryz.func30 rfl rfl) rfl rfl (fun w' hE => rwithin_sp _ _ _ w') rfl (fun _ _ => ?_)
  refine g_eq 13 (u' := .bool (rngB p.fns.length 1 64)) rfl rfl ?_
  repeat' (first | refine g_pv rfl rfl ?_ | refine g_yes rfl rfl rfl ?_)
  refine g_case (t := 16) rfl (fun h1 => ?_) (fun h1 => ?_)
  · have h1 : rngB p.fns.length 1 64 = false := (Bool.not_eq_true' _).mp h1
    repeat' (first | refine g_pv rfl rfl ?_ | refine g_nil ?_ | refine gq_then ?_ | refine gc_seq ?_ | refine gc_region ?_ | refine gc_cond_t rfl ?_ | refine gc_ret ?_ | refine gq_then_ret ?_ | refine g_no rfl rfl rfl rfl rfl ?_)
    refine gq_ret1 (.inr rfl) rfl rfl rfl (fun w' H => ⟨130, ?_, rfl, hp_nil H⟩)
    unfold checkR; rw [h0, h1]; rfl
  have h1 : rngB p.fns.length 1 64 = true := (Bool.not_eq_false' _).mp h1
  repeat' (first | refine g_pv rfl rfl ?_ | refine g_ld 0 rfl rfl rfl rfl rfl rfl ?_ | refine g_yes rfl rfl rfl ?_)
  refine g_eq 22 (u' := .int .i64 ((p.fns.length : Int) - 1)) rfl (by rw [IntKind.wrap_i64]; congr 1; omega) ?_
  refine g_call rfl (Cl.of Tryz.func30 rfl rfl) rfl rfl (fun w' hE => rwithin_sp _ _ _ w') rfl (fun _ _ => ?_)
  refine g_eq 23 (u' := .bool (inB p.main p.fns.length)) rfl (by rw [inB_le]) ?_
  repeat' (first | refine g_pv rfl rfl ?_ | refine g_yes rfl rfl rfl ?_)
  refine g_case (t := 26) rfl (fun h3 => ?_) (fun h3 => ?_)
  · have h3 : inB p.main p.fns.length = false := (Bool.not_eq_true' _).mp h3
    repeat' (first | refine g_pv rfl rfl ?_ | refine g_nil ?_ | refine gq_then ?_ | refine gc_seq ?_ | refine gc_region ?_ | refine gc_cond_t rfl ?_ | refine gc_ret ?_ | refine gq_then_ret ?_ | refine g_no rfl rfl rfl rfl rfl ?_)
    refine gq_ret1 (.inr rfl) rfl rfl rfl (fun w' H => ⟨130, ?_, rfl, hp_nil H⟩)
    unfold checkR; rw [h0, h1, h3]; rfl
  have h3 : inB p.main p.fns.length = true := (Bool.not_eq_false' _).mp h3
  have hb3 := inB_iff.1 h3
  have hlx : p.fns[p.main.toNat]? = some (p.fns[p.main.toNat]'(by omega)) := List.getElem?_eq_getElem (by omega)
  generalize p.fns[p.main.toNat]'(by omega) = g at hlx
  have hm : mainB p = (g.pa == 0) := by unfold mainB; rw [hlx]
  repeat' (first | refine g_pv rfl rfl ?_ | refine g_ld 0 rfl rfl rfl rfl rfl rfl ?_ | refine g_yes rfl rfl rfl ?_)
  obtain ⟨bb, oo, hA, hcq⟩ := hp.fns p.main.toNat _ hlx
  refine g_p (p_ix (bx := bb) (o := oo) (by show some (Value.slice p.fA _ _) = _; rw [hA]) rfl rfl rfl hb3.1 hb3.2) rfl ?_
  repeat' (first | refine g_pv rfl rfl ?_ | refine g_yes rfl rfl rfl ?_)
  refine g_ldO rfl rfl (cs := [.int .i64 g.pa]) rfl rfl (fun i u hu => ?_) rfl ?_
  · have hi0 : i = 0 := by have := (List.getElem?_eq_some_iff.1 hu).1; simp at this; omega
    subst hi0
    simp only [List.getElem?_cons_zero, Option.some.injEq] at hu; subst hu
    exact (old_le0 _ w).cell (hcq 1 _ rfl)
  repeat' (first | refine g_pv rfl rfl ?_ | refine g_nil ?_ | refine gq_then ?_ | refine g_yes rfl rfl rfl ?_)
  refine gc_condC rfl (fun h4 => ?_) (fun h4 => ?_)
  · have h4' : (g.pa == 0) = false := by simpa using h4
    repeat' (first | refine g_pv rfl rfl ?_ | refine g_nil ?_ | refine gq_then ?_ | refine gc_seq ?_ | refine gc_region ?_ | refine gc_ret ?_ | refine gq_then_ret ?_)
    refine gq_ret1 (.inr rfl) rfl rfl rfl (fun w' H => ⟨130, ?_, rfl, hp_nil H⟩)
    unfold checkR; rw [h0, h1, h3, hm, h4']; rfl
  have h4' : (g.pa == 0) = true := by simpa using h4
  have hC : checkR p = (p.obs.all (objB ⟨p, fn0⟩) && fnsB p [] p.fns) := by unfold checkR; rw [h0, h1, h3, hm, h4']; rfl
  repeat' (first | refine g_pv rfl rfl ?_ | refine g_nil ?_ | refine gq_then ?_ | refine gc_seq ?_ | refine gc_region ?_ | refine gc_block ?_ | refine gc_skip ?_)
  refine gc_loop (Y := Nat) (fun y => y ≤ p.obs.length ∧ (p.obs.take y).all (objB ⟨p, fn0⟩) = true)
    (fun y => [(1, .pointer (some ⟨b1, 0, none⟩)), (3, .int .i64 y)])
    (fun y => [[(b1, .cells ⟨p.cells⟩ 25 (0, 0))]])
    (fun y => p.obs.length - y) 0 ⟨Nat.zero_le _, rfl⟩ ⟨rfl, rfl, trivial⟩ (fun w' H => H) ?_
  rintro k ⟨hk, hall⟩
  dsimp only at hk hall ⊢
  repeat' (first | refine g_pv rfl rfl ?_ | refine g_ld 0 rfl rfl rfl rfl rfl rfl ?_ | refine g_nil ?_ | refine gq_then ?_ | refine gc_seq ?_ | refine gc_region ?_)
  refine gc_condC rfl (fun hc => ?_) (fun hc => ?_)
  · have hlt : k < p.obs.length := by have := of_decide_eq_true hc; omega
    have hx : p.obs[k]? = some (p.obs[k]) := List.getElem?_eq_getElem hlt
    have htk : p.obs.take (k + 1) = p.obs.take k ++ [p.obs[k]] := List.take_succ_eq_append_getElem hlt
    have hmx : p.obs[k] ∈ p.obs := List.getElem_mem hlt
    generalize p.obs[k] = o at hx htk hmx
    repeat' (first | refine gq_then ?_ | refine gc_seq ?_ | refine gc_block ?_ | refine gc_skip ?_)
    refine gc_draw [[(b1, .cells ⟨p.cells⟩ 25 (0, 0))]] [] rfl (List.Perm.of_eq rfl) ?_
    (refine aL 0 0 rfl wanted_none rfl rfl rfl rfl rfl ?_); (refine aP 1 rfl rfl ?_); (refine aL 2 0 rfl wanted_none rfl rfl rfl rfl rfl ?_); (refine aP 3 rfl rfl ?_)
    refine ga_at 4 5 (l := p.obs) (f := Ob.cells) (u := o) (by repeat first | exact NoP.sp | apply NoP.then | apply NoP.block) rfl wanted_none rfl (fun a _ => wanted_none a) rfl rfl rfl rfl rfl (Int.natCast_nonneg k) (by omega) (still_rdO (hp.obs.le (old_le0 _ w))) hx rfl rfl rfl rfl (by kernel_rfl) (by kernel_rfl) (by kernel_rfl) (by kernel_rfl) (by kernel_rfl) (fun _ => ?_)
    refine aO 6 rfl (fun K hK => ?_)
    refine g_call rfl (Cl.of Tryz.func31 rfl rfl) rfl rfl (fun w' hE => robject_sp p fn0 o w' (hp.le (fun b o h => old_le hE b o (old_le0 _ w b o h))) ((hp.ob o hmx).le (fun b o h => old_le hE b o (old_le0 _ w b o h)))) rfl ?_
    rintro t ht
    refine g_nil ?_
    refine hK _ _ ⟨[], List.Perm.of_eq rfl⟩ ?_
    (refine aP 7 rfl rfl ?_)
    refine ga_nil (by kernel_rfl) ?_
    repeat' (refine gq_then ?_)
    cases t
    · repeat' (first | refine g_pv rfl rfl ?_ | refine g_nil ?_ | refine gq_then ?_ | refine gc_seq ?_ | refine gc_region ?_ | refine gc_cond_t rfl ?_ | refine gc_ret ?_ | refine gq_then_ret ?_ | refine gq_block_ret ?_)
      refine gq_ret1 (.inr rfl) rfl rfl rfl (fun w' H => ⟨130, ?_, rfl, hp_nil H⟩)
      rw [hC, all_no hmx ht.symm]; rfl
    · repeat' (first | refine g_pv rfl rfl ?_ | refine g_nil ?_ | refine gq_then ?_ | refine gc_region ?_ | refine gc_cond_f rfl ?_ | refine gc_skip ?_ | refine gq_block ?_)
      refine gq_again (k + 1) ⟨hlt, ?_⟩ (by omega) ⟨rfl, inc_eq (by omega), trivial⟩ (fun w' H => H)
      rw [htk, List.all_append, hall]; simp [← ht]
  have hge : k = p.obs.length := by have := of_decide_eq_false hc; omega
  rw [hge, List.take_length] at hall
  have hC2 : checkR p = fnsB p [] p.fns := by rw [hC, hall]; rfl
  have hps : ∀ s ∈ p.obs, in64 s.size ∧ s.size ≤ 16384 := fun s hs => ⟨(hp.ob s hs).size, (objB_size (List.all_eq_true.1 hall s hs)).2⟩
  repeat' (first | refine g_pv rfl rfl ?_ | refine g_nil ?_ | refine gq_then ?_ | refine gc_seq ?_ | refine gc_region ?_ | refine gc_block ?_ | refine gc_exit ?_ | refine gq_then_exit ?_ | refine gq_block_exit ?_)
  refine gc_loop (Y := Nat) (fun y => y ≤ p.fns.length ∧ fnsB p [] p.fns = fnsB p ((p.fns.take y).map Fn.nm) (p.fns.drop y))
    (fun y => [(1, .pointer (some ⟨b1, 0, none⟩)), (4, .int .i64 y)])
    (fun y => [[(b1, .cells ⟨p.cells⟩ 25 (0, 0))]])
    (fun y => p.fns.length - y) 0 ⟨Nat.zero_le _, rfl⟩ ⟨rfl, rfl, trivial⟩ (fun w' H => H) ?_
  rintro k ⟨hk, hR⟩
  dsimp only at hk hR ⊢
  repeat' (first | refine g_pv rfl rfl ?_ | refine g_ld 0 rfl rfl rfl rfl rfl rfl ?_ | refine g_nil ?_ | refine gq_then ?_ | refine gc_seq ?_ | refine gc_region ?_)
  refine gc_condC rfl (fun hc => ?_) (fun hc => ?_)
  rotate_left
  · have hge : k = p.fns.length := by have := of_decide_eq_false hc; omega
    repeat' (first | refine g_pv rfl rfl ?_ | refine g_nil ?_ | refine gq_then ?_ | refine gc_seq ?_ | refine gc_region ?_ | refine gc_exit ?_ | refine gc_ret ?_ | refine gq_then_exit ?_ | refine gq_block_exit ?_)
    refine gq_ret1 (.inr rfl) rfl rfl rfl (fun w' H => ⟨0, ?_, rfl, hp_nil H⟩)
    rw [hC2, hR, hge, List.drop_length]; rfl
  have hlt : k < p.fns.length := by have := of_decide_eq_true hc; omega
  have hx : p.fns[k]? = some (p.fns[k]) := List.getElem?_eq_getElem hlt
  have htk : p.fns.take (k + 1) = p.fns.take k ++ [p.fns[k]] := List.take_succ_eq_append_getElem hlt
  have hd : p.fns.drop k = p.fns[k] :: p.fns.drop (k + 1) := List.drop_eq_getElem_cons hlt
  generalize p.fns[k] = f at hx htk hd
  rw [hd, fnsB_cons, ← Bool.and_assoc] at hR
  repeat' (first | refine g_pv rfl rfl ?_ | refine g_ld 0 rfl rfl rfl rfl rfl rfl ?_ | refine gq_then ?_ | refine gc_seq ?_ | refine gc_region ?_ | refine gc_block ?_ | refine gc_skip ?_)
  refine g_call rfl (Cl.of Tryz.func32 rfl rfl) rfl rfl (fun w' hE => rfunction_sp p f k w' (hp.le (fun b o h => old_le hE b o (old_le0 _ w b o h))) hx hps) rfl ?_
  rintro t ht
  repeat' (first | refine g_pv rfl rfl ?_ | refine g_nil ?_ | refine gq_then ?_)
  cases t
  · repeat' (first | refine g_pv rfl rfl ?_ | refine g_nil ?_ | refine gq_then ?_ | refine gc_seq ?_ | refine gc_region ?_ | refine gc_cond_t rfl ?_ | refine gc_ret ?_ | refine gq_then_ret ?_ | refine gq_block_ret ?_)
    refine gq_ret1 (.inr rfl) rfl rfl rfl (fun w' H => ⟨130, ?_, rfl, hp_nil H⟩)
    rw [hC2, hR, ← ht]; rfl
  · repeat' (first | refine g_pv rfl rfl ?_ | refine g_nil ?_ | refine gq_then ?_ | refine gc_region ?_ | refine gc_cond_f rfl ?_ | refine gc_skip ?_ | refine gq_block ?_)
    refine gq_again (k + 1) ⟨hlt, ?_⟩ (by omega) ⟨rfl, inc_eq (by omega), trivial⟩ (fun w' H => H)
    rw [hR, ← ht, htk, List.map_append]; rfl
end Go.Proofs.YtpohhfggmaihpaaGreatDoor

/- The document's Print; the law TacPrints. -/
namespace Go.Proofs.YtpohhfggmaihpaaGreatDoor
open Go.Wk
set_option linter.unusedVariables false
set_option linter.unusedSimpArgs false
attribute [local irreducible] G GC GQ GA GS Exit.then Exit.inBlock

theorem line_ne {x : Ins} : lineT x ≠ [] := by
  intro h
  unfold lineT at h
  by_cases e1 : x.op = 1
  · rw [if_pos e1] at h
    simp [k_mov] at h
  rw [if_neg e1] at h
  by_cases e2 : x.op = 2
  · rw [if_pos e2] at h
    simp at h
  rw [if_neg e2] at h
  by_cases e3 : x.op = 3
  · rw [if_pos e3] at h
    simp [k_addr] at h
  rw [if_neg e3] at h
  by_cases e4 : x.op = 4
  · rw [if_pos e4] at h
    simp [k_glob] at h
  rw [if_neg e4] at h
  by_cases e5 : x.op = 5
  · rw [if_pos e5] at h
    simp [k_load] at h
  rw [if_neg e5] at h
  by_cases e6 : x.op = 6
  · rw [if_pos e6] at h
    simp [k_store] at h
  rw [if_neg e6] at h
  by_cases e7 : x.op = 7
  · rw [if_pos e7] at h
    simp [k_copy] at h
  rw [if_neg e7] at h
  by_cases e8 : x.op = 8
  · rw [if_pos e8] at h
    simp [k_call] at h
  rw [if_neg e8] at h
  by_cases e9 : x.op = 9
  · rw [if_pos e9] at h
    split at h <;> simp [k_ret] at h
  rw [if_neg e9] at h
  by_cases e10 : x.op = 10
  · rw [if_pos e10] at h
    simp [k_jump] at h
  rw [if_neg e10] at h
  by_cases e11 : x.op = 11
  · rw [if_pos e11] at h
    simp [k_branch] at h
  rw [if_neg e11] at h
  by_cases e12 : x.op = 12
  · rw [if_pos e12] at h
    simp [k_put] at h
  rw [if_neg e12] at h
  by_cases e13 : x.op = 13
  · rw [if_pos e13] at h
    simp [k_get] at h
  rw [if_neg e13] at h
  simp [k_exit] at h
theorem prR_ne {p : Pr} : ∀ q ∈ prR p, q ≠ [] := by
  intro q hq
  unfold prR at hq
  simp only [List.mem_append, List.mem_flatMap, List.mem_singleton] at hq
  rcases hq with (⟨o, -, hq⟩ | ⟨f, -, hq⟩) | rfl
  · unfold obR at hq
    simp only [List.mem_append, List.mem_singleton, List.mem_map] at hq
    rcases hq with (rfl | hq) | ⟨r, -, rfl⟩
    · simp [ob0R, k_object]
    · unfold obDR at hq
      split at hq
      · cases hq
      · rename_i h
        rw [List.mem_singleton] at hq
        rw [hq]; exact h
    · simp [relR, k_reloc]
  · unfold fnR at hq
    simp only [List.mem_append, List.mem_singleton, List.mem_map] at hq
    rcases hq with (rfl | ⟨s, -, rfl⟩) | ⟨x, -, rfl⟩
    · simp [fn0R, k_func]
    · simp [slotX, k_slot]
    · exact line_ne
  · simp [mainR, k_main]
theorem one_rd {h : Nat → Option Obj} {g : Nat} {e : TypeId} {fz : Nat × Nat} (hg : h g = some (.cells ⟨[.int .u8 10]⟩ e fz)) : ∀ (j : Nat) (u : Value), (bcells [10])[j]? = some u → cellAt h g (0 + j) = some u := fun j u hu => by
  unfold cellAt
  rw [hg, Nat.zero_add]
  simpa [bcells] using hu
set_option maxHeartbeats 16000000 in
theorem rprint_sp (p : Pr) (w : World) (hp : PrIn (hw w) p) : Sp Tryz.prog 21 [p.val] w [] (fun y : ByteArray × Int => .tuple #[.string y.1, .int .i64 y.2]) (fun _ => []) (fun y => (bytesL y.1, y.2) = printB p) := by
  refine enter (s := Tryz.sx) [] Tryz.func21 rfl rfl rfl (Eff.refl w) ?_
  refine gc_seq ?_
  repeat' (first | refine g_pv rfl rfl ?_ | refine g_nil ?_ | refine gq_then ?_ | refine gc_region ?_ | refine g_box rfl rfl (fun _ => ?_))
  rename_i b1
  repeat' (first | refine g_ld 0 rfl rfl rfl rfl rfl rfl ?_ | refine gc_seq ?_ | refine gc_region ?_)
  refine g_call rfl (Cl.of Tryz.func14 rfl rfl) rfl rfl (fun w' hE => rcheck_sp p w' (hp.le (fun b o h => old_le hE b o (old_le0 _ w b o h)))) rfl ?_
  rintro _ rfl
  cases hq : checkB p
  · repeat' (first | refine g_pv rfl rfl ?_ | refine g_nil ?_ | refine gq_then ?_ | refine gc_seq ?_ | refine gc_region ?_ | refine gc_cond_t rfl ?_ | refine gc_ret ?_ | refine gq_then_ret ?_)
    refine gq_ret2 (.inr rfl) rfl rfl rfl rfl (fun w' H => ⟨(⟨#[]⟩, 130), ?_, rfl, hp_nil H⟩)
    unfold printB; rw [hq]; rfl
  have hPP := check_PP hq
  have hT := txt_len hp hPP
  have hRW : (prW p).map jn = prR p := pr_eq (fun f hf => (hPP.fn f hf).2.2.2)
  have hTR : txt (prW p) = (prR p).flatMap (· ++ [10]) := by rw [txt_eq, hRW]
  have hne := prR_ne (p := p)
  refine g_heap (R' := [[(b1, .cells ⟨p.cells⟩ 25 (0, 0))]]) (fun w H => H) ?_
  repeat' (first | refine g_pv rfl rfl ?_ | refine g_ld 0 rfl rfl rfl rfl rfl rfl ?_ | refine g_nil ?_ | refine gq_then ?_ | refine gc_seq ?_ | refine gc_region ?_ | refine gc_cond_f rfl ?_ | refine gc_skip ?_)
  refine g_call rfl (Cl.of Tryz.func41 rfl rfl) rfl rfl (fun w' hE => lines_sp p w' (hp.le (fun b o h => old_le hE b o (old_le0 _ w b o h))) hPP) rfl ?_
  rintro ⟨v, A⟩ ho
  dsimp only at ho ⊢
  have hN : (prR p).length ≤ 536870912 := by rw [← hRW, List.length_map]; exact Nat.le_trans (lines_le _) hT
  repeat' (first | refine g_pv rfl rfl ?_ | refine g_nil ?_ | refine gq_then ?_ | refine gc_seq ?_ | refine gc_region ?_)
  refine gc_condC rfl (fun hc => ?_) (fun hc => ?_)
  · have hc := of_decide_eq_false (Bool.not_eq_true' _ ▸ hc)
    repeat' (first | refine g_pv rfl rfl ?_ | refine g_nil ?_ | refine gq_then ?_ | refine gc_seq ?_ | refine gc_region ?_ | refine gc_ret ?_ | refine gq_then_ret ?_)
    refine gq_ret2 (.inr rfl) rfl rfl rfl rfl (fun w' H => ⟨(⟨#[]⟩, 2), ?_, rfl, hp_nil H⟩)
    unfold printB; rw [if_pos hq, if_pos (by omega)]; rfl
  have hc := of_decide_eq_true (Bool.not_eq_false' _ ▸ hc)
  have hres : printB p = ((prR p).flatMap (· ++ [10]), 0) := by unfold printB; rw [if_pos hq, if_neg (by omega), hTR]
  rw [hTR] at hT
  rw [hres]
  generalize prR p = M at ho hne hT hN
  obtain ⟨ad, c, rfl, -, -⟩ := ownW_shape ho
  repeat' (first | refine g_pv rfl rfl ?_ | refine g_nil ?_ | refine gq_then ?_ | refine gc_seq ?_ | refine gc_region ?_ | refine gc_block ?_ | refine gc_skip ?_)
  refine gc_loop (Y := Value × HL × Nat) (fun y => OwnZ 5 1 y.1 ((M.take y.2.2).flatMap (· ++ [10])).length (bcells ((M.take y.2.2).flatMap (· ++ [10]))) y.2.1 ∧ y.2.2 ≤ M.length)
    (fun y => [(4, .slice ad M.length c), (6, y.1), (7, .int .i64 y.2.2)]) (fun y => [y.2.1, A]) (fun y => M.length - y.2.2) (.slice none 0 0, [], 0) ⟨⟨rfl, .inl ⟨rfl, rfl, rfl⟩⟩, Nat.zero_le _⟩ ⟨rfl, rfl, rfl, trivial⟩ (fun w' H => hp_perm (hp_take 0 rfl (fun H => hp_nil H) H) (by simp)) ?_
  rintro ⟨u, B, k⟩ ⟨hB, hk⟩
  dsimp only at hB hk ⊢
  repeat' (first | refine g_pv rfl rfl ?_ | refine g_nil ?_ | refine gq_then ?_ | refine gc_seq ?_ | refine gc_region ?_)
  refine gc_condC rfl (fun cc => ?_) (fun cc => ?_)
  rotate_left
  · have hge : k = M.length := by have := of_decide_eq_false cc; omega
    subst hge
    rw [List.take_length] at hB
    obtain ⟨ad2, c2, rfl⟩ := hB.shape
    repeat' (first | refine g_pv rfl rfl ?_ | refine gq_then ?_ | refine gc_seq ?_ | refine gc_region ?_ | refine gc_exit ?_ | refine gq_then_exit ?_ | refine gq_block_exit ?_)
    refine g_bstr (l := M.flatMap (· ++ [10])) rfl rfl rfl rfl rfl (fun w' H => ?_) ?_
    · obtain ⟨ad3, c3, he3, hr3⟩ := ownZ_rd (w := w') hB (fun b o hb => hp_in H 0 rfl b o hb)
      cases he3; exact hr3
    repeat' (first | refine g_pv rfl rfl ?_ | refine g_nil ?_ | refine gq_then ?_ | refine gc_ret ?_)
    exact gq_ret2 (.inr rfl) rfl rfl rfl rfl (fun w' H => ⟨(_, 0), rfl, rfl, hp_nil H⟩)
  have hlt := of_decide_lt cc
  have hxq : M[k]? = some (M[k]) := List.getElem?_eq_getElem hlt
  have hqn := hne _ (List.mem_of_getElem? hxq)
  have htk := take_flat (fun x : Bs => x ++ [10]) hxq
  have hle := (take_flat_pre (fun x : Bs => x ++ [10]) M (k + 1)).length_le
  generalize M[k] = q at hxq hqn htk
  have hql : 0 < (mkB q).size := by rw [size_bytesL]; exact List.length_pos_iff.2 hqn
  have hq2 : (mkB q).size = q.length := size_bytesL _
  rw [htk, List.length_append, List.length_append] at hle
  have hs : ((M.take k).flatMap (fun x : Bs => x ++ [10])).length + (q.length + 1) ≤ 536870912 := Nat.le_trans hle hT
  repeat' (first | refine g_pv rfl rfl ?_ | refine gq_then ?_ | refine gc_seq ?_ | refine gc_region ?_ | refine gc_block ?_ | refine gc_skip ?_)
  refine g_atL 1 rfl rfl ho (fun _ => rfl) rfl rfl rfl rfl (Int.natCast_nonneg k) hxq rfl rfl rfl (fun a => ?_)
  repeat' (fail)
  refine g_appS 0 rfl rfl rfl rfl rfl rfl rfl rfl rfl hB hql (by unfold maxLen; omega) (by omega) rfl (fun u2 B2 hB2 => ?_)
  refine g_heap (R' := [B2, A]) (fun w H => H) ?_
  repeat' (first | refine g_pv rfl rfl ?_ | refine g_nil ?_ | refine gq_then ?_ | refine gc_region ?_)
  refine g_litL rfl rfl rfl rfl rfl rfl rfl rfl rfl rfl (fun g => ?_)
  refine g_appZ 1 (news := bcells [10]) rfl rfl rfl rfl rfl rfl rfl hB2 rfl (by decide) (fun w' H j u hu => by rw [addr_add, ← cellAt_hw]; exact one_rd (hp_in H 0 rfl g _ List.mem_cons_self) j u hu) (by simp [bcells, Value.oneCell']) (by unfold maxLen; omega) (by show (_ + 1) * 1 ≤ _; omega) rfl (fun u3 B3 hB3 => ?_)
  refine g_heap (R' := [B3, A]) (fun w H => hp_tail H) ?_
  repeat' (first | refine g_pv rfl rfl ?_ | refine g_nil ?_ | refine gq_then ?_ | refine gc_region ?_ | refine gq_block ?_)
  refine gq_again (u3, B3, k + 1) ⟨?_, hlt⟩ (by dsimp only; omega) ⟨rfl, rfl, inc_eq (by omega), trivial⟩ (fun w' H => H)
  have e1 : ((M.take (k + 1)).flatMap (fun x : Bs => x ++ [10])).length = ((M.take k).flatMap (fun x : Bs => x ++ [10])).length + (mkB q).size + 1 := by rw [htk, List.length_append, List.length_append, hq2]; rfl
  have e2 : bcells ((M.take (k + 1)).flatMap (fun x : Bs => x ++ [10])) = bcells ((M.take k).flatMap (fun x : Bs => x ++ [10])) ++ Lib.strCells (mkB q) ++ bcells [10] := by rw [htk, bcells_append, bcells_append, List.append_assoc]; rfl
  show OwnZ 5 1 u3 ((M.take (k + 1)).flatMap (fun x : Bs => x ++ [10])).length (bcells ((M.take (k + 1)).flatMap (fun x : Bs => x ++ [10]))) B3
  rw [e1, e2]
  exact hB3
theorem bytesL_inj {a b : ByteArray} (h : bytesL a = bytesL b) : a = b := (mkB_of h).trans (mkB_of rfl).symm
set_option maxHeartbeats 8000000 in
theorem tacPrints_sp (p : Pr) (w : World) (hp : PrIn (hw w) p) (h20 : Pow20 (hw w)) : Sp Tryz.prog 6 [p.val] w [] (fun _ : Unit => .bool true) (fun _ => []) (fun _ => True) := by
  refine enter (s := Tryz.sx) [] Tryz.func6 rfl rfl rfl (Eff.refl w) ?_
  refine gc_seq ?_
  repeat' (first | refine g_pv rfl rfl ?_ | refine g_nil ?_ | refine gq_then ?_ | refine gc_region ?_ | refine g_box rfl rfl (fun _ => ?_))
  rename_i b1
  repeat' (first | refine g_ld 0 rfl rfl rfl rfl rfl rfl ?_ | refine gc_seq ?_ | refine gc_region ?_)
  refine g_call rfl (Cl.of Tryz.func20 rfl rfl) rfl rfl (fun w' hE => print_sp p w' (hp.le (fun b o h => old_le hE b o (old_le0 _ w b o h))) (h20.le (fun b o h => old_le hE b o (old_le0 _ w b o h)))) rfl ?_
  rintro ⟨s1, e1⟩ h1
  dsimp only at h1 ⊢
  repeat' (first | refine g_pv rfl rfl ?_ | refine g_ld 0 rfl rfl rfl rfl rfl rfl ?_ | refine g_nil ?_ | refine gq_then ?_ | refine gc_seq ?_ | refine gc_region ?_)
  refine g_call rfl (Cl.of Tryz.func21 rfl rfl) rfl rfl (fun w' hE => rprint_sp p w' (hp.le (fun b o h => old_le hE b o (old_le0 _ w b o h)))) rfl ?_
  rintro ⟨s2, e2⟩ h2
  dsimp only at h2 ⊢
  obtain rfl : s1 = s2 := bytesL_inj (by rw [← h2, Prod.mk.injEq] at h1; exact h1.1)
  obtain rfl : e1 = e2 := by rw [← h2, Prod.mk.injEq] at h1; exact h1.2
  repeat' (first | refine g_pv rfl rfl ?_ | refine g_nil ?_ | refine gq_then ?_ | refine gc_seq ?_ | refine gc_region ?_)
  refine g_p (p_eqT rfl rfl rfl) rfl ?_
  refine g_eq 19 (u' := .bool true) rfl (by rw [beq_self_eq_true]) ?_
  repeat' (first | refine g_pv rfl rfl ?_ | refine g_yes rfl rfl rfl ?_)
  refine g_eq 25 (u' := .bool true) rfl (by rw [beq_self_eq_true]) ?_
  repeat' (refine g_yes rfl rfl rfl ?_)
  refine g_call rfl (Cl.of Tryz.func9 rfl rfl) rfl rfl (fun w' hE => heads13_sp w' (h20.ten.le (fun b o h => old_le hE b o (old_le0 _ w b o h)))) rfl (fun _ _ => ?_)
  repeat' (first | refine g_pv rfl rfl ?_ | refine g_nil ?_ | refine gq_then ?_ | refine gc_ret ?_)
  exact gq_ret1 (.inr rfl) rfl rfl rfl (fun w' H => ⟨(), trivial, rfl, hp_nil H⟩)
end Go.Proofs.YtpohhfggmaihpaaGreatDoor

/- TacPrints: PROVED FOR EVERY INPUT: the call returns true, and its argument reads as it read; over worlds whose listed tables read as the program lays them. -/
namespace Go.Proofs.YtpohhfggmaihpaaGreatDoor
open Go.Wk Go.ChangeShapes Go.WideShapes Go.ChangeAt Go.RowKit
set_option linter.unusedVariables false
set_option maxRecDepth 100000

theorem pow20_of {W : World} (h : laidMetH Tryz.prog laid13 W) : Pow20 (hw W) := by
  rw [MakeChecks.laidMetH_plain _ _ _ (by kernel_rfl)] at h
  have h1 := laidMet.filter (fun x => x.1 == "internal/strconv.uint64pow10") h
  have e : laid13.filter (fun x => x.1 == "internal/strconv.uint64pow10") = [("internal/strconv.uint64pow10", Lib.tabData .u64 pow10Z)] := by kernel_rfl
  rw [e] at h1
  have ht : Lib.TabIs Tryz.prog W "internal/strconv.uint64pow10" .u64 pow10Z := Lib.tabIs_of_head (rest := []) gPow gPowT Tryz.underlying207 Tryz.underlying148 (by kernel_rfl) (by kernel_rfl) h1
  unfold Lib.TabIs World.var? at ht
  rw [gPow] at ht
  simp only [Option.bind_some] at ht
  unfold Pow20 hw
  cases hh : W.heap[1]? with
  | none => rw [hh] at ht; cases ht
  | some o => cases o with
    | cells c e fz =>
      rw [hh] at ht
      have hc : c = (pow10Z.map fun z => Value.int .u64 z).toArray := Option.some.inj ht
      exact ⟨e, fz, by rw [hc]; rfl⟩
    | _ => rw [hh] at ht; cases ht
theorem tacPrints_contract (H : Type) (enc : TypeId × Value → H) (W : World) (base : Nat) (args : Array Value) (ds gs : List (DataW H)) (before : List MemPlace)
    (hval : ∀ (j : Nat) t v, Tryz.f6.params[j]? = some t → args[j]? = some v → Value.okWide Tryz.prog W .any base t v)
    (hW : DataW.Whole enc Tryz.prog Tryz.f6.params.toList Rows.tacPrintsSpec.vars false W args.toList ds gs before)
    (hsz : (DataW.weightsEach Tryz.prog (Tryz.f6.params.toList ++ Rows.tacPrintsSpec.plain.varTypes Tryz.prog) (ds ++ gs)).all (· ≤ reachBytes) = true) (hL : laidMetH Tryz.prog laid13 W) :
    Calls Tryz.prog 6 args W fun e W' => ∃ v, e = .returned v ∧ Rows.tacPrintsSpec.post enc Tryz.prog Tryz.f6 false true false false W args v W' := by
  have hW' := hW
  obtain ⟨p, q, hA0, hV, rfl, hfz, hnd⟩ := hW
  have hA : DataW.TrodAll enc Tryz.prog W 0 (fun _ => true) true Tryz.f6.params.toList args.toList ds p := hA0
  rw [Tryz.params6] at hA hval hsz
  obtain ⟨v0, d0, rfl, rfl, h0⟩ := trodAll_one hA
  obtain ⟨rfl, rfl⟩ := trodVars_none hV
  have hws : ∀ n ∈ d0.weights Tryz.prog 25, n ≤ reachBytes := fun n hn => by
    have := List.all_eq_true.1 hsz n (DataW.weights_mem_each (j := 0) rfl rfl n hn)
    simpa using this
  obtain ⟨pr, rfl, hc⟩ := prog_read (hval 0 25 _ rfl rfl) h0 hws
  clear hA0 hval hA hsz
  simp only [List.append_nil] at hW'
  refine (tacPrints_sp pr W hc (pow20_of hL)).mono fun e W' ⟨_, _, he, hE⟩ => ?_
  subst he
  have hB := eff_below hE
  have hlt : ∀ x ∈ p, x.block < W.heap.size := fun x hx => by simpa using hW'.lt x hx
  refine ⟨_, rfl, _, _, _, [], p, [], hW', ?_, ?_, ?_, hB.frame _, fun h => by cases h⟩
  · exact trodAll_mk1 (shut_bool Tryz.underlying4 _)
  · exact trodAll_mk1 (prog_again h0 hB hlt)
  · exact rfl

theorem tacPrints_reads (os : Os) {H : Type} (enc : TypeId × Value → H) : ∃ places, DataW.whole enc Tryz.prog ((World.laidAll Tryz.prog os laid13).forCall (fun _ _ => 0) ⟨#[], #[.agg #[.slice none 0 0, .slice none 0 0, .int .i64 0]], []⟩).memory Tryz.f6.params.toList Rows.tacPrintsSpec.vars false #[Value.agg #[.slice none 0 0, .slice none 0 0, .int .i64 0]].toList 8 = some ([.agg [.nil, .nil, .lit (.int .i64 0)]], [], places) :=
  ⟨[], by kernel_rfl⟩
theorem tacPrints_lifted (os : Os) (started : os.Started) (H : Type) (enc : TypeId × Value → H) (F : Stop.Interp) :
    ReturnsInHanded {} Tryz.checked os 6 .any ((OpenSpec.ofChange Rows.tacPrintsSpec).preRow enc Tryz.prog Tryz.f6 Rows.tacPrintsRow.domain false Rows.tacPrintsRow.laid) (((OpenSpec.ofChange Rows.tacPrintsSpec).at F).post enc Tryz.prog Tryz.f6 false true false false) := by
  obtain ⟨places, hx⟩ := tacPrints_reads os enc
  refine returnsInHanded_of_row (C := Tryz.checked) (s := OpenSpec.ofChange Rows.tacPrintsSpec) own_knob started (by kernel_rfl) Tryz.func6
    (witness_row_atRef (enc := enc) (C := Tryz.checked) false (World.laidAll Tryz.prog os laid13) #[.agg #[.slice none 0 0, .slice none 0 0, .int .i64 0]] (World.laidAll_os _ _ _) (by kernel_rfl) (by kernel_rfl) (by kernel_rfl)
      (OpenSpec.preRow_of_cond 8 hx (by kernel_rfl) (fun k hk => by cases hk) (by kernel_rfl) (laid13_met os _))) ?_
  intro W base args ds gs before hval hW _ _ hsz hL _ _
  exact tacPrints_contract H enc W base args ds gs before hval hW hsz hL
end Go.Proofs.YtpohhfggmaihpaaGreatDoor
