/-
  tac.Next.
-/
import Derived.Test.YthiehhglnaiohaaGreatDoorF2
namespace Go.Proofs.YthiehhglnaiohaaGreatDoor
open Go.Wk
set_option linter.unusedVariables false
set_option linter.unusedSimpArgs false
attribute [local irreducible] G GC GQ GA GS Exit.then Exit.inBlock

theorem ins_at {H : Nat → Option Obj} {ad : Option Addr} {l : List Ins} (hc : CodeIn H ad l) {i : Nat} (hi : i < l.length) : InsIn H l[i] := hc.all _ (List.getElem_mem hi)

theorem own_lit1 (g : Nat) (n : Int) : OwnI (.slice (some ⟨g, 0, none⟩) 1 1) [n] [(g, .cells ⟨[.int .i64 n]⟩ 3 (0, 0))] := ⟨rfl, .inr ⟨g, 1, [], rfl, rfl, Nat.le_refl _, by decide, rfl⟩⟩
theorem own_lit2 (g : Nat) (n m : Int) : OwnI (.slice (some ⟨g, 0, none⟩) 2 2) [n, m] [(g, .cells ⟨[.int .i64 n, .int .i64 m]⟩ 3 (0, 0))] := ⟨rfl, .inr ⟨g, 2, [], rfl, rfl, Nat.le_refl _, by decide, rfl⟩⟩

/-- What tac.Next hands to DeleteFunc. -/
def rawNext (x : Ins) (i : Int) : List Int :=
  if x.op = 9 ∨ x.op = 14 then [] else if x.op = 10 then [x.n] else if x.op = 11 then [i + 1, x.n] else [i + 1]
def notIn (n : Int) (k : Int) : Bool := !(decide (0 ≤ k) && decide (k < n))
theorem sorted0 : sorted [] = [] := by simp [sorted]
theorem sorted1 (a : Int) : sorted [a] = [a] := by simp [sorted]
theorem sorted2 (a b : Int) : sorted [a, b] = [min a b, max a b] := by
  simp [sorted, List.mergeSort, List.MergeSort.Internal.splitInTwo, List.merge]
  by_cases h : a ≤ b
  · simp [h, Int.min_eq_left, Int.max_eq_right]
  · simp [h, Int.min_eq_right (by omega : b ≤ a), Int.max_eq_left (by omega : b ≤ a)]
theorem compact0 : Lib.compact ([] : List Int) = [] := by simp [Lib.compact, Lib.compactUpTo]
theorem compact1 (a : Int) : Lib.compact [a] = [a] := by simp [Lib.compact, Lib.compactUpTo, Lib.keeps]
theorem compact2 (a b : Int) : Lib.compact [a, b] = if a = b then [a] else [a, b] := by
  unfold Lib.compact
  simp only [List.length_cons, List.length_nil]
  rw [Lib.compactUpTo_succ, Lib.compactUpTo_succ]
  by_cases h : a = b
  · simp [Lib.compactUpTo, Lib.keeps, h]
  · simp [Lib.compactUpTo, Lib.keeps, h, Ne.symm h]
theorem next_law (n : Int) (x : Ins) (i : Int) : Lib.compact (sorted ((rawNext x i).filter fun k => !notIn n k)) = nextL n x i := by
  have e : (fun k => !notIn n k) = fun k => decide (0 ≤ k) && decide (k < n) := by funext k; simp [notIn]
  rw [e]
  unfold rawNext nextL
  have one : ∀ a : Int, Lib.compact (sorted ([a].filter fun k => decide (0 ≤ k) && decide (k < n))) = [a].filter fun k => decide (0 ≤ k) && decide (k < n) := fun a => by
    by_cases h : (decide (0 ≤ a) && decide (a < n)) = true
    · rw [List.filter_cons_of_pos (by simpa using h)]; simp [sorted1, compact1]
    · rw [List.filter_cons_of_neg (by simpa using h)]; simp [sorted0, compact0]
  split
  · simp [sorted0, compact0]
  split
  · exact one _
  split
  · generalize i + 1 = a
    generalize x.n = b
    by_cases hab : b = a
    · subst hab
      rw [if_pos rfl]
      by_cases h : (decide (0 ≤ b) && decide (b < n)) = true
      · rw [List.filter_cons_of_pos (by simpa using h), List.filter_cons_of_pos (by simpa using h)]; simp [sorted2, compact2]
      · rw [List.filter_cons_of_neg (by simpa using h), List.filter_cons_of_neg (by simpa using h)]; simp [sorted0, compact0]
    · rw [if_neg hab]
      have hmm : (min a b = a ∧ max a b = b) ∨ (min a b = b ∧ max a b = a) := by omega
      by_cases ha : (decide (0 ≤ a) && decide (a < n)) = true <;> by_cases hb : (decide (0 ≤ b) && decide (b < n)) = true
      all_goals (rcases hmm with ⟨h1, h2⟩ | ⟨h1, h2⟩)
      all_goals (try simp only [List.filter_cons, ha, hb, h1, h2, if_true, if_false, List.filter_nil, Bool.false_eq_true, sorted0, sorted1, sorted2, compact0, compact1, compact2, hab, Ne.symm hab])
  · exact one _

theorem next_sp (l : List Ins) (i : Nat) (ad : Option Addr) (cap : Nat) (w : World) (hc : CodeIn (hw w) ad l) (hi : i < l.length) :
    Sp Tryz.prog 17 [.slice ad l.length cap, .int .i64 i] w [] (fun y : Value × HL => y.1) (fun y => [y.2]) (fun y => OwnI y.1 (nextL l.length l[i] i) y.2) := by
  have hlen := hc.len
  have hx := ins_at hc hi
  refine enter (s := Tryz.sx) [] Tryz.func17 rfl rfl rfl (Eff.refl w) ?_
  refine gc_seq ?_
  repeat' (first | refine g_pv rfl rfl ?_ | refine g_ld 0 rfl rfl rfl rfl rfl rfl ?_ | refine g_ld 1 rfl rfl rfl rfl rfl rfl ?_ | refine g_ld 2 rfl rfl rfl rfl rfl rfl ?_ | refine g_ld 3 rfl rfl rfl rfl rfl rfl ?_ | refine g_ld 4 rfl rfl rfl rfl rfl rfl ?_ | refine g_nil ?_ | refine gq_then ?_ | refine gc_region ?_ | refine gc_block ?_ | refine gc_cond_t rfl ?_ | refine gc_cond_f rfl ?_ | refine gc_skip ?_ | refine gc_exit ?_ | refine gc_ret ?_ | refine gq_then_exit ?_ | refine gq_then_ret ?_ | refine gq_block ?_ | refine gq_block_ret ?_ | refine gq_block_exit ?_ | refine gq_block_exit' rfl ?_ | refine g_yes rfl rfl rfl ?_ | refine g_no rfl rfl rfl rfl rfl ?_ | refine g_box rfl rfl (fun _ => ?_) | refine g_alloc rfl rfl (fun _ => ?_) | refine g_st 0 rfl rfl rfl rfl rfl rfl rfl ?_ | refine g_st 1 rfl rfl rfl rfl rfl rfl rfl ?_ | refine g_st 2 rfl rfl rfl rfl rfl rfl rfl ?_ | refine g_st 3 rfl rfl rfl rfl rfl rfl rfl ?_)
  rename_i b2
  refine gc_seq ?_
  refine gc_seq ?_
  repeat' (first | refine g_pv rfl rfl ?_ | refine g_ld 0 rfl rfl rfl rfl rfl rfl ?_ | refine g_ld 1 rfl rfl rfl rfl rfl rfl ?_ | refine g_ld 2 rfl rfl rfl rfl rfl rfl ?_ | refine g_ld 3 rfl rfl rfl rfl rfl rfl ?_ | refine g_ld 4 rfl rfl rfl rfl rfl rfl ?_ | refine g_nil ?_ | refine gq_then ?_ | refine gc_region ?_ | refine gc_block ?_ | refine gc_cond_t rfl ?_ | refine gc_cond_f rfl ?_ | refine gc_skip ?_ | refine gc_exit ?_ | refine gc_ret ?_ | refine gq_then_exit ?_ | refine gq_then_ret ?_ | refine gq_block ?_ | refine gq_block_ret ?_ | refine gq_block_exit ?_ | refine gq_block_exit' rfl ?_ | refine g_yes rfl rfl rfl ?_ | refine g_no rfl rfl rfl rfl rfl ?_ | refine g_box rfl rfl (fun _ => ?_) | refine g_alloc rfl rfl (fun _ => ?_) | refine g_st 0 rfl rfl rfl rfl rfl rfl rfl ?_ | refine g_st 1 rfl rfl rfl rfl rfl rfl rfl ?_ | refine g_st 2 rfl rfl rfl rfl rfl rfl rfl ?_ | refine g_st 3 rfl rfl rfl rfl rfl rfl rfl ?_)
  refine g_call rfl (Cl.of Tryz.func42 rfl rfl) rfl rfl (fun w hE => within_sp _ _ w) rfl (fun y hy => ?_)
  rw [show (decide ((0 : Int) ≤ i) && decide ((i : Int) < l.length)) = true from by simp; omega]
  repeat' (first | refine g_pv rfl rfl ?_ | refine g_ld 0 rfl rfl rfl rfl rfl rfl ?_ | refine g_ld 1 rfl rfl rfl rfl rfl rfl ?_ | refine g_ld 2 rfl rfl rfl rfl rfl rfl ?_ | refine g_ld 3 rfl rfl rfl rfl rfl rfl ?_ | refine g_ld 4 rfl rfl rfl rfl rfl rfl ?_ | refine g_nil ?_ | refine gq_then ?_ | refine gc_region ?_ | refine gc_block ?_ | refine gc_cond_t rfl ?_ | refine gc_cond_f rfl ?_ | refine gc_skip ?_ | refine gc_exit ?_ | refine gc_ret ?_ | refine gq_then_exit ?_ | refine gq_then_ret ?_ | refine gq_block ?_ | refine gq_block_ret ?_ | refine gq_block_exit ?_ | refine gq_block_exit' rfl ?_ | refine g_yes rfl rfl rfl ?_ | refine g_no rfl rfl rfl rfl rfl ?_ | refine g_box rfl rfl (fun _ => ?_) | refine g_alloc rfl rfl (fun _ => ?_) | refine g_st 0 rfl rfl rfl rfl rfl rfl rfl ?_ | refine g_st 1 rfl rfl rfl rfl rfl rfl rfl ?_ | refine g_st 2 rfl rfl rfl rfl rfl rfl rfl ?_ | refine g_st 3 rfl rfl rfl rfl rfl rfl rfl ?_)
  refine gc_seq ?_
  repeat' (first | refine g_pv rfl rfl ?_ | refine g_ld 0 rfl rfl rfl rfl rfl rfl ?_ | refine g_ld 1 rfl rfl rfl rfl rfl rfl ?_ | refine g_ld 2 rfl rfl rfl rfl rfl rfl ?_ | refine g_ld 3 rfl rfl rfl rfl rfl rfl ?_ | refine g_ld 4 rfl rfl rfl rfl rfl rfl ?_ | refine g_nil ?_ | refine gq_then ?_ | refine gc_region ?_ | refine gc_block ?_ | refine gc_cond_t rfl ?_ | refine gc_cond_f rfl ?_ | refine gc_skip ?_ | refine gc_exit ?_ | refine gc_ret ?_ | refine gq_then_exit ?_ | refine gq_then_ret ?_ | refine gq_block ?_ | refine gq_block_ret ?_ | refine gq_block_exit ?_ | refine gq_block_exit' rfl ?_ | refine g_yes rfl rfl rfl ?_ | refine g_no rfl rfl rfl rfl rfl ?_ | refine g_box rfl rfl (fun _ => ?_) | refine g_alloc rfl rfl (fun _ => ?_) | refine g_st 0 rfl rfl rfl rfl rfl rfl rfl ?_ | refine g_st 1 rfl rfl rfl rfl rfl rfl rfl ?_ | refine g_st 2 rfl rfl rfl rfl rfl rfl rfl ?_ | refine g_st 3 rfl rfl rfl rfl rfl rfl rfl ?_)
  refine gc_cut (Y := Value × HL) (fun y => OwnI y.1 (rawNext l[i] i) y.2) (fun y => [(5, y.1), (2, .pointer (some ⟨b2, 0, none⟩))]) (fun y => [y.2, [(b2, .cells ⟨[.slice ad l.length cap]⟩ 30 (0, 0))]]) ?_ ?_
  · repeat' (first | refine g_pv rfl rfl ?_ | refine g_ld 0 rfl rfl rfl rfl rfl rfl ?_ | refine g_ld 1 rfl rfl rfl rfl rfl rfl ?_ | refine g_ld 2 rfl rfl rfl rfl rfl rfl ?_ | refine g_ld 3 rfl rfl rfl rfl rfl rfl ?_ | refine g_ld 4 rfl rfl rfl rfl rfl rfl ?_ | refine g_nil ?_ | refine gq_then ?_ | refine gc_seq ?_ | refine gc_region ?_ | refine gc_block ?_ | refine gc_cond_t rfl ?_ | refine gc_cond_f rfl ?_ | refine gc_skip ?_ | refine gc_exit ?_ | refine gc_ret ?_ | refine gq_then_exit ?_ | refine gq_then_ret ?_ | refine gq_block ?_ | refine gq_block_ret ?_ | refine gq_block_exit ?_ | refine gq_block_exit' rfl ?_ | refine g_yes rfl rfl rfl ?_ | refine g_no rfl rfl rfl rfl rfl ?_ | refine g_box rfl rfl (fun _ => ?_) | refine g_alloc rfl rfl (fun _ => ?_) | refine g_st 0 rfl rfl rfl rfl rfl rfl rfl ?_ | refine g_st 1 rfl rfl rfl rfl rfl rfl rfl ?_ | refine g_st 2 rfl rfl rfl rfl rfl rfl rfl ?_ | refine g_st 3 rfl rfl rfl rfl rfl rfl rfl ?_)
    refine g_at (l := l) (f := Ins.cells) (u := l[i]) rfl rfl rfl rfl rfl (Int.natCast_nonneg i) (by omega) (hc.row.le (old_le0 _ w)) (List.getElem?_eq_getElem hi) rfl rfl rfl rfl (fun a => ?_)
    repeat' (first | refine g_pv rfl rfl ?_ | refine g_ld 0 rfl rfl rfl rfl rfl rfl ?_ | refine g_ld 1 rfl rfl rfl rfl rfl rfl ?_ | refine g_ld 2 rfl rfl rfl rfl rfl rfl ?_ | refine g_ld 3 rfl rfl rfl rfl rfl rfl ?_ | refine g_ld 4 rfl rfl rfl rfl rfl rfl ?_ | refine g_nil ?_ | refine gq_then ?_ | refine gc_seq ?_ | refine gc_region ?_ | refine gc_block ?_ | refine gc_cond_t rfl ?_ | refine gc_cond_f rfl ?_ | refine gc_skip ?_ | refine gc_exit ?_ | refine gc_ret ?_ | refine gq_then_exit ?_ | refine gq_then_ret ?_ | refine gq_block ?_ | refine gq_block_ret ?_ | refine gq_block_exit ?_ | refine gq_block_exit' rfl ?_ | refine g_yes rfl rfl rfl ?_ | refine g_no rfl rfl rfl rfl rfl ?_ | refine g_box rfl rfl (fun _ => ?_) | refine g_alloc rfl rfl (fun _ => ?_) | refine g_st 0 rfl rfl rfl rfl rfl rfl rfl ?_ | refine g_st 1 rfl rfl rfl rfl rfl rfl rfl ?_ | refine g_st 2 rfl rfl rfl rfl rfl rfl rfl ?_ | refine g_st 3 rfl rfl rfl rfl rfl rfl rfl ?_ | refine gc_condC rfl (fun hc => ?_) (fun hc => ?_) | refine g_litL rfl rfl rfl rfl rfl rfl rfl rfl rfl rfl (fun g => ?_))
    all_goals simp only [beq_iff_eq, beq_eq_false_iff_ne, ne_eq] at *
    all_goals (try rw [wrap_in (n := (i : Int) + 1) (by omega) (by omega)])
    · exact gq_at (.slice none 0 0, []) (by simpa [rawNext, *] using OwnL.nil 3 1 fI) ⟨rfl, rfl, trivial⟩ (fun w' H => hp_perm (hp_take 1 rfl (fun H => hp_nil H) H) (by simp; rfl))
    · exact gq_at (.slice none 0 0, []) (by simpa [rawNext, *] using OwnL.nil 3 1 fI) ⟨rfl, rfl, trivial⟩ (fun w' H => hp_perm (hp_take 1 rfl (fun H => hp_nil H) H) (by simp; rfl))
    · exact gq_at (_, _) ((show rawNext l[i] i = [l[i].n] from by simp [rawNext, *]) ▸ own_lit1 g l[i].n) ⟨rfl, rfl, trivial⟩ (fun w' H => hp_take 0 rfl (fun H => hp_take 1 rfl (fun H => hp_nil H) H) H)
    · exact gq_at (_, _) ((show rawNext l[i] i = [(i : Int) + 1, l[i].n] from by simp [rawNext, *]) ▸ own_lit2 g (i + 1) l[i].n) ⟨rfl, rfl, trivial⟩ (fun w' H => hp_take 0 rfl (fun H => hp_take 1 rfl (fun H => hp_nil H) H) H)
    · exact gq_at (_, _) ((show rawNext l[i] i = [(i : Int) + 1] from by simp [rawNext, *]) ▸ own_lit1 g (i + 1)) ⟨rfl, rfl, trivial⟩ (fun w' H => hp_take 0 rfl (fun H => hp_take 1 rfl (fun H => hp_nil H) H) H)
  · rintro ⟨v, A⟩ ho
    dsimp only at ho ⊢
    have hraw : (rawNext l[i] i).length ≤ 2 := by unfold rawNext; split <;> (try split) <;> (try split) <;> simp
    repeat' (first | refine g_pv rfl rfl ?_ | refine g_ld 0 rfl rfl rfl rfl rfl rfl ?_ | refine g_ld 1 rfl rfl rfl rfl rfl rfl ?_ | refine g_ld 2 rfl rfl rfl rfl rfl rfl ?_ | refine g_ld 3 rfl rfl rfl rfl rfl rfl ?_ | refine g_ld 4 rfl rfl rfl rfl rfl rfl ?_ | refine g_nil ?_ | refine gq_then ?_ | refine gc_seq ?_ | refine gc_region ?_ | refine gc_block ?_ | refine gc_cond_t rfl ?_ | refine gc_cond_f rfl ?_ | refine gc_skip ?_ | refine gc_exit ?_ | refine gc_ret ?_ | refine gq_then_exit ?_ | refine gq_then_ret ?_ | refine gq_block ?_ | refine gq_block_ret ?_ | refine gq_block_exit ?_ | refine gq_block_exit' rfl ?_ | refine g_yes rfl rfl rfl ?_ | refine g_no rfl rfl rfl rfl rfl ?_ | refine g_box rfl rfl (fun _ => ?_) | refine g_alloc rfl rfl (fun _ => ?_) | refine g_st 0 rfl rfl rfl rfl rfl rfl rfl ?_ | refine g_st 1 rfl rfl rfl rfl rfl rfl rfl ?_ | refine g_st 2 rfl rfl rfl rfl rfl rfl rfl ?_ | refine g_st 3 rfl rfl rfl rfl rfl rfl rfl ?_)
    refine g_callA rfl rfl (Cl.of Tryz.func45 rfl rfl) rfl rfl (fun w' hE => deleteF_sp (p := notIn l.length) _ w' 46 #[.pointer (some ⟨b2, 0, none⟩)] ho (hp_eff hE) (by omega)
      ⟨Cl.of Tryz.func46 rfl rfl, fun w2 n hh => next1_sp n b2 ad l.length cap w2 (hh.cell (by simp [cellAt, hp_exc hE (List.mem_append_left _ List.mem_cons_self)]))⟩) rfl ?_
    rintro ⟨v2, A2⟩ ho2
    have hfl := List.length_filter_le (fun x => !notIn l.length x) (rawNext l[i] i)
    repeat' (first | refine g_pv rfl rfl ?_ | refine g_ld 0 rfl rfl rfl rfl rfl rfl ?_ | refine g_ld 1 rfl rfl rfl rfl rfl rfl ?_ | refine g_ld 2 rfl rfl rfl rfl rfl rfl ?_ | refine g_ld 3 rfl rfl rfl rfl rfl rfl ?_ | refine g_ld 4 rfl rfl rfl rfl rfl rfl ?_ | refine g_nil ?_ | refine gq_then ?_ | refine gc_seq ?_ | refine gc_region ?_ | refine gc_block ?_ | refine gc_cond_t rfl ?_ | refine gc_cond_f rfl ?_ | refine gc_skip ?_ | refine gc_exit ?_ | refine gc_ret ?_ | refine gq_then_exit ?_ | refine gq_then_ret ?_ | refine gq_block ?_ | refine gq_block_ret ?_ | refine gq_block_exit ?_ | refine gq_block_exit' rfl ?_ | refine g_yes rfl rfl rfl ?_ | refine g_no rfl rfl rfl rfl rfl ?_ | refine g_box rfl rfl (fun _ => ?_) | refine g_alloc rfl rfl (fun _ => ?_) | refine g_st 0 rfl rfl rfl rfl rfl rfl rfl ?_ | refine g_st 1 rfl rfl rfl rfl rfl rfl rfl ?_ | refine g_st 2 rfl rfl rfl rfl rfl rfl rfl ?_ | refine g_st 3 rfl rfl rfl rfl rfl rfl rfl ?_)
    refine g_callA rfl rfl (Cl.of Tryz.func47 rfl rfl) rfl rfl (fun w' hE => sort_sp w' ho2 (hp_eff hE) (by omega)) rfl ?_
    intro A3 ho3
    repeat' (first | refine g_pv rfl rfl ?_ | refine g_ld 0 rfl rfl rfl rfl rfl rfl ?_ | refine g_ld 1 rfl rfl rfl rfl rfl rfl ?_ | refine g_ld 2 rfl rfl rfl rfl rfl rfl ?_ | refine g_ld 3 rfl rfl rfl rfl rfl rfl ?_ | refine g_ld 4 rfl rfl rfl rfl rfl rfl ?_ | refine g_nil ?_ | refine gq_then ?_ | refine gc_seq ?_ | refine gc_region ?_ | refine gc_block ?_ | refine gc_cond_t rfl ?_ | refine gc_cond_f rfl ?_ | refine gc_skip ?_ | refine gc_exit ?_ | refine gc_ret ?_ | refine gq_then_exit ?_ | refine gq_then_ret ?_ | refine gq_block ?_ | refine gq_block_ret ?_ | refine gq_block_exit ?_ | refine gq_block_exit' rfl ?_ | refine g_yes rfl rfl rfl ?_ | refine g_no rfl rfl rfl rfl rfl ?_ | refine g_box rfl rfl (fun _ => ?_) | refine g_alloc rfl rfl (fun _ => ?_) | refine g_st 0 rfl rfl rfl rfl rfl rfl rfl ?_ | refine g_st 1 rfl rfl rfl rfl rfl rfl rfl ?_ | refine g_st 2 rfl rfl rfl rfl rfl rfl rfl ?_ | refine g_st 3 rfl rfl rfl rfl rfl rfl rfl ?_)
    refine g_callA rfl rfl (Cl.of Tryz.func48 rfl rfl) rfl rfl (fun w' hE => compact_sp w' ho3 (hp_eff hE) (by rw [sorted_len]; omega)) rfl ?_
    rintro ⟨v4, A4⟩ ho4
    rw [next_law] at ho4
    repeat' (first | refine g_pv rfl rfl ?_ | refine g_ld 0 rfl rfl rfl rfl rfl rfl ?_ | refine g_ld 1 rfl rfl rfl rfl rfl rfl ?_ | refine g_ld 2 rfl rfl rfl rfl rfl rfl ?_ | refine g_ld 3 rfl rfl rfl rfl rfl rfl ?_ | refine g_ld 4 rfl rfl rfl rfl rfl rfl ?_ | refine g_nil ?_ | refine gq_then ?_ | refine gc_seq ?_ | refine gc_region ?_ | refine gc_block ?_ | refine gc_cond_t rfl ?_ | refine gc_cond_f rfl ?_ | refine gc_skip ?_ | refine gc_exit ?_ | refine gc_ret ?_ | refine gq_then_exit ?_ | refine gq_then_ret ?_ | refine gq_block ?_ | refine gq_block_ret ?_ | refine gq_block_exit ?_ | refine gq_block_exit' rfl ?_ | refine g_yes rfl rfl rfl ?_ | refine g_no rfl rfl rfl rfl rfl ?_ | refine g_box rfl rfl (fun _ => ?_) | refine g_alloc rfl rfl (fun _ => ?_) | refine g_st 0 rfl rfl rfl rfl rfl rfl rfl ?_ | refine g_st 1 rfl rfl rfl rfl rfl rfl rfl ?_ | refine g_st 2 rfl rfl rfl rfl rfl rfl rfl ?_ | refine g_st 3 rfl rfl rfl rfl rfl rfl rfl ?_)
    exact gq_ret1 (.inr rfl) rfl rfl rfl (fun w' H => ⟨(v4, A4), ho4, rfl, hp_take 0 rfl (fun H => hp_nil H) H⟩)
end Go.Proofs.YthiehhglnaiohaaGreatDoor
