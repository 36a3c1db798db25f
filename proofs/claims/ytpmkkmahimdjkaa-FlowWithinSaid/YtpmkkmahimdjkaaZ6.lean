/-
  tac.Next.
  The document's answer (layer 13): within, Writes, Reads, Next.
  A field of an element.
  The document's answer (layer 16): Ints, Lists, told; layer 13: Reads; flow: rising.
-/
import Derived.Test.YtpmkkmahimdjkaaZ5
import Derived.Test.YtpmkkmahimdjkaaZ3

/- tac.Next. -/
namespace Go.Proofs.Ytpmkkmahimdjkaa
open Go.Wk
set_option linter.unusedVariables false
set_option linter.unusedSimpArgs false
attribute [local irreducible] G GC GQ GA GS Exit.then Exit.inBlock

theorem ins_at {H : Nat → Option Obj} {ad : Option Addr} {l : List Ins} (hc : CodeIn H ad l) {i : Nat} (hi : i < l.length) : InsIn H l[i] := hc.all _ (List.getElem_mem hi)

theorem own_lit1 (g : Nat) (n : Int) : OwnI (.slice (some ⟨g, 0, none⟩) 1 1) [n] [(g, .cells ⟨[.int .i64 n]⟩ 3 (0, 0))] := ⟨rfl, .inr ⟨g, 1, [], rfl, rfl, Nat.le_refl _, by decide, rfl⟩⟩
theorem own_lit2 (g : Nat) (n m : Int) : OwnI (.slice (some ⟨g, 0, none⟩) 2 2) [n, m] [(g, .cells ⟨[.int .i64 n, .int .i64 m]⟩ 3 (0, 0))] := ⟨rfl, .inr ⟨g, 2, [], rfl, rfl, Nat.le_refl _, by decide, rfl⟩⟩

/-- What tac.Next hands to DeleteFunc. -/
def rawNext (x : Ins) (i : Int) : List Int :=
  if x.op = 9 ∨ x.op = 14 then [] else if x.op = 10 then [x.n] else if x.op = 11 then [i + 1, x.n] else [i + 1]
def notIn (n : Int) (k : Int) : Bool := !(decide (0 ≤ k) && decide (k < n))
theorem sorted0 : sorted [] = [] := by simp [sorted]
theorem sorted1 (a : Int) : sorted [a] = [a] := by simp [sorted]
theorem sorted2 (a b : Int) : sorted [a, b] = [min a b, max a b] := by
  simp [sorted, List.mergeSort, List.MergeSort.Internal.splitInTwo, List.merge]
  by_cases h : a ≤ b
  · simp [h, Int.min_eq_left, Int.max_eq_right]
  · simp [h, Int.min_eq_right (by omega : b ≤ a), Int.max_eq_left (by omega : b ≤ a)]
theorem compact0 : Lib.compact ([] : List Int) = [] := by simp [Lib.compact, Lib.compactUpTo]
theorem compact1 (a : Int) : Lib.compact [a] = [a] := by simp [Lib.compact, Lib.compactUpTo, Lib.keeps]
theorem compact2 (a b : Int) : Lib.compact [a, b] = if a = b then [a] else [a, b] := by
  unfold Lib.compact
  simp only [List.length_cons, List.length_nil]
  rw [Lib.compactUpTo_succ, Lib.compactUpTo_succ]
  by_cases h : a = b
  · simp [Lib.compactUpTo, Lib.keeps, h]
  · simp [Lib.compactUpTo, Lib.keeps, h, Ne.symm h]
theorem next_law (n : Int) (x : Ins) (i : Int) : Lib.compact (sorted ((rawNext x i).filter fun k => !notIn n k)) = nextL n x i := by
  have e : (fun k => !notIn n k) = fun k => decide (0 ≤ k) && decide (k < n) := by funext k; simp [notIn]
  rw [e]
  unfold rawNext nextL
  have one : ∀ a : Int, Lib.compact (sorted ([a].filter fun k => decide (0 ≤ k) && decide (k < n))) = [a].filter fun k => decide (0 ≤ k) && decide (k < n) := fun a => by
    by_cases h : (decide (0 ≤ a) && decide (a < n)) = true
    · rw [List.filter_cons_of_pos (by simpa using h)]; simp [sorted1, compact1]
    · rw [List.filter_cons_of_neg (by simpa using h)]; simp [sorted0, compact0]
  split
  · simp [sorted0, compact0]
  split
  · exact one _
  split
  · generalize i + 1 = a
    generalize x.n = b
    by_cases hab : b = a
    · subst hab
      rw [if_pos rfl]
      by_cases h : (decide (0 ≤ b) && decide (b < n)) = true
      · rw [List.filter_cons_of_pos (by simpa using h), List.filter_cons_of_pos (by simpa using h)]; simp [sorted2, compact2]
      · rw [List.filter_cons_of_neg (by simpa using h), List.filter_cons_of_neg (by simpa using h)]; simp [sorted0, compact0]
    · rw [if_neg hab]
      have hmm : (min a b = a ∧ max a b = b) ∨ (min a b = b ∧ max a b = a) := by omega
      by_cases ha : (decide (0 ≤ a) && decide (a < n)) = true <;> by_cases hb : (decide (0 ≤ b) && decide (b < n)) = true
      all_goals (rcases hmm with ⟨h1, h2⟩ | ⟨h1, h2⟩)
      all_goals (try simp only [List.filter_cons, ha, hb, h1, h2, if_true, if_false, List.filter_nil, Bool.false_eq_true, sorted0, sorted1, sorted2, compact0, compact1, compact2, hab, Ne.symm hab])
  · exact one _

theorem next_sp (l : List Ins) (i : Nat) (ad : Option Addr) (cap : Nat) (w : World) (hc : CodeIn (hw w) ad l) (hi : i < l.length) :
    Sp Try.prog 45 [.slice ad l.length cap, .int .i64 i] w [] (fun y : Value × HL => y.1) (fun y => [y.2]) (fun y => OwnI y.1 (nextL l.length l[i] i) y.2) := by
  have hlen := hc.len
  have hx := ins_at hc hi
  refine enter (s := Try.sx) [] Try.func45 rfl rfl rfl (Eff.refl w) ?_
  refine gc_seq ?_
  repeat' (first | refine g_pv rfl rfl ?_ | refine g_nil ?_ | refine gq_then ?_ | refine gc_region ?_ | refine g_box rfl rfl (fun _ => ?_))
  rename_i b2
  refine gc_seq ?_
  refine gc_seq ?_
  repeat' (first | refine g_pv rfl rfl ?_ | refine g_ld 0 rfl rfl rfl rfl rfl rfl ?_ | refine gc_region ?_)
  refine g_call rfl (Cl.of Try.func55 rfl rfl) rfl rfl (fun w hE => within_sp _ _ w) rfl (fun y hy => ?_)
  rw [show (decide ((0 : Int) ≤ i) && decide ((i : Int) < l.length)) = true from by simp; omega]
  repeat' (first | refine g_pv rfl rfl ?_ | refine g_nil ?_ | refine gq_then ?_ | refine gc_cond_f rfl ?_ | refine gc_skip ?_)
  refine gc_seq ?_
  repeat' (first | refine g_pv rfl rfl ?_ | refine g_nil ?_ | refine gq_then ?_ | refine gc_region ?_)
  refine gc_cut (Y := Value × HL) (fun y => OwnI y.1 (rawNext l[i] i) y.2) (fun y => [(5, y.1), (2, .pointer (some ⟨b2, 0, none⟩))]) (fun y => [y.2, [(b2, .cells ⟨[.slice ad l.length cap]⟩ 23 (0, 0))]]) ?_ ?_
  · repeat' (first | refine g_pv rfl rfl ?_ | refine g_ld 0 rfl rfl rfl rfl rfl rfl ?_ | refine gc_seq ?_ | refine gc_region ?_)
    refine g_at (l := l) (f := Ins.cells) (u := l[i]) rfl rfl rfl rfl rfl (Int.natCast_nonneg i) (by omega) (hc.row.le (old_le0 _ w)) (List.getElem?_eq_getElem hi) rfl rfl rfl rfl (fun a => ?_)
    repeat' (first | refine g_pv rfl rfl ?_ | refine g_ld 0 rfl rfl rfl rfl rfl rfl ?_ | refine g_nil ?_ | refine gq_then ?_ | refine gc_seq ?_ | refine gc_region ?_ | refine gc_block ?_ | refine gc_cond_t rfl ?_ | refine gc_skip ?_ | refine gq_block ?_ | refine g_alloc rfl rfl (fun _ => ?_) | refine g_st 0 rfl rfl rfl rfl rfl rfl rfl ?_ | refine gc_condC rfl (fun hc => ?_) (fun hc => ?_) | refine g_litL rfl rfl rfl rfl rfl rfl rfl rfl rfl rfl (fun g => ?_))
    all_goals simp only [beq_iff_eq, beq_eq_false_iff_ne, ne_eq] at *
    all_goals (try rw [wrap_in (n := (i : Int) + 1) (by omega) (by omega)])
    · exact gq_at (.slice none 0 0, []) (by simpa [rawNext, *] using OwnL.nil 3 1 fI) ⟨rfl, rfl, trivial⟩ (fun w' H => hp_perm (hp_take 1 rfl (fun H => hp_nil H) H) (by simp; rfl))
    · exact gq_at (.slice none 0 0, []) (by simpa [rawNext, *] using OwnL.nil 3 1 fI) ⟨rfl, rfl, trivial⟩ (fun w' H => hp_perm (hp_take 1 rfl (fun H => hp_nil H) H) (by simp; rfl))
    · exact gq_at (_, _) ((show rawNext l[i] i = [l[i].n] from by simp [rawNext, *]) ▸ own_lit1 g l[i].n) ⟨rfl, rfl, trivial⟩ (fun w' H => hp_take 0 rfl (fun H => hp_take 1 rfl (fun H => hp_nil H) H) H)
    · exact gq_at (_, _) ((show rawNext l[i] i = [(i : Int) + 1, l[i].n] from by simp [rawNext, *]) ▸ own_lit2 g (i + 1) l[i].n) ⟨rfl, rfl, trivial⟩ (fun w' H => hp_take 0 rfl (fun H => hp_take 1 rfl (fun H => hp_nil H) H) H)
    · exact gq_at (_, _) ((show rawNext l[i] i = [(i : Int) + 1] from by simp [rawNext, *]) ▸ own_lit1 g (i + 1)) ⟨rfl, rfl, trivial⟩ (fun w' H => hp_take 0 rfl (fun H => hp_take 1 rfl (fun H => hp_nil H) H) H)
  · rintro ⟨v, A⟩ ho
    dsimp only at ho ⊢
    have hraw : (rawNext l[i] i).length ≤ 2 := by unfold rawNext; split <;> (try split) <;> (try split) <;> simp
    repeat' (first | refine g_pv rfl rfl ?_ | refine gc_seq ?_ | refine gc_region ?_)
    refine g_callA rfl rfl (Cl.of Try.func56 rfl rfl) rfl rfl (fun w' hE => deleteF_sp (p := notIn l.length) _ w' 57 #[.pointer (some ⟨b2, 0, none⟩)] ho (hp_eff hE) (by omega)
      ⟨Cl.of Try.func57 rfl rfl, fun w2 n hh => next1_sp n b2 ad l.length cap w2 (hh.cell (by simp [cellAt, hp_exc hE (List.mem_append_left _ List.mem_cons_self)]))⟩) rfl ?_
    rintro ⟨v2, A2⟩ ho2
    have hfl := List.length_filter_le (fun x => !notIn l.length x) (rawNext l[i] i)
    repeat' (first | refine g_pv rfl rfl ?_ | refine g_nil ?_ | refine gq_then ?_ | refine gc_seq ?_ | refine gc_region ?_)
    refine g_callA rfl rfl (Cl.of Try.func46 rfl rfl) rfl rfl (fun w' hE => sort_sp w' ho2 (hp_eff hE) (by omega)) rfl ?_
    intro A3 ho3
    repeat' (first | refine g_pv rfl rfl ?_ | refine g_nil ?_ | refine gq_then ?_ | refine gc_seq ?_ | refine gc_region ?_)
    refine g_callA rfl rfl (Cl.of Try.func58 rfl rfl) rfl rfl (fun w' hE => compact_sp w' ho3 (hp_eff hE) (by rw [sorted_len]; omega)) rfl ?_
    rintro ⟨v4, A4⟩ ho4
    rw [next_law] at ho4
    repeat' (first | refine g_pv rfl rfl ?_ | refine g_nil ?_ | refine gq_then ?_ | refine gc_ret ?_)
    exact gq_ret1 (.inr rfl) rfl rfl rfl (fun w' H => ⟨(v4, A4), ho4, rfl, hp_take 0 rfl (fun H => hp_nil H) H⟩)
end Go.Proofs.Ytpmkkmahimdjkaa

/- The document's answer (layer 13): within, Writes, Reads, Next. -/
namespace Go.Proofs.Ytpmkkmahimdjkaa
open Go.Wk
set_option linter.unusedVariables false
set_option linter.unusedSimpArgs false
attribute [local irreducible] G GC GQ GA GS Exit.then Exit.inBlock

theorem rwithin_sp (n lo hi : Int) (w : World) : Sp Try.prog 44 [.int .i64 n, .int .i64 lo, .int .i64 hi] w [] (fun _ : Unit => .bool (decide (lo ≤ n) && decide (n ≤ hi))) (fun _ => []) (fun _ => True) := by
  refine enter (s := Try.sx) [] Try.func44 rfl rfl rfl (Eff.refl w) ?_
  repeat' (first | refine g_pv rfl rfl ?_ | refine g_nil ?_ | refine gq_then ?_ | refine gc_seq ?_ | refine gc_region ?_)
  refine g_case (t := 10) rfl (fun h => ?_) (fun h => ?_)
  all_goals (repeat' (first | refine g_pv rfl rfl ?_ | refine g_nil ?_ | refine gq_then ?_ | refine gc_ret ?_ | refine g_yes rfl rfl rfl ?_ | refine g_no rfl rfl rfl rfl rfl ?_))
  · refine gq_ret1 (.inr rfl) rfl rfl rfl (fun w' H => ⟨(), trivial, ?_, H⟩)
    have h' : lo ≤ n := by simpa using h
    simp [h']
  · refine gq_ret1 (.inr rfl) rfl rfl rfl (fun w' H => ⟨(), trivial, ?_, H⟩)
    have h' : ¬ lo ≤ n := by simpa using h
    simp [h']

def rwrites (x : Ins) : Int := if x.d < 0 then -1 else if writesOp x.op then x.d else -1
theorem rwrites_eq (x : Ins) : rwrites x = x.writes := by
  unfold rwrites Ins.writes
  split
  · split <;> omega
  · split <;> omega
theorem rwrites_sp (x : Ins) (w : World) : Sp Try.prog 36 [x.val] w [] (fun _ : Unit => .int .i64 (rwrites x)) (fun _ => []) (fun _ => True) := by
  refine enter (s := Try.sx) [] Try.func36 rfl rfl rfl (Eff.refl w) ?_
  repeat' (first | refine g_pv rfl rfl ?_ | refine g_ld 0 rfl rfl rfl rfl rfl rfl ?_ | refine g_nil ?_ | refine gq_then ?_ | refine gc_seq ?_ | refine gc_region ?_ | refine gc_block ?_ | refine gc_cond_t rfl ?_ | refine gc_skip ?_ | refine gc_ret ?_ | refine gq_then_ret ?_ | refine gq_block ?_ | refine gq_block_ret ?_ | refine g_box rfl rfl (fun _ => ?_) | refine gc_condC rfl (fun hc => ?_) (fun hc => ?_))
  all_goals refine gq_ret1 (.inr rfl) rfl rfl rfl (fun w' H => ⟨(), trivial, ?_, hp_nil H⟩)
  all_goals simp only [beq_iff_eq, beq_eq_false_iff_ne, ne_eq, decide_eq_true_eq, decide_eq_false_iff_not] at *
  all_goals simp [rwrites, writesOp, *]

/-- The list that Next looks through. -/
def rawN (x : Ins) (i : Int) : List Int :=
  if x.op = 9 ∨ x.op = 14 then [] else if x.op = 10 then [x.n] else if x.op = 11 then [if x.n < i + 1 then x.n else i + 1, if x.n > i + 1 then x.n else i + 1] else [i + 1]
def keepN (n : Int) (l : List Int) (k : Nat) : Bool := (decide (0 ≤ l.getD k 0) && decide (l.getD k 0 ≤ n - 1)) && (k == 0 || l.getD k 0 != l.getD (k - 1) 0)
def outN (n : Int) (l : List Int) (k : Nat) : List Int := ((List.range k).filter (keepN n l)).map (l.getD · 0)
theorem outN_succ (n : Int) (l : List Int) (k : Nat) : outN n l (k + 1) = outN n l k ++ if keepN n l k then [l.getD k 0] else [] := by
  unfold outN
  rw [List.range_succ, List.filter_append, List.map_append]
  congr 1
  by_cases h : keepN n l k <;> simp [h]
theorem rnext_law (n : Int) (x : Ins) (i : Int) : outN n (rawN x i) (rawN x i).length = nextL n x i := by
  unfold rawN nextL
  have e1 : ∀ k : Int, (decide (0 ≤ k) && decide (k ≤ n - 1)) = (decide (0 ≤ k) && decide (k < n)) := fun k => by
    by_cases h : k < n
    · simp [h, (show k ≤ n - 1 by omega)]
    · simp [h, (show ¬ k ≤ n - 1 by omega)]
  have one : ∀ a : Int, outN n [a] 1 = [a].filter fun k => decide (0 ≤ k) && decide (k < n) := fun a => by
    simp [outN, keepN, List.range_succ, List.filter_cons, e1]
    split <;> simp
  split
  · rfl
  split
  · exact one _
  split
  · generalize i + 1 = a
    generalize x.n = b
    simp only [List.length_cons, List.length_nil]
    by_cases hab : b = a
    · subst hab
      simp [outN, keepN, List.range_succ, List.filter_cons, e1]
      split <;> simp
    · rw [if_neg hab, show (if b < a then b else a) = min a b from by omega, show (if b > a then b else a) = max a b from by omega]
      have hmm : min a b ≠ max a b := by omega
      generalize min a b = c at *
      generalize max a b = d at *
      simp [outN, keepN, List.range_succ, List.filter_cons, e1, Ne.symm hmm]
      split <;> split <;> simp_all
  · exact one _

set_option maxHeartbeats 8000000 in
theorem rnext_sp (l : List Ins) (i : Nat) (ad : Option Addr) (cap : Nat) (w : World) (hc : CodeIn (hw w) ad l) (hi : i < l.length) :
    Sp Try.prog 25 [.slice ad l.length cap, .int .i64 i] w [] (fun y : Value × HL => y.1) (fun y => [y.2]) (fun y => OwnI y.1 (nextL l.length l[i] i) y.2) := by
  have hlen := hc.len
  have hx := ins_at hc hi
  refine enter (s := Try.sx) [] Try.func25 rfl rfl rfl (Eff.refl w) ?_
  refine gc_seq ?_
  repeat' (first | refine g_pv rfl rfl ?_ | refine g_nil ?_ | refine gq_then ?_ | refine gc_region ?_)
  refine gc_seq ?_
  refine gc_seq ?_
  repeat' (first | refine g_pv rfl rfl ?_ | refine gc_region ?_)
  rw [show IntKind.i64.wrap ((l.length : Int) - 1) = (l.length : Int) - 1 from by rw [IntKind.wrap_i64]; omega]
  refine g_call rfl (Cl.of Try.func44 rfl rfl) rfl rfl (fun w hE => rwithin_sp _ _ _ w) rfl (fun y hy => ?_)
  rw [show (decide ((0 : Int) ≤ i) && decide ((i : Int) ≤ l.length - 1)) = true from by simp; omega]
  repeat' (first | refine g_pv rfl rfl ?_ | refine g_nil ?_ | refine gq_then ?_ | refine gc_cond_f rfl ?_ | refine gc_skip ?_)
  refine gc_seq ?_
  repeat' (first | refine g_pv rfl rfl ?_ | refine gc_region ?_)
  refine g_at (l := l) (f := Ins.cells) (u := l[i]) rfl rfl rfl rfl rfl (Int.natCast_nonneg i) (by omega) (hc.row.le (old_le0 _ w)) (List.getElem?_eq_getElem hi) rfl rfl rfl rfl (fun a => ?_)
  repeat' (first | refine g_nil ?_ | refine gq_then ?_ | refine g_alloc rfl rfl (fun _ => ?_) | refine g_st 0 rfl rfl rfl rfl rfl rfl rfl ?_)
  refine gc_seq ?_
  repeat' (first | refine g_pv rfl rfl ?_ | refine g_nil ?_ | refine gq_then ?_ | refine gc_region ?_)
  refine gc_cut (Y := Value × HL) (fun y => OwnI y.1 (rawN l[i] i) y.2) (fun y => [(6, y.1), (0, .slice ad l.length cap)]) (fun y => [y.2]) ?_ ?_
  · repeat' (first | refine g_pv rfl rfl ?_ | refine g_ld 0 rfl rfl rfl rfl rfl rfl ?_ | refine g_nil ?_ | refine gq_then ?_ | refine gc_seq ?_ | refine gc_region ?_ | refine gc_block ?_ | refine gc_cond_t rfl ?_ | refine gc_skip ?_ | refine gq_block ?_ | refine gc_condC rfl (fun hc => ?_) (fun hc => ?_) | refine g_litL rfl rfl rfl rfl rfl rfl rfl rfl rfl rfl (fun g => ?_))
    all_goals simp only [beq_iff_eq, beq_eq_false_iff_ne, ne_eq] at *
    all_goals (try rw [wrap_in (n := (i : Int) + 1) (by omega) (by omega)])
    · exact gq_at (.slice none 0 0, []) (by simpa [rawN, *] using OwnL.nil 3 1 fI) ⟨rfl, rfl, trivial⟩ (fun w' H => hp_perm (hp_nil H) (by simp))
    · exact gq_at (.slice none 0 0, []) (by simpa [rawN, *] using OwnL.nil 3 1 fI) ⟨rfl, rfl, trivial⟩ (fun w' H => hp_perm (hp_nil H) (by simp))
    · exact gq_at (_, _) ((show rawN l[i] i = [l[i].n] from by simp [rawN, *]) ▸ own_lit1 g _) ⟨rfl, rfl, trivial⟩ (fun w' H => hp_take 0 rfl (fun H => hp_nil H) H)
    · exact gq_at (_, _) ((show rawN l[i] i = [if l[i].n < (i : Int) + 1 then l[i].n else (i : Int) + 1, if l[i].n > (i : Int) + 1 then l[i].n else (i : Int) + 1] from by simp [rawN, *]) ▸ own_lit2 g _ _) ⟨rfl, rfl, trivial⟩ (fun w' H => hp_take 0 rfl (fun H => hp_nil H) H)
    · exact gq_at (_, _) ((show rawN l[i] i = [(i : Int) + 1] from by simp [rawN, *]) ▸ own_lit1 g _) ⟨rfl, rfl, trivial⟩ (fun w' H => hp_take 0 rfl (fun H => hp_nil H) H)
  · rintro ⟨v, A⟩ ho
    dsimp only at ho ⊢
    have hraw : (rawN l[i] i).length ≤ 2 := by unfold rawN; split <;> (try split) <;> (try split) <;> simp
    rw [← rnext_law]
    generalize rawN l[i] i = raw at ho hraw ⊢
    obtain ⟨rad, rcap, rfl, _⟩ := Own.shape ho
    repeat' (first | refine g_pv rfl rfl ?_ | refine g_nil ?_ | refine gq_then ?_ | refine gc_seq ?_ | refine gc_region ?_ | refine gc_block ?_)
    refine gc_loop (Y := Nat × Value × HL) (fun y => y.1 ≤ raw.length ∧ OwnI y.2.1 (outN l.length raw y.1) y.2.2)
      (fun y => [(0, .slice ad l.length cap), (6, .slice rad raw.length rcap), (7, y.2.1), (8, .int .i64 y.1)]) (fun y => [y.2.2, A])
      (fun y => raw.length - y.1) (0, .slice none 0 0, []) ⟨Nat.zero_le _, OwnL.nil _ _ _⟩ ⟨rfl, rfl, rfl, rfl, trivial⟩ (fun w' H => hp_perm H (by simp)) ?_
    rintro ⟨k, v7, A7⟩ ⟨hk, ho7⟩
    dsimp only at hk ho7 ⊢
    repeat' (first | refine g_pv rfl rfl ?_ | refine g_nil ?_ | refine gq_then ?_ | refine gc_seq ?_ | refine gc_region ?_)
    refine gc_condC rfl (fun hc => ?_) (fun hc => ?_)
    · have hlt : k < raw.length := by have := of_decide_eq_true hc; omega
      have hgd : raw.getD k 0 = raw[k] := by simp [List.getD, List.getElem?_eq_getElem hlt]
      repeat' (first | refine gq_then ?_ | refine gc_skip ?_)
      refine gc_seq ?_
      repeat' (refine gc_block ?_)
      refine gc_cut (Y := Unit) (fun _ => True) (fun _ => [(74, .bool (keepN l.length raw k)), (0, .slice ad l.length cap), (6, .slice rad raw.length rcap), (7, v7), (8, .int .i64 k)]) (fun _ => [A7, A]) ?_ ?_
      · refine gc_draw [A7, A] [] rfl (by simp) ?_
        (refine ga_p 0 (by repeat first | exact NoP.sp | apply NoP.then | apply NoP.block) rfl (pv_spec rfl) rfl (by kernel_rfl) (by kernel_rfl) (by kernel_rfl) ?_); (refine ga_p 1 (by repeat first | exact NoP.sp | apply NoP.then | apply NoP.block) rfl (pv_spec rfl) rfl (by kernel_rfl) (by kernel_rfl) (by kernel_rfl) ?_); (refine ga_p 4 (by repeat first | exact NoP.sp | apply NoP.then | apply NoP.block) rfl (pv_spec rfl) rfl (by kernel_rfl) (by kernel_rfl) (by kernel_rfl) ?_); (refine ga_p 5 (by repeat first | exact NoP.sp | apply NoP.then | apply NoP.block) rfl (pv_spec rfl) rfl (by kernel_rfl) (by kernel_rfl) (by kernel_rfl) ?_); (refine ga_p 6 (by repeat first | exact NoP.sp | apply NoP.then | apply NoP.block) rfl (pv_spec rfl) rfl (by kernel_rfl) (by kernel_rfl) (by kernel_rfl) ?_)
        refine ga_at 2 3 (l := raw) (f := fI) (u := raw[k]) (by repeat first | exact NoP.sp | apply NoP.then | apply NoP.block) rfl wanted_none rfl (fun a _ => wanted_none a) rfl rfl rfl rfl rfl (Int.natCast_nonneg k) (by omega) (still_rd 1 rfl (fun _ => rfl) ho rfl) (List.getElem?_eq_getElem hlt) rfl rfl rfl rfl (by kernel_rfl) (by kernel_rfl) (by kernel_rfl) (by kernel_rfl) (by kernel_rfl) (fun a => ?_)
        refine ga_one (i := 7) (by kernel_rfl) (gs_of rfl (fun K hK => ?_))
        rw [show IntKind.i64.wrap ((l.length : Int) - 1) = (l.length : Int) - 1 from by rw [IntKind.wrap_i64]; omega]
        refine g_call rfl (Cl.of Try.func44 rfl rfl) rfl rfl (fun w hE => rwithin_sp _ _ _ w) rfl (fun y hy => ?_)
        refine g_nil ?_
        refine hK _ _ ⟨[], by simp⟩ ?_
        refine ga_case (t := 58) rfl (fun hin => ?_) (fun hin => ?_)
        · (refine ga_p 8 (by repeat first | exact NoP.sp | apply NoP.then | apply NoP.block) rfl (pv_spec rfl) rfl (by kernel_rfl) (by kernel_rfl) (by kernel_rfl) ?_); (refine ga_py 9 (by repeat first | exact NoP.sp | apply NoP.then | apply NoP.block) rfl rfl rfl rfl (pv_spec rfl) rfl (by kernel_rfl) (by kernel_rfl) (by kernel_rfl) ?_); (refine ga_py 10 (by repeat first | exact NoP.sp | apply NoP.then | apply NoP.block) rfl rfl rfl rfl (pv_spec rfl) rfl (by kernel_rfl) (by kernel_rfl) (by kernel_rfl) ?_); (refine ga_py 11 (by repeat first | exact NoP.sp | apply NoP.then | apply NoP.block) rfl rfl rfl rfl (pv_spec rfl) rfl (by kernel_rfl) (by kernel_rfl) (by kernel_rfl) ?_)
          refine ga_case (t := 62) rfl (fun h0 => ?_) (fun h0 => ?_)
          · (refine ga_n 12 (by repeat first | exact NoP.sp | apply NoP.then | apply NoP.block) rfl rfl rfl rfl rfl rfl (by kernel_rfl) (by kernel_rfl) (by kernel_rfl) ?_); (refine ga_n 13 (by repeat first | exact NoP.sp | apply NoP.then | apply NoP.block) rfl rfl rfl rfl rfl rfl (by kernel_rfl) (by kernel_rfl) (by kernel_rfl) ?_); (refine ga_n 14 (by repeat first | exact NoP.sp | apply NoP.then | apply NoP.block) rfl rfl rfl rfl rfl rfl (by kernel_rfl) (by kernel_rfl) (by kernel_rfl) ?_); (refine ga_n 15 (by repeat first | exact NoP.sp | apply NoP.then | apply NoP.block) rfl rfl rfl rfl rfl rfl (by kernel_rfl) (by kernel_rfl) (by kernel_rfl) ?_); (refine ga_n 16 (by repeat first | exact NoP.sp | apply NoP.then | apply NoP.block) rfl rfl rfl rfl rfl rfl (by kernel_rfl) (by kernel_rfl) (by kernel_rfl) ?_); (refine ga_n 17 (by repeat first | exact NoP.sp | apply NoP.then | apply NoP.block) rfl rfl rfl rfl rfl rfl (by kernel_rfl) (by kernel_rfl) (by kernel_rfl) ?_); (refine ga_n 18 (by repeat first | exact NoP.sp | apply NoP.then | apply NoP.block) rfl rfl rfl rfl rfl rfl (by kernel_rfl) (by kernel_rfl) (by kernel_rfl) ?_); (refine ga_n 19 (by repeat first | exact NoP.sp | apply NoP.then | apply NoP.block) rfl rfl rfl rfl rfl rfl (by kernel_rfl) (by kernel_rfl) (by kernel_rfl) ?_); (refine ga_n 20 (by repeat first | exact NoP.sp | apply NoP.then | apply NoP.block) rfl rfl rfl rfl rfl rfl (by kernel_rfl) (by kernel_rfl) (by kernel_rfl) ?_); (refine ga_n 21 (by repeat first | exact NoP.sp | apply NoP.then | apply NoP.block) rfl rfl rfl rfl rfl rfl (by kernel_rfl) (by kernel_rfl) (by kernel_rfl) ?_); (refine ga_py 22 (by repeat first | exact NoP.sp | apply NoP.then | apply NoP.block) rfl rfl rfl rfl (pv_spec rfl) rfl (by kernel_rfl) (by kernel_rfl) (by kernel_rfl) ?_); (refine ga_p 23 (by repeat first | exact NoP.sp | apply NoP.then | apply NoP.block) rfl (pv_spec rfl) rfl (by kernel_rfl) (by kernel_rfl) (by kernel_rfl) ?_)
            refine ga_nil (by kernel_rfl) ?_
            have hk0 : k = 0 := by have := beq_iff_eq.1 h0; omega
            have e : keepN l.length raw k = true := by simp only [keepN, hgd, hin]; simp [hk0]
            refine gq_at () trivial ⟨?_, rfl, rfl, rfl, rfl, trivial⟩ (fun w' H => H)
            rw [e]; rfl
          · have hk0 : 0 < k := by have := beq_eq_false_iff_ne.1 h0; omega
            have hlt' : k - 1 < raw.length := by omega
            have hgd' : raw.getD (k - 1) 0 = raw[k - 1] := by simp [List.getD, List.getElem?_eq_getElem hlt']
            (refine ga_py 12 (by repeat first | exact NoP.sp | apply NoP.then | apply NoP.block) rfl rfl rfl rfl (pv_spec rfl) rfl (by kernel_rfl) (by kernel_rfl) (by kernel_rfl) ?_); (refine ga_py 13 (by repeat first | exact NoP.sp | apply NoP.then | apply NoP.block) rfl rfl rfl rfl (pv_spec rfl) rfl (by kernel_rfl) (by kernel_rfl) (by kernel_rfl) ?_)
            refine ga_at 14 15 (l := raw) (f := fI) (u := raw[k]) (by repeat first | exact NoP.sp | apply NoP.then | apply NoP.block) rfl (wanted_yes rfl rfl rfl) rfl (fun a _ h => wanted_yes rfl rfl rfl a h) rfl rfl rfl rfl rfl (Int.natCast_nonneg k) (by omega) (still_rd 1 rfl (fun _ => rfl) ho rfl) (List.getElem?_eq_getElem hlt) rfl rfl rfl rfl (by kernel_rfl) (by kernel_rfl) (by kernel_rfl) (by kernel_rfl) (by kernel_rfl) (fun a => ?_)
            (refine ga_py 16 (by repeat first | exact NoP.sp | apply NoP.then | apply NoP.block) rfl rfl rfl rfl (pv_spec rfl) rfl (by kernel_rfl) (by kernel_rfl) (by kernel_rfl) ?_); (refine ga_py 17 (by repeat first | exact NoP.sp | apply NoP.then | apply NoP.block) rfl rfl rfl rfl (pv_spec rfl) rfl (by kernel_rfl) (by kernel_rfl) (by kernel_rfl) ?_); (refine ga_py 18 (by repeat first | exact NoP.sp | apply NoP.then | apply NoP.block) rfl rfl rfl rfl (pv_spec rfl) rfl (by kernel_rfl) (by kernel_rfl) (by kernel_rfl) ?_)
            refine ga_eq 69 (u' := .int .i64 ((k - 1 : Nat) : Int)) rfl (by congr 1; rw [IntKind.wrap_i64]; omega) ?_
            refine ga_at 19 20 (l := raw) (f := fI) (u := raw[k - 1]) (by repeat first | exact NoP.sp | apply NoP.then | apply NoP.block) rfl (wanted_yes rfl rfl rfl) rfl (fun a _ h => wanted_yes rfl rfl rfl a h) rfl rfl rfl rfl rfl (Int.natCast_nonneg _) (by omega) (still_rd 1 rfl (fun _ => rfl) ho rfl) (List.getElem?_eq_getElem hlt') rfl rfl rfl rfl (by kernel_rfl) (by kernel_rfl) (by kernel_rfl) (by kernel_rfl) (by kernel_rfl) (fun a => ?_)
            (refine ga_py 21 (by repeat first | exact NoP.sp | apply NoP.then | apply NoP.block) rfl rfl rfl rfl (pv_spec rfl) rfl (by kernel_rfl) (by kernel_rfl) (by kernel_rfl) ?_); (refine ga_py 22 (by repeat first | exact NoP.sp | apply NoP.then | apply NoP.block) rfl rfl rfl rfl (pv_spec rfl) rfl (by kernel_rfl) (by kernel_rfl) (by kernel_rfl) ?_); (refine ga_p 23 (by repeat first | exact NoP.sp | apply NoP.then | apply NoP.block) rfl (pv_spec rfl) rfl (by kernel_rfl) (by kernel_rfl) (by kernel_rfl) ?_)
            refine ga_nil (by kernel_rfl) ?_
            have e : keepN l.length raw k = (raw[k] != raw[k - 1]) := by simp only [keepN, hgd, hgd', hin]; simp [Nat.ne_of_gt hk0]
            refine gq_at () trivial ⟨?_, rfl, rfl, rfl, rfl, trivial⟩ (fun w' H => H)
            rw [e]; rfl
        · (refine ga_p 8 (by repeat first | exact NoP.sp | apply NoP.then | apply NoP.block) rfl (pv_spec rfl) rfl (by kernel_rfl) (by kernel_rfl) (by kernel_rfl) ?_); (refine ga_n 9 (by repeat first | exact NoP.sp | apply NoP.then | apply NoP.block) rfl rfl rfl rfl rfl rfl (by kernel_rfl) (by kernel_rfl) (by kernel_rfl) ?_); (refine ga_n 10 (by repeat first | exact NoP.sp | apply NoP.then | apply NoP.block) rfl rfl rfl rfl rfl rfl (by kernel_rfl) (by kernel_rfl) (by kernel_rfl) ?_); (refine ga_n 11 (by repeat first | exact NoP.sp | apply NoP.then | apply NoP.block) rfl rfl rfl rfl rfl rfl (by kernel_rfl) (by kernel_rfl) (by kernel_rfl) ?_); (refine ga_n 12 (by repeat first | exact NoP.sp | apply NoP.then | apply NoP.block) rfl rfl rfl rfl rfl rfl (by kernel_rfl) (by kernel_rfl) (by kernel_rfl) ?_); (refine ga_n 13 (by repeat first | exact NoP.sp | apply NoP.then | apply NoP.block) rfl rfl rfl rfl rfl rfl (by kernel_rfl) (by kernel_rfl) (by kernel_rfl) ?_); (refine ga_n 14 (by repeat first | exact NoP.sp | apply NoP.then | apply NoP.block) rfl rfl rfl rfl rfl rfl (by kernel_rfl) (by kernel_rfl) (by kernel_rfl) ?_); (refine ga_n 15 (by repeat first | exact NoP.sp | apply NoP.then | apply NoP.block) rfl rfl rfl rfl rfl rfl (by kernel_rfl) (by kernel_rfl) (by kernel_rfl) ?_); (refine ga_n 16 (by repeat first | exact NoP.sp | apply NoP.then | apply NoP.block) rfl rfl rfl rfl rfl rfl (by kernel_rfl) (by kernel_rfl) (by kernel_rfl) ?_); (refine ga_n 17 (by repeat first | exact NoP.sp | apply NoP.then | apply NoP.block) rfl rfl rfl rfl rfl rfl (by kernel_rfl) (by kernel_rfl) (by kernel_rfl) ?_); (refine ga_n 18 (by repeat first | exact NoP.sp | apply NoP.then | apply NoP.block) rfl rfl rfl rfl rfl rfl (by kernel_rfl) (by kernel_rfl) (by kernel_rfl) ?_); (refine ga_n 19 (by repeat first | exact NoP.sp | apply NoP.then | apply NoP.block) rfl rfl rfl rfl rfl rfl (by kernel_rfl) (by kernel_rfl) (by kernel_rfl) ?_); (refine ga_n 20 (by repeat first | exact NoP.sp | apply NoP.then | apply NoP.block) rfl rfl rfl rfl rfl rfl (by kernel_rfl) (by kernel_rfl) (by kernel_rfl) ?_); (refine ga_n 21 (by repeat first | exact NoP.sp | apply NoP.then | apply NoP.block) rfl rfl rfl rfl rfl rfl (by kernel_rfl) (by kernel_rfl) (by kernel_rfl) ?_); (refine ga_n 22 (by repeat first | exact NoP.sp | apply NoP.then | apply NoP.block) rfl rfl rfl rfl rfl rfl (by kernel_rfl) (by kernel_rfl) (by kernel_rfl) ?_); (refine ga_p 23 (by repeat first | exact NoP.sp | apply NoP.then | apply NoP.block) rfl (pv_spec rfl) rfl (by kernel_rfl) (by kernel_rfl) (by kernel_rfl) ?_)
          refine ga_nil (by kernel_rfl) ?_
          have e : keepN l.length raw k = false := by simp only [keepN, hgd, hin]; simp
          refine gq_at () trivial ⟨?_, rfl, rfl, rfl, rfl, trivial⟩ (fun w' H => H)
          rw [e]; rfl
      rintro ⟨⟩ -
      dsimp only
      have hol : (outN l.length raw k).length ≤ k := by unfold outN; rw [List.length_map]; exact Nat.le_trans (List.length_filter_le _ _) (by simp)
      refine gc_condC rfl (fun hq => ?_) (fun hq => ?_)
      · repeat' (first | refine g_pv rfl rfl ?_ | refine gc_region ?_)
        refine g_atL 1 rfl rfl ho (fun _ => rfl) rfl rfl rfl rfl (Int.natCast_nonneg k) (List.getElem?_eq_getElem hlt) rfl rfl rfl (fun a2 => ?_)
        refine g_app1L 0 (f := fI) (q := raw[k]) rfl rfl rfl rfl rfl rfl rfl rfl rfl rfl rfl rfl ho7 (by unfold maxLen; omega) (by show _ * 8 ≤ _; omega) rfl rfl (fun v4 A4 g4 ho4 => ?_)
        repeat' (first | refine g_pv rfl rfl ?_ | refine g_nil ?_ | refine gq_then ?_ | refine gc_region ?_ | refine gq_block ?_)
        refine gq_again (k + 1, v4, A4) ⟨hlt, ?_⟩ (by simp only; omega) ⟨rfl, rfl, rfl, inc_eq (by omega), trivial⟩ (fun w' H => H)
        rw [outN_succ, if_pos hq, hgd]; exact ho4
      · repeat' (first | refine g_pv rfl rfl ?_ | refine g_nil ?_ | refine gq_then ?_ | refine gc_region ?_ | refine gc_skip ?_ | refine gq_block ?_)
        refine gq_again (k + 1, v7, A7) ⟨hlt, ?_⟩ (by simp only; omega) ⟨rfl, rfl, rfl, inc_eq (by omega), trivial⟩ (fun w' H => H)
        rw [outN_succ, if_neg (by simp [hq]), List.append_nil]; exact ho7
    · have hge : k = raw.length := by have := of_decide_eq_false hc; omega
      repeat' (first | refine g_pv rfl rfl ?_ | refine g_nil ?_ | refine gq_then ?_ | refine gc_seq ?_ | refine gc_region ?_ | refine gc_exit ?_ | refine gc_ret ?_ | refine gq_then_exit ?_ | refine gq_block_exit ?_)
      exact gq_ret1 (.inr rfl) rfl rfl rfl (fun w' H => ⟨(v7, A7), hge ▸ ho7, rfl, hp_take 0 rfl (fun H => hp_nil H) H⟩)
end Go.Proofs.Ytpmkkmahimdjkaa

/- A field of an element. -/
namespace Go.Wk
set_option linter.unusedVariables false
set_option linter.unusedSimpArgs false
section
variable {X : Cx} {ops : Array Oper} {Q : Post} {rest : List Oper} {L : LT} {R : RL} {d d1 d2 : Nat} {x y : Operand} {v u : Value} {t t2 st ty ty1 ty2 : TypeId} {p p1 p2 : String} {af af1 af2 : Array Edge}
theorem Rd.fld {α : Type} {H : Nat → Option Obj} {f : α → List Value} {sz : Nat} {A : Option Addr} {l : List α} {i : Nat} {q : α} {off n : Nat} {cs : List Value} (hr : Rd H f sz A l) (hl : l[i]? = some q) (hc : takeC (f q) off n = some cs) :
    ∃ b o, A = some ⟨b, o, none⟩ ∧ ∀ j u, cs[j]? = some u → cellAt H b (o + i * sz + off + j) = some u := by
  obtain ⟨b, o, hA, h⟩ := hr i q hl
  obtain ⟨_, h2⟩ := takeC_spec _ _ _ _ hc
  refine ⟨b, o, hA, fun j u hj => ?_⟩
  have := h (off + j) u (h2 j u hj)
  rw [← Nat.add_assoc] at this; exact this
/-- x[y].f, x of old memory. -/
theorem g_atF {α : Type} {e : TypeId} {z z' : Value} {s b off ff : Nat} {te tf : Ti} {ik : IntKind} {i : Int} {A : Option Addr} {n c : Nat} {f : α → List Value} {l : List α} {q : α} {fs : List (Nat × TypeId)} {sz' by' : Nat} {cs : List Value}
    (hx : ev L x = some (.slice A n c)) (hy : ev L y = some (.int ik i)) (ht : tl X.s.tab t = some ⟨.slice e, z, s, b⟩) (hte : tl X.s.tab e = some te) (hst : tl X.s.tab st = some ⟨.struct fs, z', sz', by'⟩)
    (hff : fs[ff]? = some (off, t2)) (htf : tl X.s.tab t2 = some tf) (hsz : Nat.beq tf.sz 0 = false)
    (h0 : 0 ≤ i) (h1 : i < n) (hr : Rd (Oldh X) f te.sz A l) (hl : l[i.toNat]? = some q) (hc : takeC (f q) off tf.sz = some cs) (hv : asV tf.k cs = some u) (hN1 : Nat.blt d1 X.N = true) (hN2 : Nat.blt d2 X.N = true) (hN : Nat.blt d X.N = true)
    (k : ∀ a a2, G X ops Q rest ((d, u) :: (d2, .pointer (some a2)) :: (d1, .pointer (some a)) :: L) R) :
    G X ops Q (⟨some d1, .indexAddr t x y, ty1, p1, af1, none⟩ :: ⟨some d2, .fieldAddr st (.tmp d1) ff, ty2, p2, af2, none⟩ :: ⟨some d, .load t2 (.tmp d2), ty, p, af, none⟩ :: rest) L R := by
  obtain ⟨bx, o, rfl, hcc⟩ := hr.fld hl hc
  refine g_ix hx hy ht hte h0 h1 hN1 ?_
  refine g_fld (lk_hd d1 _ L) hst hff htf hsz hN2 ?_
  exact g_ldO (lk_hd d2 _ _) htf (takeC_spec _ _ _ _ hc).1 hv hcc hN (k _ _)
/-- x[y].f, x number j of what one owns. -/
theorem g_atFL (j : Nat) {α : Type} {e e' : TypeId} {z z' : Value} {s b off ff : Nat} {te tf : Ti} {ik : IntKind} {i : Int} {A : HL} {f : α → List Value} {l : List α} {q : α} {fs : List (Nat × TypeId)} {sz' by' : Nat} {cs : List Value}
    (hR : R[j]? = some A) (hx : ev L x = some v) (ho : OwnL e' te.sz f v l A) (hf : ∀ x, (f x).length = te.sz) (hy : ev L y = some (.int ik i)) (ht : tl X.s.tab t = some ⟨.slice e, z, s, b⟩) (hte : tl X.s.tab e = some te) (hst : tl X.s.tab st = some ⟨.struct fs, z', sz', by'⟩)
    (hff : fs[ff]? = some (off, t2)) (htf : tl X.s.tab t2 = some tf) (hsz : Nat.beq tf.sz 0 = false)
    (h0 : 0 ≤ i) (hl : l[i.toNat]? = some q) (hc : takeC (f q) off tf.sz = some cs) (hv : asV tf.k cs = some u) (hN1 : Nat.blt d1 X.N = true) (hN2 : Nat.blt d2 X.N = true) (hN : Nat.blt d X.N = true)
    (k : ∀ a a2, G X ops Q rest ((d, u) :: (d2, .pointer (some a2)) :: (d1, .pointer (some a)) :: L) R) :
    G X ops Q (⟨some d1, .indexAddr t x y, ty1, p1, af1, none⟩ :: ⟨some d2, .fieldAddr st (.tmp d1) ff, ty2, p2, af2, none⟩ :: ⟨some d, .load t2 (.tmp d2), ty, p, af, none⟩ :: rest) L R := by
  have hlt := (List.getElem?_eq_some_iff.1 hl).1
  obtain ⟨ad, cap, rfl, _⟩ := Own.shape ho
  have hrd : ∀ w, Hp X w R → Rd (hw w) f te.sz ad l := fun w hE => by
    obtain ⟨ad', cap', he, hr⟩ := OwnL.rd hf ho (H := hw w) (fun b o hb => hE.holds b o (List.mem_flatten.2 ⟨_, List.mem_of_getElem? hR, hb⟩))
    cases he; exact hr
  have hA : ∃ g, ad = some ⟨g, 0, none⟩ := by
    rcases ho.2 with ⟨h1, h2, _⟩ | ⟨g, cap', rst, h1, _⟩
    · omega
    · cases h1; exact ⟨g, rfl⟩
  obtain ⟨g, rfl⟩ := hA
  refine g_ix hx hy ht hte h0 (by omega) hN1 ?_
  refine g_fld (lk_hd d1 _ L) hst hff htf hsz hN2 ?_
  refine g_ldG (lk_hd d2 _ _) htf (takeC_spec _ _ _ _ hc).1 hv (fun w hE j' u' hj => ?_) hN (k _ _)
  obtain ⟨b2, o2, hA2, hc2⟩ := (hrd w hE).fld hl hc
  cases hA2
  rw [← cellAt_hw]; exact hc2 j' u' hj
end
end Go.Wk

/- The document's answer (layer 16): Ints, Lists, told; layer 13: Reads; flow: rising. -/
namespace Go.Proofs.Ytpmkkmahimdjkaa
open Go.Wk
set_option linter.unusedVariables false
set_option linter.unusedSimpArgs false
attribute [local irreducible] G GC GQ GA GS Exit.then Exit.inBlock

/-- A list of numbers, as memory H holds it. -/
def RdI (H : Nat → Option Obj) (v : Value) (l : List Int) : Prop := ∃ ad cap, v = .slice ad l.length cap ∧ Rd H fI 1 ad l
theorem RdI.le {H1 H2 : Nat → Option Obj} (h : Hle H1 H2) {v : Value} {l : List Int} (hr : RdI H1 v l) : RdI H2 v l := by
  obtain ⟨ad, cap, rfl, h1⟩ := hr; exact ⟨ad, cap, rfl, h1.le h⟩
theorem OwnI.rd {v : Value} {l : List Int} {A : HL} (ho : OwnI v l A) {H : Nat → Option Obj} (hA : ∀ b o, (b, o) ∈ A → H b = some o) : RdI H v l := OwnL.rd (f := fI) (fun _ => rfl) ho hA
abbrev fV (v : Value) : List Value := [v]
/-- A list of lists. -/
def RdLL (H : Nat → Option Obj) (v : Value) (ll : List (List Int)) : Prop := ∃ (ad : Option Addr) (cap : Nat) (vals : List Value), v = .slice ad ll.length cap ∧ vals.length = ll.length ∧ Rd H fV 1 ad vals ∧ ∀ (i : Nat) (u : Value) (l : List Int), vals[i]? = some u → ll[i]? = some l → RdI H u l
theorem RdLL.le {H1 H2 : Nat → Option Obj} (h : Hle H1 H2) {v : Value} {l : List (List Int)} (hr : RdLL H1 v l) : RdLL H2 v l := by
  obtain ⟨ad, cap, vals, rfl, h1, h2, h3⟩ := hr; exact ⟨ad, cap, vals, rfl, h1, h2.le h, fun i u l hu hl => (h3 i u l hu hl).le h⟩

theorem num_sp (n : Int) (w : World) : Sp Try.prog 15 [.int .i64 n] w [] (fun _ : Unit => .int .i64 n) (fun _ => []) (fun _ => True) := by
  refine enter (s := Try.sx) [] Try.func15 rfl rfl rfl (Eff.refl w) ?_
  repeat' (first | refine g_pv rfl rfl ?_ | refine g_nil ?_ | refine gq_then ?_ | refine gc_seq ?_ | refine gc_region ?_ | refine gc_ret ?_)
  exact gq_ret1 (.inr rfl) rfl rfl rfl (fun w' H => ⟨(), trivial, rfl, H⟩)

theorem inc_eqM {k : Nat} (h : k < 9223372036854775807) : some (Value.int .i64 (IntKind.i64.wrap ((k : Int) + 1))) = some (Value.int .i64 ((k + 1 : Nat) : Int)) :=
  congrArg (fun z => some (Value.int .i64 z)) (by rw [IntKind.wrap_i64]; omega)
theorem ints_sp (a b : List Int) (va vb : Value) (w : World) (ha : RdI (hw w) va a) (hb : RdI (hw w) vb b) (hl : a.length < 9223372036854775808) :
    Sp Try.prog 14 [va, vb] w [] (fun _ : Unit => .bool (decide (a = b))) (fun _ => []) (fun _ => True) := by
  obtain ⟨ad, cap, rfl, ha⟩ := ha
  obtain ⟨bd, cap', rfl, hb⟩ := hb
  refine enter (s := Try.sx) [] Try.func14 rfl rfl rfl (Eff.refl w) ?_
  repeat' (first | refine g_pv rfl rfl ?_ | refine g_nil ?_ | refine gq_then ?_ | refine gc_seq ?_ | refine gc_region ?_)
  refine gc_condC rfl (fun hne => ?_) (fun hne => ?_)
  · repeat' (first | refine g_pv rfl rfl ?_ | refine g_nil ?_ | refine gq_then ?_ | refine gc_seq ?_ | refine gc_region ?_ | refine gc_ret ?_ | refine gq_then_ret ?_)
    refine gq_ret1 (.inr rfl) rfl rfl rfl (fun w' H => ⟨(), trivial, ?_, H⟩)
    have : a.length ≠ b.length := fun h => by simp [h] at hne
    have : a ≠ b := fun h => this (by rw [h])
    simp [this]
  · have hlen : a.length = b.length := by have := bne_eq_false_iff_eq.1 hne; omega
    repeat' (first | refine g_pv rfl rfl ?_ | refine g_nil ?_ | refine gq_then ?_ | refine gc_seq ?_ | refine gc_region ?_ | refine gc_block ?_ | refine gc_skip ?_)
    refine gc_loop (Y := Nat) (fun y => y ≤ a.length ∧ a.take y = b.take y)
      (fun y => [(0, .slice ad a.length cap), (1, .slice bd b.length cap'), (5, .int .i64 y)]) (fun y => [])
      (fun y => a.length - y) 0 ⟨Nat.zero_le _, by simp⟩ ⟨rfl, rfl, rfl, trivial⟩ (fun w' H => H) ?_
    rintro j ⟨hj, hpj⟩
    dsimp only at hj hpj ⊢
    repeat' (first | refine g_pv rfl rfl ?_ | refine g_nil ?_ | refine gq_then ?_ | refine gc_seq ?_ | refine gc_region ?_)
    refine gc_condC rfl (fun hc => ?_) (fun hc => ?_)
    · have hlt : j < a.length := by have := of_decide_eq_true hc; omega
      have hlt' : j < b.length := by omega
      repeat' (first | refine gq_then ?_ | refine gc_seq ?_ | refine gc_block ?_ | refine gc_skip ?_)
      refine gc_draw [] [] rfl (by simp) ?_
      (refine ga_p 0 (by repeat first | exact NoP.sp | apply NoP.then | apply NoP.block) rfl (pv_spec rfl) rfl (by kernel_rfl) (by kernel_rfl) (by kernel_rfl) ?_); (refine ga_p 1 (by repeat first | exact NoP.sp | apply NoP.then | apply NoP.block) rfl (pv_spec rfl) rfl (by kernel_rfl) (by kernel_rfl) (by kernel_rfl) ?_)
      refine ga_at 2 3 (l := a) (f := fI) (u := a[j]) (by repeat first | exact NoP.sp | apply NoP.then | apply NoP.block) rfl wanted_none rfl (fun a _ => wanted_none a) rfl rfl rfl rfl rfl (Int.natCast_nonneg j) (by omega) (still_rdO (ha.le (old_le0 _ w))) (List.getElem?_eq_getElem hlt) rfl rfl rfl rfl (by kernel_rfl) (by kernel_rfl) (by kernel_rfl) (by kernel_rfl) (by kernel_rfl) (fun _ => ?_)
      (refine ga_p 4 (by repeat first | exact NoP.sp | apply NoP.then | apply NoP.block) rfl (pv_spec rfl) rfl (by kernel_rfl) (by kernel_rfl) (by kernel_rfl) ?_); (refine ga_p 5 (by repeat first | exact NoP.sp | apply NoP.then | apply NoP.block) rfl (pv_spec rfl) rfl (by kernel_rfl) (by kernel_rfl) (by kernel_rfl) ?_)
      refine ga_at 6 7 (l := b) (f := fI) (u := b[j]) (by repeat first | exact NoP.sp | apply NoP.then | apply NoP.block) rfl wanted_none rfl (fun a _ => wanted_none a) rfl rfl rfl rfl rfl (Int.natCast_nonneg j) (by omega) (still_rdO (hb.le (old_le0 _ w))) (List.getElem?_eq_getElem hlt') rfl rfl rfl rfl (by kernel_rfl) (by kernel_rfl) (by kernel_rfl) (by kernel_rfl) (by kernel_rfl) (fun _ => ?_)
      (refine ga_p 8 (by repeat first | exact NoP.sp | apply NoP.then | apply NoP.block) rfl (pv_spec rfl) rfl (by kernel_rfl) (by kernel_rfl) (by kernel_rfl) ?_)
      refine ga_nil (by kernel_rfl) ?_
      repeat' (refine gq_then ?_)
      refine gc_condC rfl (fun hq => ?_) (fun hq => ?_)
      · repeat' (first | refine g_pv rfl rfl ?_ | refine g_nil ?_ | refine gq_then ?_ | refine gc_seq ?_ | refine gc_region ?_ | refine gc_ret ?_ | refine gq_then_ret ?_ | refine gq_block_ret ?_)
        refine gq_ret1 (.inr rfl) rfl rfl rfl (fun w' H => ⟨(), trivial, ?_, H⟩)
        have : a ≠ b := fun h => by subst h; simp at hq
        simp [this]
      · repeat' (first | refine g_pv rfl rfl ?_ | refine g_nil ?_ | refine gq_then ?_ | refine gc_region ?_ | refine gc_skip ?_ | refine gq_block ?_)
        refine gq_again (j + 1) ⟨hlt, ?_⟩ (by omega) ⟨rfl, rfl, inc_eqM (by omega), trivial⟩ (fun w' H => H)
        rw [List.take_succ_eq_append_getElem hlt, List.take_succ_eq_append_getElem hlt', hpj, bne_eq_false_iff_eq.1 hq]
    · have hge : j = a.length := by have := of_decide_eq_false hc; omega
      repeat' (first | refine g_pv rfl rfl ?_ | refine g_nil ?_ | refine gq_then ?_ | refine gc_seq ?_ | refine gc_region ?_ | refine gc_exit ?_ | refine gc_ret ?_ | refine gq_then_exit ?_ | refine gq_block_exit ?_)
      refine gq_ret1 (.inr rfl) rfl rfl rfl (fun w' H => ⟨(), trivial, ?_, H⟩)
      rw [hge, List.take_length, hlen, List.take_length] at hpj
      simp [hpj]

theorem lists_sp (a b : List (List Int)) (va vb : Value) (w : World) (ha : RdLL (hw w) va a) (hb : RdLL (hw w) vb b) (hl : a.length < 9223372036854775808) (hll : ∀ l ∈ a, l.length < 9223372036854775808) :
    Sp Try.prog 16 [va, vb] w [] (fun _ : Unit => .bool (decide (a = b))) (fun _ => []) (fun _ => True) := by
  obtain ⟨ad, cap, avs, rfl, hal, ha, hai⟩ := ha
  obtain ⟨bd, cap', bvs, rfl, hbl, hb, hbi⟩ := hb
  refine enter (s := Try.sx) [] Try.func16 rfl rfl rfl (Eff.refl w) ?_
  repeat' (first | refine g_pv rfl rfl ?_ | refine g_nil ?_ | refine gq_then ?_ | refine gc_seq ?_ | refine gc_region ?_)
  refine gc_condC rfl (fun hne => ?_) (fun hne => ?_)
  · repeat' (first | refine g_pv rfl rfl ?_ | refine g_nil ?_ | refine gq_then ?_ | refine gc_seq ?_ | refine gc_region ?_ | refine gc_ret ?_ | refine gq_then_ret ?_)
    refine gq_ret1 (.inr rfl) rfl rfl rfl (fun w' H => ⟨(), trivial, ?_, H⟩)
    have : a.length ≠ b.length := fun h => by simp [h] at hne
    have : a ≠ b := fun h => this (by rw [h])
    simp [this]
  · have hlen : a.length = b.length := by have := bne_eq_false_iff_eq.1 hne; omega
    repeat' (first | refine g_pv rfl rfl ?_ | refine g_nil ?_ | refine gq_then ?_ | refine gc_seq ?_ | refine gc_region ?_ | refine gc_block ?_ | refine gc_skip ?_)
    refine gc_loop (Y := Nat) (fun y => y ≤ a.length ∧ a.take y = b.take y)
      (fun y => [(0, .slice ad a.length cap), (1, .slice bd b.length cap'), (5, .int .i64 y)]) (fun y => [])
      (fun y => a.length - y) 0 ⟨Nat.zero_le _, by simp⟩ ⟨rfl, rfl, rfl, trivial⟩ (fun w' H => H) ?_
    rintro j ⟨hj, hpj⟩
    dsimp only at hj hpj ⊢
    repeat' (first | refine g_pv rfl rfl ?_ | refine g_nil ?_ | refine gq_then ?_ | refine gc_seq ?_ | refine gc_region ?_)
    refine gc_condC rfl (fun hc => ?_) (fun hc => ?_)
    · have hlt : j < a.length := by have := of_decide_eq_true hc; omega
      have hlt' : j < b.length := by omega
      have hlta : j < avs.length := by omega
      have hltb : j < bvs.length := by omega
      repeat' (first | refine gq_then ?_ | refine gc_seq ?_ | refine gc_block ?_ | refine gc_skip ?_)
      refine gc_draw [] [] rfl (by simp) ?_
      (refine ga_p 0 (by repeat first | exact NoP.sp | apply NoP.then | apply NoP.block) rfl (pv_spec rfl) rfl (by kernel_rfl) (by kernel_rfl) (by kernel_rfl) ?_); (refine ga_p 1 (by repeat first | exact NoP.sp | apply NoP.then | apply NoP.block) rfl (pv_spec rfl) rfl (by kernel_rfl) (by kernel_rfl) (by kernel_rfl) ?_)
      refine ga_at 2 3 (l := avs) (f := fV) (u := avs[j]) (by repeat first | exact NoP.sp | apply NoP.then | apply NoP.block) rfl wanted_none rfl (fun a _ => wanted_none a) rfl rfl rfl rfl rfl (Int.natCast_nonneg j) (by omega) (still_rdO (ha.le (old_le0 _ w))) (List.getElem?_eq_getElem hlta) rfl rfl rfl rfl (by kernel_rfl) (by kernel_rfl) (by kernel_rfl) (by kernel_rfl) (by kernel_rfl) (fun _ => ?_)
      (refine ga_p 4 (by repeat first | exact NoP.sp | apply NoP.then | apply NoP.block) rfl (pv_spec rfl) rfl (by kernel_rfl) (by kernel_rfl) (by kernel_rfl) ?_); (refine ga_p 5 (by repeat first | exact NoP.sp | apply NoP.then | apply NoP.block) rfl (pv_spec rfl) rfl (by kernel_rfl) (by kernel_rfl) (by kernel_rfl) ?_)
      refine ga_at 6 7 (l := bvs) (f := fV) (u := bvs[j]) (by repeat first | exact NoP.sp | apply NoP.then | apply NoP.block) rfl wanted_none rfl (fun a _ => wanted_none a) rfl rfl rfl rfl rfl (Int.natCast_nonneg j) (by omega) (still_rdO (hb.le (old_le0 _ w))) (List.getElem?_eq_getElem hltb) rfl rfl rfl rfl (by kernel_rfl) (by kernel_rfl) (by kernel_rfl) (by kernel_rfl) (by kernel_rfl) (fun _ => ?_)
      have ra := hai j _ _ (List.getElem?_eq_getElem hlta) (List.getElem?_eq_getElem hlt)
      have rb := hbi j _ _ (List.getElem?_eq_getElem hltb) (List.getElem?_eq_getElem hlt')
      have hla := hll _ (List.getElem_mem hlt)
      refine ga_one (i := 8) (by kernel_rfl) (gs_of rfl (fun K hK => ?_))
      generalize ea : a[j] = aj at ra hla
      generalize eb : b[j] = bj at rb
      generalize avs[j] = av at ra ⊢
      generalize bvs[j] = bv at rb ⊢
      refine g_call rfl (Cl.of Try.func14 rfl rfl) rfl rfl (fun w' hE => ints_sp aj bj _ _ w' (ra.le (fun b o h => old_le hE b o (old_le0 _ w b o h))) (rb.le (fun b o h => old_le hE b o (old_le0 _ w b o h))) hla) rfl (fun y hy => ?_)
      refine g_nil ?_
      refine hK _ _ ⟨[], by simp⟩ ?_
      (refine ga_p 9 (by repeat first | exact NoP.sp | apply NoP.then | apply NoP.block) rfl (pv_spec rfl) rfl (by kernel_rfl) (by kernel_rfl) (by kernel_rfl) ?_)
      refine ga_nil (by kernel_rfl) ?_
      repeat' (refine gq_then ?_)
      refine gc_condC rfl (fun hq => ?_) (fun hq => ?_)
      · repeat' (first | refine g_pv rfl rfl ?_ | refine g_nil ?_ | refine gq_then ?_ | refine gc_seq ?_ | refine gc_region ?_ | refine gc_ret ?_ | refine gq_then_ret ?_ | refine gq_block_ret ?_)
        refine gq_ret1 (.inr rfl) rfl rfl rfl (fun w' H => ⟨(), trivial, ?_, H⟩)
        have : a ≠ b := fun h => by subst h; rw [ea] at eb; subst eb; simp at hq
        simp [this]
      · repeat' (first | refine g_pv rfl rfl ?_ | refine g_nil ?_ | refine gq_then ?_ | refine gc_region ?_ | refine gc_skip ?_ | refine gq_block ?_)
        refine gq_again (j + 1) ⟨hlt, ?_⟩ (by omega) ⟨rfl, rfl, inc_eqM (by omega), trivial⟩ (fun w' H => H)
        have : aj = bj := by simpa using hq
        rw [List.take_succ_eq_append_getElem hlt, List.take_succ_eq_append_getElem hlt', hpj, ea, eb, this]
    · have hge : j = a.length := by have := of_decide_eq_false hc; omega
      repeat' (first | refine g_pv rfl rfl ?_ | refine g_nil ?_ | refine gq_then ?_ | refine gc_seq ?_ | refine gc_region ?_ | refine gc_exit ?_ | refine gc_ret ?_ | refine gq_then_exit ?_ | refine gq_block_exit ?_)
      refine gq_ret1 (.inr rfl) rfl rfl rfl (fun w' H => ⟨(), trivial, ?_, H⟩)
      rw [hge, List.take_length, hlen, List.take_length] at hpj
      simp [hpj]
end Go.Proofs.Ytpmkkmahimdjkaa
