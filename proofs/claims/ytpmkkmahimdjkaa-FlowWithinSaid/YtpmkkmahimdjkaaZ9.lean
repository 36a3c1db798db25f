/-
  flow.drawn.
-/
import Derived.Test.YtpmkkmahimdjkaaZ8

/- flow.drawn. -/
namespace Go.Proofs.Ytpmkkmahimdjkaa
open Go.Wk
set_option linter.unusedVariables false
set_option linter.unusedSimpArgs false
attribute [local irreducible] G GC GQ GA GS Exit.then Exit.inBlock

/-- The graph of a right function, as memory of one's own. -/
def GraphA (f : TF) (v : Value) (A : HL) : Prop := ∃ gb nv fv mn mf, v = .pointer (some ⟨gb, 0, none⟩) ∧ OwnLL nv (nextsAt f.code f.code.length) mn ∧ OwnLL fv (fromsAt f.code f.code.length) mf ∧
  A = [(gb, .cells ⟨f.cells ++ [nv, fv]⟩ 71 (0, 0))] ++ mn.A0 ++ mn.As.flatten ++ mf.A0 ++ mf.As.flatten

structure DS where
  i : Nat
  mn : LM
  mf : LM

theorem next_sp' (l : List Ins) (i : Nat) (ad : Option Addr) (cap : Nat) (w : World) (hc : CodeIn (hw w) ad l) (hi : i < l.length) :
    Sp Try.prog 45 [.slice ad l.length cap, .int .i64 i] w [] (fun y : Value × HL => y.1) (fun y => [y.2]) (fun y => OwnI y.1 (nxt l i) y.2) := by
  have h := next_sp l i ad cap w hc hi
  have e : nxt l i = nextL l.length l[i] i := by simp [nxt, List.getElem?_eq_getElem hi]
  rw [e]; exact h

set_option maxHeartbeats 16000000 in
theorem drawn_sp (f : TF) (w : World) (hf : CodeIn (hw w) f.cA f.code) :
    Sp Try.prog 28 [f.val] w [] (fun y : Value × HL => .tuple #[y.1, .int .i64 (if f.right then 0 else 160)]) (fun y => [y.2]) (fun y => if f.right then GraphA f y.1 y.2 else y.1 = .pointer none) := by
  refine enter (s := Try.sx) [] Try.func28 rfl rfl rfl (Eff.refl w) ?_
  have hlen := hf.len
  refine gc_seq ?_
  repeat' (first | refine g_pv rfl rfl ?_ | refine g_nil ?_ | refine gq_then ?_ | refine gc_region ?_ | refine g_box rfl rfl (fun _ => ?_))
  rename_i b1
  refine gc_seq ?_
  repeat' (first | refine g_pv rfl rfl ?_ | refine g_ld 0 rfl rfl rfl rfl rfl rfl ?_ | refine g_nil ?_ | refine gq_then ?_ | refine gc_region ?_)
  refine gc_cut (Y := Unit) (fun _ => f.headOk = true) (fun _ => [(1, .pointer (some ⟨b1, 0, none⟩)), (4, .int .i64 f.code.length)]) (fun _ => [[(b1, .cells ⟨f.cells⟩ 25 (0, 0))]]) ?_ ?_
  · refine gc_seq ?_
    repeat' (first | refine g_pv rfl rfl ?_ | refine gc_region ?_)
    refine g_case (t := 17) rfl (fun h1 => ?_) (fun h1 => ?_)
    · repeat' (first | refine g_pv rfl rfl ?_ | refine g_nil ?_ | refine gq_then ?_ | refine gc_seq ?_ | refine gc_region ?_ | refine gc_cond_t rfl ?_ | refine gc_ret ?_ | refine gq_then_ret ?_ | refine g_no rfl rfl rfl rfl rfl ?_)
      have h1' : (f.code.length : Int) < 1 := of_decide_eq_true h1
      have hr : f.right = false := by simp [TF.right, TF.headOk]; omega
      exact gq_ret2 (.inr rfl) rfl rfl rfl rfl (fun w' H => ⟨(.pointer none, []), by rw [hr]; rfl, by rw [hr]; rfl, hp_perm (hp_nil H) (by simp)⟩)
    have h1' : ¬ (f.code.length : Int) < 1 := of_decide_eq_false h1
    repeat' (first | refine g_pv rfl rfl ?_ | refine g_yes rfl rfl rfl ?_)
    refine g_case (t := 21) rfl (fun h2 => ?_) (fun h2 => ?_)
    · repeat' (first | refine g_pv rfl rfl ?_ | refine g_nil ?_ | refine gq_then ?_ | refine gc_seq ?_ | refine gc_region ?_ | refine gc_cond_t rfl ?_ | refine gc_ret ?_ | refine gq_then_ret ?_ | refine g_no rfl rfl rfl rfl rfl ?_)
      have h2' : (f.code.length : Int) > 16384 := of_decide_eq_true h2
      have hr : f.right = false := by simp [TF.right, TF.headOk]; omega
      exact gq_ret2 (.inr rfl) rfl rfl rfl rfl (fun w' H => ⟨(.pointer none, []), by rw [hr]; rfl, by rw [hr]; rfl, hp_perm (hp_nil H) (by simp)⟩)
    have h2' : ¬ (f.code.length : Int) > 16384 := of_decide_eq_false h2
    repeat' (first | refine g_pv rfl rfl ?_ | refine g_ld 0 rfl rfl rfl rfl rfl rfl ?_ | refine g_yes rfl rfl rfl ?_)
    refine g_case (t := 26) rfl (fun h3 => ?_) (fun h3 => ?_)
    · repeat' (first | refine g_pv rfl rfl ?_ | refine g_nil ?_ | refine gq_then ?_ | refine gc_seq ?_ | refine gc_region ?_ | refine gc_cond_t rfl ?_ | refine gc_ret ?_ | refine gq_then_ret ?_ | refine g_no rfl rfl rfl rfl rfl ?_)
      have h3' : f.temps < 0 := of_decide_eq_true h3
      have hr : f.right = false := by simp [TF.right, TF.headOk]; omega
      exact gq_ret2 (.inr rfl) rfl rfl rfl rfl (fun w' H => ⟨(.pointer none, []), by rw [hr]; rfl, by rw [hr]; rfl, hp_perm (hp_nil H) (by simp)⟩)
    have h3' : ¬ f.temps < 0 := of_decide_eq_false h3
    repeat' (first | refine g_pv rfl rfl ?_ | refine g_ld 0 rfl rfl rfl rfl rfl rfl ?_ | refine g_nil ?_ | refine gq_then ?_ | refine g_yes rfl rfl rfl ?_)
    refine gc_condC rfl (fun h4 => ?_) (fun h4 => ?_)
    · repeat' (first | refine g_pv rfl rfl ?_ | refine g_nil ?_ | refine gq_then ?_ | refine gc_seq ?_ | refine gc_region ?_ | refine gc_ret ?_ | refine gq_then_ret ?_)
      have h4' : f.temps > 4096 := of_decide_eq_true h4
      have hr : f.right = false := by simp [TF.right, TF.headOk]; omega
      exact gq_ret2 (.inr rfl) rfl rfl rfl rfl (fun w' H => ⟨(.pointer none, []), by rw [hr]; rfl, by rw [hr]; rfl, hp_perm (hp_nil H) (by simp)⟩)
    have h4' : ¬ f.temps > 4096 := of_decide_eq_false h4
    repeat' (refine gc_skip ?_)
    refine gq_at () ?_ ⟨rfl, rfl, trivial⟩ (fun w' H => H)
    simp [TF.headOk]; omega
  rintro ⟨⟩ hhead
  dsimp only
  have hrt : f.right = f.code.all (insOk f.code.length f.temps) := by simp [TF.right, hhead]
  have hh := hhead
  simp only [TF.headOk, Bool.and_eq_true, decide_eq_true_eq] at hh
  obtain ⟨⟨⟨hh1, hh2⟩, hh3⟩, hh4⟩ := hh
  refine gc_cut (Y := Nat × Nat × Nat) (fun _ => True) (fun y => [(1, .pointer (some ⟨b1, 0, none⟩)), (4, .int .i64 f.code.length), (5, .pointer (some ⟨y.1, 0, none⟩))])
    (fun y => [[(y.1, .cells ⟨f.cells ++ [.slice (some ⟨y.2.1, 0, none⟩) f.code.length f.code.length, .slice (some ⟨y.2.2, 0, none⟩) f.code.length f.code.length]⟩ 71 (0, 0))],
      [(y.2.1, .cells ⟨rep f.code.length [.slice none 0 0]⟩ 26 (0, 0))], [(y.2.2, .cells ⟨rep f.code.length [.slice none 0 0]⟩ 26 (0, 0))], [(b1, .cells ⟨f.cells⟩ 25 (0, 0))]]) ?_ ?_
  · refine gc_draw [[(b1, .cells ⟨f.cells⟩ 25 (0, 0))]] [] rfl (by simp) ?_
    (refine ga_ld 0 0 (by repeat first | exact NoP.sp | apply NoP.then | apply NoP.block) rfl wanted_none rfl rfl rfl rfl rfl rfl (by kernel_rfl) (by kernel_rfl) (by kernel_rfl) ?_); (refine ga_p 1 (by repeat first | exact NoP.sp | apply NoP.then | apply NoP.block) rfl (pv_spec rfl) rfl (by kernel_rfl) (by kernel_rfl) (by kernel_rfl) ?_); (refine ga_p 3 (by repeat first | exact NoP.sp | apply NoP.then | apply NoP.block) rfl (pv_spec rfl) rfl (by kernel_rfl) (by kernel_rfl) (by kernel_rfl) ?_)
    refine ga_two (i := 2) (j := 4) (by kernel_rfl) (gs_of rfl (fun K hK => ?_)) (gs_of rfl (fun K hK => ?_))
    · refine g_make (n := f.code.length) (c := f.code.length) rfl rfl rfl rfl rfl (Nat.le_refl _) (by show 24 * _ ≤ _; omega) (by omega) rfl (fun g2 => ?_)
      refine g_nil ?_
      refine hK _ _ ⟨_, List.Perm.swap _ _ _⟩ ?_
      refine ga_one (i := 4) (by kernel_rfl) (gs_of rfl (fun K hK => ?_))
      refine g_make (n := f.code.length) (c := f.code.length) rfl rfl rfl rfl rfl (Nat.le_refl _) (by show 24 * _ ≤ _; omega) (by omega) rfl (fun g4 => ?_)
      refine g_nil ?_
      refine hK _ _ ⟨[_, _], List.perm_append_comm⟩ ?_
      refine ga_p 5 (by repeat first | exact NoP.sp | apply NoP.then | apply NoP.block) rfl (p_build rfl rfl rfl rfl) rfl (by kernel_rfl) (by kernel_rfl) (by kernel_rfl) ?_
      refine ga_one (i := 6) (by kernel_rfl) (gs_of rfl (fun K hK => ?_))
      refine g_box rfl rfl (fun g6 => ?_)
      refine g_nil ?_
      refine hK _ _ ⟨[_, _, _], List.perm_append_comm⟩ ?_
      (refine ga_p 7 (by repeat first | exact NoP.sp | apply NoP.then | apply NoP.block) rfl (pv_spec rfl) rfl (by kernel_rfl) (by kernel_rfl) (by kernel_rfl) ?_)
      refine ga_nil (by kernel_rfl) ?_
      exact gq_at (g6, g2, g4) trivial ⟨rfl, rfl, rfl, trivial⟩ (fun w' H => hp_permL H (List.Perm.cons _ (List.Perm.swap _ _ _)))
    · refine g_make (n := f.code.length) (c := f.code.length) rfl rfl rfl rfl rfl (Nat.le_refl _) (by show 24 * _ ≤ _; omega) (by omega) rfl (fun g4 => ?_)
      refine g_nil ?_
      refine hK _ _ ⟨_, List.Perm.swap _ _ _⟩ ?_
      refine ga_one (i := 2) (by kernel_rfl) (gs_of rfl (fun K hK => ?_))
      refine g_make (n := f.code.length) (c := f.code.length) rfl rfl rfl rfl rfl (Nat.le_refl _) (by show 24 * _ ≤ _; omega) (by omega) rfl (fun g2 => ?_)
      refine g_nil ?_
      refine hK _ _ ⟨[_, _], List.perm_append_comm⟩ ?_
      refine ga_p 5 (by repeat first | exact NoP.sp | apply NoP.then | apply NoP.block) rfl (p_build rfl rfl rfl rfl) rfl (by kernel_rfl) (by kernel_rfl) (by kernel_rfl) ?_
      refine ga_one (i := 6) (by kernel_rfl) (gs_of rfl (fun K hK => ?_))
      refine g_box rfl rfl (fun g6 => ?_)
      refine g_nil ?_
      refine hK _ _ ⟨[_, _, _], List.perm_append_comm⟩ ?_
      (refine ga_p 7 (by repeat first | exact NoP.sp | apply NoP.then | apply NoP.block) rfl (pv_spec rfl) rfl (by kernel_rfl) (by kernel_rfl) (by kernel_rfl) ?_)
      refine ga_nil (by kernel_rfl) ?_
      exact gq_at (g6, g2, g4) trivial ⟨rfl, rfl, rfl, trivial⟩ (fun w' H => H)
  rintro ⟨gb, gn, gf⟩ -
  dsimp only
  generalize hnv : Value.slice (some ⟨gn, 0, none⟩) f.code.length f.code.length = nv
  generalize hfv : Value.slice (some ⟨gf, 0, none⟩) f.code.length f.code.length = fv
  repeat' (first | refine g_pv rfl rfl ?_ | refine g_ld 3 rfl rfl rfl rfl rfl rfl ?_ | refine g_nil ?_ | refine gq_then ?_ | refine gc_seq ?_ | refine gc_region ?_ | refine gc_block ?_)
  refine gc_loop (Y := DS) (fun y => y.i ≤ f.code.length ∧ (f.code.take y.i).all (insOk f.code.length f.temps) = true ∧ OwnLL nv (nextsAt f.code y.i) y.mn ∧ OwnLL fv (fromsAt f.code y.i) y.mf)
    (fun y => [(1, .pointer (some ⟨b1, 0, none⟩)), (4, .int .i64 f.code.length), (5, .pointer (some ⟨gb, 0, none⟩)), (39, .slice f.cA f.code.length f.cC), (40, .int .i64 f.code.length), (41, .int .i64 y.i)])
    (fun y => [[(b1, .cells ⟨f.cells⟩ 25 (0, 0))], [(gb, .cells ⟨f.cells ++ [nv, fv]⟩ 71 (0, 0))], y.mn.A0, y.mn.As.flatten, y.mf.A0, y.mf.As.flatten])
    (fun y => f.code.length - y.i) ⟨0, ⟨_, _, _⟩, ⟨_, _, _⟩⟩ ⟨Nat.zero_le _, by simp, by simpa [nextsAt, hnv] using own_nils gn f.code.length (by unfold maxLen; omega), by simpa [fromsAt, hfv] using own_nils gf f.code.length (by unfold maxLen; omega)⟩ ⟨rfl, rfl, rfl, rfl, rfl, rfl, trivial⟩
    (fun w' H => hp_cnt [] H (fun a => by simp only [List.cons_append, List.nil_append, List.set_cons_zero, List.set_cons_succ, List.flatten_append, List.flatten_cons, List.flatten_nil, List.count_append, List.count_cons, List.count_nil, List.append_nil, List.flatten_replicate_nil]; omega)) ?_
  rintro ⟨i, mn, mf⟩ ⟨hi, hpre, hmn, hmf⟩
  dsimp only at hi hpre hmn hmf ⊢
  repeat' (first | refine g_pv rfl rfl ?_ | refine g_nil ?_ | refine gq_then ?_ | refine gc_seq ?_ | refine gc_region ?_)
  refine gc_condC rfl (fun hc => ?_) (fun hc => ?_)
  · have hlt : i < f.code.length := by have := of_decide_eq_true hc; omega
    have hx := ins_at hf hlt
    have hbad : insOk f.code.length f.temps f.code[i] = false → f.right = false := fun h => by
      rw [hrt, List.all_eq_false]; exact ⟨f.code[i], List.getElem_mem hlt, by simp [h]⟩
    repeat' (first | refine gq_then ?_ | refine gc_skip ?_)
    refine gc_seq ?_
    repeat' (refine gc_block ?_)
    refine gc_seq ?_
    repeat' (first | refine g_pv rfl rfl ?_ | refine gc_region ?_)
    refine g_at (l := f.code) (f := Ins.cells) (u := f.code[i]) rfl rfl rfl rfl rfl (Int.natCast_nonneg i) (by omega) (hf.row.le (old_le0 _ w)) (List.getElem?_eq_getElem hlt) rfl rfl rfl rfl (fun _ => ?_)
    generalize hxe : f.code[i] = x at hx hbad ⊢
    repeat' (first | refine g_pv rfl rfl ?_ | refine g_nil ?_ | refine gq_then ?_ | refine g_alloc rfl rfl (fun _ => ?_) | refine g_st 0 rfl rfl rfl rfl rfl rfl rfl ?_)
    rename_i b7
    refine gc_cut (Y := Unit) (fun _ => jumpBad f.code.length x = false ∧ decide (x.writes ≥ f.temps) = false) (fun _ => [(1, .pointer (some ⟨b1, 0, none⟩)), (4, .int .i64 f.code.length), (5, .pointer (some ⟨gb, 0, none⟩)), (39, .slice f.cA f.code.length f.cC), (40, .int .i64 f.code.length), (41, .int .i64 i), (6, .int .i64 i), (7, .pointer (some ⟨b7, 0, none⟩))])
      (fun _ => [[(b7, .cells ⟨x.cells⟩ 62 (0, 0))], [(b1, .cells ⟨f.cells⟩ 25 (0, 0))], [(gb, .cells ⟨f.cells ++ [nv, fv]⟩ 71 (0, 0))], mn.A0, mn.As.flatten, mf.A0, mf.As.flatten]) ?_ ?_
    · refine gc_cut (Y := Unit) (fun _ => True) (fun _ => [(71, .bool (jumpBad f.code.length x || decide (x.writes ≥ f.temps))), (1, .pointer (some ⟨b1, 0, none⟩)), (4, .int .i64 f.code.length), (5, .pointer (some ⟨gb, 0, none⟩)), (39, .slice f.cA f.code.length f.cC), (40, .int .i64 f.code.length), (41, .int .i64 i), (6, .int .i64 i), (7, .pointer (some ⟨b7, 0, none⟩))])
        (fun _ => [[(b7, .cells ⟨x.cells⟩ 62 (0, 0))], [(b1, .cells ⟨f.cells⟩ 25 (0, 0))], [(gb, .cells ⟨f.cells ++ [nv, fv]⟩ 71 (0, 0))], mn.A0, mn.As.flatten, mf.A0, mf.As.flatten]) ?_ ?_
      · refine gc_draw [[(b7, .cells ⟨x.cells⟩ 62 (0, 0))], [(b1, .cells ⟨f.cells⟩ 25 (0, 0))]] [_, _, _, _, _] rfl (List.Perm.refl _) ?_
        (refine ga_p 0 (by repeat first | exact NoP.sp | apply NoP.then | apply NoP.block) rfl (pv_spec rfl) rfl (by kernel_rfl) (by kernel_rfl) (by kernel_rfl) ?_); (refine ga_ld 1 0 (by repeat first | exact NoP.sp | apply NoP.then | apply NoP.block) rfl wanted_none rfl rfl rfl rfl rfl rfl (by kernel_rfl) (by kernel_rfl) (by kernel_rfl) ?_); (refine ga_p 2 (by repeat first | exact NoP.sp | apply NoP.then | apply NoP.block) rfl (pv_spec rfl) rfl (by kernel_rfl) (by kernel_rfl) (by kernel_rfl) ?_); (refine ga_p 3 (by repeat first | exact NoP.sp | apply NoP.then | apply NoP.block) rfl (pv_spec rfl) rfl (by kernel_rfl) (by kernel_rfl) (by kernel_rfl) ?_)
        refine ga_case (t := 49) rfl (fun h1 => ?_) (fun h1 => ?_)
        · (refine ga_n 4 (by repeat first | exact NoP.sp | apply NoP.then | apply NoP.block) rfl rfl rfl rfl rfl rfl (by kernel_rfl) (by kernel_rfl) (by kernel_rfl) ?_); (refine ga_n 5 (by repeat first | exact NoP.sp | apply NoP.then | apply NoP.block) rfl rfl rfl rfl rfl rfl (by kernel_rfl) (by kernel_rfl) (by kernel_rfl) ?_); (refine ga_n 6 (by repeat first | exact NoP.sp | apply NoP.then | apply NoP.block) rfl rfl rfl rfl rfl rfl (by kernel_rfl) (by kernel_rfl) (by kernel_rfl) ?_); (refine ga_p 7 (by repeat first | exact NoP.sp | apply NoP.then | apply NoP.block) rfl (pv_spec rfl) rfl (by kernel_rfl) (by kernel_rfl) (by kernel_rfl) ?_); (refine ga_p 8 (by repeat first | exact NoP.sp | apply NoP.then | apply NoP.block) rfl (pv_spec rfl) rfl (by kernel_rfl) (by kernel_rfl) (by kernel_rfl) ?_); (refine ga_py 9 (by repeat first | exact NoP.sp | apply NoP.then | apply NoP.block) rfl rfl rfl rfl (pv_spec rfl) rfl (by kernel_rfl) (by kernel_rfl) (by kernel_rfl) ?_); (refine ga_ld 10 0 (by repeat first | exact NoP.sp | apply NoP.then | apply NoP.block) rfl (wanted_yes rfl rfl rfl) rfl rfl rfl rfl rfl rfl (by kernel_rfl) (by kernel_rfl) (by kernel_rfl) ?_); (refine ga_py 11 (by repeat first | exact NoP.sp | apply NoP.then | apply NoP.block) rfl rfl rfl rfl (pv_spec rfl) rfl (by kernel_rfl) (by kernel_rfl) (by kernel_rfl) ?_); (refine ga_py 12 (by repeat first | exact NoP.sp | apply NoP.then | apply NoP.block) rfl rfl rfl rfl (pv_spec rfl) rfl (by kernel_rfl) (by kernel_rfl) (by kernel_rfl) ?_)
          refine ga_case (t := 58) rfl (fun h2 => ?_) (fun h2 => ?_)
          · (refine ga_n 13 (by repeat first | exact NoP.sp | apply NoP.then | apply NoP.block) rfl rfl rfl rfl rfl rfl (by kernel_rfl) (by kernel_rfl) (by kernel_rfl) ?_); (refine ga_n 14 (by repeat first | exact NoP.sp | apply NoP.then | apply NoP.block) rfl rfl rfl rfl rfl rfl (by kernel_rfl) (by kernel_rfl) (by kernel_rfl) ?_); (refine ga_n 15 (by repeat first | exact NoP.sp | apply NoP.then | apply NoP.block) rfl rfl rfl rfl rfl rfl (by kernel_rfl) (by kernel_rfl) (by kernel_rfl) ?_); (refine ga_n 16 (by repeat first | exact NoP.sp | apply NoP.then | apply NoP.block) rfl rfl rfl rfl rfl rfl (by kernel_rfl) (by kernel_rfl) (by kernel_rfl) ?_); (refine ga_py 17 (by repeat first | exact NoP.sp | apply NoP.then | apply NoP.block) rfl rfl rfl rfl (pv_spec rfl) rfl (by kernel_rfl) (by kernel_rfl) (by kernel_rfl) ?_); (refine ga_p 18 (by repeat first | exact NoP.sp | apply NoP.then | apply NoP.block) rfl (pv_spec rfl) rfl (by kernel_rfl) (by kernel_rfl) (by kernel_rfl) ?_); (refine ga_p 19 (by repeat first | exact NoP.sp | apply NoP.then | apply NoP.block) rfl (pv_spec rfl) rfl (by kernel_rfl) (by kernel_rfl) (by kernel_rfl) ?_); (refine ga_n 20 (by repeat first | exact NoP.sp | apply NoP.then | apply NoP.block) rfl rfl rfl rfl rfl rfl (by kernel_rfl) (by kernel_rfl) (by kernel_rfl) ?_); (refine ga_n 21 (by repeat first | exact NoP.sp | apply NoP.then | apply NoP.block) rfl rfl rfl rfl rfl rfl (by kernel_rfl) (by kernel_rfl) (by kernel_rfl) ?_); (refine ga_n 22 (by repeat first | exact NoP.sp | apply NoP.then | apply NoP.block) rfl rfl rfl rfl rfl rfl (by kernel_rfl) (by kernel_rfl) (by kernel_rfl) ?_); (refine ga_n 23 (by repeat first | exact NoP.sp | apply NoP.then | apply NoP.block) rfl rfl rfl rfl rfl rfl (by kernel_rfl) (by kernel_rfl) (by kernel_rfl) ?_); (refine ga_n 24 (by repeat first | exact NoP.sp | apply NoP.then | apply NoP.block) rfl rfl rfl rfl rfl rfl (by kernel_rfl) (by kernel_rfl) (by kernel_rfl) ?_); (refine ga_p 25 (by repeat first | exact NoP.sp | apply NoP.then | apply NoP.block) rfl (pv_spec rfl) rfl (by kernel_rfl) (by kernel_rfl) (by kernel_rfl) ?_)
            refine ga_nil (by kernel_rfl) ?_
            refine gq_at () trivial ⟨?_, rfl, rfl, rfl, rfl, rfl, rfl, rfl, rfl, trivial⟩ (fun w' H => H)
            have : jumpBad f.code.length x = true := by simp only [jumpBad, h1, h2]; simp
            rw [this]; rfl
          · (refine ga_py 13 (by repeat first | exact NoP.sp | apply NoP.then | apply NoP.block) rfl rfl rfl rfl (pv_spec rfl) rfl (by kernel_rfl) (by kernel_rfl) (by kernel_rfl) ?_); (refine ga_ld 14 0 (by repeat first | exact NoP.sp | apply NoP.then | apply NoP.block) rfl (wanted_yes rfl rfl rfl) rfl rfl rfl rfl rfl rfl (by kernel_rfl) (by kernel_rfl) (by kernel_rfl) ?_); (refine ga_py 15 (by repeat first | exact NoP.sp | apply NoP.then | apply NoP.block) rfl rfl rfl rfl (pv_spec rfl) rfl (by kernel_rfl) (by kernel_rfl) (by kernel_rfl) ?_); (refine ga_py 16 (by repeat first | exact NoP.sp | apply NoP.then | apply NoP.block) rfl rfl rfl rfl (pv_spec rfl) rfl (by kernel_rfl) (by kernel_rfl) (by kernel_rfl) ?_)
            refine ga_case (t := 62) rfl (fun h3 => ?_) (fun h3 => ?_)
            · (refine ga_py 17 (by repeat first | exact NoP.sp | apply NoP.then | apply NoP.block) rfl rfl rfl rfl (pv_spec rfl) rfl (by kernel_rfl) (by kernel_rfl) (by kernel_rfl) ?_); (refine ga_p 18 (by repeat first | exact NoP.sp | apply NoP.then | apply NoP.block) rfl (pv_spec rfl) rfl (by kernel_rfl) (by kernel_rfl) (by kernel_rfl) ?_); (refine ga_p 19 (by repeat first | exact NoP.sp | apply NoP.then | apply NoP.block) rfl (pv_spec rfl) rfl (by kernel_rfl) (by kernel_rfl) (by kernel_rfl) ?_); (refine ga_n 20 (by repeat first | exact NoP.sp | apply NoP.then | apply NoP.block) rfl rfl rfl rfl rfl rfl (by kernel_rfl) (by kernel_rfl) (by kernel_rfl) ?_); (refine ga_n 21 (by repeat first | exact NoP.sp | apply NoP.then | apply NoP.block) rfl rfl rfl rfl rfl rfl (by kernel_rfl) (by kernel_rfl) (by kernel_rfl) ?_); (refine ga_n 22 (by repeat first | exact NoP.sp | apply NoP.then | apply NoP.block) rfl rfl rfl rfl rfl rfl (by kernel_rfl) (by kernel_rfl) (by kernel_rfl) ?_); (refine ga_n 23 (by repeat first | exact NoP.sp | apply NoP.then | apply NoP.block) rfl rfl rfl rfl rfl rfl (by kernel_rfl) (by kernel_rfl) (by kernel_rfl) ?_); (refine ga_n 24 (by repeat first | exact NoP.sp | apply NoP.then | apply NoP.block) rfl rfl rfl rfl rfl rfl (by kernel_rfl) (by kernel_rfl) (by kernel_rfl) ?_); (refine ga_p 25 (by repeat first | exact NoP.sp | apply NoP.then | apply NoP.block) rfl (pv_spec rfl) rfl (by kernel_rfl) (by kernel_rfl) (by kernel_rfl) ?_)
              refine ga_nil (by kernel_rfl) ?_
              refine gq_at () trivial ⟨?_, rfl, rfl, rfl, rfl, rfl, rfl, rfl, rfl, trivial⟩ (fun w' H => H)
              have : jumpBad f.code.length x = true := by simp only [jumpBad, h1, h2, h3]; simp
              rw [this]; rfl
            · (refine ga_py 17 (by repeat first | exact NoP.sp | apply NoP.then | apply NoP.block) rfl rfl rfl rfl (pv_spec rfl) rfl (by kernel_rfl) (by kernel_rfl) (by kernel_rfl) ?_); (refine ga_p 18 (by repeat first | exact NoP.sp | apply NoP.then | apply NoP.block) rfl (pv_spec rfl) rfl (by kernel_rfl) (by kernel_rfl) (by kernel_rfl) ?_); (refine ga_p 19 (by repeat first | exact NoP.sp | apply NoP.then | apply NoP.block) rfl (pv_spec rfl) rfl (by kernel_rfl) (by kernel_rfl) (by kernel_rfl) ?_); (refine ga_ld 20 0 (by repeat first | exact NoP.sp | apply NoP.then | apply NoP.block) rfl (wanted_yes rfl rfl rfl) rfl rfl rfl rfl rfl rfl (by kernel_rfl) (by kernel_rfl) (by kernel_rfl) ?_); (refine ga_py 22 (by repeat first | exact NoP.sp | apply NoP.then | apply NoP.block) rfl rfl rfl rfl (pv_spec rfl) rfl (by kernel_rfl) (by kernel_rfl) (by kernel_rfl) ?_); (refine ga_ld 23 1 (by repeat first | exact NoP.sp | apply NoP.then | apply NoP.block) rfl (wanted_yes rfl rfl rfl) rfl rfl rfl rfl rfl rfl (by kernel_rfl) (by kernel_rfl) (by kernel_rfl) ?_)
              refine ga_one (i := 21) (by kernel_rfl) (gs_of rfl (fun K hK => ?_))
              refine g_yes rfl rfl rfl ?_
              refine g_call rfl (Cl.of Try.func35 rfl rfl) rfl rfl (fun w' hE => writes_sp x w') rfl (fun y hy => ?_)
              refine g_nil ?_
              refine hK _ _ ⟨[_, _, _, _, _], List.Perm.refl _⟩ ?_
              (refine ga_py 24 (by repeat first | exact NoP.sp | apply NoP.then | apply NoP.block) rfl rfl rfl rfl (pv_spec rfl) rfl (by kernel_rfl) (by kernel_rfl) (by kernel_rfl) ?_); (refine ga_p 25 (by repeat first | exact NoP.sp | apply NoP.then | apply NoP.block) rfl (pv_spec rfl) rfl (by kernel_rfl) (by kernel_rfl) (by kernel_rfl) ?_)
              refine ga_nil (by kernel_rfl) ?_
              refine gq_at () trivial ⟨?_, rfl, rfl, rfl, rfl, rfl, rfl, rfl, rfl, trivial⟩ (fun w' H => H)
              have : jumpBad f.code.length x = false := by simp only [jumpBad, h1, h2, h3]; simp
              rw [this, Bool.false_or]; rfl
        · (refine ga_py 4 (by repeat first | exact NoP.sp | apply NoP.then | apply NoP.block) rfl rfl rfl rfl (pv_spec rfl) rfl (by kernel_rfl) (by kernel_rfl) (by kernel_rfl) ?_); (refine ga_ld 5 0 (by repeat first | exact NoP.sp | apply NoP.then | apply NoP.block) rfl (wanted_yes rfl rfl rfl) rfl rfl rfl rfl rfl rfl (by kernel_rfl) (by kernel_rfl) (by kernel_rfl) ?_); (refine ga_py 6 (by repeat first | exact NoP.sp | apply NoP.then | apply NoP.block) rfl rfl rfl rfl (pv_spec rfl) rfl (by kernel_rfl) (by kernel_rfl) (by kernel_rfl) ?_); (refine ga_p 7 (by repeat first | exact NoP.sp | apply NoP.then | apply NoP.block) rfl (pv_spec rfl) rfl (by kernel_rfl) (by kernel_rfl) (by kernel_rfl) ?_)
          refine ga_case (t := 53) rfl (fun h1' => ?_) (fun h1' => ?_)
          · (refine ga_p 8 (by repeat first | exact NoP.sp | apply NoP.then | apply NoP.block) rfl (pv_spec rfl) rfl (by kernel_rfl) (by kernel_rfl) (by kernel_rfl) ?_); (refine ga_py 9 (by repeat first | exact NoP.sp | apply NoP.then | apply NoP.block) rfl rfl rfl rfl (pv_spec rfl) rfl (by kernel_rfl) (by kernel_rfl) (by kernel_rfl) ?_); (refine ga_ld 10 0 (by repeat first | exact NoP.sp | apply NoP.then | apply NoP.block) rfl (wanted_yes rfl rfl rfl) rfl rfl rfl rfl rfl rfl (by kernel_rfl) (by kernel_rfl) (by kernel_rfl) ?_); (refine ga_py 11 (by repeat first | exact NoP.sp | apply NoP.then | apply NoP.block) rfl rfl rfl rfl (pv_spec rfl) rfl (by kernel_rfl) (by kernel_rfl) (by kernel_rfl) ?_); (refine ga_py 12 (by repeat first | exact NoP.sp | apply NoP.then | apply NoP.block) rfl rfl rfl rfl (pv_spec rfl) rfl (by kernel_rfl) (by kernel_rfl) (by kernel_rfl) ?_)
            refine ga_case (t := 58) rfl (fun h2 => ?_) (fun h2 => ?_)
            · (refine ga_n 13 (by repeat first | exact NoP.sp | apply NoP.then | apply NoP.block) rfl rfl rfl rfl rfl rfl (by kernel_rfl) (by kernel_rfl) (by kernel_rfl) ?_); (refine ga_n 14 (by repeat first | exact NoP.sp | apply NoP.then | apply NoP.block) rfl rfl rfl rfl rfl rfl (by kernel_rfl) (by kernel_rfl) (by kernel_rfl) ?_); (refine ga_n 15 (by repeat first | exact NoP.sp | apply NoP.then | apply NoP.block) rfl rfl rfl rfl rfl rfl (by kernel_rfl) (by kernel_rfl) (by kernel_rfl) ?_); (refine ga_n 16 (by repeat first | exact NoP.sp | apply NoP.then | apply NoP.block) rfl rfl rfl rfl rfl rfl (by kernel_rfl) (by kernel_rfl) (by kernel_rfl) ?_); (refine ga_py 17 (by repeat first | exact NoP.sp | apply NoP.then | apply NoP.block) rfl rfl rfl rfl (pv_spec rfl) rfl (by kernel_rfl) (by kernel_rfl) (by kernel_rfl) ?_); (refine ga_p 18 (by repeat first | exact NoP.sp | apply NoP.then | apply NoP.block) rfl (pv_spec rfl) rfl (by kernel_rfl) (by kernel_rfl) (by kernel_rfl) ?_); (refine ga_p 19 (by repeat first | exact NoP.sp | apply NoP.then | apply NoP.block) rfl (pv_spec rfl) rfl (by kernel_rfl) (by kernel_rfl) (by kernel_rfl) ?_); (refine ga_n 20 (by repeat first | exact NoP.sp | apply NoP.then | apply NoP.block) rfl rfl rfl rfl rfl rfl (by kernel_rfl) (by kernel_rfl) (by kernel_rfl) ?_); (refine ga_n 21 (by repeat first | exact NoP.sp | apply NoP.then | apply NoP.block) rfl rfl rfl rfl rfl rfl (by kernel_rfl) (by kernel_rfl) (by kernel_rfl) ?_); (refine ga_n 22 (by repeat first | exact NoP.sp | apply NoP.then | apply NoP.block) rfl rfl rfl rfl rfl rfl (by kernel_rfl) (by kernel_rfl) (by kernel_rfl) ?_); (refine ga_n 23 (by repeat first | exact NoP.sp | apply NoP.then | apply NoP.block) rfl rfl rfl rfl rfl rfl (by kernel_rfl) (by kernel_rfl) (by kernel_rfl) ?_); (refine ga_n 24 (by repeat first | exact NoP.sp | apply NoP.then | apply NoP.block) rfl rfl rfl rfl rfl rfl (by kernel_rfl) (by kernel_rfl) (by kernel_rfl) ?_); (refine ga_p 25 (by repeat first | exact NoP.sp | apply NoP.then | apply NoP.block) rfl (pv_spec rfl) rfl (by kernel_rfl) (by kernel_rfl) (by kernel_rfl) ?_)
              refine ga_nil (by kernel_rfl) ?_
              refine gq_at () trivial ⟨?_, rfl, rfl, rfl, rfl, rfl, rfl, rfl, rfl, trivial⟩ (fun w' H => H)
              have : jumpBad f.code.length x = true := by simp only [jumpBad, h1, h1', h2]; simp
              rw [this]; rfl
            · (refine ga_py 13 (by repeat first | exact NoP.sp | apply NoP.then | apply NoP.block) rfl rfl rfl rfl (pv_spec rfl) rfl (by kernel_rfl) (by kernel_rfl) (by kernel_rfl) ?_); (refine ga_ld 14 0 (by repeat first | exact NoP.sp | apply NoP.then | apply NoP.block) rfl (wanted_yes rfl rfl rfl) rfl rfl rfl rfl rfl rfl (by kernel_rfl) (by kernel_rfl) (by kernel_rfl) ?_); (refine ga_py 15 (by repeat first | exact NoP.sp | apply NoP.then | apply NoP.block) rfl rfl rfl rfl (pv_spec rfl) rfl (by kernel_rfl) (by kernel_rfl) (by kernel_rfl) ?_); (refine ga_py 16 (by repeat first | exact NoP.sp | apply NoP.then | apply NoP.block) rfl rfl rfl rfl (pv_spec rfl) rfl (by kernel_rfl) (by kernel_rfl) (by kernel_rfl) ?_)
              refine ga_case (t := 62) rfl (fun h3 => ?_) (fun h3 => ?_)
              · (refine ga_py 17 (by repeat first | exact NoP.sp | apply NoP.then | apply NoP.block) rfl rfl rfl rfl (pv_spec rfl) rfl (by kernel_rfl) (by kernel_rfl) (by kernel_rfl) ?_); (refine ga_p 18 (by repeat first | exact NoP.sp | apply NoP.then | apply NoP.block) rfl (pv_spec rfl) rfl (by kernel_rfl) (by kernel_rfl) (by kernel_rfl) ?_); (refine ga_p 19 (by repeat first | exact NoP.sp | apply NoP.then | apply NoP.block) rfl (pv_spec rfl) rfl (by kernel_rfl) (by kernel_rfl) (by kernel_rfl) ?_); (refine ga_n 20 (by repeat first | exact NoP.sp | apply NoP.then | apply NoP.block) rfl rfl rfl rfl rfl rfl (by kernel_rfl) (by kernel_rfl) (by kernel_rfl) ?_); (refine ga_n 21 (by repeat first | exact NoP.sp | apply NoP.then | apply NoP.block) rfl rfl rfl rfl rfl rfl (by kernel_rfl) (by kernel_rfl) (by kernel_rfl) ?_); (refine ga_n 22 (by repeat first | exact NoP.sp | apply NoP.then | apply NoP.block) rfl rfl rfl rfl rfl rfl (by kernel_rfl) (by kernel_rfl) (by kernel_rfl) ?_); (refine ga_n 23 (by repeat first | exact NoP.sp | apply NoP.then | apply NoP.block) rfl rfl rfl rfl rfl rfl (by kernel_rfl) (by kernel_rfl) (by kernel_rfl) ?_); (refine ga_n 24 (by repeat first | exact NoP.sp | apply NoP.then | apply NoP.block) rfl rfl rfl rfl rfl rfl (by kernel_rfl) (by kernel_rfl) (by kernel_rfl) ?_); (refine ga_p 25 (by repeat first | exact NoP.sp | apply NoP.then | apply NoP.block) rfl (pv_spec rfl) rfl (by kernel_rfl) (by kernel_rfl) (by kernel_rfl) ?_)
                refine ga_nil (by kernel_rfl) ?_
                refine gq_at () trivial ⟨?_, rfl, rfl, rfl, rfl, rfl, rfl, rfl, rfl, trivial⟩ (fun w' H => H)
                have : jumpBad f.code.length x = true := by simp only [jumpBad, h1, h1', h2, h3]; simp
                rw [this]; rfl
              · (refine ga_py 17 (by repeat first | exact NoP.sp | apply NoP.then | apply NoP.block) rfl rfl rfl rfl (pv_spec rfl) rfl (by kernel_rfl) (by kernel_rfl) (by kernel_rfl) ?_); (refine ga_p 18 (by repeat first | exact NoP.sp | apply NoP.then | apply NoP.block) rfl (pv_spec rfl) rfl (by kernel_rfl) (by kernel_rfl) (by kernel_rfl) ?_); (refine ga_p 19 (by repeat first | exact NoP.sp | apply NoP.then | apply NoP.block) rfl (pv_spec rfl) rfl (by kernel_rfl) (by kernel_rfl) (by kernel_rfl) ?_); (refine ga_ld 20 0 (by repeat first | exact NoP.sp | apply NoP.then | apply NoP.block) rfl (wanted_yes rfl rfl rfl) rfl rfl rfl rfl rfl rfl (by kernel_rfl) (by kernel_rfl) (by kernel_rfl) ?_); (refine ga_py 22 (by repeat first | exact NoP.sp | apply NoP.then | apply NoP.block) rfl rfl rfl rfl (pv_spec rfl) rfl (by kernel_rfl) (by kernel_rfl) (by kernel_rfl) ?_); (refine ga_ld 23 1 (by repeat first | exact NoP.sp | apply NoP.then | apply NoP.block) rfl (wanted_yes rfl rfl rfl) rfl rfl rfl rfl rfl rfl (by kernel_rfl) (by kernel_rfl) (by kernel_rfl) ?_)
                refine ga_one (i := 21) (by kernel_rfl) (gs_of rfl (fun K hK => ?_))
                refine g_yes rfl rfl rfl ?_
                refine g_call rfl (Cl.of Try.func35 rfl rfl) rfl rfl (fun w' hE => writes_sp x w') rfl (fun y hy => ?_)
                refine g_nil ?_
                refine hK _ _ ⟨[_, _, _, _, _], List.Perm.refl _⟩ ?_
                (refine ga_py 24 (by repeat first | exact NoP.sp | apply NoP.then | apply NoP.block) rfl rfl rfl rfl (pv_spec rfl) rfl (by kernel_rfl) (by kernel_rfl) (by kernel_rfl) ?_); (refine ga_p 25 (by repeat first | exact NoP.sp | apply NoP.then | apply NoP.block) rfl (pv_spec rfl) rfl (by kernel_rfl) (by kernel_rfl) (by kernel_rfl) ?_)
                refine ga_nil (by kernel_rfl) ?_
                refine gq_at () trivial ⟨?_, rfl, rfl, rfl, rfl, rfl, rfl, rfl, rfl, trivial⟩ (fun w' H => H)
                have : jumpBad f.code.length x = false := by simp only [jumpBad, h1, h1', h2, h3]; simp
                rw [this, Bool.false_or]; rfl
          · (refine ga_p 8 (by repeat first | exact NoP.sp | apply NoP.then | apply NoP.block) rfl (pv_spec rfl) rfl (by kernel_rfl) (by kernel_rfl) (by kernel_rfl) ?_); (refine ga_n 9 (by repeat first | exact NoP.sp | apply NoP.then | apply NoP.block) rfl rfl rfl rfl rfl rfl (by kernel_rfl) (by kernel_rfl) (by kernel_rfl) ?_); (refine ga_n 10 (by repeat first | exact NoP.sp | apply NoP.then | apply NoP.block) rfl rfl rfl rfl rfl rfl (by kernel_rfl) (by kernel_rfl) (by kernel_rfl) ?_); (refine ga_n 11 (by repeat first | exact NoP.sp | apply NoP.then | apply NoP.block) rfl rfl rfl rfl rfl rfl (by kernel_rfl) (by kernel_rfl) (by kernel_rfl) ?_); (refine ga_n 12 (by repeat first | exact NoP.sp | apply NoP.then | apply NoP.block) rfl rfl rfl rfl rfl rfl (by kernel_rfl) (by kernel_rfl) (by kernel_rfl) ?_); (refine ga_n 13 (by repeat first | exact NoP.sp | apply NoP.then | apply NoP.block) rfl rfl rfl rfl rfl rfl (by kernel_rfl) (by kernel_rfl) (by kernel_rfl) ?_); (refine ga_n 14 (by repeat first | exact NoP.sp | apply NoP.then | apply NoP.block) rfl rfl rfl rfl rfl rfl (by kernel_rfl) (by kernel_rfl) (by kernel_rfl) ?_); (refine ga_n 15 (by repeat first | exact NoP.sp | apply NoP.then | apply NoP.block) rfl rfl rfl rfl rfl rfl (by kernel_rfl) (by kernel_rfl) (by kernel_rfl) ?_); (refine ga_n 16 (by repeat first | exact NoP.sp | apply NoP.then | apply NoP.block) rfl rfl rfl rfl rfl rfl (by kernel_rfl) (by kernel_rfl) (by kernel_rfl) ?_); (refine ga_n 17 (by repeat first | exact NoP.sp | apply NoP.then | apply NoP.block) rfl rfl rfl rfl rfl rfl (by kernel_rfl) (by kernel_rfl) (by kernel_rfl) ?_); (refine ga_p 18 (by repeat first | exact NoP.sp | apply NoP.then | apply NoP.block) rfl (pv_spec rfl) rfl (by kernel_rfl) (by kernel_rfl) (by kernel_rfl) ?_); (refine ga_p 19 (by repeat first | exact NoP.sp | apply NoP.then | apply NoP.block) rfl (pv_spec rfl) rfl (by kernel_rfl) (by kernel_rfl) (by kernel_rfl) ?_); (refine ga_ld 20 0 (by repeat first | exact NoP.sp | apply NoP.then | apply NoP.block) rfl (wanted_yes rfl rfl rfl) rfl rfl rfl rfl rfl rfl (by kernel_rfl) (by kernel_rfl) (by kernel_rfl) ?_); (refine ga_py 22 (by repeat first | exact NoP.sp | apply NoP.then | apply NoP.block) rfl rfl rfl rfl (pv_spec rfl) rfl (by kernel_rfl) (by kernel_rfl) (by kernel_rfl) ?_); (refine ga_ld 23 1 (by repeat first | exact NoP.sp | apply NoP.then | apply NoP.block) rfl (wanted_yes rfl rfl rfl) rfl rfl rfl rfl rfl rfl (by kernel_rfl) (by kernel_rfl) (by kernel_rfl) ?_)
            refine ga_one (i := 21) (by kernel_rfl) (gs_of rfl (fun K hK => ?_))
            refine g_yes rfl rfl rfl ?_
            refine g_call rfl (Cl.of Try.func35 rfl rfl) rfl rfl (fun w' hE => writes_sp x w') rfl (fun y hy => ?_)
            refine g_nil ?_
            refine hK _ _ ⟨[_, _, _, _, _], List.Perm.refl _⟩ ?_
            (refine ga_py 24 (by repeat first | exact NoP.sp | apply NoP.then | apply NoP.block) rfl rfl rfl rfl (pv_spec rfl) rfl (by kernel_rfl) (by kernel_rfl) (by kernel_rfl) ?_); (refine ga_p 25 (by repeat first | exact NoP.sp | apply NoP.then | apply NoP.block) rfl (pv_spec rfl) rfl (by kernel_rfl) (by kernel_rfl) (by kernel_rfl) ?_)
            refine ga_nil (by kernel_rfl) ?_
            refine gq_at () trivial ⟨?_, rfl, rfl, rfl, rfl, rfl, rfl, rfl, rfl, trivial⟩ (fun w' H => H)
            have : jumpBad f.code.length x = false := by simp only [jumpBad, h1, h1']; simp
            rw [this, Bool.false_or]; rfl
      rintro ⟨⟩ -
      dsimp only
      refine gc_condC rfl (fun hq => ?_) (fun hq => ?_)
      · repeat' (first | refine g_pv rfl rfl ?_ | refine g_nil ?_ | refine gq_then ?_ | refine gc_seq ?_ | refine gc_region ?_ | refine gc_ret ?_ | refine gq_then_ret ?_ | refine gq_block_ret ?_)
        have hr : f.right = false := hbad (by
          rcases Bool.or_eq_true_iff.1 hq with h | h
          · simp [insOk, h]
          · have : decide (x.writes < f.temps) = false := by have := of_decide_eq_true h; simp; omega
            simp [insOk, this])
        exact gq_ret2 (.inr rfl) rfl rfl rfl rfl (fun w' H => ⟨(.pointer none, []), by rw [hr]; rfl, by rw [hr]; rfl, hp_perm (hp_nil H) (by simp)⟩)
      · repeat' (refine gc_skip ?_)
        exact gq_at () (by simpa using hq) ⟨rfl, rfl, rfl, rfl, rfl, rfl, rfl, rfl, trivial⟩ (fun w' H => H)
    rintro ⟨⟩ ⟨hjb, hwr⟩
    dsimp only
    repeat' (first | refine g_ld 0 rfl rfl rfl rfl rfl rfl ?_ | refine gc_seq ?_ | refine gc_region ?_)
    refine g_call rfl (Cl.of Try.func33 rfl rfl) rfl rfl (fun w' hE => reads_sp x w' (hx.le (fun b o h => old_le hE b o (old_le0 _ w b o h)))) rfl ?_
    rintro ⟨v73, A73⟩ ho73
    have hrok := reads_ok hx
    have hrlen := reads_len hx
    dsimp only at ho73 ⊢
    refine g_lenL rfl ho73 rfl rfl ?_
    repeat' (first | refine g_pv rfl rfl ?_ | refine g_nil ?_ | refine gq_then ?_ | refine gc_block ?_)
    refine gc_loop (Y := Nat) (fun y => y ≤ x.reads.length ∧ (x.reads.take y).all (fun t => decide (t < f.temps)) = true)
      (fun y => [(1, .pointer (some ⟨b1, 0, none⟩)), (4, .int .i64 f.code.length), (5, .pointer (some ⟨gb, 0, none⟩)), (39, .slice f.cA f.code.length f.cC), (40, .int .i64 f.code.length), (41, .int .i64 i), (6, .int .i64 i), (73, v73), (74, .int .i64 x.reads.length), (75, .int .i64 y)])
      (fun y => [A73, [(b1, .cells ⟨f.cells⟩ 25 (0, 0))], [(gb, .cells ⟨f.cells ++ [nv, fv]⟩ 71 (0, 0))], mn.A0, mn.As.flatten, mf.A0, mf.As.flatten])
      (fun y => x.reads.length - y) 0 ⟨Nat.zero_le _, by simp⟩ ⟨rfl, rfl, rfl, rfl, rfl, rfl, rfl, rfl, rfl, rfl, trivial⟩
      (fun w' H => hp_cnt [(b7, .cells ⟨x.cells⟩ 62 (0, 0))] H (fun a => by simp only [List.cons_append, List.nil_append, List.set_cons_zero, List.set_cons_succ, List.flatten_append, List.flatten_cons, List.flatten_nil, List.count_append, List.count_cons, List.count_nil, List.append_nil, List.flatten_replicate_nil]; omega)) ?_
    rintro k ⟨hk, hkpre⟩
    try dsimp only at hk hkpre ⊢
    repeat' (first | refine g_pv rfl rfl ?_ | refine g_nil ?_ | refine gq_then ?_ | refine gc_seq ?_ | refine gc_region ?_)
    refine gc_condC rfl (fun hc2 => ?_) (fun hc2 => ?_)
    · have hklt : k < x.reads.length := by have := of_decide_eq_true hc2; omega
      repeat' (first | refine gq_then ?_ | refine gc_seq ?_ | refine gc_region ?_ | refine gc_block ?_ | refine gc_skip ?_)
      refine g_atL 0 rfl rfl ho73 (fun _ => rfl) rfl rfl rfl rfl (Int.natCast_nonneg k) (List.getElem?_eq_getElem hklt) rfl rfl rfl (fun _ => ?_)
      repeat' (first | refine g_pv rfl rfl ?_ | refine g_ld 1 rfl rfl rfl rfl rfl rfl ?_ | refine g_nil ?_ | refine gq_then ?_ | refine gc_seq ?_ | refine gc_region ?_)
      refine gc_condC rfl (fun hq => ?_) (fun hq => ?_)
      · repeat' (first | refine g_pv rfl rfl ?_ | refine g_nil ?_ | refine gq_then ?_ | refine gc_seq ?_ | refine gc_region ?_ | refine gc_ret ?_ | refine gq_then_ret ?_ | refine gq_block_ret ?_)
        have hr : f.right = false := hbad (by
          have hq' : x.reads[k] ≥ f.temps := of_decide_eq_true hq
          have : x.reads.all (fun t => decide (t < f.temps)) = false := by
            rw [List.all_eq_false]; exact ⟨_, List.getElem_mem hklt, by simp; omega⟩
          simp [insOk, this])
        exact gq_ret2 (.inr rfl) rfl rfl rfl rfl (fun w' H => ⟨(.pointer none, []), by rw [hr]; rfl, by rw [hr]; rfl, hp_perm (hp_nil H) (by simp)⟩)
      · repeat' (first | refine g_pv rfl rfl ?_ | refine g_nil ?_ | refine gq_then ?_ | refine gc_region ?_ | refine gc_skip ?_ | refine gq_block ?_)
        refine gq_again (k + 1) ⟨hklt, ?_⟩ (by omega) ⟨rfl, rfl, rfl, rfl, rfl, rfl, rfl, rfl, rfl, inc_eq (by omega), trivial⟩ (fun w' H => H)
        have hq' : ¬ x.reads[k] ≥ f.temps := of_decide_eq_false hq
        rw [List.take_succ_eq_append_getElem hklt, List.all_append, hkpre]
        simp; omega
    · have hkge : k = x.reads.length := by have := of_decide_eq_false hc2; omega
      rw [hkge, List.take_length] at hkpre
      have hpre' : (f.code.take (i + 1)).all (insOk f.code.length f.temps) = true := by
        rw [List.take_succ_eq_append_getElem hlt, List.all_append, hpre, hxe]
        have : decide (x.writes < f.temps) = true := by have := of_decide_eq_false hwr; simp; omega
        simp [insOk, hjb, this]
        simpa using hkpre
      have hks := nxt_len f.code i
      have hkin := nxt_in f.code i
      repeat' (first | refine gq_then ?_ | refine gc_seq ?_ | refine gc_exit ?_ | refine gq_then_exit ?_ | refine gq_block_exit ?_)
      refine gc_heap (R' := [[(b1, .cells ⟨f.cells⟩ 25 (0, 0))], [(gb, .cells ⟨f.cells ++ [nv, fv]⟩ 71 (0, 0))], mn.A0, mn.As.flatten, mf.A0, mf.As.flatten]) (fun w' H => hp_tail H) ?_
      subst hnv hfv
      refine gc_draw [[(b1, .cells ⟨f.cells⟩ 25 (0, 0))], [(gb, .cells ⟨f.cells ++ [.slice (some ⟨gn, 0, none⟩) f.code.length f.code.length, .slice (some ⟨gf, 0, none⟩) f.code.length f.code.length]⟩ 71 (0, 0))]] [_, _, _, _] rfl (List.Perm.refl _) ?_
      (refine ga_p 0 (by repeat first | exact NoP.sp | apply NoP.then | apply NoP.block) rfl (pv_spec rfl) rfl (by kernel_rfl) (by kernel_rfl) (by kernel_rfl) ?_); (refine ga_p 1 (by repeat first | exact NoP.sp | apply NoP.then | apply NoP.block) rfl (pv_spec rfl) rfl (by kernel_rfl) (by kernel_rfl) (by kernel_rfl) ?_); (refine ga_p 2 (by repeat first | exact NoP.sp | apply NoP.then | apply NoP.block) rfl (pv_spec rfl) rfl (by kernel_rfl) (by kernel_rfl) (by kernel_rfl) ?_); (refine ga_ld 3 1 (by repeat first | exact NoP.sp | apply NoP.then | apply NoP.block) rfl wanted_none rfl rfl rfl rfl rfl rfl (by kernel_rfl) (by kernel_rfl) (by kernel_rfl) ?_); (refine ga_p 4 (by repeat first | exact NoP.sp | apply NoP.then | apply NoP.block) rfl (pv_spec rfl) rfl (by kernel_rfl) (by kernel_rfl) (by kernel_rfl) ?_); (refine ga_p 5 (by repeat first | exact NoP.sp | apply NoP.then | apply NoP.block) rfl (pv_spec rfl) rfl (by kernel_rfl) (by kernel_rfl) (by kernel_rfl) ?_); (refine ga_ld 6 0 (by repeat first | exact NoP.sp | apply NoP.then | apply NoP.block) rfl wanted_none rfl rfl rfl rfl rfl rfl (by kernel_rfl) (by kernel_rfl) (by kernel_rfl) ?_); (refine ga_p 7 (by repeat first | exact NoP.sp | apply NoP.then | apply NoP.block) rfl (pv_spec rfl) rfl (by kernel_rfl) (by kernel_rfl) (by kernel_rfl) ?_)
      refine ga_one (i := 8) (by kernel_rfl) (gs_of rfl (fun K hK => ?_))
      refine g_call rfl (Cl.of Try.func45 rfl rfl) rfl rfl (fun w' hE => next_sp' f.code i f.cA f.cC w' (hf.le (fun b o h => old_le hE b o (old_le0 _ w b o h))) hlt) rfl ?_
      rintro ⟨v92, A92⟩ ho92
      dsimp only at ho92 ⊢
      refine g_nil ?_
      refine hK _ _ ⟨A92 :: [_, _, _, _], List.perm_middle⟩ ?_
      refine ga_p 9 (by repeat first | exact NoP.sp | apply NoP.then | apply NoP.block) rfl (p_ix rfl rfl rfl rfl (Int.natCast_nonneg i) (by omega)) rfl (by kernel_rfl) (by kernel_rfl) (by kernel_rfl) ?_
      have hvl : mn.vals.length = f.code.length := by rw [hmn.len, nextsAt_length _ _ (by omega)]
      have hal : mn.As.length = f.code.length := by rw [hmn.alen, nextsAt_length _ _ (by omega)]
      refine ga_one (i := 10) (by kernel_rfl) (gs_of rfl (fun K hK => ?_))
      refine g_stL 3 (f := fV) (q := v92) (i := i) rfl rfl rfl rfl hmn.row (fun _ => rfl) (by simp) (by omega) ?_ ?_ (fun A0' hr0 => ?_)
      · obtain ⟨_, _, rfl, _⟩ := Own.shape ho92; rfl
      · obtain ⟨_, _, rfl, _⟩ := Own.shape ho92; rfl
      refine g_nil ?_
      refine hK _ _ ⟨A92 :: [_, _, _, _], List.perm_middle⟩ ?_
      refine ga_nil (by kernel_rfl) ?_
      have hmn' := hmn.put ho92 hr0
      rw [← nextsAt_succ _ _ hlt] at hmn'
      refine gq_then ?_
      refine gc_heap (R' := [[(b1, .cells ⟨f.cells⟩ 25 (0, 0))], [(gb, .cells ⟨f.cells ++ [.slice (some ⟨gn, 0, none⟩) f.code.length f.code.length, .slice (some ⟨gf, 0, none⟩) f.code.length f.code.length]⟩ 71 (0, 0))], A0', (mn.As.set i A92).flatten, mf.A0, mf.As.flatten]) (fun w' H => ?_) ?_
      · have hi' : i < mn.As.length := by omega
        refine hp_cnt (mn.As[i]) H (fun a => ?_)
        have e1 := cnt_erase mn.As i (List.getElem?_eq_getElem hi') a
        have e2 := cnt_set mn.As i (B := A92) hi' a
        simp only [List.cons_append, List.nil_append, List.set_cons_zero, List.set_cons_succ, List.flatten_append, List.flatten_cons, List.flatten_nil, List.count_append, List.count_cons, List.count_nil, List.append_nil]
        omega
      generalize hmm : (⟨A0', mn.As.set i A92, mn.vals.set i v92⟩ : LM) = mn2 at hmn'
      have hm1 : mn2.A0 = A0' := by rw [← hmm]
      have hm2 : mn2.As = mn.As.set i A92 := by rw [← hmm]
      have hm3 : mn2.vals[i]? = some v92 := by rw [← hmm]; simp only; rw [List.getElem?_set_self (by omega)]
      have hm4 : mn2.As[i]? = some A92 := by rw [hm2, List.getElem?_set_self (by omega)]
      rw [← hm1, ← hm2]
      clear hmm hr0
      obtain ⟨ad92, cap92, hv92, _⟩ := Own.shape ho92
      subst hv92
      repeat' (first | refine g_pv rfl rfl ?_ | refine g_ld 1 rfl rfl rfl rfl rfl rfl ?_ | refine gc_seq ?_ | refine gc_region ?_)
      refine g_atL 2 rfl rfl hmn'.row (fun _ => rfl) rfl rfl rfl rfl (Int.natCast_nonneg i) hm3 rfl rfl rfl (fun _ => ?_)
      repeat' (first | refine g_pv rfl rfl ?_ | refine g_nil ?_ | refine gq_then ?_ | refine gc_block ?_)
      generalize hksd : nxt f.code i = ks at ho92 hks hkin hmn' ⊢
      refine gc_loop (Y := Nat × LM) (fun y => y.1 ≤ ks.length ∧ OwnLL (.slice (some ⟨gf, 0, none⟩) f.code.length f.code.length) (addR (fromsAt f.code i) i (ks.take y.1)) y.2)
        (fun y => [(1, .pointer (some ⟨b1, 0, none⟩)), (4, .int .i64 f.code.length), (5, .pointer (some ⟨gb, 0, none⟩)), (39, .slice f.cA f.code.length f.cC), (40, .int .i64 f.code.length), (41, .int .i64 i), (6, .int .i64 i), (100, .slice ad92 ks.length cap92), (101, .int .i64 ks.length), (102, .int .i64 y.1)])
        (fun y => [[(b1, .cells ⟨f.cells⟩ 25 (0, 0))], [(gb, .cells ⟨f.cells ++ [.slice (some ⟨gn, 0, none⟩) f.code.length f.code.length, .slice (some ⟨gf, 0, none⟩) f.code.length f.code.length]⟩ 71 (0, 0))], mn2.A0, mn2.As.flatten, y.2.A0, y.2.As.flatten])
        (fun y => ks.length - y.1) (0, mf) ⟨Nat.zero_le _, by simpa [addR] using hmf⟩ ⟨rfl, rfl, rfl, rfl, rfl, rfl, rfl, rfl, rfl, rfl, trivial⟩ (fun w' H => H) ?_
      rintro ⟨j, mg⟩ ⟨hj, hmg⟩
      try dsimp only at hj hmg ⊢
      repeat' (first | refine g_pv rfl rfl ?_ | refine g_nil ?_ | refine gq_then ?_ | refine gc_seq ?_ | refine gc_region ?_)
      refine gc_condC rfl (fun hc3 => ?_) (fun hc3 => ?_)
      · have hjlt : j < ks.length := by have := of_decide_eq_true hc3; omega
        have hkk := hkin _ (List.getElem_mem hjlt)
        have hjk : ks[j]? = some ks[j] := List.getElem?_eq_getElem hjlt
        have htk := addR_take (fromsAt f.code i) i ks j hjlt
        have hlens : lens (addR (fromsAt f.code i) i (ks.take j)) (2 * i + j) := by
          have := lens_addR (i := i) (ks := ks.take j) (lens_froms f.code i)
          intro l hl; have h1 := this l hl; have h2 := List.length_take_le j ks; omega
        have hfl : (addR (fromsAt f.code i) i (ks.take j)).length = f.code.length := by rw [addR_length, fromsAt_length]
        generalize ks[j] = kk at hkk hjk htk
        generalize hlld : addR (fromsAt f.code i) i (ks.take j) = ll at hmg hlens hfl htk
        repeat' (first | refine gq_then ?_ | refine gc_seq ?_ | refine gc_region ?_ | refine gc_block ?_ | refine gc_skip ?_)
        refine g_atG (l := ks) (f := fI) (u := kk) rfl rfl rfl rfl rfl (Int.natCast_nonneg j) (by omega) (fun w' H => ?_) hjk rfl rfl rfl rfl (fun _ => ?_)
        · obtain ⟨ad', cap', he, hr⟩ := OwnI.rd ho92 (H := hw w') (fun b o hb => hp_in H 3 rfl b o (List.mem_flatten.2 ⟨A92, List.mem_of_getElem? hm4, hb⟩))
          cases he; exact hr
        have hkn : kk.toNat < ll.length := by omega
        obtain ⟨u, a, hu, ha, hoa⟩ := hmg.get hkn
        have hla : ll[kk.toNat].length ≤ 2 * i + j := hlens _ (List.getElem_mem hkn)
        have hgd : ll.getD kk.toNat [] = ll[kk.toNat] := by simp [List.getD, List.getElem?_eq_getElem hkn]
        have haddF : addF ll kk i = ll.set kk.toNat (ll[kk.toNat] ++ [(i : Int)]) := by rw [addF, hgd]
        generalize ll[kk.toNat] = lk' at hoa hla haddF
        have hvg : mg.vals.length = f.code.length := by rw [hmg.len, hfl]
        have hag : mg.As.length = f.code.length := by rw [hmg.alen, hfl]
        have hk2 : kk.toNat < mg.As.length := by omega
        obtain ⟨adu, capu, hue, _⟩ := Own.shape hoa
        subst hue
        repeat' (first | refine g_pv rfl rfl ?_ | refine g_nil ?_ | refine gq_then ?_)
        refine gc_draw [[(b1, .cells ⟨f.cells⟩ 25 (0, 0))], [(gb, .cells ⟨f.cells ++ [.slice (some ⟨gn, 0, none⟩) f.code.length f.code.length, .slice (some ⟨gf, 0, none⟩) f.code.length f.code.length]⟩ 71 (0, 0))]] [_, _, _, _] rfl (List.Perm.refl _) ?_
        (refine ga_p 0 (by repeat first | exact NoP.sp | apply NoP.then | apply NoP.block) rfl (pv_spec rfl) rfl (by kernel_rfl) (by kernel_rfl) (by kernel_rfl) ?_); (refine ga_p 1 (by repeat first | exact NoP.sp | apply NoP.then | apply NoP.block) rfl (pv_spec rfl) rfl (by kernel_rfl) (by kernel_rfl) (by kernel_rfl) ?_); (refine ga_p 2 (by repeat first | exact NoP.sp | apply NoP.then | apply NoP.block) rfl (pv_spec rfl) rfl (by kernel_rfl) (by kernel_rfl) (by kernel_rfl) ?_); (refine ga_ld 3 1 (by repeat first | exact NoP.sp | apply NoP.then | apply NoP.block) rfl wanted_none rfl rfl rfl rfl rfl rfl (by kernel_rfl) (by kernel_rfl) (by kernel_rfl) ?_); (refine ga_p 4 (by repeat first | exact NoP.sp | apply NoP.then | apply NoP.block) rfl (pv_spec rfl) rfl (by kernel_rfl) (by kernel_rfl) (by kernel_rfl) ?_); (refine ga_p 5 (by repeat first | exact NoP.sp | apply NoP.then | apply NoP.block) rfl (pv_spec rfl) rfl (by kernel_rfl) (by kernel_rfl) (by kernel_rfl) ?_); (refine ga_p 6 (by repeat first | exact NoP.sp | apply NoP.then | apply NoP.block) rfl (pv_spec rfl) rfl (by kernel_rfl) (by kernel_rfl) (by kernel_rfl) ?_); (refine ga_p 7 (by repeat first | exact NoP.sp | apply NoP.then | apply NoP.block) rfl (pv_spec rfl) rfl (by kernel_rfl) (by kernel_rfl) (by kernel_rfl) ?_); (refine ga_ld 8 1 (by repeat first | exact NoP.sp | apply NoP.then | apply NoP.block) rfl wanted_none rfl rfl rfl rfl rfl rfl (by kernel_rfl) (by kernel_rfl) (by kernel_rfl) ?_); (refine ga_p 9 (by repeat first | exact NoP.sp | apply NoP.then | apply NoP.block) rfl (pv_spec rfl) rfl (by kernel_rfl) (by kernel_rfl) (by kernel_rfl) ?_); (refine ga_p 12 (by repeat first | exact NoP.sp | apply NoP.then | apply NoP.block) rfl (pv_spec rfl) rfl (by kernel_rfl) (by kernel_rfl) (by kernel_rfl) ?_)
        refine ga_p 10 (by repeat first | exact NoP.sp | apply NoP.then | apply NoP.block) rfl (p_ix rfl rfl rfl rfl hkk.1 hkk.2) rfl (by kernel_rfl) (by kernel_rfl) (by kernel_rfl) ?_
        refine ga_two (i := 11) (j := 13) (by kernel_rfl) (gs_of rfl (fun K hK => ?_)) (gs_of rfl (fun K hK => ?_))
        · refine g_ldL 4 (f := fV) (i := kk.toNat) rfl rfl rfl hmg.row (fun _ => rfl) (by simp) hu rfl rfl ?_
          refine g_nil ?_
          refine hK _ _ ⟨[_, _, _, _], List.Perm.refl _⟩ ?_
          refine ga_one (i := 13) (by kernel_rfl) (gs_of rfl (fun K hK => ?_))
          refine g_litL rfl rfl rfl rfl rfl rfl rfl rfl rfl rfl (fun g => ?_)
          refine g_heap (R' := [[(g, .cells ⟨[.int .i64 i]⟩ 3 (0, 0))], [(b1, .cells ⟨f.cells⟩ 25 (0, 0))], [(gb, .cells ⟨f.cells ++ [.slice (some ⟨gn, 0, none⟩) f.code.length f.code.length, .slice (some ⟨gf, 0, none⟩) f.code.length f.code.length]⟩ 71 (0, 0))], mn2.A0, mn2.As.flatten, mg.A0, mg.As.flatten]) (fun w' H => by exact H) ?_
          refine g_nil ?_
          refine hK _ _ ⟨_ :: [_, _, _, _], List.perm_middle⟩ ?_
          refine ga_one (i := 14) (by kernel_rfl) (gs_of rfl (fun K hK => ?_))
          refine g_heap (R' := [a, [(g, .cells ⟨[.int .i64 i]⟩ 3 (0, 0))], [(b1, .cells ⟨f.cells⟩ 25 (0, 0))], [(gb, .cells ⟨f.cells ++ [.slice (some ⟨gn, 0, none⟩) f.code.length f.code.length, .slice (some ⟨gf, 0, none⟩) f.code.length f.code.length]⟩ 71 (0, 0))], mn2.A0, mn2.As.flatten, mg.A0, (mg.As.eraseIdx kk.toNat).flatten]) (fun w' H => hp_cnt [] H (fun x => by
            have e1 := cnt_erase mg.As kk.toNat ha x
            simp only [List.cons_append, List.nil_append, List.set_cons_zero, List.set_cons_succ, List.flatten_append, List.flatten_cons, List.flatten_nil, List.count_append, List.count_cons, List.count_nil, List.append_nil]
            omega)) ?_
          refine g_appL 0 (m := [(i : Int)]) (f := fI) rfl rfl rfl rfl rfl rfl rfl hoa (fun _ => rfl) (fun w' hE => ?_) (fun _ => rfl) (by unfold maxLen; simp; omega) (by show _ * 8 ≤ _; simp; omega) rfl (fun v' A' ho' => ?_)
          · obtain ⟨ad', cap', he, hr⟩ := OwnI.rd (own_lit1 g (i : Int)) (H := hw w') (fun b o hb => hp_in hE 1 rfl b o hb)
            cases he; exact hr
          refine g_heap (R' := [[(b1, .cells ⟨f.cells⟩ 25 (0, 0))], [(gb, .cells ⟨f.cells ++ [.slice (some ⟨gn, 0, none⟩) f.code.length f.code.length, .slice (some ⟨gf, 0, none⟩) f.code.length f.code.length]⟩ 71 (0, 0))], A', mn2.A0, mn2.As.flatten, mg.A0, (mg.As.eraseIdx kk.toNat).flatten]) (fun w' H => hp_cnt [(g, .cells ⟨[.int .i64 i]⟩ 3 (0, 0))] H (fun a => by simp only [List.cons_append, List.nil_append, List.set_cons_zero, List.set_cons_succ, List.flatten_append, List.flatten_cons, List.flatten_nil, List.count_append, List.count_cons, List.count_nil, List.append_nil, List.flatten_replicate_nil]; omega)) ?_
          refine g_nil ?_
          refine hK _ _ ⟨[_, _, _, _, _], List.Perm.refl _⟩ ?_
          refine ga_p 15 (by repeat first | exact NoP.sp | apply NoP.then | apply NoP.block) rfl (p_ix rfl rfl rfl rfl hkk.1 hkk.2) rfl (by kernel_rfl) (by kernel_rfl) (by kernel_rfl) ?_
          refine ga_one (i := 16) (by kernel_rfl) (gs_of rfl (fun K hK => ?_))
          refine g_stL 5 (f := fV) (q := v') (i := kk.toNat) rfl rfl rfl rfl hmg.row (fun _ => rfl) (by simp) (by omega) ?_ ?_ (fun A0g hr0 => ?_)
          · obtain ⟨_, _, rfl, _⟩ := Own.shape ho'; rfl
          · obtain ⟨_, _, rfl, _⟩ := Own.shape ho'; rfl
          refine g_nil ?_
          refine hK _ _ ⟨[_, _, _, _, _], List.Perm.refl _⟩ ?_
          refine ga_nil (by kernel_rfl) ?_
          repeat' (first | refine g_pv rfl rfl ?_ | refine g_nil ?_ | refine gq_then ?_ | refine gc_region ?_ | refine gq_block ?_)
          have hput := hmg.put ho' hr0
          rw [← haddF, ← htk] at hput
          refine gq_again (j + 1, ⟨A0g, mg.As.set kk.toNat A', mg.vals.set kk.toNat v'⟩) ⟨hjlt, hput⟩ (by simp only; omega) ⟨rfl, rfl, rfl, rfl, rfl, rfl, rfl, rfl, rfl, inc_eq (by omega), trivial⟩ (fun w' H => hp_cnt [] H (fun x => ?_))
          have e2 := cnt_set mg.As kk.toNat (B := A') hk2 x
          simp only [List.cons_append, List.nil_append, List.set_cons_zero, List.set_cons_succ, List.flatten_append, List.flatten_cons, List.flatten_nil, List.count_append, List.count_cons, List.count_nil, List.append_nil]
          omega
        · refine g_litL rfl rfl rfl rfl rfl rfl rfl rfl rfl rfl (fun g => ?_)
          refine g_heap (R' := [[(g, .cells ⟨[.int .i64 i]⟩ 3 (0, 0))], [(b1, .cells ⟨f.cells⟩ 25 (0, 0))], [(gb, .cells ⟨f.cells ++ [.slice (some ⟨gn, 0, none⟩) f.code.length f.code.length, .slice (some ⟨gf, 0, none⟩) f.code.length f.code.length]⟩ 71 (0, 0))], mn2.A0, mn2.As.flatten, mg.A0, mg.As.flatten]) (fun w' H => by exact H) ?_
          refine g_nil ?_
          refine hK _ _ ⟨_ :: [_, _, _, _], List.perm_middle⟩ ?_
          refine ga_one (i := 11) (by kernel_rfl) (gs_of rfl (fun K hK => ?_))
          refine g_ldL 5 (f := fV) (i := kk.toNat) rfl rfl rfl hmg.row (fun _ => rfl) (by simp) hu rfl rfl ?_
          refine g_nil ?_
          refine hK _ _ ⟨_ :: [_, _, _, _], List.perm_middle⟩ ?_
          refine ga_one (i := 14) (by kernel_rfl) (gs_of rfl (fun K hK => ?_))
          refine g_heap (R' := [a, [(g, .cells ⟨[.int .i64 i]⟩ 3 (0, 0))], [(b1, .cells ⟨f.cells⟩ 25 (0, 0))], [(gb, .cells ⟨f.cells ++ [.slice (some ⟨gn, 0, none⟩) f.code.length f.code.length, .slice (some ⟨gf, 0, none⟩) f.code.length f.code.length]⟩ 71 (0, 0))], mn2.A0, mn2.As.flatten, mg.A0, (mg.As.eraseIdx kk.toNat).flatten]) (fun w' H => hp_cnt [] H (fun x => by
            have e1 := cnt_erase mg.As kk.toNat ha x
            simp only [List.cons_append, List.nil_append, List.set_cons_zero, List.set_cons_succ, List.flatten_append, List.flatten_cons, List.flatten_nil, List.count_append, List.count_cons, List.count_nil, List.append_nil]
            omega)) ?_
          refine g_appL 0 (m := [(i : Int)]) (f := fI) rfl rfl rfl rfl rfl rfl rfl hoa (fun _ => rfl) (fun w' hE => ?_) (fun _ => rfl) (by unfold maxLen; simp; omega) (by show _ * 8 ≤ _; simp; omega) rfl (fun v' A' ho' => ?_)
          · obtain ⟨ad', cap', he, hr⟩ := OwnI.rd (own_lit1 g (i : Int)) (H := hw w') (fun b o hb => hp_in hE 1 rfl b o hb)
            cases he; exact hr
          refine g_heap (R' := [[(b1, .cells ⟨f.cells⟩ 25 (0, 0))], [(gb, .cells ⟨f.cells ++ [.slice (some ⟨gn, 0, none⟩) f.code.length f.code.length, .slice (some ⟨gf, 0, none⟩) f.code.length f.code.length]⟩ 71 (0, 0))], A', mn2.A0, mn2.As.flatten, mg.A0, (mg.As.eraseIdx kk.toNat).flatten]) (fun w' H => hp_cnt [(g, .cells ⟨[.int .i64 i]⟩ 3 (0, 0))] H (fun a => by simp only [List.cons_append, List.nil_append, List.set_cons_zero, List.set_cons_succ, List.flatten_append, List.flatten_cons, List.flatten_nil, List.count_append, List.count_cons, List.count_nil, List.append_nil, List.flatten_replicate_nil]; omega)) ?_
          refine g_nil ?_
          refine hK _ _ ⟨[_, _, _, _, _], List.Perm.refl _⟩ ?_
          refine ga_p 15 (by repeat first | exact NoP.sp | apply NoP.then | apply NoP.block) rfl (p_ix rfl rfl rfl rfl hkk.1 hkk.2) rfl (by kernel_rfl) (by kernel_rfl) (by kernel_rfl) ?_
          refine ga_one (i := 16) (by kernel_rfl) (gs_of rfl (fun K hK => ?_))
          refine g_stL 5 (f := fV) (q := v') (i := kk.toNat) rfl rfl rfl rfl hmg.row (fun _ => rfl) (by simp) (by omega) ?_ ?_ (fun A0g hr0 => ?_)
          · obtain ⟨_, _, rfl, _⟩ := Own.shape ho'; rfl
          · obtain ⟨_, _, rfl, _⟩ := Own.shape ho'; rfl
          refine g_nil ?_
          refine hK _ _ ⟨[_, _, _, _, _], List.Perm.refl _⟩ ?_
          refine ga_nil (by kernel_rfl) ?_
          repeat' (first | refine g_pv rfl rfl ?_ | refine g_nil ?_ | refine gq_then ?_ | refine gc_region ?_ | refine gq_block ?_)
          have hput := hmg.put ho' hr0
          rw [← haddF, ← htk] at hput
          refine gq_again (j + 1, ⟨A0g, mg.As.set kk.toNat A', mg.vals.set kk.toNat v'⟩) ⟨hjlt, hput⟩ (by simp only; omega) ⟨rfl, rfl, rfl, rfl, rfl, rfl, rfl, rfl, rfl, inc_eq (by omega), trivial⟩ (fun w' H => hp_cnt [] H (fun x => ?_))
          have e2 := cnt_set mg.As kk.toNat (B := A') hk2 x
          simp only [List.cons_append, List.nil_append, List.set_cons_zero, List.set_cons_succ, List.flatten_append, List.flatten_cons, List.flatten_nil, List.count_append, List.count_cons, List.count_nil, List.append_nil]
          omega
      · have hjge : j = ks.length := by have := of_decide_eq_false hc3; omega
        rw [hjge, List.take_length, ← hksd, ← fromsAt_succ] at hmg
        repeat' (first | refine g_pv rfl rfl ?_ | refine g_nil ?_ | refine gq_then ?_ | refine gc_region ?_ | refine gc_exit ?_ | refine gq_then_exit ?_ | refine gq_block ?_ | refine gq_block_exit ?_)
        refine gq_again ⟨i + 1, mn2, mg⟩ ⟨hlt, hpre', hmn', hmg⟩ (by simp only; omega) ⟨rfl, rfl, rfl, rfl, rfl, inc_eq (by omega), trivial⟩ (fun w' H => H)
  · have hge : i = f.code.length := by have := of_decide_eq_false hc; omega
    rw [hge, List.take_length] at hpre
    have hr : f.right = true := by rw [hrt, hpre]
    rw [hge] at hmn hmf
    repeat' (first | refine g_pv rfl rfl ?_ | refine g_nil ?_ | refine gq_then ?_ | refine gc_seq ?_ | refine gc_region ?_ | refine gc_exit ?_ | refine gc_ret ?_ | refine gq_then_exit ?_ | refine gq_block_exit ?_)
    refine gq_ret2 (.inr rfl) rfl rfl rfl rfl (fun w' H => ⟨(_, [(gb, .cells ⟨f.cells ++ [nv, fv]⟩ 71 (0, 0))] ++ mn.A0 ++ mn.As.flatten ++ mf.A0 ++ mf.As.flatten), ?_, by rw [hr]; rfl, ?_⟩)
    · rw [if_pos hr]; exact ⟨gb, nv, fv, mn, mf, rfl, hmn, hmf, rfl⟩
    · exact hp_cnt (R' := [_]) [(b1, .cells ⟨f.cells⟩ 25 (0, 0))] H (fun a => by simp only [List.cons_append, List.nil_append, List.set_cons_zero, List.set_cons_succ, List.flatten_append, List.flatten_cons, List.flatten_nil, List.count_append, List.count_cons, List.count_nil, List.append_nil, List.flatten_replicate_nil]; omega)
end Go.Proofs.Ytpmkkmahimdjkaa
