/-
  tac's Print.
  The document's power, temp, arg, none, same, digit, letter.
  The document's Word and Tag.
  The document's Tag.
-/
import Derived.Test.YtpohhfggmaihpaaGreatDoorZ12
import Derived.Test.YtpohhfggmaihpaaGreatDoorZ10

/- tac's Print. -/
namespace Go.Proofs.YtpohhfggmaihpaaGreatDoor
open Go.Wk
set_option linter.unusedVariables false
set_option linter.unusedSimpArgs false
attribute [local irreducible] G GC GQ GA GS Exit.then Exit.inBlock

theorem bw_line {b : Nat} {L : List (List Bs)} {W : List Bs} {R : RL} (h : BW b (txt L ++ (Lib.join W [32] ++ [10])) R) : BW b (txt (L ++ [W])) R := by rw [txt_snoc]; exact h
theorem hp_back {X : Cx} {w : World} {R F : RL} {A : HL} (H : Hp X w (R ++ (A :: F))) : Hp X w (F ++ R) := by
  unfold Hp at H ⊢
  refine Eff.sel H A ?_
  rw [List.flatten_append, List.flatten_append, List.flatten_cons]
  exact List.perm_append_comm.trans ((List.Perm.of_eq (by rw [List.append_assoc])).trans List.perm_append_comm)
theorem perm_mid2 {α : Type} {a : α} {W R : List α} : (R ++ (a :: W)).Perm (W ++ (a :: R)) := List.perm_middle.trans ((List.Perm.cons _ List.perm_append_comm).trans List.perm_middle.symm)
theorem neT_nil (l : Bs) : ((mkB l).toList != (⟨#[]⟩ : ByteArray).toList) = !decide (l = []) := by
  rw [bne, empT']; rfl
theorem pre_snoc {α : Type} {f : α → List Bs} {l : List α} {i : Nat} {x : α} (h : l[i]? = some x) : (l.take i).map f ++ [f x] <+: l.map f := by
  have e : (l.take i).map f ++ [f x] = (l.take (i + 1)).map f := by rw [List.take_add_one, h, List.map_append]; rfl
  rw [e]
  exact (List.take_prefix _ _).map f
theorem map_snoc {α : Type} {f : α → List Bs} {l : List α} {i : Nat} {x : α} (h : l[i]? = some x) : (l.take (i + 1)).map f = (l.take i).map f ++ [f x] := by rw [List.take_add_one, h, List.map_append]; rfl
def printB (p : Pr) : Bs × Int := if checkB p = true then (if (txt (prW p)).length > 1048576 then ([], 2) else (txt (prW p), 0)) else ([], 130)
set_option maxHeartbeats 64000000 in
theorem print_sp (p : Pr) (w : World) (hp : PrIn (hw w) p) (h20 : Pow20 (hw w)) : Sp Tryz.prog 20 [p.val] w [] (fun y : ByteArray × Int => .tuple #[.string y.1, .int .i64 y.2]) (fun _ => []) (fun y => (bytesL y.1, y.2) = printB p) := by
  refine enter (s := Tryz.sx) [] Tryz.func20 rfl rfl rfl (Eff.refl w) ?_
  refine gc_seq ?_
  repeat' (first | refine g_pv rfl rfl ?_ | refine g_nil ?_ | refine gq_then ?_ | refine gc_region ?_ | refine g_box rfl rfl (fun _ => ?_))
  rename_i b1
  repeat' (first | refine g_ld 0 rfl rfl rfl rfl rfl rfl ?_ | refine gc_seq ?_ | refine gc_region ?_)
  refine g_call rfl (Cl.of Tryz.func8 rfl rfl) rfl rfl (fun w' hE => check_sp p w' (hp.le (fun b o h => old_le hE b o (old_le0 _ w b o h)))) rfl ?_
  rintro _ rfl
  cases hq : checkB p
  · repeat' (first | refine g_pv rfl rfl ?_ | refine g_nil ?_ | refine gq_then ?_ | refine gc_seq ?_ | refine gc_region ?_ | refine gc_cond_t rfl ?_ | refine gc_ret ?_ | refine gq_then_ret ?_)
    refine gq_ret2 (.inr rfl) rfl rfl rfl rfl (fun w' H => ⟨(⟨#[]⟩, 130), ?_, rfl, hp_nil H⟩)
    unfold printB; rw [hq]; rfl
  have hPP := check_PP hq
  have hT : (txt (prW p)).length ≤ 1099511627776 := Nat.le_trans (txt_len hp hPP) (by decide)
  refine g_heap (R' := [[(b1, .cells ⟨p.cells⟩ 25 (0, 0))]]) (fun w H => H) ?_
  repeat' (first | refine g_pv rfl rfl ?_ | refine g_nil ?_ | refine gq_then ?_)
  refine gc_seq ?_
  repeat' (first | refine g_pv rfl rfl ?_ | refine g_nil ?_ | refine gq_then ?_ | refine gc_region ?_ | refine gc_cond_f rfl ?_ | refine gc_skip ?_)
  refine gc_seq ?_
  repeat' (first | refine g_nil ?_ | refine gq_then ?_ | refine gc_region ?_ | refine g_alloc rfl rfl (fun _ => ?_))
  rename_i b5
  have hB0 : BW b5 (txt ((p.obs.take 0).flatMap obW)) [[(b5, .cells ⟨[.pointer none, .slice none 0 0]⟩ 84 (0, 0))], []] := ⟨none, _, [], .inl rfl, rfl, rfl, .inl ⟨rfl, rfl, rfl⟩⟩
  refine gc_heap (R' := [[(b1, .cells ⟨p.cells⟩ 25 (0, 0))]] ++ [[(b5, .cells ⟨[.pointer none, .slice none 0 0]⟩ 84 (0, 0))], []]) (fun w H => hp_perm H (by simp only [List.flatten_cons, List.cons_append, List.nil_append, List.flatten_nil]; exact List.Perm.swap _ _ _)) ?_
  generalize [[(b5, Obj.cells ⟨[.pointer none, .slice none 0 0]⟩ 84 (0, 0))], []] = R0 at hB0 ⊢

  refine gc_cut (Y := RL) (fun R => BW b5 (txt (p.obs.flatMap obW)) R) (fun _ => [(1, .pointer (some ⟨b1, 0, none⟩)), (5, .pointer (some ⟨b5, 0, none⟩))]) (fun R => [[(b1, .cells ⟨p.cells⟩ 25 (0, 0))]] ++ R) ?_ ?_
  · repeat' (first | refine g_pv rfl rfl ?_ | refine g_ld 0 rfl rfl rfl rfl rfl rfl ?_ | refine g_nil ?_ | refine gq_then ?_ | refine gc_seq ?_ | refine gc_region ?_ | refine gc_block ?_)
    refine gc_loop (Y := RL × Nat) (fun y => BW b5 (txt ((p.obs.take y.2).flatMap obW)) y.1 ∧ y.2 ≤ p.obs.length) (fun y => [(1, .pointer (some ⟨b1, 0, none⟩)), (5, .pointer (some ⟨b5, 0, none⟩)), (24, .slice p.oA p.obs.length p.oC), (25, .int .i64 p.obs.length), (26, .int .i64 y.2)]) (fun y => [[(b1, .cells ⟨p.cells⟩ 25 (0, 0))]] ++ y.1) (fun y => p.obs.length - y.2) (R0, 0) ⟨hB0, Nat.zero_le _⟩ ⟨rfl, rfl, rfl, rfl, rfl, trivial⟩ (fun w' H => H) ?_
    rintro ⟨R1, i⟩ ⟨hR1, hi⟩
    dsimp only at hR1 hi ⊢
    have hol := hp.olen
    repeat' (first | refine g_pv rfl rfl ?_ | refine g_nil ?_ | refine gq_then ?_ | refine gc_seq ?_ | refine gc_region ?_)
    refine gc_condC rfl (fun cc => ?_) (fun cc => ?_)
    rotate_left
    · have hge : i = p.obs.length := by have := of_decide_eq_false cc; omega
      subst hge
      rw [List.take_length] at hR1
      repeat' (first | refine gc_exit ?_ | refine gq_then_exit ?_ | refine gq_block_exit ?_)
      exact gq_at R1 hR1 ⟨rfl, rfl, trivial⟩ (fun w' H => H)
    have hlt := of_decide_lt cc
    have hxo : p.obs[i]? = some (p.obs[i]) := List.getElem?_eq_getElem hlt
    have hoI := hp.ob _ (List.mem_of_getElem? hxo)
    have hoP := hPP.ob _ (List.mem_of_getElem? hxo)
    have htk := take_flat obW hxo
    generalize p.obs[i] = o at hxo hoI hoP htk
    repeat' (first | refine gq_then ?_ | refine gc_seq ?_ | refine gc_region ?_ | refine gc_block ?_ | refine gc_skip ?_)
    refine g_at (l := p.obs) (f := Ob.cells) (u := o) rfl rfl rfl rfl rfl (Int.natCast_nonneg i) (by omega) (hp.obs.le (old_le0 _ w)) hxo rfl rfl rfl rfl (fun ad => ?_)
    repeat' (first | refine g_nil ?_ | refine gq_then ?_ | refine g_alloc rfl rfl (fun _ => ?_) | refine g_st 0 rfl rfl rfl rfl rfl rfl rfl ?_)
    rename_i b7
    refine gc_heap (R' := [[(b7, .cells ⟨o.cells⟩ 66 (0, 0))], [(b1, .cells ⟨p.cells⟩ 25 (0, 0))]] ++ R1) (fun w H => H) ?_
    refine gc_seq ?_
    refine gc_draw [[(b7, .cells ⟨o.cells⟩ 66 (0, 0))], [(b1, .cells ⟨p.cells⟩ 25 (0, 0))]] R1 rfl (List.Perm.of_eq rfl) ?_
    (refine aP 0 rfl rfl ?_); (refine aL 1 0 rfl wanted_none rfl rfl rfl rfl rfl ?_); (refine aP 2 rfl rfl ?_); (refine aL 3 0 rfl wanted_none rfl rfl rfl rfl rfl ?_); (refine aP 5 rfl rfl ?_); (refine aL 6 0 rfl wanted_none rfl rfl rfl rfl rfl ?_)
    refine aO 4 rfl (fun K hK => ?_)
    refine g_call rfl (Cl.of Tryz.func36 rfl rfl) rfl rfl (fun w' hE => dec_sp o.size w' hoI.size (h20.le (fun b o h => old_le hE b o (old_le0 _ w b o h)))) rfl (fun s1 hs1 => ?_)
    obtain rfl := mkB_of hs1
    refine g_nil ?_
    refine hK _ _ ⟨R1, List.Perm.of_eq rfl⟩ ?_
    refine aO 7 rfl (fun K hK => ?_)
    refine g_call rfl (Cl.of Tryz.func36 rfl rfl) rfl rfl (fun w' hE => dec_sp o.align w' hoI.align (h20.le (fun b o h => old_le hE b o (old_le0 _ w b o h)))) rfl (fun s2 hs2 => ?_)
    obtain rfl := mkB_of hs2
    refine g_nil ?_
    refine hK _ _ ⟨R1, List.Perm.of_eq rfl⟩ ?_
    refine aO 8 rfl (fun K hK => ?_)
    refine g_litL rfl rfl rfl rfl rfl rfl rfl rfl rfl rfl (fun g => ?_)
    refine g_heap (R' := [[(b7, .cells ⟨o.cells⟩ 66 (0, 0))], [(b1, .cells ⟨p.cells⟩ 25 (0, 0))]] ++ ([(g, .cells ⟨((ob0 o) : List (List UInt8)).flatMap strW⟩ 9 (0, 0))] :: R1)) (fun w H => hp_permL H List.perm_middle) ?_
    refine g_nil ?_
    refine hK _ _ ⟨[(g, .cells ⟨((ob0 o) : List (List UInt8)).flatMap strW⟩ 9 (0, 0))] :: R1, List.Perm.of_eq rfl⟩ ?_
    refine aO 9 rfl (fun K hK => ?_)
    refine g_heap (R' := R1 ++ ([(g, .cells ⟨((ob0 o) : List (List UInt8)).flatMap strW⟩ 9 (0, 0))] :: [[(b7, .cells ⟨o.cells⟩ 66 (0, 0))], [(b1, .cells ⟨p.cells⟩ 25 (0, 0))]])) (fun w H => hp_permL H perm_mid2) ?_
    refine g_call1 (A := R1) (F := [(g, .cells ⟨((ob0 o) : List (List UInt8)).flatMap strW⟩ 9 (0, 0))] :: [[(b7, .cells ⟨o.cells⟩ 66 (0, 0))], [(b1, .cells ⟨p.cells⟩ 25 (0, 0))]]) rfl rfl (Cl.of Tryz.func35 rfl rfl) rfl rfl (fun w' hE' => lineW_sp b5 _ R1 (some ⟨g, 0, none⟩) 4 4 (ob0 o) w' hR1 (hp_own hE') (litW_rd (n := 4) (fz := (0, 0)) rfl (by decide) hE') (List.cons_ne_nil _ _) rfl (Nat.le_refl _) (txt_room (ob_pre hxo (q := [ob0 o]) ⟨_, (List.append_assoc _ _ _).symm⟩) hT)) rfl ?_
    intro R2 hR2
    replace hR2 := bw_line hR2
    refine g_heap (R' := [[(b7, .cells ⟨o.cells⟩ 66 (0, 0))], [(b1, .cells ⟨p.cells⟩ 25 (0, 0))]] ++ R2) (fun w H => hp_back H) ?_
    refine g_nil ?_
    refine hK _ _ ⟨R2, List.Perm.of_eq rfl⟩ ?_
    refine ga_nil (by kernel_rfl) ?_
    refine gq_then ?_
    refine gc_cut (Y := RL) (fun R => BW b5 (txt ((p.obs.take i).flatMap obW ++ ([ob0 o] ++ obD o))) R) (fun _ => [(1, .pointer (some ⟨b1, 0, none⟩)), (5, .pointer (some ⟨b5, 0, none⟩)), (24, .slice p.oA p.obs.length p.oC), (25, .int .i64 p.obs.length), (26, .int .i64 i), (7, .pointer (some ⟨b7, 0, none⟩))]) (fun R => [[(b7, .cells ⟨o.cells⟩ 66 (0, 0))], [(b1, .cells ⟨p.cells⟩ 25 (0, 0))]] ++ R) ?_ ?_
    · repeat' (first | refine g_pv rfl rfl ?_ | refine g_ld 0 rfl rfl rfl rfl rfl rfl ?_ | refine gc_seq ?_ | refine gc_region ?_)
      refine g_call rfl (Cl.of Tryz.func37 rfl rfl) rfl rfl (fun w' hE => hex_sp o.bytes o.bA o.bC w' (hoI.bytes.le (fun b o h => old_le hE b o (old_le0 _ w b o h))) hoI.bcap hoI.bs (by have := hoP.2.1; omega)) rfl (fun sh hsh => ?_)
      obtain rfl := mkB_of hsh
      repeat' (first | refine g_pv rfl rfl ?_ | refine g_nil ?_ | refine gq_then ?_ | refine gc_seq ?_ | refine gc_region ?_)
      refine g_p (p_neT rfl rfl rfl) rfl ?_
      repeat' (first | refine g_nil ?_ | refine gq_then ?_)
      refine gc_condC rfl (fun ch => ?_) (fun ch => ?_)
      · rw [neT_nil, Bool.not_eq_true', decide_eq_false_iff_not] at ch
        have hd : obD o = [[k_data, hexB o.bytes]] := by unfold obD; rw [if_neg ch]
        repeat' (first | refine g_pv rfl rfl ?_ | refine gc_region ?_)
        refine g_litL rfl rfl rfl rfl rfl rfl rfl rfl rfl rfl (fun g => ?_)
        refine g_heap (R' := R2 ++ ([(g, .cells ⟨([k_data, hexB o.bytes] : List (List UInt8)).flatMap strW⟩ 9 (0, 0))] :: [[(b7, .cells ⟨o.cells⟩ 66 (0, 0))], [(b1, .cells ⟨p.cells⟩ 25 (0, 0))]])) (fun w H => hp_permL H List.perm_append_comm) ?_
        refine g_call1 (A := R2) (F := [(g, .cells ⟨([k_data, hexB o.bytes] : List (List UInt8)).flatMap strW⟩ 9 (0, 0))] :: [[(b7, .cells ⟨o.cells⟩ 66 (0, 0))], [(b1, .cells ⟨p.cells⟩ 25 (0, 0))]]) rfl rfl (Cl.of Tryz.func35 rfl rfl) rfl rfl (fun w' hE' => lineW_sp b5 _ R2 (some ⟨g, 0, none⟩) 2 2 [k_data, hexB o.bytes] w' hR2 (hp_own hE') (litW_rd (n := 2) (fz := (0, 0)) rfl (by decide) hE') (List.cons_ne_nil _ _) rfl (Nat.le_refl _) (txt_room (by rw [List.append_assoc]; exact ob_pre hxo (by unfold obW; rw [hd]; exact ⟨_, rfl⟩)) hT)) rfl ?_
        intro R3 hR3
        replace hR3 := bw_line hR3
        refine g_heap (R' := [[(b7, .cells ⟨o.cells⟩ 66 (0, 0))], [(b1, .cells ⟨p.cells⟩ 25 (0, 0))]] ++ R3) (fun w H => hp_back H) ?_
        repeat' (refine g_nil ?_)
        exact gq_at R3 (by rw [hd, ← List.append_assoc]; exact hR3) ⟨rfl, rfl, rfl, rfl, rfl, rfl, trivial⟩ (fun w' H => H)
      · rw [neT_nil, Bool.not_eq_false', decide_eq_true_eq] at ch
        have hd : obD o = [] := by unfold obD; rw [if_pos ch]
        repeat' (refine gc_skip ?_)
        exact gq_at R2 (by rw [hd, List.append_nil]; exact hR2) ⟨rfl, rfl, rfl, rfl, rfl, rfl, trivial⟩ (fun w' H => H)
    intro R3 hR3
    dsimp only at hR3 ⊢
    repeat' (first | refine g_pv rfl rfl ?_ | refine g_ld 0 rfl rfl rfl rfl rfl rfl ?_ | refine g_nil ?_ | refine gq_then ?_ | refine gc_seq ?_ | refine gc_region ?_ | refine gc_block ?_)
    refine gc_loop (Y := RL × Nat) (fun y => BW b5 (txt ((p.obs.take i).flatMap obW ++ ([ob0 o] ++ obD o ++ (o.rels.take y.2).map relW))) y.1 ∧ y.2 ≤ o.rels.length) (fun y => [(1, .pointer (some ⟨b1, 0, none⟩)), (5, .pointer (some ⟨b5, 0, none⟩)), (24, .slice p.oA p.obs.length p.oC), (25, .int .i64 p.obs.length), (26, .int .i64 i), (7, .pointer (some ⟨b7, 0, none⟩)), (51, .slice o.rA o.rels.length o.rC), (52, .int .i64 o.rels.length), (53, .int .i64 y.2)]) (fun y => [[(b7, .cells ⟨o.cells⟩ 66 (0, 0))], [(b1, .cells ⟨p.cells⟩ 25 (0, 0))]] ++ y.1) (fun y => o.rels.length - y.2) (R3, 0) ⟨by rw [List.take_zero, List.map_nil, List.append_nil]; exact hR3, Nat.zero_le _⟩ ⟨rfl, rfl, rfl, rfl, rfl, rfl, rfl, rfl, rfl, trivial⟩ (fun w' H => H) ?_
    rintro ⟨R4, k⟩ ⟨hR4, hk⟩
    dsimp only at hR4 hk ⊢
    have hrl := hoI.rlen
    repeat' (first | refine g_pv rfl rfl ?_ | refine g_nil ?_ | refine gq_then ?_ | refine gc_seq ?_ | refine gc_region ?_)
    refine gc_condC rfl (fun ck => ?_) (fun ck => ?_)
    rotate_left
    · have hge : k = o.rels.length := by have := of_decide_eq_false ck; omega
      subst hge
      rw [List.take_length] at hR4
      repeat' (first | refine g_pv rfl rfl ?_ | refine g_nil ?_ | refine gq_then ?_ | refine gc_region ?_ | refine gc_exit ?_ | refine gq_then_exit ?_ | refine gq_block ?_ | refine gq_block_exit ?_)
      exact gq_again (R4, i + 1) ⟨by rw [htk]; exact hR4, hlt⟩ (by dsimp only; omega) ⟨rfl, rfl, rfl, rfl, inc_eq (by omega), trivial⟩ (fun w' H => hp_tail H)
    have hlk := of_decide_lt ck
    have hxr : o.rels[k]? = some (o.rels[k]) := List.getElem?_eq_getElem hlk
    have hrI := hoI.rs _ (List.mem_of_getElem? hxr)
    have hmk := map_snoc (f := relW) hxr
    have hpk := pre_snoc (f := relW) hxr
    generalize o.rels[k] = r at hxr hrI hmk hpk
    repeat' (first | refine gq_then ?_ | refine gc_seq ?_ | refine gc_region ?_ | refine gc_block ?_ | refine gc_skip ?_)
    refine g_at (l := o.rels) (f := Rel.cells) (u := r) rfl rfl rfl rfl rfl (Int.natCast_nonneg k) (by omega) (hoI.rels.le (old_le0 _ w)) hxr rfl rfl rfl rfl (fun ad => ?_)
    repeat' (first | refine g_nil ?_ | refine gq_then ?_ | refine g_alloc rfl rfl (fun _ => ?_) | refine g_st 0 rfl rfl rfl rfl rfl rfl rfl ?_)
    rename_i b10
    refine gc_heap (R' := [[(b10, .cells ⟨r.cells⟩ 78 (0, 0))], [(b7, .cells ⟨o.cells⟩ 66 (0, 0))], [(b1, .cells ⟨p.cells⟩ 25 (0, 0))]] ++ R4) (fun w H => H) ?_
    refine gc_draw [[(b10, .cells ⟨r.cells⟩ 78 (0, 0))], [(b7, .cells ⟨o.cells⟩ 66 (0, 0))], [(b1, .cells ⟨p.cells⟩ 25 (0, 0))]] R4 rfl (List.Perm.of_eq rfl) ?_
    (refine aP 0 rfl rfl ?_); (refine aL 1 0 rfl wanted_none rfl rfl rfl rfl rfl ?_); (refine aP 3 rfl rfl ?_); (refine aL 4 0 rfl wanted_none rfl rfl rfl rfl rfl ?_); (refine aP 6 rfl rfl ?_); (refine aL 7 0 rfl wanted_none rfl rfl rfl rfl rfl ?_)
    refine aO 2 rfl (fun K hK => ?_)
    refine g_call rfl (Cl.of Tryz.func36 rfl rfl) rfl rfl (fun w' hE => dec_sp r.off w' hrI.1 (h20.le (fun b o h => old_le hE b o (old_le0 _ w b o h)))) rfl (fun s1 hs1 => ?_)
    obtain rfl := mkB_of hs1
    refine g_nil ?_
    refine hK _ _ ⟨R4, List.Perm.of_eq rfl⟩ ?_
    refine aO 5 rfl (fun K hK => ?_)
    refine g_call rfl (Cl.of Tryz.func36 rfl rfl) rfl rfl (fun w' hE => dec_sp r.gl w' hrI.2.1 (h20.le (fun b o h => old_le hE b o (old_le0 _ w b o h)))) rfl (fun s2 hs2 => ?_)
    obtain rfl := mkB_of hs2
    refine g_nil ?_
    refine hK _ _ ⟨R4, List.Perm.of_eq rfl⟩ ?_
    refine aO 8 rfl (fun K hK => ?_)
    refine g_call rfl (Cl.of Tryz.func36 rfl rfl) rfl rfl (fun w' hE => dec_sp r.add w' hrI.2.2 (h20.le (fun b o h => old_le hE b o (old_le0 _ w b o h)))) rfl (fun s3 hs3 => ?_)
    obtain rfl := mkB_of hs3
    refine g_nil ?_
    refine hK _ _ ⟨R4, List.Perm.of_eq rfl⟩ ?_
    refine aO 9 rfl (fun K hK => ?_)
    refine g_litL rfl rfl rfl rfl rfl rfl rfl rfl rfl rfl (fun g => ?_)
    refine g_heap (R' := [[(b10, .cells ⟨r.cells⟩ 78 (0, 0))], [(b7, .cells ⟨o.cells⟩ 66 (0, 0))], [(b1, .cells ⟨p.cells⟩ 25 (0, 0))]] ++ ([(g, .cells ⟨((relW r) : List (List UInt8)).flatMap strW⟩ 9 (0, 0))] :: R4)) (fun w H => hp_permL H List.perm_middle) ?_
    refine g_nil ?_
    refine hK _ _ ⟨[(g, .cells ⟨((relW r) : List (List UInt8)).flatMap strW⟩ 9 (0, 0))] :: R4, List.Perm.of_eq rfl⟩ ?_
    refine aO 10 rfl (fun K hK => ?_)
    refine g_heap (R' := R4 ++ ([(g, .cells ⟨((relW r) : List (List UInt8)).flatMap strW⟩ 9 (0, 0))] :: [[(b10, .cells ⟨r.cells⟩ 78 (0, 0))], [(b7, .cells ⟨o.cells⟩ 66 (0, 0))], [(b1, .cells ⟨p.cells⟩ 25 (0, 0))]])) (fun w H => hp_permL H perm_mid2) ?_
    refine g_call1 (A := R4) (F := [(g, .cells ⟨((relW r) : List (List UInt8)).flatMap strW⟩ 9 (0, 0))] :: [[(b10, .cells ⟨r.cells⟩ 78 (0, 0))], [(b7, .cells ⟨o.cells⟩ 66 (0, 0))], [(b1, .cells ⟨p.cells⟩ 25 (0, 0))]]) rfl rfl (Cl.of Tryz.func35 rfl rfl) rfl rfl (fun w' hE' => lineW_sp b5 _ R4 (some ⟨g, 0, none⟩) 4 4 (relW r) w' hR4 (hp_own hE') (litW_rd (n := 4) (fz := (0, 0)) rfl (by decide) hE') (List.cons_ne_nil _ _) rfl (Nat.le_refl _) (txt_room (by rw [List.append_assoc]; exact ob_pre hxo (by unfold obW; rw [List.append_assoc]; exact pre_left hpk)) hT)) rfl ?_
    intro R5 hR5
    replace hR5 := bw_line hR5
    refine g_heap (R' := [[(b10, .cells ⟨r.cells⟩ 78 (0, 0))], [(b7, .cells ⟨o.cells⟩ 66 (0, 0))], [(b1, .cells ⟨p.cells⟩ 25 (0, 0))]] ++ R5) (fun w H => hp_back H) ?_
    refine g_nil ?_
    refine hK _ _ ⟨R5, List.Perm.of_eq rfl⟩ ?_
    refine ga_nil (by kernel_rfl) ?_
    repeat' (first | refine g_pv rfl rfl ?_ | refine g_nil ?_ | refine gq_then ?_ | refine gc_region ?_ | refine gq_block ?_)
    exact gq_again (R5, k + 1) ⟨by rw [hmk]; simpa only [List.append_assoc] using hR5, hlk⟩ (by dsimp only; omega) ⟨rfl, rfl, rfl, rfl, rfl, rfl, rfl, rfl, inc_eq (by omega), trivial⟩ (fun w' H => hp_tail H)
  intro R0 hR0
  dsimp only at hR0 ⊢
  refine gc_cut (Y := RL) (fun R => BW b5 (txt (p.obs.flatMap obW ++ p.fns.flatMap fnW)) R) (fun _ => [(1, .pointer (some ⟨b1, 0, none⟩)), (5, .pointer (some ⟨b5, 0, none⟩))]) (fun R => [[(b1, .cells ⟨p.cells⟩ 25 (0, 0))]] ++ R) ?_ ?_
  · repeat' (first | refine g_pv rfl rfl ?_ | refine g_ld 0 rfl rfl rfl rfl rfl rfl ?_ | refine g_nil ?_ | refine gq_then ?_ | refine gc_seq ?_ | refine gc_region ?_ | refine gc_block ?_)
    refine gc_loop (Y := RL × Nat) (fun y => BW b5 (txt (p.obs.flatMap obW ++ (p.fns.take y.2).flatMap fnW)) y.1 ∧ y.2 ≤ p.fns.length) (fun y => [(1, .pointer (some ⟨b1, 0, none⟩)), (5, .pointer (some ⟨b5, 0, none⟩)), (71, .slice p.fA p.fns.length p.fC), (72, .int .i64 p.fns.length), (73, .int .i64 y.2)]) (fun y => [[(b1, .cells ⟨p.cells⟩ 25 (0, 0))]] ++ y.1) (fun y => p.fns.length - y.2) (R0, 0) ⟨by rw [List.take_zero, List.flatMap_nil, List.append_nil]; exact hR0, Nat.zero_le _⟩ ⟨rfl, rfl, rfl, rfl, rfl, trivial⟩ (fun w' H => H) ?_
    rintro ⟨R1, i⟩ ⟨hR1, hi⟩
    dsimp only at hR1 hi ⊢
    have hfl := hp.flen
    repeat' (first | refine g_pv rfl rfl ?_ | refine g_nil ?_ | refine gq_then ?_ | refine gc_seq ?_ | refine gc_region ?_)
    refine gc_condC rfl (fun cc => ?_) (fun cc => ?_)
    rotate_left
    · have hge : i = p.fns.length := by have := of_decide_eq_false cc; omega
      subst hge
      rw [List.take_length] at hR1
      repeat' (first | refine gc_exit ?_ | refine gq_then_exit ?_ | refine gq_block_exit ?_)
      exact gq_at R1 hR1 ⟨rfl, rfl, trivial⟩ (fun w' H => H)
    have hlt := of_decide_lt cc
    have hxf : p.fns[i]? = some (p.fns[i]) := List.getElem?_eq_getElem hlt
    have hfI := hp.fn _ (List.mem_of_getElem? hxf)
    have hfP := hPP.fn _ (List.mem_of_getElem? hxf)
    have htk := take_flat fnW hxf
    generalize p.fns[i] = f at hxf hfI hfP htk
    repeat' (first | refine gq_then ?_ | refine gc_seq ?_ | refine gc_region ?_ | refine gc_block ?_ | refine gc_skip ?_)
    refine g_at (l := p.fns) (f := Fn.cells) (u := f) rfl rfl rfl rfl rfl (Int.natCast_nonneg i) (by omega) (hp.fns.le (old_le0 _ w)) hxf rfl rfl rfl rfl (fun ad => ?_)
    repeat' (first | refine g_nil ?_ | refine gq_then ?_ | refine g_alloc rfl rfl (fun _ => ?_) | refine g_st 0 rfl rfl rfl rfl rfl rfl rfl ?_)
    rename_i b12
    refine gc_heap (R' := [[(b12, .cells ⟨f.cells⟩ 32 (0, 0))], [(b1, .cells ⟨p.cells⟩ 25 (0, 0))]] ++ R1) (fun w H => H) ?_
    refine gc_seq ?_
    refine gc_draw [[(b12, .cells ⟨f.cells⟩ 32 (0, 0))], [(b1, .cells ⟨p.cells⟩ 25 (0, 0))]] R1 rfl (List.Perm.of_eq rfl) ?_
    (refine aP 0 rfl rfl ?_); (refine aL 1 0 rfl wanted_none rfl rfl rfl rfl rfl ?_); (refine aP 2 rfl rfl ?_); (refine aL 3 0 rfl wanted_none rfl rfl rfl rfl rfl ?_); (refine aP 5 rfl rfl ?_); (refine aL 6 0 rfl wanted_none rfl rfl rfl rfl rfl ?_)
    refine aO 4 rfl (fun K hK => ?_)
    refine g_call rfl (Cl.of Tryz.func36 rfl rfl) rfl rfl (fun w' hE => dec_sp f.pa w' hfI.pa (h20.le (fun b o h => old_le hE b o (old_le0 _ w b o h)))) rfl (fun s1 hs1 => ?_)
    obtain rfl := mkB_of hs1
    refine g_nil ?_
    refine hK _ _ ⟨R1, List.Perm.of_eq rfl⟩ ?_
    refine aO 7 rfl (fun K hK => ?_)
    refine g_call rfl (Cl.of Tryz.func36 rfl rfl) rfl rfl (fun w' hE => dec_sp f.te w' hfI.te (h20.le (fun b o h => old_le hE b o (old_le0 _ w b o h)))) rfl (fun s2 hs2 => ?_)
    obtain rfl := mkB_of hs2
    refine g_nil ?_
    refine hK _ _ ⟨R1, List.Perm.of_eq rfl⟩ ?_
    refine aO 8 rfl (fun K hK => ?_)
    refine g_litL rfl rfl rfl rfl rfl rfl rfl rfl rfl rfl (fun g => ?_)
    refine g_heap (R' := [[(b12, .cells ⟨f.cells⟩ 32 (0, 0))], [(b1, .cells ⟨p.cells⟩ 25 (0, 0))]] ++ ([(g, .cells ⟨([k_func, bytesL f.nm, Lib.itoa f.pa, Lib.itoa f.te] : List (List UInt8)).flatMap strW⟩ 9 (0, 0))] :: R1)) (fun w H => hp_permL H List.perm_middle) ?_
    refine g_nil ?_
    refine hK _ _ ⟨[(g, .cells ⟨([k_func, bytesL f.nm, Lib.itoa f.pa, Lib.itoa f.te] : List (List UInt8)).flatMap strW⟩ 9 (0, 0))] :: R1, List.Perm.of_eq rfl⟩ ?_
    (refine aP 9 rfl rfl ?_)
    refine ga_nil (by kernel_rfl) ?_
    refine gq_then ?_
    refine gc_cut (Y := Value × HL) (fun y => OwnL 9 1 strW y.1 (fn0W f) y.2) (fun y => [(1, .pointer (some ⟨b1, 0, none⟩)), (5, .pointer (some ⟨b5, 0, none⟩)), (71, .slice p.fA p.fns.length p.fC), (72, .int .i64 p.fns.length), (73, .int .i64 i), (12, .pointer (some ⟨b12, 0, none⟩)), (13, y.1)]) (fun y => [[(b12, .cells ⟨f.cells⟩ 32 (0, 0))], [(b1, .cells ⟨p.cells⟩ 25 (0, 0))]] ++ (y.2 :: R1)) ?_ ?_
    · repeat' (first | refine g_pv rfl rfl ?_ | refine g_ld 0 rfl rfl rfl rfl rfl rfl ?_ | refine g_nil ?_ | refine gq_then ?_ | refine gc_seq ?_ | refine gc_region ?_)
      refine gc_condC rfl (fun cg => ?_) (fun cg => ?_)
      · have hd : fn0W f = [k_func, bytesL f.nm, Lib.itoa f.pa, Lib.itoa f.te] ++ [k_gives] := by unfold fn0W; rw [if_pos cg]
        repeat' (first | refine g_pv rfl rfl ?_ | refine gc_region ?_)
        refine g_app1L 2 (f := strW) (q := k_gives) rfl rfl rfl rfl rfl rfl rfl rfl rfl rfl rfl rfl (ownW_lit g [k_func, bytesL f.nm, Lib.itoa f.pa, Lib.itoa f.te] rfl (by decide)) (by show 4 + 1 ≤ maxLen; decide) (by show (4 + 1) * 16 ≤ 140737488355328; decide) rfl rfl (fun v1 A1 g1 ho => ?_)
        rw [← hd] at ho
        repeat' (first | refine g_pv rfl rfl ?_ | refine g_nil ?_)
        exact gq_at (v1, A1) ho ⟨rfl, rfl, rfl, rfl, rfl, rfl, rfl, trivial⟩ (fun w' H => H)
      · have hd : fn0W f = [k_func, bytesL f.nm, Lib.itoa f.pa, Lib.itoa f.te] := by unfold fn0W; rw [if_neg (by rw [show f.gi = false from cg]; decide)]; rfl
        repeat' (refine gc_skip ?_)
        exact gq_at (.slice (some ⟨g, 0, none⟩) 4 4, [(g, .cells ⟨([k_func, bytesL f.nm, Lib.itoa f.pa, Lib.itoa f.te] : List (List UInt8)).flatMap strW⟩ 9 (0, 0))]) (by rw [hd]; exact ownW_lit (n := 4) g _ rfl (by decide)) ⟨rfl, rfl, rfl, rfl, rfl, rfl, rfl, trivial⟩ (fun w' H => H)
    rintro ⟨v1, A1⟩ ho
    dsimp only at ho ⊢
    obtain ⟨ad1, c1', rfl, hc1', hr1⟩ := ownW_shape ho
    repeat' (first | refine g_pv rfl rfl ?_ | refine gc_seq ?_ | refine gc_region ?_)
    refine g_heap (R' := R1 ++ (A1 :: [[(b12, .cells ⟨f.cells⟩ 32 (0, 0))], [(b1, .cells ⟨p.cells⟩ 25 (0, 0))]])) (fun w H => hp_permL H perm_mid2) ?_
    refine g_call1 (A := R1) (F := A1 :: [[(b12, .cells ⟨f.cells⟩ 32 (0, 0))], [(b1, .cells ⟨p.cells⟩ 25 (0, 0))]]) rfl rfl (Cl.of Tryz.func35 rfl rfl) rfl rfl (fun w' hE' => lineW_sp b5 _ R1 ad1 _ c1' (fn0W f) w' hR1 (hp_own hE') (hr1 (fun b o hb => hp_exc (hp_join hE') (List.mem_append_left _ hb))) (by unfold fn0W; exact List.cons_ne_nil _ _) rfl hc1' (txt_room (fn_pre hxf (q := [fn0W f]) ⟨_, (List.append_assoc _ _ _).symm⟩) hT)) rfl ?_
    intro R2 hR2
    replace hR2 := bw_line hR2
    refine g_heap (R' := [[(b12, .cells ⟨f.cells⟩ 32 (0, 0))], [(b1, .cells ⟨p.cells⟩ 25 (0, 0))]] ++ R2) (fun w H => hp_back H) ?_
    repeat' (first | refine g_pv rfl rfl ?_ | refine g_ld 0 rfl rfl rfl rfl rfl rfl ?_ | refine g_nil ?_ | refine gq_then ?_ | refine gc_seq ?_ | refine gc_region ?_ | refine gc_block ?_)
    refine gc_loop (Y := RL × Nat) (fun y => BW b5 (txt (p.obs.flatMap obW ++ (p.fns.take i).flatMap fnW ++ ([fn0W f] ++ (f.slots.take y.2).map slotW))) y.1 ∧ y.2 ≤ f.slots.length) (fun y => [(1, .pointer (some ⟨b1, 0, none⟩)), (5, .pointer (some ⟨b5, 0, none⟩)), (71, .slice p.fA p.fns.length p.fC), (72, .int .i64 p.fns.length), (73, .int .i64 i), (12, .pointer (some ⟨b12, 0, none⟩)), (94, .slice f.sA f.slots.length f.sC), (95, .int .i64 f.slots.length), (96, .int .i64 y.2)]) (fun y => [[(b12, .cells ⟨f.cells⟩ 32 (0, 0))], [(b1, .cells ⟨p.cells⟩ 25 (0, 0))]] ++ y.1) (fun y => f.slots.length - y.2) (R2, 0) ⟨by rw [List.take_zero, List.map_nil, List.append_nil]; exact hR2, Nat.zero_le _⟩ ⟨rfl, rfl, rfl, rfl, rfl, rfl, rfl, rfl, rfl, trivial⟩ (fun w' H => H) ?_
    rintro ⟨R4, k⟩ ⟨hR4, hk⟩
    dsimp only at hR4 hk ⊢
    have hsl := hfI.slen
    repeat' (first | refine g_pv rfl rfl ?_ | refine g_nil ?_ | refine gq_then ?_ | refine gc_seq ?_ | refine gc_region ?_)
    refine gc_condC rfl (fun ck => ?_) (fun ck => ?_)
    · have hlk := of_decide_lt ck
      have hxs : f.slots[k]? = some (f.slots[k]) := List.getElem?_eq_getElem hlk
      have hsI := hfI.ss _ (List.mem_of_getElem? hxs)
      have hmk := map_snoc (f := slotW) hxs
      have hpk := pre_snoc (f := slotW) hxs
      generalize f.slots[k] = s at hxs hsI hmk hpk
      repeat' (first | refine gq_then ?_ | refine gc_seq ?_ | refine gc_region ?_ | refine gc_block ?_ | refine gc_skip ?_)
      refine g_at (l := f.slots) (f := Slt.cells) (u := s) rfl rfl rfl rfl rfl (Int.natCast_nonneg k) (by omega) (hfI.slots.le (old_le0 _ w)) hxs rfl rfl rfl rfl (fun ad => ?_)
      repeat' (first | refine g_nil ?_ | refine gq_then ?_ | refine g_alloc rfl rfl (fun _ => ?_) | refine g_st 0 rfl rfl rfl rfl rfl rfl rfl ?_)
      rename_i b15
      refine gc_heap (R' := [[(b15, .cells ⟨s.cells⟩ 90 (0, 0))], [(b12, .cells ⟨f.cells⟩ 32 (0, 0))], [(b1, .cells ⟨p.cells⟩ 25 (0, 0))]] ++ R4) (fun w H => H) ?_
      refine gc_draw [[(b15, .cells ⟨s.cells⟩ 90 (0, 0))], [(b12, .cells ⟨f.cells⟩ 32 (0, 0))], [(b1, .cells ⟨p.cells⟩ 25 (0, 0))]] R4 rfl (List.Perm.of_eq rfl) ?_
      (refine aP 0 rfl rfl ?_); (refine aL 1 0 rfl wanted_none rfl rfl rfl rfl rfl ?_); (refine aP 3 rfl rfl ?_); (refine aL 4 0 rfl wanted_none rfl rfl rfl rfl rfl ?_)
      refine aO 2 rfl (fun K hK => ?_)
      refine g_call rfl (Cl.of Tryz.func36 rfl rfl) rfl rfl (fun w' hE => dec_sp s.size w' hsI.1 (h20.le (fun b o h => old_le hE b o (old_le0 _ w b o h)))) rfl (fun s1 hs1 => ?_)
      obtain rfl := mkB_of hs1
      refine g_nil ?_
      refine hK _ _ ⟨R4, List.Perm.of_eq rfl⟩ ?_
      refine aO 5 rfl (fun K hK => ?_)
      refine g_call rfl (Cl.of Tryz.func36 rfl rfl) rfl rfl (fun w' hE => dec_sp s.align w' hsI.2 (h20.le (fun b o h => old_le hE b o (old_le0 _ w b o h)))) rfl (fun s2 hs2 => ?_)
      obtain rfl := mkB_of hs2
      refine g_nil ?_
      refine hK _ _ ⟨R4, List.Perm.of_eq rfl⟩ ?_
      refine aO 6 rfl (fun K hK => ?_)
      refine g_litL rfl rfl rfl rfl rfl rfl rfl rfl rfl rfl (fun g => ?_)
      refine g_heap (R' := [[(b15, .cells ⟨s.cells⟩ 90 (0, 0))], [(b12, .cells ⟨f.cells⟩ 32 (0, 0))], [(b1, .cells ⟨p.cells⟩ 25 (0, 0))]] ++ ([(g, .cells ⟨((slotW s) : List (List UInt8)).flatMap strW⟩ 9 (0, 0))] :: R4)) (fun w H => hp_permL H List.perm_middle) ?_
      refine g_nil ?_
      refine hK _ _ ⟨[(g, .cells ⟨((slotW s) : List (List UInt8)).flatMap strW⟩ 9 (0, 0))] :: R4, List.Perm.of_eq rfl⟩ ?_
      refine aO 7 rfl (fun K hK => ?_)
      refine g_heap (R' := R4 ++ ([(g, .cells ⟨((slotW s) : List (List UInt8)).flatMap strW⟩ 9 (0, 0))] :: [[(b15, .cells ⟨s.cells⟩ 90 (0, 0))], [(b12, .cells ⟨f.cells⟩ 32 (0, 0))], [(b1, .cells ⟨p.cells⟩ 25 (0, 0))]])) (fun w H => hp_permL H perm_mid2) ?_
      refine g_call1 (A := R4) (F := [(g, .cells ⟨((slotW s) : List (List UInt8)).flatMap strW⟩ 9 (0, 0))] :: [[(b15, .cells ⟨s.cells⟩ 90 (0, 0))], [(b12, .cells ⟨f.cells⟩ 32 (0, 0))], [(b1, .cells ⟨p.cells⟩ 25 (0, 0))]]) rfl rfl (Cl.of Tryz.func35 rfl rfl) rfl rfl (fun w' hE' => lineW_sp b5 _ R4 (some ⟨g, 0, none⟩) 3 3 (slotW s) w' hR4 (hp_own hE') (litW_rd (n := 3) (fz := (0, 0)) rfl (by decide) hE') (List.cons_ne_nil _ _) rfl (Nat.le_refl _) (txt_room (by rw [List.append_assoc]; exact fn_pre hxf (by unfold fnW; rw [List.append_assoc, List.append_assoc]; exact pre_left (hpk.trans (List.prefix_append _ _)))) hT)) rfl ?_
      intro R5 hR5
      replace hR5 := bw_line hR5
      refine g_heap (R' := [[(b15, .cells ⟨s.cells⟩ 90 (0, 0))], [(b12, .cells ⟨f.cells⟩ 32 (0, 0))], [(b1, .cells ⟨p.cells⟩ 25 (0, 0))]] ++ R5) (fun w H => hp_back H) ?_
      refine g_nil ?_
      refine hK _ _ ⟨R5, List.Perm.of_eq rfl⟩ ?_
      refine ga_nil (by kernel_rfl) ?_
      repeat' (first | refine g_pv rfl rfl ?_ | refine g_nil ?_ | refine gq_then ?_ | refine gc_region ?_ | refine gq_block ?_)
      exact gq_again (R5, k + 1) ⟨by rw [hmk]; simpa only [List.append_assoc] using hR5, hlk⟩ (by dsimp only; omega) ⟨rfl, rfl, rfl, rfl, rfl, rfl, rfl, rfl, inc_eq (by omega), trivial⟩ (fun w' H => hp_tail H)
    have hge : k = f.slots.length := by have := of_decide_eq_false ck; omega
    subst hge
    rw [List.take_length] at hR4
    repeat' (first | refine g_pv rfl rfl ?_ | refine g_ld 0 rfl rfl rfl rfl rfl rfl ?_ | refine g_nil ?_ | refine gq_then ?_ | refine gc_seq ?_ | refine gc_region ?_ | refine gc_block ?_ | refine gc_exit ?_ | refine gq_then_exit ?_ | refine gq_block_exit ?_)
    refine gc_loop (Y := RL × Nat) (fun y => BW b5 (txt (p.obs.flatMap obW ++ (p.fns.take i).flatMap fnW ++ ([fn0W f] ++ f.slots.map slotW ++ (f.code.take y.2).map insW))) y.1 ∧ y.2 ≤ f.code.length) (fun y => [(1, .pointer (some ⟨b1, 0, none⟩)), (5, .pointer (some ⟨b5, 0, none⟩)), (71, .slice p.fA p.fns.length p.fC), (72, .int .i64 p.fns.length), (73, .int .i64 i), (12, .pointer (some ⟨b12, 0, none⟩)), (110, .slice f.cA f.code.length f.cC), (111, .int .i64 f.code.length), (112, .int .i64 y.2)]) (fun y => [[(b12, .cells ⟨f.cells⟩ 32 (0, 0))], [(b1, .cells ⟨p.cells⟩ 25 (0, 0))]] ++ y.1) (fun y => f.code.length - y.2) (R4, 0) ⟨by rw [List.take_zero, List.map_nil, List.append_nil]; exact hR4, Nat.zero_le _⟩ ⟨rfl, rfl, rfl, rfl, rfl, rfl, rfl, rfl, rfl, trivial⟩ (fun w' H => H) ?_
    rintro ⟨R6, n⟩ ⟨hR6, hn⟩
    dsimp only at hR6 hn ⊢
    have hcl := hfI.code.len
    repeat' (first | refine g_pv rfl rfl ?_ | refine g_nil ?_ | refine gq_then ?_ | refine gc_seq ?_ | refine gc_region ?_)
    refine gc_condC rfl (fun cn => ?_) (fun cn => ?_)
    rotate_left
    · have hge : n = f.code.length := by have := of_decide_eq_false cn; omega
      subst hge
      rw [List.take_length] at hR6
      repeat' (first | refine g_pv rfl rfl ?_ | refine g_nil ?_ | refine gq_then ?_ | refine gc_region ?_ | refine gc_exit ?_ | refine gq_then_exit ?_ | refine gq_block ?_ | refine gq_block_exit ?_)
      exact gq_again (R6, i + 1) ⟨by rw [htk, ← List.append_assoc]; exact hR6, hlt⟩ (by dsimp only; omega) ⟨rfl, rfl, rfl, rfl, inc_eq (by omega), trivial⟩ (fun w' H => hp_tail H)
    have hln := of_decide_lt cn
    have hxc : f.code[n]? = some (f.code[n]) := List.getElem?_eq_getElem hln
    have hxI := hfI.code.all _ (List.mem_of_getElem? hxc)
    have hxP := hfP.2.2.2 _ (List.mem_of_getElem? hxc)
    have hmk := map_snoc (f := insW) hxc
    have hpk := pre_snoc (f := insW) hxc
    generalize f.code[n] = x at hxc hxI hxP hmk hpk
    repeat' (first | refine gq_then ?_ | refine gc_seq ?_ | refine gc_region ?_ | refine gc_block ?_ | refine gc_skip ?_)
    refine g_at (l := f.code) (f := Ins.cells) (u := x) rfl rfl rfl rfl rfl (Int.natCast_nonneg n) (by omega) (hfI.code.row.le (old_le0 _ w)) hxc rfl rfl rfl rfl (fun ad => ?_)
    repeat' (first | refine g_ld 0 rfl rfl rfl rfl rfl rfl ?_ | refine g_nil ?_ | refine gq_then ?_ | refine gc_region ?_ | refine g_alloc rfl rfl (fun _ => ?_) | refine g_st 0 rfl rfl rfl rfl rfl rfl rfl ?_)
    rename_i b17
    refine g_heap (R' := [[(b17, .cells ⟨x.cells⟩ 43 (0, 0))], [(b12, .cells ⟨f.cells⟩ 32 (0, 0))], [(b1, .cells ⟨p.cells⟩ 25 (0, 0))]] ++ R6) (fun w H => H) ?_
    repeat' (fail)
    refine g_heap (R' := R6 ++ [[(b17, .cells ⟨x.cells⟩ 43 (0, 0))], [(b12, .cells ⟨f.cells⟩ 32 (0, 0))], [(b1, .cells ⟨p.cells⟩ 25 (0, 0))]]) (fun w H => hp_permL H List.perm_append_comm) ?_
    refine g_call1 (A := R6) (F := [[(b17, .cells ⟨x.cells⟩ 43 (0, 0))], [(b12, .cells ⟨f.cells⟩ 32 (0, 0))], [(b1, .cells ⟨p.cells⟩ 25 (0, 0))]]) rfl rfl (Cl.of Tryz.func38 rfl rfl) rfl rfl (fun w' hE' => ins_sp b5 _ R6 x w' hR6 (hp_own hE') (hxI.le (fun b o h => hp_excO (hp_join hE') (old_le0 _ w b o h))) hxP (h20.le (fun b o h => hp_excO (hp_join hE') (old_le0 _ w b o h))) (txt_room (by rw [List.append_assoc]; exact fn_pre hxf (by unfold fnW; rw [List.append_assoc]; exact pre_left hpk)) hT)) rfl ?_
    intro R7 hR7
    replace hR7 := bw_line hR7
    refine g_heap (R' := [[(b12, .cells ⟨f.cells⟩ 32 (0, 0))], [(b1, .cells ⟨p.cells⟩ 25 (0, 0))]] ++ R7) (fun w H => hp_back H) ?_
    repeat' (first | refine g_pv rfl rfl ?_ | refine g_nil ?_ | refine gq_then ?_ | refine gc_region ?_ | refine gq_block ?_)
    exact gq_again (R7, n + 1) ⟨by rw [hmk]; simpa only [List.append_assoc] using hR7, hln⟩ (by dsimp only; omega) ⟨rfl, rfl, rfl, rfl, rfl, rfl, rfl, rfl, inc_eq (by omega), trivial⟩ (fun w' H => H)
  intro R8 hR8
  repeat' (first | refine g_pv rfl rfl ?_ | refine g_ld 0 rfl rfl rfl rfl rfl rfl ?_ | refine gc_seq ?_ | refine gc_region ?_)
  refine g_call rfl (Cl.of Tryz.func36 rfl rfl) rfl rfl (fun w' hE => dec_sp p.main w' hp.main (h20.le (fun b o h => old_le hE b o (old_le0 _ w b o h)))) rfl (fun sm hsm => ?_)
  obtain rfl := mkB_of hsm
  repeat' (fail)
  refine g_litL rfl rfl rfl rfl rfl rfl rfl rfl rfl rfl (fun g => ?_)
  refine g_heap (R' := R8 ++ ([(g, .cells ⟨((mainW p) : List (List UInt8)).flatMap strW⟩ 9 (0, 0))] :: [[(b1, .cells ⟨p.cells⟩ 25 (0, 0))]])) (fun w H => hp_permL H List.perm_append_comm) ?_
  refine g_call1 (A := R8) (F := [(g, .cells ⟨((mainW p) : List (List UInt8)).flatMap strW⟩ 9 (0, 0))] :: [[(b1, .cells ⟨p.cells⟩ 25 (0, 0))]]) rfl rfl (Cl.of Tryz.func35 rfl rfl) rfl rfl (fun w' hE' => lineW_sp b5 _ R8 (some ⟨g, 0, none⟩) 2 2 (mainW p) w' hR8 (hp_own hE') (litW_rd (n := 2) (fz := (0, 0)) rfl (by decide) hE') (List.cons_ne_nil _ _) rfl (Nat.le_refl _) (txt_room (List.prefix_refl (prW p)) hT)) rfl ?_
  intro R9 hR9
  replace hR9 := bw_line hR9
  refine g_heap (R' := [[(b1, .cells ⟨p.cells⟩ 25 (0, 0))]] ++ R9) (fun w H => hp_back H) ?_
  have hR9 : BW b5 (txt (prW p)) R9 := hR9
  repeat' (first | refine g_pv rfl rfl ?_ | refine g_nil ?_ | refine gq_then ?_ | refine gc_seq ?_ | refine gc_region ?_)
  refine g_heap (R' := R9 ++ [[(b1, .cells ⟨p.cells⟩ 25 (0, 0))]]) (fun w H => hp_permL H List.perm_append_comm) ?_
  refine g_call1 (A := R9) (F := [[(b1, .cells ⟨p.cells⟩ 25 (0, 0))]]) rfl rfl (Cl.of Tryz.func39 rfl rfl) rfl rfl (fun w' hE' => blen_sp b5 _ R9 w' hR9 (hp_own hE')) rfl (fun _ _ => ?_)
  repeat' (first | refine g_pv rfl rfl ?_ | refine g_nil ?_ | refine gq_then ?_)
  refine gc_condC rfl (fun cl => ?_) (fun cl => ?_)
  · have cl := of_decide_eq_true cl
    repeat' (first | refine g_pv rfl rfl ?_ | refine g_nil ?_ | refine gq_then ?_ | refine gc_seq ?_ | refine gc_region ?_ | refine gc_ret ?_ | refine gq_then_ret ?_)
    refine gq_ret2 (.inr rfl) rfl rfl rfl rfl (fun w' H => ⟨(⟨#[]⟩, 2), ?_, rfl, hp_nil H⟩)
    unfold printB; rw [if_pos hq, if_pos (by omega)]; rfl
  have cl := of_decide_eq_false cl
  repeat' (first | refine g_pv rfl rfl ?_ | refine gq_then ?_ | refine gc_seq ?_ | refine gc_region ?_ | refine gc_skip ?_)
  refine g_call1 (A := R9) (F := [[(b1, .cells ⟨p.cells⟩ 25 (0, 0))]]) rfl rfl (Cl.of Tryz.func40 rfl rfl) rfl rfl (fun w' hE' => bstring_sp b5 _ R9 w' hR9 (hp_own hE') (by unfold prW; rw [txt_snoc]; unfold lnB; simp) hT) rfl (fun _ _ => ?_)
  repeat' (first | refine g_pv rfl rfl ?_ | refine g_nil ?_ | refine gq_then ?_ | refine gc_ret ?_)
  refine gq_ret2 (.inr rfl) rfl rfl rfl rfl (fun w' H => ⟨(mkB (txt (prW p)), 0), ?_, rfl, hp_nil H⟩)
  unfold printB; rw [if_pos hq, if_neg (by omega)]; rfl
end Go.Proofs.YtpohhfggmaihpaaGreatDoor

/- The document's power, temp, arg, none, same, digit, letter. -/
namespace Go.Proofs.YtpohhfggmaihpaaGreatDoor
open Go.Wk
set_option linter.unusedVariables false
set_option linter.unusedSimpArgs false
attribute [local irreducible] G GC GQ GA GS Exit.then Exit.inBlock

theorem rpower_sp (n : Int) (w : World) : Sp Tryz.prog 53 [.int .i64 n] w [] (fun b : Bool => .bool b) (fun _ => []) (fun b => b = decide (n = 1 ∨ n = 2 ∨ n = 4)) := by
  refine enter (s := Tryz.sx) [] Tryz.func53 rfl rfl rfl (Eff.refl w) ?_
  repeat' (first | refine g_pv rfl rfl ?_ | refine g_nil ?_ | refine gq_then ?_ | refine gc_seq ?_ | refine gc_region ?_)
  refine g_case (t := 5) rfl (fun h => ?_) (fun h => ?_)
  · repeat' (first | refine g_pv rfl rfl ?_ | refine g_nil ?_ | refine gq_then ?_ | refine gc_ret ?_ | refine g_no rfl rfl rfl rfl rfl ?_)
    refine gq_ret1 (.inr rfl) rfl rfl rfl (fun w' H => ⟨true, ?_, rfl, H⟩)
    simp [beq_iff_eq.1 h]
  · repeat' (first | refine g_pv rfl rfl ?_ | refine g_yes rfl rfl rfl ?_)
    refine g_case (t := 9) rfl (fun h2 => ?_) (fun h2 => ?_)
    · repeat' (first | refine g_pv rfl rfl ?_ | refine g_nil ?_ | refine gq_then ?_ | refine gc_ret ?_ | refine g_no rfl rfl rfl rfl rfl ?_)
      refine gq_ret1 (.inr rfl) rfl rfl rfl (fun w' H => ⟨true, ?_, rfl, H⟩)
      simp [beq_iff_eq.1 h2]
    · repeat' (first | refine g_pv rfl rfl ?_ | refine g_nil ?_ | refine gq_then ?_ | refine gc_ret ?_ | refine g_yes rfl rfl rfl ?_)
      refine gq_ret1 (.inr rfl) rfl rfl rfl (fun w' H => ⟨n == 4, ?_, rfl, H⟩)
      have h1 : n ≠ 1 := beq_eq_false_iff_ne.1 h
      have h3 : n ≠ 2 := beq_eq_false_iff_ne.1 h2
      simp [h1, h3, Bool.beq_eq_decide_eq]
theorem rtemp_sp (f : Fn) (d : Int) (w : World) : Sp Tryz.prog 97 [f.val, .int .i64 d] w [] (fun b : Bool => .bool b) (fun _ => []) (fun b => b = inB d f.te) := by
  refine enter (s := Tryz.sx) [] Tryz.func97 rfl rfl rfl (Eff.refl w) ?_
  repeat' (first | refine g_pv rfl rfl ?_ | refine g_nil ?_ | refine gq_then ?_ | refine gc_seq ?_ | refine gc_region ?_ | refine g_box rfl rfl (fun _ => ?_))
  refine g_case (t := 7) rfl (fun h => ?_) (fun h => ?_)
  · have h : decide (0 ≤ d) = true := h
    repeat' (first | refine g_pv rfl rfl ?_ | refine g_ld 0 rfl rfl rfl rfl rfl rfl ?_ | refine g_nil ?_ | refine gq_then ?_ | refine gc_ret ?_ | refine g_yes rfl rfl rfl ?_)
    refine gq_ret1 (.inr rfl) rfl rfl rfl (fun w' H => ⟨_, ?_, rfl, hp_nil H⟩)
    unfold inB; rw [h]; rfl
  · have h : decide (0 ≤ d) = false := h
    repeat' (first | refine g_pv rfl rfl ?_ | refine g_nil ?_ | refine gq_then ?_ | refine gc_ret ?_ | refine g_no rfl rfl rfl rfl rfl ?_)
    refine gq_ret1 (.inr rfl) rfl rfl rfl (fun w' H => ⟨_, ?_, rfl, hp_nil H⟩)
    unfold inB; rw [h]; rfl
theorem rarg_sp (f : Fn) (a : Arg) (w : World) (ha : a.ok) (hj : in64 f.te) : Sp Tryz.prog 98 [f.val, .agg a.cells.toArray] w [] (fun b : Bool => .bool b) (fun _ => []) (fun b => b = argB f.te a) := by
  refine enter (s := Tryz.sx) [] Tryz.func98 rfl rfl rfl (Eff.refl w) ?_
  repeat' (first | refine g_pv rfl rfl ?_ | refine g_ld 0 rfl rfl rfl rfl rfl rfl ?_ | refine g_nil ?_ | refine gq_then ?_ | refine gc_seq ?_ | refine gc_region ?_ | refine g_box rfl rfl (fun _ => ?_))
  refine g_case (t := 8) rfl (fun h => ?_) (fun h => ?_)
  · repeat' (first | refine g_pv rfl rfl ?_ | refine g_nil ?_ | refine gq_then ?_ | refine gc_ret ?_ | refine g_no rfl rfl rfl rfl rfl ?_)
    refine gq_ret1 (.inr rfl) rfl rfl rfl (fun w' H => ⟨true, ?_, rfl, hp_nil H⟩)
    unfold argB; rw [h]; rfl
  · repeat' (first | refine g_pv rfl rfl ?_ | refine g_ld 0 rfl rfl rfl rfl rfl rfl ?_ | refine g_yes rfl rfl rfl ?_)
    refine g_case (t := 12) rfl (fun h2 => ?_) (fun h2 => ?_)
    · repeat' (first | refine g_pv rfl rfl ?_ | refine g_ld 0 rfl rfl rfl rfl rfl rfl ?_ | refine g_ld 1 rfl rfl rfl rfl rfl rfl ?_ | refine g_nil ?_ | refine gq_then ?_ | refine gc_ret ?_ | refine g_yes rfl rfl rfl ?_)
      refine gq_ret1 (.inr rfl) rfl rfl rfl (fun w' H => ⟨_, ?_, rfl, hp_nil H⟩)
      have e1 : IntKind.u64.wrap a.n = a.n := by
        have := ha.1; have := ha.2
        simp only [IntKind.wrap, IntKind.signed, IntKind.bits]; simp; omega
      have e2 : IntKind.u64.wrap (if f.te > 0 then f.te else 0) = if f.te > 0 then f.te else 0 := by
        have := hj.1; have := hj.2
        split
        · simp only [IntKind.wrap, IntKind.signed, IntKind.bits]; simp; omega
        · rfl
      unfold argB
      rw [e1, e2, h, h2]
      simp only [Bool.false_or, Bool.true_and]
      have := ha.1
      by_cases hn : a.n < f.te
      · rw [decide_eq_true hn, decide_eq_true (by split <;> omega)]
      · rw [decide_eq_false hn, decide_eq_false (by split <;> omega)]
    · repeat' (first | refine g_pv rfl rfl ?_ | refine g_nil ?_ | refine gq_then ?_ | refine gc_ret ?_ | refine g_yes rfl rfl rfl ?_ | refine g_no rfl rfl rfl rfl rfl ?_)
      refine gq_ret1 (.inr rfl) rfl rfl rfl (fun w' H => ⟨false, ?_, rfl, hp_nil H⟩)
      unfold argB; rw [h, h2]; rfl
theorem rnone_sp (a : Arg) (w : World) : Sp Tryz.prog 101 [.agg a.cells.toArray] w [] (fun b : Bool => .bool b) (fun _ => []) (fun b => b = (a.k == 0 && a.n == 0)) := by
  refine enter (s := Tryz.sx) [] Tryz.func101 rfl rfl rfl (Eff.refl w) ?_
  repeat' (first | refine g_pv rfl rfl ?_ | refine g_ld 0 rfl rfl rfl rfl rfl rfl ?_ | refine g_nil ?_ | refine gq_then ?_ | refine gc_seq ?_ | refine gc_region ?_ | refine g_box rfl rfl (fun _ => ?_))
  refine g_p (p_build rfl rfl rfl rfl) rfl ?_
  repeat' (fail)
  refine g_p (p_eqA rfl rfl rfl rfl rfl (by kernel_rfl)) rfl ?_
  repeat' (first | refine g_pv rfl rfl ?_ | refine g_nil ?_ | refine gq_then ?_ | refine gc_ret ?_)
  exact gq_ret1 (.inr rfl) rfl rfl rfl (fun w' H => ⟨_, rfl, rfl, hp_nil H⟩)
set_option maxHeartbeats 4000000 in
theorem rsame_sp (x y : Ins) (w : World) : Sp Tryz.prog 102 [x.val, y.val] w [] (fun b : Bool => .bool b) (fun _ => []) (fun b => b = alikeB x y) := by
  refine enter (s := Tryz.sx) [] Tryz.func102 rfl rfl rfl (Eff.refl w) ?_
  repeat' (first | refine g_pv rfl rfl ?_ | refine g_ld 0 rfl rfl rfl rfl rfl rfl ?_ | refine g_ld 1 rfl rfl rfl rfl rfl rfl ?_ | refine g_nil ?_ | refine gq_then ?_ | refine gc_seq ?_ | refine gc_region ?_ | refine g_box rfl rfl (fun _ => ?_))
  refine g_case (t := 10) rfl (fun h0 => ?_) (fun h0 => ?_)
  rotate_left
  · repeat' (first | refine g_pv rfl rfl ?_ | refine g_nil ?_ | refine gq_then ?_ | refine gc_ret ?_ | refine g_no rfl rfl rfl rfl rfl ?_)
    refine gq_ret1 (.inr rfl) rfl rfl rfl (fun w' H => ⟨false, ?_, rfl, hp_nil H⟩)
    unfold alikeB; rw [h0]; rfl
  repeat' (first | refine g_pv rfl rfl ?_ | refine g_ld 0 rfl rfl rfl rfl rfl rfl ?_ | refine g_ld 1 rfl rfl rfl rfl rfl rfl ?_ | refine g_yes rfl rfl rfl ?_)
  refine g_case (t := 17) rfl (fun h1 => ?_) (fun h1 => ?_)
  rotate_left
  · repeat' (first | refine g_pv rfl rfl ?_ | refine g_nil ?_ | refine gq_then ?_ | refine gc_ret ?_ | refine g_no rfl rfl rfl rfl rfl ?_)
    refine gq_ret1 (.inr rfl) rfl rfl rfl (fun w' H => ⟨false, ?_, rfl, hp_nil H⟩)
    unfold alikeB; rw [h0, h1]; rfl
  repeat' (first | refine g_pv rfl rfl ?_ | refine g_ld 0 rfl rfl rfl rfl rfl rfl ?_ | refine g_ld 1 rfl rfl rfl rfl rfl rfl ?_ | refine g_yes rfl rfl rfl ?_)
  refine g_case (t := 24) rfl (fun h2 => ?_) (fun h2 => ?_)
  rotate_left
  · repeat' (first | refine g_pv rfl rfl ?_ | refine g_nil ?_ | refine gq_then ?_ | refine gc_ret ?_ | refine g_no rfl rfl rfl rfl rfl ?_)
    refine gq_ret1 (.inr rfl) rfl rfl rfl (fun w' H => ⟨false, ?_, rfl, hp_nil H⟩)
    unfold alikeB; rw [h0, h1, h2]; rfl
  repeat' (first | refine g_pv rfl rfl ?_ | refine g_ld 0 rfl rfl rfl rfl rfl rfl ?_ | refine g_ld 1 rfl rfl rfl rfl rfl rfl ?_ | refine g_yes rfl rfl rfl ?_)
  refine g_p (p_eqA (L := _) rfl rfl rfl rfl rfl (by kernel_rfl)) rfl ?_
  repeat' (refine g_pv rfl rfl ?_)
  refine g_case (t := 31) rfl (fun h3 => ?_) (fun h3 => ?_)
  rotate_left
  · repeat' (first | refine g_pv rfl rfl ?_ | refine g_nil ?_ | refine gq_then ?_ | refine gc_ret ?_ | refine g_no rfl rfl rfl rfl rfl ?_)
    refine gq_ret1 (.inr rfl) rfl rfl rfl (fun w' H => ⟨false, ?_, rfl, hp_nil H⟩)
    unfold alikeB; rw [h0, h1, h2, h3]; rfl
  repeat' (first | refine g_pv rfl rfl ?_ | refine g_ld 0 rfl rfl rfl rfl rfl rfl ?_ | refine g_ld 1 rfl rfl rfl rfl rfl rfl ?_ | refine g_yes rfl rfl rfl ?_)
  refine g_p (p_eqA (L := _) rfl rfl rfl rfl rfl (by kernel_rfl)) rfl ?_
  repeat' (refine g_pv rfl rfl ?_)
  refine g_case (t := 38) rfl (fun h4 => ?_) (fun h4 => ?_)
  rotate_left
  · repeat' (first | refine g_pv rfl rfl ?_ | refine g_nil ?_ | refine gq_then ?_ | refine gc_ret ?_ | refine g_no rfl rfl rfl rfl rfl ?_)
    refine gq_ret1 (.inr rfl) rfl rfl rfl (fun w' H => ⟨false, ?_, rfl, hp_nil H⟩)
    unfold alikeB; rw [h0, h1, h2, h3, h4]; rfl
  repeat' (first | refine g_pv rfl rfl ?_ | refine g_ld 0 rfl rfl rfl rfl rfl rfl ?_ | refine g_ld 1 rfl rfl rfl rfl rfl rfl ?_ | refine g_yes rfl rfl rfl ?_)
  refine g_case (t := 45) rfl (fun h5 => ?_) (fun h5 => ?_)
  rotate_left
  · repeat' (first | refine g_pv rfl rfl ?_ | refine g_nil ?_ | refine gq_then ?_ | refine gc_ret ?_ | refine g_no rfl rfl rfl rfl rfl ?_)
    refine gq_ret1 (.inr rfl) rfl rfl rfl (fun w' H => ⟨false, ?_, rfl, hp_nil H⟩)
    unfold alikeB; rw [h0, h1, h2, h3, h4, h5]; rfl
  repeat' (first | refine g_pv rfl rfl ?_ | refine g_ld 0 rfl rfl rfl rfl rfl rfl ?_ | refine g_ld 1 rfl rfl rfl rfl rfl rfl ?_ | refine g_yes rfl rfl rfl ?_)
  refine g_case (t := 52) rfl (fun h6 => ?_) (fun h6 => ?_)
  rotate_left
  · repeat' (first | refine g_pv rfl rfl ?_ | refine g_nil ?_ | refine gq_then ?_ | refine gc_ret ?_ | refine g_no rfl rfl rfl rfl rfl ?_)
    refine gq_ret1 (.inr rfl) rfl rfl rfl (fun w' H => ⟨false, ?_, rfl, hp_nil H⟩)
    unfold alikeB; rw [h0, h1, h2, h3, h4, h5, h6]; rfl
  repeat' (first | refine g_pv rfl rfl ?_ | refine g_ld 0 rfl rfl rfl rfl rfl rfl ?_ | refine g_ld 1 rfl rfl rfl rfl rfl rfl ?_ | refine g_yes rfl rfl rfl ?_)
  refine g_case (t := 59) rfl (fun h7 => ?_) (fun h7 => ?_)
  rotate_left
  · repeat' (first | refine g_pv rfl rfl ?_ | refine g_nil ?_ | refine gq_then ?_ | refine gc_ret ?_ | refine g_no rfl rfl rfl rfl rfl ?_)
    refine gq_ret1 (.inr rfl) rfl rfl rfl (fun w' H => ⟨false, ?_, rfl, hp_nil H⟩)
    unfold alikeB; rw [h0, h1, h2, h3, h4, h5, h6, h7]; rfl
  repeat' (first | refine g_pv rfl rfl ?_ | refine g_ld 0 rfl rfl rfl rfl rfl rfl ?_ | refine g_ld 1 rfl rfl rfl rfl rfl rfl ?_ | refine g_yes rfl rfl rfl ?_)
  refine g_p (p_eqB rfl rfl rfl) rfl ?_
  repeat' (first | refine g_pv rfl rfl ?_ | refine g_nil ?_ | refine gq_then ?_ | refine gc_ret ?_)
  refine gq_ret1 (.inr rfl) rfl rfl rfl (fun w' H => ⟨x.signed == y.signed, ?_, rfl, hp_nil H⟩)
  unfold alikeB; rw [h0, h1, h2, h3, h4, h5, h6, h7]; rfl
def isDig (c : Int) : Bool := decide (c ≥ 48) && decide (c ≤ 57)
def isLet (c : Int) : Bool := (decide (c ≥ 97) && decide (c ≤ 122)) || ((decide (c ≥ 65) && decide (c ≤ 90)) || c == 95)
theorem digit_sp (c : Int) (w : World) : Sp Tryz.prog 95 [.int .u8 c] w [] (fun b : Bool => .bool b) (fun _ => []) (fun b => b = isDig c) := by
  refine enter (s := Tryz.sx) [] Tryz.func95 rfl rfl rfl (Eff.refl w) ?_
  repeat' (first | refine g_pv rfl rfl ?_ | refine g_nil ?_ | refine gq_then ?_ | refine gc_seq ?_ | refine gc_region ?_)
  refine g_case (t := 5) rfl (fun h => ?_) (fun h => ?_)
  all_goals (repeat' (first | refine g_pv rfl rfl ?_ | refine g_nil ?_ | refine gq_then ?_ | refine gc_ret ?_ | refine g_yes rfl rfl rfl ?_ | refine g_no rfl rfl rfl rfl rfl ?_))
  all_goals refine gq_ret1 (.inr rfl) rfl rfl rfl (fun w' H => ⟨_, ?_, rfl, hp_nil H⟩)
  all_goals (unfold isDig; rw [h]; rfl)
theorem letter_sp (c : Int) (w : World) : Sp Tryz.prog 133 [.int .u8 c] w [] (fun b : Bool => .bool b) (fun _ => []) (fun b => b = isLet c) := by
  refine enter (s := Tryz.sx) [] Tryz.func133 rfl rfl rfl (Eff.refl w) ?_
  repeat' (first | refine g_pv rfl rfl ?_ | refine g_nil ?_ | refine gq_then ?_ | refine gc_seq ?_ | refine gc_region ?_)
  have two : ∀ (h1 : (decide (c ≥ 97) && decide (c ≤ 122)) = false) (b : Bool), b = isLet c ↔ b = ((decide (c ≥ 65) && decide (c ≤ 90)) || c == 95) := fun h1 b => by unfold isLet; rw [h1]; rfl
  refine g_case (t := 5) rfl (fun h => ?_) (fun h => ?_)
  · have h : decide (c ≥ 97) = true := h
    repeat' (first | refine g_pv rfl rfl ?_ | refine g_yes rfl rfl rfl ?_)
    refine g_case (t := 9) rfl (fun h2 => ?_) (fun h2 => ?_)
    · have h2 : decide (c ≤ 122) = true := h2
      repeat' (first | refine g_pv rfl rfl ?_ | refine g_nil ?_ | refine gq_then ?_ | refine gc_ret ?_ | refine g_no rfl rfl rfl rfl rfl ?_)
      refine gq_ret1 (.inr rfl) rfl rfl rfl (fun w' H => ⟨_, ?_, rfl, hp_nil H⟩)
      unfold isLet; rw [h, h2]; rfl
    have h2 : decide (c ≤ 122) = false := h2
    repeat' (first | refine g_pv rfl rfl ?_ | refine g_yes rfl rfl rfl ?_)
    refine g_case (t := 12) rfl (fun h3 => ?_) (fun h3 => ?_)
    · have h3 : decide (c ≥ 65) = true := h3
      repeat' (first | refine g_pv rfl rfl ?_ | refine g_yes rfl rfl rfl ?_)
      refine g_case (t := 17) rfl (fun h4 => ?_) (fun h4 => ?_)
      · have h4 : decide (c ≤ 90) = true := h4
        repeat' (first | refine g_pv rfl rfl ?_ | refine g_nil ?_ | refine gq_then ?_ | refine gc_ret ?_ | refine g_no rfl rfl rfl rfl rfl ?_)
        refine gq_ret1 (.inr rfl) rfl rfl rfl (fun w' H => ⟨_, (two (by rw [h, h2]; rfl) _).2 ?_, rfl, hp_nil H⟩)
        rw [h3, h4]; rfl
      · have h4 : decide (c ≤ 90) = false := h4
        repeat' (first | refine g_pv rfl rfl ?_ | refine g_nil ?_ | refine gq_then ?_ | refine gc_ret ?_ | refine g_yes rfl rfl rfl ?_)
        refine gq_ret1 (.inr rfl) rfl rfl rfl (fun w' H => ⟨_, (two (by rw [h, h2]; rfl) _).2 ?_, rfl, hp_nil H⟩)
        rw [h3, h4]; rfl
    · have h3 : decide (c ≥ 65) = false := h3
      repeat' (first | refine g_pv rfl rfl ?_ | refine g_nil ?_ | refine gq_then ?_ | refine gc_ret ?_ | refine g_yes rfl rfl rfl ?_ | refine g_no rfl rfl rfl rfl rfl ?_)
      refine gq_ret1 (.inr rfl) rfl rfl rfl (fun w' H => ⟨_, (two (by rw [h, h2]; rfl) _).2 ?_, rfl, hp_nil H⟩)
      rw [h3]; rfl
  · have h : decide (c ≥ 97) = false := h
    repeat' (first | refine g_pv rfl rfl ?_ | refine g_yes rfl rfl rfl ?_ | refine g_no rfl rfl rfl rfl rfl ?_)
    repeat' (fail)
    refine g_case (t := 12) rfl (fun h3 => ?_) (fun h3 => ?_)
    · have h3 : decide (c ≥ 65) = true := h3
      repeat' (first | refine g_pv rfl rfl ?_ | refine g_yes rfl rfl rfl ?_)
      refine g_case (t := 17) rfl (fun h4 => ?_) (fun h4 => ?_)
      · have h4 : decide (c ≤ 90) = true := h4
        repeat' (first | refine g_pv rfl rfl ?_ | refine g_nil ?_ | refine gq_then ?_ | refine gc_ret ?_ | refine g_no rfl rfl rfl rfl rfl ?_)
        refine gq_ret1 (.inr rfl) rfl rfl rfl (fun w' H => ⟨_, (two (by rw [h]; rfl) _).2 ?_, rfl, hp_nil H⟩)
        rw [h3, h4]; rfl
      · have h4 : decide (c ≤ 90) = false := h4
        repeat' (first | refine g_pv rfl rfl ?_ | refine g_nil ?_ | refine gq_then ?_ | refine gc_ret ?_ | refine g_yes rfl rfl rfl ?_)
        refine gq_ret1 (.inr rfl) rfl rfl rfl (fun w' H => ⟨_, (two (by rw [h]; rfl) _).2 ?_, rfl, hp_nil H⟩)
        rw [h3, h4]; rfl
    · have h3 : decide (c ≥ 65) = false := h3
      repeat' (first | refine g_pv rfl rfl ?_ | refine g_nil ?_ | refine gq_then ?_ | refine gc_ret ?_ | refine g_yes rfl rfl rfl ?_ | refine g_no rfl rfl rfl rfl rfl ?_)
      refine gq_ret1 (.inr rfl) rfl rfl rfl (fun w' H => ⟨_, (two (by rw [h]; rfl) _).2 ?_, rfl, hp_nil H⟩)
      rw [h3]; rfl
end Go.Proofs.YtpohhfggmaihpaaGreatDoor

/- The document's Word and Tag. -/
namespace Go.Proofs.YtpohhfggmaihpaaGreatDoor
open Go.Wk
set_option linter.unusedVariables false
set_option linter.unusedSimpArgs false
attribute [local irreducible] G GC GQ GA GS Exit.then Exit.inBlock

set_option maxRecDepth 100000 in
theorem bad0_all : ((List.range 256).all fun n => badC 0 (n : Int) == !isLet (n : Int)) = true := by kernel_rfl
set_option maxRecDepth 100000 in
theorem bad1_all : ((List.range 256).all fun n => badC 1 (n : Int) == !(isLet (n : Int) || isDig (n : Int))) = true := by kernel_rfl
theorem badC_succ (i : Nat) (c : Int) : badC (i + 1) c = badC 1 c := by
  have h : (((i + 1 : Nat) : Int) == 0) = ((1 : Int) == 0) := by
    rw [show ((1 : Int) == 0) = false from rfl]
    exact beq_eq_false_iff_ne.2 (by omega)
  unfold badC
  rw [h]; rfl
theorem bad0 (c : UInt8) : badC 0 c.toNat = !isLet c.toNat := beq_iff_eq.1 (List.all_eq_true.1 bad0_all c.toNat (List.mem_range.2 c.toNat_lt))
theorem bad1 (i : Nat) (c : UInt8) : badC (i + 1) c.toNat = !(isLet c.toNat || isDig c.toNat) := by
  rw [badC_succ]
  exact beq_iff_eq.1 (List.all_eq_true.1 bad1_all c.toNat (List.mem_range.2 c.toNat_lt))
theorem letters_yes {s : ByteArray} (h0 : (bytesL s).length ≠ 0) (h1 : (bytesL s).length ≤ 63) (h : ∀ i, i < (bytesL s).length → badC i (((bytesL s)[i]?).getD 0).toNat = false) : lettersB s = true := by
  unfold lettersB
  have e1 : (bytesL s).isEmpty = false := by
    cases hq : bytesL s with
    | nil => rw [hq] at h0; exact absurd rfl h0
    | cons a r => rfl
  have e2 : ((List.range (bytesL s).length).all fun i => !badC i (((bytesL s)[i]?).getD 0).toNat) = true := List.all_eq_true.2 (fun i hi => by rw [h i (List.mem_range.1 hi)]; rfl)
  rw [e1, decide_eq_true h1, e2]; rfl
theorem letters_no {s : ByteArray} {i : Nat} {c : UInt8} (hx : (bytesL s)[i]? = some c) (h : badC i c.toNat = true) : lettersB s = false := by
  unfold lettersB
  have : ((List.range (bytesL s).length).all fun i => !badC i (((bytesL s)[i]?).getD 0).toNat) = false := by
    cases hq : ((List.range (bytesL s).length).all fun i => !badC i (((bytesL s)[i]?).getD 0).toNat) with
    | false => rfl
    | true =>
      have := List.all_eq_true.1 hq i (List.mem_range.2 (List.getElem?_eq_some_iff.1 hx).1)
      rw [hx, Option.getD_some, h] at this; cases this
  rw [this]; simp
theorem word_sp (s : ByteArray) (w : World) : Sp Tryz.prog 94 [.string s] w [] (fun b : Bool => .bool b) (fun _ => []) (fun b => b = lettersB s) := by
  have hsz := size_bytesL s
  refine enter (s := Tryz.sx) [] Tryz.func94 rfl rfl rfl (Eff.refl w) ?_
  repeat' (first | refine g_pv rfl rfl ?_ | refine g_nil ?_ | refine gq_then ?_ | refine gc_seq ?_ | refine gc_region ?_)
  refine g_case (t := 7) rfl (fun h1 => ?_) (fun h1 => ?_)
  · have h2 := of_decide_eq_true h1
    repeat' (first | refine g_pv rfl rfl ?_ | refine g_nil ?_ | refine gq_then ?_ | refine gc_seq ?_ | refine gc_region ?_ | refine gc_cond_t rfl ?_ | refine gc_ret ?_ | refine gq_then_ret ?_ | refine g_no rfl rfl rfl rfl rfl ?_)
    refine gq_ret1 (.inr rfl) rfl rfl rfl (fun w' H => ⟨false, ?_, rfl, hp_nil H⟩)
    have : (bytesL s).isEmpty = true := by
      cases hq : bytesL s with
      | nil => rfl
      | cons a r => rw [hq] at hsz; simp at hsz; omega
    unfold lettersB; rw [this]; rfl
  have h2 := of_decide_eq_false h1
  repeat' (first | refine g_pv rfl rfl ?_ | refine g_yes rfl rfl rfl ?_)
  refine g_case (t := 12) rfl (fun h3 => ?_) (fun h3 => ?_)
  · have h4 := of_decide_eq_true h3
    repeat' (first | refine g_pv rfl rfl ?_ | refine g_nil ?_ | refine gq_then ?_ | refine gc_seq ?_ | refine gc_region ?_ | refine gc_cond_t rfl ?_ | refine gc_ret ?_ | refine gq_then_ret ?_ | refine g_no rfl rfl rfl rfl rfl ?_)
    refine gq_ret1 (.inr rfl) rfl rfl rfl (fun w' H => ⟨false, ?_, rfl, hp_nil H⟩)
    unfold lettersB; rw [decide_eq_false (by omega)]; simp
  have h4 := of_decide_eq_false h3
  have hx0 : (bytesL s)[0]? = some ((bytesL s)[0]'(by omega)) := List.getElem?_eq_getElem (by omega)
  generalize (bytesL s)[0]'(by omega) = c0 at hx0
  repeat' (first | refine g_pv rfl rfl ?_ | refine g_yes rfl rfl rfl ?_)
  refine g_p (p_idxT rfl rfl rfl (Int.le_refl 0) hx0) rfl ?_
  repeat' (refine g_yes rfl rfl rfl ?_)
  refine g_call rfl (Cl.of Tryz.func133 rfl rfl) rfl rfl (fun w' hE => letter_sp c0.toNat w') rfl ?_
  rintro b0 hb0
  repeat' (first | refine g_pv rfl rfl ?_ | refine g_nil ?_ | refine gq_then ?_ | refine g_yes rfl rfl rfl ?_)
  cases b0
  · repeat' (first | refine g_pv rfl rfl ?_ | refine g_nil ?_ | refine gq_then ?_ | refine gc_seq ?_ | refine gc_region ?_ | refine gc_cond_t rfl ?_ | refine gc_ret ?_ | refine gq_then_ret ?_)
    refine gq_ret1 (.inr rfl) rfl rfl rfl (fun w' H => ⟨false, ?_, rfl, hp_nil H⟩)
    rw [letters_no hx0 (by rw [bad0, ← hb0]; rfl)]
  repeat' (first | refine g_pv rfl rfl ?_ | refine g_nil ?_ | refine gq_then ?_ | refine gc_seq ?_ | refine gc_region ?_ | refine gc_block ?_ | refine gc_cond_f rfl ?_ | refine gc_skip ?_)
  refine gc_loop (Y := Nat) (fun y => 1 ≤ y ∧ y ≤ (bytesL s).length ∧ ∀ i, i < y → badC i (((bytesL s)[i]?).getD 0).toNat = false)
    (fun y => [(0, .string s), (3, .int .i64 y)]) (fun y => [])
    (fun y => (bytesL s).length - y) 1 ⟨Nat.le_refl _, by omega, fun i hi => by
      have : i = 0 := by omega
      subst this
      rw [hx0, Option.getD_some, bad0, ← hb0]; rfl⟩ ⟨rfl, rfl, trivial⟩ (fun w' H => hp_nil H) ?_
  rintro k ⟨hk1, hk, hb⟩
  dsimp only at hk1 hk hb ⊢
  repeat' (first | refine g_pv rfl rfl ?_ | refine g_nil ?_ | refine gq_then ?_ | refine gc_seq ?_ | refine gc_region ?_)
  refine gc_condC rfl (fun hc => ?_) (fun hc => ?_)
  rotate_left
  · have hge : k = (bytesL s).length := by have := of_decide_eq_false hc; omega
    repeat' (first | refine g_pv rfl rfl ?_ | refine g_nil ?_ | refine gq_then ?_ | refine gc_seq ?_ | refine gc_region ?_ | refine gc_exit ?_ | refine gc_ret ?_ | refine gq_then_exit ?_ | refine gq_block_exit ?_)
    refine gq_ret1 (.inr rfl) rfl rfl rfl (fun w' H => ⟨true, ?_, rfl, hp_nil H⟩)
    rw [letters_yes (by omega) (by omega) (by rw [← hge]; exact hb)]
  have hlt : k < (bytesL s).length := by have := of_decide_eq_true hc; omega
  have hx : (bytesL s)[k]? = some ((bytesL s)[k]) := List.getElem?_eq_getElem hlt
  generalize (bytesL s)[k] = c at hx
  obtain ⟨k', rfl⟩ : ∃ k', k = k' + 1 := ⟨k - 1, by omega⟩
  have again : (isLet c.toNat || isDig c.toNat) = true → ∀ i, i < k' + 1 + 1 → badC i (((bytesL s)[i]?).getD 0).toNat = false := fun h i hi => by
    rcases Nat.lt_succ_iff_lt_or_eq.1 hi with h6 | h6
    · exact hb i h6
    · subst h6; rw [hx, Option.getD_some, bad1, h]; rfl
  repeat' (first | refine g_pv rfl rfl ?_ | refine gq_then ?_ | refine gc_seq ?_ | refine gc_region ?_ | refine gc_block ?_ | refine gc_skip ?_)
  refine g_p (p_idxT rfl rfl rfl (Int.natCast_nonneg _) hx) rfl ?_
  repeat' (fail)
  refine g_call rfl (Cl.of Tryz.func133 rfl rfl) rfl rfl (fun w' hE => letter_sp c.toNat w') rfl ?_
  rintro b1 hb1
  repeat' (refine g_pv rfl rfl ?_)
  cases b1
  · repeat' (first | refine g_pv rfl rfl ?_ | refine g_yes rfl rfl rfl ?_)
    refine g_p (p_idxT rfl rfl rfl (Int.natCast_nonneg _) hx) rfl ?_
    repeat' (refine g_yes rfl rfl rfl ?_)
    refine g_call rfl (Cl.of Tryz.func95 rfl rfl) rfl rfl (fun w' hE => digit_sp c.toNat w') rfl ?_
    rintro b2 hb2
    repeat' (first | refine g_pv rfl rfl ?_ | refine g_nil ?_ | refine gq_then ?_ | refine g_yes rfl rfl rfl ?_)
    cases b2
    · repeat' (first | refine g_pv rfl rfl ?_ | refine g_nil ?_ | refine gq_then ?_ | refine gc_seq ?_ | refine gc_region ?_ | refine gc_cond_t rfl ?_ | refine gc_ret ?_ | refine gq_then_ret ?_ | refine gq_block_ret ?_)
      refine gq_ret1 (.inr rfl) rfl rfl rfl (fun w' H => ⟨false, ?_, rfl, hp_nil H⟩)
      rw [letters_no hx (by rw [bad1, ← hb1, ← hb2]; rfl)]
    · repeat' (first | refine g_pv rfl rfl ?_ | refine g_nil ?_ | refine gq_then ?_ | refine gc_region ?_ | refine gc_cond_f rfl ?_ | refine gc_skip ?_ | refine gq_block ?_)
      exact gq_again (k' + 1 + 1) ⟨by omega, hlt, again (by rw [← hb1, ← hb2]; rfl)⟩ (by omega) ⟨rfl, inc_eq (by omega), trivial⟩ (fun w' H => hp_nil H)
  · repeat' (first | refine g_pv rfl rfl ?_ | refine g_nil ?_ | refine gq_then ?_ | refine gc_region ?_ | refine gc_cond_f rfl ?_ | refine gc_skip ?_ | refine gq_block ?_ | refine g_no rfl rfl rfl rfl rfl ?_)
    exact gq_again (k' + 1 + 1) ⟨by omega, hlt, again (by rw [← hb1]; rfl)⟩ (by omega) ⟨rfl, inc_eq (by omega), trivial⟩ (fun w' H => hp_nil H)
end Go.Proofs.YtpohhfggmaihpaaGreatDoor

/- The document's Tag. -/
namespace Go.Proofs.YtpohhfggmaihpaaGreatDoor
open Go.Wk
set_option linter.unusedVariables false
set_option linter.unusedSimpArgs false
attribute [local irreducible] G GC GQ GA GS Exit.then Exit.inBlock

set_option maxRecDepth 100000 in
theorem dig_all : ((List.range 256).all fun n => digits10.contains (UInt8.ofNat n) == isDig (n : Int)) = true := by kernel_rfl
theorem dig_eq (c : UInt8) : digits10.contains c = isDig c.toNat := by
  have := beq_iff_eq.1 (List.all_eq_true.1 dig_all c.toNat (List.mem_range.2 c.toNat_lt))
  rwa [UInt8.ofNat_toNat] at this
theorem dropWhile_nil {p : UInt8 → Bool} : ∀ (l : List UInt8), l.dropWhile p = [] ↔ ∀ x ∈ l, p x = true
  | [] => by simp
  | a :: r => by
    rw [List.dropWhile_cons]
    cases h : p a with
    | true => simp [h, dropWhile_nil r]
    | false => simp [h]
theorem dropWhile_mem {p : UInt8 → Bool} {x : UInt8} (hx : p x = false) : ∀ {l : List UInt8}, x ∈ l → x ∈ l.dropWhile p
  | [], h => by cases h
  | a :: r, h => by
    rw [List.dropWhile_cons]
    cases ha : p a with
    | true =>
      rcases List.mem_cons.1 h with rfl | h
      · rw [hx] at ha; cases ha
      · simpa [ha] using dropWhile_mem hx h
    | false => simpa [ha] using h
theorem trimS_nil (r : List UInt8) : (Lib.trimS r digits10).isEmpty = r.all fun c => isDig c.toNat := by
  have e : (fun c : UInt8 => digits10.contains c) = fun c => isDig c.toNat := funext dig_eq
  unfold Lib.trimS Lib.trimLeftS Lib.trimRightS
  rw [e]
  cases h : r.all fun c => isDig c.toNat with
  | true =>
    have h1 : r.reverse.dropWhile (fun c => isDig c.toNat) = [] := (dropWhile_nil _).2 (fun x hx => List.all_eq_true.1 h x (List.mem_reverse.1 hx))
    rw [h1]; rfl
  | false =>
    cases hq : (List.dropWhile (fun c => isDig c.toNat) (List.dropWhile (fun c => isDig c.toNat) r.reverse).reverse) with
    | cons a t => rfl
    | nil =>
      have h2 := (dropWhile_nil _).1 hq
      have h3 : r.all (fun c => isDig c.toNat) = true := List.all_eq_true.2 (fun x hx => by
        cases hp : isDig x.toNat with
        | true => rfl
        | false =>
          have h4 := h2 x (List.mem_reverse.2 (dropWhile_mem (p := fun c : UInt8 => isDig c.toNat) hp (List.mem_reverse.2 hx)))
          rw [hp] at h4; cases h4)
      rw [h3] at h; cases h
theorem pre_cons {l : List UInt8} : Lib.hasPrefix l [35] = true ↔ ∃ r, l = 35 :: r := by
  unfold Lib.hasPrefix
  cases l with
  | nil => exact ⟨fun h => (by cases h), fun ⟨q, h⟩ => (by cases h)⟩
  | cons a r =>
    constructor
    · intro h
      have h1 : ((35 : UInt8) == a) = true := by
        have h2 : ((35 : UInt8) == a && List.isPrefixOf [] r) = true := h
        simp only [Bool.and_eq_true] at h2
        exact h2.1
      exact ⟨r, by rw [← beq_iff_eq.1 h1]⟩
    · rintro ⟨q, h⟩
      cases h
      show ((35 : UInt8) == 35 && true) = true
      rfl
theorem tag_word {s : ByteArray} (h : (bytesL s).length < 2 ∨ (bytesL s).length > 10 ∨ ∀ r, bytesL s ≠ 35 :: r) : tagB s = lettersB s := by
  cases hp : Lib.hasPrefix (bytesL s) [35] with
  | false => unfold tagB; rw [hp, if_neg (by decide)]
  | true =>
    obtain ⟨r, hr⟩ := pre_cons.1 hp
    have h1 : lettersB s = false := letters_no (i := 0) (c := 35) (by rw [hr]; rfl) (by rw [bad0]; rfl)
    have h2 : Lib.trimPrefix (bytesL s) [35] = r := by unfold Lib.trimPrefix; rw [hp, if_pos rfl, hr]; rfl
    rw [h1]
    unfold tagB
    rw [hp, if_pos rfl, h2]
    rw [hr] at h
    rcases h with h | h | h
    · have : r = [] := by cases r with
        | nil => rfl
        | cons a t => simp only [List.length_cons] at h; omega
      rw [this]; rfl
    · have : decide (r.length ≤ 9) = false := decide_eq_false (by simp at h; omega)
      rw [this]; simp
    · exact absurd rfl (h r)
theorem tag_dig {s : ByteArray} {r : List UInt8} (hr : bytesL s = 35 :: r) (h0 : r ≠ []) (h1 : r.length ≤ 9) : tagB s = r.all fun c => isDig c.toNat := by
  have hp : Lib.hasPrefix (bytesL s) [35] = true := pre_cons.2 ⟨r, hr⟩
  have h2 : Lib.trimPrefix (bytesL s) [35] = r := by unfold Lib.trimPrefix; rw [hp, if_pos rfl, hr]; rfl
  have h3 : r.isEmpty = false := by
    cases r with
    | nil => exact absurd rfl h0
    | cons a t => rfl
  unfold tagB
  rw [hp, if_pos rfl, h2, h3, decide_eq_true h1, trimS_nil]; rfl
theorem rtag_sp (s : ByteArray) (w : World) : Sp Tryz.prog 52 [.string s] w [] (fun b : Bool => .bool b) (fun _ => []) (fun b => b = tagB s) := by
  have hsz := size_bytesL s
  refine enter (s := Tryz.sx) [] Tryz.func52 rfl rfl rfl (Eff.refl w) ?_
  repeat' (first | refine g_pv rfl rfl ?_ | refine g_nil ?_ | refine gq_then ?_ | refine gc_seq ?_ | refine gc_region ?_)
  refine g_case (t := 7) rfl (fun h1 => ?_) (fun h1 => ?_)
  · have h2 := of_decide_eq_true h1
    repeat' (first | refine g_pv rfl rfl ?_ | refine g_nil ?_ | refine gq_then ?_ | refine gc_seq ?_ | refine gc_region ?_ | refine gc_cond_t rfl ?_ | refine g_no rfl rfl rfl rfl rfl ?_)
    refine g_call rfl (Cl.of Tryz.func94 rfl rfl) rfl rfl (fun w' hE => word_sp s w') rfl ?_
    rintro b hb
    repeat' (first | refine g_pv rfl rfl ?_ | refine g_nil ?_ | refine gq_then ?_ | refine gc_ret ?_ | refine gq_then_ret ?_)
    exact gq_ret1 (.inr rfl) rfl rfl rfl (fun w' H => ⟨b, by rw [hb, tag_word (.inl (by omega))], rfl, hp_nil H⟩)
  have h2 := of_decide_eq_false h1
  repeat' (first | refine g_pv rfl rfl ?_ | refine g_yes rfl rfl rfl ?_)
  refine g_case (t := 12) rfl (fun h3 => ?_) (fun h3 => ?_)
  · have h4 := of_decide_eq_true h3
    repeat' (first | refine g_pv rfl rfl ?_ | refine g_nil ?_ | refine gq_then ?_ | refine gc_seq ?_ | refine gc_region ?_ | refine gc_cond_t rfl ?_ | refine g_no rfl rfl rfl rfl rfl ?_)
    refine g_call rfl (Cl.of Tryz.func94 rfl rfl) rfl rfl (fun w' hE => word_sp s w') rfl ?_
    rintro b hb
    repeat' (first | refine g_pv rfl rfl ?_ | refine g_nil ?_ | refine gq_then ?_ | refine gc_ret ?_ | refine gq_then_ret ?_)
    exact gq_ret1 (.inr rfl) rfl rfl rfl (fun w' H => ⟨b, by rw [hb, tag_word (.inr (.inl (by omega)))], rfl, hp_nil H⟩)
  have h4 := of_decide_eq_false h3
  obtain ⟨c0, r, hr⟩ : ∃ c0 r, bytesL s = c0 :: r := by
    cases hq : bytesL s with
    | nil => rw [hq] at hsz; have h9 : s.size = 0 := hsz; omega
    | cons a t => exact ⟨a, t, rfl⟩
  have hx0 : s.data.toList[0]? = some c0 := by
    have : (bytesL s)[0]? = some c0 := by rw [hr]; rfl
    exact this
  have hlen : s.size = r.length + 1 := by rw [hsz, hr]; rfl
  repeat' (first | refine g_pv rfl rfl ?_ | refine g_yes rfl rfl rfl ?_)
  refine g_p (p_idxT rfl rfl rfl (Int.le_refl 0) hx0) rfl ?_
  repeat' (first | refine g_pv rfl rfl ?_ | refine g_nil ?_ | refine gq_then ?_ | refine g_yes rfl rfl rfl ?_)
  refine gc_condC rfl (fun h5 => ?_) (fun h5 => ?_)
  · repeat' (first | refine g_pv rfl rfl ?_ | refine gc_seq ?_ | refine gc_region ?_)
    refine g_call rfl (Cl.of Tryz.func94 rfl rfl) rfl rfl (fun w' hE => word_sp s w') rfl ?_
    rintro b hb
    repeat' (first | refine g_pv rfl rfl ?_ | refine g_nil ?_ | refine gq_then ?_ | refine gc_ret ?_ | refine gq_then_ret ?_)
    refine gq_ret1 (.inr rfl) rfl rfl rfl (fun w' H => ⟨b, ?_, rfl, hp_nil H⟩)
    rw [hb, tag_word (.inr (.inr (fun r' he => ?_)))]
    rw [hr] at he
    cases he
    exact absurd h5 (by decide)
  have hc0 : c0 = 35 := by
    have h6 : ((c0.toNat : Int) == 35) = true := by simpa using h5
    have h7 : c0.toNat = 35 := by have := beq_iff_eq.1 h6; omega
    exact UInt8.toNat_inj.1 (by rw [h7]; rfl)
  subst hc0
  have hr0 : r ≠ [] := fun he => by rw [he] at hlen; simp at hlen; omega
  have hT := tag_dig hr hr0 (by omega)
  repeat' (first | refine g_pv rfl rfl ?_ | refine g_nil ?_ | refine gq_then ?_ | refine gc_seq ?_ | refine gc_region ?_ | refine gc_block ?_ | refine gc_skip ?_)
  refine gc_loop (Y := Nat) (fun y => y ≤ r.length ∧ (r.take y).all (fun c => isDig c.toNat) = true)
    (fun y => [(0, .string s), (3, .int .i64 ((y + 1 : Nat) : Int))]) (fun y => [])
    (fun y => r.length - y) 0 ⟨Nat.zero_le _, rfl⟩ ⟨rfl, rfl, trivial⟩ (fun w' H => hp_nil H) ?_
  rintro k ⟨hk, hb⟩
  dsimp only at hk hb ⊢
  repeat' (first | refine g_pv rfl rfl ?_ | refine g_nil ?_ | refine gq_then ?_ | refine gc_seq ?_ | refine gc_region ?_)
  refine gc_condC rfl (fun hc => ?_) (fun hc => ?_)
  rotate_left
  · have hge : k = r.length := by have := of_decide_eq_false hc; omega
    repeat' (first | refine g_pv rfl rfl ?_ | refine g_nil ?_ | refine gq_then ?_ | refine gc_seq ?_ | refine gc_region ?_ | refine gc_exit ?_ | refine gc_ret ?_ | refine gq_then_exit ?_ | refine gq_block_exit ?_)
    refine gq_ret1 (.inr rfl) rfl rfl rfl (fun w' H => ⟨true, ?_, rfl, hp_nil H⟩)
    rw [hge, List.take_length] at hb
    rw [hT, hb]
  have hlt : k < r.length := by have := of_decide_eq_true hc; omega
  have hxk : r[k]? = some (r[k]) := List.getElem?_eq_getElem hlt
  have htk : r.take (k + 1) = r.take k ++ [r[k]] := List.take_succ_eq_append_getElem hlt
  have hmk : r[k] ∈ r := List.getElem_mem hlt
  generalize r[k] = c at hxk htk hmk
  have hx : s.data.toList[((k + 1 : Nat) : Int).toNat]? = some c := by
    have : (bytesL s)[k + 1]? = some c := by rw [hr]; simpa using hxk
    exact this
  repeat' (first | refine g_pv rfl rfl ?_ | refine gq_then ?_ | refine gc_seq ?_ | refine gc_region ?_ | refine gc_block ?_ | refine gc_skip ?_)
  refine g_p (p_idxT rfl rfl rfl (Int.natCast_nonneg _) hx) rfl ?_
  repeat' (fail)
  refine g_call rfl (Cl.of Tryz.func95 rfl rfl) rfl rfl (fun w' hE => digit_sp c.toNat w') rfl ?_
  rintro b1 hb1
  repeat' (first | refine g_pv rfl rfl ?_ | refine g_nil ?_ | refine gq_then ?_)
  cases b1
  · repeat' (first | refine g_pv rfl rfl ?_ | refine g_nil ?_ | refine gq_then ?_ | refine gc_seq ?_ | refine gc_region ?_ | refine gc_cond_t rfl ?_ | refine gc_ret ?_ | refine gq_then_ret ?_ | refine gq_block_ret ?_)
    refine gq_ret1 (.inr rfl) rfl rfl rfl (fun w' H => ⟨false, ?_, rfl, hp_nil H⟩)
    have : r.all (fun c => isDig c.toNat) = false := by
      cases hq : r.all (fun c => isDig c.toNat) with
      | false => rfl
      | true => have := List.all_eq_true.1 hq c hmk; rw [← hb1] at this; cases this
    rw [hT, this]
  · repeat' (first | refine g_pv rfl rfl ?_ | refine g_nil ?_ | refine gq_then ?_ | refine gc_region ?_ | refine gc_cond_f rfl ?_ | refine gc_skip ?_ | refine gq_block ?_)
    refine gq_again (k + 1) ⟨hlt, ?_⟩ (by omega) ⟨rfl, inc_eq (by omega), trivial⟩ (fun w' H => hp_nil H)
    rw [htk, List.all_append, hb]; simp [← hb1]
end Go.Proofs.YtpohhfggmaihpaaGreatDoor
