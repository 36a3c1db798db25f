/-
  tac's Print.
  The shelf's numbers of strconv.ParseUint, strconv.Atoi, strings.Split, TrimSuffix, IndexByte at this translation, as the kit's lay-plain wrote them.
  Numbers written and read again; words put together and cut again.
  Strings cut, interfaces that hold nothing.
  tac's reader: the library's calls, must, next, num, maybe, temp, arg.
  tac's reader: maybe, operations; what a line's first word tells.
-/
import Derived.Test.YtpohhfggmaihpaaGreatDoorZ13
import Derived.Shelf.Strconv.Atoi
import Derived.Ground.MpProg
import Derived.Shelf.Pu.ParseUintPublic10
import Derived.Shelf.Strings.Search1
import Derived.Shelf.Strings.Prefix
import Derived.Shelf.Strings.Split
import Derived.Shelf.Strings.SplitShaped
import Derived.Ground.Names2Prog
import Derived.Test.YtpohhfggmaihpaaGreatDoorProg
import Derived.Test.YtpohhfggmaihpaaGreatDoorZ12
import Derived.Laws.Slices

/- tac's Print. -/
namespace Go.Proofs.YtpohhfggmaihpaaGreatDoor
open Go.Wk
set_option linter.unusedVariables false
set_option linter.unusedSimpArgs false
attribute [local irreducible] G GC GQ GA GS Exit.then Exit.inBlock

theorem bw_line {b : Nat} {L : List (List Bs)} {W : List Bs} {R : RL} (h : BW b (txt L ++ (Lib.join W [32] ++ [10])) R) : BW b (txt (L ++ [W])) R := by rw [txt_snoc]; exact h
theorem hp_back {X : Cx} {w : World} {R F : RL} {A : HL} (H : Hp X w (R ++ (A :: F))) : Hp X w (F ++ R) := by
  unfold Hp at H ⊢
  refine Eff.sel H A ?_
  rw [List.flatten_append, List.flatten_append, List.flatten_cons]
  exact List.perm_append_comm.trans ((List.Perm.of_eq (by rw [List.append_assoc])).trans List.perm_append_comm)
theorem perm_mid2 {α : Type} {a : α} {W R : List α} : (R ++ (a :: W)).Perm (W ++ (a :: R)) := List.perm_middle.trans ((List.Perm.cons _ List.perm_append_comm).trans List.perm_middle.symm)
theorem neT_nil (l : Bs) : ((mkB l).toList != (⟨#[]⟩ : ByteArray).toList) = !decide (l = []) := by
  rw [bne, empT']; rfl
theorem pre_snoc {α : Type} {f : α → List Bs} {l : List α} {i : Nat} {x : α} (h : l[i]? = some x) : (l.take i).map f ++ [f x] <+: l.map f := by
  have e : (l.take i).map f ++ [f x] = (l.take (i + 1)).map f := by rw [List.take_add_one, h, List.map_append]; rfl
  rw [e]
  exact (List.take_prefix _ _).map f
theorem map_snoc {α : Type} {f : α → List Bs} {l : List α} {i : Nat} {x : α} (h : l[i]? = some x) : (l.take (i + 1)).map f = (l.take i).map f ++ [f x] := by rw [List.take_add_one, h, List.map_append]; rfl
def printB (p : Pr) : Bs × Int := if checkB p = true then (if (txt (prW p)).length > 1048576 then ([], 2) else (txt (prW p), 0)) else ([], 130)
set_option maxHeartbeats 64000000 in
theorem print_sp (p : Pr) (w : World) (hp : PrIn (hw w) p) (h20 : Pow20 (hw w)) : Sp Tryz.prog 20 [p.val] w [] (fun y : ByteArray × Int => .tuple #[.string y.1, .int .i64 y.2]) (fun _ => []) (fun y => (bytesL y.1, y.2) = printB p) := by
  refine enter (s := Tryz.sx) [] Tryz.func20 rfl rfl rfl (Eff.refl w) ?_
  refine gc_seq ?_
  repeat' (first | refine g_pv rfl rfl ?_ | refine g_nil ?_ | refine gq_then ?_ | refine gc_region ?_ | refine g_box rfl rfl (fun _ => ?_))
  rename_i b1
  repeat' (first | refine g_ld 0 rfl rfl rfl rfl rfl rfl ?_ | refine gc_seq ?_ | refine gc_region ?_)
  refine g_call rfl (Cl.of Tryz.func8 rfl rfl) rfl rfl (fun w' hE => check_sp p w' (hp.le (fun b o h => old_le hE b o (old_le0 _ w b o h)))) rfl ?_
  rintro _ rfl
  cases hq : checkB p
  · repeat' (first | refine g_pv rfl rfl ?_ | refine g_nil ?_ | refine gq_then ?_ | refine gc_seq ?_ | refine gc_region ?_ | refine gc_cond_t rfl ?_ | refine gc_ret ?_ | refine gq_then_ret ?_)
    refine gq_ret2 (.inr rfl) rfl rfl rfl rfl (fun w' H => ⟨(⟨#[]⟩, 130), ?_, rfl, hp_nil H⟩)
    unfold printB; rw [hq]; rfl
  have hPP := check_PP hq
  have hT : (txt (prW p)).length ≤ 1099511627776 := Nat.le_trans (txt_len hp hPP) (by decide)
  refine g_heap (R' := [[(b1, .cells ⟨p.cells⟩ 25 (0, 0))]]) (fun w H => H) ?_
  repeat' (first | refine g_pv rfl rfl ?_ | refine g_nil ?_ | refine gq_then ?_)
  refine gc_seq ?_
  repeat' (first | refine g_pv rfl rfl ?_ | refine g_nil ?_ | refine gq_then ?_ | refine gc_region ?_ | refine gc_cond_f rfl ?_ | refine gc_skip ?_)
  refine gc_seq ?_
  repeat' (first | refine g_nil ?_ | refine gq_then ?_ | refine gc_region ?_ | refine g_alloc rfl rfl (fun _ => ?_))
  rename_i b5
  have hB0 : BW b5 (txt ((p.obs.take 0).flatMap obW)) [[(b5, .cells ⟨[.pointer none, .slice none 0 0]⟩ 84 (0, 0))], []] := ⟨none, _, [], .inl rfl, rfl, rfl, .inl ⟨rfl, rfl, rfl⟩⟩
  refine gc_heap (R' := [[(b1, .cells ⟨p.cells⟩ 25 (0, 0))]] ++ [[(b5, .cells ⟨[.pointer none, .slice none 0 0]⟩ 84 (0, 0))], []]) (fun w H => hp_perm H (by simp only [List.flatten_cons, List.cons_append, List.nil_append, List.flatten_nil]; exact List.Perm.swap _ _ _)) ?_
  generalize [[(b5, Obj.cells ⟨[.pointer none, .slice none 0 0]⟩ 84 (0, 0))], []] = R0 at hB0 ⊢

  refine gc_cut (Y := RL) (fun R => BW b5 (txt (p.obs.flatMap obW)) R) (fun _ => [(1, .pointer (some ⟨b1, 0, none⟩)), (5, .pointer (some ⟨b5, 0, none⟩))]) (fun R => [[(b1, .cells ⟨p.cells⟩ 25 (0, 0))]] ++ R) ?_ ?_
  · repeat' (first | refine g_pv rfl rfl ?_ | refine g_ld 0 rfl rfl rfl rfl rfl rfl ?_ | refine g_nil ?_ | refine gq_then ?_ | refine gc_seq ?_ | refine gc_region ?_ | refine gc_block ?_)
    refine gc_loop (Y := RL × Nat) (fun y => BW b5 (txt ((p.obs.take y.2).flatMap obW)) y.1 ∧ y.2 ≤ p.obs.length) (fun y => [(1, .pointer (some ⟨b1, 0, none⟩)), (5, .pointer (some ⟨b5, 0, none⟩)), (24, .slice p.oA p.obs.length p.oC), (25, .int .i64 p.obs.length), (26, .int .i64 y.2)]) (fun y => [[(b1, .cells ⟨p.cells⟩ 25 (0, 0))]] ++ y.1) (fun y => p.obs.length - y.2) (R0, 0) ⟨hB0, Nat.zero_le _⟩ ⟨rfl, rfl, rfl, rfl, rfl, trivial⟩ (fun w' H => H) ?_
    rintro ⟨R1, i⟩ ⟨hR1, hi⟩
    dsimp only at hR1 hi ⊢
    have hol := hp.olen
    repeat' (first | refine g_pv rfl rfl ?_ | refine g_nil ?_ | refine gq_then ?_ | refine gc_seq ?_ | refine gc_region ?_)
    refine gc_condC rfl (fun cc => ?_) (fun cc => ?_)
    rotate_left
    · have hge : i = p.obs.length := by have := of_decide_eq_false cc; omega
      subst hge
      rw [List.take_length] at hR1
      repeat' (first | refine gc_exit ?_ | refine gq_then_exit ?_ | refine gq_block_exit ?_)
      exact gq_at R1 hR1 ⟨rfl, rfl, trivial⟩ (fun w' H => H)
    have hlt := of_decide_lt cc
    have hxo : p.obs[i]? = some (p.obs[i]) := List.getElem?_eq_getElem hlt
    have hoI := hp.ob _ (List.mem_of_getElem? hxo)
    have hoP := hPP.ob _ (List.mem_of_getElem? hxo)
    have htk := take_flat obW hxo
    generalize p.obs[i] = o at hxo hoI hoP htk
    repeat' (first | refine gq_then ?_ | refine gc_seq ?_ | refine gc_region ?_ | refine gc_block ?_ | refine gc_skip ?_)
    refine g_at (l := p.obs) (f := Ob.cells) (u := o) rfl rfl rfl rfl rfl (Int.natCast_nonneg i) (by omega) (hp.obs.le (old_le0 _ w)) hxo rfl rfl rfl rfl (fun ad => ?_)
    repeat' (first | refine g_nil ?_ | refine gq_then ?_ | refine g_alloc rfl rfl (fun _ => ?_) | refine g_st 0 rfl rfl rfl rfl rfl rfl rfl ?_)
    rename_i b7
    refine gc_heap (R' := [[(b7, .cells ⟨o.cells⟩ 66 (0, 0))], [(b1, .cells ⟨p.cells⟩ 25 (0, 0))]] ++ R1) (fun w H => H) ?_
    refine gc_seq ?_
    refine gc_draw [[(b7, .cells ⟨o.cells⟩ 66 (0, 0))], [(b1, .cells ⟨p.cells⟩ 25 (0, 0))]] R1 rfl (List.Perm.of_eq rfl) ?_
    (refine aP 0 rfl rfl ?_); (refine aL 1 0 rfl wanted_none rfl rfl rfl rfl rfl ?_); (refine aP 2 rfl rfl ?_); (refine aL 3 0 rfl wanted_none rfl rfl rfl rfl rfl ?_); (refine aP 5 rfl rfl ?_); (refine aL 6 0 rfl wanted_none rfl rfl rfl rfl rfl ?_)
    refine aO 4 rfl (fun K hK => ?_)
    refine g_call rfl (Cl.of Tryz.func36 rfl rfl) rfl rfl (fun w' hE => dec_sp o.size w' hoI.size (h20.le (fun b o h => old_le hE b o (old_le0 _ w b o h)))) rfl (fun s1 hs1 => ?_)
    obtain rfl := mkB_of hs1
    refine g_nil ?_
    refine hK _ _ ⟨R1, List.Perm.of_eq rfl⟩ ?_
    refine aO 7 rfl (fun K hK => ?_)
    refine g_call rfl (Cl.of Tryz.func36 rfl rfl) rfl rfl (fun w' hE => dec_sp o.align w' hoI.align (h20.le (fun b o h => old_le hE b o (old_le0 _ w b o h)))) rfl (fun s2 hs2 => ?_)
    obtain rfl := mkB_of hs2
    refine g_nil ?_
    refine hK _ _ ⟨R1, List.Perm.of_eq rfl⟩ ?_
    refine aO 8 rfl (fun K hK => ?_)
    refine g_litL rfl rfl rfl rfl rfl rfl rfl rfl rfl rfl (fun g => ?_)
    refine g_heap (R' := [[(b7, .cells ⟨o.cells⟩ 66 (0, 0))], [(b1, .cells ⟨p.cells⟩ 25 (0, 0))]] ++ ([(g, .cells ⟨((ob0 o) : List (List UInt8)).flatMap strW⟩ 9 (0, 0))] :: R1)) (fun w H => hp_permL H List.perm_middle) ?_
    refine g_nil ?_
    refine hK _ _ ⟨[(g, .cells ⟨((ob0 o) : List (List UInt8)).flatMap strW⟩ 9 (0, 0))] :: R1, List.Perm.of_eq rfl⟩ ?_
    refine aO 9 rfl (fun K hK => ?_)
    refine g_heap (R' := R1 ++ ([(g, .cells ⟨((ob0 o) : List (List UInt8)).flatMap strW⟩ 9 (0, 0))] :: [[(b7, .cells ⟨o.cells⟩ 66 (0, 0))], [(b1, .cells ⟨p.cells⟩ 25 (0, 0))]])) (fun w H => hp_permL H perm_mid2) ?_
    refine g_call1 (A := R1) (F := [(g, .cells ⟨((ob0 o) : List (List UInt8)).flatMap strW⟩ 9 (0, 0))] :: [[(b7, .cells ⟨o.cells⟩ 66 (0, 0))], [(b1, .cells ⟨p.cells⟩ 25 (0, 0))]]) rfl rfl (Cl.of Tryz.func35 rfl rfl) rfl rfl (fun w' hE' => lineW_sp b5 _ R1 (some ⟨g, 0, none⟩) 4 4 (ob0 o) w' hR1 (hp_own hE') (litW_rd (n := 4) (fz := (0, 0)) rfl (by decide) hE') (List.cons_ne_nil _ _) rfl (Nat.le_refl _) (txt_room (ob_pre hxo (q := [ob0 o]) ⟨_, (List.append_assoc _ _ _).symm⟩) hT)) rfl ?_
    intro R2 hR2
    replace hR2 := bw_line hR2
    refine g_heap (R' := [[(b7, .cells ⟨o.cells⟩ 66 (0, 0))], [(b1, .cells ⟨p.cells⟩ 25 (0, 0))]] ++ R2) (fun w H => hp_back H) ?_
    refine g_nil ?_
    refine hK _ _ ⟨R2, List.Perm.of_eq rfl⟩ ?_
    refine ga_nil (by kernel_rfl) ?_
    refine gq_then ?_
    refine gc_cut (Y := RL) (fun R => BW b5 (txt ((p.obs.take i).flatMap obW ++ ([ob0 o] ++ obD o))) R) (fun _ => [(1, .pointer (some ⟨b1, 0, none⟩)), (5, .pointer (some ⟨b5, 0, none⟩)), (24, .slice p.oA p.obs.length p.oC), (25, .int .i64 p.obs.length), (26, .int .i64 i), (7, .pointer (some ⟨b7, 0, none⟩))]) (fun R => [[(b7, .cells ⟨o.cells⟩ 66 (0, 0))], [(b1, .cells ⟨p.cells⟩ 25 (0, 0))]] ++ R) ?_ ?_
    · repeat' (first | refine g_pv rfl rfl ?_ | refine g_ld 0 rfl rfl rfl rfl rfl rfl ?_ | refine gc_seq ?_ | refine gc_region ?_)
      refine g_call rfl (Cl.of Tryz.func37 rfl rfl) rfl rfl (fun w' hE => hex_sp o.bytes o.bA o.bC w' (hoI.bytes.le (fun b o h => old_le hE b o (old_le0 _ w b o h))) hoI.bcap hoI.bs (by have := hoP.2.1; omega)) rfl (fun sh hsh => ?_)
      obtain rfl := mkB_of hsh
      repeat' (first | refine g_pv rfl rfl ?_ | refine g_nil ?_ | refine gq_then ?_ | refine gc_seq ?_ | refine gc_region ?_)
      refine g_p (p_neT rfl rfl rfl) rfl ?_
      repeat' (first | refine g_nil ?_ | refine gq_then ?_)
      refine gc_condC rfl (fun ch => ?_) (fun ch => ?_)
      · rw [neT_nil, Bool.not_eq_true', decide_eq_false_iff_not] at ch
        have hd : obD o = [[k_data, hexB o.bytes]] := by unfold obD; rw [if_neg ch]
        repeat' (first | refine g_pv rfl rfl ?_ | refine gc_region ?_)
        refine g_litL rfl rfl rfl rfl rfl rfl rfl rfl rfl rfl (fun g => ?_)
        refine g_heap (R' := R2 ++ ([(g, .cells ⟨([k_data, hexB o.bytes] : List (List UInt8)).flatMap strW⟩ 9 (0, 0))] :: [[(b7, .cells ⟨o.cells⟩ 66 (0, 0))], [(b1, .cells ⟨p.cells⟩ 25 (0, 0))]])) (fun w H => hp_permL H List.perm_append_comm) ?_
        refine g_call1 (A := R2) (F := [(g, .cells ⟨([k_data, hexB o.bytes] : List (List UInt8)).flatMap strW⟩ 9 (0, 0))] :: [[(b7, .cells ⟨o.cells⟩ 66 (0, 0))], [(b1, .cells ⟨p.cells⟩ 25 (0, 0))]]) rfl rfl (Cl.of Tryz.func35 rfl rfl) rfl rfl (fun w' hE' => lineW_sp b5 _ R2 (some ⟨g, 0, none⟩) 2 2 [k_data, hexB o.bytes] w' hR2 (hp_own hE') (litW_rd (n := 2) (fz := (0, 0)) rfl (by decide) hE') (List.cons_ne_nil _ _) rfl (Nat.le_refl _) (txt_room (by rw [List.append_assoc]; exact ob_pre hxo (by unfold obW; rw [hd]; exact ⟨_, rfl⟩)) hT)) rfl ?_
        intro R3 hR3
        replace hR3 := bw_line hR3
        refine g_heap (R' := [[(b7, .cells ⟨o.cells⟩ 66 (0, 0))], [(b1, .cells ⟨p.cells⟩ 25 (0, 0))]] ++ R3) (fun w H => hp_back H) ?_
        repeat' (refine g_nil ?_)
        exact gq_at R3 (by rw [hd, ← List.append_assoc]; exact hR3) ⟨rfl, rfl, rfl, rfl, rfl, rfl, trivial⟩ (fun w' H => H)
      · rw [neT_nil, Bool.not_eq_false', decide_eq_true_eq] at ch
        have hd : obD o = [] := by unfold obD; rw [if_pos ch]
        repeat' (refine gc_skip ?_)
        exact gq_at R2 (by rw [hd, List.append_nil]; exact hR2) ⟨rfl, rfl, rfl, rfl, rfl, rfl, trivial⟩ (fun w' H => H)
    intro R3 hR3
    dsimp only at hR3 ⊢
    repeat' (first | refine g_pv rfl rfl ?_ | refine g_ld 0 rfl rfl rfl rfl rfl rfl ?_ | refine g_nil ?_ | refine gq_then ?_ | refine gc_seq ?_ | refine gc_region ?_ | refine gc_block ?_)
    refine gc_loop (Y := RL × Nat) (fun y => BW b5 (txt ((p.obs.take i).flatMap obW ++ ([ob0 o] ++ obD o ++ (o.rels.take y.2).map relW))) y.1 ∧ y.2 ≤ o.rels.length) (fun y => [(1, .pointer (some ⟨b1, 0, none⟩)), (5, .pointer (some ⟨b5, 0, none⟩)), (24, .slice p.oA p.obs.length p.oC), (25, .int .i64 p.obs.length), (26, .int .i64 i), (7, .pointer (some ⟨b7, 0, none⟩)), (51, .slice o.rA o.rels.length o.rC), (52, .int .i64 o.rels.length), (53, .int .i64 y.2)]) (fun y => [[(b7, .cells ⟨o.cells⟩ 66 (0, 0))], [(b1, .cells ⟨p.cells⟩ 25 (0, 0))]] ++ y.1) (fun y => o.rels.length - y.2) (R3, 0) ⟨by rw [List.take_zero, List.map_nil, List.append_nil]; exact hR3, Nat.zero_le _⟩ ⟨rfl, rfl, rfl, rfl, rfl, rfl, rfl, rfl, rfl, trivial⟩ (fun w' H => H) ?_
    rintro ⟨R4, k⟩ ⟨hR4, hk⟩
    dsimp only at hR4 hk ⊢
    have hrl := hoI.rlen
    repeat' (first | refine g_pv rfl rfl ?_ | refine g_nil ?_ | refine gq_then ?_ | refine gc_seq ?_ | refine gc_region ?_)
    refine gc_condC rfl (fun ck => ?_) (fun ck => ?_)
    rotate_left
    · have hge : k = o.rels.length := by have := of_decide_eq_false ck; omega
      subst hge
      rw [List.take_length] at hR4
      repeat' (first | refine g_pv rfl rfl ?_ | refine g_nil ?_ | refine gq_then ?_ | refine gc_region ?_ | refine gc_exit ?_ | refine gq_then_exit ?_ | refine gq_block ?_ | refine gq_block_exit ?_)
      exact gq_again (R4, i + 1) ⟨by rw [htk]; exact hR4, hlt⟩ (by dsimp only; omega) ⟨rfl, rfl, rfl, rfl, inc_eq (by omega), trivial⟩ (fun w' H => hp_tail H)
    have hlk := of_decide_lt ck
    have hxr : o.rels[k]? = some (o.rels[k]) := List.getElem?_eq_getElem hlk
    have hrI := hoI.rs _ (List.mem_of_getElem? hxr)
    have hmk := map_snoc (f := relW) hxr
    have hpk := pre_snoc (f := relW) hxr
    generalize o.rels[k] = r at hxr hrI hmk hpk
    repeat' (first | refine gq_then ?_ | refine gc_seq ?_ | refine gc_region ?_ | refine gc_block ?_ | refine gc_skip ?_)
    refine g_at (l := o.rels) (f := Rel.cells) (u := r) rfl rfl rfl rfl rfl (Int.natCast_nonneg k) (by omega) (hoI.rels.le (old_le0 _ w)) hxr rfl rfl rfl rfl (fun ad => ?_)
    repeat' (first | refine g_nil ?_ | refine gq_then ?_ | refine g_alloc rfl rfl (fun _ => ?_) | refine g_st 0 rfl rfl rfl rfl rfl rfl rfl ?_)
    rename_i b10
    refine gc_heap (R' := [[(b10, .cells ⟨r.cells⟩ 78 (0, 0))], [(b7, .cells ⟨o.cells⟩ 66 (0, 0))], [(b1, .cells ⟨p.cells⟩ 25 (0, 0))]] ++ R4) (fun w H => H) ?_
    refine gc_draw [[(b10, .cells ⟨r.cells⟩ 78 (0, 0))], [(b7, .cells ⟨o.cells⟩ 66 (0, 0))], [(b1, .cells ⟨p.cells⟩ 25 (0, 0))]] R4 rfl (List.Perm.of_eq rfl) ?_
    (refine aP 0 rfl rfl ?_); (refine aL 1 0 rfl wanted_none rfl rfl rfl rfl rfl ?_); (refine aP 3 rfl rfl ?_); (refine aL 4 0 rfl wanted_none rfl rfl rfl rfl rfl ?_); (refine aP 6 rfl rfl ?_); (refine aL 7 0 rfl wanted_none rfl rfl rfl rfl rfl ?_)
    refine aO 2 rfl (fun K hK => ?_)
    refine g_call rfl (Cl.of Tryz.func36 rfl rfl) rfl rfl (fun w' hE => dec_sp r.off w' hrI.1 (h20.le (fun b o h => old_le hE b o (old_le0 _ w b o h)))) rfl (fun s1 hs1 => ?_)
    obtain rfl := mkB_of hs1
    refine g_nil ?_
    refine hK _ _ ⟨R4, List.Perm.of_eq rfl⟩ ?_
    refine aO 5 rfl (fun K hK => ?_)
    refine g_call rfl (Cl.of Tryz.func36 rfl rfl) rfl rfl (fun w' hE => dec_sp r.gl w' hrI.2.1 (h20.le (fun b o h => old_le hE b o (old_le0 _ w b o h)))) rfl (fun s2 hs2 => ?_)
    obtain rfl := mkB_of hs2
    refine g_nil ?_
    refine hK _ _ ⟨R4, List.Perm.of_eq rfl⟩ ?_
    refine aO 8 rfl (fun K hK => ?_)
    refine g_call rfl (Cl.of Tryz.func36 rfl rfl) rfl rfl (fun w' hE => dec_sp r.add w' hrI.2.2 (h20.le (fun b o h => old_le hE b o (old_le0 _ w b o h)))) rfl (fun s3 hs3 => ?_)
    obtain rfl := mkB_of hs3
    refine g_nil ?_
    refine hK _ _ ⟨R4, List.Perm.of_eq rfl⟩ ?_
    refine aO 9 rfl (fun K hK => ?_)
    refine g_litL rfl rfl rfl rfl rfl rfl rfl rfl rfl rfl (fun g => ?_)
    refine g_heap (R' := [[(b10, .cells ⟨r.cells⟩ 78 (0, 0))], [(b7, .cells ⟨o.cells⟩ 66 (0, 0))], [(b1, .cells ⟨p.cells⟩ 25 (0, 0))]] ++ ([(g, .cells ⟨((relW r) : List (List UInt8)).flatMap strW⟩ 9 (0, 0))] :: R4)) (fun w H => hp_permL H List.perm_middle) ?_
    refine g_nil ?_
    refine hK _ _ ⟨[(g, .cells ⟨((relW r) : List (List UInt8)).flatMap strW⟩ 9 (0, 0))] :: R4, List.Perm.of_eq rfl⟩ ?_
    refine aO 10 rfl (fun K hK => ?_)
    refine g_heap (R' := R4 ++ ([(g, .cells ⟨((relW r) : List (List UInt8)).flatMap strW⟩ 9 (0, 0))] :: [[(b10, .cells ⟨r.cells⟩ 78 (0, 0))], [(b7, .cells ⟨o.cells⟩ 66 (0, 0))], [(b1, .cells ⟨p.cells⟩ 25 (0, 0))]])) (fun w H => hp_permL H perm_mid2) ?_
    refine g_call1 (A := R4) (F := [(g, .cells ⟨((relW r) : List (List UInt8)).flatMap strW⟩ 9 (0, 0))] :: [[(b10, .cells ⟨r.cells⟩ 78 (0, 0))], [(b7, .cells ⟨o.cells⟩ 66 (0, 0))], [(b1, .cells ⟨p.cells⟩ 25 (0, 0))]]) rfl rfl (Cl.of Tryz.func35 rfl rfl) rfl rfl (fun w' hE' => lineW_sp b5 _ R4 (some ⟨g, 0, none⟩) 4 4 (relW r) w' hR4 (hp_own hE') (litW_rd (n := 4) (fz := (0, 0)) rfl (by decide) hE') (List.cons_ne_nil _ _) rfl (Nat.le_refl _) (txt_room (by rw [List.append_assoc]; exact ob_pre hxo (by unfold obW; rw [List.append_assoc]; exact pre_left hpk)) hT)) rfl ?_
    intro R5 hR5
    replace hR5 := bw_line hR5
    refine g_heap (R' := [[(b10, .cells ⟨r.cells⟩ 78 (0, 0))], [(b7, .cells ⟨o.cells⟩ 66 (0, 0))], [(b1, .cells ⟨p.cells⟩ 25 (0, 0))]] ++ R5) (fun w H => hp_back H) ?_
    refine g_nil ?_
    refine hK _ _ ⟨R5, List.Perm.of_eq rfl⟩ ?_
    refine ga_nil (by kernel_rfl) ?_
    repeat' (first | refine g_pv rfl rfl ?_ | refine g_nil ?_ | refine gq_then ?_ | refine gc_region ?_ | refine gq_block ?_)
    exact gq_again (R5, k + 1) ⟨by rw [hmk]; simpa only [List.append_assoc] using hR5, hlk⟩ (by dsimp only; omega) ⟨rfl, rfl, rfl, rfl, rfl, rfl, rfl, rfl, inc_eq (by omega), trivial⟩ (fun w' H => hp_tail H)
  intro R0 hR0
  dsimp only at hR0 ⊢
  refine gc_cut (Y := RL) (fun R => BW b5 (txt (p.obs.flatMap obW ++ p.fns.flatMap fnW)) R) (fun _ => [(1, .pointer (some ⟨b1, 0, none⟩)), (5, .pointer (some ⟨b5, 0, none⟩))]) (fun R => [[(b1, .cells ⟨p.cells⟩ 25 (0, 0))]] ++ R) ?_ ?_
  · repeat' (first | refine g_pv rfl rfl ?_ | refine g_ld 0 rfl rfl rfl rfl rfl rfl ?_ | refine g_nil ?_ | refine gq_then ?_ | refine gc_seq ?_ | refine gc_region ?_ | refine gc_block ?_)
    refine gc_loop (Y := RL × Nat) (fun y => BW b5 (txt (p.obs.flatMap obW ++ (p.fns.take y.2).flatMap fnW)) y.1 ∧ y.2 ≤ p.fns.length) (fun y => [(1, .pointer (some ⟨b1, 0, none⟩)), (5, .pointer (some ⟨b5, 0, none⟩)), (71, .slice p.fA p.fns.length p.fC), (72, .int .i64 p.fns.length), (73, .int .i64 y.2)]) (fun y => [[(b1, .cells ⟨p.cells⟩ 25 (0, 0))]] ++ y.1) (fun y => p.fns.length - y.2) (R0, 0) ⟨by rw [List.take_zero, List.flatMap_nil, List.append_nil]; exact hR0, Nat.zero_le _⟩ ⟨rfl, rfl, rfl, rfl, rfl, trivial⟩ (fun w' H => H) ?_
    rintro ⟨R1, i⟩ ⟨hR1, hi⟩
    dsimp only at hR1 hi ⊢
    have hfl := hp.flen
    repeat' (first | refine g_pv rfl rfl ?_ | refine g_nil ?_ | refine gq_then ?_ | refine gc_seq ?_ | refine gc_region ?_)
    refine gc_condC rfl (fun cc => ?_) (fun cc => ?_)
    rotate_left
    · have hge : i = p.fns.length := by have := of_decide_eq_false cc; omega
      subst hge
      rw [List.take_length] at hR1
      repeat' (first | refine gc_exit ?_ | refine gq_then_exit ?_ | refine gq_block_exit ?_)
      exact gq_at R1 hR1 ⟨rfl, rfl, trivial⟩ (fun w' H => H)
    have hlt := of_decide_lt cc
    have hxf : p.fns[i]? = some (p.fns[i]) := List.getElem?_eq_getElem hlt
    have hfI := hp.fn _ (List.mem_of_getElem? hxf)
    have hfP := hPP.fn _ (List.mem_of_getElem? hxf)
    have htk := take_flat fnW hxf
    generalize p.fns[i] = f at hxf hfI hfP htk
    repeat' (first | refine gq_then ?_ | refine gc_seq ?_ | refine gc_region ?_ | refine gc_block ?_ | refine gc_skip ?_)
    refine g_at (l := p.fns) (f := Fn.cells) (u := f) rfl rfl rfl rfl rfl (Int.natCast_nonneg i) (by omega) (hp.fns.le (old_le0 _ w)) hxf rfl rfl rfl rfl (fun ad => ?_)
    repeat' (first | refine g_nil ?_ | refine gq_then ?_ | refine g_alloc rfl rfl (fun _ => ?_) | refine g_st 0 rfl rfl rfl rfl rfl rfl rfl ?_)
    rename_i b12
    refine gc_heap (R' := [[(b12, .cells ⟨f.cells⟩ 32 (0, 0))], [(b1, .cells ⟨p.cells⟩ 25 (0, 0))]] ++ R1) (fun w H => H) ?_
    refine gc_seq ?_
    refine gc_draw [[(b12, .cells ⟨f.cells⟩ 32 (0, 0))], [(b1, .cells ⟨p.cells⟩ 25 (0, 0))]] R1 rfl (List.Perm.of_eq rfl) ?_
    (refine aP 0 rfl rfl ?_); (refine aL 1 0 rfl wanted_none rfl rfl rfl rfl rfl ?_); (refine aP 2 rfl rfl ?_); (refine aL 3 0 rfl wanted_none rfl rfl rfl rfl rfl ?_); (refine aP 5 rfl rfl ?_); (refine aL 6 0 rfl wanted_none rfl rfl rfl rfl rfl ?_)
    refine aO 4 rfl (fun K hK => ?_)
    refine g_call rfl (Cl.of Tryz.func36 rfl rfl) rfl rfl (fun w' hE => dec_sp f.pa w' hfI.pa (h20.le (fun b o h => old_le hE b o (old_le0 _ w b o h)))) rfl (fun s1 hs1 => ?_)
    obtain rfl := mkB_of hs1
    refine g_nil ?_
    refine hK _ _ ⟨R1, List.Perm.of_eq rfl⟩ ?_
    refine aO 7 rfl (fun K hK => ?_)
    refine g_call rfl (Cl.of Tryz.func36 rfl rfl) rfl rfl (fun w' hE => dec_sp f.te w' hfI.te (h20.le (fun b o h => old_le hE b o (old_le0 _ w b o h)))) rfl (fun s2 hs2 => ?_)
    obtain rfl := mkB_of hs2
    refine g_nil ?_
    refine hK _ _ ⟨R1, List.Perm.of_eq rfl⟩ ?_
    refine aO 8 rfl (fun K hK => ?_)
    refine g_litL rfl rfl rfl rfl rfl rfl rfl rfl rfl rfl (fun g => ?_)
    refine g_heap (R' := [[(b12, .cells ⟨f.cells⟩ 32 (0, 0))], [(b1, .cells ⟨p.cells⟩ 25 (0, 0))]] ++ ([(g, .cells ⟨([k_func, bytesL f.nm, Lib.itoa f.pa, Lib.itoa f.te] : List (List UInt8)).flatMap strW⟩ 9 (0, 0))] :: R1)) (fun w H => hp_permL H List.perm_middle) ?_
    refine g_nil ?_
    refine hK _ _ ⟨[(g, .cells ⟨([k_func, bytesL f.nm, Lib.itoa f.pa, Lib.itoa f.te] : List (List UInt8)).flatMap strW⟩ 9 (0, 0))] :: R1, List.Perm.of_eq rfl⟩ ?_
    (refine aP 9 rfl rfl ?_)
    refine ga_nil (by kernel_rfl) ?_
    refine gq_then ?_
    refine gc_cut (Y := Value × HL) (fun y => OwnL 9 1 strW y.1 (fn0W f) y.2) (fun y => [(1, .pointer (some ⟨b1, 0, none⟩)), (5, .pointer (some ⟨b5, 0, none⟩)), (71, .slice p.fA p.fns.length p.fC), (72, .int .i64 p.fns.length), (73, .int .i64 i), (12, .pointer (some ⟨b12, 0, none⟩)), (13, y.1)]) (fun y => [[(b12, .cells ⟨f.cells⟩ 32 (0, 0))], [(b1, .cells ⟨p.cells⟩ 25 (0, 0))]] ++ (y.2 :: R1)) ?_ ?_
    · repeat' (first | refine g_pv rfl rfl ?_ | refine g_ld 0 rfl rfl rfl rfl rfl rfl ?_ | refine g_nil ?_ | refine gq_then ?_ | refine gc_seq ?_ | refine gc_region ?_)
      refine gc_condC rfl (fun cg => ?_) (fun cg => ?_)
      · have hd : fn0W f = [k_func, bytesL f.nm, Lib.itoa f.pa, Lib.itoa f.te] ++ [k_gives] := by unfold fn0W; rw [if_pos cg]
        repeat' (first | refine g_pv rfl rfl ?_ | refine gc_region ?_)
        refine g_app1L 2 (f := strW) (q := k_gives) rfl rfl rfl rfl rfl rfl rfl rfl rfl rfl rfl rfl (ownW_lit g [k_func, bytesL f.nm, Lib.itoa f.pa, Lib.itoa f.te] rfl (by decide)) (by show 4 + 1 ≤ maxLen; decide) (by show (4 + 1) * 16 ≤ 140737488355328; decide) rfl rfl (fun v1 A1 g1 ho => ?_)
        rw [← hd] at ho
        repeat' (first | refine g_pv rfl rfl ?_ | refine g_nil ?_)
        exact gq_at (v1, A1) ho ⟨rfl, rfl, rfl, rfl, rfl, rfl, rfl, trivial⟩ (fun w' H => H)
      · have hd : fn0W f = [k_func, bytesL f.nm, Lib.itoa f.pa, Lib.itoa f.te] := by unfold fn0W; rw [if_neg (by rw [show f.gi = false from cg]; decide)]; rfl
        repeat' (refine gc_skip ?_)
        exact gq_at (.slice (some ⟨g, 0, none⟩) 4 4, [(g, .cells ⟨([k_func, bytesL f.nm, Lib.itoa f.pa, Lib.itoa f.te] : List (List UInt8)).flatMap strW⟩ 9 (0, 0))]) (by rw [hd]; exact ownW_lit (n := 4) g _ rfl (by decide)) ⟨rfl, rfl, rfl, rfl, rfl, rfl, rfl, trivial⟩ (fun w' H => H)
    rintro ⟨v1, A1⟩ ho
    dsimp only at ho ⊢
    obtain ⟨ad1, c1', rfl, hc1', hr1⟩ := ownW_shape ho
    repeat' (first | refine g_pv rfl rfl ?_ | refine gc_seq ?_ | refine gc_region ?_)
    refine g_heap (R' := R1 ++ (A1 :: [[(b12, .cells ⟨f.cells⟩ 32 (0, 0))], [(b1, .cells ⟨p.cells⟩ 25 (0, 0))]])) (fun w H => hp_permL H perm_mid2) ?_
    refine g_call1 (A := R1) (F := A1 :: [[(b12, .cells ⟨f.cells⟩ 32 (0, 0))], [(b1, .cells ⟨p.cells⟩ 25 (0, 0))]]) rfl rfl (Cl.of Tryz.func35 rfl rfl) rfl rfl (fun w' hE' => lineW_sp b5 _ R1 ad1 _ c1' (fn0W f) w' hR1 (hp_own hE') (hr1 (fun b o hb => hp_exc (hp_join hE') (List.mem_append_left _ hb))) (by unfold fn0W; exact List.cons_ne_nil _ _) rfl hc1' (txt_room (fn_pre hxf (q := [fn0W f]) ⟨_, (List.append_assoc _ _ _).symm⟩) hT)) rfl ?_
    intro R2 hR2
    replace hR2 := bw_line hR2
    refine g_heap (R' := [[(b12, .cells ⟨f.cells⟩ 32 (0, 0))], [(b1, .cells ⟨p.cells⟩ 25 (0, 0))]] ++ R2) (fun w H => hp_back H) ?_
    repeat' (first | refine g_pv rfl rfl ?_ | refine g_ld 0 rfl rfl rfl rfl rfl rfl ?_ | refine g_nil ?_ | refine gq_then ?_ | refine gc_seq ?_ | refine gc_region ?_ | refine gc_block ?_)
    refine gc_loop (Y := RL × Nat) (fun y => BW b5 (txt (p.obs.flatMap obW ++ (p.fns.take i).flatMap fnW ++ ([fn0W f] ++ (f.slots.take y.2).map slotW))) y.1 ∧ y.2 ≤ f.slots.length) (fun y => [(1, .pointer (some ⟨b1, 0, none⟩)), (5, .pointer (some ⟨b5, 0, none⟩)), (71, .slice p.fA p.fns.length p.fC), (72, .int .i64 p.fns.length), (73, .int .i64 i), (12, .pointer (some ⟨b12, 0, none⟩)), (94, .slice f.sA f.slots.length f.sC), (95, .int .i64 f.slots.length), (96, .int .i64 y.2)]) (fun y => [[(b12, .cells ⟨f.cells⟩ 32 (0, 0))], [(b1, .cells ⟨p.cells⟩ 25 (0, 0))]] ++ y.1) (fun y => f.slots.length - y.2) (R2, 0) ⟨by rw [List.take_zero, List.map_nil, List.append_nil]; exact hR2, Nat.zero_le _⟩ ⟨rfl, rfl, rfl, rfl, rfl, rfl, rfl, rfl, rfl, trivial⟩ (fun w' H => H) ?_
    rintro ⟨R4, k⟩ ⟨hR4, hk⟩
    dsimp only at hR4 hk ⊢
    have hsl := hfI.slen
    repeat' (first | refine g_pv rfl rfl ?_ | refine g_nil ?_ | refine gq_then ?_ | refine gc_seq ?_ | refine gc_region ?_)
    refine gc_condC rfl (fun ck => ?_) (fun ck => ?_)
    · have hlk := of_decide_lt ck
      have hxs : f.slots[k]? = some (f.slots[k]) := List.getElem?_eq_getElem hlk
      have hsI := hfI.ss _ (List.mem_of_getElem? hxs)
      have hmk := map_snoc (f := slotW) hxs
      have hpk := pre_snoc (f := slotW) hxs
      generalize f.slots[k] = s at hxs hsI hmk hpk
      repeat' (first | refine gq_then ?_ | refine gc_seq ?_ | refine gc_region ?_ | refine gc_block ?_ | refine gc_skip ?_)
      refine g_at (l := f.slots) (f := Slt.cells) (u := s) rfl rfl rfl rfl rfl (Int.natCast_nonneg k) (by omega) (hfI.slots.le (old_le0 _ w)) hxs rfl rfl rfl rfl (fun ad => ?_)
      repeat' (first | refine g_nil ?_ | refine gq_then ?_ | refine g_alloc rfl rfl (fun _ => ?_) | refine g_st 0 rfl rfl rfl rfl rfl rfl rfl ?_)
      rename_i b15
      refine gc_heap (R' := [[(b15, .cells ⟨s.cells⟩ 90 (0, 0))], [(b12, .cells ⟨f.cells⟩ 32 (0, 0))], [(b1, .cells ⟨p.cells⟩ 25 (0, 0))]] ++ R4) (fun w H => H) ?_
      refine gc_draw [[(b15, .cells ⟨s.cells⟩ 90 (0, 0))], [(b12, .cells ⟨f.cells⟩ 32 (0, 0))], [(b1, .cells ⟨p.cells⟩ 25 (0, 0))]] R4 rfl (List.Perm.of_eq rfl) ?_
      (refine aP 0 rfl rfl ?_); (refine aL 1 0 rfl wanted_none rfl rfl rfl rfl rfl ?_); (refine aP 3 rfl rfl ?_); (refine aL 4 0 rfl wanted_none rfl rfl rfl rfl rfl ?_)
      refine aO 2 rfl (fun K hK => ?_)
      refine g_call rfl (Cl.of Tryz.func36 rfl rfl) rfl rfl (fun w' hE => dec_sp s.size w' hsI.1 (h20.le (fun b o h => old_le hE b o (old_le0 _ w b o h)))) rfl (fun s1 hs1 => ?_)
      obtain rfl := mkB_of hs1
      refine g_nil ?_
      refine hK _ _ ⟨R4, List.Perm.of_eq rfl⟩ ?_
      refine aO 5 rfl (fun K hK => ?_)
      refine g_call rfl (Cl.of Tryz.func36 rfl rfl) rfl rfl (fun w' hE => dec_sp s.align w' hsI.2 (h20.le (fun b o h => old_le hE b o (old_le0 _ w b o h)))) rfl (fun s2 hs2 => ?_)
      obtain rfl := mkB_of hs2
      refine g_nil ?_
      refine hK _ _ ⟨R4, List.Perm.of_eq rfl⟩ ?_
      refine aO 6 rfl (fun K hK => ?_)
      refine g_litL rfl rfl rfl rfl rfl rfl rfl rfl rfl rfl (fun g => ?_)
      refine g_heap (R' := [[(b15, .cells ⟨s.cells⟩ 90 (0, 0))], [(b12, .cells ⟨f.cells⟩ 32 (0, 0))], [(b1, .cells ⟨p.cells⟩ 25 (0, 0))]] ++ ([(g, .cells ⟨((slotW s) : List (List UInt8)).flatMap strW⟩ 9 (0, 0))] :: R4)) (fun w H => hp_permL H List.perm_middle) ?_
      refine g_nil ?_
      refine hK _ _ ⟨[(g, .cells ⟨((slotW s) : List (List UInt8)).flatMap strW⟩ 9 (0, 0))] :: R4, List.Perm.of_eq rfl⟩ ?_
      refine aO 7 rfl (fun K hK => ?_)
      refine g_heap (R' := R4 ++ ([(g, .cells ⟨((slotW s) : List (List UInt8)).flatMap strW⟩ 9 (0, 0))] :: [[(b15, .cells ⟨s.cells⟩ 90 (0, 0))], [(b12, .cells ⟨f.cells⟩ 32 (0, 0))], [(b1, .cells ⟨p.cells⟩ 25 (0, 0))]])) (fun w H => hp_permL H perm_mid2) ?_
      refine g_call1 (A := R4) (F := [(g, .cells ⟨((slotW s) : List (List UInt8)).flatMap strW⟩ 9 (0, 0))] :: [[(b15, .cells ⟨s.cells⟩ 90 (0, 0))], [(b12, .cells ⟨f.cells⟩ 32 (0, 0))], [(b1, .cells ⟨p.cells⟩ 25 (0, 0))]]) rfl rfl (Cl.of Tryz.func35 rfl rfl) rfl rfl (fun w' hE' => lineW_sp b5 _ R4 (some ⟨g, 0, none⟩) 3 3 (slotW s) w' hR4 (hp_own hE') (litW_rd (n := 3) (fz := (0, 0)) rfl (by decide) hE') (List.cons_ne_nil _ _) rfl (Nat.le_refl _) (txt_room (by rw [List.append_assoc]; exact fn_pre hxf (by unfold fnW; rw [List.append_assoc, List.append_assoc]; exact pre_left (hpk.trans (List.prefix_append _ _)))) hT)) rfl ?_
      intro R5 hR5
      replace hR5 := bw_line hR5
      refine g_heap (R' := [[(b15, .cells ⟨s.cells⟩ 90 (0, 0))], [(b12, .cells ⟨f.cells⟩ 32 (0, 0))], [(b1, .cells ⟨p.cells⟩ 25 (0, 0))]] ++ R5) (fun w H => hp_back H) ?_
      refine g_nil ?_
      refine hK _ _ ⟨R5, List.Perm.of_eq rfl⟩ ?_
      refine ga_nil (by kernel_rfl) ?_
      repeat' (first | refine g_pv rfl rfl ?_ | refine g_nil ?_ | refine gq_then ?_ | refine gc_region ?_ | refine gq_block ?_)
      exact gq_again (R5, k + 1) ⟨by rw [hmk]; simpa only [List.append_assoc] using hR5, hlk⟩ (by dsimp only; omega) ⟨rfl, rfl, rfl, rfl, rfl, rfl, rfl, rfl, inc_eq (by omega), trivial⟩ (fun w' H => hp_tail H)
    have hge : k = f.slots.length := by have := of_decide_eq_false ck; omega
    subst hge
    rw [List.take_length] at hR4
    repeat' (first | refine g_pv rfl rfl ?_ | refine g_ld 0 rfl rfl rfl rfl rfl rfl ?_ | refine g_nil ?_ | refine gq_then ?_ | refine gc_seq ?_ | refine gc_region ?_ | refine gc_block ?_ | refine gc_exit ?_ | refine gq_then_exit ?_ | refine gq_block_exit ?_)
    refine gc_loop (Y := RL × Nat) (fun y => BW b5 (txt (p.obs.flatMap obW ++ (p.fns.take i).flatMap fnW ++ ([fn0W f] ++ f.slots.map slotW ++ (f.code.take y.2).map insW))) y.1 ∧ y.2 ≤ f.code.length) (fun y => [(1, .pointer (some ⟨b1, 0, none⟩)), (5, .pointer (some ⟨b5, 0, none⟩)), (71, .slice p.fA p.fns.length p.fC), (72, .int .i64 p.fns.length), (73, .int .i64 i), (12, .pointer (some ⟨b12, 0, none⟩)), (110, .slice f.cA f.code.length f.cC), (111, .int .i64 f.code.length), (112, .int .i64 y.2)]) (fun y => [[(b12, .cells ⟨f.cells⟩ 32 (0, 0))], [(b1, .cells ⟨p.cells⟩ 25 (0, 0))]] ++ y.1) (fun y => f.code.length - y.2) (R4, 0) ⟨by rw [List.take_zero, List.map_nil, List.append_nil]; exact hR4, Nat.zero_le _⟩ ⟨rfl, rfl, rfl, rfl, rfl, rfl, rfl, rfl, rfl, trivial⟩ (fun w' H => H) ?_
    rintro ⟨R6, n⟩ ⟨hR6, hn⟩
    dsimp only at hR6 hn ⊢
    have hcl := hfI.code.len
    repeat' (first | refine g_pv rfl rfl ?_ | refine g_nil ?_ | refine gq_then ?_ | refine gc_seq ?_ | refine gc_region ?_)
    refine gc_condC rfl (fun cn => ?_) (fun cn => ?_)
    rotate_left
    · have hge : n = f.code.length := by have := of_decide_eq_false cn; omega
      subst hge
      rw [List.take_length] at hR6
      repeat' (first | refine g_pv rfl rfl ?_ | refine g_nil ?_ | refine gq_then ?_ | refine gc_region ?_ | refine gc_exit ?_ | refine gq_then_exit ?_ | refine gq_block ?_ | refine gq_block_exit ?_)
      exact gq_again (R6, i + 1) ⟨by rw [htk, ← List.append_assoc]; exact hR6, hlt⟩ (by dsimp only; omega) ⟨rfl, rfl, rfl, rfl, inc_eq (by omega), trivial⟩ (fun w' H => hp_tail H)
    have hln := of_decide_lt cn
    have hxc : f.code[n]? = some (f.code[n]) := List.getElem?_eq_getElem hln
    have hxI := hfI.code.all _ (List.mem_of_getElem? hxc)
    have hxP := hfP.2.2.2 _ (List.mem_of_getElem? hxc)
    have hmk := map_snoc (f := insW) hxc
    have hpk := pre_snoc (f := insW) hxc
    generalize f.code[n] = x at hxc hxI hxP hmk hpk
    repeat' (first | refine gq_then ?_ | refine gc_seq ?_ | refine gc_region ?_ | refine gc_block ?_ | refine gc_skip ?_)
    refine g_at (l := f.code) (f := Ins.cells) (u := x) rfl rfl rfl rfl rfl (Int.natCast_nonneg n) (by omega) (hfI.code.row.le (old_le0 _ w)) hxc rfl rfl rfl rfl (fun ad => ?_)
    repeat' (first | refine g_ld 0 rfl rfl rfl rfl rfl rfl ?_ | refine g_nil ?_ | refine gq_then ?_ | refine gc_region ?_ | refine g_alloc rfl rfl (fun _ => ?_) | refine g_st 0 rfl rfl rfl rfl rfl rfl rfl ?_)
    rename_i b17
    refine g_heap (R' := [[(b17, .cells ⟨x.cells⟩ 43 (0, 0))], [(b12, .cells ⟨f.cells⟩ 32 (0, 0))], [(b1, .cells ⟨p.cells⟩ 25 (0, 0))]] ++ R6) (fun w H => H) ?_
    repeat' (fail)
    refine g_heap (R' := R6 ++ [[(b17, .cells ⟨x.cells⟩ 43 (0, 0))], [(b12, .cells ⟨f.cells⟩ 32 (0, 0))], [(b1, .cells ⟨p.cells⟩ 25 (0, 0))]]) (fun w H => hp_permL H List.perm_append_comm) ?_
    refine g_call1 (A := R6) (F := [[(b17, .cells ⟨x.cells⟩ 43 (0, 0))], [(b12, .cells ⟨f.cells⟩ 32 (0, 0))], [(b1, .cells ⟨p.cells⟩ 25 (0, 0))]]) rfl rfl (Cl.of Tryz.func38 rfl rfl) rfl rfl (fun w' hE' => ins_sp b5 _ R6 x w' hR6 (hp_own hE') (hxI.le (fun b o h => hp_excO (hp_join hE') (old_le0 _ w b o h))) hxP (h20.le (fun b o h => hp_excO (hp_join hE') (old_le0 _ w b o h))) (txt_room (by rw [List.append_assoc]; exact fn_pre hxf (by unfold fnW; rw [List.append_assoc]; exact pre_left hpk)) hT)) rfl ?_
    intro R7 hR7
    replace hR7 := bw_line hR7
    refine g_heap (R' := [[(b12, .cells ⟨f.cells⟩ 32 (0, 0))], [(b1, .cells ⟨p.cells⟩ 25 (0, 0))]] ++ R7) (fun w H => hp_back H) ?_
    repeat' (first | refine g_pv rfl rfl ?_ | refine g_nil ?_ | refine gq_then ?_ | refine gc_region ?_ | refine gq_block ?_)
    exact gq_again (R7, n + 1) ⟨by rw [hmk]; simpa only [List.append_assoc] using hR7, hln⟩ (by dsimp only; omega) ⟨rfl, rfl, rfl, rfl, rfl, rfl, rfl, rfl, inc_eq (by omega), trivial⟩ (fun w' H => H)
  intro R8 hR8
  repeat' (first | refine g_pv rfl rfl ?_ | refine g_ld 0 rfl rfl rfl rfl rfl rfl ?_ | refine gc_seq ?_ | refine gc_region ?_)
  refine g_call rfl (Cl.of Tryz.func36 rfl rfl) rfl rfl (fun w' hE => dec_sp p.main w' hp.main (h20.le (fun b o h => old_le hE b o (old_le0 _ w b o h)))) rfl (fun sm hsm => ?_)
  obtain rfl := mkB_of hsm
  repeat' (fail)
  refine g_litL rfl rfl rfl rfl rfl rfl rfl rfl rfl rfl (fun g => ?_)
  refine g_heap (R' := R8 ++ ([(g, .cells ⟨((mainW p) : List (List UInt8)).flatMap strW⟩ 9 (0, 0))] :: [[(b1, .cells ⟨p.cells⟩ 25 (0, 0))]])) (fun w H => hp_permL H List.perm_append_comm) ?_
  refine g_call1 (A := R8) (F := [(g, .cells ⟨((mainW p) : List (List UInt8)).flatMap strW⟩ 9 (0, 0))] :: [[(b1, .cells ⟨p.cells⟩ 25 (0, 0))]]) rfl rfl (Cl.of Tryz.func35 rfl rfl) rfl rfl (fun w' hE' => lineW_sp b5 _ R8 (some ⟨g, 0, none⟩) 2 2 (mainW p) w' hR8 (hp_own hE') (litW_rd (n := 2) (fz := (0, 0)) rfl (by decide) hE') (List.cons_ne_nil _ _) rfl (Nat.le_refl _) (txt_room (List.prefix_refl (prW p)) hT)) rfl ?_
  intro R9 hR9
  replace hR9 := bw_line hR9
  refine g_heap (R' := [[(b1, .cells ⟨p.cells⟩ 25 (0, 0))]] ++ R9) (fun w H => hp_back H) ?_
  have hR9 : BW b5 (txt (prW p)) R9 := hR9
  repeat' (first | refine g_pv rfl rfl ?_ | refine g_nil ?_ | refine gq_then ?_ | refine gc_seq ?_ | refine gc_region ?_)
  refine g_heap (R' := R9 ++ [[(b1, .cells ⟨p.cells⟩ 25 (0, 0))]]) (fun w H => hp_permL H List.perm_append_comm) ?_
  refine g_call1 (A := R9) (F := [[(b1, .cells ⟨p.cells⟩ 25 (0, 0))]]) rfl rfl (Cl.of Tryz.func39 rfl rfl) rfl rfl (fun w' hE' => blen_sp b5 _ R9 w' hR9 (hp_own hE')) rfl (fun _ _ => ?_)
  repeat' (first | refine g_pv rfl rfl ?_ | refine g_nil ?_ | refine gq_then ?_)
  refine gc_condC rfl (fun cl => ?_) (fun cl => ?_)
  · have cl := of_decide_eq_true cl
    repeat' (first | refine g_pv rfl rfl ?_ | refine g_nil ?_ | refine gq_then ?_ | refine gc_seq ?_ | refine gc_region ?_ | refine gc_ret ?_ | refine gq_then_ret ?_)
    refine gq_ret2 (.inr rfl) rfl rfl rfl rfl (fun w' H => ⟨(⟨#[]⟩, 2), ?_, rfl, hp_nil H⟩)
    unfold printB; rw [if_pos hq, if_pos (by omega)]; rfl
  have cl := of_decide_eq_false cl
  repeat' (first | refine g_pv rfl rfl ?_ | refine gq_then ?_ | refine gc_seq ?_ | refine gc_region ?_ | refine gc_skip ?_)
  refine g_call1 (A := R9) (F := [[(b1, .cells ⟨p.cells⟩ 25 (0, 0))]]) rfl rfl (Cl.of Tryz.func40 rfl rfl) rfl rfl (fun w' hE' => bstring_sp b5 _ R9 w' hR9 (hp_own hE') (by unfold prW; rw [txt_snoc]; unfold lnB; simp) hT) rfl (fun _ _ => ?_)
  repeat' (first | refine g_pv rfl rfl ?_ | refine g_nil ?_ | refine gq_then ?_ | refine gc_ret ?_)
  refine gq_ret2 (.inr rfl) rfl rfl rfl rfl (fun w' H => ⟨(mkB (txt (prW p)), 0), ?_, rfl, hp_nil H⟩)
  unfold printB; rw [if_pos hq, if_neg (by omega)]; rfl
end Go.Proofs.YtpohhfggmaihpaaGreatDoor

/- The shelf's numbers of strconv.ParseUint, strconv.Atoi, strings.Split, TrimSuffix, IndexByte at this translation, as the kit's lay-plain wrote them. -/
namespace Go.Proofs
open Go.Shelf
def Tryz.lays137_ren : Go.Shelf.Ren := ⟨fun | 137 => 110 | 217 => 138 | 266 => 158 | n => n, fun | 9 => 9 | 5 => 5 | 3 => 3 | n => n, fun | n => n⟩
theorem Tryz.lays137 : Go.Proofs.Lays.n137 Tryz.prog Tryz.lays137_ren := {
  mixed := by kernel_rfl
  f137 := Tryz.func110.trans (congrArg some (by kernel_rfl))
  f217 := Tryz.func138.trans (congrArg some (by kernel_rfl))
  f266 := Tryz.func158.trans (congrArg some (by kernel_rfl))
  t3 := Tryz.underlying3
  a3 := Tryz.isAgg3
  z3 := Tryz.sizeOf3
  v3 := Tryz.zeroValue3
  t5 := Tryz.underlying5
  a5 := Tryz.isAgg5
  z5 := Tryz.sizeOf5
  v5 := Tryz.zeroValue5
  t9 := Tryz.underlying9
  a9 := Tryz.isAgg9
  z9 := Tryz.sizeOf9
  v9 := Tryz.zeroValue9 }
def Tryz.lays172_ren : Go.Shelf.Ren := ⟨fun | 172 => 113 | 244 => 143 | 245 => 144 | 247 => 162 | 279 => 163 | 280 => 164 | 281 => 165 | 282 => 166 | 287 => 167 | 316 => 178 | 171 => 58 | 205 => 179 | 321 => 180 | 322 => 181 | 243 => 105 | 246 => 137 | 283 => 154 | 284 => 155 | 285 => 156 | 286 => 157 | 129 => 93 | 317 => 171 | 318 => 172 | 319 => 173 | 320 => 174 | 337 => 183 | 338 => 184 | n => n, fun | 9 => 9 | 3 => 3 | 75 => 110 | 76 => 111 | 4 => 4 | 5 => 5 | 167 => 198 | 37 => 61 | 0 => 0 | 85 => 199 | 2 => 2 | 168 => 201 | 53 => 148 | 175 => 183 | 46 => 105 | 210 => 211 | 127 => 116 | 145 => 223 | 143 => 221 | 21 => 21 | 171 => 193 | 173 => 195 | 212 => 207 | 51 => 38 | 20 => 20 | 213 => 208 | 232 => 224 | 233 => 225 | 80 => 93 | n => n, fun | 15 => 2 | 16 => 3 | 17 => 1 | 18 => 6 | 19 => 7 | n => n⟩
theorem Tryz.lays172 : Go.Proofs.Lays.n172 Tryz.prog Tryz.lays172_ren := {
  mixed := by kernel_rfl
  f129 := Tryz.func93.trans (congrArg some (by kernel_rfl))
  f171 := Tryz.func58.trans (congrArg some (by kernel_rfl))
  f172 := Tryz.func113.trans (congrArg some (by kernel_rfl))
  f205 := Tryz.func179.trans (congrArg some (by kernel_rfl))
  f243 := Tryz.func105.trans (congrArg some (by kernel_rfl))
  f244 := Tryz.func143.trans (congrArg some (by kernel_rfl))
  f245 := Tryz.func144.trans (congrArg some (by kernel_rfl))
  f246 := Tryz.func137.trans (congrArg some (by kernel_rfl))
  f247 := Tryz.func162.trans (congrArg some (by kernel_rfl))
  f279 := Tryz.func163.trans (congrArg some (by kernel_rfl))
  f280 := Tryz.func164.trans (congrArg some (by kernel_rfl))
  f281 := Tryz.func165.trans (congrArg some (by kernel_rfl))
  f282 := Tryz.func166.trans (congrArg some (by kernel_rfl))
  f283 := Tryz.func154.trans (congrArg some (by kernel_rfl))
  f284 := Tryz.func155.trans (congrArg some (by kernel_rfl))
  f285 := Tryz.func156.trans (congrArg some (by kernel_rfl))
  f286 := Tryz.func157.trans (congrArg some (by kernel_rfl))
  f287 := Tryz.func167.trans (congrArg some (by kernel_rfl))
  f316 := Tryz.func178.trans (congrArg some (by kernel_rfl))
  f317 := Tryz.func171.trans (congrArg some (by kernel_rfl))
  f318 := Tryz.func172.trans (congrArg some (by kernel_rfl))
  f319 := Tryz.func173.trans (congrArg some (by kernel_rfl))
  f320 := Tryz.func174.trans (congrArg some (by kernel_rfl))
  f321 := Tryz.func180.trans (congrArg some (by kernel_rfl))
  f322 := Tryz.func181.trans (congrArg some (by kernel_rfl))
  f337 := Tryz.func183.trans (congrArg some (by kernel_rfl))
  f338 := Tryz.func184.trans (congrArg some (by kernel_rfl))
  t0 := Tryz.underlying0
  a0 := Tryz.isAgg0
  z0 := Tryz.sizeOf0
  v0 := Tryz.zeroValue0
  t2 := Tryz.underlying2
  a2 := Tryz.isAgg2
  z2 := Tryz.sizeOf2
  v2 := Tryz.zeroValue2
  t3 := Tryz.underlying3
  a3 := Tryz.isAgg3
  z3 := Tryz.sizeOf3
  v3 := Tryz.zeroValue3
  t4 := Tryz.underlying4
  a4 := Tryz.isAgg4
  z4 := Tryz.sizeOf4
  v4 := Tryz.zeroValue4
  t5 := Tryz.underlying5
  a5 := Tryz.isAgg5
  z5 := Tryz.sizeOf5
  v5 := Tryz.zeroValue5
  t9 := Tryz.underlying9
  a9 := Tryz.isAgg9
  z9 := Tryz.sizeOf9
  v9 := Tryz.zeroValue9
  t20 := Tryz.underlying20
  a20 := Tryz.isAgg20
  z20 := Tryz.sizeOf20
  v20 := Tryz.zeroValue20
  t21 := Tryz.underlying21
  a21 := Tryz.isAgg21
  z21 := Tryz.sizeOf21
  v21 := Tryz.zeroValue21
  t37 := Tryz.underlying61
  a37 := Tryz.isAgg61
  z37 := Tryz.sizeOf61
  v37 := Tryz.zeroValue61
  t46 := Tryz.underlying105
  a46 := Tryz.isAgg105
  z46 := Tryz.sizeOf105
  v46 := Tryz.zeroValue105
  t51 := Tryz.underlying38
  a51 := Tryz.isAgg38
  z51 := Tryz.sizeOf38
  v51 := Tryz.zeroValue38
  t53 := Tryz.underlying148
  a53 := Tryz.isAgg148
  z53 := Tryz.sizeOf148
  v53 := Tryz.zeroValue148
  t75 := Tryz.underlying110
  a75 := Tryz.isAgg110
  z75 := Tryz.sizeOf110
  v75 := Tryz.zeroValue110
  t76 := Tryz.underlying111
  a76 := Tryz.isAgg111
  z76 := Tryz.sizeOf111
  v76 := Tryz.zeroValue111
  t85 := Tryz.underlying199
  a85 := Tryz.isAgg199
  z85 := Tryz.sizeOf199
  v85 := Tryz.zeroValue199
  t127 := Tryz.underlying116
  a127 := Tryz.isAgg116
  z127 := Tryz.sizeOf116
  v127 := Tryz.zeroValue116
  t143 := Tryz.underlying221
  a143 := Tryz.isAgg221
  z143 := Tryz.sizeOf221
  v143 := Tryz.zeroValue221
  t145 := Tryz.underlying223
  a145 := Tryz.isAgg223
  z145 := Tryz.sizeOf223
  v145 := Tryz.zeroValue223
  t167 := Tryz.underlying198
  a167 := Tryz.isAgg198
  z167 := Tryz.sizeOf198
  v167 := Tryz.zeroValue198
  t168 := Tryz.underlying201
  a168 := Tryz.isAgg201
  z168 := Tryz.sizeOf201
  v168 := Tryz.zeroValue201
  t171 := Tryz.underlying193
  a171 := Tryz.isAgg193
  z171 := Tryz.sizeOf193
  v171 := Tryz.zeroValue193
  t173 := Tryz.underlying195
  a173 := Tryz.isAgg195
  z173 := Tryz.sizeOf195
  v173 := Tryz.zeroValue195
  t175 := Tryz.underlying183
  a175 := Tryz.isAgg183
  z175 := Tryz.sizeOf183
  v175 := Tryz.zeroValue183
  t210 := Tryz.underlying211
  a210 := Tryz.isAgg211
  z210 := Tryz.sizeOf211
  v210 := Tryz.zeroValue211
  t212 := Tryz.underlying207
  a212 := Tryz.isAgg207
  z212 := Tryz.sizeOf207
  v212 := Tryz.zeroValue207
  t213 := Tryz.underlying208
  a213 := Tryz.isAgg208
  z213 := Tryz.sizeOf208
  t232 := Tryz.underlying224
  a232 := Tryz.isAgg224
  z232 := Tryz.sizeOf224
  v232 := Tryz.zeroValue224
  t233 := Tryz.underlying225
  a233 := Tryz.isAgg225
  z233 := Tryz.sizeOf225
  v233 := Tryz.zeroValue225
  g15 := by kernel_rfl
  g16 := by kernel_rfl
  g17 := by kernel_rfl
  g18 := by kernel_rfl
  g19 := by kernel_rfl }
def Tryz.laysPu14_ren : Go.Shelf.Ren := ⟨fun | 14 => 145 | 16 => 167 | 17 => 144 | 19 => 180 | 20 => 181 | 21 => 163 | 22 => 164 | 23 => 165 | 24 => 166 | 25 => 178 | 27 => 58 | 26 => 179 | 28 => 105 | 29 => 137 | 30 => 154 | 31 => 155 | 32 => 156 | 33 => 157 | 35 => 93 | 34 => 171 | 36 => 172 | 37 => 173 | 38 => 174 | 39 => 183 | 40 => 184 | n => n, fun | 9 => 9 | 3 => 3 | 22 => 148 | 24 => 110 | 25 => 183 | 4 => 4 | 34 => 198 | 5 => 5 | 36 => 105 | 37 => 61 | 0 => 0 | 39 => 201 | 21 => 21 | 44 => 211 | 47 => 116 | 50 => 223 | 48 => 221 | 2 => 2 | 52 => 193 | 55 => 195 | 59 => 207 | 60 => 38 | 20 => 20 | 61 => 208 | 65 => 224 | 66 => 225 | 67 => 93 | n => n, fun | 0 => 2 | 1 => 3 | 2 => 1 | 3 => 6 | 4 => 7 | n => n⟩
theorem Tryz.laysPu14 : Go.Proofs.LaysPu.n14 Tryz.prog Tryz.laysPu14_ren := {
  mixed := by kernel_rfl
  f14 := Tryz.func145.trans (congrArg some (by kernel_rfl))
  f16 := Tryz.func167.trans (congrArg some (by kernel_rfl))
  f17 := Tryz.func144.trans (congrArg some (by kernel_rfl))
  f19 := Tryz.func180.trans (congrArg some (by kernel_rfl))
  f20 := Tryz.func181.trans (congrArg some (by kernel_rfl))
  f21 := Tryz.func163.trans (congrArg some (by kernel_rfl))
  f22 := Tryz.func164.trans (congrArg some (by kernel_rfl))
  f23 := Tryz.func165.trans (congrArg some (by kernel_rfl))
  f24 := Tryz.func166.trans (congrArg some (by kernel_rfl))
  f25 := Tryz.func178.trans (congrArg some (by kernel_rfl))
  f26 := Tryz.func179.trans (congrArg some (by kernel_rfl))
  f27 := Tryz.func58.trans (congrArg some (by kernel_rfl))
  f28 := Tryz.func105.trans (congrArg some (by kernel_rfl))
  f29 := Tryz.func137.trans (congrArg some (by kernel_rfl))
  f30 := Tryz.func154.trans (congrArg some (by kernel_rfl))
  f31 := Tryz.func155.trans (congrArg some (by kernel_rfl))
  f32 := Tryz.func156.trans (congrArg some (by kernel_rfl))
  f33 := Tryz.func157.trans (congrArg some (by kernel_rfl))
  f34 := Tryz.func171.trans (congrArg some (by kernel_rfl))
  f35 := Tryz.func93.trans (congrArg some (by kernel_rfl))
  f36 := Tryz.func172.trans (congrArg some (by kernel_rfl))
  f37 := Tryz.func173.trans (congrArg some (by kernel_rfl))
  f38 := Tryz.func174.trans (congrArg some (by kernel_rfl))
  f39 := Tryz.func183.trans (congrArg some (by kernel_rfl))
  f40 := Tryz.func184.trans (congrArg some (by kernel_rfl))
  t0 := Tryz.underlying0
  a0 := Tryz.isAgg0
  z0 := Tryz.sizeOf0
  v0 := Tryz.zeroValue0
  i0 := by kernel_rfl
  t2 := Tryz.underlying2
  a2 := Tryz.isAgg2
  z2 := Tryz.sizeOf2
  v2 := Tryz.zeroValue2
  i2 := by kernel_rfl
  t3 := Tryz.underlying3
  a3 := Tryz.isAgg3
  z3 := Tryz.sizeOf3
  v3 := Tryz.zeroValue3
  i3 := by kernel_rfl
  t4 := Tryz.underlying4
  a4 := Tryz.isAgg4
  z4 := Tryz.sizeOf4
  v4 := Tryz.zeroValue4
  i4 := by kernel_rfl
  t5 := Tryz.underlying5
  a5 := Tryz.isAgg5
  z5 := Tryz.sizeOf5
  v5 := Tryz.zeroValue5
  i5 := by kernel_rfl
  t9 := Tryz.underlying9
  a9 := Tryz.isAgg9
  z9 := Tryz.sizeOf9
  v9 := Tryz.zeroValue9
  i9 := by kernel_rfl
  t20 := Tryz.underlying20
  a20 := Tryz.isAgg20
  z20 := Tryz.sizeOf20
  v20 := Tryz.zeroValue20
  i20 := by kernel_rfl
  t21 := Tryz.underlying21
  a21 := Tryz.isAgg21
  z21 := Tryz.sizeOf21
  v21 := Tryz.zeroValue21
  i21 := by kernel_rfl
  t22 := Tryz.underlying148
  a22 := Tryz.isAgg148
  z22 := Tryz.sizeOf148
  v22 := Tryz.zeroValue148
  i22 := by kernel_rfl
  t24 := Tryz.underlying110
  a24 := Tryz.isAgg110
  z24 := Tryz.sizeOf110
  v24 := Tryz.zeroValue110
  i24 := by kernel_rfl
  t25 := Tryz.underlying183
  a25 := Tryz.isAgg183
  z25 := Tryz.sizeOf183
  v25 := Tryz.zeroValue183
  i25 := by kernel_rfl
  t34 := Tryz.underlying198
  a34 := Tryz.isAgg198
  z34 := Tryz.sizeOf198
  v34 := Tryz.zeroValue198
  i34 := by kernel_rfl
  c34 := by kernel_rfl
  t36 := Tryz.underlying105
  a36 := Tryz.isAgg105
  z36 := Tryz.sizeOf105
  v36 := Tryz.zeroValue105
  i36 := by kernel_rfl
  t37 := Tryz.underlying61
  a37 := Tryz.isAgg61
  z37 := Tryz.sizeOf61
  v37 := Tryz.zeroValue61
  i37 := by kernel_rfl
  t39 := Tryz.underlying201
  a39 := Tryz.isAgg201
  z39 := Tryz.sizeOf201
  v39 := Tryz.zeroValue201
  i39 := by kernel_rfl
  t44 := Tryz.underlying211
  a44 := Tryz.isAgg211
  z44 := Tryz.sizeOf211
  v44 := Tryz.zeroValue211
  i44 := by kernel_rfl
  t47 := Tryz.underlying116
  a47 := Tryz.isAgg116
  z47 := Tryz.sizeOf116
  v47 := Tryz.zeroValue116
  i47 := by kernel_rfl
  t48 := Tryz.underlying221
  a48 := Tryz.isAgg221
  z48 := Tryz.sizeOf221
  v48 := Tryz.zeroValue221
  i48 := by kernel_rfl
  t50 := Tryz.underlying223
  a50 := Tryz.isAgg223
  z50 := Tryz.sizeOf223
  v50 := Tryz.zeroValue223
  i50 := by kernel_rfl
  t52 := Tryz.underlying193
  a52 := Tryz.isAgg193
  z52 := Tryz.sizeOf193
  v52 := Tryz.zeroValue193
  i52 := by kernel_rfl
  t55 := Tryz.underlying195
  a55 := Tryz.isAgg195
  z55 := Tryz.sizeOf195
  v55 := Tryz.zeroValue195
  i55 := by kernel_rfl
  t59 := Tryz.underlying207
  a59 := Tryz.isAgg207
  z59 := Tryz.sizeOf207
  v59 := Tryz.zeroValue207
  i59 := by kernel_rfl
  t60 := Tryz.underlying38
  a60 := Tryz.isAgg38
  z60 := Tryz.sizeOf38
  v60 := Tryz.zeroValue38
  i60 := by kernel_rfl
  t61 := Tryz.underlying208
  a61 := Tryz.isAgg208
  z61 := Tryz.sizeOf208
  t65 := Tryz.underlying224
  a65 := Tryz.isAgg224
  z65 := Tryz.sizeOf224
  v65 := Tryz.zeroValue224
  i65 := by kernel_rfl
  t66 := Tryz.underlying225
  a66 := Tryz.isAgg225
  z66 := Tryz.sizeOf225
  v66 := Tryz.zeroValue225
  i66 := by kernel_rfl
  t67 := Tryz.underlying93
  a67 := Tryz.isAgg93
  z67 := Tryz.sizeOf93
  v67 := Tryz.zeroValue93
  i67 := by kernel_rfl
  g0 := by kernel_rfl
  m0 := by kernel_rfl
  g1 := by kernel_rfl
  m1 := by kernel_rfl
  g2 := by kernel_rfl
  m2 := by kernel_rfl
  g3 := by kernel_rfl
  m3 := by kernel_rfl
  g4 := by kernel_rfl
  m4 := by kernel_rfl }
def Tryz.lays102_ren : Go.Shelf.Ren := ⟨fun | 102 => 68 | 209 => 112 | 207 => 142 | n => n, fun | 9 => 9 | 4 => 4 | 3 => 3 | n => n, fun | n => n⟩
theorem Tryz.lays102 : Go.Proofs.Lays.n102 Tryz.prog Tryz.lays102_ren := {
  mixed := by kernel_rfl
  f102 := Tryz.func68.trans (congrArg some (by kernel_rfl))
  f207 := Tryz.func142.trans (congrArg some (by kernel_rfl))
  f209 := Tryz.func112.trans (congrArg some (by kernel_rfl))
  t3 := Tryz.underlying3
  a3 := Tryz.isAgg3
  z3 := Tryz.sizeOf3
  v3 := Tryz.zeroValue3
  t4 := Tryz.underlying4
  a4 := Tryz.isAgg4
  z4 := Tryz.sizeOf4
  v4 := Tryz.zeroValue4
  t9 := Tryz.underlying9
  a9 := Tryz.isAgg9
  z9 := Tryz.sizeOf9
  v9 := Tryz.zeroValue9 }
def Tryz.lays146_ren : Go.Shelf.Ren := ⟨fun | 146 => 67 | 221 => 111 | 268 => 139 | 138 => 140 | 143 => 141 | 195 => 159 | 197 => 148 | 218 => 160 | 219 => 161 | 260 => 168 | 217 => 138 | 225 => 175 | 224 => 176 | 267 => 177 | 266 => 158 | 314 => 185 | n => n, fun | 9 => 9 | 31 => 88 | 3 => 3 | 4 => 4 | 0 => 0 | 105 => 185 | 21 => 21 | 5 => 5 | 46 => 105 | 119 => 214 | 139 => 217 | 138 => 216 | 146 => 219 | 51 => 38 | n => n, fun | 1 => 0 | 3 => 4 | 4 => 5 | n => n⟩
theorem Tryz.lays146 : Go.Proofs.Lays.n146 Tryz.prog Tryz.lays146_ren := {
  mixed := by kernel_rfl
  f138 := Tryz.func140.trans (congrArg some (by kernel_rfl))
  f143 := Tryz.func141.trans (congrArg some (by kernel_rfl))
  f146 := Tryz.func67.trans (congrArg some (by kernel_rfl))
  f195 := Tryz.func159.trans (congrArg some (by kernel_rfl))
  f197 := Tryz.func148.trans (congrArg some (by kernel_rfl))
  f217 := Tryz.func138.trans (congrArg some (by kernel_rfl))
  f218 := Tryz.func160.trans (congrArg some (by kernel_rfl))
  f219 := Tryz.func161.trans (congrArg some (by kernel_rfl))
  f221 := Tryz.func111.trans (congrArg some (by kernel_rfl))
  f224 := Tryz.func176.trans (congrArg some (by kernel_rfl))
  f225 := Tryz.func175.trans (congrArg some (by kernel_rfl))
  f260 := Tryz.func168.trans (congrArg some (by kernel_rfl))
  f266 := Tryz.func158.trans (congrArg some (by kernel_rfl))
  f267 := Tryz.func177.trans (congrArg some (by kernel_rfl))
  f268 := Tryz.func139.trans (congrArg some (by kernel_rfl))
  f314 := Tryz.func185.trans (congrArg some (by kernel_rfl))
  t0 := Tryz.underlying0
  a0 := Tryz.isAgg0
  z0 := Tryz.sizeOf0
  v0 := Tryz.zeroValue0
  t3 := Tryz.underlying3
  a3 := Tryz.isAgg3
  z3 := Tryz.sizeOf3
  v3 := Tryz.zeroValue3
  t4 := Tryz.underlying4
  a4 := Tryz.isAgg4
  z4 := Tryz.sizeOf4
  v4 := Tryz.zeroValue4
  t5 := Tryz.underlying5
  a5 := Tryz.isAgg5
  z5 := Tryz.sizeOf5
  v5 := Tryz.zeroValue5
  t9 := Tryz.underlying9
  a9 := Tryz.isAgg9
  z9 := Tryz.sizeOf9
  v9 := Tryz.zeroValue9
  t21 := Tryz.underlying21
  a21 := Tryz.isAgg21
  z21 := Tryz.sizeOf21
  v21 := Tryz.zeroValue21
  t31 := Tryz.underlying88
  a31 := Tryz.isAgg88
  z31 := Tryz.sizeOf88
  v31 := Tryz.zeroValue88
  t46 := Tryz.underlying105
  a46 := Tryz.isAgg105
  z46 := Tryz.sizeOf105
  v46 := Tryz.zeroValue105
  t51 := Tryz.underlying38
  a51 := Tryz.isAgg38
  z51 := Tryz.sizeOf38
  v51 := Tryz.zeroValue38
  t105 := Tryz.underlying185
  a105 := Tryz.isAgg185
  z105 := Tryz.sizeOf185
  v105 := Tryz.zeroValue185
  t119 := Tryz.underlying214
  a119 := Tryz.isAgg214
  z119 := Tryz.sizeOf214
  t138 := Tryz.underlying216
  a138 := Tryz.isAgg216
  z138 := Tryz.sizeOf216
  v138 := Tryz.zeroValue216
  t139 := Tryz.underlying217
  a139 := Tryz.isAgg217
  z139 := Tryz.sizeOf217
  v139 := Tryz.zeroValue217
  t146 := Tryz.underlying219
  a146 := Tryz.isAgg219
  z146 := Tryz.sizeOf219
  v146 := Tryz.zeroValue219
  g1 := by kernel_rfl
  g3 := by kernel_rfl
  g4 := by kernel_rfl }
end Go.Proofs

/- Numbers written and read again; words put together and cut again. -/
namespace Go.Proofs.YtpohhfggmaihpaaGreatDoor
open Go.Wk
set_option linter.unusedVariables false
set_option linter.unusedSimpArgs false
attribute [local irreducible] G GC GQ GA GS Exit.then Exit.inBlock

/-! ### Numbers -/
theorem decFrom_snoc : ∀ (l : List UInt8) (acc : Nat) (b : UInt8), Lib.decFrom acc (l ++ [b]) = (Lib.decFrom acc l).bind fun n => (Lib.digitVal b).map fun d => n * 10 + d
  | [], acc, b => by
    simp only [List.nil_append, Lib.decFrom, Option.bind_some]
    cases Lib.digitVal b <;> rfl
  | a :: r, acc, b => by
    simp only [List.cons_append, Lib.decFrom]
    cases Lib.digitVal a with
    | none => rfl
    | some d => exact decFrom_snoc r _ b
theorem dig_nat {k : Nat} (h : k < 10) : (UInt8.ofNat (48 + k)).toNat = 48 + k := by rw [UInt8.toNat_ofNat']; omega
theorem dig_dv {k : Nat} (h : k < 10) : Lib.digitVal (UInt8.ofNat (48 + k)) = some k := by
  unfold Lib.digitVal
  rw [dig_nat h, if_pos (by omega)]
  congr 1; omega
theorem dec_back (u : Nat) : Lib.decFrom 0 (Lib.decDigits u) = some u := by
  induction u using Nat.strongRecOn with
  | _ u ih =>
    rw [Lib.decDigits.eq_def u]
    split
    · rename_i h
      show (match Lib.digitVal (UInt8.ofNat (48 + u)) with | some d => Lib.decFrom (0 * 10 + d) [] | none => none) = _
      rw [dig_dv h]; simp [Lib.decFrom]
    · rw [decFrom_snoc, ih (u / 10) (by omega), dig_dv (Nat.mod_lt _ (by decide))]
      simp only [Option.bind_some, Option.map_some]
      congr 1; omega
theorem dec_dig (u : Nat) : ∀ c ∈ Lib.decDigits u, 48 ≤ c.toNat ∧ c.toNat ≤ 57 := by
  induction u using Nat.strongRecOn with
  | _ u ih =>
    intro c hc
    rw [Lib.decDigits.eq_def u] at hc
    split at hc
    · rename_i h
      rw [List.mem_singleton] at hc
      rw [hc, dig_nat h]; omega
    · rcases List.mem_append.1 hc with hc | hc
      · exact ih (u / 10) (by omega) c hc
      · rw [List.mem_singleton] at hc
        rw [hc, dig_nat (Nat.mod_lt _ (by decide))]; omega
theorem dec_ne (u : Nat) : Lib.decDigits u ≠ [] := by
  rw [Lib.decDigits.eq_def u]; split <;> simp
theorem decNat_back (u : Nat) : Lib.decNat (Lib.decDigits u) = some u := by
  unfold Lib.decNat
  rw [if_neg (by rw [List.isEmpty_iff]; exact dec_ne u), dec_back]
theorem atoi_back (n : Int) : Lib.atoi (Lib.itoa n) = some n := by
  unfold Lib.itoa
  split
  · rename_i h
    simp only [Lib.atoi, beq_self_eq_true, if_true, decNat_back, Option.map_some]
    congr 1; omega
  · have hd := dec_dig n.toNat
    have hb := decNat_back n.toNat
    cases hl : Lib.decDigits n.toNat with
    | nil => exact absurd hl (dec_ne _)
    | cons b r =>
      rw [hl] at hd hb
      have := hd b List.mem_cons_self
      have h1 : (b == 45) = false := beq_eq_false_iff_ne.2 (fun e => by rw [e] at this; simp at this)
      have h2 : (b == 43) = false := beq_eq_false_iff_ne.2 (fun e => by rw [e] at this; simp at this)
      simp only [Lib.atoi, h1, h2, hb, Option.map_some]
      simp; omega
theorem pum_from (M : Nat) (hM : M < 18446744073709551616) : ∀ (l : List UInt8) (acc u : Nat), Lib.decFrom acc l = some u → u ≤ M → Lib.parseUintM M acc l = .ok u
  | [], acc, u, h, _ => by simp only [Lib.decFrom, Option.some.injEq] at h; subst h; rfl
  | b :: r, acc, u, h, hu => by
    simp only [Lib.decFrom] at h
    unfold Lib.digitVal at h
    by_cases hb : 48 ≤ b.toNat ∧ b.toNat ≤ 57
    · rw [if_pos hb] at h
      have hge : ∀ (l : List UInt8) (a v : Nat), Lib.decFrom a l = some v → a ≤ v := fun l => by
        induction l with
        | nil => intro a v h; simp only [Lib.decFrom, Option.some.injEq] at h; omega
        | cons c t ih =>
          intro a v h
          simp only [Lib.decFrom] at h
          cases hd : Lib.digitVal c with
          | none => rw [hd] at h; cases h
          | some d => rw [hd] at h; have := ih _ _ h; omega
      have h1 := hge _ _ _ h
      simp only [Lib.parseUintM]
      rw [if_pos hb, if_neg (by omega), if_neg (by omega)]
      exact pum_from M hM r _ u h hu
    · rw [if_neg hb] at h; cases h
theorem pu_back {n : Int} (h0 : 0 ≤ n) (h1 : n ≤ 4294967295) : Lib.parseUintB 32 (Lib.itoa n) = .ok n.toNat := by
  have e : Lib.itoa n = Lib.decDigits n.toNat := by unfold Lib.itoa; rw [if_neg (by omega)]
  unfold Lib.parseUintB
  rw [e, if_neg (dec_ne _)]
  exact pum_from _ (by decide) _ 0 _ (dec_back _) (by omega)

theorem dec_len : ∀ (k u : Nat), u < 10 ^ (k + 1) → (Lib.decDigits u).length ≤ k + 1
  | 0, u, h => by rw [Lib.decDigits.eq_def u, dif_pos (by simpa using h)]; simp
  | k + 1, u, h => by
    rw [Lib.decDigits.eq_def u]
    split
    · simp
    · rw [List.length_append]
      have := dec_len k (u / 10) (by rw [Nat.pow_succ] at h; omega)
      simp only [List.length_cons, List.length_nil]; omega
/-- Numbers of at most six digits. -/
def sm (n : Int) : Prop := -100000 ≤ n ∧ n ≤ 100000
theorem sm_len {n : Int} (h : sm n) : (Lib.itoa n).length ≤ 7 := by
  unfold sm at h
  unfold Lib.itoa
  split
  · have := dec_len 5 n.natAbs (by show n.natAbs < 1000000; omega)
    rw [List.length_cons]; omega
  · have := dec_len 5 n.toNat (by show n.toNat < 1000000; omega)
    omega
/-! ### Words -/
def okC (c : UInt8) : Prop := c ≠ 32 ∧ c ≠ 10
def okB (l : Bs) : Prop := ∀ c ∈ l, okC c
def okW (W : List Bs) : Prop := ∀ x ∈ W, okB x
theorem index_hit (c : UInt8) : ∀ (a r : List UInt8), (∀ x ∈ a, x ≠ c) → Lib.index (a ++ c :: r) [c] = a.length
  | [], r, _ => by simp [Lib.index]
  | b :: a, r, h => by
    have hb : b ≠ c := h b List.mem_cons_self
    have ih := index_hit c a r (fun x hx => h x (List.mem_cons_of_mem _ hx))
    simp only [List.cons_append, Lib.index]
    rw [if_neg (by simp [List.isPrefixOf]; exact fun e => hb e.symm), ih, if_neg (by rw [beq_iff_eq]; omega)]
    rw [List.length_cons]; omega
theorem index_miss (c : UInt8) : ∀ (a : List UInt8), (∀ x ∈ a, x ≠ c) → Lib.index a [c] = -1
  | [], _ => by simp [Lib.index]
  | b :: a, h => by
    have hb : b ≠ c := h b List.mem_cons_self
    have ih := index_miss c a (fun x hx => h x (List.mem_cons_of_mem _ hx))
    simp only [Lib.index]
    rw [if_neg (by simp [List.isPrefixOf]; exact fun e => hb e.symm), ih, if_pos (by decide)]
theorem ib_hit (c : UInt8) : ∀ (a r : List UInt8), (∀ x ∈ a, x ≠ c) → Lib.indexByte (a ++ c :: r) c = a.length
  | [], r, _ => by simp [Lib.indexByte]
  | b :: a, r, h => by
    have hb : b ≠ c := h b List.mem_cons_self
    have ih := ib_hit c a r (fun x hx => h x (List.mem_cons_of_mem _ hx))
    simp only [List.cons_append, Lib.indexByte]
    rw [if_neg (by simpa using hb), ih, if_neg (by rw [beq_iff_eq]; omega)]
    rw [List.length_cons]; omega
def spB : ByteArray := ⟨#[32]⟩
theorem join2 (x y : Bs) (r : List Bs) : Lib.join (x :: y :: r) [32] = x ++ 32 :: Lib.join (y :: r) [32] := by simp [join_line]
theorem split_words : ∀ (r : List Bs) (x : Bs), okW (x :: r) → Lib.countB (mkB (Lib.join (x :: r) [32])) spB = r.length ∧ Lib.splitB spB 0 r.length (mkB (Lib.join (x :: r) [32])) = (x :: r).map mkB
  | [], x, h => by
    have hx : ∀ c ∈ x, c ≠ 32 := fun c hc => (h x List.mem_cons_self c hc).1
    rw [Lib.join_one]
    refine ⟨Lib.countB_miss _ _ (index_miss 32 x hx), rfl⟩
  | y :: r, x, h => by
    have hx : ∀ c ∈ x, c ≠ 32 := fun c hc => (h x List.mem_cons_self c hc).1
    obtain ⟨h1, h2⟩ := split_words r y (fun z hz => h z (List.mem_cons_of_mem _ hz))
    have hi : Lib.indexB (mkB (Lib.join (x :: y :: r) [32])) spB = x.length := by rw [join2]; exact index_hit 32 x _ hx
    have he : (mkB (Lib.join (x :: y :: r) [32])).extract (x.length + spB.size) (mkB (Lib.join (x :: y :: r) [32])).size = mkB (Lib.join (y :: r) [32]) := by
      refine mkB_of ?_
      unfold bytesL
      rw [Lib.extract_to_end, join2]
      show List.drop (x.length + 1) (x ++ 32 :: Lib.join (y :: r) [32]) = _
      simp
    have h0 : (mkB (Lib.join (x :: y :: r) [32])).extract 0 (x.length + 0) = mkB x := by
      refine mkB_of ?_
      unfold bytesL
      rw [Lib.extract_from_zero, join2]
      show List.take (x.length + 0) (x ++ 32 :: Lib.join (y :: r) [32]) = _
      simp
    refine ⟨?_, ?_⟩
    · rw [Lib.countB_hit _ _ x.length (by decide) hi, he, h1, List.length_cons]; omega
    · rw [List.length_cons, Lib.splitB_hit _ _ _ _ x.length hi, he, h0, h2]; rfl
theorem trim_nl (a : Bs) : Lib.trimSuffix (a ++ [10]) [10] = a := by
  unfold Lib.trimSuffix Lib.hasSuffix
  rw [if_pos (by rw [List.isSuffixOf_iff_suffix]; exact List.suffix_append _ _)]
  simp
theorem itoa_ok (n : Int) : okB (Lib.itoa n) := by
  have hd : ∀ u, okB (Lib.decDigits u) := fun u c hc => by
    have := dec_dig u c hc
    exact ⟨fun e => by rw [e] at this; simp at this, fun e => by rw [e] at this; simp at this⟩
  unfold Lib.itoa
  split
  · intro c hc
    rcases List.mem_cons.1 hc with rfl | hc
    · exact ⟨by decide, by decide⟩
    · exact hd _ c hc
  · exact hd _
theorem cons_ok {c : UInt8} {l : Bs} (hc : okC c) (h : okB l) : okB (c :: l) := fun x hx => by
  rcases List.mem_cons.1 hx with rfl | hx
  · exact hc
  · exact h x hx
theorem okB_dec {l : Bs} (h : l.all (fun c => c != 32 && c != 10) = true) : okB l := fun c hc => by
  have := List.all_eq_true.1 h c hc
  simpa [okC] using this
end Go.Proofs.YtpohhfggmaihpaaGreatDoor

/- Strings cut, interfaces that hold nothing. -/
namespace Go.Wk
set_option linter.unusedVariables false
set_option linter.unusedSimpArgs false
theorem tk_iface {P : Program} {t : TypeId} {z : Value} {s b : Nat} (h : tiOf P t = some ⟨.iface, z, s, b⟩) : ∃ ms, P.underlying t = some (.interface ms) := by
  obtain ⟨d, i, hd, _, hk, _⟩ := tiOf_spec h
  cases d <;> simp [tkOf] at hk
  exact ⟨_, hd⟩
section
variable {X : Cx} {L : LT} {d : Nat} {x y : Operand} {t ty yt : TypeId} {p : String} {af : Array Edge}
theorem p_strTo {q : Operand} {z : Value} {s b : Nat} {ik : IntKind} {a : ByteArray} {h : Int} (hx : ev L x = some (.string a)) (hq : ev L q = some (.int ik h)) (ht : tl X.s.tab t = some ⟨.string, z, s, b⟩) (h0 : 0 ≤ h) (h1 : h ≤ a.size) :
    PR X.s.P L (⟨some d, .slice t x none (some q) none, ty, p, af, none⟩ : Oper) (.string (a.extract 0 h.toNat)) := fun ρ w hv => by
  have hu := tk_string (X.s.ok.at ht)
  simp only [execOp, Option.map, hv x _ hx, hv q _ hq]
  rw [Sem.run_bind, run_sliceAt_string w t _ _ _ _ hu, run_slice_string_h w t a hu ik h h0 h1]; rfl
theorem p_strFrom {q : Operand} {z : Value} {s b : Nat} {ik : IntKind} {a : ByteArray} {l : Int} (hx : ev L x = some (.string a)) (hq : ev L q = some (.int ik l)) (ht : tl X.s.tab t = some ⟨.string, z, s, b⟩) (h0 : 0 ≤ l) (h1 : l ≤ a.size) :
    PR X.s.P L (⟨some d, .slice t x (some q) none none, ty, p, af, none⟩ : Oper) (.string (a.extract l.toNat a.size)) := fun ρ w hv => by
  have hu := tk_string (X.s.ok.at ht)
  simp only [execOp, Option.map, hv x _ hx, hv q _ hq]
  rw [Sem.run_bind, run_sliceAt_string w t _ _ _ _ hu, run_slice_string_l w t a hu ik l h0 h1]; rfl
theorem p_eqI {z : Value} {s b : Nat} (hx : ev L x = some .nilIface) (ht : tl X.s.tab t = some ⟨.iface, z, s, b⟩) : PR X.s.P L (⟨some d, .binOp .eql t x (.const .nilIface) yt, ty, p, af, none⟩ : Oper) (.bool true) := fun ρ w h => by
  simp only [execOp]; rw [h x _ hx, h (.const .nilIface) _ rfl]
  obtain ⟨ms, hu⟩ := tk_iface (X.s.ok.at ht)
  have e : (do eqGuard .eql t x (.const .nilIface) .nilIface .nilIface; binOp .eql t .nilIface .nilIface : Sem Value).run X.s.P w = .ok (.bool true) w := by
    have hh : ∀ d : Nat, (Op.equalIn (d + 1) t .nilIface .nilIface).run X.s.P w = .ok true w := fun d => by simp [Op.equalIn, run_underlying hu]
    rw [eqGuard_nil_constR]
    show (binOp .eql t .nilIface .nilIface).run X.s.P w = _
    simp only [binOp]
    simp [Op.equal, Op.maxDepth, hh 9999]
  rw [Sem.run_bind, e]; rfl
end
end Go.Wk

/- tac's reader: the library's calls, must, next, num, maybe, temp, arg. -/
namespace Go.Proofs.YtpohhfggmaihpaaGreatDoor
open Go.Wk
set_option linter.unusedVariables false
set_option linter.unusedSimpArgs false
attribute [local irreducible] G GC GQ GA GS Exit.then Exit.inBlock

theorem eff_bytes {w : World} {e : TypeId} {t : ByteArray} : Eff w [] (Lib.bytesWorld w e t) [] := eff_of_below (Lib.bytesWorld_below w e t)
theorem atoi_sp (n : Int) (w : World) (hn : sm n) : Sp Tryz.prog 113 [.string (mkB (Lib.itoa n))] w [] (fun _ : Unit => .tuple #[.int .i64 n, .nilIface]) (fun _ => []) (fun _ => True) := by
  have hl := sm_len hn
  refine Calls.mono (Any.strconv_Atoi Tryz.lays172 (mkB (Lib.itoa n)) n (by rw [size_bytesL]; show (Lib.itoa n).length ≤ 18; omega) (atoi_back n) w) ?_
  rintro e w' ⟨he, t, rfl⟩
  exact ⟨(), trivial, he, eff_bytes⟩
theorem pu_sp (n : Int) (w : World) (h0 : 0 ≤ n) (h1 : n ≤ 4294967295) : Sp Tryz.prog 145 [.string (mkB (Lib.itoa n)), .int .i64 10, .int .i64 32] w [] (fun _ : Unit => .tuple #[.int .u64 n, .nilIface]) (fun _ => []) (fun _ => True) := by
  have hl := itoa_len (n := n) (by unfold in64; omega)
  refine Calls.mono (Any.strconv_ParseUint_10_at32_ok Tryz.laysPu14 (mkB (Lib.itoa n)) (by rw [size_bytesL]; show (Lib.itoa n).length ≤ _; omega) n.toNat (pu_back h0 h1) w) ?_
  rintro e w' ⟨he, hw⟩
  refine ⟨(), trivial, ?_, ?_⟩
  · rw [he]; rw [show ((n.toNat : Nat) : Int) = n from by omega]
  · rcases hw with rfl | rfl
    · exact Eff.refl _
    · exact eff_bytes
theorem must_sp (w : World) : Sp Tryz.prog 71 [.bool true] w [] (fun _ : Unit => .tuple #[]) (fun _ => []) (fun _ => True) := by
  refine enter (s := Tryz.sx) [] Tryz.func71 rfl rfl rfl (Eff.refl w) ?_
  repeat' (first | refine g_pv rfl rfl ?_ | refine g_nil ?_ | refine gq_then ?_ | refine gc_seq ?_ | refine gc_region ?_ | refine gc_cond_f rfl ?_ | refine gc_skip ?_)
  exact gq_ret0 (.inl rfl) rfl rfl (fun w' H => ⟨(), trivial, rfl, H⟩)
/-- A reader, whose words are W. -/
def RD (b : Nat) (W : List Bs) (R : RL) : Prop := ∃ ad c g cells, R = [[(b, .cells ⟨[.slice ad W.length c]⟩ 127 (0, 0))], [(g, .cells ⟨cells⟩ 9 (0, 0))]] ∧ W.length ≤ c ∧
  ∀ (i : Nat) x, W[i]? = some x → ∃ o, ad = some (⟨g, o, none⟩ : Addr) ∧ cells[o + i]? = some (.string (mkB x))
theorem take1' : ∀ {l : List Value} {o : Nat} {v : Value}, l[o]? = some v → takeC l o 1 = some [v]
  | [], o, v, h => by simp at h
  | c :: r, 0, v, h => by
    simp only [List.getElem?_cons_zero, Option.some.injEq] at h
    subst h
    cases r <;> rfl
  | c :: r, o + 1, v, h => by
    rw [List.getElem?_cons_succ] at h
    show takeC r o 1 = _
    exact take1' h
theorem take1 {l : List Value} {o k : Nat} {v : Value} (h : l[o]? = some v) (hk : k = o) : takeC l k 1 = some [v] := by subst hk; exact take1' h
theorem RD.tail {W : List Bs} {x : Bs} {ad : Option Addr} {c g : Nat} {cells : List Value} (hc : (x :: W).length ≤ c)
    (h : ∀ (i : Nat) y, (x :: W)[i]? = some y → ∃ o, ad = some (⟨g, o, none⟩ : Addr) ∧ cells[o + i]? = some (.string (mkB y))) :
    ∀ (i : Nat) y, W[i]? = some y → ∃ o, (if c = 1 then ad else ad.map (·.add (1 * 1))) = some (⟨g, o, none⟩ : Addr) ∧ cells[o + i]? = some (.string (mkB y)) := fun i y hy => by
  obtain ⟨o, ha, hcl⟩ := h (i + 1) y hy
  have hne : ¬ c = 1 := fun e => by
    have := (List.getElem?_eq_some_iff.1 hy).1
    rw [List.length_cons] at hc; omega
  refine ⟨o + 1, ?_, by rw [← hcl]; congr 1; omega⟩
  rw [if_neg hne, ha]
  simp [addr_add]
set_option maxHeartbeats 4000000 in
theorem wnext_sp (b : Nat) (x : Bs) (W : List Bs) (R0 : RL) (w : World) (hB : RD b (x :: W) R0) (hE : Eff w R0.flatten w R0.flatten) :
    Sp Tryz.prog 69 [.pointer (some ⟨b, 0, none⟩)] w R0.flatten (fun _ : RL => .string (mkB x)) (fun R => R) (fun R => RD b W R) := by
  obtain ⟨ad, c, g, cells, rfl, hc, hW⟩ := hB
  have hc' : W.length + 1 ≤ c := hc
  obtain ⟨o, rfl, h0⟩ := hW 0 x rfl
  refine enter (s := Tryz.sx) [[(b, .cells ⟨[.slice (some ⟨g, o, none⟩) (W.length + 1) c]⟩ 127 (0, 0))], [(g, .cells ⟨cells⟩ 9 (0, 0))]] Tryz.func69 rfl rfl rfl hE ?_
  repeat' (first | refine g_pv rfl rfl ?_ | refine g_ld 0 rfl rfl rfl rfl rfl rfl ?_ | refine g_nil ?_ | refine gq_then ?_ | refine gc_seq ?_ | refine gc_region ?_)
  refine g_eq 9 (u' := .bool true) rfl (congrArg Value.bool (decide_eq_true (by omega))) ?_
  refine g_call rfl (Cl.of Tryz.func71 rfl rfl) rfl rfl (fun w' hE => must_sp w') rfl (fun _ _ => ?_)
  repeat' (first | refine g_pv rfl rfl ?_ | refine g_ld 0 rfl rfl rfl rfl rfl rfl ?_ | refine g_nil ?_ | refine gq_then ?_ | refine gc_seq ?_ | refine gc_region ?_)
  refine g_p (p_ix rfl rfl rfl rfl (Int.le_refl 0) (by omega)) rfl ?_
  refine g_ld 1 (cs := [.string (mkB x)]) rfl rfl rfl (take1 (by simpa using h0) (by simp)) rfl rfl ?_
  repeat' (first | refine g_pv rfl rfl ?_ | refine g_ld 0 rfl rfl rfl rfl rfl rfl ?_ | refine g_nil ?_ | refine gq_then ?_ | refine gc_seq ?_ | refine gc_region ?_)
  refine g_p (p_lo (l := 1) rfl rfl rfl rfl (Nat.le_add_left 1 _)) rfl ?_
  repeat' (first | refine g_pv rfl rfl ?_ | refine g_nil ?_ | refine gq_then ?_ | refine gc_seq ?_ | refine gc_region ?_ | refine gc_ret ?_ | refine g_st 0 rfl rfl rfl rfl rfl rfl rfl ?_)
  refine gq_ret1 (.inr rfl) rfl rfl rfl (fun w' H => ⟨_, ⟨_, c - 1, g, cells, rfl, Nat.le_sub_of_add_le hc', RD.tail hc hW⟩, rfl, H⟩)
set_option maxHeartbeats 4000000 in
theorem num_sp (b : Nat) (n : Int) (W : List Bs) (R0 : RL) (w : World) (hn : sm n) (hB : RD b (Lib.itoa n :: W) R0) (hE : Eff w R0.flatten w R0.flatten) :
    Sp Tryz.prog 70 [.pointer (some ⟨b, 0, none⟩)] w R0.flatten (fun _ : RL => .int .i64 n) (fun R => R) (fun R => RD b W R) := by
  refine enter (s := Tryz.sx) R0 Tryz.func70 rfl rfl rfl hE ?_
  repeat' (first | refine g_pv rfl rfl ?_ | refine g_nil ?_ | refine gq_then ?_ | refine gc_seq ?_ | refine gc_region ?_)
  refine g_call1 (A := R0) (F := []) (by simp) rfl (Cl.of Tryz.func69 rfl rfl) rfl rfl (fun w' hE' => wnext_sp b _ W R0 w' hB (hp_own (F := []) (by simpa using hE'))) rfl (fun R1 hR1 => ?_)
  repeat' (fail)
  refine g_call rfl (Cl.of Tryz.func113 rfl rfl) rfl rfl (fun w' hE => atoi_sp n w' hn) rfl (fun _ _ => ?_)
  repeat' (first | refine g_pv rfl rfl ?_ | refine g_nil ?_ | refine gq_then ?_ | refine gc_seq ?_ | refine gc_region ?_)
  refine g_p (p_eqI rfl rfl) rfl ?_
  refine g_call rfl (Cl.of Tryz.func71 rfl rfl) rfl rfl (fun w' hE => must_sp w') rfl (fun _ _ => ?_)
  repeat' (first | refine g_pv rfl rfl ?_ | refine g_nil ?_ | refine gq_then ?_ | refine gc_seq ?_ | refine gc_region ?_ | refine gc_ret ?_)
  exact gq_ret1 (.inr rfl) rfl rfl rfl (fun w' H => ⟨R1, hR1, rfl, by simpa [Hp] using H⟩)
theorem eqT_mk (a b : Bs) : ((mkB a).toList == (mkB b).toList) = decide (a = b) := by
  rw [ByteArray.toList_eq, ByteArray.toList_eq]
  show (a == b) = _
  rw [Bool.eq_iff_iff]; simp
def dW (d : Int) : Bs := if d < 0 then [45] else tmpT d
set_option maxHeartbeats 4000000 in
theorem rtmp_sp (b : Nat) (n : Int) (W : List Bs) (R0 : RL) (w : World) (hn : sm n) (h1 : -1 ≤ n) (hB : RD b (dW n :: W) R0) (hE : Eff w R0.flatten w R0.flatten) :
    Sp Tryz.prog 114 [.pointer (some ⟨b, 0, none⟩)] w R0.flatten (fun _ : RL => .int .i64 n) (fun R => R) (fun R => RD b W R) := by
  refine enter (s := Tryz.sx) R0 Tryz.func114 rfl rfl rfl hE ?_
  repeat' (first | refine g_pv rfl rfl ?_ | refine g_nil ?_ | refine gq_then ?_ | refine gc_seq ?_ | refine gc_region ?_)
  refine g_call1 (A := R0) (F := []) (by simp) rfl (Cl.of Tryz.func69 rfl rfl) rfl rfl (fun w' hE' => wnext_sp b _ W R0 w' hB (hp_own (F := []) (by simpa using hE'))) rfl (fun R1 hR1 => ?_)
  repeat' (first | refine g_pv rfl rfl ?_ | refine g_nil ?_ | refine gq_then ?_ | refine gc_seq ?_ | refine gc_region ?_)
  refine g_p (p_eqT rfl rfl rfl) rfl ?_
  repeat' (first | refine g_nil ?_ | refine gq_then ?_)
  by_cases hneg : n < 0
  · have hn1 : n = -1 := by omega
    subst hn1
    refine gc_condC rfl (fun hc => ?_) (fun hc => absurd hc (by decide +kernel))
    repeat' (first | refine g_pv rfl rfl ?_ | refine g_nil ?_ | refine gq_then ?_ | refine gc_seq ?_ | refine gc_region ?_ | refine gc_ret ?_ | refine gq_then_ret ?_)
    exact gq_ret1 (.inr rfl) rfl rfl rfl (fun w' H => ⟨R1, hR1, rfl, by simpa [Hp] using H⟩)
  have ed : dW n = 116 :: Lib.itoa n := by unfold dW tmpT; rw [if_neg hneg]
  rw [ed]
  refine gc_condC rfl (fun hc => by have := (eqT_mk (116 :: Lib.itoa n) [45]).symm.trans hc; simp at this) (fun hc => ?_)
  repeat' (first | refine g_pv rfl rfl ?_ | refine gq_then ?_ | refine gc_seq ?_ | refine gc_region ?_ | refine gc_skip ?_)
  refine g_call rfl (Cl.of Tryz.func75 rfl rfl) rfl rfl (fun w' hE => cutPrefix_sp (mkB (116 :: Lib.itoa n)) ⟨#[116]⟩ w') rfl ?_
  rintro ⟨q, hp⟩ ⟨hq, hh⟩
  dsimp only at hq hh ⊢
  obtain rfl : q = mkB (Lib.itoa n) := mkB_of (hq.trans rfl)
  obtain rfl : hp = true := hh.trans rfl
  repeat' (first | refine g_pv rfl rfl ?_ | refine g_nil ?_ | refine gq_then ?_ | refine gc_seq ?_ | refine gc_region ?_)
  refine g_call rfl (Cl.of Tryz.func113 rfl rfl) rfl rfl (fun w' hE => atoi_sp n w' hn) rfl (fun _ _ => ?_)
  repeat' (first | refine g_pv rfl rfl ?_ | refine g_nil ?_ | refine gq_then ?_ | refine gc_seq ?_ | refine gc_region ?_ | refine g_yes rfl rfl rfl ?_)
  refine g_p (p_eqI rfl rfl) rfl ?_
  repeat' (refine g_pv rfl rfl ?_)
  refine g_call rfl (Cl.of Tryz.func71 rfl rfl) rfl rfl (fun w' hE => must_sp w') rfl (fun _ _ => ?_)
  repeat' (first | refine g_pv rfl rfl ?_ | refine g_nil ?_ | refine gq_then ?_ | refine gc_seq ?_ | refine gc_region ?_ | refine gc_ret ?_)
  exact gq_ret1 (.inr rfl) rfl rfl rfl (fun w' H => ⟨R1, hR1, rfl, by simpa [Hp] using H⟩)
set_option maxHeartbeats 4000000 in
theorem rarg_sp' (b : Nat) (a : Arg) (W : List Bs) (R0 : RL) (w : World) (ha : a.ok) (hk : argK a) (hB : RD b (argT a :: W) R0) (hE : Eff w R0.flatten w R0.flatten) :
    Sp Tryz.prog 115 [.pointer (some ⟨b, 0, none⟩)] w R0.flatten (fun _ : RL => .agg a.cells.toArray) (fun R => R) (fun R => RD b W R) := by
  have hl := itoa_len (ok_in ha)
  have hne : 0 < (Lib.itoa a.n).length := by
    have h0 := ha.1
    have e : Lib.itoa a.n = Lib.decDigits a.n.toNat := by unfold Lib.itoa; rw [if_neg (by omega)]
    rw [e]; exact List.length_pos_iff.2 (dec_ne _)
  have hw : IntKind.u32.wrap a.n = a.n := by
    have := ha.1; have := ha.2
    simp only [IntKind.wrap, IntKind.signed, IntKind.bits]; simp; omega
  refine enter (s := Tryz.sx) R0 Tryz.func115 rfl rfl rfl hE ?_
  repeat' (first | refine g_pv rfl rfl ?_ | refine g_nil ?_ | refine gq_then ?_ | refine gc_seq ?_ | refine gc_region ?_ | refine g_alloc rfl rfl (fun _ => ?_))
  rename_i b2
  refine g_heap (R' := R0 ++ [[(b2, .cells ⟨[.int .i64 0, .int .u32 0]⟩ 40 (0, 0))]]) (fun w H => hp_permL H List.perm_append_comm) ?_
  refine g_call1 (A := R0) (F := [[(b2, .cells ⟨[.int .i64 0, .int .u32 0]⟩ 40 (0, 0))]]) rfl rfl (Cl.of Tryz.func69 rfl rfl) rfl rfl (fun w' hE' => wnext_sp b _ W R0 w' hB (hp_own hE')) rfl (fun R1 hR1 => ?_)
  refine g_heap (R' := [[(b2, .cells ⟨[.int .i64 0, .int .u32 0]⟩ 40 (0, 0))]] ++ R1) (fun w H => hp_permL H List.perm_append_comm) ?_
  repeat' (first | refine g_pv rfl rfl ?_ | refine g_nil ?_ | refine gq_then ?_ | refine gc_seq ?_ | refine gc_region ?_)
  have hsz : (mkB (argT a)).size = (Lib.itoa a.n).length + 1 := by rw [size_bytesL]; rfl
  refine g_eq 10 (u' := .bool true) rfl (congrArg Value.bool (decide_eq_true (by omega))) ?_
  refine g_call rfl (Cl.of Tryz.func71 rfl rfl) rfl rfl (fun w' hE => must_sp w') rfl (fun _ _ => ?_)
  repeat' (first | refine g_pv rfl rfl ?_ | refine g_nil ?_ | refine gq_then ?_ | refine gc_seq ?_ | refine gc_region ?_)
  refine g_p (p_strFrom rfl rfl rfl (by decide) (by omega)) rfl ?_
  have hex : (mkB (argT a)).extract (1 : Int).toNat (mkB (argT a)).size = mkB (Lib.itoa a.n) := mkB_of (by unfold bytesL; rw [Lib.extract_to_end]; rfl)
  refine g_eq 14 (u' := .string (mkB (Lib.itoa a.n))) rfl (congrArg Value.string hex) ?_
  refine g_call rfl (Cl.of Tryz.func145 rfl rfl) rfl rfl (fun w' hE => pu_sp a.n w' ha.1 ha.2) rfl (fun _ _ => ?_)
  repeat' (first | refine g_pv rfl rfl ?_ | refine g_nil ?_ | refine gq_then ?_ | refine gc_seq ?_ | refine gc_region ?_)
  refine g_p (p_eqI rfl rfl) rfl ?_
  rcases hk with hk | hk
  · have ed : argT a = 116 :: Lib.itoa a.n := by unfold argT; rw [if_pos hk]
    have hx : (mkB (argT a)).data.toList[(0 : Int).toNat]? = some 116 := by rw [ed]; rfl
    repeat' (first | refine g_pv rfl rfl ?_ | refine g_yes rfl rfl rfl ?_)
    refine g_p (p_idxT rfl rfl rfl (Int.le_refl 0) hx) rfl ?_
    repeat' (first | refine g_pv rfl rfl ?_ | refine g_yes rfl rfl rfl ?_ | refine g_no rfl rfl rfl rfl rfl ?_)
    refine g_call rfl (Cl.of Tryz.func71 rfl rfl) rfl rfl (fun w' hE => must_sp w') rfl (fun _ _ => ?_)
    repeat' (first | refine g_pv rfl rfl ?_ | refine g_nil ?_ | refine gq_then ?_ | refine gc_seq ?_ | refine gc_region ?_)
    refine g_p (p_idxT rfl rfl rfl (Int.le_refl 0) hx) rfl ?_
    repeat' (first | refine g_pv rfl rfl ?_ | refine g_nil ?_ | refine gq_then ?_ | refine gc_seq ?_ | refine gc_region ?_ | refine gc_cond_t rfl ?_)
    refine g_p (p_build rfl rfl rfl rfl) rfl ?_
    repeat' (first | refine g_nil ?_ | refine gq_then ?_ | refine gc_ret ?_ | refine gq_then_ret ?_ | refine g_st 0 rfl rfl rfl rfl rfl rfl rfl ?_)
    refine gq_retC (.inr rfl) rfl rfl 0 rfl rfl rfl rfl rfl (fun w' H => ⟨R1, hR1, ?_, hp_tail H⟩)
    show Ending.returned (.agg #[.int .i64 1, .int .u32 (IntKind.u32.wrap a.n)]) = _
    rw [hw, ← hk]; rfl
  · have ed : argT a = 35 :: Lib.itoa a.n := by unfold argT; rw [if_neg (by omega)]
    have hx : (mkB (argT a)).data.toList[(0 : Int).toNat]? = some 35 := by rw [ed]; rfl
    repeat' (first | refine g_pv rfl rfl ?_ | refine g_yes rfl rfl rfl ?_)
    refine g_p (p_idxT rfl rfl rfl (Int.le_refl 0) hx) rfl ?_
    repeat' (first | refine g_pv rfl rfl ?_ | refine g_yes rfl rfl rfl ?_)
    refine g_p (p_idxT rfl rfl rfl (Int.le_refl 0) hx) rfl ?_
    repeat' (first | refine g_pv rfl rfl ?_ | refine g_yes rfl rfl rfl ?_)
    refine g_call rfl (Cl.of Tryz.func71 rfl rfl) rfl rfl (fun w' hE => must_sp w') rfl (fun _ _ => ?_)
    repeat' (first | refine g_pv rfl rfl ?_ | refine g_nil ?_ | refine gq_then ?_ | refine gc_seq ?_ | refine gc_region ?_)
    refine g_p (p_idxT rfl rfl rfl (Int.le_refl 0) hx) rfl ?_
    repeat' (first | refine g_pv rfl rfl ?_ | refine g_nil ?_ | refine gq_then ?_ | refine gc_seq ?_ | refine gc_region ?_ | refine gc_cond_f rfl ?_ | refine gc_skip ?_)
    refine g_p (p_build rfl rfl rfl rfl) rfl ?_
    repeat' (first | refine g_nil ?_ | refine gq_then ?_ | refine gc_ret ?_ | refine g_st 0 rfl rfl rfl rfl rfl rfl rfl ?_)
    refine gq_retC (.inr rfl) rfl rfl 0 rfl rfl rfl rfl rfl (fun w' H => ⟨R1, hR1, ?_, hp_tail H⟩)
    show Ending.returned (.agg #[.int .i64 2, .int .u32 (IntKind.u32.wrap a.n)]) = _
    rw [hw, ← hk]; rfl
end Go.Proofs.YtpohhfggmaihpaaGreatDoor

/- tac's reader: maybe, operations; what a line's first word tells. -/
namespace Go.Proofs.YtpohhfggmaihpaaGreatDoor
open Go.Wk
set_option linter.unusedVariables false
set_option linter.unusedSimpArgs false
attribute [local irreducible] G GC GQ GA GS Exit.then Exit.inBlock

set_option maxHeartbeats 4000000 in
theorem maybe0_sp (b : Nat) (k : Bs) (R0 : RL) (w : World) (hB : RD b [] R0) (hE : Eff w R0.flatten w R0.flatten) :
    Sp Tryz.prog 73 [.pointer (some ⟨b, 0, none⟩), .string (mkB k)] w R0.flatten (fun _ : RL => .bool false) (fun R => R) (fun R => RD b [] R) := by
  have hB' := hB
  obtain ⟨ad, c, g, cells, rfl, hc, hW⟩ := hB
  refine enter (s := Tryz.sx) [[(b, .cells ⟨[.slice ad 0 c]⟩ 127 (0, 0))], [(g, .cells ⟨cells⟩ 9 (0, 0))]] Tryz.func73 rfl rfl rfl hE ?_
  repeat' (first | refine g_pv rfl rfl ?_ | refine g_ld 0 rfl rfl rfl rfl rfl rfl ?_ | refine g_nil ?_ | refine gq_then ?_ | refine gc_seq ?_ | refine gc_region ?_ | refine gc_cond_t rfl ?_ | refine gc_ret ?_ | refine gq_then_ret ?_ | refine g_no rfl rfl rfl rfl rfl ?_)
  exact gq_ret1 (.inr rfl) rfl rfl rfl (fun w' H => ⟨_, hB', rfl, H⟩)
set_option maxHeartbeats 4000000 in
theorem maybe1_sp (b : Nat) (k : Bs) (R0 : RL) (w : World) (hB : RD b [k] R0) (hE : Eff w R0.flatten w R0.flatten) :
    Sp Tryz.prog 73 [.pointer (some ⟨b, 0, none⟩), .string (mkB k)] w R0.flatten (fun _ : RL => .bool true) (fun R => R) (fun R => RD b [] R) := by
  obtain ⟨ad, c, g, cells, rfl, hc, hW⟩ := hB
  have hc' : 0 + 1 ≤ c := hc
  obtain ⟨o, rfl, h0⟩ := hW 0 k rfl
  refine enter (s := Tryz.sx) [[(b, .cells ⟨[.slice (some ⟨g, o, none⟩) 1 c]⟩ 127 (0, 0))], [(g, .cells ⟨cells⟩ 9 (0, 0))]] Tryz.func73 rfl rfl rfl hE ?_
  repeat' (first | refine g_pv rfl rfl ?_ | refine g_ld 0 rfl rfl rfl rfl rfl rfl ?_ | refine g_nil ?_ | refine gq_then ?_ | refine gc_seq ?_ | refine gc_region ?_ | refine g_yes rfl rfl rfl ?_)
  refine g_p (p_ix rfl rfl rfl rfl (Int.le_refl 0) (by decide)) rfl ?_
  repeat' (refine g_yes rfl rfl rfl ?_)
  refine g_ld 1 (cs := [.string (mkB k)]) rfl rfl rfl (take1 (by simpa using h0) (by simp)) rfl rfl ?_
  repeat' (first | refine g_pv rfl rfl ?_ | refine g_yes rfl rfl rfl ?_)
  refine g_p (p_neT rfl rfl rfl) rfl ?_
  refine g_eq 19 (u' := .bool false) rfl (congrArg Value.bool (by rw [bne, beq_self_eq_true]; rfl)) ?_
  repeat' (first | refine g_pv rfl rfl ?_ | refine g_ld 0 rfl rfl rfl rfl rfl rfl ?_ | refine g_nil ?_ | refine gq_then ?_ | refine gc_seq ?_ | refine gc_region ?_ | refine gc_cond_f rfl ?_ | refine gc_skip ?_)
  refine g_p (p_lo (l := 1) rfl rfl rfl rfl (Nat.le_refl 1)) rfl ?_
  repeat' (first | refine g_pv rfl rfl ?_ | refine g_nil ?_ | refine gq_then ?_ | refine gc_seq ?_ | refine gc_region ?_ | refine gc_ret ?_ | refine g_st 0 rfl rfl rfl rfl rfl rfl rfl ?_)
  refine gq_ret1 (.inr rfl) rfl rfl rfl (fun w' H => ⟨_, ⟨_, c - 1, g, cells, rfl, Nat.zero_le _, RD.tail hc hW⟩, rfl, H⟩)

/-! ### The operations by their names -/
theorem names_ne : ((List.range 20).all fun i => (List.range 20).all fun j => !(decide (1 ≤ i) && (decide (i < j))) || !decide (nameL (i : Int) = nameL (j : Int))) = true := by kernel_rfl
theorem name_inj {i j : Nat} (h1 : 1 ≤ i) (h : i < j) (h2 : j ≤ 19) : nameL (i : Int) ≠ nameL (j : Int) := by
  have := List.all_eq_true.1 (List.all_eq_true.1 names_ne i (List.mem_range.2 (by omega))) j (List.mem_range.2 (by omega))
  simp only [decide_eq_true h1, decide_eq_true h, Bool.and_self, Bool.not_true, Bool.false_or, Bool.not_eq_true', decide_eq_false_iff_not] at this
  exact this
def OpsOk (kv : List (ByteArray × Value)) (k : Nat) : Prop := ∀ i : Nat, 1 ≤ i → i < k → ml kv (nameL i) = some (.int .i64 i)
set_option maxHeartbeats 4000000 in
theorem operations_sp (w : World) : Sp Tryz.prog 116 [] w [] (fun y : Nat × Array MapEntry × Nat => .map (some y.1)) (fun y => [[(y.1, .map y.2.1 y.2.2)]]) (fun y => ∃ kv, MapIs Value.string kv y.2.1 y.2.2 ∧ OpsOk kv 20) := by
  refine enter (s := Tryz.sx) [] Tryz.func116 rfl rfl rfl (Eff.refl w) ?_
  refine gc_seq ?_
  repeat' (first | refine g_pv rfl rfl ?_ | refine g_nil ?_ | refine gq_then ?_ | refine gc_region ?_)
  refine gc_seq ?_
  repeat' (refine gc_region ?_)
  refine g_mkmap rfl (fun r => ?_)
  repeat' (first | refine g_pv rfl rfl ?_ | refine g_nil ?_ | refine gq_then ?_)
  refine gc_seq ?_
  refine gc_seq ?_
  repeat' (first | refine g_pv rfl rfl ?_ | refine g_nil ?_ | refine gq_then ?_ | refine gc_region ?_ | refine gc_block ?_)
  refine gc_loop (Y := Nat × Array MapEntry × Nat) (fun y => 1 ≤ y.1 ∧ y.1 ≤ 20 ∧ ∃ kv, MapIs Value.string kv y.2.1 y.2.2 ∧ OpsOk kv y.1) (fun y => [(1, .map (some r)), (2, .int .i64 y.1)]) (fun y => [[(r, .map y.2.1 y.2.2)]]) (fun y => 20 - y.1) (1, #[], 0)
    ⟨Nat.le_refl _, by decide, [], mapIs_nil _ _, fun i h1 h2 => by dsimp only at h2; omega⟩ ⟨rfl, rfl, trivial⟩ (fun w' H => H) ?_
  rintro ⟨k, es, clock⟩ ⟨h1, h2, kv, hM, hO⟩
  dsimp only at h1 h2 hM hO ⊢
  repeat' (first | refine g_pv rfl rfl ?_ | refine g_nil ?_ | refine gq_then ?_ | refine gc_seq ?_ | refine gc_region ?_)
  refine gc_condC rfl (fun hc => ?_) (fun hc => ?_)
  rotate_left
  · have hk : k = 20 := by have := of_decide_eq_false hc; omega
    subst hk
    repeat' (first | refine g_pv rfl rfl ?_ | refine g_nil ?_ | refine gq_then ?_ | refine gc_seq ?_ | refine gc_region ?_ | refine gc_exit ?_ | refine gc_ret ?_ | refine gq_then_exit ?_ | refine gq_block_exit ?_)
    exact gq_ret1 (.inr rfl) rfl rfl rfl (fun w' H => ⟨(r, es, clock), ⟨kv, hM, hO⟩, rfl, H⟩)
  have hlt : k ≤ 19 := by have := of_decide_eq_true hc; omega
  repeat' (first | refine g_pv rfl rfl ?_ | refine gq_then ?_ | refine gc_seq ?_ | refine gc_region ?_ | refine gc_block ?_ | refine gc_skip ?_)
  refine g_call rfl (Cl.of Tryz.func61 rfl rfl) rfl rfl (fun w' hE => name_sp k w') rfl ?_
  rintro _ rfl
  repeat' (refine g_pv rfl rfl ?_)
  refine g_upd 0 (kf := Value.string) (k := nameL k) rfl rfl rfl rfl rfl (kl_string (Tryz.sx.ok.at rfl)) hM (fun es' clock' M' => ?_)
  repeat' (first | refine g_pv rfl rfl ?_ | refine g_nil ?_ | refine gq_then ?_ | refine gc_region ?_ | refine gq_block ?_)
  refine gq_again (k + 1, es', clock') ⟨by dsimp only; omega, by dsimp only; omega, _, M', fun i hi hik => ?_⟩ (by dsimp only; omega) ⟨rfl, inc_eq (by omega), trivial⟩ (fun w' H => H)
  dsimp only at hik
  rw [ml_mput]
  by_cases hik' : i = k
  · subst hik'; rw [if_pos rfl]
  · rw [if_neg (name_inj hi (by omega) hlt)]
    exact hO i hi (by omega)

/-! ### The first word -/
def opN (x : Ins) : Bs :=
  if x.op = 1 then k_mov else if x.op = 2 then bytesL (nameL x.bin) else if x.op = 3 then k_addr else if x.op = 4 then k_glob else if x.op = 5 then k_load else if x.op = 6 then k_store else if x.op = 7 then k_copy else
  if x.op = 8 then k_call else if x.op = 9 then k_ret else if x.op = 10 then k_jump else if x.op = 11 then k_branch else if x.op = 12 then k_put else if x.op = 13 then k_get else k_exit
def keyW : List Bs := [k_object, k_data, k_reloc, k_func, k_main, k_slot, k_mov, k_addr, k_glob, k_load, k_store, k_copy, k_call, k_ret, k_jump, k_branch, k_put, k_get, k_exit]
theorem key_ne : ((List.range 20).all fun i => !decide (1 ≤ i) || keyW.all fun k => !decide (bytesL (nameL (i : Int)) = k)) = true := by kernel_rfl
/-- A name that stands for an operation. -/
def binOk (x : Ins) : Prop := x.op = 2 → 1 ≤ x.bin ∧ x.bin ≤ 19
theorem bin_key {x : Ins} (h : binOk x) (h2 : x.op = 2) {k : Bs} (hk : k ∈ keyW) : bytesL (nameL x.bin) ≠ k := by
  obtain ⟨a, b⟩ := h h2
  have := List.all_eq_true.1 key_ne x.bin.toNat (List.mem_range.2 (by omega))
  rw [show ((x.bin.toNat : Nat) : Int) = x.bin from by omega, decide_eq_true (by omega)] at this
  have := List.all_eq_true.1 this k hk
  simpa using this
theorem op_split {x : Ins} (hP : PI x) : x.op = 1 ∨ x.op = 2 ∨ x.op = 3 ∨ x.op = 4 ∨ x.op = 5 ∨ x.op = 6 ∨ x.op = 7 ∨ x.op = 8 ∨ x.op = 9 ∨ x.op = 10 ∨ x.op = 11 ∨ x.op = 12 ∨ x.op = 13 ∨ x.op = 14 := by have := hP.op; omega
theorem opN_key {x : Ins} (hP : PI x) (hb : binOk x) : opN x ≠ k_object ∧ opN x ≠ k_data ∧ opN x ≠ k_reloc ∧ opN x ≠ k_func ∧ opN x ≠ k_main ∧ opN x ≠ k_slot := by
  rcases op_split hP with e | e | e | e | e | e | e | e | e | e | e | e | e | e
  all_goals simp [opN, e]
  all_goals first | decide | exact ⟨bin_key hb e (by decide), bin_key hb e (by decide), bin_key hb e (by decide), bin_key hb e (by decide), bin_key hb e (by decide), bin_key hb e (by decide)⟩
/-- Which operation the first word names. -/
def keyOp (n : Int) : Bs := if n = 1 then k_mov else if n = 3 then k_addr else if n = 4 then k_glob else if n = 5 then k_load else if n = 6 then k_store else if n = 7 then k_copy else if n = 8 then k_call else if n = 9 then k_ret else if n = 10 then k_jump else if n = 11 then k_branch else if n = 12 then k_put else if n = 13 then k_get else k_exit
theorem opN_is {x : Ins} (hP : PI x) (hb : binOk x) {n : Int} (hn : n = 1 ∨ n = 3 ∨ n = 4 ∨ n = 5 ∨ n = 6 ∨ n = 7 ∨ n = 8 ∨ n = 9 ∨ n = 10 ∨ n = 11 ∨ n = 12 ∨ n = 13 ∨ n = 14) : decide (opN x = keyOp n) = decide (x.op = n) := by
  rcases op_split hP with e | e | e | e | e | e | e | e | e | e | e | e | e | e
  all_goals rcases hn with rfl | rfl | rfl | rfl | rfl | rfl | rfl | rfl | rfl | rfl | rfl | rfl | rfl
  all_goals simp [opN, e, keyOp]
  all_goals first | decide | exact bin_key hb e (by decide)
theorem insW_head {x : Ins} (hP : PI x) : ∃ t, insW x = opN x :: t := by
  rcases op_split hP with e | e | e | e | e | e | e | e | e | e | e | e | e | e
  all_goals simp [opN, insW, e]
  all_goals (split <;> exact ⟨_, rfl⟩)
end Go.Proofs.YtpohhfggmaihpaaGreatDoor
