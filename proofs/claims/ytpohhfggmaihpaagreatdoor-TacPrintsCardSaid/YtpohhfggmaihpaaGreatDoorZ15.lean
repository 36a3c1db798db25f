/-
  The document's lines.
  The document's Right.
-/
import Derived.Test.YtpohhfggmaihpaaGreatDoorZ14

/- The document's lines. -/
namespace Go.Proofs.YtpohhfggmaihpaaGreatDoor
open Go.Wk
set_option linter.unusedVariables false
set_option linter.unusedSimpArgs false
attribute [local irreducible] G GC GQ GA GS Exit.then Exit.inBlock

theorem lit1_rd {h : Nat → Option Obj} {g : Nat} {e : TypeId} {fz : Nat × Nat} {q : Bs} (hg : h g = some (.cells ⟨[.string (mkB q)]⟩ e fz)) : Rd h strW 1 (some ⟨g, 0, none⟩) [q] := fun i x hx => by
  have hi : i = 0 := by have := (List.getElem?_eq_some_iff.1 hx).1; simpa using this
  subst hi
  simp only [List.getElem?_cons_zero, Option.some.injEq] at hx
  subst hx
  refine ⟨g, 0, rfl, fun j u hu => ?_⟩
  unfold cellAt
  rw [hg]
  simpa [strW] using hu
theorem ob_preR {p : Pr} {i : Nat} {o : Ob} {q : List Bs} (h : p.obs[i]? = some o) (hq : q <+: obR o) : (p.obs.take i).flatMap obR ++ q <+: prR p := by
  refine (pre_left hq).trans ?_
  rw [← take_flat obR h]
  exact (take_flat_pre obR p.obs (i + 1)).trans (List.IsPrefix.trans (List.prefix_append _ (p.fns.flatMap fnR)) (List.prefix_append _ _))
theorem fn_preR {p : Pr} {i : Nat} {f : Fn} {q : List Bs} (h : p.fns[i]? = some f) (hq : q <+: fnR f) : p.obs.flatMap obR ++ (p.fns.take i).flatMap fnR ++ q <+: prR p := by
  unfold prR
  rw [List.append_assoc, List.append_assoc]
  refine pre_left ?_
  refine (pre_left hq).trans ?_
  rw [← take_flat fnR h]
  exact (take_flat_pre fnR p.fns (i + 1)).trans (List.prefix_append _ _)
theorem pre_snoc' {α β : Type} {f : α → β} {l : List α} {i : Nat} {x : α} (h : l[i]? = some x) : (l.take i).map f ++ [f x] <+: l.map f := by
  have e : (l.take i).map f ++ [f x] = (l.take (i + 1)).map f := by rw [List.take_add_one, h, List.map_append]; rfl
  rw [e]
  exact (List.take_prefix _ _).map f
theorem map_snoc' {α β : Type} {f : α → β} {l : List α} {i : Nat} {x : α} (h : l[i]? = some x) : (l.take (i + 1)).map f = (l.take i).map f ++ [f x] := by rw [List.take_add_one, h, List.map_append]; rfl
theorem room {L M : List Bs} {q : Bs} (h : L ++ [q] <+: M) (hM : M.length ≤ 536870912) : L.length + 1 ≤ 536870912 := by
  have := h.length_le
  rw [List.length_append] at this
  exact Nat.le_trans this hM
theorem lines_le (L : List (List Bs)) : L.length ≤ (txt L).length := by
  induction L with
  | nil => exact Nat.zero_le _
  | cons a t ih =>
    show _ ≤ (lnB a ++ txt t).length
    rw [List.length_append, lnB_len, List.length_cons]; omega
theorem dataT_nil (o : Ob) : obDR o = if dataT o.bytes = [] then [] else [dataT o.bytes] := rfl
def lens1 (L : List Bs) : Nat := (L.map fun x => x.length + 1).sum
theorem lens1_snoc {L : List Bs} {k : Nat} {q : Bs} (h : L[k]? = some q) : lens1 (L.take (k + 1)) = lens1 (L.take k) + (q.length + 1) := by
  unfold lens1; rw [List.take_add_one, h]; simp
theorem lens1_take (L : List Bs) (k : Nat) : lens1 (L.take k) ≤ lens1 L := by
  conv => rhs; rw [← List.take_append_drop k L]
  unfold lens1; rw [List.map_append, List.sum_append]; omega
theorem lens1_flat (L : List Bs) : lens1 L = (L.flatMap (· ++ [10])).length := by
  unfold lens1
  induction L with
  | nil => rfl
  | cons a t ih => rw [List.map_cons, List.sum_cons, ih, List.flatMap_cons, List.length_append, List.length_append]; rfl
theorem wrap2 {a b c : Nat} (h : c = a + (b + 1)) (hc : c ≤ 536870912) : IntKind.i64.wrap (IntKind.i64.wrap ((a : Int) + (b : Int)) + 1) = (c : Int) := by
  rw [IntKind.wrap_i64, IntKind.wrap_i64]; omega
theorem slot_ld {s : Slt} {H1 H2 : Nat → Option Obj} {w' : World} {bb o : Nat} (h1 : Hle H2 (hw w')) (h0 : Hle H1 H2) (hc : ∀ (j : Nat) (u : Value), s.cells[j]? = some u → cellAt H1 bb (o + j) = some u) (m : Nat) {j : Nat} {u v : Value} (hv : s.cells[m]? = some v) (hj : [v][j]? = some u) : w'.cell? ⟨bb, o + m + j, none⟩ = some u := by
  have hj0 : j = 0 := by have := (List.getElem?_eq_some_iff.1 hj).1; simpa using this
  subst hj0
  simp only [List.getElem?_cons_zero, Option.some.injEq] at hj
  subst hj
  rw [← cellAt_hw, Nat.add_zero]
  exact h1.cell (h0.cell (hc _ _ hv))
set_option maxHeartbeats 64000000 in
theorem lines_sp (p : Pr) (w : World) (hp : PrIn (hw w) p) (hPP : PP p) : Sp Tryz.prog 41 [p.val] w [] (fun y : Value × HL => .tuple #[y.1, .bool (decide ((txt (prW p)).length ≤ 1048576))]) (fun y => [y.2]) (fun y => OwnL 9 1 strW y.1 (prR p) y.2) := by
  have hT := txt_len hp hPP
  have hRW : (prW p).map jn = prR p := pr_eq (fun f hf => (hPP.fn f hf).2.2.2)
  have hTR : (txt (prW p)).length = lens1 (prR p) := by rw [txt_eq, hRW, lens1_flat]
  have hN : (prR p).length ≤ 536870912 := by rw [← hRW, List.length_map]; exact Nat.le_trans (lines_le _) hT
  have hol := hp.olen
  have hfl := hp.flen
  refine enter (s := Tryz.sx) [] Tryz.func41 rfl rfl rfl (Eff.refl w) ?_
  refine gc_seq ?_
  repeat' (first | refine g_pv rfl rfl ?_ | refine g_nil ?_ | refine gq_then ?_ | refine gc_region ?_ | refine g_box rfl rfl (fun _ => ?_))
  rename_i b1
  refine gc_seq ?_
  repeat' (first | refine g_pv rfl rfl ?_ | refine g_nil ?_ | refine gq_then ?_ | refine gc_region ?_)
  refine gc_seq ?_
  repeat' (first | refine g_pv rfl rfl ?_ | refine g_nil ?_ | refine gq_then ?_ | refine gc_region ?_)
  refine gc_cut (Y := Value × HL) (fun y => OwnL 9 1 strW y.1 (p.obs.flatMap obR) y.2) (fun y => [(1, .pointer (some ⟨b1, 0, none⟩)), (4, y.1), (5, .int .i64 0)]) (fun y => [[(b1, .cells ⟨p.cells⟩ 25 (0, 0))], y.2]) ?_ ?_
  · repeat' (first | refine g_pv rfl rfl ?_ | refine g_nil ?_ | refine gq_then ?_ | refine gc_seq ?_ | refine gc_region ?_ | refine gc_block ?_)
    refine gc_loop (Y := Value × HL × Nat) (fun y => OwnL 9 1 strW y.1 ((p.obs.take y.2.2).flatMap obR) y.2.1 ∧ y.2.2 ≤ p.obs.length) (fun y => [(1, .pointer (some ⟨b1, 0, none⟩)), (4, y.1), (5, .int .i64 0), (6, .int .i64 y.2.2)]) (fun y => [[(b1, .cells ⟨p.cells⟩ 25 (0, 0))], y.2.1]) (fun y => p.obs.length - y.2.2) (.slice none 0 0, [], 0) ⟨OwnL.nil _ _ _, Nat.zero_le _⟩ ⟨rfl, rfl, rfl, rfl, trivial⟩ (fun w' H => hp_perm H (List.Perm.of_eq rfl)) ?_
    rintro ⟨v, A, i⟩ ⟨ho, hi⟩
    dsimp only at ho hi ⊢
    repeat' (first | refine g_pv rfl rfl ?_ | refine g_ld 0 rfl rfl rfl rfl rfl rfl ?_ | refine g_nil ?_ | refine gq_then ?_ | refine gc_seq ?_ | refine gc_region ?_)
    refine gc_condC rfl (fun cc => ?_) (fun cc => ?_)
    rotate_left
    · have hge : i = p.obs.length := by have := of_decide_eq_false cc; omega
      subst hge
      rw [List.take_length] at ho
      repeat' (first | refine gc_exit ?_ | refine gq_then_exit ?_ | refine gq_block_exit ?_)
      exact gq_at (v, A) ho ⟨rfl, rfl, rfl, trivial⟩ (fun w' H => H)
    have hlt := of_decide_lt cc
    have hxo : p.obs[i]? = some (p.obs[i]) := List.getElem?_eq_getElem hlt
    have hoI := hp.ob _ (List.mem_of_getElem? hxo)
    have hoP := (hPP.ob _ (List.mem_of_getElem? hxo))
    have htk := take_flat obR hxo
    generalize p.obs[i] = o at hxo hoI hoP htk
    have lnm := hoP.1
    have ls := itoa_len22 hoI.size
    have lal := itoa_len22 hoI.align
    repeat' (first | refine g_pv rfl rfl ?_ | refine g_ld 0 rfl rfl rfl rfl rfl rfl ?_ | refine gq_then ?_ | refine gc_seq ?_ | refine gc_region ?_ | refine gc_block ?_ | refine gc_skip ?_)
    refine g_at (l := p.obs) (f := Ob.cells) (u := o) rfl rfl rfl rfl rfl (Int.natCast_nonneg i) (by omega) (hp.obs.le (old_le0 _ w)) hxo rfl rfl rfl rfl (fun ad => ?_)
    repeat' (first | refine g_nil ?_ | refine gq_then ?_ | refine g_alloc rfl rfl (fun _ => ?_) | refine g_st 0 rfl rfl rfl rfl rfl rfl rfl ?_)
    rename_i b7
    refine gc_heap (R' := [[(b7, .cells ⟨o.cells⟩ 66 (0, 0))], [(b1, .cells ⟨p.cells⟩ 25 (0, 0))], A]) (fun w H => H) ?_
    refine gc_seq ?_
    have hrm := room (ob_preR hxo (q := [ob0R o]) ⟨_, (List.append_assoc _ _ _).symm⟩) hN
    refine gc_draw [[(b7, .cells ⟨o.cells⟩ 66 (0, 0))], [(b1, .cells ⟨p.cells⟩ 25 (0, 0))]] [A] rfl (List.Perm.of_eq rfl) ?_
    (refine aP 0 rfl rfl ?_)
    (refine aP 1 rfl rfl ?_)
    (refine aL 2 0 rfl wanted_none rfl rfl rfl rfl rfl ?_)
    refine ga_eq 31 (u' := .string (mkB (bytesL o.nm))) rfl rfl ?_
    refine aQ 3 rfl (p_addW rfl rfl (by simp only [List.length_append, List.length_cons, List.length_nil]; omega)) ?_
    refine aQ 4 rfl (p_addW rfl rfl (by simp only [List.length_append, List.length_cons, List.length_nil]; omega)) ?_
    (refine aP 5 rfl rfl ?_)
    (refine aL 6 0 rfl wanted_none rfl rfl rfl rfl rfl ?_)
    (refine aP 10 rfl rfl ?_)
    (refine aL 11 0 rfl wanted_none rfl rfl rfl rfl rfl ?_)
    refine aO 7 rfl (fun K hK => ?_)
    refine g_call rfl (Cl.of Tryz.func62 rfl rfl) rfl rfl (fun w' hE => rdec_sp o.size w' hoI.size) rfl (fun s1 hs1 => ?_)
    obtain rfl := mkB_of hs1
    refine g_nil ?_
    refine hK _ _ ⟨[A], List.Perm.of_eq rfl⟩ ?_
    refine aQ 8 rfl (p_addW rfl rfl (by simp only [List.length_append, List.length_cons, List.length_nil]; omega)) ?_
    refine aQ 9 rfl (p_addW rfl rfl (by simp only [List.length_append, List.length_cons, List.length_nil]; omega)) ?_
    refine aO 12 rfl (fun K hK => ?_)
    refine g_call rfl (Cl.of Tryz.func62 rfl rfl) rfl rfl (fun w' hE => rdec_sp o.align w' hoI.align) rfl (fun s2 hs2 => ?_)
    obtain rfl := mkB_of hs2
    refine g_nil ?_
    refine hK _ _ ⟨[A], List.Perm.of_eq rfl⟩ ?_
    refine aQ 13 rfl (p_addW rfl rfl (by simp only [List.length_append, List.length_cons, List.length_nil]; omega)) ?_
    refine aO 14 rfl (fun K hK => ?_)
    refine g_litL rfl rfl rfl rfl rfl rfl rfl rfl rfl rfl (fun g => ?_)
    refine g_nil ?_
    refine hK _ _ ⟨[_, A], List.perm_middle⟩ ?_
    refine aO 15 rfl (fun K hK => ?_)
    refine g_appL 3 (f := strW) (m := [ob0R o]) rfl rfl rfl rfl rfl rfl rfl ho (fun _ => rfl) (fun w' H => lit1_rd (hp_in H 0 rfl g _ List.mem_cons_self)) (fun _ => rfl) (Nat.le_trans hrm (by decide)) (Nat.le_trans (Nat.mul_le_mul_right 16 hrm) (by decide)) rfl (fun v2 A2 ho2 => ?_)
    refine g_nil ?_
    refine hK _ _ ⟨[_, A2], List.perm_middle⟩ ?_
    (refine aP 16 rfl rfl ?_)
    refine ga_nil (by kernel_rfl) ?_
    refine gq_then ?_
    refine gc_heap (R' := [[(b7, .cells ⟨o.cells⟩ 66 (0, 0))], [(b1, .cells ⟨p.cells⟩ 25 (0, 0))], A2]) (fun w H => hp_tail H) ?_
    refine gc_seq ?_
    repeat' (first | refine g_pv rfl rfl ?_ | refine g_ld 0 rfl rfl rfl rfl rfl rfl ?_ | refine gc_region ?_)
    refine g_call rfl (Cl.of Tryz.func63 rfl rfl) rfl rfl (fun w' hE => data_sp o.bytes o.bA o.bC w' (hoI.bytes.le (fun b o h => old_le hE b o (old_le0 _ w b o h))) hoI.bs (by have := hoP.2.1; omega)) rfl (fun sd hsd => ?_)
    obtain rfl := mkB_of hsd
    repeat' (first | refine g_pv rfl rfl ?_ | refine g_nil ?_ | refine gq_then ?_)
    refine gc_cut (Y := Value × HL) (fun y => OwnL 9 1 strW y.1 ((p.obs.take i).flatMap obR ++ ([ob0R o] ++ obDR o)) y.2) (fun y => [(1, .pointer (some ⟨b1, 0, none⟩)), (4, y.1), (5, .int .i64 0), (6, .int .i64 i), (7, .pointer (some ⟨b7, 0, none⟩))]) (fun y => [[(b7, .cells ⟨o.cells⟩ 66 (0, 0))], [(b1, .cells ⟨p.cells⟩ 25 (0, 0))], y.2]) ?_ ?_
    · repeat' (first | refine g_pv rfl rfl ?_ | refine gc_seq ?_ | refine gc_region ?_)
      refine g_p (p_neT rfl rfl rfl) rfl ?_
      repeat' (first | refine g_nil ?_ | refine gq_then ?_)
      refine gc_condC rfl (fun ch => ?_) (fun ch => ?_)
      · rw [neT_nil, Bool.not_eq_true', decide_eq_false_iff_not] at ch
        have hd : obDR o = [dataT o.bytes] := by rw [dataT_nil, if_neg ch]
        have hrm2 := room (L := (p.obs.take i).flatMap obR ++ [ob0R o]) (q := dataT o.bytes) (by rw [List.append_assoc]; exact ob_preR hxo (by unfold obR; rw [hd]; exact ⟨_, rfl⟩)) hN
        repeat' (first | refine g_pv rfl rfl ?_ | refine gc_region ?_)
        refine g_app1L 2 (f := strW) (q := dataT o.bytes) rfl rfl rfl rfl rfl rfl rfl rfl rfl rfl rfl rfl ho2 (Nat.le_trans hrm2 (by decide)) (Nat.le_trans (Nat.mul_le_mul_right 16 hrm2) (by decide)) rfl rfl (fun v3 A3 g3 ho3 => ?_)
        repeat' (first | refine g_pv rfl rfl ?_ | refine g_nil ?_)
        exact gq_at (v3, A3) (by rw [hd, ← List.append_assoc]; exact ho3) ⟨rfl, rfl, rfl, rfl, rfl, trivial⟩ (fun w' H => H)
      · rw [neT_nil, Bool.not_eq_false', decide_eq_true_eq] at ch
        have hd : obDR o = [] := by rw [dataT_nil, if_pos ch]
        repeat' (refine gc_skip ?_)
        exact gq_at (v2, A2) (by rw [hd, List.append_nil]; exact ho2) ⟨rfl, rfl, rfl, rfl, rfl, trivial⟩ (fun w' H => H)
    rintro ⟨v3, A3⟩ ho3
    dsimp only at ho3 ⊢
    repeat' (first | refine g_pv rfl rfl ?_ | refine g_nil ?_ | refine gq_then ?_ | refine gc_seq ?_ | refine gc_region ?_ | refine gc_block ?_)
    refine gc_loop (Y := Value × HL × Nat) (fun y => OwnL 9 1 strW y.1 ((p.obs.take i).flatMap obR ++ ([ob0R o] ++ obDR o ++ (o.rels.take y.2.2).map relR)) y.2.1 ∧ y.2.2 ≤ o.rels.length) (fun y => [(1, .pointer (some ⟨b1, 0, none⟩)), (4, y.1), (5, .int .i64 0), (6, .int .i64 i), (7, .pointer (some ⟨b7, 0, none⟩)), (9, .int .i64 y.2.2)]) (fun y => [[(b7, .cells ⟨o.cells⟩ 66 (0, 0))], [(b1, .cells ⟨p.cells⟩ 25 (0, 0))], y.2.1]) (fun y => o.rels.length - y.2.2) (v3, A3, 0) ⟨by rw [List.take_zero, List.map_nil, List.append_nil]; exact ho3, Nat.zero_le _⟩ ⟨rfl, rfl, rfl, rfl, rfl, rfl, trivial⟩ (fun w' H => H) ?_
    rintro ⟨v4, A4, k⟩ ⟨ho4, hk⟩
    dsimp only at ho4 hk ⊢
    have hrl := hoI.rlen
    repeat' (first | refine g_pv rfl rfl ?_ | refine g_ld 0 rfl rfl rfl rfl rfl rfl ?_ | refine g_nil ?_ | refine gq_then ?_ | refine gc_seq ?_ | refine gc_region ?_)
    refine gc_condC rfl (fun ck => ?_) (fun ck => ?_)
    rotate_left
    · have hge : k = o.rels.length := by have := of_decide_eq_false ck; omega
      subst hge
      rw [List.take_length] at ho4
      repeat' (first | refine g_pv rfl rfl ?_ | refine g_nil ?_ | refine gq_then ?_ | refine gc_region ?_ | refine gc_exit ?_ | refine gq_then_exit ?_ | refine gq_block ?_ | refine gq_block_exit ?_)
      exact gq_again (v4, A4, i + 1) ⟨by rw [htk]; exact ho4, hlt⟩ (by dsimp only; omega) ⟨rfl, rfl, rfl, inc_eq (by omega), trivial⟩ (fun w' H => hp_tail H)
    have hlk := of_decide_lt ck
    have hxr : o.rels[k]? = some (o.rels[k]) := List.getElem?_eq_getElem hlk
    have hrI := hoI.rs _ (List.mem_of_getElem? hxr)
    have hmk := map_snoc' (f := relR) hxr
    have hpk := pre_snoc' (f := relR) hxr
    generalize o.rels[k] = r at hxr hrI hmk hpk
    have l1 := itoa_len22 hrI.1
    have l2 := itoa_len22 hrI.2.1
    have l3 := itoa_len22 hrI.2.2
    have hrm3 := room (L := (p.obs.take i).flatMap obR ++ ([ob0R o] ++ obDR o ++ (o.rels.take k).map relR)) (q := relR r) (by rw [List.append_assoc]; exact ob_preR hxo (by unfold obR; rw [List.append_assoc]; exact pre_left hpk)) hN
    repeat' (first | refine g_pv rfl rfl ?_ | refine g_ld 0 rfl rfl rfl rfl rfl rfl ?_ | refine gq_then ?_ | refine gc_seq ?_ | refine gc_region ?_ | refine gc_block ?_ | refine gc_skip ?_)
    refine g_at (l := o.rels) (f := Rel.cells) (u := r) rfl rfl rfl rfl rfl (Int.natCast_nonneg k) (by omega) (hoI.rels.le (old_le0 _ w)) hxr rfl rfl rfl rfl (fun ad => ?_)
    repeat' (first | refine g_nil ?_ | refine gq_then ?_ | refine g_alloc rfl rfl (fun _ => ?_) | refine g_st 0 rfl rfl rfl rfl rfl rfl rfl ?_)
    rename_i b10
    refine gc_heap (R' := [[(b10, .cells ⟨r.cells⟩ 78 (0, 0))], [(b7, .cells ⟨o.cells⟩ 66 (0, 0))], [(b1, .cells ⟨p.cells⟩ 25 (0, 0))], A4]) (fun w H => H) ?_
    refine gc_draw [[(b10, .cells ⟨r.cells⟩ 78 (0, 0))], [(b7, .cells ⟨o.cells⟩ 66 (0, 0))], [(b1, .cells ⟨p.cells⟩ 25 (0, 0))]] [A4] rfl (List.Perm.of_eq rfl) ?_
    (refine aP 0 rfl rfl ?_)
    (refine aP 1 rfl rfl ?_)
    (refine aL 2 0 rfl wanted_none rfl rfl rfl rfl rfl ?_)
    (refine aP 6 rfl rfl ?_)
    (refine aL 7 0 rfl wanted_none rfl rfl rfl rfl rfl ?_)
    (refine aP 11 rfl rfl ?_)
    (refine aL 12 0 rfl wanted_none rfl rfl rfl rfl rfl ?_)
    refine aO 3 rfl (fun K hK => ?_)
    refine g_call rfl (Cl.of Tryz.func62 rfl rfl) rfl rfl (fun w' hE => rdec_sp r.off w' hrI.1) rfl (fun s1 hs1 => ?_)
    obtain rfl := mkB_of hs1
    refine g_nil ?_
    refine hK _ _ ⟨[A4], List.Perm.of_eq rfl⟩ ?_
    refine aQ 4 rfl (p_addW rfl rfl (by simp only [List.length_append, List.length_cons, List.length_nil]; omega)) ?_
    refine aQ 5 rfl (p_addW rfl rfl (by simp only [List.length_append, List.length_cons, List.length_nil]; omega)) ?_
    refine aO 8 rfl (fun K hK => ?_)
    refine g_call rfl (Cl.of Tryz.func62 rfl rfl) rfl rfl (fun w' hE => rdec_sp r.gl w' hrI.2.1) rfl (fun s2 hs2 => ?_)
    obtain rfl := mkB_of hs2
    refine g_nil ?_
    refine hK _ _ ⟨[A4], List.Perm.of_eq rfl⟩ ?_
    refine aQ 9 rfl (p_addW rfl rfl (by simp only [List.length_append, List.length_cons, List.length_nil]; omega)) ?_
    refine aQ 10 rfl (p_addW rfl rfl (by simp only [List.length_append, List.length_cons, List.length_nil]; omega)) ?_
    refine aO 13 rfl (fun K hK => ?_)
    refine g_call rfl (Cl.of Tryz.func62 rfl rfl) rfl rfl (fun w' hE => rdec_sp r.add w' hrI.2.2) rfl (fun s3 hs3 => ?_)
    obtain rfl := mkB_of hs3
    refine g_nil ?_
    refine hK _ _ ⟨[A4], List.Perm.of_eq rfl⟩ ?_
    refine aQ 14 rfl (p_addW rfl rfl (by simp only [List.length_append, List.length_cons, List.length_nil]; omega)) ?_
    refine aO 15 rfl (fun K hK => ?_)
    refine g_litL rfl rfl rfl rfl rfl rfl rfl rfl rfl rfl (fun g => ?_)
    refine g_nil ?_
    refine hK _ _ ⟨[_, A4], List.perm_middle⟩ ?_
    refine aO 16 rfl (fun K hK => ?_)
    refine g_appL 4 (f := strW) (m := [relR r]) rfl rfl rfl rfl rfl rfl rfl ho4 (fun _ => rfl) (fun w' H => lit1_rd (hp_in H 0 rfl g _ List.mem_cons_self)) (fun _ => rfl) (Nat.le_trans hrm3 (by decide)) (Nat.le_trans (Nat.mul_le_mul_right 16 hrm3) (by decide)) rfl (fun v5 A5 ho5 => ?_)
    refine g_nil ?_
    refine hK _ _ ⟨[_, A5], List.perm_middle⟩ ?_
    (refine aP 17 rfl rfl ?_)
    refine ga_nil (by kernel_rfl) ?_
    repeat' (first | refine g_pv rfl rfl ?_ | refine g_nil ?_ | refine gq_then ?_ | refine gc_region ?_ | refine gq_block ?_)
    exact gq_again (v5, A5, k + 1) ⟨by rw [hmk]; simpa only [List.append_assoc] using ho5, hlk⟩ (by dsimp only; omega) ⟨rfl, rfl, rfl, rfl, rfl, inc_eq (by omega), trivial⟩ (fun w' H => hp_tail (hp_tail H))
  rintro ⟨v0, A0⟩ ho0
  dsimp only at ho0 ⊢
  refine gc_cut (Y := Value × HL) (fun y => OwnL 9 1 strW y.1 (p.obs.flatMap obR ++ p.fns.flatMap fnR) y.2) (fun y => [(1, .pointer (some ⟨b1, 0, none⟩)), (4, y.1), (5, .int .i64 0)]) (fun y => [[(b1, .cells ⟨p.cells⟩ 25 (0, 0))], y.2]) ?_ ?_
  · repeat' (first | refine g_pv rfl rfl ?_ | refine g_nil ?_ | refine gq_then ?_ | refine gc_seq ?_ | refine gc_region ?_ | refine gc_block ?_)
    refine gc_loop (Y := Value × HL × Nat) (fun y => OwnL 9 1 strW y.1 (p.obs.flatMap obR ++ (p.fns.take y.2.2).flatMap fnR) y.2.1 ∧ y.2.2 ≤ p.fns.length) (fun y => [(1, .pointer (some ⟨b1, 0, none⟩)), (4, y.1), (5, .int .i64 0), (11, .int .i64 y.2.2)]) (fun y => [[(b1, .cells ⟨p.cells⟩ 25 (0, 0))], y.2.1]) (fun y => p.fns.length - y.2.2) (v0, A0, 0) ⟨by rw [List.take_zero, List.flatMap_nil, List.append_nil]; exact ho0, Nat.zero_le _⟩ ⟨rfl, rfl, rfl, rfl, trivial⟩ (fun w' H => H) ?_
    rintro ⟨v, A, i⟩ ⟨ho, hi⟩
    dsimp only at ho hi ⊢
    repeat' (first | refine g_pv rfl rfl ?_ | refine g_ld 0 rfl rfl rfl rfl rfl rfl ?_ | refine g_nil ?_ | refine gq_then ?_ | refine gc_seq ?_ | refine gc_region ?_)
    refine gc_condC rfl (fun cc => ?_) (fun cc => ?_)
    rotate_left
    · have hge : i = p.fns.length := by have := of_decide_eq_false cc; omega
      subst hge
      rw [List.take_length] at ho
      repeat' (first | refine gc_exit ?_ | refine gq_then_exit ?_ | refine gq_block_exit ?_)
      exact gq_at (v, A) ho ⟨rfl, rfl, rfl, trivial⟩ (fun w' H => H)
    have hlt := of_decide_lt cc
    have hxf : p.fns[i]? = some (p.fns[i]) := List.getElem?_eq_getElem hlt
    have hfI := hp.fn _ (List.mem_of_getElem? hxf)
    have hfP := (hPP.fn _ (List.mem_of_getElem? hxf))
    have htk := take_flat fnR hxf
    generalize p.fns[i] = f at hxf hfI hfP htk
    have lnm := hfP.1
    have ls := itoa_len22 hfI.pa
    have lt := itoa_len22 hfI.te
    repeat' (first | refine g_pv rfl rfl ?_ | refine g_ld 0 rfl rfl rfl rfl rfl rfl ?_ | refine gq_then ?_ | refine gc_seq ?_ | refine gc_region ?_ | refine gc_block ?_ | refine gc_skip ?_)
    refine g_at (l := p.fns) (f := Fn.cells) (u := f) rfl rfl rfl rfl rfl (Int.natCast_nonneg i) (by omega) (hp.fns.le (old_le0 _ w)) hxf rfl rfl rfl rfl (fun ad => ?_)
    repeat' (first | refine g_nil ?_ | refine gq_then ?_ | refine g_alloc rfl rfl (fun _ => ?_) | refine g_st 0 rfl rfl rfl rfl rfl rfl rfl ?_)
    rename_i b12
    refine gc_heap (R' := [[(b12, .cells ⟨f.cells⟩ 32 (0, 0))], [(b1, .cells ⟨p.cells⟩ 25 (0, 0))], A]) (fun w H => H) ?_
    refine gc_seq ?_
    refine gc_draw [[(b12, .cells ⟨f.cells⟩ 32 (0, 0))], [(b1, .cells ⟨p.cells⟩ 25 (0, 0))]] [A] rfl (List.Perm.of_eq rfl) ?_
    (refine aP 0 rfl rfl ?_)
    (refine aL 1 0 rfl wanted_none rfl rfl rfl rfl rfl ?_)
    refine ga_eq 99 (u' := .string (mkB (bytesL f.nm))) rfl rfl ?_
    refine aQ 2 rfl (p_addW rfl rfl (by simp only [List.length_append, List.length_cons, List.length_nil]; omega)) ?_
    refine aQ 3 rfl (p_addW rfl rfl (by simp only [List.length_append, List.length_cons, List.length_nil]; omega)) ?_
    (refine aP 4 rfl rfl ?_)
    (refine aL 5 0 rfl wanted_none rfl rfl rfl rfl rfl ?_)
    (refine aP 9 rfl rfl ?_)
    (refine aL 10 0 rfl wanted_none rfl rfl rfl rfl rfl ?_)
    refine aO 6 rfl (fun K hK => ?_)
    refine g_call rfl (Cl.of Tryz.func62 rfl rfl) rfl rfl (fun w' hE => rdec_sp f.pa w' hfI.pa) rfl (fun s1 hs1 => ?_)
    obtain rfl := mkB_of hs1
    refine g_nil ?_
    refine hK _ _ ⟨[A], List.Perm.of_eq rfl⟩ ?_
    refine aQ 7 rfl (p_addW rfl rfl (by simp only [List.length_append, List.length_cons, List.length_nil]; omega)) ?_
    refine aQ 8 rfl (p_addW rfl rfl (by simp only [List.length_append, List.length_cons, List.length_nil]; omega)) ?_
    refine aO 11 rfl (fun K hK => ?_)
    refine g_call rfl (Cl.of Tryz.func62 rfl rfl) rfl rfl (fun w' hE => rdec_sp f.te w' hfI.te) rfl (fun s2 hs2 => ?_)
    obtain rfl := mkB_of hs2
    refine g_nil ?_
    refine hK _ _ ⟨[A], List.Perm.of_eq rfl⟩ ?_
    refine aQ 12 rfl (p_addW rfl rfl (by simp only [List.length_append, List.length_cons, List.length_nil]; omega)) ?_
    (refine aP 13 rfl rfl ?_)
    refine ga_nil (by kernel_rfl) ?_
    refine gq_then ?_
    refine gc_cut (Y := Unit) (fun _ => True) (fun _ => [(1, .pointer (some ⟨b1, 0, none⟩)), (4, v), (5, .int .i64 0), (11, .int .i64 i), (12, .pointer (some ⟨b12, 0, none⟩)), (13, .string (mkB (fn0R f)))]) (fun _ => [[(b12, .cells ⟨f.cells⟩ 32 (0, 0))], [(b1, .cells ⟨p.cells⟩ 25 (0, 0))], A]) ?_ ?_
    · repeat' (first | refine g_pv rfl rfl ?_ | refine g_ld 0 rfl rfl rfl rfl rfl rfl ?_ | refine g_nil ?_ | refine gq_then ?_ | refine gc_seq ?_ | refine gc_region ?_)
      refine gc_condC rfl (fun cg => ?_) (fun cg => ?_)
      · repeat' (first | refine g_pv rfl rfl ?_ | refine gc_region ?_)
        refine g_p (p_addW rfl rfl (by simp only [List.length_append, List.length_cons, List.length_nil]; omega)) rfl ?_
        repeat' (first | refine g_pv rfl rfl ?_ | refine g_nil ?_)
        exact gq_at () trivial ⟨rfl, rfl, rfl, rfl, rfl, by unfold fn0R; rw [if_pos cg]; rfl, trivial⟩ (fun w' H => H)
      · repeat' (refine gc_skip ?_)
        exact gq_at () trivial ⟨rfl, rfl, rfl, rfl, rfl, by unfold fn0R; rw [if_neg (by rw [show f.gi = false from cg]; decide), List.append_nil]; rfl, trivial⟩ (fun w' H => H)
    rintro ⟨⟩ -
    have hrm := room (fn_preR hxf (q := [fn0R f]) ⟨_, (List.append_assoc _ _ _).symm⟩) hN
    repeat' (first | refine g_pv rfl rfl ?_ | refine gc_seq ?_ | refine gc_region ?_)
    refine g_app1L 2 (f := strW) (q := fn0R f) rfl rfl rfl rfl rfl rfl rfl rfl rfl rfl rfl rfl ho (Nat.le_trans hrm (by decide)) (Nat.le_trans (Nat.mul_le_mul_right 16 hrm) (by decide)) rfl rfl (fun v2 A2 g2 ho2 => ?_)
    refine g_heap (R' := [[(b12, .cells ⟨f.cells⟩ 32 (0, 0))], [(b1, .cells ⟨p.cells⟩ 25 (0, 0))], A2]) (fun w H => H) ?_
    repeat' (first | refine g_pv rfl rfl ?_ | refine g_nil ?_ | refine gq_then ?_ | refine gc_seq ?_ | refine gc_region ?_ | refine gc_block ?_)
    refine gc_loop (Y := Value × HL × Nat) (fun y => OwnL 9 1 strW y.1 (p.obs.flatMap obR ++ (p.fns.take i).flatMap fnR ++ ([fn0R f] ++ (f.slots.take y.2.2).map slotX)) y.2.1 ∧ y.2.2 ≤ f.slots.length) (fun y => [(1, .pointer (some ⟨b1, 0, none⟩)), (4, y.1), (5, .int .i64 0), (11, .int .i64 i), (12, .pointer (some ⟨b12, 0, none⟩)), (14, .int .i64 y.2.2)]) (fun y => [[(b12, .cells ⟨f.cells⟩ 32 (0, 0))], [(b1, .cells ⟨p.cells⟩ 25 (0, 0))], y.2.1]) (fun y => f.slots.length - y.2.2) (v2, A2, 0) ⟨by rw [List.take_zero, List.map_nil, List.append_nil]; exact ho2, Nat.zero_le _⟩ ⟨rfl, rfl, rfl, rfl, rfl, rfl, trivial⟩ (fun w' H => H) ?_
    rintro ⟨v4, A4, k⟩ ⟨ho4, hk⟩
    dsimp only at ho4 hk ⊢
    have hsl := hfI.slen
    repeat' (first | refine g_pv rfl rfl ?_ | refine g_ld 0 rfl rfl rfl rfl rfl rfl ?_ | refine g_nil ?_ | refine gq_then ?_ | refine gc_seq ?_ | refine gc_region ?_)
    refine gc_condC rfl (fun ck => ?_) (fun ck => ?_)
    · have hlk := of_decide_lt ck
      have hxs : f.slots[k]? = some (f.slots[k]) := List.getElem?_eq_getElem hlk
      have hsI := hfI.ss _ (List.mem_of_getElem? hxs)
      have hmk := map_snoc' (f := slotX) hxs
      have hpk := pre_snoc' (f := slotX) hxs
      generalize f.slots[k] = s at hxs hsI hmk hpk
      have l1 := itoa_len22 hsI.1
      have l2 := itoa_len22 hsI.2
      obtain ⟨bb, oo, hA, hcq⟩ := hfI.slots k s hxs
      have hrm3 := room (L := p.obs.flatMap obR ++ (p.fns.take i).flatMap fnR ++ ([fn0R f] ++ (f.slots.take k).map slotX)) (q := slotX s) (by rw [List.append_assoc]; exact fn_preR hxf (by unfold fnR; rw [List.append_assoc, List.append_assoc]; exact pre_left (hpk.trans (List.prefix_append _ _)))) hN
      repeat' (first | refine gq_then ?_ | refine gc_seq ?_ | refine gc_block ?_ | refine gc_skip ?_)
      refine gc_draw [[(b12, .cells ⟨f.cells⟩ 32 (0, 0))], [(b1, .cells ⟨p.cells⟩ 25 (0, 0))]] [A4] rfl (List.Perm.of_eq rfl) ?_
      (refine aP 0 rfl rfl ?_)
      (refine aP 1 rfl rfl ?_)
      (refine aL 2 0 rfl wanted_none rfl rfl rfl rfl rfl ?_)
      (refine aP 3 rfl rfl ?_)
      refine aQ 4 rfl (p_ix (bx := bb) (o := oo) (by show some (Value.slice f.sA _ _) = _; rw [hA]) rfl rfl rfl (Int.natCast_nonneg k) (by omega)) ?_
      (refine aP 5 rfl rfl ?_)
      refine ga_ldG 6 (cs := [.int .i64 s.size]) (by repeat first | exact NoP.sp | apply NoP.then | apply NoP.block) rfl wanted_none rfl rfl rfl rfl (fun w' hS j u hj => slot_ld (still_old hS) (old_le0 _ w) hcq 0 rfl hj) rfl (by kernel_rfl) (by kernel_rfl) (by kernel_rfl) ?_
      (refine aP 10 rfl rfl ?_)
      (refine aL 11 0 rfl wanted_none rfl rfl rfl rfl rfl ?_)
      (refine aP 12 rfl rfl ?_)
      refine aQ 13 rfl (p_ix (bx := bb) (o := oo) (by show some (Value.slice f.sA _ _) = _; rw [hA]) rfl rfl rfl (Int.natCast_nonneg k) (by omega)) ?_
      (refine aP 14 rfl rfl ?_)
      refine ga_ldG 15 (cs := [.int .i64 s.align]) (by repeat first | exact NoP.sp | apply NoP.then | apply NoP.block) rfl wanted_none rfl rfl rfl rfl (fun w' hS j u hj => slot_ld (still_old hS) (old_le0 _ w) hcq 1 rfl hj) rfl (by kernel_rfl) (by kernel_rfl) (by kernel_rfl) ?_
      refine aO 7 rfl (fun K hK => ?_)
      refine g_call rfl (Cl.of Tryz.func62 rfl rfl) rfl rfl (fun w' hE => rdec_sp s.size w' hsI.1) rfl (fun s1 hs1 => ?_)
      obtain rfl := mkB_of hs1
      refine g_nil ?_
      refine hK _ _ ⟨[A4], List.Perm.of_eq rfl⟩ ?_
      refine aQ 8 rfl (p_addW rfl rfl (by simp only [List.length_append, List.length_cons, List.length_nil]; omega)) ?_
      refine aQ 9 rfl (p_addW rfl rfl (by simp only [List.length_append, List.length_cons, List.length_nil]; omega)) ?_
      refine aO 16 rfl (fun K hK => ?_)
      refine g_call rfl (Cl.of Tryz.func62 rfl rfl) rfl rfl (fun w' hE => rdec_sp s.align w' hsI.2) rfl (fun s2 hs2 => ?_)
      obtain rfl := mkB_of hs2
      refine g_nil ?_
      refine hK _ _ ⟨[A4], List.Perm.of_eq rfl⟩ ?_
      refine aQ 17 rfl (p_addW rfl rfl (by simp only [List.length_append, List.length_cons, List.length_nil]; omega)) ?_
      refine aO 18 rfl (fun K hK => ?_)
      refine g_litL rfl rfl rfl rfl rfl rfl rfl rfl rfl rfl (fun g => ?_)
      refine g_nil ?_
      refine hK _ _ ⟨[_, A4], List.perm_middle⟩ ?_
      refine aO 19 rfl (fun K hK => ?_)
      refine g_appL 3 (f := strW) (m := [slotX s]) rfl rfl rfl rfl rfl rfl rfl ho4 (fun _ => rfl) (fun w' H => lit1_rd (hp_in H 0 rfl g _ List.mem_cons_self)) (fun _ => rfl) (Nat.le_trans hrm3 (by decide)) (Nat.le_trans (Nat.mul_le_mul_right 16 hrm3) (by decide)) rfl (fun v5 A5 ho5 => ?_)
      refine g_nil ?_
      refine hK _ _ ⟨[_, A5], List.perm_middle⟩ ?_
      (refine aP 20 rfl rfl ?_)
      refine ga_nil (by kernel_rfl) ?_
      repeat' (first | refine g_pv rfl rfl ?_ | refine g_nil ?_ | refine gq_then ?_ | refine gc_region ?_ | refine gq_block ?_)
      exact gq_again (v5, A5, k + 1) ⟨by rw [hmk]; simpa only [List.append_assoc] using ho5, hlk⟩ (by dsimp only; omega) ⟨rfl, rfl, rfl, rfl, rfl, inc_eq (by omega), trivial⟩ (fun w' H => hp_tail H)
    have hge : k = f.slots.length := by have := of_decide_eq_false ck; omega
    subst hge
    rw [List.take_length] at ho4
    repeat' (first | refine g_pv rfl rfl ?_ | refine g_nil ?_ | refine gq_then ?_ | refine gc_seq ?_ | refine gc_region ?_ | refine gc_block ?_ | refine gc_exit ?_ | refine gq_then_exit ?_ | refine gq_block_exit ?_)
    refine gc_loop (Y := Value × HL × Nat) (fun y => OwnL 9 1 strW y.1 (p.obs.flatMap obR ++ (p.fns.take i).flatMap fnR ++ ([fn0R f] ++ f.slots.map slotX ++ (f.code.take y.2.2).map lineT)) y.2.1 ∧ y.2.2 ≤ f.code.length) (fun y => [(1, .pointer (some ⟨b1, 0, none⟩)), (4, y.1), (5, .int .i64 0), (11, .int .i64 i), (12, .pointer (some ⟨b12, 0, none⟩)), (15, .int .i64 y.2.2)]) (fun y => [[(b12, .cells ⟨f.cells⟩ 32 (0, 0))], [(b1, .cells ⟨p.cells⟩ 25 (0, 0))], y.2.1]) (fun y => f.code.length - y.2.2) (v4, A4, 0) ⟨by rw [List.take_zero, List.map_nil, List.append_nil]; exact ho4, Nat.zero_le _⟩ ⟨rfl, rfl, rfl, rfl, rfl, rfl, trivial⟩ (fun w' H => H) ?_
    rintro ⟨v6, A6, n⟩ ⟨ho6, hn⟩
    dsimp only at ho6 hn ⊢
    have hcl := hfI.code.len
    repeat' (first | refine g_pv rfl rfl ?_ | refine g_ld 0 rfl rfl rfl rfl rfl rfl ?_ | refine g_nil ?_ | refine gq_then ?_ | refine gc_seq ?_ | refine gc_region ?_)
    refine gc_condC rfl (fun cn => ?_) (fun cn => ?_)
    rotate_left
    · have hge : n = f.code.length := by have := of_decide_eq_false cn; omega
      subst hge
      rw [List.take_length] at ho6
      repeat' (first | refine g_pv rfl rfl ?_ | refine g_nil ?_ | refine gq_then ?_ | refine gc_region ?_ | refine gc_exit ?_ | refine gq_then_exit ?_ | refine gq_block ?_ | refine gq_block_exit ?_)
      exact gq_again (v6, A6, i + 1) ⟨by rw [htk, ← List.append_assoc]; exact ho6, hlt⟩ (by dsimp only; omega) ⟨rfl, rfl, rfl, inc_eq (by omega), trivial⟩ (fun w' H => hp_tail H)
    have hln := of_decide_lt cn
    have hxc : f.code[n]? = some (f.code[n]) := List.getElem?_eq_getElem hln
    have hxI := hfI.code.all _ (List.mem_of_getElem? hxc)
    have hxP := hfP.2.2.2 _ (List.mem_of_getElem? hxc)
    have hmk := map_snoc' (f := lineT) hxc
    have hpk := pre_snoc' (f := lineT) hxc
    generalize f.code[n] = x at hxc hxI hxP hmk hpk
    have hrm4 := room (L := p.obs.flatMap obR ++ (p.fns.take i).flatMap fnR ++ ([fn0R f] ++ f.slots.map slotX ++ (f.code.take n).map lineT)) (q := lineT x) (by rw [List.append_assoc]; exact fn_preR hxf (by unfold fnR; rw [List.append_assoc]; exact pre_left hpk)) hN
    repeat' (first | refine g_pv rfl rfl ?_ | refine g_ld 0 rfl rfl rfl rfl rfl rfl ?_ | refine gq_then ?_ | refine gc_seq ?_ | refine gc_region ?_ | refine gc_block ?_ | refine gc_skip ?_)
    refine g_at (l := f.code) (f := Ins.cells) (u := x) rfl rfl rfl rfl rfl (Int.natCast_nonneg n) (by omega) (hfI.code.row.le (old_le0 _ w)) hxc rfl rfl rfl rfl (fun ad => ?_)
    repeat' (fail)
    refine g_call rfl (Cl.of Tryz.func64 rfl rfl) rfl rfl (fun w' hE => rLine_sp x w' (hxI.le (fun b o h => old_le hE b o (old_le0 _ w b o h))) hxP) rfl (fun sl hsl => ?_)
    obtain rfl := mkB_of hsl
    repeat' (fail)
    refine g_app1L 2 (f := strW) (q := lineT x) rfl rfl rfl rfl rfl rfl rfl rfl rfl rfl rfl rfl ho6 (Nat.le_trans hrm4 (by decide)) (Nat.le_trans (Nat.mul_le_mul_right 16 hrm4) (by decide)) rfl rfl (fun v7 A7 g7 ho7 => ?_)
    repeat' (first | refine g_pv rfl rfl ?_ | refine g_nil ?_ | refine gq_then ?_ | refine gc_region ?_ | refine gq_block ?_)
    exact gq_again (v7, A7, n + 1) ⟨by rw [hmk]; simpa only [List.append_assoc] using ho7, hln⟩ (by dsimp only; omega) ⟨rfl, rfl, rfl, rfl, rfl, inc_eq (by omega), trivial⟩ (fun w' H => H)
  rintro ⟨v8, A8⟩ ho8
  dsimp only at ho8 ⊢
  have lm := itoa_len22 hp.main
  have hrm := room (L := p.obs.flatMap obR ++ p.fns.flatMap fnR) (q := mainR p) (List.prefix_refl (prR p)) hN
  repeat' (first | refine g_pv rfl rfl ?_ | refine g_ld 0 rfl rfl rfl rfl rfl rfl ?_ | refine gc_seq ?_ | refine gc_region ?_)
  refine g_call rfl (Cl.of Tryz.func62 rfl rfl) rfl rfl (fun w' hE => rdec_sp p.main w' hp.main) rfl (fun sm hsm => ?_)
  obtain rfl := mkB_of hsm
  refine g_p (p_addW rfl rfl (by simp only [List.length_append, List.length_cons, List.length_nil]; omega)) rfl ?_
  repeat' (fail)
  refine g_app1L 1 (f := strW) (q := mainR p) rfl rfl rfl rfl rfl rfl rfl rfl rfl rfl rfl rfl ho8 (Nat.le_trans hrm (by decide)) (Nat.le_trans (Nat.mul_le_mul_right 16 hrm) (by decide)) rfl rfl (fun v9 A9 g9 ho9 => ?_)
  have ho9 : OwnL 9 1 strW v9 (prR p) A9 := ho9
  refine g_heap (R' := [[(b1, .cells ⟨p.cells⟩ 25 (0, 0))], A9]) (fun w H => H) ?_
  generalize hM : prR p = M at ho9 hTR hN
  obtain ⟨ad9, c9, rfl, hc9, -⟩ := ownW_shape ho9
  have hlT : lens1 M ≤ 536870912 := by rw [← hTR]; exact hT
  repeat' (first | refine g_pv rfl rfl ?_ | refine g_nil ?_ | refine gq_then ?_ | refine gc_seq ?_ | refine gc_region ?_ | refine gc_block ?_)
  refine gc_loop (Y := Nat) (fun k => k ≤ M.length) (fun k => [(4, .slice ad9 M.length c9), (5, .int .i64 (lens1 (M.take k))), (16, .int .i64 k)]) (fun k => [[(b1, .cells ⟨p.cells⟩ 25 (0, 0))], A9]) (fun k => M.length - k) 0 (Nat.zero_le _) ⟨rfl, rfl, rfl, trivial⟩ (fun w' H => H) ?_
  intro k hk
  dsimp only at hk ⊢
  repeat' (first | refine g_pv rfl rfl ?_ | refine g_nil ?_ | refine gq_then ?_ | refine gc_seq ?_ | refine gc_region ?_)
  refine gc_condC rfl (fun ck => ?_) (fun ck => ?_)
  rotate_left
  · have hge : k = M.length := by have := of_decide_eq_false ck; omega
    subst hge
    rw [List.take_length, ← hTR]
    repeat' (first | refine g_pv rfl rfl ?_ | refine g_nil ?_ | refine gq_then ?_ | refine gc_seq ?_ | refine gc_region ?_ | refine gc_exit ?_ | refine gc_ret ?_ | refine gq_then_exit ?_ | refine gq_block_exit ?_)
    refine gq_ret2 (.inr rfl) rfl rfl rfl rfl (fun w' H => ⟨(_, A9), ho9, ?_, hp_tail H⟩)
    have e : decide (((txt (prW p)).length : Int) ≤ 1048576) = decide ((txt (prW p)).length ≤ 1048576) := decide_eq_decide.2 (by omega)
    dsimp only
    rw [← e]; try rfl
  have hlt := of_decide_lt ck
  have hxq : M[k]? = some (M[k]) := List.getElem?_eq_getElem hlt
  have hsn := lens1_snoc hxq
  have htk := lens1_take M (k + 1)
  generalize M[k] = q at hxq hsn
  repeat' (first | refine g_pv rfl rfl ?_ | refine gq_then ?_ | refine gc_seq ?_ | refine gc_region ?_ | refine gc_block ?_ | refine gc_skip ?_)
  refine g_atL 1 rfl rfl ho9 (fun _ => rfl) rfl rfl rfl rfl (Int.natCast_nonneg k) hxq rfl rfl rfl (fun a => ?_)
  repeat' (first | refine g_pv rfl rfl ?_ | refine g_nil ?_ | refine gq_then ?_ | refine gc_region ?_ | refine gq_block ?_)
  refine gq_again (k + 1) hlt (by show M.length - (k + 1) < M.length - k; omega) ⟨rfl, ?_, inc_eq (by omega), trivial⟩ (fun w' H => H)
  exact congrArg (fun z => some (Value.int .i64 z)) (wrap2 (b := (mkB q).size) (by rw [hsn, size_bytesL]; rfl) (Nat.le_trans htk hlT))
end Go.Proofs.YtpohhfggmaihpaaGreatDoor

/- The document's Right. -/
namespace Go.Proofs.YtpohhfggmaihpaaGreatDoor
open Go.Wk
set_option linter.unusedVariables false
set_option linter.unusedSimpArgs false
attribute [local irreducible] G GC GQ GA GS Exit.then Exit.inBlock

def binB (x : Ins) : Bool := (nameL x.bin).toList != (⟨#[]⟩ : ByteArray).toList
def rngB (n lo hi : Int) : Bool := decide (lo ≤ n) && decide (n ≤ hi)
theorem inB_lt (n l : Int) : (decide (0 ≤ n) && decide (n ≤ l)) = inB n (l + 1) := by
  have := inB_le n (l + 1); rw [← this]; congr 2; simp
theorem wrap_suc {n : Int} (h : in64 n ∧ n ≤ 16384) : IntKind.i64.wrap (n + 1) = n + 1 := by
  have := h.1.1; have := h.2
  simp only [IntKind.wrap, IntKind.signed, IntKind.bits]; simp; omega
theorem powB_lt {n : Int} (h : powB n = true) : decide (n < 4) = !(n == 4) := by
  rcases of_decide_eq_true h with h | h | h <;> subst h <;> rfl
theorem offB_eq (x : Ins) : offB x = (rngB x.off (-16384) 16384 && powB x.width) := by
  unfold offB rngB; rw [Bool.and_comm]
section
variable {nb : Bool} {j : Jg} {x : Ins}
theorem okI1 (h : x.op = 1) : okI nb j x = (inB x.d j.f.te && argB j.f.te x.a) := by simp [okI, h]
theorem okI2 (h : x.op = 2) : okI nb j x = (inB x.d j.f.te && (argB j.f.te x.a && (argB j.f.te x.b && binB x))) := by simp [okI, h, binB]
theorem okI3 (h : x.op = 3) : okI nb j x = (inB x.d j.f.te && (inB x.n j.f.slots.length && (match j.f.slots[x.n.toNat]? with | some s => inB x.off (IntKind.i64.wrap (s.size + 1)) | none => false))) := by simp only [okI, h]; rfl
theorem okI4 (h : x.op = 4) : okI nb j x = (inB x.d j.f.te && (inB x.n j.p.obs.length && (match j.p.obs[x.n.toNat]? with | some s => inB x.off (IntKind.i64.wrap (s.size + 1)) | none => false))) := by simp only [okI, h]; rfl
theorem okI5 (h : x.op = 5) : okI nb j x = (inB x.d j.f.te && (argB j.f.te x.a && ((rngB x.off (-16384) 16384 && powB x.width) && (decide (x.width < 4) || !x.signed)))) := by rw [← offB_eq]; simp [okI, h]
theorem okI6 (h : x.op = 6) : okI nb j x = (argB j.f.te x.a && (argB j.f.te x.b && (rngB x.off (-16384) 16384 && powB x.width))) := by rw [← offB_eq]; simp [okI, h]
theorem okI7 (h : x.op = 7) : okI nb j x = (argB j.f.te x.a && (argB j.f.te x.b && (powB x.width && (rngB x.off 1 16384 && (x.off.tmod x.width == 0))))) := by
  simp only [okI, h, rngB, Bool.and_assoc]; rfl
theorem okI8 (h : x.op = 8) : okI nb j x = rcallB j.p j.f x := by simp only [okI, h]; rfl
theorem okI9 (h : x.op = 9) : okI nb j x = ((j.f.gi && argB j.f.te x.a) || (!j.f.gi && (x.a.k == 0 && x.a.n == 0))) := by simp only [okI, h]; rfl
theorem okI10 (h : x.op = 10) : okI nb j x = inB x.n j.f.code.length := by simp [okI, h]
theorem okI11 (h : x.op = 11) : okI nb j x = (inB x.n j.f.code.length && argB j.f.te x.a) := by simp [okI, h]
theorem okI12 (h : x.op = 12) : okI nb j x = argB j.f.te x.a := by simp [okI, h]
theorem okI13 (h : x.op = 13) : okI nb j x = inB x.d j.f.te := by simp [okI, h]
theorem okI14 (h : x.op = 14) : okI nb j x = argB j.f.te x.a := by simp [okI, h]
theorem okIlt (h : x.op < 1) : okI nb j x = false := by
  unfold okI; repeat rw [if_neg (by omega)]
theorem okIgt (h : x.op > 14) : okI nb j x = false := by
  unfold okI; repeat rw [if_neg (by omega)]
end
theorem shape_args (x : Ins) : (shapeI x).args = [] := by
  simp only [shapeI, apply_ite Ins.args, ite_self]
theorem rshape_args (x : Ins) : argsEq x.args (rshapeI x).args = ((x.args.length : Int) == argsN x) := by
  by_cases h : x.op = 8
  · rw [rshape8 h]; dsimp only; rw [argsEq_refl, show argsN x = (x.args.length : Int) from by simp [argsN, h]]; exact (beq_self_eq_true _).symm
  · rw [rshapeN h, shape_args, argsEq_nil_r, show argsN x = 0 from by simp [argsN, h]]
theorem rshape_alike (x : Ins) : alikeB x (rshapeI x) = alikeB x (shapeI x) := by
  by_cases h : x.op = 8
  · rw [rshape8 h, shape8 h]; rfl
  · rw [rshapeN h]
theorem rshape_same (x : Ins) : sameB x (rshapeI x) = (((x.args.length : Int) == argsN x) && alikeB x (shapeI x)) := by
  unfold sameB; rw [rshape_args, rshape_alike, Bool.and_comm]
theorem rshape_rd {h : Nat → Option Obj} {x : Ins} (H : Rd h Arg.cells 2 x.aA x.args) : Rd h Arg.cells 2 (rshapeI x).aA (rshapeI x).args := by
  by_cases h8 : x.op = 8
  · rw [rshape8 h8]; exact H
  · rw [rshapeN h8, shape_args]; intro i u hu; simp at hu
theorem rightB_same {nb : Bool} {j : Jg} {x : Ins} (h : sameB x (rshapeI x) = true) : rightB nb j x = okI nb j x := by
  rw [rshape_same] at h; unfold rightB; rw [h, Bool.and_true]
theorem rightB_not {nb : Bool} {j : Jg} {x : Ins} (h : sameB x (rshapeI x) = false) : rightB nb j x = false := by
  rw [rshape_same] at h; unfold rightB; rw [h, Bool.and_false]

set_option maxHeartbeats 16000000 in
theorem rright_sp (p : Pr) (f : Fn) (x : Ins) (w : World) (hp : PrIn (hw w) p) (hf : FnIn (hw w) f) (hx : InsIn (hw w) x)
    (hfs : ∀ s ∈ f.slots, in64 s.size ∧ s.size ≤ 16384) (hps : ∀ s ∈ p.obs, in64 s.size ∧ s.size ≤ 16384) (hcl : f.code.length ≤ 8796093022000) :
    Sp Tryz.prog 54 [p.val, f.val, x.val] w [] (fun b : Bool => .bool b) (fun _ => []) (fun b => b = rightB true ⟨p, f⟩ x) := by
  have hslen := hf.slen
  have holen := hp.olen
  have hxlen := hx.len
  refine enter (s := Tryz.sx) [] Tryz.func54 rfl rfl rfl (Eff.refl w) ?_
  refine gc_seq ?_
  repeat' (first | refine g_pv rfl rfl ?_ | refine g_nil ?_ | refine gq_then ?_ | refine gc_region ?_ | refine g_box rfl rfl (fun _ => ?_))
  rename_i b3 b4 b5
  refine gc_seq ?_
  refine gc_seq ?_
  refine gc_draw [[(b5, .cells ⟨x.cells⟩ 43 (0, 0))], [(b4, .cells ⟨f.cells⟩ 32 (0, 0))], [(b3, .cells ⟨p.cells⟩ 25 (0, 0))]] [] rfl (List.Perm.of_eq rfl) ?_
  (refine aP 0 rfl rfl ?_); (refine aL 1 0 rfl wanted_none rfl rfl rfl rfl rfl ?_); (refine aP 2 rfl rfl ?_); (refine aP 3 rfl rfl ?_)
  refine ga_case (t := 10) rfl (fun h1 => ?_) (fun h1 => ?_)
  · have h1 : x.op < 1 := of_decide_eq_true h1
    (refine aN 4 rfl rfl rfl rfl rfl ?_); (refine aN 5 rfl rfl rfl rfl rfl ?_); (refine aN 6 rfl rfl rfl rfl rfl ?_); (refine aP 7 rfl rfl ?_); (refine aP 8 rfl rfl ?_); (refine aN 9 rfl rfl rfl rfl rfl ?_); (refine aN 10 rfl rfl rfl rfl rfl ?_); (refine aN 11 rfl rfl rfl rfl rfl ?_); (refine aN 12 rfl rfl rfl rfl rfl ?_); (refine aN 13 rfl rfl rfl rfl rfl ?_); (refine aP 14 rfl rfl ?_)
    refine ga_nil (by kernel_rfl) ?_
    repeat' (first | refine g_pv rfl rfl ?_ | refine g_nil ?_ | refine gq_then ?_ | refine gc_seq ?_ | refine gc_region ?_ | refine gc_cond_t rfl ?_ | refine gc_ret ?_ | refine gq_then_ret ?_)
    refine gq_ret1 (.inr rfl) rfl rfl rfl (fun w' H => ⟨false, ?_, rfl, hp_nil H⟩)
    unfold rightB; rw [okIlt h1]; rfl
  have h1 : ¬ x.op < 1 := of_decide_eq_false h1
  (refine aY 4 rfl rfl rfl rfl rfl ?_); (refine aL 5 0 rfl (wanted_yes rfl rfl rfl) rfl rfl rfl rfl rfl ?_); (refine aY 6 rfl rfl rfl rfl rfl ?_); (refine aP 7 rfl rfl ?_); (refine aP 8 rfl rfl ?_)
  refine ga_case (t := 15) rfl (fun h2 => ?_) (fun h2 => ?_)
  · have h2 : x.op > 14 := of_decide_eq_true h2
    (refine aN 9 rfl rfl rfl rfl rfl ?_); (refine aN 10 rfl rfl rfl rfl rfl ?_); (refine aN 11 rfl rfl rfl rfl rfl ?_); (refine aN 12 rfl rfl rfl rfl rfl ?_); (refine aN 13 rfl rfl rfl rfl rfl ?_); (refine aP 14 rfl rfl ?_)
    refine ga_nil (by kernel_rfl) ?_
    repeat' (first | refine g_pv rfl rfl ?_ | refine g_nil ?_ | refine gq_then ?_ | refine gc_seq ?_ | refine gc_region ?_ | refine gc_cond_t rfl ?_ | refine gc_ret ?_ | refine gq_then_ret ?_)
    refine gq_ret1 (.inr rfl) rfl rfl rfl (fun w' H => ⟨false, ?_, rfl, hp_nil H⟩)
    unfold rightB; rw [okIgt h2]; rfl
  have h2 : ¬ x.op > 14 := of_decide_eq_false h2
  (refine aL 9 0 rfl (wanted_yes rfl rfl rfl) rfl rfl rfl rfl rfl ?_); (refine aL 10 0 rfl (wanted_yes rfl rfl rfl) rfl rfl rfl rfl rfl ?_)
  refine aO 11 rfl (fun K hK => ?_)
  refine g_yes rfl rfl rfl ?_
  refine g_call rfl (Cl.of Tryz.func96 rfl rfl) rfl rfl (fun w' hE => rshape_sp x w') rfl (fun _ _ => ?_)
  refine g_nil ?_
  refine hK _ _ ⟨[], List.Perm.of_eq rfl⟩ ?_
  refine aO 12 rfl (fun K hK => ?_)
  refine g_yes rfl rfl rfl ?_
  refine g_call rfl (Cl.of Tryz.func55 rfl rfl) rfl rfl (fun w' hE => rSame_sp x (rshapeI x) w' (hx.args.le (fun b o h => old_le hE b o (old_le0 _ w b o h))) (rshape_rd (hx.args.le (fun b o h => old_le hE b o (old_le0 _ w b o h)))) hxlen) rfl ?_
  rintro b hS
  refine g_nil ?_
  refine hK _ _ ⟨[], List.Perm.of_eq rfl⟩ ?_
  (refine aY 13 rfl rfl rfl rfl rfl ?_); (refine aP 14 rfl rfl ?_)
  refine ga_nil (by kernel_rfl) ?_
  cases b
  · repeat' (first | refine g_pv rfl rfl ?_ | refine g_nil ?_ | refine gq_then ?_ | refine gc_seq ?_ | refine gc_region ?_ | refine gc_cond_t rfl ?_ | refine gc_ret ?_ | refine gq_then_ret ?_)
    refine gq_ret1 (.inr rfl) rfl rfl rfl (fun w' H => ⟨false, ?_, rfl, hp_nil H⟩)
    rw [rightB_not hS.symm]
  have hS : rightB true ⟨p, f⟩ x = okI true ⟨p, f⟩ x := rightB_same hS.symm
  repeat' (first | refine g_pv rfl rfl ?_ | refine g_ld 0 rfl rfl rfl rfl rfl rfl ?_ | refine g_nil ?_ | refine gq_then ?_ | refine gc_seq ?_ | refine gc_region ?_ | refine gc_block ?_ | refine gc_cond_f rfl ?_ | refine gc_skip ?_)
  refine gc_condC rfl (fun c1 => ?_) (fun c1 => ?_)
  · have hop : x.op = 1 := beq_iff_eq.1 c1
    repeat' (first | refine g_pv rfl rfl ?_ | refine g_ld 0 rfl rfl rfl rfl rfl rfl ?_ | refine g_ld 1 rfl rfl rfl rfl rfl rfl ?_ | refine gc_seq ?_ | refine gc_region ?_)
    refine g_call rfl (Cl.of Tryz.func97 rfl rfl) rfl rfl (fun w' hE => rtemp_sp f x.d w') rfl ?_
    rintro q1 hq1
    have hq1 : inB x.d f.te = q1 := hq1.symm
    cases q1
    · -- no
      repeat' (first | refine g_pv rfl rfl ?_ | refine g_nil ?_ | refine gq_then ?_ | refine gc_ret ?_ | refine gq_then_ret ?_ | refine gq_block_ret ?_ | refine g_no rfl rfl rfl rfl rfl ?_)
      refine gq_ret1 (.inr rfl) rfl rfl rfl (fun w' H => ⟨_, ?_, rfl, hp_nil H⟩)
      rw [hS, okI1 hop]; simp [hq1]
    repeat' (first | refine g_pv rfl rfl ?_ | refine g_ld 0 rfl rfl rfl rfl rfl rfl ?_ | refine g_ld 1 rfl rfl rfl rfl rfl rfl ?_ | refine g_yes rfl rfl rfl ?_)
    refine g_call rfl (Cl.of Tryz.func98 rfl rfl) rfl rfl (fun w' hE => rarg_sp f x.a w' (hx.ok x.a (by simp)) hf.te) rfl ?_
    rintro q2 hq2
    have hq2 : q2 = argB f.te x.a := hq2
    repeat' (first | refine g_pv rfl rfl ?_ | refine g_nil ?_ | refine gq_then ?_ | refine gc_ret ?_ | refine gq_then_ret ?_ | refine gq_block_ret ?_)
    refine gq_ret1 (.inr rfl) rfl rfl rfl (fun w' H => ⟨q2, ?_, rfl, hp_nil H⟩)
    rw [hS, okI1 hop, hq2]; simp [hq1]
  repeat' (first | refine g_pv rfl rfl ?_ | refine g_nil ?_ | refine gq_then ?_ | refine gc_seq ?_ | refine gc_region ?_)
  refine gc_condC rfl (fun c2 => ?_) (fun c2 => ?_)
  · have hop : x.op = 2 := beq_iff_eq.1 c2
    repeat' (first | refine g_pv rfl rfl ?_ | refine g_ld 0 rfl rfl rfl rfl rfl rfl ?_ | refine g_ld 1 rfl rfl rfl rfl rfl rfl ?_ | refine gc_seq ?_ | refine gc_region ?_)
    refine g_call rfl (Cl.of Tryz.func97 rfl rfl) rfl rfl (fun w' hE => rtemp_sp f x.d w') rfl ?_
    rintro q3 hq3
    have hq3 : inB x.d f.te = q3 := hq3.symm
    cases q3
    · -- no
      repeat' (first | refine g_pv rfl rfl ?_ | refine g_nil ?_ | refine gq_then ?_ | refine gc_ret ?_ | refine gq_then_ret ?_ | refine gq_block_ret ?_ | refine g_no rfl rfl rfl rfl rfl ?_)
      refine gq_ret1 (.inr rfl) rfl rfl rfl (fun w' H => ⟨_, ?_, rfl, hp_nil H⟩)
      rw [hS, okI2 hop]; simp [hq3]
    repeat' (first | refine g_pv rfl rfl ?_ | refine g_ld 0 rfl rfl rfl rfl rfl rfl ?_ | refine g_yes rfl rfl rfl ?_)
    refine g_call rfl (Cl.of Tryz.func99 rfl rfl) rfl rfl (fun w' hE => rname_sp x.bin w') rfl ?_
    rintro _ rfl
    repeat' (refine g_yes rfl rfl rfl ?_)
    refine g_p (p_neT rfl rfl rfl) rfl ?_
    repeat' (refine g_pv rfl rfl ?_)
    refine g_case (t := 48) rfl (fun h4 => ?_) (fun h4 => ?_)
    rotate_left
    · have h4 : binB x = false := h4
      repeat' (first | refine g_pv rfl rfl ?_ | refine g_nil ?_ | refine gq_then ?_ | refine gc_ret ?_ | refine gq_then_ret ?_ | refine gq_block_ret ?_ | refine g_no rfl rfl rfl rfl rfl ?_)
      refine gq_ret1 (.inr rfl) rfl rfl rfl (fun w' H => ⟨_, ?_, rfl, hp_nil H⟩)
      rw [hS, okI2 hop]; simp [hq3, h4]
    have h4 : binB x = true := h4
    repeat' (first | refine g_pv rfl rfl ?_ | refine g_ld 0 rfl rfl rfl rfl rfl rfl ?_ | refine g_ld 1 rfl rfl rfl rfl rfl rfl ?_ | refine g_yes rfl rfl rfl ?_)
    refine g_call rfl (Cl.of Tryz.func98 rfl rfl) rfl rfl (fun w' hE => rarg_sp f x.a w' (hx.ok x.a (by simp)) hf.te) rfl ?_
    rintro q5 hq5
    have hq5 : argB f.te x.a = q5 := hq5.symm
    cases q5
    · -- no
      repeat' (first | refine g_pv rfl rfl ?_ | refine g_nil ?_ | refine gq_then ?_ | refine gc_ret ?_ | refine gq_then_ret ?_ | refine gq_block_ret ?_ | refine g_no rfl rfl rfl rfl rfl ?_)
      refine gq_ret1 (.inr rfl) rfl rfl rfl (fun w' H => ⟨_, ?_, rfl, hp_nil H⟩)
      rw [hS, okI2 hop]; simp [hq3, h4, hq5]
    repeat' (first | refine g_pv rfl rfl ?_ | refine g_ld 0 rfl rfl rfl rfl rfl rfl ?_ | refine g_ld 1 rfl rfl rfl rfl rfl rfl ?_ | refine g_yes rfl rfl rfl ?_)
    refine g_call rfl (Cl.of Tryz.func98 rfl rfl) rfl rfl (fun w' hE => rarg_sp f x.b w' (hx.ok x.b (by simp)) hf.te) rfl ?_
    rintro q6 hq6
    have hq6 : q6 = argB f.te x.b := hq6
    repeat' (first | refine g_pv rfl rfl ?_ | refine g_nil ?_ | refine gq_then ?_ | refine gc_ret ?_ | refine gq_then_ret ?_ | refine gq_block_ret ?_)
    refine gq_ret1 (.inr rfl) rfl rfl rfl (fun w' H => ⟨q6, ?_, rfl, hp_nil H⟩)
    rw [hS, okI2 hop, hq6]; simp [hq3, h4, hq5]
  repeat' (first | refine g_pv rfl rfl ?_ | refine g_nil ?_ | refine gq_then ?_ | refine gc_seq ?_ | refine gc_region ?_)
  refine gc_condC rfl (fun c3 => ?_) (fun c3 => ?_)
  · have hop : x.op = 3 := beq_iff_eq.1 c3
    repeat' (refine gc_seq ?_)
    refine gc_draw [[(b5, .cells ⟨x.cells⟩ 43 (0, 0))], [(b4, .cells ⟨f.cells⟩ 32 (0, 0))], [(b3, .cells ⟨p.cells⟩ 25 (0, 0))]] [] rfl (List.Perm.of_eq rfl) ?_
    (refine aL 0 1 rfl wanted_none rfl rfl rfl rfl rfl ?_); (refine aP 1 rfl rfl ?_); (refine aL 2 0 rfl wanted_none rfl rfl rfl rfl rfl ?_)
    refine aO 3 rfl (fun K hK => ?_)
    refine g_call rfl (Cl.of Tryz.func97 rfl rfl) rfl rfl (fun w' hE => rtemp_sp f x.d w') rfl ?_
    rintro q1 h1
    have h1 : inB x.d f.te = q1 := h1.symm
    refine g_nil ?_
    refine hK _ _ ⟨[], List.Perm.of_eq rfl⟩ ?_
    cases q1
    · (refine aP 4 rfl rfl ?_); (refine aN 5 rfl rfl rfl rfl rfl ?_); (refine aN 6 rfl rfl rfl rfl rfl ?_); (refine aN 7 rfl rfl rfl rfl rfl ?_); (refine aN 8 rfl rfl rfl rfl rfl ?_); (refine aN 9 rfl rfl rfl rfl rfl ?_); (refine aN 10 rfl rfl rfl rfl rfl ?_); (refine aN 11 rfl rfl rfl rfl rfl ?_); (refine aP 12 rfl rfl ?_); (refine aP 13 rfl rfl ?_); (refine aN 14 rfl rfl rfl rfl rfl ?_); (refine aN 15 rfl rfl rfl rfl rfl ?_); (refine aN 16 rfl rfl rfl rfl rfl ?_); (refine aN 17 rfl rfl rfl rfl rfl ?_); (refine aN 18 rfl rfl rfl rfl rfl ?_); (refine aN 19 rfl rfl rfl rfl rfl ?_); (refine aN 20 rfl rfl rfl rfl rfl ?_); (refine aN 21 rfl rfl rfl rfl rfl ?_); (refine aN 22 rfl rfl rfl rfl rfl ?_); (refine aN 23 rfl rfl rfl rfl rfl ?_); (refine aP 24 rfl rfl ?_); (refine aP 25 rfl rfl ?_)
      refine ga_nil (by kernel_rfl) ?_
      repeat' (first | refine gq_then ?_ | refine gc_ret ?_ | refine gq_then_ret ?_ | refine gq_block_ret ?_)
      refine gq_ret1 (.inr rfl) rfl rfl rfl (fun w' H => ⟨_, ?_, rfl, hp_nil H⟩)
      rw [hS, okI3 hop]; simp [h1]
    (refine aP 4 rfl rfl ?_); (refine aY 5 rfl rfl rfl rfl rfl ?_); (refine aL 6 0 rfl (wanted_yes rfl rfl rfl) rfl rfl rfl rfl rfl ?_); (refine aY 7 rfl rfl rfl rfl rfl ?_); (refine aL 8 1 rfl (wanted_yes rfl rfl rfl) rfl rfl rfl rfl rfl ?_); (refine aY 9 rfl rfl rfl rfl rfl ?_); (refine aY 10 rfl rfl rfl rfl rfl ?_)
    refine ga_eq 72 (u' := .int .i64 ((f.slots.length : Int) - 1)) rfl (by rw [IntKind.wrap_i64]; congr 1; omega) ?_
    refine aO 11 rfl (fun K hK => ?_)
    refine g_yes rfl rfl rfl ?_
    refine g_call rfl (Cl.of Tryz.func30 rfl rfl) rfl rfl (fun w' hE => rwithin_sp _ _ _ w') rfl (fun _ _ => ?_)
    refine g_eq 73 (u' := .bool (inB x.n f.slots.length)) rfl (by rw [inB_le]) ?_
    refine g_nil ?_
    refine hK _ _ ⟨[], List.Perm.of_eq rfl⟩ ?_
    (refine aP 12 rfl rfl ?_); (refine aP 13 rfl rfl ?_)
    refine ga_case (t := 75) rfl (fun h2 => ?_) (fun h2 => ?_)
    rotate_left
    · have h2 : inB x.n f.slots.length = false := h2
      (refine aN 14 rfl rfl rfl rfl rfl ?_); (refine aN 15 rfl rfl rfl rfl rfl ?_); (refine aN 16 rfl rfl rfl rfl rfl ?_); (refine aN 17 rfl rfl rfl rfl rfl ?_); (refine aN 18 rfl rfl rfl rfl rfl ?_); (refine aN 19 rfl rfl rfl rfl rfl ?_); (refine aN 20 rfl rfl rfl rfl rfl ?_); (refine aN 21 rfl rfl rfl rfl rfl ?_); (refine aN 22 rfl rfl rfl rfl rfl ?_); (refine aN 23 rfl rfl rfl rfl rfl ?_); (refine aP 24 rfl rfl ?_); (refine aP 25 rfl rfl ?_)
      refine ga_nil (by kernel_rfl) ?_
      repeat' (first | refine gq_then ?_ | refine gc_ret ?_ | refine gq_then_ret ?_ | refine gq_block_ret ?_)
      refine gq_ret1 (.inr rfl) rfl rfl rfl (fun w' H => ⟨_, ?_, rfl, hp_nil H⟩)
      rw [hS, okI3 hop]; simp [h1, h2]
    have h2 : inB x.n f.slots.length = true := h2
    have hb2 : 0 ≤ x.n ∧ x.n < f.slots.length := by simpa [inB] using h2
    have hlx : f.slots[x.n.toNat]? = some (f.slots[x.n.toNat]'(by omega)) := List.getElem?_eq_getElem (by omega)
    have hqm := List.getElem_mem (l := f.slots) (n := x.n.toNat) (by omega)
    generalize f.slots[x.n.toNat]'(by omega) = q at hlx hqm
    obtain ⟨bb, oo, hA, hc⟩ := hf.slots x.n.toNat _ hlx
    (refine aY 14 rfl rfl rfl rfl rfl ?_); (refine aL 15 0 rfl (wanted_yes rfl rfl rfl) rfl rfl rfl rfl rfl ?_); (refine aY 16 rfl rfl rfl rfl rfl ?_); (refine aL 17 1 rfl (wanted_yes rfl rfl rfl) rfl rfl rfl rfl rfl ?_); (refine aY 18 rfl rfl rfl rfl rfl ?_); (refine aL 19 0 rfl (wanted_yes rfl rfl rfl) rfl rfl rfl rfl rfl ?_)
    refine ga_py 20 (by repeat first | exact NoP.sp | apply NoP.then | apply NoP.block) rfl rfl rfl rfl (p_ix (bx := bb) (o := oo) (by show some (Value.slice f.sA _ _) = _; rw [hA]) rfl rfl rfl hb2.1 hb2.2) rfl (by kernel_rfl) (by kernel_rfl) (by kernel_rfl) ?_
    (refine aY 21 rfl rfl rfl rfl rfl ?_)
    refine ga_ldO 22 (cs := [.int .i64 q.size]) (by repeat first | exact NoP.sp | apply NoP.then | apply NoP.block) rfl (wanted_yes rfl rfl rfl) rfl rfl rfl rfl (fun k u hk => ?_) rfl (by kernel_rfl) (by kernel_rfl) (by kernel_rfl) ?_
    · have hk0 : k = 0 := by have := (List.getElem?_eq_some_iff.1 hk).1; simp at this; omega
      subst hk0
      simp only [List.getElem?_cons_zero, Option.some.injEq] at hk; subst hk
      exact (old_le0 _ w).cell (hc 0 _ rfl)
    refine aO 23 rfl (fun K hK => ?_)
    refine g_yes rfl rfl rfl ?_
    refine g_call rfl (Cl.of Tryz.func30 rfl rfl) rfl rfl (fun w' hE => rwithin_sp _ _ _ w') rfl (fun _ _ => ?_)
    refine g_nil ?_
    refine hK _ _ ⟨[], List.Perm.of_eq rfl⟩ ?_
    (refine aP 24 rfl rfl ?_); (refine aP 25 rfl rfl ?_)
    refine ga_nil (by kernel_rfl) ?_
    repeat' (first | refine gq_then ?_ | refine gc_ret ?_ | refine gq_then_ret ?_ | refine gq_block_ret ?_)
    refine gq_ret1 (.inr rfl) rfl rfl rfl (fun w' H => ⟨_, ?_, rfl, hp_nil H⟩)
    rw [hS, okI3 hop]; simp only [h1, h2, hlx, Bool.true_and]
    rw [wrap_suc (hfs q hqm)]; exact (inB_lt x.off q.size)
  repeat' (first | refine g_pv rfl rfl ?_ | refine g_nil ?_ | refine gq_then ?_ | refine gc_seq ?_ | refine gc_region ?_)
  refine gc_condC rfl (fun c4 => ?_) (fun c4 => ?_)
  · have hop : x.op = 4 := beq_iff_eq.1 c4
    repeat' (refine gc_seq ?_)
    refine gc_draw [[(b5, .cells ⟨x.cells⟩ 43 (0, 0))], [(b4, .cells ⟨f.cells⟩ 32 (0, 0))], [(b3, .cells ⟨p.cells⟩ 25 (0, 0))]] [] rfl (List.Perm.of_eq rfl) ?_
    (refine aL 0 1 rfl wanted_none rfl rfl rfl rfl rfl ?_); (refine aP 1 rfl rfl ?_); (refine aL 2 0 rfl wanted_none rfl rfl rfl rfl rfl ?_)
    refine aO 3 rfl (fun K hK => ?_)
    refine g_call rfl (Cl.of Tryz.func97 rfl rfl) rfl rfl (fun w' hE => rtemp_sp f x.d w') rfl ?_
    rintro q1 h1
    have h1 : inB x.d f.te = q1 := h1.symm
    refine g_nil ?_
    refine hK _ _ ⟨[], List.Perm.of_eq rfl⟩ ?_
    cases q1
    · (refine aP 4 rfl rfl ?_); (refine aN 5 rfl rfl rfl rfl rfl ?_); (refine aN 6 rfl rfl rfl rfl rfl ?_); (refine aN 7 rfl rfl rfl rfl rfl ?_); (refine aN 8 rfl rfl rfl rfl rfl ?_); (refine aN 9 rfl rfl rfl rfl rfl ?_); (refine aN 10 rfl rfl rfl rfl rfl ?_); (refine aN 11 rfl rfl rfl rfl rfl ?_); (refine aP 12 rfl rfl ?_); (refine aP 13 rfl rfl ?_); (refine aN 14 rfl rfl rfl rfl rfl ?_); (refine aN 15 rfl rfl rfl rfl rfl ?_); (refine aN 16 rfl rfl rfl rfl rfl ?_); (refine aN 17 rfl rfl rfl rfl rfl ?_); (refine aN 18 rfl rfl rfl rfl rfl ?_); (refine aN 19 rfl rfl rfl rfl rfl ?_); (refine aN 20 rfl rfl rfl rfl rfl ?_); (refine aN 21 rfl rfl rfl rfl rfl ?_); (refine aN 22 rfl rfl rfl rfl rfl ?_); (refine aN 23 rfl rfl rfl rfl rfl ?_); (refine aP 24 rfl rfl ?_); (refine aP 25 rfl rfl ?_)
      refine ga_nil (by kernel_rfl) ?_
      repeat' (first | refine gq_then ?_ | refine gc_ret ?_ | refine gq_then_ret ?_ | refine gq_block_ret ?_)
      refine gq_ret1 (.inr rfl) rfl rfl rfl (fun w' H => ⟨_, ?_, rfl, hp_nil H⟩)
      rw [hS, okI4 hop]; simp [h1]
    (refine aP 4 rfl rfl ?_); (refine aY 5 rfl rfl rfl rfl rfl ?_); (refine aL 6 0 rfl (wanted_yes rfl rfl rfl) rfl rfl rfl rfl rfl ?_); (refine aY 7 rfl rfl rfl rfl rfl ?_); (refine aL 8 2 rfl (wanted_yes rfl rfl rfl) rfl rfl rfl rfl rfl ?_); (refine aY 9 rfl rfl rfl rfl rfl ?_); (refine aY 10 rfl rfl rfl rfl rfl ?_)
    refine ga_eq 99 (u' := .int .i64 ((p.obs.length : Int) - 1)) rfl (by rw [IntKind.wrap_i64]; congr 1; omega) ?_
    refine aO 11 rfl (fun K hK => ?_)
    refine g_yes rfl rfl rfl ?_
    refine g_call rfl (Cl.of Tryz.func30 rfl rfl) rfl rfl (fun w' hE => rwithin_sp _ _ _ w') rfl (fun _ _ => ?_)
    refine g_eq 100 (u' := .bool (inB x.n p.obs.length)) rfl (by rw [inB_le]) ?_
    refine g_nil ?_
    refine hK _ _ ⟨[], List.Perm.of_eq rfl⟩ ?_
    (refine aP 12 rfl rfl ?_); (refine aP 13 rfl rfl ?_)
    refine ga_case (t := 102) rfl (fun h2 => ?_) (fun h2 => ?_)
    rotate_left
    · have h2 : inB x.n p.obs.length = false := h2
      (refine aN 14 rfl rfl rfl rfl rfl ?_); (refine aN 15 rfl rfl rfl rfl rfl ?_); (refine aN 16 rfl rfl rfl rfl rfl ?_); (refine aN 17 rfl rfl rfl rfl rfl ?_); (refine aN 18 rfl rfl rfl rfl rfl ?_); (refine aN 19 rfl rfl rfl rfl rfl ?_); (refine aN 20 rfl rfl rfl rfl rfl ?_); (refine aN 21 rfl rfl rfl rfl rfl ?_); (refine aN 22 rfl rfl rfl rfl rfl ?_); (refine aN 23 rfl rfl rfl rfl rfl ?_); (refine aP 24 rfl rfl ?_); (refine aP 25 rfl rfl ?_)
      refine ga_nil (by kernel_rfl) ?_
      repeat' (first | refine gq_then ?_ | refine gc_ret ?_ | refine gq_then_ret ?_ | refine gq_block_ret ?_)
      refine gq_ret1 (.inr rfl) rfl rfl rfl (fun w' H => ⟨_, ?_, rfl, hp_nil H⟩)
      rw [hS, okI4 hop]; simp [h1, h2]
    have h2 : inB x.n p.obs.length = true := h2
    have hb2 : 0 ≤ x.n ∧ x.n < p.obs.length := by simpa [inB] using h2
    have hlx : p.obs[x.n.toNat]? = some (p.obs[x.n.toNat]'(by omega)) := List.getElem?_eq_getElem (by omega)
    have hqm := List.getElem_mem (l := p.obs) (n := x.n.toNat) (by omega)
    generalize p.obs[x.n.toNat]'(by omega) = q at hlx hqm
    obtain ⟨bb, oo, hA, hc⟩ := hp.obs x.n.toNat _ hlx
    (refine aY 14 rfl rfl rfl rfl rfl ?_); (refine aL 15 0 rfl (wanted_yes rfl rfl rfl) rfl rfl rfl rfl rfl ?_); (refine aY 16 rfl rfl rfl rfl rfl ?_); (refine aL 17 2 rfl (wanted_yes rfl rfl rfl) rfl rfl rfl rfl rfl ?_); (refine aY 18 rfl rfl rfl rfl rfl ?_); (refine aL 19 0 rfl (wanted_yes rfl rfl rfl) rfl rfl rfl rfl rfl ?_)
    refine ga_py 20 (by repeat first | exact NoP.sp | apply NoP.then | apply NoP.block) rfl rfl rfl rfl (p_ix (bx := bb) (o := oo) (by show some (Value.slice p.oA _ _) = _; rw [hA]) rfl rfl rfl hb2.1 hb2.2) rfl (by kernel_rfl) (by kernel_rfl) (by kernel_rfl) ?_
    (refine aY 21 rfl rfl rfl rfl rfl ?_)
    refine ga_ldO 22 (cs := [.int .i64 q.size]) (by repeat first | exact NoP.sp | apply NoP.then | apply NoP.block) rfl (wanted_yes rfl rfl rfl) rfl rfl rfl rfl (fun k u hk => ?_) rfl (by kernel_rfl) (by kernel_rfl) (by kernel_rfl) ?_
    · have hk0 : k = 0 := by have := (List.getElem?_eq_some_iff.1 hk).1; simp at this; omega
      subst hk0
      simp only [List.getElem?_cons_zero, Option.some.injEq] at hk; subst hk
      exact (old_le0 _ w).cell (hc 1 _ rfl)
    refine aO 23 rfl (fun K hK => ?_)
    refine g_yes rfl rfl rfl ?_
    refine g_call rfl (Cl.of Tryz.func30 rfl rfl) rfl rfl (fun w' hE => rwithin_sp _ _ _ w') rfl (fun _ _ => ?_)
    refine g_nil ?_
    refine hK _ _ ⟨[], List.Perm.of_eq rfl⟩ ?_
    (refine aP 24 rfl rfl ?_); (refine aP 25 rfl rfl ?_)
    refine ga_nil (by kernel_rfl) ?_
    repeat' (first | refine gq_then ?_ | refine gc_ret ?_ | refine gq_then_ret ?_ | refine gq_block_ret ?_)
    refine gq_ret1 (.inr rfl) rfl rfl rfl (fun w' H => ⟨_, ?_, rfl, hp_nil H⟩)
    rw [hS, okI4 hop]; simp only [h1, h2, hlx, Bool.true_and]
    rw [wrap_suc (hps q hqm)]; exact (inB_lt x.off q.size)
  repeat' (first | refine g_pv rfl rfl ?_ | refine g_nil ?_ | refine gq_then ?_ | refine gc_seq ?_ | refine gc_region ?_)
  refine gc_condC rfl (fun c5 => ?_) (fun c5 => ?_)
  · have hop : x.op = 5 := beq_iff_eq.1 c5
    repeat' (first | refine g_pv rfl rfl ?_ | refine g_ld 0 rfl rfl rfl rfl rfl rfl ?_ | refine g_ld 1 rfl rfl rfl rfl rfl rfl ?_ | refine gc_seq ?_ | refine gc_region ?_)
    refine g_call rfl (Cl.of Tryz.func97 rfl rfl) rfl rfl (fun w' hE => rtemp_sp f x.d w') rfl ?_
    rintro q7 hq7
    have hq7 : inB x.d f.te = q7 := hq7.symm
    cases q7
    · -- no
      repeat' (first | refine g_pv rfl rfl ?_ | refine g_nil ?_ | refine gq_then ?_ | refine gc_ret ?_ | refine gq_then_ret ?_ | refine gq_block_ret ?_ | refine g_no rfl rfl rfl rfl rfl ?_)
      refine gq_ret1 (.inr rfl) rfl rfl rfl (fun w' H => ⟨_, ?_, rfl, hp_nil H⟩)
      rw [hS, okI5 hop]; simp [hq7]
    repeat' (first | refine g_pv rfl rfl ?_ | refine g_ld 0 rfl rfl rfl rfl rfl rfl ?_ | refine g_ld 1 rfl rfl rfl rfl rfl rfl ?_ | refine g_yes rfl rfl rfl ?_)
    refine g_call rfl (Cl.of Tryz.func98 rfl rfl) rfl rfl (fun w' hE => rarg_sp f x.a w' (hx.ok x.a (by simp)) hf.te) rfl ?_
    rintro q8 hq8
    have hq8 : argB f.te x.a = q8 := hq8.symm
    cases q8
    · -- no
      repeat' (first | refine g_pv rfl rfl ?_ | refine g_nil ?_ | refine gq_then ?_ | refine gc_ret ?_ | refine gq_then_ret ?_ | refine gq_block_ret ?_ | refine g_no rfl rfl rfl rfl rfl ?_)
      refine gq_ret1 (.inr rfl) rfl rfl rfl (fun w' H => ⟨_, ?_, rfl, hp_nil H⟩)
      rw [hS, okI5 hop]; simp [hq7, hq8]
    repeat' (first | refine g_pv rfl rfl ?_ | refine g_ld 0 rfl rfl rfl rfl rfl rfl ?_ | refine g_yes rfl rfl rfl ?_)
    refine g_call rfl (Cl.of Tryz.func30 rfl rfl) rfl rfl (fun w' hE => rwithin_sp _ _ _ w') rfl (fun _ _ => ?_)
    refine g_eq 129 (u' := .bool (rngB x.off (-16384) 16384)) rfl rfl ?_
    repeat' (refine g_pv rfl rfl ?_)
    refine g_case (t := 131) rfl (fun h9 => ?_) (fun h9 => ?_)
    rotate_left
    · have h9 : rngB x.off (-16384) 16384 = false := h9
      repeat' (first | refine g_pv rfl rfl ?_ | refine g_nil ?_ | refine gq_then ?_ | refine gc_ret ?_ | refine gq_then_ret ?_ | refine gq_block_ret ?_ | refine g_no rfl rfl rfl rfl rfl ?_)
      refine gq_ret1 (.inr rfl) rfl rfl rfl (fun w' H => ⟨_, ?_, rfl, hp_nil H⟩)
      rw [hS, okI5 hop]; simp [hq7, hq8, h9]
    have h9 : rngB x.off (-16384) 16384 = true := h9
    repeat' (first | refine g_pv rfl rfl ?_ | refine g_ld 0 rfl rfl rfl rfl rfl rfl ?_ | refine g_yes rfl rfl rfl ?_)
    refine g_call rfl (Cl.of Tryz.func53 rfl rfl) rfl rfl (fun w' hE => rpower_sp x.width w') rfl ?_
    rintro q10 hq10
    have hq10 : powB x.width = q10 := hq10.symm
    cases q10
    · -- no
      repeat' (first | refine g_pv rfl rfl ?_ | refine g_nil ?_ | refine gq_then ?_ | refine gc_ret ?_ | refine gq_then_ret ?_ | refine gq_block_ret ?_ | refine g_no rfl rfl rfl rfl rfl ?_)
      refine gq_ret1 (.inr rfl) rfl rfl rfl (fun w' H => ⟨_, ?_, rfl, hp_nil H⟩)
      rw [hS, okI5 hop]; simp [hq7, hq8, h9, hq10]
    repeat' (first | refine g_pv rfl rfl ?_ | refine g_ld 0 rfl rfl rfl rfl rfl rfl ?_ | refine g_yes rfl rfl rfl ?_)
    have hw4 := powB_lt hq10
    refine g_case (t := 139) rfl (fun h11 => ?_) (fun h11 => ?_)
    · have h11 : x.signed = true := h11
      repeat' (first | refine g_pv rfl rfl ?_ | refine g_ld 0 rfl rfl rfl rfl rfl rfl ?_ | refine g_nil ?_ | refine gq_then ?_ | refine gc_ret ?_ | refine gq_then_ret ?_ | refine gq_block_ret ?_ | refine g_yes rfl rfl rfl ?_)
      refine gq_ret1 (.inr rfl) rfl rfl rfl (fun w' H => ⟨_, ?_, rfl, hp_nil H⟩)
      rw [hS, okI5 hop]; simp [hq7, hq8, h9, hq10, h11, hw4]
    · have h11 : x.signed = false := h11
      repeat' (first | refine g_pv rfl rfl ?_ | refine g_nil ?_ | refine gq_then ?_ | refine gc_ret ?_ | refine gq_then_ret ?_ | refine gq_block_ret ?_ | refine g_yes rfl rfl rfl ?_ | refine g_no rfl rfl rfl rfl rfl ?_)
      refine gq_ret1 (.inr rfl) rfl rfl rfl (fun w' H => ⟨_, ?_, rfl, hp_nil H⟩)
      rw [hS, okI5 hop]; simp [hq7, hq8, h9, hq10, h11]
  repeat' (first | refine g_pv rfl rfl ?_ | refine g_nil ?_ | refine gq_then ?_ | refine gc_seq ?_ | refine gc_region ?_)
  refine gc_condC rfl (fun c6 => ?_) (fun c6 => ?_)
  · have hop : x.op = 6 := beq_iff_eq.1 c6
    repeat' (first | refine g_pv rfl rfl ?_ | refine g_ld 0 rfl rfl rfl rfl rfl rfl ?_ | refine g_ld 1 rfl rfl rfl rfl rfl rfl ?_ | refine gc_seq ?_ | refine gc_region ?_)
    refine g_call rfl (Cl.of Tryz.func98 rfl rfl) rfl rfl (fun w' hE => rarg_sp f x.a w' (hx.ok x.a (by simp)) hf.te) rfl ?_
    rintro q12 hq12
    have hq12 : argB f.te x.a = q12 := hq12.symm
    cases q12
    · -- no
      repeat' (first | refine g_pv rfl rfl ?_ | refine g_nil ?_ | refine gq_then ?_ | refine gc_ret ?_ | refine gq_then_ret ?_ | refine gq_block_ret ?_ | refine g_no rfl rfl rfl rfl rfl ?_)
      refine gq_ret1 (.inr rfl) rfl rfl rfl (fun w' H => ⟨_, ?_, rfl, hp_nil H⟩)
      rw [hS, okI6 hop]; simp [hq12]
    repeat' (first | refine g_pv rfl rfl ?_ | refine g_ld 0 rfl rfl rfl rfl rfl rfl ?_ | refine g_ld 1 rfl rfl rfl rfl rfl rfl ?_ | refine g_yes rfl rfl rfl ?_)
    refine g_call rfl (Cl.of Tryz.func98 rfl rfl) rfl rfl (fun w' hE => rarg_sp f x.b w' (hx.ok x.b (by simp)) hf.te) rfl ?_
    rintro q13 hq13
    have hq13 : argB f.te x.b = q13 := hq13.symm
    cases q13
    · -- no
      repeat' (first | refine g_pv rfl rfl ?_ | refine g_nil ?_ | refine gq_then ?_ | refine gc_ret ?_ | refine gq_then_ret ?_ | refine gq_block_ret ?_ | refine g_no rfl rfl rfl rfl rfl ?_)
      refine gq_ret1 (.inr rfl) rfl rfl rfl (fun w' H => ⟨_, ?_, rfl, hp_nil H⟩)
      rw [hS, okI6 hop]; simp [hq12, hq13]
    repeat' (first | refine g_pv rfl rfl ?_ | refine g_ld 0 rfl rfl rfl rfl rfl rfl ?_ | refine g_yes rfl rfl rfl ?_)
    refine g_call rfl (Cl.of Tryz.func30 rfl rfl) rfl rfl (fun w' hE => rwithin_sp _ _ _ w') rfl (fun _ _ => ?_)
    refine g_eq 161 (u' := .bool (rngB x.off (-16384) 16384)) rfl rfl ?_
    repeat' (refine g_pv rfl rfl ?_)
    refine g_case (t := 163) rfl (fun h14 => ?_) (fun h14 => ?_)
    rotate_left
    · have h14 : rngB x.off (-16384) 16384 = false := h14
      repeat' (first | refine g_pv rfl rfl ?_ | refine g_nil ?_ | refine gq_then ?_ | refine gc_ret ?_ | refine gq_then_ret ?_ | refine gq_block_ret ?_ | refine g_no rfl rfl rfl rfl rfl ?_)
      refine gq_ret1 (.inr rfl) rfl rfl rfl (fun w' H => ⟨_, ?_, rfl, hp_nil H⟩)
      rw [hS, okI6 hop]; simp [hq12, hq13, h14]
    have h14 : rngB x.off (-16384) 16384 = true := h14
    repeat' (first | refine g_pv rfl rfl ?_ | refine g_ld 0 rfl rfl rfl rfl rfl rfl ?_ | refine g_yes rfl rfl rfl ?_)
    refine g_call rfl (Cl.of Tryz.func53 rfl rfl) rfl rfl (fun w' hE => rpower_sp x.width w') rfl ?_
    rintro q15 hq15
    have hq15 : q15 = powB x.width := hq15
    repeat' (first | refine g_pv rfl rfl ?_ | refine g_nil ?_ | refine gq_then ?_ | refine gc_ret ?_ | refine gq_then_ret ?_ | refine gq_block_ret ?_)
    refine gq_ret1 (.inr rfl) rfl rfl rfl (fun w' H => ⟨q15, ?_, rfl, hp_nil H⟩)
    rw [hS, okI6 hop, hq15]; simp [hq12, hq13, h14]
  repeat' (first | refine g_pv rfl rfl ?_ | refine g_nil ?_ | refine gq_then ?_ | refine gc_seq ?_ | refine gc_region ?_)
  refine gc_condC rfl (fun c7 => ?_) (fun c7 => ?_)
  · have hop : x.op = 7 := beq_iff_eq.1 c7
    repeat' (first | refine g_pv rfl rfl ?_ | refine g_ld 0 rfl rfl rfl rfl rfl rfl ?_ | refine g_ld 1 rfl rfl rfl rfl rfl rfl ?_ | refine gc_seq ?_ | refine gc_region ?_)
    refine g_call rfl (Cl.of Tryz.func98 rfl rfl) rfl rfl (fun w' hE => rarg_sp f x.a w' (hx.ok x.a (by simp)) hf.te) rfl ?_
    rintro q16 hq16
    have hq16 : argB f.te x.a = q16 := hq16.symm
    cases q16
    · -- no
      repeat' (first | refine g_pv rfl rfl ?_ | refine g_nil ?_ | refine gq_then ?_ | refine gc_ret ?_ | refine gq_then_ret ?_ | refine gq_block_ret ?_ | refine g_no rfl rfl rfl rfl rfl ?_)
      refine gq_ret1 (.inr rfl) rfl rfl rfl (fun w' H => ⟨_, ?_, rfl, hp_nil H⟩)
      rw [hS, okI7 hop]; simp [hq16]
    repeat' (first | refine g_pv rfl rfl ?_ | refine g_ld 0 rfl rfl rfl rfl rfl rfl ?_ | refine g_ld 1 rfl rfl rfl rfl rfl rfl ?_ | refine g_yes rfl rfl rfl ?_)
    refine g_call rfl (Cl.of Tryz.func98 rfl rfl) rfl rfl (fun w' hE => rarg_sp f x.b w' (hx.ok x.b (by simp)) hf.te) rfl ?_
    rintro q17 hq17
    have hq17 : argB f.te x.b = q17 := hq17.symm
    cases q17
    · -- no
      repeat' (first | refine g_pv rfl rfl ?_ | refine g_nil ?_ | refine gq_then ?_ | refine gc_ret ?_ | refine gq_then_ret ?_ | refine gq_block_ret ?_ | refine g_no rfl rfl rfl rfl rfl ?_)
      refine gq_ret1 (.inr rfl) rfl rfl rfl (fun w' H => ⟨_, ?_, rfl, hp_nil H⟩)
      rw [hS, okI7 hop]; simp [hq16, hq17]
    repeat' (first | refine g_pv rfl rfl ?_ | refine g_ld 0 rfl rfl rfl rfl rfl rfl ?_ | refine g_yes rfl rfl rfl ?_)
    refine g_call rfl (Cl.of Tryz.func53 rfl rfl) rfl rfl (fun w' hE => rpower_sp x.width w') rfl ?_
    rintro q18 hq18
    have hq18 : powB x.width = q18 := hq18.symm
    cases q18
    · -- no
      repeat' (first | refine g_pv rfl rfl ?_ | refine g_nil ?_ | refine gq_then ?_ | refine gc_ret ?_ | refine gq_then_ret ?_ | refine gq_block_ret ?_ | refine g_no rfl rfl rfl rfl rfl ?_)
      refine gq_ret1 (.inr rfl) rfl rfl rfl (fun w' H => ⟨_, ?_, rfl, hp_nil H⟩)
      rw [hS, okI7 hop]; simp [hq16, hq17, hq18]
    repeat' (first | refine g_pv rfl rfl ?_ | refine g_ld 0 rfl rfl rfl rfl rfl rfl ?_ | refine g_yes rfl rfl rfl ?_)
    refine g_call rfl (Cl.of Tryz.func30 rfl rfl) rfl rfl (fun w' hE => rwithin_sp _ _ _ w') rfl (fun _ _ => ?_)
    refine g_eq 188 (u' := .bool (rngB x.off (1) 16384)) rfl rfl ?_
    repeat' (refine g_pv rfl rfl ?_)
    refine g_case (t := 190) rfl (fun h19 => ?_) (fun h19 => ?_)
    rotate_left
    · have h19 : rngB x.off (1) 16384 = false := h19
      repeat' (first | refine g_pv rfl rfl ?_ | refine g_nil ?_ | refine gq_then ?_ | refine gc_ret ?_ | refine gq_then_ret ?_ | refine gq_block_ret ?_ | refine g_no rfl rfl rfl rfl rfl ?_)
      refine gq_ret1 (.inr rfl) rfl rfl rfl (fun w' H => ⟨_, ?_, rfl, hp_nil H⟩)
      rw [hS, okI7 hop]; simp [hq16, hq17, hq18, h19]
    have h19 : rngB x.off (1) 16384 = true := h19
    repeat' (first | refine g_pv rfl rfl ?_ | refine g_ld 0 rfl rfl rfl rfl rfl rfl ?_ | refine g_yes rfl rfl rfl ?_)
    have hne : x.width ≠ 0 := by
      intro h0; rw [h0] at hq18; exact absurd hq18 (by decide)
    refine g_p (p_rem rfl rfl hne) rfl ?_
    repeat' (first | refine g_pv rfl rfl ?_ | refine g_nil ?_ | refine gq_then ?_ | refine gc_ret ?_ | refine gq_then_ret ?_ | refine gq_block_ret ?_ | refine g_yes rfl rfl rfl ?_)
    refine gq_ret1 (.inr rfl) rfl rfl rfl (fun w' H => ⟨_, ?_, rfl, hp_nil H⟩)
    rw [hS, okI7 hop]; simp [hq16, hq17, hq18, h19]
  repeat' (first | refine g_pv rfl rfl ?_ | refine g_nil ?_ | refine gq_then ?_ | refine gc_seq ?_ | refine gc_region ?_)
  refine gc_condC rfl (fun c8 => ?_) (fun c8 => ?_)
  · have hop : x.op = 8 := beq_iff_eq.1 c8
    repeat' (first | refine g_ld 0 rfl rfl rfl rfl rfl rfl ?_ | refine g_ld 1 rfl rfl rfl rfl rfl rfl ?_ | refine g_ld 2 rfl rfl rfl rfl rfl rfl ?_ | refine gc_seq ?_ | refine gc_region ?_)
    refine g_call rfl (Cl.of Tryz.func100 rfl rfl) rfl rfl (fun w' hE => rcall_sp p f x w' (hp.le (fun b o h => old_le hE b o (old_le0 _ w b o h))) hf.te (hx.le (fun b o h => old_le hE b o (old_le0 _ w b o h)))) rfl ?_
    rintro q20 hq20
    have hq20 : q20 = rcallB p f x := hq20
    repeat' (first | refine g_pv rfl rfl ?_ | refine g_nil ?_ | refine gq_then ?_ | refine gc_ret ?_ | refine gq_then_ret ?_ | refine gq_block_ret ?_)
    refine gq_ret1 (.inr rfl) rfl rfl rfl (fun w' H => ⟨q20, ?_, rfl, hp_nil H⟩)
    rw [hS, okI8 hop, hq20]
  repeat' (first | refine g_pv rfl rfl ?_ | refine g_nil ?_ | refine gq_then ?_ | refine gc_seq ?_ | refine gc_region ?_)
  refine gc_condC rfl (fun c9 => ?_) (fun c9 => ?_)
  · have hop : x.op = 9 := beq_iff_eq.1 c9
    repeat' (first | refine g_pv rfl rfl ?_ | refine g_ld 1 rfl rfl rfl rfl rfl rfl ?_ | refine gc_seq ?_ | refine gc_region ?_)
    refine g_case (t := 208) rfl (fun h21 => ?_) (fun h21 => ?_)
    · have h21 : f.gi = true := h21
      repeat' (first | refine g_pv rfl rfl ?_ | refine g_ld 0 rfl rfl rfl rfl rfl rfl ?_ | refine g_ld 1 rfl rfl rfl rfl rfl rfl ?_ | refine g_yes rfl rfl rfl ?_)
      refine g_call rfl (Cl.of Tryz.func98 rfl rfl) rfl rfl (fun w' hE => rarg_sp f x.a w' (hx.ok x.a (by simp)) hf.te) rfl ?_
      rintro q22 hq22
      have hq22 : argB f.te x.a = q22 := hq22.symm
      cases q22
      · repeat' (first | refine g_pv rfl rfl ?_ | refine g_ld 1 rfl rfl rfl rfl rfl rfl ?_ | refine g_yes rfl rfl rfl ?_)
        refine g_eq 218 (u' := .bool false) rfl (by rw [h21]; rfl) ?_
        repeat' (first | refine g_pv rfl rfl ?_ | refine g_nil ?_ | refine gq_then ?_ | refine gc_ret ?_ | refine gq_then_ret ?_ | refine gq_block_ret ?_ | refine g_yes rfl rfl rfl ?_ | refine g_no rfl rfl rfl rfl rfl ?_)
        refine gq_ret1 (.inr rfl) rfl rfl rfl (fun w' H => ⟨_, ?_, rfl, hp_nil H⟩)
        rw [hS, okI9 hop]; simp [h21, hq22]
      · -- yes
        repeat' (first | refine g_pv rfl rfl ?_ | refine g_nil ?_ | refine gq_then ?_ | refine gc_ret ?_ | refine gq_then_ret ?_ | refine gq_block_ret ?_ | refine g_no rfl rfl rfl rfl rfl ?_)
        refine gq_ret1 (.inr rfl) rfl rfl rfl (fun w' H => ⟨_, ?_, rfl, hp_nil H⟩)
        rw [hS, okI9 hop]; simp [h21, hq22]
    · have h21 : f.gi = false := h21
      repeat' (first | refine g_pv rfl rfl ?_ | refine g_ld 1 rfl rfl rfl rfl rfl rfl ?_ | refine g_yes rfl rfl rfl ?_ | refine g_no rfl rfl rfl rfl rfl ?_)
      refine g_eq 218 (u' := .bool true) rfl (by rw [h21]; rfl) ?_
      repeat' (first | refine g_pv rfl rfl ?_ | refine g_ld 0 rfl rfl rfl rfl rfl rfl ?_ | refine g_yes rfl rfl rfl ?_)
      refine g_call rfl (Cl.of Tryz.func101 rfl rfl) rfl rfl (fun w' hE => rnone_sp x.a w') rfl ?_
      rintro q23 hq23
      have hq23 : q23 = (x.a.k == 0 && x.a.n == 0) := hq23
      repeat' (first | refine g_pv rfl rfl ?_ | refine g_nil ?_ | refine gq_then ?_ | refine gc_ret ?_ | refine gq_then_ret ?_ | refine gq_block_ret ?_ | refine g_yes rfl rfl rfl ?_)
      refine gq_ret1 (.inr rfl) rfl rfl rfl (fun w' H => ⟨q23, ?_, rfl, hp_nil H⟩)
      rw [hS, okI9 hop, hq23]; simp [h21]
  repeat' (first | refine g_pv rfl rfl ?_ | refine g_nil ?_ | refine gq_then ?_ | refine gc_seq ?_ | refine gc_region ?_)
  refine gc_condC rfl (fun c10 => ?_) (fun c10 => ?_)
  · have hop : x.op = 10 := beq_iff_eq.1 c10
    repeat' (first | refine g_pv rfl rfl ?_ | refine g_ld 0 rfl rfl rfl rfl rfl rfl ?_ | refine g_ld 1 rfl rfl rfl rfl rfl rfl ?_ | refine gc_seq ?_ | refine gc_region ?_)
    refine g_eq 231 (u' := .int .i64 ((f.code.length : Int) - 1)) rfl (by rw [IntKind.wrap_i64]; congr 1; omega) ?_
    refine g_call rfl (Cl.of Tryz.func30 rfl rfl) rfl rfl (fun w' hE => rwithin_sp _ _ _ w') rfl (fun _ _ => ?_)
    refine g_eq 232 (u' := .bool (inB x.n f.code.length)) rfl (by rw [inB_le]) ?_
    repeat' (first | refine g_pv rfl rfl ?_ | refine g_nil ?_ | refine gq_then ?_ | refine gc_ret ?_ | refine gq_then_ret ?_ | refine gq_block_ret ?_)
    refine gq_ret1 (.inr rfl) rfl rfl rfl (fun w' H => ⟨_, ?_, rfl, hp_nil H⟩)
    rw [hS, okI10 hop]
  repeat' (first | refine g_pv rfl rfl ?_ | refine g_nil ?_ | refine gq_then ?_ | refine gc_seq ?_ | refine gc_region ?_)
  refine gc_condC rfl (fun c11 => ?_) (fun c11 => ?_)
  · have hop : x.op = 11 := beq_iff_eq.1 c11
    repeat' (first | refine g_pv rfl rfl ?_ | refine g_ld 0 rfl rfl rfl rfl rfl rfl ?_ | refine g_ld 1 rfl rfl rfl rfl rfl rfl ?_ | refine gc_seq ?_ | refine gc_region ?_)
    refine g_eq 240 (u' := .int .i64 ((f.code.length : Int) - 1)) rfl (by rw [IntKind.wrap_i64]; congr 1; omega) ?_
    refine g_call rfl (Cl.of Tryz.func30 rfl rfl) rfl rfl (fun w' hE => rwithin_sp _ _ _ w') rfl (fun _ _ => ?_)
    refine g_eq 241 (u' := .bool (inB x.n f.code.length)) rfl (by rw [inB_le]) ?_
    repeat' (refine g_pv rfl rfl ?_)
    refine g_case (t := 242) rfl (fun h24 => ?_) (fun h24 => ?_)
    rotate_left
    · have h24 : inB x.n f.code.length = false := h24
      repeat' (first | refine g_pv rfl rfl ?_ | refine g_nil ?_ | refine gq_then ?_ | refine gc_ret ?_ | refine gq_then_ret ?_ | refine gq_block_ret ?_ | refine g_no rfl rfl rfl rfl rfl ?_)
      refine gq_ret1 (.inr rfl) rfl rfl rfl (fun w' H => ⟨_, ?_, rfl, hp_nil H⟩)
      rw [hS, okI11 hop]; simp [h24]
    have h24 : inB x.n f.code.length = true := h24
    repeat' (first | refine g_pv rfl rfl ?_ | refine g_ld 0 rfl rfl rfl rfl rfl rfl ?_ | refine g_ld 1 rfl rfl rfl rfl rfl rfl ?_ | refine g_yes rfl rfl rfl ?_)
    refine g_call rfl (Cl.of Tryz.func98 rfl rfl) rfl rfl (fun w' hE => rarg_sp f x.a w' (hx.ok x.a (by simp)) hf.te) rfl ?_
    rintro q25 hq25
    have hq25 : q25 = argB f.te x.a := hq25
    repeat' (first | refine g_pv rfl rfl ?_ | refine g_nil ?_ | refine gq_then ?_ | refine gc_ret ?_ | refine gq_then_ret ?_ | refine gq_block_ret ?_)
    refine gq_ret1 (.inr rfl) rfl rfl rfl (fun w' H => ⟨q25, ?_, rfl, hp_nil H⟩)
    rw [hS, okI11 hop, hq25]; simp [h24]
  repeat' (first | refine g_pv rfl rfl ?_ | refine g_nil ?_ | refine gq_then ?_ | refine gc_seq ?_ | refine gc_region ?_)
  refine gc_condC rfl (fun c13 => ?_) (fun c13 => ?_)
  · have hop : x.op = 13 := beq_iff_eq.1 c13
    repeat' (first | refine g_pv rfl rfl ?_ | refine g_ld 0 rfl rfl rfl rfl rfl rfl ?_ | refine g_ld 1 rfl rfl rfl rfl rfl rfl ?_ | refine gc_seq ?_ | refine gc_region ?_)
    refine g_call rfl (Cl.of Tryz.func97 rfl rfl) rfl rfl (fun w' hE => rtemp_sp f x.d w') rfl ?_
    rintro q26 hq26
    have hq26 : q26 = inB x.d f.te := hq26
    repeat' (first | refine g_pv rfl rfl ?_ | refine g_nil ?_ | refine gq_then ?_ | refine gc_ret ?_ | refine gq_then_ret ?_ | refine gq_block_ret ?_)
    refine gq_ret1 (.inr rfl) rfl rfl rfl (fun w' H => ⟨q26, ?_, rfl, hp_nil H⟩)
    rw [hS, okI13 hop, hq26]
  repeat' (first | refine g_pv rfl rfl ?_ | refine g_ld 0 rfl rfl rfl rfl rfl rfl ?_ | refine g_ld 1 rfl rfl rfl rfl rfl rfl ?_ | refine gq_then ?_ | refine gc_seq ?_ | refine gc_region ?_ | refine gc_skip ?_ | refine gq_block ?_)
  refine g_call rfl (Cl.of Tryz.func98 rfl rfl) rfl rfl (fun w' hE => rarg_sp f x.a w' (hx.ok x.a (by simp)) hf.te) rfl ?_
  rintro q hq
  repeat' (first | refine g_pv rfl rfl ?_ | refine g_nil ?_ | refine gq_then ?_ | refine gc_ret ?_)
  refine gq_ret1 (.inr rfl) rfl rfl rfl (fun w' H => ⟨q, ?_, rfl, hp_nil H⟩)
  have hop : x.op = 12 ∨ x.op = 14 := by have := beq_eq_false_iff_ne.1 c1; have := beq_eq_false_iff_ne.1 c2; have := beq_eq_false_iff_ne.1 c3; have := beq_eq_false_iff_ne.1 c4; have := beq_eq_false_iff_ne.1 c5; have := beq_eq_false_iff_ne.1 c6; have := beq_eq_false_iff_ne.1 c7; have := beq_eq_false_iff_ne.1 c8; have := beq_eq_false_iff_ne.1 c9; have := beq_eq_false_iff_ne.1 c10; have := beq_eq_false_iff_ne.1 c11; have := beq_eq_false_iff_ne.1 c13; omega
  rcases hop with hop | hop
  · rw [hS, okI12 hop, hq]
  · rw [hS, okI14 hop, hq]
end Go.Proofs.YtpohhfggmaihpaaGreatDoor
