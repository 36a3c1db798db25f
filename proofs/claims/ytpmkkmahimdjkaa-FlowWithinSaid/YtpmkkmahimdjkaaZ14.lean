/-
  flow.idom, walked.
  Loops, by the dominators (plain).
  Ways up: loops' first closure, the document's over, the law's over.
  flow.loops.
-/
import Derived.Test.YtpmkkmahimdjkaaZ13

/- flow.idom, walked. -/
namespace Go.Proofs.Ytpmkkmahimdjkaa
open Go.Wk
set_option linter.unusedVariables false
set_option linter.unusedSimpArgs false
attribute [local irreducible] G GC GQ GA GS Exit.then Exit.inBlock

/-- Between passes. -/
structure LY where
  ds : List Int
  ag : Bool
  fst : Bool
  Ao : HL
  b10 : Nat
  Ds : List Nat
structure RY where
  ds : List Int
  fl : Bool
  Ao : HL
theorem gq_heap {X : Cx} {Q : Post} {e : Exit} {L : LT} {R R' : RL} (h : ∀ w, Hp X w R → Hp X w R') (k : GQ X Q e L R') : GQ X Q e L R := by
  unfold GQ at k ⊢; exact fun a w ha hE => k a w ha (h w hE)
theorem froms_len (code : List Ins) (v : Nat) : (frOf code v).length ≤ 2 * code.length := by
  unfold frOf
  by_cases hv : v < (fromsAt code code.length).length
  · have := lens_froms code code.length _ (List.getElem_mem hv)
    simpa [List.getD, List.getElem?_eq_getElem hv] using this
  · simp [List.getD, List.getElem?_eq_none (by omega : (fromsAt code code.length).length ≤ v)]
theorem frOf_lt (code : List Ins) (v p : Nat) (h : (p : Int) ∈ frOf code v) : p < code.length := by
  unfold frOf at h
  by_cases hv : v < code.length
  · obtain ⟨u, h1, h2, _⟩ := (froms_mem code p v hv _).1 h
    omega
  · simp [List.getD, List.getElem?_eq_none (by rw [fromsAt_length]; omega : (fromsAt code code.length).length ≤ v)] at h
theorem cellAt_of {H : Nat → Option Obj} {b : Nat} {v : Value} {e : TypeId} {fz : Nat × Nat} (h : H b = some (.cells ⟨[v]⟩ e fz)) : cellAt H b 0 = some v := by simp only [cellAt, h]; rfl

set_option maxHeartbeats 16000000 in
theorem idom_sp (f : TF) (gb : Nat) (nv fv : Value) (w : World) (hg : GrIn (hw w) f gb nv fv) (hn : 1 ≤ f.code.length) (hn2 : f.code.length ≤ 16384) :
    Sp Try.prog 39 [.pointer (some ⟨gb, 0, none⟩)] w [] (fun y : Value × HL × List Int => y.1) (fun y => [y.2.1]) (fun y => OwnI y.1 y.2.2 y.2.1 ∧ IsIdom (nxt f.code) f.code.length y.2.2) := by
  obtain ⟨ad, cap, vals, rfl, -, -, -⟩ := RdLL.get hg.rn
  obtain ⟨fad, fcap, fvals, rfl, hfr, hfvl, hfget⟩ := RdLL.get hg.rf
  have hnl : (nextsAt f.code f.code.length).length = f.code.length := nextsAt_length _ _ (Nat.le_refl _)
  have hfl : (fromsAt f.code f.code.length).length = f.code.length := fromsAt_length _ _
  have F := frOf_fr f.code hn
  refine enterM (s := Try.sx) [] rfl Try.func39 rfl rfl rfl (Eff.refl w) ?_
  repeat' (first | refine g_pv rfl rfl ?_ | refine g_ld 0 rfl rfl rfl rfl rfl rfl ?_ | refine g_nil ?_ | refine gq_then ?_ | refine gc_seq ?_ | refine gc_region ?_ | refine g_box rfl rfl (fun _ => ?_))
  rename_i b1
  refine g_call rfl (Cl.of Try.func49 rfl rfl) rfl rfl (fun w' hE => postorder_sp f gb _ _ w' (hg.le (fun b o h => old_le hE b o (old_le0 _ w b o h))) hn hn2) rfl ?_
  rintro ⟨v3, A3, post⟩ ⟨ho3, hP⟩
  dsimp only at ho3 hP ⊢
  have N := hP.num
  have O := hP.ord
  have hpl : post.length ≤ f.code.length := by
    have h1 : (post.map Int.toNat).Nodup := by
      refine List.Pairwise.map _ (fun a b hab => ?_) (List.Pairwise.and_mem.1 hP.nodup)
      obtain ⟨ha, hb, hne⟩ := hab
      obtain ⟨u, rfl, _⟩ := (hP.mem a).1 ha
      obtain ⟨v, rfl, _⟩ := (hP.mem b).1 hb
      omega
    have h2 := List.Nodup.length_le_of_subset (l₂ := List.range f.code.length) h1 (fun x hx => by
      obtain ⟨k, hk, rfl⟩ := List.mem_map.1 hx
      obtain ⟨u, rfl, hu⟩ := (hP.mem k).1 hk
      exact List.mem_range.2 (by have := F.lt u hu; simpa using this))
    simpa using h2
  repeat' (first | refine g_pv rfl rfl ?_ | refine g_nil ?_ | refine gq_then ?_ | refine gc_seq ?_ | refine gc_region ?_)
  refine g_mkmap rfl (fun r => ?_)
  repeat' (first | refine g_pv rfl rfl ?_ | refine g_ld 3 rfl rfl rfl rfl rfl rfl ?_ | refine g_nil ?_ | refine gq_then ?_ | refine gc_seq ?_ | refine gc_region ?_ | refine g_alloc rfl rfl (fun _ => ?_) | refine g_st 0 rfl rfl rfl rfl rfl rfl rfl ?_)
  rename_i b4
  refine g_ldO rfl rfl (cs := [.slice ad (nextsAt f.code f.code.length).length cap]) rfl rfl (cell1 ((old_le0 _ w).cell hg.cn)) rfl ?_
  repeat' (refine g_pv rfl rfl ?_)
  refine g_eq 23 (u' := .int .i64 (f.code.length : Int)) rfl (by rw [hnl]) ?_
  refine g_make (n := f.code.length) (c := f.code.length) rfl rfl rfl rfl rfl (Nat.le_refl _) (by show 8 * _ ≤ _; omega) (by omega) rfl (fun go => ?_)
  have hoo := own_make (e := 3) (te := ⟨.int .i64, .int .i64 0, 1, 8⟩) (f := fI) (0 : Int) rfl rfl go f.code.length (by unfold maxLen; omega)
  obtain ⟨ad3, cap3, rfl, _⟩ := Own.shape ho3
  repeat' (first | refine g_pv rfl rfl ?_ | refine g_ld 0 rfl rfl rfl rfl rfl rfl ?_ | refine g_nil ?_ | refine gq_then ?_ | refine gc_seq ?_ | refine gc_region ?_ | refine gc_block ?_ | refine g_alloc rfl rfl (fun _ => ?_) | refine g_st 0 rfl rfl rfl rfl rfl rfl rfl ?_)
  rename_i b5
  refine gc_loop (Y := Nat × HL) (fun y => y.1 ≤ f.code.length ∧ OwnI (.slice (some ⟨go, 0, none⟩) f.code.length f.code.length) (List.replicate y.1 (-1) ++ List.replicate (f.code.length - y.1) 0) y.2)
    (fun y => [(1, .pointer (some ⟨b1, 0, none⟩)), (3, .slice ad3 post.length cap3), (4, .pointer (some ⟨b4, 0, none⟩)), (5, .pointer (some ⟨b5, 0, none⟩)), (26, .int .i64 f.code.length), (27, .int .i64 y.1)])
    (fun y => [[(b5, .cells ⟨[.slice (some ⟨go, 0, none⟩) f.code.length f.code.length]⟩ 26 (0, 0))], y.2, [(b4, .cells ⟨[.map (some r)]⟩ 53 (0, 0))], [(r, .map #[] 0)], A3, [(b1, .cells ⟨[.pointer (some ⟨gb, 0, none⟩)]⟩ 50 (0, 0))]])
    (fun y => f.code.length - y.1) (0, _) ⟨Nat.zero_le _, hoo⟩ ⟨rfl, rfl, rfl, rfl, rfl, rfl, trivial⟩ (fun w' H => H) ?_
  rintro ⟨i, Ao⟩ ⟨hi, ho⟩
  try dsimp only at hi ho ⊢
  repeat' (first | refine g_pv rfl rfl ?_ | refine g_nil ?_ | refine gq_then ?_ | refine gc_seq ?_ | refine gc_region ?_)
  refine gc_condC rfl (fun hc => ?_) (fun hc => ?_)
  · have hlt : i < f.code.length := by have := of_decide_eq_true hc; omega
    repeat' (first | refine g_pv rfl rfl ?_ | refine g_ld 0 rfl rfl rfl rfl rfl rfl ?_ | refine g_nil ?_ | refine gq_then ?_ | refine gc_seq ?_ | refine gc_region ?_ | refine gc_block ?_ | refine gc_skip ?_)
    refine g_setL 1 (f := fI) (q := (-1 : Int)) rfl rfl ho (fun _ => rfl) rfl rfl rfl rfl (Int.natCast_nonneg i) (by simp; omega) rfl rfl rfl rfl rfl (fun _ A1 ho1 => ?_)
    repeat' (first | refine g_pv rfl rfl ?_ | refine g_nil ?_ | refine gq_then ?_ | refine gc_region ?_ | refine gq_block ?_)
    refine gq_again (i + 1, A1) ⟨hlt, ?_⟩ (by simp only; omega) ⟨rfl, rfl, rfl, rfl, rfl, inc_eq (by omega), trivial⟩ (fun w' H => H)
    have e : (List.replicate i (-1 : Int) ++ List.replicate (f.code.length - i) 0).set (i : Int).toNat (-1) = List.replicate (i + 1) (-1) ++ List.replicate (f.code.length - (i + 1)) 0 := by
      rw [Int.toNat_natCast, List.set_append_right _ _ (by simp), show f.code.length - i = (f.code.length - (i + 1)) + 1 from by omega, List.replicate_succ (n := f.code.length - (i + 1))]
      simp [List.replicate_succ']
    rw [e] at ho1; exact ho1
  have hin : i = f.code.length := by have := of_decide_eq_false hc; omega
  subst hin
  simp only [Nat.sub_self, List.replicate_zero, List.append_nil] at ho
  clear hc hi hoo
  repeat' (first | refine g_pv rfl rfl ?_ | refine g_nil ?_ | refine gq_then ?_ | refine gc_seq ?_ | refine gc_region ?_ | refine gc_block ?_ | refine gc_exit ?_ | refine gq_then_exit ?_ | refine gq_block_exit ?_)
  refine gc_loop (Y := Nat × Array MapEntry × Nat × List (Int × Value)) (fun y => y.1 ≤ post.length ∧ MapIs KI y.2.2.2 y.2.1 y.2.2.1 ∧ ∀ j x, j < y.1 → post[j]? = some x → ml y.2.2.2 x = some (.int .i64 (j : Nat)))
    (fun y => [(1, .pointer (some ⟨b1, 0, none⟩)), (3, .slice ad3 post.length cap3), (4, .pointer (some ⟨b4, 0, none⟩)), (5, .pointer (some ⟨b5, 0, none⟩)), (34, .slice ad3 post.length cap3), (35, .int .i64 post.length), (36, .int .i64 y.1)])
    (fun y => [[(b5, .cells ⟨[.slice (some ⟨go, 0, none⟩) f.code.length f.code.length]⟩ 26 (0, 0))], Ao, [(b4, .cells ⟨[.map (some r)]⟩ 53 (0, 0))], [(r, .map y.2.1 y.2.2.1)], A3, [(b1, .cells ⟨[.pointer (some ⟨gb, 0, none⟩)]⟩ 50 (0, 0))]])
    (fun y => post.length - y.1) (0, #[], 0, []) ⟨Nat.zero_le _, mapIs_nil _ _, fun j x h => (by omega)⟩ ⟨rfl, rfl, rfl, rfl, rfl, rfl, rfl, trivial⟩ (fun w' H => H) ?_
  rintro ⟨k, en, clock, kv⟩ ⟨hk, hM, hkv⟩
  try dsimp only at hk hM hkv ⊢
  repeat' (first | refine g_pv rfl rfl ?_ | refine g_nil ?_ | refine gq_then ?_ | refine gc_seq ?_ | refine gc_region ?_)
  refine gc_condC rfl (fun hc => ?_) (fun hc => ?_)
  · have hlt : k < post.length := by have := of_decide_eq_true hc; omega
    have hxk : post[k]? = some post[k] := List.getElem?_eq_getElem hlt
    have hnd : ∀ j : Nat, j < k → ∀ y, post[j]? = some y → y ≠ post[k] := fun j hj y hy he => by
      have h1 := (List.getElem?_eq_some_iff.1 hy)
      obtain ⟨h2, h3⟩ := h1
      exact absurd (h3.trans he) (List.pairwise_iff_getElem.1 hP.nodup j k h2 hlt hj)
    generalize post[k] = x at hxk hnd
    repeat' (first | refine g_pv rfl rfl ?_ | refine gq_then ?_ | refine gc_seq ?_ | refine gc_region ?_ | refine gc_block ?_ | refine gc_skip ?_)
    refine g_atL 4 (f := fI) (q := x) rfl rfl ho3 (fun _ => rfl) rfl rfl rfl rfl (Int.natCast_nonneg k) (by simpa using hxk) rfl rfl rfl (fun _ => ?_)
    repeat' (first | refine g_pv rfl rfl ?_ | refine g_ld 2 rfl rfl rfl rfl rfl rfl ?_ | refine g_nil ?_ | refine gq_then ?_ | refine gc_region ?_)
    refine g_upd 3 (kf := KI) (k := x) rfl rfl rfl rfl rfl (kl_int (Try.sx.ok.at rfl)) hM (fun es' clock' M' => ?_)
    repeat' (first | refine g_pv rfl rfl ?_ | refine g_nil ?_ | refine gq_then ?_ | refine gc_region ?_ | refine gq_block ?_)
    refine gq_again (k + 1, es', clock', mput kv x (.int .i64 (k : Nat))) ⟨hlt, M', fun j y hj hy => ?_⟩ (by simp only; omega) ⟨rfl, rfl, rfl, rfl, rfl, rfl, inc_eq (by omega), trivial⟩ (fun w' H => H)
    show ml (mput kv x (.int .i64 (k : Nat))) y = _
    rw [ml_mput]
    by_cases hjk : j = k
    · subst hjk
      rw [hxk] at hy; cases hy
      simp
    · rw [if_neg (hnd j (by simp only at hj; omega) y hy)]
      exact hkv j y (by simp only at hj; omega) hy
  have hkn : k = post.length := by have := of_decide_eq_false hc; omega
  subst hkn
  have hnum : ∀ v, R0 (nxt f.code) v → (ml kv (v : Int)).getD (.int .i64 0) = .int .i64 (numP post v) := fun v hv => by
    have hm := (hP.mem (v : Int)).2 ⟨v, rfl, hv⟩
    have h1 := List.idxOf_lt_length_of_mem hm
    rw [hkv (numP post v) (v : Int) h1 (by unfold numP; rw [List.getElem?_eq_getElem h1, List.getElem_idxOf])]
    rfl
  clear hc hk hkv
  repeat' (first | refine g_pv rfl rfl ?_ | refine g_ld 1 rfl rfl rfl rfl rfl rfl ?_ | refine g_nil ?_ | refine gq_then ?_ | refine gc_seq ?_ | refine gc_region ?_ | refine gc_exit ?_ | refine gq_then_exit ?_ | refine gq_block_exit ?_ | refine g_alloc rfl rfl (fun _ => ?_) | refine g_st 0 rfl rfl rfl rfl rfl rfl rfl ?_)
  rename_i b9
  refine g_setL 2 (f := fI) (q := (0 : Int)) rfl rfl ho (fun _ => rfl) rfl rfl rfl rfl (by omega) (by simp; omega) rfl rfl rfl rfl rfl (fun _ A1 ho1 => ?_)
  rw [show ((0 : Int).toNat) = 0 from rfl] at ho1
  have hI0 := IOk.start (es := nxt f.code) (num := numP post) (fr := frOf f.code) hn
  repeat' (first | refine g_nil ?_ | refine gq_then ?_ | refine gc_seq ?_ | refine gc_region ?_ | refine gc_block ?_ | refine g_alloc rfl rfl (fun _ => ?_) | refine g_st 0 rfl rfl rfl rfl rfl rfl rfl ?_)
  rename_i b10
  refine gc_loopD (Y := LY) (fun y => IOk (nxt f.code) (numP post) (frOf f.code) f.code.length y.ds y.ag y.fst ∧ OwnI (.slice (some ⟨go, 0, none⟩) f.code.length f.code.length) y.ds y.Ao) (fun y => mks y.Ds)
    (fun y => [(1, .pointer (some ⟨b1, 0, none⟩)), (3, .slice ad3 post.length cap3), (4, .pointer (some ⟨b4, 0, none⟩)), (5, .pointer (some ⟨b5, 0, none⟩)), (9, .pointer (some ⟨b9, 0, none⟩)), (10, .pointer (some ⟨y.b10, 0, none⟩))])
    (fun y => [y.Ao, [(y.b10, .cells ⟨[.bool y.ag]⟩ 4 (0, 0))], [(b5, .cells ⟨[.slice (some ⟨go, 0, none⟩) f.code.length f.code.length]⟩ 26 (0, 0))], [(b9, .cells ⟨[.func (.func 50) #[] #[.pointer (some ⟨b4, 0, none⟩), .pointer (some ⟨b5, 0, none⟩)]]⟩ 84 (0, 0))], [(b4, .cells ⟨[.map (some r)]⟩ 53 (0, 0))], [(r, .map en clock)], A3, [(b1, .cells ⟨[.pointer (some ⟨gb, 0, none⟩)]⟩ 50 (0, 0))], mkb y.Ds])
    (fun y => imu (numP post) post.length (vsOf post) y.ds y.ag y.fst) ⟨_, true, true, A1, b10, []⟩ ⟨hI0, ho1⟩ rfl ⟨rfl, rfl, rfl, rfl, rfl, rfl, trivial⟩ (fun w' H => hp_cnt [] H (fun a => by simp only [putC, Value.cells, mkb, List.map_nil, List.cons_append, List.nil_append, List.set_cons_zero, List.set_cons_succ, List.flatten_append, List.flatten_cons, List.flatten_nil, List.count_append, List.count_cons, List.count_nil, List.append_nil]; omega)) ?_
  rintro ⟨ds0, ag, fst, Ao, b10, Ds⟩ ⟨hI, ho⟩
  try dsimp only at hI ho ⊢
  repeat' (first | refine g_ld 1 rfl rfl rfl rfl rfl rfl ?_ | refine g_nil ?_ | refine gq_then ?_ | refine gc_seq ?_ | refine gc_region ?_)
  refine gc_condC rfl (fun hc => ?_) (fun hc => ?_)
  · subst hc
    repeat' (first | refine g_pv rfl rfl ?_ | refine g_nil ?_ | refine gq_then ?_ | refine gc_seq ?_ | refine gc_region ?_ | refine gc_block ?_ | refine gc_skip ?_ | refine g_st 1 rfl rfl rfl rfl rfl rfl rfl ?_)
    refine g_call rfl (Cl.of Try.func51 rfl rfl) rfl rfl (fun w' hE => backward_sp _ _ _ w') rfl (fun bx _ => ?_)
    repeat' (first | refine g_nil ?_ | refine gq_then ?_ | refine gc_block ?_)
    refine gc_heap (R' := (Ao ++ [(b10, .cells ⟨[.bool false]⟩ 4 (0, 0))]) :: [(bx, .cells ⟨[.slice ad3 post.length cap3]⟩ 26 (0, 0))] :: [[(b5, .cells ⟨[.slice (some ⟨go, 0, none⟩) f.code.length f.code.length]⟩ 26 (0, 0))], [(b9, .cells ⟨[.func (.func 50) #[] #[.pointer (some ⟨b4, 0, none⟩), .pointer (some ⟨b5, 0, none⟩)]]⟩ 84 (0, 0))], [(b4, .cells ⟨[.map (some r)]⟩ 53 (0, 0))], [(r, .map en clock)], A3, [(b1, .cells ⟨[.pointer (some ⟨gb, 0, none⟩)]⟩ 50 (0, 0))], mkb Ds]) (fun w' H => hp_cnt [] H (fun a => by simp only [putC, Value.cells, List.cons_append, List.nil_append, List.set_cons_zero, List.set_cons_succ, List.flatten_append, List.flatten_cons, List.flatten_nil, List.count_append, List.count_cons, List.count_nil, List.append_nil]; omega)) ?_
    refine gc_range (Y := RY) (post := fun z => PRun (numP post) (frOf f.code) post ds0 post.length z.ds z.fl ∧ OwnI (.slice (some ⟨go, 0, none⟩) f.code.length f.code.length) z.ds z.Ao) (A' := fun z => z.Ao ++ [(b10, .cells ⟨[.bool z.fl]⟩ 4 (0, 0))]) rfl rfl rfl rfl (Cl.of Try.func62 rfl rfl) (fun l D fn tm w1 htm hkn hE => ?_) (fun D z hz => ?_)
    · have hbx := cellAt_of (hp_exc hE (b := bx) (o := .cells ⟨[.slice ad3 post.length cap3]⟩ 26 (0, 0)) (by simp))
      have h1 := cellAt_of (hp_exc hE (b := b1) (o := .cells ⟨[.pointer (some ⟨gb, 0, none⟩)]⟩ 50 (0, 0)) (by simp))
      have h4 := cellAt_of (hp_exc hE (b := b4) (o := .cells ⟨[.map (some r)]⟩ 53 (0, 0)) (by simp))
      have h5 := cellAt_of (hp_exc hE (b := b5) (o := .cells ⟨[(.slice (some ⟨go, 0, none⟩) f.code.length f.code.length)]⟩ 26 (0, 0)) (by simp))
      have h9 := cellAt_of (hp_exc hE (b := b9) (o := .cells ⟨[.func (.func 50) #[] #[.pointer (some ⟨b4, 0, none⟩), .pointer (some ⟨b5, 0, none⟩)]]⟩ 84 (0, 0)) (by simp))
      have hr := hp_exc hE (b := r) (o := .map en clock) (by simp)
      have hgH := hg.le (fun b o h => hp_excO hE (old_le0 _ w b o h))
      have hgR := hfr.le (fun b o h => hp_excO hE (old_le0 _ w b o h))
      have hpost := hp_excL (f := fI) (sz := 1) hE 6 rfl (fun _ => rfl) ho3
      refine backward1_sp (Y := RY) l bx ad3 cap3 post (fun k z => PRun (numP post) (frOf f.code) post ds0 k z.ds z.fl ∧ OwnI (.slice (some ⟨go, 0, none⟩) f.code.length f.code.length) z.ds z.Ao) (fun z => (l, rec fn tm _ _ _ D .ready none) :: (z.Ao ++ [(b10, .cells ⟨[.bool z.fl]⟩ 4 (0, 0))])) ⟨ds0, false, Ao⟩ w1 (by omega) (hp_eff hE) hbx hpost ⟨.start, ho⟩ ?_
      rintro k x ⟨ds, fl, A2⟩ w2 hk hx ⟨hst, ho2⟩ hE2
      have hle := exc_le hE2
      obtain ⟨hG, hdl⟩ := hst.good N F O hI.good hI.len
      try dsimp only at hst ho2 hG hdl
      have hxr : post.reverse[k]? = some x := by rw [List.getElem?_reverse hk]; exact hx
      obtain ⟨v, rfl, hv⟩ := (hP.mem x).1 (List.mem_of_getElem? hx)
      have hvn := F.lt v hv
      obtain ⟨u, hu, uad, ucap, hue, hur⟩ := hfget v _ (fromsOf_get f.code v hvn)
      subst hue
      refine round_sp (N := Try.f39.ntmps) (s := Try.sx) (A := A2 ++ [(b10, .cells ⟨[.bool fl]⟩ 4 (0, 0))]) (B := []) (A' := fun z : RY => z.Ao ++ [(b10, .cells ⟨[.bool z.fl]⟩ 4 (0, 0))]) (Eff.start _ _ hE2.holds hE2.nodup) rfl htm (kn2 hkn (by rw [htm]; show 51 < 94; decide) (by rw [htm]; show 52 < 94; decide) _ _) ?_
      refine gc_split ?_
      repeat' (first | refine g_pv rfl rfl ?_ | refine g_nil ?_ | refine gc_region ?_)
      refine gq_begin rfl ?_
      repeat' (first | refine g_pv rfl rfl ?_ | refine g_nil ?_ | refine gq_then ?_ | refine gc_seq ?_ | refine gc_region ?_ | refine gc_block ?_)
      refine gc_condC rfl (fun hz => ?_) (fun hz => ?_)
      · have hv0 : v = 0 := by
          have : (v : Int) = 0 := by simpa using hz
          omega
        subst hv0
        repeat' (first | refine gc_exit ?_ | refine gq_then_exit ?_ | refine gq_block_exit ?_)
        exact gq_endRound rfl ⟨ds, fl, A2⟩ ⟨hst.zero hxr, ho2⟩ (fun w' H => hp_cnt [] H (fun a => by simp only [List.cons_append, List.nil_append, List.set_cons_zero, List.set_cons_succ, List.flatten_append, List.flatten_cons, List.flatten_nil, List.count_append, List.count_cons, List.count_nil, List.append_nil, List.flatten_replicate_nil]; omega))
      have hv0 : v ≠ 0 := fun h => by subst h; simp at hz
      repeat' (first | refine g_pv rfl rfl ?_ | refine g_nil ?_ | refine gq_then ?_ | refine gc_seq ?_ | refine gc_region ?_ | refine gc_skip ?_)
      refine g_ldO rfl rfl (cs := [.pointer (some ⟨gb, 0, none⟩)]) rfl rfl (cell1 (hle.cell h1)) rfl ?_
      repeat' (refine g_pv rfl rfl ?_)
      refine g_ldO rfl rfl (cs := [.slice fad (fromsAt f.code f.code.length).length fcap]) rfl rfl (cell1 (hle.cell hgH.cf)) rfl ?_
      repeat' (refine g_pv rfl rfl ?_)
      refine g_at (l := fvals) (f := fV) (u := .slice uad (frOf f.code v).length ucap) rfl rfl rfl rfl rfl (Int.natCast_nonneg v) (by omega) (hgR.le hle) hu rfl rfl rfl rfl (fun _ => ?_)
      repeat' (first | refine g_pv rfl rfl ?_ | refine g_nil ?_ | refine gq_then ?_ | refine gc_block ?_)
      have hrow := F.nn v
      have hrl := froms_len f.code v
      have hNP := @Num.bd _ _ _ N
      generalize hrw : frOf f.code v = row at hur hrow hrl
      refine gc_loop (Y := Nat × Int) (fun y => y.1 ≤ row.length ∧ (y.2 < 0 → y.2 = -1) ∧ (¬ y.2 < 0 → df ds y.2.toNat) ∧ ∀ q, Best (numP post) ds y.2 (row.drop y.1) q → Best (numP post) ds (-1) row q)
        (fun y => [(1, .pointer (some ⟨b1, 0, none⟩)), (5, .pointer (some ⟨b5, 0, none⟩)), (9, .pointer (some ⟨b9, 0, none⟩)), (10, .pointer (some ⟨b10, 0, none⟩)), (12, .int .i64 v), (13, .int .i64 y.2), (61, .slice uad row.length ucap), (62, .int .i64 row.length), (63, .int .i64 y.1)])
        (fun y => [[(l, rec fn tm _ _ _ D .busy none)], A2, [(b10, .cells ⟨[.bool fl]⟩ 4 (0, 0))]])
        (fun y => row.length - y.1) (0, -1) ⟨Nat.zero_le _, fun _ => rfl, fun h => absurd (by decide) h, fun q hq => hq⟩ ⟨rfl, rfl, rfl, rfl, rfl, rfl, rfl, rfl, rfl, trivial⟩ (fun w' H => H) ?_
      rintro ⟨j, best⟩ ⟨hj, hb1, hb2, hb3⟩
      try dsimp only at hj hb1 hb2 hb3 ⊢
      repeat' (first | refine g_pv rfl rfl ?_ | refine g_nil ?_ | refine gq_then ?_ | refine gc_seq ?_ | refine gc_region ?_)
      refine gc_condC rfl (fun hc2 => ?_) (fun hc2 => ?_)
      · have hjlt : j < row.length := by have := of_decide_eq_true hc2; omega
        have hpj : row[j]? = some row[j] := List.getElem?_eq_getElem hjlt
        have hdrop : row.drop j = row[j] :: row.drop (j + 1) := List.drop_eq_getElem_cons hjlt
        have hp0 := hrow _ (List.getElem_mem hjlt)
        generalize row[j] = p at hpj hdrop hp0
        obtain ⟨pn, rfl⟩ : ∃ pn : Nat, p = pn := ⟨p.toNat, by omega⟩
        rw [hdrop] at hb3
        repeat' (first | refine gq_then ?_ | refine gc_seq ?_ | refine gc_region ?_ | refine gc_block ?_ | refine gc_skip ?_)
        refine g_at (l := row) (f := fI) (u := (pn : Int)) rfl rfl rfl rfl rfl (Int.natCast_nonneg j) (by omega) (hur.le (fun b o h => hle b o (hp_excO hE (old_le0 _ w b o h)))) hpj rfl rfl rfl rfl (fun _ => ?_)
        repeat' (first | refine g_pv rfl rfl ?_ | refine g_nil ?_ | refine gq_then ?_ | refine gc_seq ?_ | refine gc_region ?_)
        refine g_ldO rfl rfl (cs := [(.slice (some ⟨go, 0, none⟩) f.code.length f.code.length)]) rfl rfl (cell1 (hle.cell h5)) rfl ?_
        repeat' (refine g_pv rfl rfl ?_)
        have hpn : pn < ds.length := by
          have := frOf_lt f.code v pn (by rw [hrw]; exact List.mem_of_getElem? hpj)
          omega
        have hdp : ds[pn]? = some (ds.getD pn (-1)) := by simp [List.getD, List.getElem?_eq_getElem hpn]
        refine g_atL 1 (f := fI) (q := ds.getD pn (-1)) rfl rfl ho2 (fun _ => rfl) rfl rfl rfl rfl (Int.natCast_nonneg pn) (by simpa using hdp) rfl rfl rfl (fun _ => ?_)
        repeat' (first | refine g_pv rfl rfl ?_ | refine g_nil ?_ | refine gq_then ?_)
        refine gc_condC rfl (fun hq => ?_) (fun hq => ?_)
        · have hq' : ds.getD pn (-1) < 0 := of_decide_eq_true hq
          repeat' (first | refine g_pv rfl rfl ?_ | refine g_nil ?_ | refine gq_then ?_ | refine gc_region ?_ | refine gc_exit ?_ | refine gq_then_exit ?_ | refine gq_block_exit ?_)
          exact gq_again (j + 1, best) ⟨hjlt, hb1, hb2, fun q hq2 => hb3 q (.skip hq' hq2)⟩ (by simp only; omega) ⟨rfl, rfl, rfl, rfl, rfl, rfl, rfl, rfl, inc_eq (by omega), trivial⟩ (fun w' H => H)
        have hq' : ¬ ds.getD pn (-1) < 0 := of_decide_eq_false hq
        have hdfp : df ds pn := by unfold df; omega
        repeat' (first | refine g_pv rfl rfl ?_ | refine g_nil ?_ | refine gq_then ?_ | refine gc_seq ?_ | refine gc_region ?_ | refine gc_skip ?_)
        refine gc_condC rfl (fun hb => ?_) (fun hb => ?_)
        · have hb' : best < 0 := of_decide_eq_true hb
          repeat' (first | refine g_pv rfl rfl ?_ | refine g_nil ?_ | refine gq_then ?_ | refine gc_region ?_ | refine gq_block ?_)
          exact gq_again (j + 1, (pn : Int)) ⟨hjlt, fun h => absurd h (by omega), fun _ => hdfp, fun q hq2 => hb3 q (.first hq' hb' hq2)⟩ (by simp only; omega) ⟨rfl, rfl, rfl, rfl, rfl, rfl, rfl, rfl, inc_eq (by omega), trivial⟩ (fun w' H => H)
        have hb' : ¬ best < 0 := of_decide_eq_false hb
        obtain ⟨bn, rfl⟩ : ∃ bn : Nat, best = bn := ⟨best.toNat, by omega⟩
        have hdfb : df ds bn := by simpa using hb2 hb'
        repeat' (refine gc_region ?_)
        refine g_ldO rfl rfl (cs := [.func (.func 50) #[] #[.pointer (some ⟨b4, 0, none⟩), .pointer (some ⟨b5, 0, none⟩)]]) rfl rfl (cell1 (hle.cell h9)) rfl ?_
        repeat' (refine g_pv rfl rfl ?_)
        refine g_call rfl (Cl.of Try.func50 rfl rfl) rfl rfl (fun w' hE3 => meet_sp N F.lt ds hdl hG b4 b5 pn bn w' ?_ hdfp hdfb) rfl ?_
        · refine ⟨⟨r, en, clock, kv, (old_le hE3).cell (hle.cell h4), old_le hE3 _ _ (hle _ _ hr), hM, hnum⟩, ⟨some ⟨go, 0, none⟩, f.code.length, ?_, ?_⟩⟩
          · rw [hdl]; exact (old_le hE3).cell (hle.cell h5)
          · obtain ⟨ad', cap', he, hrd⟩ := OwnL.rd (f := fI) (fun _ => rfl) ho2 (H := hw w') (hp_in hE3 1 rfl)
            have he' := (Value.slice.inj he).1
            subst he'; exact hrd
        rintro c hcm
        have hcd := (hG.meet N hcm hdfp hdfb).1
        repeat' (first | refine g_pv rfl rfl ?_ | refine g_nil ?_ | refine gq_then ?_ | refine gc_region ?_ | refine gq_block ?_)
        exact gq_again (j + 1, (c : Int)) ⟨hjlt, fun h => absurd h (by omega), fun _ => by simpa using hcd, fun q hq2 => hb3 q (.next hq' hb' (by simpa using hcm) hq2)⟩ (by simp only; omega) ⟨rfl, rfl, rfl, rfl, rfl, rfl, rfl, rfl, inc_eq (by omega), trivial⟩ (fun w' H => H)
      have hje : j = row.length := by have := of_decide_eq_false hc2; omega
      subst hje
      have hbest := hb3 best (by rw [List.drop_length]; exact .nil _)
      rw [← hrw] at hbest
      have hvl : v < ds.length := by omega
      have hdv : ds[v]? = some (ds.getD v (-1)) := by simp [List.getD, List.getElem?_eq_getElem hvl]
      repeat' (first | refine g_pv rfl rfl ?_ | refine gq_then ?_ | refine gc_seq ?_ | refine gc_region ?_ | refine gc_exit ?_ | refine gq_then_exit ?_ | refine gq_block_exit ?_)
      refine g_ldO rfl rfl (cs := [(.slice (some ⟨go, 0, none⟩) f.code.length f.code.length)]) rfl rfl (cell1 (hle.cell h5)) rfl ?_
      repeat' (refine g_pv rfl rfl ?_)
      refine g_atL 1 (f := fI) (q := ds.getD v (-1)) rfl rfl ho2 (fun _ => rfl) rfl rfl rfl rfl (Int.natCast_nonneg v) (by simpa using hdv) rfl rfl rfl (fun _ => ?_)
      repeat' (first | refine g_pv rfl rfl ?_ | refine g_nil ?_ | refine gq_then ?_)
      refine gc_condC rfl (fun hq => ?_) (fun hq => ?_)
      · have hne : best ≠ ds.getD v (-1) := by simpa using hq
        repeat' (refine gc_region ?_)
        refine g_ldO rfl rfl (cs := [(.slice (some ⟨go, 0, none⟩) f.code.length f.code.length)]) rfl rfl (cell1 (hle.cell h5)) rfl ?_
        repeat' (refine g_pv rfl rfl ?_)
        refine g_setL 1 (f := fI) (q := best) rfl rfl ho2 (fun _ => rfl) rfl rfl rfl rfl (Int.natCast_nonneg v) (by omega) rfl rfl rfl rfl rfl (fun _ A4 ho4 => ?_)
        rw [Int.toNat_natCast] at ho4
        repeat' (first | refine g_nil ?_ | refine gq_block ?_ | refine g_st 2 rfl rfl rfl rfl rfl rfl rfl ?_)
        exact gq_endRound rfl ⟨ds.set v best, true, A4⟩ ⟨hst.turn O hxr hv0 hbest hvl hne, ho4⟩ (fun w' H => hp_cnt [] H (fun a => by simp only [FM.hl, putC, Value.cells, List.cons_append, List.nil_append, List.set_cons_zero, List.set_cons_succ, List.flatten_append, List.flatten_cons, List.flatten_nil, List.count_append, List.count_cons, List.count_nil, List.append_nil, List.flatten_replicate_nil]; omega))
      · have he : best = ds.getD v (-1) := by simpa using hq
        rw [he] at hbest
        repeat' (first | refine gc_skip ?_ | refine gq_block ?_)
        exact gq_endRound rfl ⟨ds, fl, A2⟩ ⟨hst.stay hxr hv0 hbest hvl, ho2⟩ (fun w' H => hp_cnt [] H (fun a => by simp only [List.cons_append, List.nil_append, List.set_cons_zero, List.set_cons_succ, List.flatten_append, List.flatten_cons, List.flatten_nil, List.count_append, List.count_cons, List.count_nil, List.append_nil, List.flatten_replicate_nil]; omega))
    · obtain ⟨ds, fl, A2⟩ := z
      obtain ⟨hst, ho2⟩ := hz
      try dsimp only at hst ho2 ⊢
      obtain ⟨hI2, hmu⟩ := hI.next N F O hst
      refine gq_heap (R' := [A2, [(b10, .cells ⟨[.bool fl]⟩ 4 (0, 0))], [(D, .deferred (some []))], [(b5, .cells ⟨[.slice (some ⟨go, 0, none⟩) f.code.length f.code.length]⟩ 26 (0, 0))], [(b9, .cells ⟨[.func (.func 50) #[] #[.pointer (some ⟨b4, 0, none⟩), .pointer (some ⟨b5, 0, none⟩)]]⟩ 84 (0, 0))], [(b4, .cells ⟨[.map (some r)]⟩ 53 (0, 0))], [(r, .map en clock)], A3, [(b1, .cells ⟨[.pointer (some ⟨gb, 0, none⟩)]⟩ 50 (0, 0))], mkb Ds]) (fun w' H => hp_cnt [(bx, .cells ⟨[.slice ad3 post.length cap3]⟩ 26 (0, 0))] H (fun a => by simp only [List.cons_append, List.nil_append, List.set_cons_zero, List.set_cons_succ, List.flatten_append, List.flatten_cons, List.flatten_nil, List.count_append, List.count_cons, List.count_nil, List.append_nil, List.flatten_replicate_nil]; omega)) ?_
      repeat' (first | refine g_ld 1 rfl rfl rfl rfl rfl rfl ?_ | refine g_nil ?_ | refine gq_then ?_ | refine gc_seq ?_ | refine gc_region ?_ | refine gq_block ?_ | refine g_alloc rfl rfl (fun _ => ?_) | refine g_st 0 rfl rfl rfl rfl rfl rfl rfl ?_)
      rename_i b10'
      exact gq_againD (X := ⟨Try.sx, none, 0, Try.f39.ntmps, [], w, [].flatten⟩) (LY.mk ds fl false A2 b10' (D :: Ds)) ⟨hI2, ho2⟩ hmu rfl ⟨rfl, rfl, rfl, rfl, rfl, rfl, trivial⟩ (fun w' H => hp_cnt [(b10, .cells ⟨[.bool fl]⟩ 4 (0, 0))] H (fun a => by simp only [mkb, List.map_cons, putC, Value.cells, List.cons_append, List.nil_append, List.set_cons_zero, List.set_cons_succ, List.flatten_append, List.flatten_cons, List.flatten_nil, List.count_append, List.count_cons, List.count_nil, List.append_nil]; omega))
  · subst hc
    have hIs := hI.done N F hn hpl
    repeat' (first | refine g_ld 2 rfl rfl rfl rfl rfl rfl ?_ | refine gq_then ?_ | refine gc_seq ?_ | refine gc_region ?_ | refine gc_exit ?_ | refine gq_then_exit ?_ | refine gq_block_exit ?_)
    refine g_setL 0 (f := fI) (q := (-1 : Int)) rfl rfl ho (fun _ => rfl) rfl rfl rfl rfl (by omega) (by have := hI.len; omega) rfl rfl rfl rfl rfl (fun _ A4 ho4 => ?_)
    rw [show ((0 : Int).toNat) = 0 from rfl] at ho4
    repeat' (first | refine g_pv rfl rfl ?_ | refine g_ld 2 rfl rfl rfl rfl rfl rfl ?_ | refine g_nil ?_ | refine gq_then ?_ | refine gc_seq ?_ | refine gc_region ?_ | refine gc_ret ?_)
    refine gq_ret1M (.inr rfl) Ds rfl (F := [A4]) (fun w' H => hp_take 8 rfl (fun H => hp_take 0 rfl (fun H => hp_nil H) H) H) rfl rfl (fun w' H => ⟨((.slice (some ⟨go, 0, none⟩) f.code.length f.code.length), A4, ds0.set 0 (-1)), ⟨ho4, hIs⟩, rfl, H⟩)
end Go.Proofs.Ytpmkkmahimdjkaa

/- Loops, by the dominators (plain). -/
namespace Go.Proofs.Ytpmkkmahimdjkaa
set_option linter.unusedVariables false

theorem Dm.rch {es : Nat → List Int} {d v : Nat} (h : Dm es d v) : R0 es d := by
  refine Classical.byContradiction fun hd => h.2 ?_
  have key : ∀ u, R0 es u → RchW es d u := by
    intro u hu
    induction hu with
    | @base v hv =>
      have : v = 0 := by simp at hv; omega
      subst this
      exact RchW.base (fun h => hd (by subst h; exact Rch.base (by simp)))
    | @step u v h1 h2 ih => exact RchW.step ih h2 (fun h => hd (by subst h; exact Rch.step h1 h2))
  exact key v h.1
theorem IsIdom.step {es : Nat → List Int} {num : Nat → Nat} {M n : Nat} {xs : List Int} (N : Num es num M) (I : IsIdom es n xs) {a b : Nat} (hb : R0 es b) (hne : b ≠ a) :
    (xs.getD b (-1) = -1 ∧ ¬ Dm es a b) ∨ ∃ d : Nat, xs.getD b (-1) = d ∧ R0 es d ∧ num b < num d ∧ (Dm es a d ↔ Dm es a b) := by
  by_cases h0 : b = 0
  · subst h0
    exact .inl ⟨I.zero, fun h => h.2 (RchW.base hne)⟩
  · obtain ⟨d, e, hd, hdn, hnear⟩ := I.near b hb h0
    refine .inr ⟨d, e, hd.rch, ?_, fun h => h.trans hd, fun h => hnear a h (Ne.symm hne)⟩
    rcases Nat.lt_or_eq_of_le (N.dom hd) with h | h
    · exact h
    · exact absurd (N.inj _ _ hb hd.rch h).symm hdn

/-- An edge back to a dominator. -/
def BackE (es : Nat → List Int) (a b : Nat) : Prop := R0 es a ∧ (b : Int) ∈ es a ∧ Dm es b a
def HeadP (es : Nat → List Int) (b : Nat) : Prop := ∃ a, BackE es a b
inductive InLoop (es : Nat → List Int) (b : Nat) : Nat → Prop
  | head : InLoop es b b
  | back {a : Nat} : BackE es a b → InLoop es b a
  | step {x y : Nat} : InLoop es b y → y ≠ b → (y : Int) ∈ es x → InLoop es b x
theorem HeadP.rch {es : Nat → List Int} {b : Nat} (h : HeadP es b) : R0 es b := by
  obtain ⟨a, h1, h2, _⟩ := h
  exact Rch.step h1 h2
/-- What is reached of a loop is dominated by its first one. -/
theorem InLoop.dom {es : Nat → List Int} {b x : Nat} (h : InLoop es b x) : R0 es x → Dm es b x := by
  induction h with
  | head => exact fun hx => Dm.refl hx
  | back h => exact fun _ => h.2.2
  | @step x y _ hne he ih => exact fun hx => (ih (Rch.step hx he)).pred (Ne.symm hne) hx he

theorem nxt_lt {code : List Ins} {u : Nat} {k : Int} (h : k ∈ nxt code u) : u < code.length := by
  refine Classical.byContradiction fun hu => ?_
  unfold nxt at h
  rw [List.getElem?_eq_none (by omega)] at h
  cases h
theorem frOf_mem (code : List Ins) (v x : Nat) : (x : Int) ∈ frOf code v ↔ (v : Int) ∈ nxt code x := by
  by_cases hv : v < code.length
  · unfold frOf
    rw [froms_mem code x v hv]
    constructor
    · rintro ⟨u, _, h2, h3⟩
      have : u = x := by omega
      subst this; exact h3
    · exact fun h => ⟨x, nxt_lt h, rfl, h⟩
  · constructor
    · intro h
      unfold frOf at h
      simp [List.getD, List.getElem?_eq_none (by rw [fromsAt_length]; omega : (fromsAt code code.length).length ≤ v)] at h
    · intro h
      have := nxt_in code x _ h
      omega
/-- By a walk back from all that lead back. -/
theorem InLoop.by_rch {code : List Ins} {b : Nat} {backs : List Int} (hb : ∀ k, k ∈ backs ↔ ∃ a : Nat, k = a ∧ BackE (nxt code) a b) (x : Nat) :
    InLoop (nxt code) b x ↔ x = b ∨ Rch (fun u => if u = b then [] else frOf code u) backs x := by
  constructor
  · intro h
    induction h with
    | head => exact .inl rfl
    | @back a h => exact .inr (Rch.base ((hb _).2 ⟨a, rfl, h⟩))
    | @step x y _ hne he ih =>
      rcases ih with ih | ih
      · exact absurd ih hne
      · exact .inr (Rch.step ih (by rw [if_neg hne]; exact (frOf_mem code y x).2 he))
  · rintro (h | h)
    · subst h; exact .head
    · induction h with
      | @base v h => obtain ⟨a, e, h1⟩ := (hb _).1 h
                     have : a = v := by omega
                     subst this; exact .back h1
      | @step u v _ h ih =>
        by_cases hu : u = b
        · simp only [if_pos hu] at h; cases h
        · rw [if_neg hu] at h
          exact .step ih hu ((frOf_mem code u v).1 h)
/-- By walks back that never come to b. -/
theorem InLoop.by_flood {code : List Ins} {b : Nat} (x : Nat) :
    InLoop (nxt code) b x ↔ x = b ∨ ∃ a, BackE (nxt code) a b ∧ a ≠ b ∧ Rch (fun u => (frOf code u).filter fun k => decide (k ≠ (b : Int))) [(a : Int)] x := by
  constructor
  · intro h
    induction h with
    | head => exact .inl rfl
    | @back a h =>
      by_cases hab : a = b
      · exact .inl hab
      · exact .inr ⟨a, h, hab, Rch.base (by simp)⟩
    | @step x y _ hne he ih =>
      by_cases hx : x = b
      · exact .inl hx
      · rcases ih with ih | ⟨a, h1, h2, h3⟩
        · exact absurd ih hne
        · refine .inr ⟨a, h1, h2, Rch.step h3 (List.mem_filter.2 ⟨(frOf_mem code y x).2 he, ?_⟩)⟩
          simp; omega
  · rintro (h | ⟨a, h1, h2, h3⟩)
    · subst h; exact .head
    · have key : InLoop (nxt code) b x ∧ x ≠ b := by
        induction h3 with
        | @base v h =>
          have : v = a := by simp at h; omega
          subst this; exact ⟨.back h1, h2⟩
        | @step u v _ h ih =>
          have h4 := List.mem_filter.1 h
          refine ⟨.step ih.1 ih.2 ((frOf_mem code u v).1 h4.1), ?_⟩
          have := h4.2
          simp at this; omega
      exact key.1

/-- What is told of the loops. -/
structure IsLoops (es : Nat → List Int) (hl : List Int) (ll : List (List Int)) : Prop where
  heads : IsSet hl (HeadP es)
  len : ll.length = hl.length
  row : ∀ (i b : Nat) (l : List Int), hl[i]? = some (b : Int) → ll[i]? = some l → IsSet l (InLoop es b)
theorem IsLoops.uniq {es : Nat → List Int} {hl hl' : List Int} {ll ll' : List (List Int)} (h : IsLoops es hl ll) (h' : IsLoops es hl' ll') : hl = hl' ∧ ll = ll' := by
  have e := h.heads.eq h'.heads (fun _ => Iff.rfl)
  subst e
  refine ⟨rfl, List.ext_getElem (by rw [h.len, h'.len]) fun i h1 h2 => ?_⟩
  have hi : i < hl.length := by rw [← h.len]; exact h1
  obtain ⟨b, hb, _⟩ := (h.heads.2 hl[i]).1 (List.getElem_mem hi)
  have e1 : hl[i]? = some (b : Int) := by rw [← hb]; exact List.getElem?_eq_getElem hi
  exact (h.row i b _ e1 (List.getElem?_eq_getElem h1)).eq (h'.row i b _ e1 (List.getElem?_eq_getElem h2)) (fun _ => Iff.rfl)
theorem InLoop.lt {code : List Ins} {b x : Nat} (h : InLoop (nxt code) b x) (hb : R0 (nxt code) b) (hn : 0 < code.length) : x < code.length := by
  have hlt : ∀ v, R0 (nxt code) v → v < code.length := fun v hv => hv.lt (fun k hk => by simp at hk; omega) (fun u _ => nxt_in code u)
  cases h with
  | head => exact hlt _ hb
  | back h => exact hlt _ h.1
  | step _ _ he => exact nxt_lt he

/-- In how many loops each is. -/
def dep1 (ds : List Int) (l : List Int) : List Int := l.foldl (fun ds i => ds.set i.toNat (ds.getD i.toNat 0 + 1)) ds
def depL (n : Nat) (ll : List (List Int)) : List Int := ll.foldl dep1 (List.replicate n 0)
theorem dep1_len (ds l : List Int) : (dep1 ds l).length = ds.length := by
  induction l generalizing ds with
  | nil => rfl
  | cons i l ih => unfold dep1; rw [List.foldl_cons]; exact (ih _).trans (by simp)
def bnd (ds : List Int) (c : Nat) : Prop := ∀ v ∈ ds, 0 ≤ v ∧ v ≤ (c : Int)
theorem bnd_inc {ds : List Int} {c : Nat} (h : bnd ds c) (i : Nat) : bnd (ds.set i (ds.getD i 0 + 1)) (c + 1) := by
  intro v hv
  rcases List.mem_or_eq_of_mem_set hv with h1 | h1
  · have := h v h1; omega
  · subst h1
    by_cases hi : i < ds.length
    · have := h ds[i] (List.getElem_mem hi)
      simp only [List.getD, List.getElem?_eq_getElem hi, Option.getD_some]; omega
    · simp [List.getD, List.getElem?_eq_none (by omega : ds.length ≤ i)]; omega
theorem bnd_getD {ds : List Int} {c : Nat} (h : bnd ds c) (i : Nat) : 0 ≤ ds.getD i 0 ∧ ds.getD i 0 ≤ (c : Int) := by
  by_cases hi : i < ds.length
  · have := h ds[i] (List.getElem_mem hi)
    simpa [List.getD, List.getElem?_eq_getElem hi] using this
  · simp [List.getD, List.getElem?_eq_none (by omega : ds.length ≤ i)]
theorem isset_len {l : List Int} {S : Nat → Prop} {n : Nat} (h : IsSet l S) (hS : ∀ u, S u → u < n) : l.length ≤ n := by
  have h1 : (l.map Int.toNat).Nodup := by
    refine List.Pairwise.map _ (fun a b hab => ?_) (List.Pairwise.and_mem.1 h.1)
    obtain ⟨ha, hb, hlt⟩ := hab
    obtain ⟨u, rfl, _⟩ := (h.2 a).1 ha
    obtain ⟨v, rfl, _⟩ := (h.2 b).1 hb
    omega
  have h2 := List.Nodup.length_le_of_subset (l₂ := List.range n) h1 (fun x hx => by
    obtain ⟨k, hk, rfl⟩ := List.mem_map.1 hx
    obtain ⟨u, rfl, hu⟩ := (h.2 k).1 hk
    exact List.mem_range.2 (by have := hS u hu; simpa using this))
  simpa using h2
end Go.Proofs.Ytpmkkmahimdjkaa

/- Ways up: loops' first closure, the document's over, the law's over. -/
namespace Go.Proofs.Ytpmkkmahimdjkaa
open Go.Wk
set_option linter.unusedVariables false
set_option linter.unusedSimpArgs false
attribute [local irreducible] G GC GQ GA GS Exit.then Exit.inBlock

/-- What a way up from b says of a. -/
def DomB (es : Nat → List Int) (a : Nat) (b : Int) : Prop := 0 ≤ b ∧ Dm es a b.toNat
def upM (num : Nat → Nat) (M : Nat) (b : Int) : Nat := if b < 0 then 0 else 1 + (M - num b.toNat)
theorem up_step {es : Nat → List Int} {num : Nat → Nat} {M n : Nat} {xs : List Int} (N : Num es num M) (I : IsIdom es n xs) {a b : Nat} (hb : R0 es b) (hne : b ≠ a) :
    let c := xs.getD b (-1); -1 ≤ c ∧ (0 ≤ c → R0 es c.toNat) ∧ (DomB es a c ↔ DomB es a b) ∧ upM num M c < upM num M b := by
  intro c
  have hbd := N.bd b hb
  rcases I.step N hb hne with ⟨h1, h2⟩ | ⟨d, h1, h2, h3, h4⟩
  · have e : c = -1 := h1
    rw [e]
    refine ⟨by omega, fun h => absurd h (by omega), ⟨fun h => absurd h.1 (by omega), fun h => absurd (by simpa using h.2) h2⟩, ?_⟩
    unfold upM
    rw [if_pos (by omega), if_neg (by omega)]; omega
  · have e : c = (d : Int) := h1
    rw [e]
    have hd := N.bd d h2
    refine ⟨by omega, fun _ => by simpa using h2, ⟨fun h => ⟨by omega, by simpa using h4.1 (by simpa using h.2)⟩, fun h => ⟨by omega, by simpa using h4.2 (by simpa using h.2)⟩⟩, ?_⟩
    unfold upM
    rw [if_neg (by omega), if_neg (by omega)]
    simp; omega
theorem domB_end {es : Nat → List Int} {a : Nat} {b : Int} (hb : -1 ≤ b) (hr : 0 ≤ b → R0 es b.toNat) (h : ¬ (0 ≤ b ∧ b ≠ (a : Int))) : (b == (a : Int)) = true ↔ DomB es a b := by
  by_cases h0 : 0 ≤ b
  · have e : b = (a : Int) := Classical.byContradiction fun hne => h ⟨h0, hne⟩
    subst e
    simp only [beq_self_eq_true, true_iff]
    exact ⟨h0, by simpa using Dm.refl (hr h0)⟩
  · constructor
    · intro he; have := beq_iff_eq.1 he; omega
    · intro hd; exact absurd hd.1 h0
structure IdomIn (H : Nat → Option Obj) (v : Value) (xs : List Int) : Prop where
  rd : RdI H v xs

theorem loops1_sp {es : Nat → List Int} {num : Nat → Nat} {M n : Nat} {xs : List Int} (N : Num es num M) (I : IsIdom es n xs) (hlt : ∀ v, R0 es v → v < n) (a b bi : Nat) (v : Value) (w : World) (hv : cellAt (hw w) bi 0 = some v) (hx : RdI (hw w) v xs) (hb : R0 es b) :
    Sp Try.prog 53 [.int .i64 a, .int .i64 b, .pointer (some ⟨bi, 0, none⟩)] w [] (fun y : Bool => .bool y) (fun _ => []) (fun y => y = true ↔ Dm es a b) := by
  obtain ⟨ad, cap, rfl, hr⟩ := hx
  refine enter (s := Try.sx) [] Try.func53 rfl rfl rfl (Eff.refl w) ?_
  repeat' (first | refine g_pv rfl rfl ?_ | refine g_nil ?_ | refine gq_then ?_ | refine gc_seq ?_ | refine gc_region ?_ | refine gc_block ?_)
  refine gc_loop (Y := Int) (fun y => -1 ≤ y ∧ (0 ≤ y → R0 es y.toNat) ∧ (DomB es a y ↔ DomB es a b)) (fun y => [(0, .int .i64 a), (1, .int .i64 y), (2, .pointer (some ⟨bi, 0, none⟩))]) (fun _ => []) (fun y => upM num M y) (b : Int)
    ⟨by omega, fun _ => by simpa using hb, Iff.rfl⟩ ⟨rfl, rfl, rfl, trivial⟩ (fun w' H => H) ?_
  rintro y ⟨hy, hyr, hyd⟩
  try dsimp only
  have hend : ¬ (0 ≤ y ∧ y ≠ (a : Int)) → ((y == (a : Int)) = true ↔ Dm es a b) := fun h => (domB_end hy hyr h).trans (hyd.trans ⟨fun h => by simpa using h.2, fun h => ⟨by omega, by simpa using h⟩⟩)
  repeat' (fail)
  refine gc_seq ?_
  repeat' (fail)
  refine gc_seq ?_
  repeat' (first | refine g_pv rfl rfl ?_ | refine gc_region ?_)
  refine g_case (t := 8) rfl (fun h => ?_) (fun h => ?_)
  · have h0 : 0 ≤ y := of_decide_eq_true h
    repeat' (first | refine g_pv rfl rfl ?_ | refine g_nil ?_ | refine gq_then ?_ | refine g_yes rfl rfl rfl ?_)
    refine gc_condC rfl (fun hc => ?_) (fun hc => ?_)
    · obtain ⟨yn, rfl⟩ : ∃ yn : Nat, y = yn := ⟨y.toNat, by omega⟩
      have hne : yn ≠ a := fun h => by subst h; simp at hc
      have hyr' : R0 es yn := by simpa using hyr h0
      obtain ⟨s1, s2, s3, s4⟩ := up_step N I hyr' hne
      have hyl := hlt yn hyr'
      have hget : xs[yn]? = some (xs.getD yn (-1)) := by simp [List.getD, List.getElem?_eq_getElem (show yn < xs.length by rw [I.len]; exact hyl)]
      repeat' (first | refine gq_then ?_ | refine gc_region ?_ | refine gc_block ?_ | refine gc_skip ?_)
      refine g_ldO rfl rfl (cs := [.slice ad xs.length cap]) rfl rfl (cell1 ((old_le0 _ w).cell hv)) rfl ?_
      repeat' (refine g_pv rfl rfl ?_)
      refine g_at (l := xs) (f := fI) (u := xs.getD yn (-1)) rfl rfl rfl rfl rfl (Int.natCast_nonneg yn) (by have := I.len; omega) (hr.le (old_le0 _ w)) (by simpa using hget) rfl rfl rfl rfl (fun _ => ?_)
      repeat' (first | refine g_pv rfl rfl ?_ | refine g_nil ?_ | refine gq_block ?_)
      exact gq_again (xs.getD yn (-1)) ⟨s1, s2, s3.trans hyd⟩ s4 ⟨rfl, rfl, rfl, trivial⟩ (fun w' H => H)
    · have he : y = (a : Int) := by simpa using hc
      repeat' (first | refine g_pv rfl rfl ?_ | refine g_nil ?_ | refine gq_then ?_ | refine gc_seq ?_ | refine gc_region ?_ | refine gc_exit ?_ | refine gc_ret ?_ | refine gq_then_exit ?_ | refine gq_block_exit ?_)
      exact gq_ret1 (.inr rfl) rfl rfl rfl (fun w' H => ⟨y == (a : Int), hend (fun h => h.2 he), rfl, H⟩)
  · have h0 : ¬ 0 ≤ y := of_decide_eq_false h
    repeat' (first | refine g_pv rfl rfl ?_ | refine g_nil ?_ | refine gq_then ?_ | refine gc_seq ?_ | refine gc_region ?_ | refine gc_cond_f rfl ?_ | refine gc_exit ?_ | refine gc_ret ?_ | refine gq_then_exit ?_ | refine gq_block_exit ?_ | refine g_no rfl rfl rfl rfl rfl ?_)
    exact gq_ret1 (.inr rfl) rfl rfl rfl (fun w' H => ⟨y == (a : Int), hend (fun h => h0 h.1), rfl, H⟩)

theorem rover_sp {es : Nat → List Int} {num : Nat → Nat} {M n : Nat} {xs : List Int} (N : Num es num M) (I : IsIdom es n xs) (hlt : ∀ v, R0 es v → v < n) (a b : Nat) (v : Value) (w : World) (hx : RdI (hw w) v xs) (hb : R0 es b) :
    Sp Try.prog 43 [v, .int .i64 a, .int .i64 b] w [] (fun y : Bool => .bool y) (fun _ => []) (fun y => y = true ↔ Dm es a b) := by
  obtain ⟨ad, cap, rfl, hr⟩ := hx
  refine enter (s := Try.sx) [] Try.func43 rfl rfl rfl (Eff.refl w) ?_
  repeat' (first | refine g_pv rfl rfl ?_ | refine g_nil ?_ | refine gq_then ?_ | refine gc_seq ?_ | refine gc_region ?_ | refine gc_block ?_)
  refine gc_loop (Y := Int) (fun y => -1 ≤ y ∧ (0 ≤ y → R0 es y.toNat) ∧ (DomB es a y ↔ DomB es a b)) (fun y => [(0, .slice ad xs.length cap), (1, .int .i64 a), (2, .int .i64 y)]) (fun _ => []) (fun y => upM num M y) (b : Int)
    ⟨by omega, fun _ => by simpa using hb, Iff.rfl⟩ ⟨rfl, rfl, rfl, trivial⟩ (fun w' H => H) ?_
  rintro y ⟨hy, hyr, hyd⟩
  try dsimp only
  have hend : ¬ (0 ≤ y ∧ y ≠ (a : Int)) → ((y == (a : Int)) = true ↔ Dm es a b) := fun h => (domB_end hy hyr h).trans (hyd.trans ⟨fun h => by simpa using h.2, fun h => ⟨by omega, by simpa using h⟩⟩)
  repeat' (fail)
  refine gc_seq ?_
  repeat' (fail)
  refine gc_seq ?_
  repeat' (first | refine g_pv rfl rfl ?_ | refine gc_region ?_)
  refine g_case (t := 10) rfl (fun h => ?_) (fun h => ?_)
  · have hne0 : y ≠ (a : Int) := by simpa using h
    repeat' (first | refine g_pv rfl rfl ?_ | refine g_nil ?_ | refine gq_then ?_ | refine g_yes rfl rfl rfl ?_)
    refine gc_condC rfl (fun hc => ?_) (fun hc => ?_)
    · have h0 : 0 ≤ y := of_decide_eq_true hc
      obtain ⟨yn, rfl⟩ : ∃ yn : Nat, y = yn := ⟨y.toNat, by omega⟩
      have hne : yn ≠ a := fun h => by subst h; exact hne0 rfl
      have hyr' : R0 es yn := by simpa using hyr h0
      obtain ⟨s1, s2, s3, s4⟩ := up_step N I hyr' hne
      have hyl := hlt yn hyr'
      have hget : xs[yn]? = some (xs.getD yn (-1)) := by simp [List.getD, List.getElem?_eq_getElem (show yn < xs.length by rw [I.len]; exact hyl)]
      repeat' (first | refine g_pv rfl rfl ?_ | refine gq_then ?_ | refine gc_region ?_ | refine gc_block ?_ | refine gc_skip ?_)
      refine g_at (l := xs) (f := fI) (u := xs.getD yn (-1)) rfl rfl rfl rfl rfl (Int.natCast_nonneg yn) (by have := I.len; omega) (hr.le (old_le0 _ w)) (by simpa using hget) rfl rfl rfl rfl (fun _ => ?_)
      repeat' (first | refine g_pv rfl rfl ?_ | refine g_nil ?_ | refine gq_block ?_)
      exact gq_again (xs.getD yn (-1)) ⟨s1, s2, s3.trans hyd⟩ s4 ⟨rfl, rfl, rfl, trivial⟩ (fun w' H => H)
    · have h0 : ¬ 0 ≤ y := of_decide_eq_false hc
      repeat' (first | refine g_pv rfl rfl ?_ | refine g_nil ?_ | refine gq_then ?_ | refine gc_seq ?_ | refine gc_region ?_ | refine gc_exit ?_ | refine gc_ret ?_ | refine gq_then_exit ?_ | refine gq_block_exit ?_)
      exact gq_ret1 (.inr rfl) rfl rfl rfl (fun w' H => ⟨y == (a : Int), hend (fun h => h0 h.1), rfl, H⟩)
  · have he : y = (a : Int) := by simpa using h
    repeat' (first | refine g_pv rfl rfl ?_ | refine g_nil ?_ | refine gq_then ?_ | refine gc_seq ?_ | refine gc_region ?_ | refine gc_cond_f rfl ?_ | refine gc_exit ?_ | refine gc_ret ?_ | refine gq_then_exit ?_ | refine gq_block_exit ?_ | refine g_no rfl rfl rfl rfl rfl ?_)
    exact gq_ret1 (.inr rfl) rfl rfl rfl (fun w' H => ⟨y == (a : Int), hend (fun h => h.2 he), rfl, H⟩)

/-- The law's over: it counts its steps. -/
theorem lover_sp {es : Nat → List Int} {num : Nat → Nat} {M n : Nat} {xs : List Int} (N : Num es num M) (I : IsIdom es n xs) (hlt : ∀ v, R0 es v → v < n) (hMn : M ≤ n) (hn : n ≤ 16384) (a b : Nat) (v : Value) (w : World) (hx : RdI (hw w) v xs) (hb : R0 es b) :
    Sp Try.prog 27 [v, .int .i64 a, .int .i64 b] w [] (fun y : Bool => .bool y) (fun _ => []) (fun y => y = true ↔ Dm es a b) := by
  obtain ⟨ad, cap, rfl, hr⟩ := hx
  have hxl := I.len
  refine enter (s := Try.sx) [] Try.func27 rfl rfl rfl (Eff.refl w) ?_
  repeat' (first | refine g_pv rfl rfl ?_ | refine g_nil ?_ | refine gq_then ?_ | refine gc_seq ?_ | refine gc_region ?_ | refine gc_block ?_)
  refine gc_loop (Y := Nat × Int) (fun y => -1 ≤ y.2 ∧ (0 ≤ y.2 → R0 es y.2.toNat) ∧ (DomB es a y.2 ↔ DomB es a b) ∧ y.1 + upM num M y.2 ≤ 1 + M) (fun y => [(0, .slice ad xs.length cap), (1, .int .i64 a), (2, .int .i64 y.2), (7, .int .i64 y.1)]) (fun _ => []) (fun y => upM num M y.2) (0, (b : Int))
    ⟨by simp only; omega, fun _ => by simpa using hb, Iff.rfl, by simp only; unfold upM; rw [if_neg (by omega)]; omega⟩ ⟨rfl, rfl, rfl, rfl, trivial⟩ (fun w' H => H) ?_
  rintro ⟨k, y⟩ ⟨hy, hyr, hyd, hk⟩
  try dsimp only at hy hyr hyd hk ⊢
  have hfalse : ¬ 0 ≤ y → ((false = true) ↔ Dm es a b) := fun h => ⟨fun h => (by cases h), fun hd => absurd (hyd.2 ⟨by omega, by simpa using hd⟩).1 h⟩
  repeat' (fail)
  refine gc_seq ?_
  repeat' (fail)
  refine gc_seq ?_
  repeat' (first | refine g_pv rfl rfl ?_ | refine gc_region ?_)
  refine g_case (t := 12) rfl (fun h => ?_) (fun h => ?_)
  · repeat' (first | refine g_pv rfl rfl ?_ | refine g_nil ?_ | refine gq_then ?_ | refine g_yes rfl rfl rfl ?_)
    refine gc_condC rfl (fun hc => ?_) (fun hc => ?_)
    · have h0 : 0 ≤ y := of_decide_eq_true hc
      obtain ⟨yn, rfl⟩ : ∃ yn : Nat, y = yn := ⟨y.toNat, by omega⟩
      have hyr' : R0 es yn := by simpa using hyr h0
      repeat' (first | refine g_pv rfl rfl ?_ | refine g_nil ?_ | refine gq_then ?_ | refine gc_seq ?_ | refine gc_region ?_ | refine gc_block ?_ | refine gc_skip ?_)
      refine gc_condC rfl (fun hq => ?_) (fun hq => ?_)
      · have he : yn = a := by have : (a : Int) = yn := by simpa using hq
                               omega
        subst he
        repeat' (first | refine g_pv rfl rfl ?_ | refine g_nil ?_ | refine gq_then ?_ | refine gc_seq ?_ | refine gc_region ?_ | refine gc_ret ?_ | refine gq_then_ret ?_ | refine gq_block_ret ?_)
        exact gq_ret1 (.inr rfl) rfl rfl rfl (fun w' H => ⟨true, ⟨fun _ => by simpa using (hyd.1 ⟨h0, by simpa using Dm.refl hyr'⟩).2, fun _ => rfl⟩, rfl, H⟩)
      have hne : yn ≠ a := fun h => by subst h; simp at hq
      obtain ⟨s1, s2, s3, s4⟩ := up_step N I hyr' hne
      have hyl := hlt yn hyr'
      have hget : xs[yn]? = some (xs.getD yn (-1)) := by simp [List.getD, List.getElem?_eq_getElem (show yn < xs.length by rw [I.len]; exact hyl)]
      repeat' (first | refine g_pv rfl rfl ?_ | refine gq_then ?_ | refine gc_region ?_ | refine gc_skip ?_)
      refine g_at (l := xs) (f := fI) (u := xs.getD yn (-1)) rfl rfl rfl rfl rfl (Int.natCast_nonneg yn) (by omega) (hr.le (old_le0 _ w)) (by simpa using hget) rfl rfl rfl rfl (fun _ => ?_)
      repeat' (first | refine g_pv rfl rfl ?_ | refine g_nil ?_ | refine gq_then ?_ | refine gc_region ?_ | refine gq_block ?_)
      have hb1 : upM num M (yn : Int) ≤ 1 + M := by unfold upM; rw [if_neg (by omega)]; omega
      exact gq_again (k + 1, xs.getD yn (-1)) ⟨s1, s2, s3.trans hyd, by simp only; omega⟩ s4 ⟨rfl, rfl, rfl, inc_eq (by omega), trivial⟩ (fun w' H => H)
    · have h0 : ¬ 0 ≤ y := of_decide_eq_false hc
      repeat' (first | refine g_pv rfl rfl ?_ | refine g_nil ?_ | refine gq_then ?_ | refine gc_seq ?_ | refine gc_region ?_ | refine gc_exit ?_ | refine gc_ret ?_ | refine gq_then_exit ?_ | refine gq_block_exit ?_)
      exact gq_ret1 (.inr rfl) rfl rfl rfl (fun w' H => ⟨false, hfalse h0, rfl, H⟩)
  · have hkn : ¬ (k : Int) ≤ (xs.length : Int) := of_decide_eq_false h
    have h0 : ¬ 0 ≤ y := fun h => by
      have : 1 ≤ upM num M y := by unfold upM; rw [if_neg (by omega)]; omega
      omega
    repeat' (first | refine g_pv rfl rfl ?_ | refine g_nil ?_ | refine gq_then ?_ | refine gc_seq ?_ | refine gc_region ?_ | refine gc_cond_f rfl ?_ | refine gc_exit ?_ | refine gc_ret ?_ | refine gq_then_exit ?_ | refine gq_block_exit ?_ | refine g_no rfl rfl rfl rfl rfl ?_)
    exact gq_ret1 (.inr rfl) rfl rfl rfl (fun w' H => ⟨false, hfalse h0, rfl, H⟩)
end Go.Proofs.Ytpmkkmahimdjkaa

/- flow.loops. -/
namespace Go.Proofs.Ytpmkkmahimdjkaa
open Go.Wk
set_option linter.unusedVariables false
set_option linter.unusedSimpArgs false
attribute [local irreducible] G GC GQ GA GS Exit.then Exit.inBlock

/-- The lists that a map holds. -/
structure OwnML (n : Nat) (kv : List (Int × Value)) (ls : List (List Int)) (As : List HL) : Prop where
  ln : ls.length = n
  la : As.length = n
  at' : ∀ (b : Nat) l a, ls[b]? = some l → As[b]? = some a → OwnI ((ml kv (b : Int)).getD (.slice none 0 0)) l a
theorem OwnML.start (n : Nat) : OwnML n [] (List.replicate n []) (List.replicate n []) := by
  refine ⟨by simp, by simp, fun b l a h1 h2 => ?_⟩
  simp only [List.getElem?_replicate] at h1 h2
  split at h1
  · rename_i hlt
    rw [if_pos hlt] at h2
    cases h1; cases h2
    exact OwnL.nil _ _ _
  · cases h1
theorem OwnML.put {n : Nat} {kv : List (Int × Value)} {ls : List (List Int)} {As : List HL} (h : OwnML n kv ls As) {b : Nat} {u : Value} {l : List Int} {a : HL} (ho : OwnI u l a) : OwnML n (mput kv (b : Int) u) (ls.set b l) (As.set b a) := by
  refine ⟨by simp [h.ln], by simp [h.la], fun c l' a' h1 h2 => ?_⟩
  rw [ml_mput]
  by_cases hcb : c = b
  · subst hcb
    rw [List.getElem?_set_self (by have := (List.getElem?_eq_some_iff.1 h1).1; simpa using this)] at h1
    rw [List.getElem?_set_self (by have := (List.getElem?_eq_some_iff.1 h2).1; simpa using this)] at h2
    cases h1; cases h2
    simp; exact ho
  · rw [List.getElem?_set_ne (Ne.symm hcb)] at h1 h2
    rw [if_neg (by omega)]
    exact h.at' c l' a' h1 h2
theorem OwnML.get {n : Nat} {kv : List (Int × Value)} {ls : List (List Int)} {As : List HL} (h : OwnML n kv ls As) {b : Nat} (hb : b < n) : As[b]? = some (As.getD b []) ∧ OwnI ((ml kv (b : Int)).getD (.slice none 0 0)) (ls.getD b []) (As.getD b []) := by
  have h1 : b < ls.length := by rw [h.ln]; exact hb
  have h2 : b < As.length := by rw [h.la]; exact hb
  have e1 : ls[b]? = some (ls.getD b []) := by simp [List.getD, List.getElem?_eq_getElem h1]
  have e2 : As[b]? = some (As.getD b []) := by simp [List.getD, List.getElem?_eq_getElem h2]
  exact ⟨e2, h.at' b _ _ e1 e2⟩

theorem loops2_sp (f : TF) (gb bx bb b : Nat) (nv fv : Value) (i : Nat) (w : World) (H : Nat → Option Obj) (hH : Hle H (hw w)) (hi : i < f.code.length) (hbb : cellAt H bb 0 = some (.int .i64 b)) (hb : cellAt H bx 0 = some (.pointer (some ⟨gb, 0, none⟩))) (hg : GrIn H f gb nv fv) :
    Sp Try.prog 54 [.int .i64 i, .pointer (some ⟨bb, 0, none⟩), .pointer (some ⟨bx, 0, none⟩)] w [] (fun y : Value => y) (fun _ => []) (fun y => RdI H y (if i = b then [] else frOf f.code i)) := by
  refine enter (s := Try.sx) [] Try.func54 rfl rfl rfl (Eff.refl w) ?_
  obtain ⟨ad, cap, vals, rfl, hr, hvl, hget⟩ := RdLL.get hg.rf
  obtain ⟨u, hu, hru⟩ := hget i _ (fromsOf_get f.code i hi)
  have hnl : (fromsAt f.code f.code.length).length = f.code.length := fromsAt_length _ _
  repeat' (first | refine g_pv rfl rfl ?_ | refine g_nil ?_ | refine gq_then ?_ | refine gc_seq ?_ | refine gc_region ?_)
  refine g_ldO rfl rfl (cs := [.int .i64 b]) rfl rfl (cell1 ((old_le0 _ w).cell (hH.cell hbb))) rfl ?_
  repeat' (first | refine g_pv rfl rfl ?_ | refine g_nil ?_ | refine gq_then ?_)
  refine gc_condC rfl (fun hc => ?_) (fun hc => ?_)
  · have he : i = b := by have : (i : Int) = b := by simpa using hc
                          omega
    repeat' (first | refine g_pv rfl rfl ?_ | refine g_nil ?_ | refine gq_then ?_ | refine gc_seq ?_ | refine gc_region ?_ | refine gc_ret ?_ | refine gq_then_ret ?_)
    exact gq_ret1 (.inr rfl) rfl rfl rfl (fun w' H => ⟨.slice none 0 0, by rw [if_pos he]; exact ⟨none, 0, rfl, fun i x hx => by simp at hx⟩, rfl, H⟩)
  have hne : i ≠ b := fun h => by subst h; simp at hc
  repeat' (first | refine gq_then ?_ | refine gc_seq ?_ | refine gc_region ?_ | refine gc_skip ?_)
  refine g_ldO rfl rfl (cs := [.pointer (some ⟨gb, 0, none⟩)]) rfl rfl (cell1 ((old_le0 _ w).cell (hH.cell hb))) rfl ?_
  repeat' (refine g_pv rfl rfl ?_)
  refine g_ldO rfl rfl (cs := [.slice ad (fromsAt f.code f.code.length).length cap]) rfl rfl (cell1 ((old_le0 _ w).cell (hH.cell hg.cf))) rfl ?_
  repeat' (refine g_pv rfl rfl ?_)
  obtain ⟨uad, ucap, rfl, hur⟩ := hru
  refine g_at (l := vals) (f := fV) (u := .slice uad (frOf f.code i).length ucap) rfl rfl rfl rfl rfl (Int.natCast_nonneg i) (by omega) ((hr.le hH).le (old_le0 _ w)) hu rfl rfl rfl rfl (fun _ => ?_)
  repeat' (first | refine g_pv rfl rfl ?_ | refine g_nil ?_ | refine gq_then ?_ | refine gc_ret ?_)
  exact gq_ret1 (.inr rfl) rfl rfl rfl (fun w' H => ⟨_, by rw [if_neg hne]; exact ⟨uad, ucap, rfl, hur⟩, rfl, H⟩)

structure LA where
  v : Value
  A : HL
  hl : List Int
  vl : Value
  ll : List (List Int)
  m : LM
/-- What has been looked at: of the first j of l all, of the next one k. -/
def Seen (es : Nat → List Int) (l : List Int) (j k : Nat) (a b : Nat) : Prop := (∃ i, i < j ∧ l[i]? = some (a : Int) ∧ (b : Int) ∈ es a) ∨ (l[j]? = some (a : Int) ∧ (b : Int) ∈ (es a).take k)
theorem Seen.zero {es : Nat → List Int} {l : List Int} {a b : Nat} : ¬ Seen es l 0 0 a b := by
  rintro (⟨i, h, _⟩ | ⟨_, h⟩)
  · omega
  · simp at h
theorem Seen.more {es : Nat → List Int} {l : List Int} {j k : Nat} {a0 b0 : Nat} (ha : l[j]? = some (a0 : Int)) (hb : (es a0)[k]? = some (b0 : Int)) (a b : Nat) : Seen es l j (k + 1) a b ↔ Seen es l j k a b ∨ (a = a0 ∧ b = b0) := by
  have hk := (List.getElem?_eq_some_iff.1 hb)
  obtain ⟨hk1, hk2⟩ := hk
  have htk : (es a0).take (k + 1) = (es a0).take k ++ [(b0 : Int)] := by rw [List.take_succ_eq_append_getElem hk1, hk2]
  unfold Seen
  constructor
  · rintro (h | ⟨h1, h2⟩)
    · exact .inl (.inl h)
    · have e : a = a0 := by rw [ha] at h1; cases h1; rfl
      subst e
      rw [htk] at h2
      rcases List.mem_append.1 h2 with h3 | h3
      · exact .inl (.inr ⟨h1, h3⟩)
      · simp at h3; exact .inr ⟨rfl, by omega⟩
  · rintro ((h | ⟨h1, h2⟩) | ⟨rfl, rfl⟩)
    · exact .inl h
    · have e : a = a0 := by rw [ha] at h1; cases h1; rfl
      subst e
      exact .inr ⟨h1, by rw [htk]; exact List.mem_append_left _ h2⟩
    · exact .inr ⟨ha, by rw [htk]; simp⟩
theorem Seen.next {es : Nat → List Int} {l : List Int} {j : Nat} {a0 : Nat} (ha : l[j]? = some (a0 : Int)) (a b : Nat) : Seen es l (j + 1) 0 a b ↔ Seen es l j (es a0).length a b := by
  unfold Seen
  constructor
  · rintro (⟨i, h1, h2, h3⟩ | ⟨_, h⟩)
    · by_cases hij : i = j
      · subst hij
        have e : a = a0 := by rw [ha] at h2; cases h2; rfl
        subst e
        exact .inr ⟨ha, by rw [List.take_length]; exact h3⟩
      · exact .inl ⟨i, by omega, h2, h3⟩
    · simp at h
  · rintro (⟨i, h1, h2, h3⟩ | ⟨h1, h2⟩)
    · exact .inl ⟨i, by omega, h2, h3⟩
    · have e : a = a0 := by rw [ha] at h1; cases h1; rfl
      subst e
      exact .inl ⟨j, by omega, ha, by rw [List.take_length] at h2; exact h2⟩
theorem Seen.all {es : Nat → List Int} {l : List Int} (hl : IsSet l (R0 es)) (a b : Nat) : Seen es l l.length 0 a b ↔ R0 es a ∧ (b : Int) ∈ es a := by
  unfold Seen
  constructor
  · rintro (⟨i, _, h2, h3⟩ | ⟨_, h⟩)
    · obtain ⟨u, e, hu⟩ := (hl.2 (a : Int)).1 (List.mem_of_getElem? h2)
      have : u = a := by omega
      subst this; exact ⟨hu, h3⟩
    · simp at h
  · rintro ⟨h1, h2⟩
    obtain ⟨i, hi, h3⟩ := List.mem_iff_getElem.1 ((hl.2 (a : Int)).2 ⟨a, rfl, h1⟩)
    exact .inl ⟨i, hi, by rw [← h3]; exact List.getElem?_eq_getElem hi, h2⟩
end Go.Proofs.Ytpmkkmahimdjkaa
