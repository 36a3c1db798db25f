/-
  flow.Live.
-/
import Derived.Test.YtpmkkmahimdjkaaZ18

/- flow.Live. -/
namespace Go.Proofs.Ytpmkkmahimdjkaa
open Go.Wk
set_option linter.unusedVariables false
set_option linter.unusedSimpArgs false
attribute [local irreducible] G GC GQ GA GS Exit.then Exit.inBlock

/-- A halt where a first part ends. -/
theorem gc_cutT {X : Cx} {Q : Post} {L : LT} {R : RL} {c : Code} {K : Act → World → Prop} {Y : Type} (post : Y → Prop) (L' : Y → LT) (R' : Y → RL) (h1 : GC X c (Exit.then (At X post L' R') Q) L R)
    (h2 : ∀ z, post z → GQ X (Exit.then K Q) .normal (L' z) (R' z)) : GC X c (Exit.then K Q) L R := by
  unfold GC at h1 ⊢
  unfold GQ at h2
  exact fun a w ha hE => wpIn_mono (h1 a w ha hE) (fun e a w hq => by
    unfold Exit.then at hq h2 ⊢
    cases e with
    | normal => obtain ⟨z, hp, hok, hh⟩ := hq; exact h2 z hp a w hok hh
    | _ => exact hq)
def mref (r : Nat) : Value := .map (some r)
def fm0 (r : Nat) : FM := ⟨r, #[], 0, []⟩
def mls (fs : List FM) : HL := (fs.map FM.hl).flatten
theorem mls_cnt [BEq (Nat × Obj)] [LawfulBEq (Nat × Obj)] {fs : List FM} {i : Nat} {m : FM} (hm : fs[i]? = some m) (x : Nat × Obj) : (mls fs).count x = m.hl.count x + ((fs.map FM.hl).eraseIdx i).flatten.count x :=
  cnt_erase (fs.map FM.hl) i (by rw [List.getElem?_map, hm]; rfl) x
theorem mls_set [BEq (Nat × Obj)] [LawfulBEq (Nat × Obj)] {fs : List FM} {i : Nat} {m m' : FM} (hm : fs[i]? = some m) (x : Nat × Obj) : (mls (fs.set i m')).count x = m'.hl.count x + ((fs.map FM.hl).eraseIdx i).flatten.count x := by
  unfold mls
  rw [List.map_set]
  exact cnt_set (fs.map FM.hl) i (by simpa using (List.getElem?_eq_some_iff.1 hm).1) x
theorem r_get {fs : List FM} {rs : List Nat} (h : fs.map (·.r) = rs) {i : Nat} {m : FM} (hm : fs[i]? = some m) : (rs.map mref)[i]? = some (Value.map (some m.r)) := by
  rw [← h, List.map_map, List.getElem?_map, hm]; rfl
theorem pop_wait {code : List Ins} {t : Int} {fi0 fo0 : List FM} {fi fo : List FM} {ws : List Int} {i : Nat} {vw vw' : Value} {Aw Aw' : HL} (h : VInv code t fi0 fo0 (fun _ => False) ⟨fi, fo, ws ++ [(i : Int)], vw, Aw⟩) (ho : OwnI vw' ws Aw') :
    VInv code t fi0 fo0 (fun j => j = i) ⟨fi, fo, ws, vw', Aw'⟩ where
  r1 := h.r1
  r2 := h.r2
  ok1 := h.ok1
  ok2 := h.ok2
  old1 := h.old1
  old2 := h.old2
  ow := ho
  sub := h.sub
  osub := h.osub
  wt := fun k hk => h.wt k (List.mem_append_left _ hk)
  cls := fun j hj hs => by
    rcases h.cls j hj (fun h => h) with h1 | h1
    · rcases List.mem_append.1 h1 with h2 | h2
      · exact .inl h2
      · simp at h2; exact absurd (by omega) hs
    · exact .inr h1
  bd := by have := h.bd; simp only [List.length_append, List.length_singleton] at this; simp only; omega
theorem full_row {code : List Ins} {t : Int} {fi0 fo0 : List FM} {i : Nat} {y : VS} (h : VInv code t fi0 fo0 (fun j => j = i) y) (hd : Done code t y.fi y.fo i) : VInv code t fi0 fo0 (fun _ => False) y where
  r1 := h.r1
  r2 := h.r2
  ok1 := h.ok1
  ok2 := h.ok2
  old1 := h.old1
  old2 := h.old2
  ow := h.ow
  sub := h.sub
  osub := h.osub
  wt := h.wt
  cls := fun j hj _ => by
    by_cases hji : j = i
    · subst hji; exact .inr hd
    · exact h.cls j hj hji
  bd := h.bd
theorem fm0_ok (r : Nat) : (fm0 r).Ok := ⟨mapIs_nil _ _, fun p hp => by cases hp⟩
theorem kin_fm0 {rs : List Nat} {i : Nat} {t : Int} : ¬ kin (rs.map fm0) i t := fun ⟨m, h1, h2⟩ => by
  rw [List.getElem?_map] at h1
  cases hr : rs[i]? with
  | none => rw [hr] at h1; cases h1
  | some r => rw [hr] at h1; cases h1; cases h2
def srt (m : FM) : List Int := sorted m.keys
def srtAt (fs : List FM) (n i : Nat) : List (List Int) := (fs.take i).map srt ++ List.replicate (n - i) []
theorem srtAt_zero (fs : List FM) (n : Nat) : srtAt fs n 0 = List.replicate n [] := by simp [srtAt]
theorem srtAt_all {fs : List FM} {n : Nat} (h : fs.length = n) : srtAt fs n n = fs.map srt := by simp [srtAt, ← h]
theorem srtAt_succ {fs : List FM} {n i : Nat} {m : FM} (hn : fs.length = n) (hm : fs[i]? = some m) : (srtAt fs n i).set i (srt m) = srtAt fs n (i + 1) := by
  obtain ⟨hi, he⟩ := List.getElem?_eq_some_iff.1 hm
  have hl : ((fs.take i).map srt).length = i := by simp; omega
  unfold srtAt
  rw [List.set_append_right _ _ (by omega), hl, Nat.sub_self, show n - i = (n - (i + 1)) + 1 from by omega, List.replicate_succ, List.set_cons_zero, List.take_succ_eq_append_getElem hi, he]
  simp
theorem srtAt_len {fs : List FM} {n i : Nat} (hn : fs.length = n) (hi : i ≤ n) : (srtAt fs n i).length = n := by
  simp [srtAt, hn]; omega
abbrev OwnR (v : Value) (vs : List Value) (A : HL) : Prop := OwnL 53 1 fV v vs A
structure LVA where
  vi : Value
  li : List (List Int)
  mi : LM
  vo : Value
  lo : List (List Int)
  mo : LM
def LiveAns (f : TF) (y : LVA) : Prop := OwnLL y.vi y.li y.mi ∧ OwnLL y.vo y.lo y.mo ∧ if f.right then IsLive f.code y.li y.lo else y.li = [] ∧ y.lo = []

set_option maxHeartbeats 64000000 in
theorem liveT_sp (f : TF) (w : World) (hf : CodeIn (hw w) f.cA f.code) (hB : ∀ x ∈ f.code, x.reads.length ≤ 1073741824) :
    Sp Try.prog 12 [f.val] w [] (fun y : LVA => .tuple #[y.vi, y.vo, .int .i64 (errOf f)]) (fun y => [y.mi.A0, y.mi.As.flatten, y.mo.A0, y.mo.As.flatten]) (LiveAns f) := by
  refine enter (s := Try.sx) [] Try.func12 rfl rfl rfl (Eff.refl w) ?_
  repeat' (first | refine g_pv rfl rfl ?_ | refine g_ld 0 rfl rfl rfl rfl rfl rfl ?_ | refine g_nil ?_ | refine gq_then ?_ | refine gc_seq ?_ | refine gc_region ?_ | refine g_box rfl rfl (fun _ => ?_))
  rename_i b1
  refine g_call rfl (Cl.of Try.func28 rfl rfl) rfl rfl (fun w' hE => drawn_sp f w' (hf.le (fun b o h => old_le hE b o (old_le0 _ w b o h)))) rfl ?_
  rintro ⟨gv, GA'⟩ hg
  dsimp only at hg ⊢
  repeat' (first | refine g_pv rfl rfl ?_ | refine g_nil ?_ | refine gq_then ?_ | refine gc_seq ?_ | refine gc_region ?_)
  cases hr : f.right with
  | false =>
    simp only [hr, if_false, Bool.false_eq_true] at hg ⊢
    repeat' (first | refine g_pv rfl rfl ?_ | refine g_nil ?_ | refine gq_then ?_ | refine gc_seq ?_ | refine gc_region ?_ | refine gc_cond_t rfl ?_ | refine gc_ret ?_ | refine gq_then_ret ?_)
    exact gq_ret3 (.inr rfl) rfl rfl rfl rfl rfl (fun w' H => ⟨⟨.slice none 0 0, [], ⟨[], [], []⟩, .slice none 0 0, [], ⟨[], [], []⟩⟩, ⟨ownLL_nil, ownLL_nil, by simp [hr]⟩, by simp [errOf, hr], hp_perm (hp_nil H) (by simp)⟩)
  | true =>
  simp only [hr, if_true] at hg ⊢
  obtain ⟨hn1, hn2, ht1, ht2⟩ := TF.right_n hr
  repeat' (first | refine g_pv rfl rfl ?_ | refine g_ld 1 rfl rfl rfl rfl rfl rfl ?_ | refine g_nil ?_ | refine gq_then ?_ | refine gc_seq ?_ | refine gc_region ?_ | refine gc_cond_f rfl ?_ | refine gc_skip ?_)
  refine gc_heap (R' := [[(b1, .cells ⟨f.cells⟩ 25 (0, 0))], GA']) (fun w' H => hp_cnt (R := [GA', [(b1, .cells ⟨f.cells⟩ 25 (0, 0))]]) [] H (fun a => by simp only [FM.hl, putC, Value.cells, List.cons_append, List.nil_append, List.set_cons_zero, List.set_cons_succ, List.flatten_append, List.flatten_cons, List.flatten_nil, List.count_append, List.count_cons, List.count_nil, List.append_nil, List.flatten_replicate_nil]; omega)) ?_
  refine gc_cutT (Y := Nat × Nat × Nat) (fun _ => True) (fun y => [(1, .pointer (some ⟨b1, 0, none⟩)), (5, gv), (7, .int .i64 f.code.length), (8, .pointer (some ⟨y.1, 0, none⟩)), (9, .slice (some ⟨y.2.2, 0, none⟩) f.code.length f.code.length)])
    (fun y => [[(y.1, .cells ⟨[.slice (some ⟨y.2.1, 0, none⟩) f.code.length f.code.length]⟩ 67 (0, 0))], [(y.2.1, .cells ⟨rep f.code.length [.map none]⟩ 53 (0, 0))], [(y.2.2, .cells ⟨rep f.code.length [.map none]⟩ 53 (0, 0))], [(b1, .cells ⟨f.cells⟩ 25 (0, 0))], GA']) ?_ ?_
  · refine gc_draw [[(b1, .cells ⟨f.cells⟩ 25 (0, 0))], GA'] [] rfl (by simp) ?_
    (refine ga_p 0 (by repeat first | exact NoP.sp | apply NoP.then | apply NoP.block) rfl (pv_spec rfl) rfl (by kernel_rfl) (by kernel_rfl) (by kernel_rfl) ?_); (refine ga_p 2 (by repeat first | exact NoP.sp | apply NoP.then | apply NoP.block) rfl (pv_spec rfl) rfl (by kernel_rfl) (by kernel_rfl) (by kernel_rfl) ?_)
    refine ga_all (rs := [1, 3, 4]) (by kernel_rfl) (by simp) (fun q hq => ?_)
    simp only [List.mem_cons, List.not_mem_nil, or_false] at hq
    rcases hq with rfl | rfl | rfl
    · refine gs_of rfl (fun K hK => ?_)
      refine g_make (n := f.code.length) (c := f.code.length) rfl rfl rfl rfl rfl (Nat.le_refl _) (by show 8 * _ ≤ _; omega) (by omega) rfl (fun gi => ?_)
      refine g_nil ?_
      refine hK _ _ ⟨[_], List.perm_append_comm⟩ ?_
      refine ga_all (rs := [3, 4]) (by kernel_rfl) (by simp) (fun q hq => ?_)
      simp only [List.mem_cons, List.not_mem_nil, or_false] at hq
      rcases hq with rfl | rfl
      · refine gs_of rfl (fun K hK => ?_)
        refine g_make (n := f.code.length) (c := f.code.length) rfl rfl rfl rfl rfl (Nat.le_refl _) (by show 8 * _ ≤ _; omega) (by omega) rfl (fun go => ?_)
        refine g_nil ?_
        refine hK _ _ ⟨[_, _], List.perm_append_comm⟩ ?_
        refine ga_one (i := 4) (by kernel_rfl) (gs_of rfl (fun K hK => ?_))
        refine g_alloc rfl rfl (fun b8 => ?_)
        refine g_nil ?_
        refine hK _ _ ⟨[_, _, _], List.perm_append_comm⟩ ?_
        refine ga_one (i := 5) (by kernel_rfl) (gs_of rfl (fun K hK => ?_))
        refine g_st 0 rfl rfl rfl rfl rfl rfl rfl ?_
        refine g_nil ?_
        refine hK _ _ ⟨[_, _, _], List.perm_append_comm⟩ ?_
        (refine ga_p 6 (by repeat first | exact NoP.sp | apply NoP.then | apply NoP.block) rfl (pv_spec rfl) rfl (by kernel_rfl) (by kernel_rfl) (by kernel_rfl) ?_)
        refine ga_nil (by kernel_rfl) ?_
        exact gq_at (b8, gi, go) trivial ⟨rfl, rfl, rfl, rfl, rfl, trivial⟩ (fun w' H => hp_cnt (R := [[(b8, .cells ⟨[.slice (some ⟨gi, 0, none⟩) f.code.length f.code.length]⟩ 67 (0, 0))], [(go, .cells ⟨rep f.code.length [.map none]⟩ 53 (0, 0))], [(gi, .cells ⟨rep f.code.length [.map none]⟩ 53 (0, 0))], [(b1, .cells ⟨f.cells⟩ 25 (0, 0))], GA']) [] H (fun a => by simp only [FM.hl, putC, Value.cells, List.cons_append, List.nil_append, List.set_cons_zero, List.set_cons_succ, List.flatten_append, List.flatten_cons, List.flatten_nil, List.count_append, List.count_cons, List.count_nil, List.append_nil, List.flatten_replicate_nil]; omega))
      · refine gs_of rfl (fun K hK => ?_)
        refine g_alloc rfl rfl (fun b8 => ?_)
        refine g_nil ?_
        refine hK _ _ ⟨[_, _], List.perm_append_comm⟩ ?_
        refine ga_all (rs := [3, 5]) (by kernel_rfl) (by simp) (fun q hq => ?_)
        simp only [List.mem_cons, List.not_mem_nil, or_false] at hq
        rcases hq with rfl | rfl
        · refine gs_of rfl (fun K hK => ?_)
          refine g_make (n := f.code.length) (c := f.code.length) rfl rfl rfl rfl rfl (Nat.le_refl _) (by show 8 * _ ≤ _; omega) (by omega) rfl (fun go => ?_)
          refine g_nil ?_
          refine hK _ _ ⟨[_, _, _], List.perm_append_comm⟩ ?_
          refine ga_one (i := 5) (by kernel_rfl) (gs_of rfl (fun K hK => ?_))
          refine g_st 1 rfl rfl rfl rfl rfl rfl rfl ?_
          refine g_nil ?_
          refine hK _ _ ⟨[_, _, _], List.perm_append_comm⟩ ?_
          (refine ga_p 6 (by repeat first | exact NoP.sp | apply NoP.then | apply NoP.block) rfl (pv_spec rfl) rfl (by kernel_rfl) (by kernel_rfl) (by kernel_rfl) ?_)
          refine ga_nil (by kernel_rfl) ?_
          exact gq_at (b8, gi, go) trivial ⟨rfl, rfl, rfl, rfl, rfl, trivial⟩ (fun w' H => hp_cnt (R := [[(go, .cells ⟨rep f.code.length [.map none]⟩ 53 (0, 0))], [(b8, .cells ⟨[.slice (some ⟨gi, 0, none⟩) f.code.length f.code.length]⟩ 67 (0, 0))], [(gi, .cells ⟨rep f.code.length [.map none]⟩ 53 (0, 0))], [(b1, .cells ⟨f.cells⟩ 25 (0, 0))], GA']) [] H (fun a => by simp only [FM.hl, putC, Value.cells, List.cons_append, List.nil_append, List.set_cons_zero, List.set_cons_succ, List.flatten_append, List.flatten_cons, List.flatten_nil, List.count_append, List.count_cons, List.count_nil, List.append_nil, List.flatten_replicate_nil]; omega))
        · refine gs_of rfl (fun K hK => ?_)
          refine g_st 0 rfl rfl rfl rfl rfl rfl rfl ?_
          refine g_nil ?_
          refine hK _ _ ⟨[_, _], List.perm_append_comm⟩ ?_
          refine ga_one (i := 3) (by kernel_rfl) (gs_of rfl (fun K hK => ?_))
          refine g_make (n := f.code.length) (c := f.code.length) rfl rfl rfl rfl rfl (Nat.le_refl _) (by show 8 * _ ≤ _; omega) (by omega) rfl (fun go => ?_)
          refine g_nil ?_
          refine hK _ _ ⟨[_, _, _], List.perm_append_comm⟩ ?_
          (refine ga_p 6 (by repeat first | exact NoP.sp | apply NoP.then | apply NoP.block) rfl (pv_spec rfl) rfl (by kernel_rfl) (by kernel_rfl) (by kernel_rfl) ?_)
          refine ga_nil (by kernel_rfl) ?_
          exact gq_at (b8, gi, go) trivial ⟨rfl, rfl, rfl, rfl, rfl, trivial⟩ (fun w' H => hp_cnt (R := [[(go, .cells ⟨rep f.code.length [.map none]⟩ 53 (0, 0))], [(b8, .cells ⟨[.slice (some ⟨gi, 0, none⟩) f.code.length f.code.length]⟩ 67 (0, 0))], [(gi, .cells ⟨rep f.code.length [.map none]⟩ 53 (0, 0))], [(b1, .cells ⟨f.cells⟩ 25 (0, 0))], GA']) [] H (fun a => by simp only [FM.hl, putC, Value.cells, List.cons_append, List.nil_append, List.set_cons_zero, List.set_cons_succ, List.flatten_append, List.flatten_cons, List.flatten_nil, List.count_append, List.count_cons, List.count_nil, List.append_nil, List.flatten_replicate_nil]; omega))
    · refine gs_of rfl (fun K hK => ?_)
      refine g_make (n := f.code.length) (c := f.code.length) rfl rfl rfl rfl rfl (Nat.le_refl _) (by show 8 * _ ≤ _; omega) (by omega) rfl (fun go => ?_)
      refine g_nil ?_
      refine hK _ _ ⟨[_], List.perm_append_comm⟩ ?_
      refine ga_all (rs := [1, 4]) (by kernel_rfl) (by simp) (fun q hq => ?_)
      simp only [List.mem_cons, List.not_mem_nil, or_false] at hq
      rcases hq with rfl | rfl
      · refine gs_of rfl (fun K hK => ?_)
        refine g_make (n := f.code.length) (c := f.code.length) rfl rfl rfl rfl rfl (Nat.le_refl _) (by show 8 * _ ≤ _; omega) (by omega) rfl (fun gi => ?_)
        refine g_nil ?_
        refine hK _ _ ⟨[_, _], List.perm_append_comm⟩ ?_
        refine ga_one (i := 4) (by kernel_rfl) (gs_of rfl (fun K hK => ?_))
        refine g_alloc rfl rfl (fun b8 => ?_)
        refine g_nil ?_
        refine hK _ _ ⟨[_, _, _], List.perm_append_comm⟩ ?_
        refine ga_one (i := 5) (by kernel_rfl) (gs_of rfl (fun K hK => ?_))
        refine g_st 0 rfl rfl rfl rfl rfl rfl rfl ?_
        refine g_nil ?_
        refine hK _ _ ⟨[_, _, _], List.perm_append_comm⟩ ?_
        (refine ga_p 6 (by repeat first | exact NoP.sp | apply NoP.then | apply NoP.block) rfl (pv_spec rfl) rfl (by kernel_rfl) (by kernel_rfl) (by kernel_rfl) ?_)
        refine ga_nil (by kernel_rfl) ?_
        exact gq_at (b8, gi, go) trivial ⟨rfl, rfl, rfl, rfl, rfl, trivial⟩ (fun w' H => hp_cnt (R := [[(b8, .cells ⟨[.slice (some ⟨gi, 0, none⟩) f.code.length f.code.length]⟩ 67 (0, 0))], [(gi, .cells ⟨rep f.code.length [.map none]⟩ 53 (0, 0))], [(go, .cells ⟨rep f.code.length [.map none]⟩ 53 (0, 0))], [(b1, .cells ⟨f.cells⟩ 25 (0, 0))], GA']) [] H (fun a => by simp only [FM.hl, putC, Value.cells, List.cons_append, List.nil_append, List.set_cons_zero, List.set_cons_succ, List.flatten_append, List.flatten_cons, List.flatten_nil, List.count_append, List.count_cons, List.count_nil, List.append_nil, List.flatten_replicate_nil]; omega))
      · refine gs_of rfl (fun K hK => ?_)
        refine g_alloc rfl rfl (fun b8 => ?_)
        refine g_nil ?_
        refine hK _ _ ⟨[_, _], List.perm_append_comm⟩ ?_
        refine ga_one (i := 1) (by kernel_rfl) (gs_of rfl (fun K hK => ?_))
        refine g_make (n := f.code.length) (c := f.code.length) rfl rfl rfl rfl rfl (Nat.le_refl _) (by show 8 * _ ≤ _; omega) (by omega) rfl (fun gi => ?_)
        refine g_nil ?_
        refine hK _ _ ⟨[_, _, _], List.perm_append_comm⟩ ?_
        refine ga_one (i := 5) (by kernel_rfl) (gs_of rfl (fun K hK => ?_))
        refine g_st 1 rfl rfl rfl rfl rfl rfl rfl ?_
        refine g_nil ?_
        refine hK _ _ ⟨[_, _, _], List.perm_append_comm⟩ ?_
        (refine ga_p 6 (by repeat first | exact NoP.sp | apply NoP.then | apply NoP.block) rfl (pv_spec rfl) rfl (by kernel_rfl) (by kernel_rfl) (by kernel_rfl) ?_)
        refine ga_nil (by kernel_rfl) ?_
        exact gq_at (b8, gi, go) trivial ⟨rfl, rfl, rfl, rfl, rfl, trivial⟩ (fun w' H => hp_cnt (R := [[(gi, .cells ⟨rep f.code.length [.map none]⟩ 53 (0, 0))], [(b8, .cells ⟨[.slice (some ⟨gi, 0, none⟩) f.code.length f.code.length]⟩ 67 (0, 0))], [(go, .cells ⟨rep f.code.length [.map none]⟩ 53 (0, 0))], [(b1, .cells ⟨f.cells⟩ 25 (0, 0))], GA']) [] H (fun a => by simp only [FM.hl, putC, Value.cells, List.cons_append, List.nil_append, List.set_cons_zero, List.set_cons_succ, List.flatten_append, List.flatten_cons, List.flatten_nil, List.count_append, List.count_cons, List.count_nil, List.append_nil, List.flatten_replicate_nil]; omega))
    · refine gs_of rfl (fun K hK => ?_)
      refine g_alloc rfl rfl (fun b8 => ?_)
      refine g_nil ?_
      refine hK _ _ ⟨[_], List.perm_append_comm⟩ ?_
      refine ga_all (rs := [1, 3]) (by kernel_rfl) (by simp) (fun q hq => ?_)
      simp only [List.mem_cons, List.not_mem_nil, or_false] at hq
      rcases hq with rfl | rfl
      · refine gs_of rfl (fun K hK => ?_)
        refine g_make (n := f.code.length) (c := f.code.length) rfl rfl rfl rfl rfl (Nat.le_refl _) (by show 8 * _ ≤ _; omega) (by omega) rfl (fun gi => ?_)
        refine g_nil ?_
        refine hK _ _ ⟨[_, _], List.perm_append_comm⟩ ?_
        refine ga_all (rs := [3, 5]) (by kernel_rfl) (by simp) (fun q hq => ?_)
        simp only [List.mem_cons, List.not_mem_nil, or_false] at hq
        rcases hq with rfl | rfl
        · refine gs_of rfl (fun K hK => ?_)
          refine g_make (n := f.code.length) (c := f.code.length) rfl rfl rfl rfl rfl (Nat.le_refl _) (by show 8 * _ ≤ _; omega) (by omega) rfl (fun go => ?_)
          refine g_nil ?_
          refine hK _ _ ⟨[_, _, _], List.perm_append_comm⟩ ?_
          refine ga_one (i := 5) (by kernel_rfl) (gs_of rfl (fun K hK => ?_))
          refine g_st 2 rfl rfl rfl rfl rfl rfl rfl ?_
          refine g_nil ?_
          refine hK _ _ ⟨[_, _, _], List.perm_append_comm⟩ ?_
          (refine ga_p 6 (by repeat first | exact NoP.sp | apply NoP.then | apply NoP.block) rfl (pv_spec rfl) rfl (by kernel_rfl) (by kernel_rfl) (by kernel_rfl) ?_)
          refine ga_nil (by kernel_rfl) ?_
          exact gq_at (b8, gi, go) trivial ⟨rfl, rfl, rfl, rfl, rfl, trivial⟩ (fun w' H => hp_cnt (R := [[(go, .cells ⟨rep f.code.length [.map none]⟩ 53 (0, 0))], [(gi, .cells ⟨rep f.code.length [.map none]⟩ 53 (0, 0))], [(b8, .cells ⟨[.slice (some ⟨gi, 0, none⟩) f.code.length f.code.length]⟩ 67 (0, 0))], [(b1, .cells ⟨f.cells⟩ 25 (0, 0))], GA']) [] H (fun a => by simp only [FM.hl, putC, Value.cells, List.cons_append, List.nil_append, List.set_cons_zero, List.set_cons_succ, List.flatten_append, List.flatten_cons, List.flatten_nil, List.count_append, List.count_cons, List.count_nil, List.append_nil, List.flatten_replicate_nil]; omega))
        · refine gs_of rfl (fun K hK => ?_)
          refine g_st 1 rfl rfl rfl rfl rfl rfl rfl ?_
          refine g_nil ?_
          refine hK _ _ ⟨[_, _], List.perm_append_comm⟩ ?_
          refine ga_one (i := 3) (by kernel_rfl) (gs_of rfl (fun K hK => ?_))
          refine g_make (n := f.code.length) (c := f.code.length) rfl rfl rfl rfl rfl (Nat.le_refl _) (by show 8 * _ ≤ _; omega) (by omega) rfl (fun go => ?_)
          refine g_nil ?_
          refine hK _ _ ⟨[_, _, _], List.perm_append_comm⟩ ?_
          (refine ga_p 6 (by repeat first | exact NoP.sp | apply NoP.then | apply NoP.block) rfl (pv_spec rfl) rfl (by kernel_rfl) (by kernel_rfl) (by kernel_rfl) ?_)
          refine ga_nil (by kernel_rfl) ?_
          exact gq_at (b8, gi, go) trivial ⟨rfl, rfl, rfl, rfl, rfl, trivial⟩ (fun w' H => hp_cnt (R := [[(go, .cells ⟨rep f.code.length [.map none]⟩ 53 (0, 0))], [(gi, .cells ⟨rep f.code.length [.map none]⟩ 53 (0, 0))], [(b8, .cells ⟨[.slice (some ⟨gi, 0, none⟩) f.code.length f.code.length]⟩ 67 (0, 0))], [(b1, .cells ⟨f.cells⟩ 25 (0, 0))], GA']) [] H (fun a => by simp only [FM.hl, putC, Value.cells, List.cons_append, List.nil_append, List.set_cons_zero, List.set_cons_succ, List.flatten_append, List.flatten_cons, List.flatten_nil, List.count_append, List.count_cons, List.count_nil, List.append_nil, List.flatten_replicate_nil]; omega))
      · refine gs_of rfl (fun K hK => ?_)
        refine g_make (n := f.code.length) (c := f.code.length) rfl rfl rfl rfl rfl (Nat.le_refl _) (by show 8 * _ ≤ _; omega) (by omega) rfl (fun go => ?_)
        refine g_nil ?_
        refine hK _ _ ⟨[_, _], List.perm_append_comm⟩ ?_
        refine ga_one (i := 1) (by kernel_rfl) (gs_of rfl (fun K hK => ?_))
        refine g_make (n := f.code.length) (c := f.code.length) rfl rfl rfl rfl rfl (Nat.le_refl _) (by show 8 * _ ≤ _; omega) (by omega) rfl (fun gi => ?_)
        refine g_nil ?_
        refine hK _ _ ⟨[_, _, _], List.perm_append_comm⟩ ?_
        refine ga_one (i := 5) (by kernel_rfl) (gs_of rfl (fun K hK => ?_))
        refine g_st 2 rfl rfl rfl rfl rfl rfl rfl ?_
        refine g_nil ?_
        refine hK _ _ ⟨[_, _, _], List.perm_append_comm⟩ ?_
        (refine ga_p 6 (by repeat first | exact NoP.sp | apply NoP.then | apply NoP.block) rfl (pv_spec rfl) rfl (by kernel_rfl) (by kernel_rfl) (by kernel_rfl) ?_)
        refine ga_nil (by kernel_rfl) ?_
        exact gq_at (b8, gi, go) trivial ⟨rfl, rfl, rfl, rfl, rfl, trivial⟩ (fun w' H => hp_cnt (R := [[(gi, .cells ⟨rep f.code.length [.map none]⟩ 53 (0, 0))], [(go, .cells ⟨rep f.code.length [.map none]⟩ 53 (0, 0))], [(b8, .cells ⟨[.slice (some ⟨gi, 0, none⟩) f.code.length f.code.length]⟩ 67 (0, 0))], [(b1, .cells ⟨f.cells⟩ 25 (0, 0))], GA']) [] H (fun a => by simp only [FM.hl, putC, Value.cells, List.cons_append, List.nil_append, List.set_cons_zero, List.set_cons_succ, List.flatten_append, List.flatten_cons, List.flatten_nil, List.count_append, List.count_cons, List.count_nil, List.append_nil, List.flatten_replicate_nil]; omega))
  rintro ⟨b8, gi, go⟩ -
  dsimp only
  obtain ⟨gb, nv, fv, mn, mf, rfl, hmn, hmf, rfl⟩ := hg
  have hfl : (fromsAt f.code f.code.length).length = f.code.length := fromsAt_length _ _
  have hmfl := hmf.len
  obtain ⟨adf, capf, rfl, _⟩ := Own.shape hmf.row
  refine gq_heap (R' := [[(b1, .cells ⟨f.cells⟩ 25 (0, 0))], [(b8, .cells ⟨[.slice (some ⟨gi, 0, none⟩) f.code.length f.code.length]⟩ 67 (0, 0))], [(gi, .cells ⟨rep f.code.length [.map none]⟩ 53 (0, 0))], [(go, .cells ⟨rep f.code.length [.map none]⟩ 53 (0, 0))], [(gb, .cells ⟨f.cells ++ [nv, .slice adf mf.vals.length capf]⟩ 71 (0, 0))], mf.A0, mf.As.flatten]) (fun w' H => hp_cnt (R := [[(b8, .cells ⟨[.slice (some ⟨gi, 0, none⟩) f.code.length f.code.length]⟩ 67 (0, 0))], [(gi, .cells ⟨rep f.code.length [.map none]⟩ 53 (0, 0))], [(go, .cells ⟨rep f.code.length [.map none]⟩ 53 (0, 0))], [(b1, .cells ⟨f.cells⟩ 25 (0, 0))], [(gb, .cells ⟨f.cells ++ [nv, .slice adf mf.vals.length capf]⟩ 71 (0, 0))] ++ mn.A0 ++ mn.As.flatten ++ mf.A0 ++ mf.As.flatten]) (mn.A0 ++ mn.As.flatten) H (fun a => by simp only [FM.hl, putC, Value.cells, List.cons_append, List.nil_append, List.set_cons_zero, List.set_cons_succ, List.flatten_append, List.flatten_cons, List.flatten_nil, List.count_append, List.count_cons, List.count_nil, List.append_nil, List.flatten_replicate_nil]; omega)) ?_
  repeat' (first | refine g_pv rfl rfl ?_ | refine g_nil ?_ | refine gq_then ?_ | refine gc_seq ?_ | refine gc_region ?_ | refine gc_block ?_)
  have hoi0 : OwnR (.slice (some ⟨gi, 0, none⟩) f.code.length f.code.length) (List.replicate f.code.length (.map none)) [(gi, .cells ⟨rep f.code.length [.map none]⟩ 53 (0, 0))] := own_make (te := ⟨.map 3 3, .map none, 1, 8⟩) (f := fV) (.map none) rfl rfl gi f.code.length (by unfold maxLen; omega)
  have hoo0 : OwnR (.slice (some ⟨go, 0, none⟩) f.code.length f.code.length) (List.replicate f.code.length (.map none)) [(go, .cells ⟨rep f.code.length [.map none]⟩ 53 (0, 0))] := own_make (te := ⟨.map 3 3, .map none, 1, 8⟩) (f := fV) (.map none) rfl rfl go f.code.length (by unfold maxLen; omega)
  refine gc_loop (Y := Nat × List Nat × List Nat × HL × HL) (fun y => y.1 ≤ f.code.length ∧ y.2.1.length = y.1 ∧ y.2.2.1.length = y.1 ∧ OwnR (.slice (some ⟨gi, 0, none⟩) f.code.length f.code.length) (y.2.1.map mref ++ List.replicate (f.code.length - y.1) (.map none)) y.2.2.2.1 ∧ OwnR (.slice (some ⟨go, 0, none⟩) f.code.length f.code.length) (y.2.2.1.map mref ++ List.replicate (f.code.length - y.1) (.map none)) y.2.2.2.2)
    (fun y => [(1, .pointer (some ⟨b1, 0, none⟩)), (5, .pointer (some ⟨gb, 0, none⟩)), (7, .int .i64 f.code.length), (8, .pointer (some ⟨b8, 0, none⟩)), (9, .slice (some ⟨go, 0, none⟩) f.code.length f.code.length), (42, .int .i64 f.code.length), (43, .int .i64 y.1)])
    (fun y => [[(b1, .cells ⟨f.cells⟩ 25 (0, 0))], [(b8, .cells ⟨[.slice (some ⟨gi, 0, none⟩) f.code.length f.code.length]⟩ 67 (0, 0))], y.2.2.2.1, y.2.2.2.2, mls (y.2.1.map fm0), mls (y.2.2.1.map fm0), [(gb, .cells ⟨f.cells ++ [nv, .slice adf mf.vals.length capf]⟩ 71 (0, 0))], mf.A0, mf.As.flatten])
    (fun y => f.code.length - y.1) (0, [], [], _, _) ⟨Nat.zero_le _, rfl, rfl, hoi0, hoo0⟩ ⟨rfl, rfl, rfl, rfl, rfl, rfl, rfl, trivial⟩ (fun w' H => hp_cnt (R := [[(b1, .cells ⟨f.cells⟩ 25 (0, 0))], [(b8, .cells ⟨[.slice (some ⟨gi, 0, none⟩) f.code.length f.code.length]⟩ 67 (0, 0))], [(gi, .cells ⟨rep f.code.length [.map none]⟩ 53 (0, 0))], [(go, .cells ⟨rep f.code.length [.map none]⟩ 53 (0, 0))], [(gb, .cells ⟨f.cells ++ [nv, .slice adf mf.vals.length capf]⟩ 71 (0, 0))], mf.A0, mf.As.flatten]) [] H (fun a => by simp only [mls, fm0, FM.hl, List.map_append, List.map_cons, List.map_nil, List.cons_append, List.nil_append, List.flatten_append, List.flatten_nil, List.flatten_cons, List.count_append, List.count_cons, List.count_nil, List.append_nil]; omega)) ?_
  rintro ⟨i, rsi, rso, Ai, Ao⟩ ⟨hi, hri, hro, hoi, hoo⟩
  try dsimp only at hi hri hro hoi hoo ⊢
  repeat' (first | refine g_pv rfl rfl ?_ | refine g_nil ?_ | refine gq_then ?_ | refine gc_seq ?_ | refine gc_region ?_)
  refine gc_condC rfl (fun hc => ?_) (fun hc => ?_)
  · have hlt : i < f.code.length := by have := of_decide_eq_true hc; omega
    have hset : ∀ (rs : List Nat) (r : Nat), rs.length = i → (rs.map mref ++ List.replicate (f.code.length - i) (Value.map none)).set (i : Int).toNat (Value.map (some r)) = (rs ++ [r]).map mref ++ List.replicate (f.code.length - (i + 1)) (Value.map none) := fun rs r h => by
      rw [Int.toNat_natCast, List.set_append_right _ _ (by simp [h]), show f.code.length - i = (f.code.length - (i + 1)) + 1 from by omega, List.replicate_succ (n := f.code.length - (i + 1))]
      simp [h, mref]
    repeat' (first | refine g_pv rfl rfl ?_ | refine g_ld 1 rfl rfl rfl rfl rfl rfl ?_ | refine g_nil ?_ | refine gq_then ?_ | refine gc_seq ?_ | refine gc_region ?_ | refine gc_block ?_ | refine gc_skip ?_)
    refine g_mkmap rfl (fun r50 => ?_)
    refine g_mkmap rfl (fun r51 => ?_)
    refine g_setL 4 (f := fV) (q := .map (some r50)) rfl rfl hoi (fun _ => rfl) rfl rfl rfl rfl (Int.natCast_nonneg i) (by simp; omega) rfl rfl rfl rfl rfl (fun _ A1 ho1 => ?_)
    refine g_setL 5 (f := fV) (q := .map (some r51)) rfl rfl hoo (fun _ => rfl) rfl rfl rfl rfl (Int.natCast_nonneg i) (by simp; omega) rfl rfl rfl rfl rfl (fun _ A2 ho2 => ?_)
    rw [hset _ _ hri] at ho1
    rw [hset _ _ hro] at ho2
    repeat' (first | refine g_pv rfl rfl ?_ | refine g_nil ?_ | refine gq_then ?_ | refine gc_region ?_ | refine gq_block ?_)
    exact gq_again (i + 1, rsi ++ [r50], rso ++ [r51], A1, A2) ⟨hlt, by simp [hri], by simp [hro], ho1, ho2⟩ (by simp only; omega) ⟨rfl, rfl, rfl, rfl, rfl, rfl, inc_eq (by omega), trivial⟩ (fun w' H => hp_cnt (R := [[(r51, .map #[] 0)], [(r50, .map #[] 0)], [(b1, .cells ⟨f.cells⟩ 25 (0, 0))], [(b8, .cells ⟨[.slice (some ⟨gi, 0, none⟩) f.code.length f.code.length]⟩ 67 (0, 0))], A1, A2, mls (rsi.map fm0), mls (rso.map fm0), [(gb, .cells ⟨f.cells ++ [nv, .slice adf mf.vals.length capf]⟩ 71 (0, 0))], mf.A0, mf.As.flatten]) [] H (fun a => by simp only [mls, fm0, FM.hl, List.map_append, List.map_cons, List.map_nil, List.cons_append, List.nil_append, List.flatten_append, List.flatten_nil, List.flatten_cons, List.count_append, List.count_cons, List.count_nil, List.append_nil]; omega))
  have hin : i = f.code.length := by have := of_decide_eq_false hc; omega
  rw [hin] at hri hro hoi hoo
  simp only [Nat.sub_self, List.replicate_zero, List.append_nil] at hoi hoo
  clear hoi0 hoo0 hc hi hin
  obtain ⟨T, hT⟩ : ∃ T : Nat, f.temps = T := ⟨f.temps.toNat, by omega⟩
  have hTI : TInv f.code rsi rso 0 (rsi.map fm0) (rso.map fm0) := ⟨by simp [fm0, Function.comp_def], by simp [fm0, Function.comp_def], fun m hm => by
      obtain ⟨r, _, rfl⟩ := List.mem_map.1 hm; exact fm0_ok r, fun m hm => by
      obtain ⟨r, _, rfl⟩ := List.mem_map.1 hm; exact (fm0_ok r).toI, fun i t' => ⟨fun h => absurd h kin_fm0, fun ⟨h1, h2⟩ => by
      obtain ⟨x, hx, ht⟩ := h2.rd
      exact absurd (reads_ok (hf.all x hx) t' ht).1 (by omega)⟩, fun i t' => ⟨fun h => absurd h kin_fm0, fun ⟨h1, v, _, h2⟩ => by
      obtain ⟨x, hx, ht⟩ := h2.rd
      exact absurd (reads_ok (hf.all x hx) t' ht).1 (by omega)⟩⟩
  have hfl1 : (rsi.map fm0).length = f.code.length := by simp [hri]
  have hfl2 : (rso.map fm0).length = f.code.length := by simp [hro]
  generalize rsi.map fm0 = fi0 at hTI hfl1
  generalize rso.map fm0 = fo0 at hTI hfl2
  repeat' (first | refine g_pv rfl rfl ?_ | refine g_ld 0 rfl rfl rfl rfl rfl rfl ?_ | refine gq_then ?_ | refine gc_seq ?_ | refine gc_region ?_ | refine gc_exit ?_ | refine gq_then_exit ?_ | refine gq_block_exit ?_)
  refine g_eq 56 (u' := .int .i64 (T : Int)) rfl (by rw [hT]) ?_
  refine g_make (n := T) (c := T) rfl rfl rfl rfl rfl (Nat.le_refl _) (by show 24 * _ ≤ _; omega) (by omega) rfl (fun gr => ?_)
  have hmr0 := own_nils gr T (by unfold maxLen; omega)
  repeat' (first | refine g_pv rfl rfl ?_ | refine g_ld 1 rfl rfl rfl rfl rfl rfl ?_ | refine g_nil ?_ | refine gq_then ?_ | refine gc_seq ?_ | refine gc_region ?_ | refine gc_block ?_)
  refine gc_loop (Y := Nat × List (List Int) × LM) (fun y => y.1 ≤ f.code.length ∧ OwnLL (.slice (some ⟨gr, 0, none⟩) T T) y.2.1 y.2.2 ∧ y.2.1.length = T ∧ (∀ t, t < T → ∀ v, v ∈ y.2.1.getD t [] ↔ rdSeen f.code y.1 0 t v) ∧ ∀ t, (y.2.1.getD t []).length ≤ y.1 * 1073741824)
    (fun y => [(1, .pointer (some ⟨b1, 0, none⟩)), (5, .pointer (some ⟨gb, 0, none⟩)), (7, .int .i64 f.code.length), (8, .pointer (some ⟨b8, 0, none⟩)), (9, .slice (some ⟨go, 0, none⟩) f.code.length f.code.length), (11, .slice (some ⟨gr, 0, none⟩) T T), (59, .slice f.cA f.code.length f.cC), (60, .int .i64 f.code.length), (61, .int .i64 y.1)])
    (fun y => [[(b1, .cells ⟨f.cells⟩ 25 (0, 0))], [(b8, .cells ⟨[.slice (some ⟨gi, 0, none⟩) f.code.length f.code.length]⟩ 67 (0, 0))], Ai, Ao, mls fi0, mls fo0, [(gb, .cells ⟨f.cells ++ [nv, .slice adf mf.vals.length capf]⟩ 71 (0, 0))], mf.A0, mf.As.flatten, y.2.2.A0, y.2.2.As.flatten])
    (fun y => f.code.length - y.1) (0, _, _) ⟨Nat.zero_le _, hmr0, by simp, fun t ht v => ?_, fun t => ?_⟩ ⟨rfl, rfl, rfl, rfl, rfl, rfl, rfl, rfl, rfl, trivial⟩ (fun w' H => hp_cnt (R := [[(gr, .cells ⟨rep T [.slice none 0 0]⟩ 26 (0, 0))], [(b1, .cells ⟨f.cells⟩ 25 (0, 0))], [(b8, .cells ⟨[.slice (some ⟨gi, 0, none⟩) f.code.length f.code.length]⟩ 67 (0, 0))], Ai, Ao, mls fi0, mls fo0, [(gb, .cells ⟨f.cells ++ [nv, .slice adf mf.vals.length capf]⟩ 71 (0, 0))], mf.A0, mf.As.flatten]) [] H (fun a => by simp only [FM.hl, putC, Value.cells, List.cons_append, List.nil_append, List.set_cons_zero, List.set_cons_succ, List.flatten_append, List.flatten_cons, List.flatten_nil, List.count_append, List.count_cons, List.count_nil, List.append_nil, List.flatten_replicate_nil]; omega)) ?_
  · have e : (List.replicate T ([] : List Int)).getD t [] = [] := by simp [List.getD, List.getElem?_replicate, ht]
    rw [e]
    exact ⟨fun h => (by cases h), fun h => absurd h rdSeen.zero⟩
  · have e : (List.replicate T ([] : List Int)).getD t [] = [] := by simp only [List.getD, List.getElem?_replicate]; split <;> rfl
    rw [e]; simp
  rintro ⟨i, rl, mr⟩ ⟨hi, hmr, hrl, hrs, hrb⟩
  try dsimp only at hi hmr hrl hrs hrb ⊢
  repeat' (first | refine g_pv rfl rfl ?_ | refine g_nil ?_ | refine gq_then ?_ | refine gc_seq ?_ | refine gc_region ?_)
  refine gc_condC rfl (fun hc => ?_) (fun hc => ?_)
  · have hlt : i < f.code.length := by have := of_decide_eq_true hc; omega
    have hx := ins_at hf hlt
    have hxi : f.code[i]? = some f.code[i] := List.getElem?_eq_getElem hlt
    have hxm := List.getElem_mem hlt
    have hBx := hB _ hxm
    repeat' (first | refine g_pv rfl rfl ?_ | refine gq_then ?_ | refine gc_seq ?_ | refine gc_region ?_ | refine gc_block ?_ | refine gc_skip ?_)
    refine g_at (l := f.code) (f := Ins.cells) (u := f.code[i]) rfl rfl rfl rfl rfl (Int.natCast_nonneg i) (by omega) (hf.row.le (old_le0 _ w)) hxi rfl rfl rfl rfl (fun _ => ?_)
    generalize f.code[i] = x at hx hxi hxm hBx ⊢
    have hrok := reads_ok hx
    repeat' (first | refine g_pv rfl rfl ?_ | refine g_ld 0 rfl rfl rfl rfl rfl rfl ?_ | refine g_nil ?_ | refine gq_then ?_ | refine gc_seq ?_ | refine gc_region ?_ | refine g_alloc rfl rfl (fun _ => ?_) | refine g_st 0 rfl rfl rfl rfl rfl rfl rfl ?_)
    rename_i b13
    refine g_call rfl (Cl.of Try.func33 rfl rfl) rfl rfl (fun w' hE => reads_sp x w' (hx.le (fun b o h => old_le hE b o (old_le0 _ w b o h)))) rfl ?_
    rintro ⟨v67, A67⟩ ho67
    dsimp only at ho67 ⊢
    repeat' (fail)
    refine g_lenL rfl ho67 rfl rfl ?_
    repeat' (first | refine g_pv rfl rfl ?_ | refine g_nil ?_ | refine gq_then ?_ | refine gc_block ?_)
    refine gc_loop (Y := Nat × List (List Int) × LM) (fun y => y.1 ≤ x.reads.length ∧ OwnLL (.slice (some ⟨gr, 0, none⟩) T T) y.2.1 y.2.2 ∧ y.2.1.length = T ∧ (∀ t, t < T → ∀ v, v ∈ y.2.1.getD t [] ↔ rdSeen f.code i y.1 t v) ∧ ∀ t, (y.2.1.getD t []).length ≤ i * 1073741824 + y.1)
      (fun y => [(1, .pointer (some ⟨b1, 0, none⟩)), (5, .pointer (some ⟨gb, 0, none⟩)), (7, .int .i64 f.code.length), (8, .pointer (some ⟨b8, 0, none⟩)), (9, .slice (some ⟨go, 0, none⟩) f.code.length f.code.length), (11, .slice (some ⟨gr, 0, none⟩) T T), (12, .int .i64 i), (59, .slice f.cA f.code.length f.cC), (60, .int .i64 f.code.length), (61, .int .i64 i), (67, v67), (68, .int .i64 x.reads.length), (69, .int .i64 y.1)])
      (fun y => [A67, [(b1, .cells ⟨f.cells⟩ 25 (0, 0))], [(b8, .cells ⟨[.slice (some ⟨gi, 0, none⟩) f.code.length f.code.length]⟩ 67 (0, 0))], Ai, Ao, mls fi0, mls fo0, [(gb, .cells ⟨f.cells ++ [nv, .slice adf mf.vals.length capf]⟩ 71 (0, 0))], mf.A0, mf.As.flatten, y.2.2.A0, y.2.2.As.flatten])
      (fun y => x.reads.length - y.1) (0, rl, mr) ⟨Nat.zero_le _, hmr, hrl, hrs, fun t => Nat.le_trans (hrb t) (Nat.le_add_right _ _)⟩ ⟨rfl, rfl, rfl, rfl, rfl, rfl, rfl, rfl, rfl, rfl, rfl, rfl, rfl, trivial⟩ (fun w' H => hp_drop 1 H) ?_
    clear hmr hrl hrs hrb
    rintro ⟨k, rl, mr⟩ ⟨hk, hmr, hrl, hrs, hrb⟩
    try dsimp only at hk hmr hrl hrs hrb ⊢
    repeat' (first | refine g_pv rfl rfl ?_ | refine g_nil ?_ | refine gq_then ?_ | refine gc_seq ?_ | refine gc_region ?_)
    refine gc_condC rfl (fun hc2 => ?_) (fun hc2 => ?_)
    · have hklt : k < x.reads.length := by have := of_decide_eq_true hc2; omega
      have htk : x.reads[k]? = some x.reads[k] := List.getElem?_eq_getElem hklt
      have htr := right_reads hr hxm (List.getElem_mem hklt)
      have ht0 := (hrok _ (List.getElem_mem hklt)).1
      generalize x.reads[k] = tz at htk htr ht0
      obtain ⟨t, rfl⟩ : ∃ t : Nat, tz = t := ⟨tz.toNat, by omega⟩
      have htT : t < T := by omega
      obtain ⟨u, a, hu, ha, hoa⟩ := hmr.get (i := t) (by omega)
      have hgd : rl.getD t [] = rl[t]'(by omega) := by simp [List.getD, List.getElem?_eq_getElem (show t < rl.length by omega)]
      have hlb := hrb t
      have hlb2 : i * 1073741824 ≤ 16384 * 1073741824 := Nat.mul_le_mul_right _ (by omega)
      rw [← hgd] at hoa
      have hmore := rdSeen.more hxi htk
      have hvr : mr.vals.length = T := by rw [hmr.len, hrl]
      have har : mr.As.length = T := by rw [hmr.alen, hrl]
      repeat' (first | refine gq_then ?_ | refine gc_seq ?_ | refine gc_region ?_ | refine gc_block ?_ | refine gc_skip ?_)
      refine g_atL 0 (f := fI) (q := (t : Int)) rfl rfl ho67 (fun _ => rfl) rfl rfl rfl rfl (Int.natCast_nonneg k) (by simpa using htk) rfl rfl rfl (fun _ => ?_)
      have hcu : asV (.slice 3) (fV u) = some u := rfl
      repeat' (first | refine g_pv rfl rfl ?_ | refine g_nil ?_ | refine gq_then ?_ | refine gc_region ?_)
      refine g_atL 10 (f := fV) (q := u) rfl rfl hmr.row (fun _ => rfl) rfl rfl rfl rfl (Int.natCast_nonneg t) (by simpa using hu) rfl rfl rfl (fun _ => ?_)
      repeat' (refine g_pv rfl rfl ?_)
      refine g_heap (R' := [a, A67, [(b1, .cells ⟨f.cells⟩ 25 (0, 0))], [(b8, .cells ⟨[.slice (some ⟨gi, 0, none⟩) f.code.length f.code.length]⟩ 67 (0, 0))], Ai, Ao, mls fi0, mls fo0, [(gb, .cells ⟨f.cells ++ [nv, .slice adf mf.vals.length capf]⟩ 71 (0, 0))], mf.A0, mf.As.flatten, mr.A0, (mr.As.eraseIdx t).flatten]) (fun w' H => hp_cnt (R := [A67, [(b1, .cells ⟨f.cells⟩ 25 (0, 0))], [(b8, .cells ⟨[.slice (some ⟨gi, 0, none⟩) f.code.length f.code.length]⟩ 67 (0, 0))], Ai, Ao, mls fi0, mls fo0, [(gb, .cells ⟨f.cells ++ [nv, .slice adf mf.vals.length capf]⟩ 71 (0, 0))], mf.A0, mf.As.flatten, mr.A0, mr.As.flatten]) [] H (fun x => by
        have e1 := cnt_erase mr.As t ha x
        simp only [List.cons_append, List.nil_append, List.set_cons_zero, List.set_cons_succ, List.flatten_append, List.flatten_cons, List.flatten_nil, List.count_append, List.count_cons, List.count_nil, List.append_nil]
        omega)) ?_
      refine g_app1L 0 (f := fI) (q := (i : Int)) rfl rfl rfl rfl rfl rfl rfl rfl rfl rfl rfl rfl hoa (by unfold maxLen; omega) (by show _ * 8 ≤ _; omega) rfl rfl (fun v4 A4 g4 ho4 => ?_)
      obtain ⟨ad4, cap4, rfl, _⟩ := Own.shape ho4
      refine g_setL 11 (f := fV) (q := .slice ad4 (rl.getD t [] ++ [(i : Int)]).length cap4) rfl rfl hmr.row (fun _ => rfl) rfl rfl rfl rfl (Int.natCast_nonneg t) (by omega) rfl rfl rfl rfl rfl (fun _ A5 ho5 => ?_)
      rw [Int.toNat_natCast] at ho5
      have hput := hmr.put ho4 ho5
      repeat' (first | refine g_pv rfl rfl ?_ | refine g_nil ?_ | refine gq_then ?_ | refine gc_region ?_ | refine gq_block ?_)
      refine gq_again (k + 1, rl.set t (rl.getD t [] ++ [(i : Int)]), ⟨A5, mr.As.set t A4, mr.vals.set t (.slice ad4 (rl.getD t [] ++ [(i : Int)]).length cap4)⟩) ⟨hklt, hput, by simpa using hrl, fun s hs v => ?_, fun s => ?_⟩ (by simp only; omega) ⟨rfl, rfl, rfl, rfl, rfl, rfl, rfl, rfl, rfl, rfl, rfl, rfl, inc_eq (by omega), trivial⟩ (fun w' H => hp_cnt (R := [A4, A67, [(b1, .cells ⟨f.cells⟩ 25 (0, 0))], [(b8, .cells ⟨[.slice (some ⟨gi, 0, none⟩) f.code.length f.code.length]⟩ 67 (0, 0))], Ai, Ao, mls fi0, mls fo0, [(gb, .cells ⟨f.cells ++ [nv, .slice adf mf.vals.length capf]⟩ 71 (0, 0))], mf.A0, mf.As.flatten, A5, (mr.As.eraseIdx t).flatten]) [] H (fun x => by
        have e2 := cnt_set mr.As t (B := A4) (by omega) x
        simp only [List.cons_append, List.nil_append, List.set_cons_zero, List.set_cons_succ, List.flatten_append, List.flatten_cons, List.flatten_nil, List.count_append, List.count_cons, List.count_nil, List.append_nil]
        omega))
      · show v ∈ (rl.set t (rl.getD t [] ++ [(i : Int)])).getD s [] ↔ _
        rw [getD_setL rl t s _ (by omega), hmore s v]
        by_cases hst : s = t
        · subst hst
          rw [if_pos rfl, List.mem_append, hrs s hs v]
          simp
        · rw [if_neg hst, hrs s hs v]
          simp [hst]
      · show ((rl.set t (rl.getD t [] ++ [(i : Int)])).getD s []).length ≤ _
        rw [getD_setL rl t s _ (by omega)]
        have := hrb s
        split
        · simp only [List.length_append, List.length_singleton]; omega
        · simp only; omega
    · have hke : k = x.reads.length := by have := of_decide_eq_false hc2; omega
      subst hke
      repeat' (first | refine g_pv rfl rfl ?_ | refine g_nil ?_ | refine gq_then ?_ | refine gc_region ?_ | refine gc_exit ?_ | refine gq_then_exit ?_ | refine gq_block ?_ | refine gq_block_exit ?_)
      exact gq_again (i + 1, rl, mr) ⟨hlt, hmr, hrl, fun t ht v => (hrs t ht v).trans (rdSeen.next hxi t v).symm, fun t => by have := hrb t; simp only; omega⟩ (by simp only; omega) ⟨rfl, rfl, rfl, rfl, rfl, rfl, rfl, rfl, inc_eq (by omega), trivial⟩ (fun w' H => hp_tail H)
  have hie : i = f.code.length := by have := of_decide_eq_false hc; omega
  rw [hie] at hrs hrb
  clear hc hi hie hmr0
  have hrd : ∀ t, t < T → ∀ v, v ∈ rl.getD t [] ↔ ∃ j : Nat, v = j ∧ ∃ x, f.code[j]? = some x ∧ (t : Int) ∈ x.reads := fun t ht v => (hrs t ht v).trans (rdSeen.all t v)
  repeat' (first | refine g_pv rfl rfl ?_ | refine g_ld 0 rfl rfl rfl rfl rfl rfl ?_ | refine g_nil ?_ | refine gq_then ?_ | refine gc_seq ?_ | refine gc_region ?_ | refine gc_block ?_ | refine gc_exit ?_ | refine gq_then_exit ?_ | refine gq_block_exit ?_)
  refine gc_loop (Y := Nat × List FM × List FM) (fun y => y.1 ≤ T ∧ TInv f.code rsi rso y.1 y.2.1 y.2.2) (fun y => [(1, .pointer (some ⟨b1, 0, none⟩)), (5, .pointer (some ⟨gb, 0, none⟩)), (7, .int .i64 f.code.length), (8, .pointer (some ⟨b8, 0, none⟩)), (9, .slice (some ⟨go, 0, none⟩) f.code.length f.code.length), (11, .slice (some ⟨gr, 0, none⟩) T T), (86, .int .i64 f.temps), (87, .int .i64 y.1)])
    (fun y => [[(b1, .cells ⟨f.cells⟩ 25 (0, 0))], [(b8, .cells ⟨[.slice (some ⟨gi, 0, none⟩) f.code.length f.code.length]⟩ 67 (0, 0))], Ai, Ao, mls y.2.1, mls y.2.2, [(gb, .cells ⟨f.cells ++ [nv, .slice adf mf.vals.length capf]⟩ 71 (0, 0))], mf.A0, mf.As.flatten, mr.A0, mr.As.flatten]) (fun y => T - y.1) (0, fi0, fo0) ⟨Nat.zero_le _, hTI⟩ ⟨rfl, rfl, rfl, rfl, rfl, rfl, rfl, rfl, trivial⟩ (fun w' H => H) ?_
  clear hTI hfl1 hfl2
  rintro ⟨t, fi0, fo0⟩ ⟨htT, hTI⟩
  try dsimp only at htT hTI ⊢
  have hfl1 : fi0.length = f.code.length := by have := congrArg List.length hTI.r1; simp at this; omega
  have hfl2 : fo0.length = f.code.length := by have := congrArg List.length hTI.r2; simp at this; omega
  repeat' (first | refine g_pv rfl rfl ?_ | refine g_nil ?_ | refine gq_then ?_ | refine gc_seq ?_ | refine gc_region ?_)
  refine gc_condC rfl (fun hc => ?_) (fun hc => ?_)
  · have hlt : t < T := by have := of_decide_eq_true hc; omega
    obtain ⟨u, a, hu, ha, hoa⟩ := hmr.get (i := t) (by omega)
    have hgd : rl.getD t [] = rl[t]'(by omega) := by simp [List.getD, List.getElem?_eq_getElem (show t < rl.length by omega)]
    rw [← hgd] at hoa
    have hlb := hrb t
    have hrt := hrd t hlt
    generalize rl.getD t [] = row at hoa hlb hrt
    obtain ⟨uad, ucap, rfl, _⟩ := Own.shape hoa
    have hV0 := hTI.start (by omega)
    repeat' (first | refine g_pv rfl rfl ?_ | refine g_ld 1 rfl rfl rfl rfl rfl rfl ?_ | refine g_nil ?_ | refine gq_then ?_ | refine gc_seq ?_ | refine gc_region ?_ | refine gc_block ?_ | refine gc_skip ?_ | refine g_alloc rfl rfl (fun _ => ?_) | refine g_st 0 rfl rfl rfl rfl rfl rfl rfl ?_)
    rename_i b16 b17
    refine g_atL 11 (f := fV) (q := .slice uad row.length ucap) rfl rfl hmr.row (fun _ => rfl) rfl rfl rfl rfl (Int.natCast_nonneg t) (by simpa using hu) rfl rfl rfl (fun _ => ?_)
    repeat' (first | refine g_pv rfl rfl ?_ | refine g_nil ?_ | refine gq_then ?_ | refine gc_block ?_)
    refine gc_loop (Y := Nat × VS) (fun y => y.1 ≤ row.length ∧ VInv f.code t fi0 fo0 (fun _ => False) y.2 ∧ ∀ j : Nat, (j : Int) ∈ row.take y.1 → kin y.2.fi j t)
      (fun y => [(1, .pointer (some ⟨b1, 0, none⟩)), (5, .pointer (some ⟨gb, 0, none⟩)), (7, .int .i64 f.code.length), (8, .pointer (some ⟨b8, 0, none⟩)), (9, .slice (some ⟨go, 0, none⟩) f.code.length f.code.length), (11, .slice (some ⟨gr, 0, none⟩) T T), (16, .pointer (some ⟨b16, 0, none⟩)), (17, .pointer (some ⟨b17, 0, none⟩)), (18, .func (.func 34) #[] #[.pointer (some ⟨b8, 0, none⟩), .pointer (some ⟨b16, 0, none⟩), .pointer (some ⟨b17, 0, none⟩)]), (86, .int .i64 f.temps), (87, .int .i64 t), (94, .slice uad row.length ucap), (95, .int .i64 row.length), (96, .int .i64 y.1)]) (fun y => [y.2.Aw, [(b17, .cells ⟨[y.2.vw]⟩ 26 (0, 0))], [(b16, .cells ⟨[.int .i64 (t : Nat)]⟩ 3 (0, 0))], [(b1, .cells ⟨f.cells⟩ 25 (0, 0))], [(b8, .cells ⟨[.slice (some ⟨gi, 0, none⟩) f.code.length f.code.length]⟩ 67 (0, 0))], Ai, Ao, mls y.2.fi, mls y.2.fo, [(gb, .cells ⟨f.cells ++ [nv, .slice adf mf.vals.length capf]⟩ 71 (0, 0))], mf.A0, mf.As.flatten, mr.A0, mr.As.flatten])
      (fun y => row.length - y.1) (0, ⟨fi0, fo0, [], .slice none 0 0, []⟩) ⟨Nat.zero_le _, hV0, fun j h => by simp at h⟩ ⟨rfl, rfl, rfl, rfl, rfl, rfl, rfl, rfl, rfl, rfl, rfl, rfl, rfl, rfl, trivial⟩ (fun w' H => hp_cnt (R := [[(b17, .cells ⟨[.slice none 0 0]⟩ 26 (0, 0))], [(b16, .cells ⟨[.int .i64 (t : Nat)]⟩ 3 (0, 0))], [(b1, .cells ⟨f.cells⟩ 25 (0, 0))], [(b8, .cells ⟨[.slice (some ⟨gi, 0, none⟩) f.code.length f.code.length]⟩ 67 (0, 0))], Ai, Ao, mls fi0, mls fo0, [(gb, .cells ⟨f.cells ++ [nv, .slice adf mf.vals.length capf]⟩ 71 (0, 0))], mf.A0, mf.As.flatten, mr.A0, mr.As.flatten]) [] H (fun a => by simp only [FM.hl, putC, Value.cells, List.cons_append, List.nil_append, List.set_cons_zero, List.set_cons_succ, List.flatten_append, List.flatten_cons, List.flatten_nil, List.count_append, List.count_cons, List.count_nil, List.append_nil, List.flatten_replicate_nil]; omega)) ?_
    rintro ⟨k, ⟨fi, fo, wait, vw, Aw⟩⟩ ⟨hk, hV1, hdone⟩
    try dsimp only at hk hdone ⊢
    repeat' (first | refine g_pv rfl rfl ?_ | refine g_nil ?_ | refine gq_then ?_ | refine gc_seq ?_ | refine gc_region ?_)
    refine gc_condC rfl (fun hc2 => ?_) (fun hc2 => ?_)
    · have hklt : k < row.length := by have := of_decide_eq_true hc2; omega
      have hxk : row[k]? = some row[k] := List.getElem?_eq_getElem hklt
      obtain ⟨j, hj, x, hxj, hxt⟩ := (hrt row[k]).1 (List.getElem_mem hklt)
      have htk : row.take (k + 1) = row.take k ++ [(j : Int)] := by rw [List.take_succ_eq_append_getElem hklt, hj]
      rw [hj] at hxk
      have hjn := (List.getElem?_eq_some_iff.1 hxj).1
      repeat' (first | refine gq_then ?_ | refine gc_seq ?_ | refine gc_region ?_ | refine gc_block ?_ | refine gc_skip ?_)
      refine g_atG (l := row) (f := fI) (u := (j : Int)) rfl rfl rfl rfl rfl (Int.natCast_nonneg k) (by omega) (fun w' H => ?_) hxk rfl rfl rfl rfl (fun _ => ?_)
      · obtain ⟨ad', cap', he, hrd2⟩ := OwnL.rd (f := fI) (fun _ => rfl) hoa (H := hw w') (fun b o hb' => hp_in H 13 rfl b o (List.mem_flatten.2 ⟨a, List.mem_of_getElem? ha, hb'⟩))
        have he' := (Value.slice.inj he).1
        subst he'; exact hrd2
      repeat' (first | refine g_pv rfl rfl ?_ | refine g_nil ?_ | refine gq_then ?_ | refine gc_region ?_)
      obtain ⟨m, hm⟩ : ∃ m, fi[j]? = some m := ⟨_, List.getElem?_eq_getElem (by have := hV1.len1; dsimp only at this; omega)⟩
      have hmok := hV1.ok1 m (List.mem_of_getElem? hm)
      have hmr1 := r_get (hV1.r1.trans hTI.r1) hm
      have hwl : wait.length ≤ 100000 := by have := hV1.bd; dsimp only at this; omega
      refine g_heap (R' := (m.hl ++ [(b17, .cells ⟨[vw]⟩ 26 (0, 0))] ++ Aw) :: [[(b16, .cells ⟨[.int .i64 (t : Nat)]⟩ 3 (0, 0))], [(b1, .cells ⟨f.cells⟩ 25 (0, 0))], [(b8, .cells ⟨[.slice (some ⟨gi, 0, none⟩) f.code.length f.code.length]⟩ 67 (0, 0))], Ai, Ao, ((fi.map FM.hl).eraseIdx j).flatten, mls fo, [(gb, .cells ⟨f.cells ++ [nv, .slice adf mf.vals.length capf]⟩ 71 (0, 0))], mf.A0, mf.As.flatten, mr.A0, mr.As.flatten]) (fun w' H => hp_cnt (R := [Aw, [(b17, .cells ⟨[vw]⟩ 26 (0, 0))], [(b16, .cells ⟨[.int .i64 (t : Nat)]⟩ 3 (0, 0))], [(b1, .cells ⟨f.cells⟩ 25 (0, 0))], [(b8, .cells ⟨[.slice (some ⟨gi, 0, none⟩) f.code.length f.code.length]⟩ 67 (0, 0))], Ai, Ao, mls fi, mls fo, [(gb, .cells ⟨f.cells ++ [nv, .slice adf mf.vals.length capf]⟩ 71 (0, 0))], mf.A0, mf.As.flatten, mr.A0, mr.As.flatten]) [] H (fun x => by
        have e1 := mls_cnt hm x
        simp only [List.cons_append, List.nil_append, List.flatten_append, List.flatten_cons, List.flatten_nil, List.count_append, List.count_cons, List.count_nil, List.append_nil]
        omega)) ?_
      refine g_callA rfl rfl (Cl.of Try.func34 rfl rfl) rfl rfl (fun w' hE => ahead_sp m hmok b8 b16 b17 gi f.code.length f.code.length j t (rsi.map mref) vw wait Aw w' hV1.ow hwl hjn (hp_eff hE) (cellAt_of (hp_exc hE (b := b8) (o := .cells ⟨[.slice (some ⟨gi, 0, none⟩) f.code.length f.code.length]⟩ 67 (0, 0)) (by simp))) (hp_excL (f := fV) (sz := 1) hE 3 rfl (fun _ => rfl) hoi) hmr1 (cellAt_of (hp_exc hE (b := b16) (o := .cells ⟨[.int .i64 (t : Nat)]⟩ 3 (0, 0)) (by simp)))) rfl ?_
      rintro ⟨m', vw', Aw', wait'⟩ hz0
      obtain ⟨hz1, hz2, hz3, hz4⟩ := hz0
      obtain ⟨hV, hkj, hmono, hms⟩ := hV1.ahead hjn hm (.read hxj hxt) hz1 hz2 hz3 hz4
      dsimp only at hV hkj hmono hms
      repeat' (first | refine g_pv rfl rfl ?_ | refine g_nil ?_ | refine gq_then ?_ | refine gc_region ?_ | refine gq_block ?_)
      refine gq_again (k + 1, ⟨fi.set j m', fo, wait', vw', Aw'⟩) ⟨hklt, hV, fun j' hj' => ?_⟩ (by simp only; omega) ⟨rfl, rfl, rfl, rfl, rfl, rfl, rfl, rfl, rfl, rfl, rfl, rfl, rfl, inc_eq (by omega), trivial⟩ (fun w' H => hp_cnt (R := [m'.hl, [(b17, .cells ⟨[vw']⟩ 26 (0, 0))], Aw', [(b16, .cells ⟨[.int .i64 (t : Nat)]⟩ 3 (0, 0))], [(b1, .cells ⟨f.cells⟩ 25 (0, 0))], [(b8, .cells ⟨[.slice (some ⟨gi, 0, none⟩) f.code.length f.code.length]⟩ 67 (0, 0))], Ai, Ao, ((fi.map FM.hl).eraseIdx j).flatten, mls fo, [(gb, .cells ⟨f.cells ++ [nv, .slice adf mf.vals.length capf]⟩ 71 (0, 0))], mf.A0, mf.As.flatten, mr.A0, mr.As.flatten]) [] H (fun x => by
      have e2 := mls_set (m' := m') hm x
      simp only [List.cons_append, List.nil_append, List.flatten_append, List.flatten_cons, List.flatten_nil, List.count_append, List.count_cons, List.count_nil, List.append_nil]
      omega))
      rw [htk] at hj'
      rcases List.mem_append.1 hj' with h1 | h1
      · exact hmono j' (hdone j' h1)
      · have : j' = j := by simp at h1; omega
        rw [this]; exact hkj
    have hke : k = row.length := by have := of_decide_eq_false hc2; omega
    rw [hke, List.take_length] at hdone
    have hrdm : ∀ (i : Nat) x, f.code[i]? = some x → (t : Int) ∈ x.reads → kin fi i t := fun i x h1 h2 => hdone i ((hrt (i : Int)).2 ⟨i, rfl, x, h1, h2⟩)
    clear hdone hc2 hk hke
    repeat' (first | refine gq_then ?_ | refine gc_block ?_ | refine gc_exit ?_ | refine gq_then_exit ?_ | refine gq_block_exit ?_)
    refine gc_loop (Y := VS) (fun y => VInv f.code t fi0 fo0 (fun _ => False) y ∧ ∀ (i : Nat) x, f.code[i]? = some x → (t : Int) ∈ x.reads → kin y.fi i t)
      (fun y => [(1, .pointer (some ⟨b1, 0, none⟩)), (5, .pointer (some ⟨gb, 0, none⟩)), (7, .int .i64 f.code.length), (8, .pointer (some ⟨b8, 0, none⟩)), (9, .slice (some ⟨go, 0, none⟩) f.code.length f.code.length), (11, .slice (some ⟨gr, 0, none⟩) T T), (16, .pointer (some ⟨b16, 0, none⟩)), (17, .pointer (some ⟨b17, 0, none⟩)), (18, .func (.func 34) #[] #[.pointer (some ⟨b8, 0, none⟩), .pointer (some ⟨b16, 0, none⟩), .pointer (some ⟨b17, 0, none⟩)]), (86, .int .i64 f.temps), (87, .int .i64 t)]) (fun y => [y.Aw, [(b17, .cells ⟨[y.vw]⟩ 26 (0, 0))], [(b16, .cells ⟨[.int .i64 (t : Nat)]⟩ 3 (0, 0))], [(b1, .cells ⟨f.cells⟩ 25 (0, 0))], [(b8, .cells ⟨[.slice (some ⟨gi, 0, none⟩) f.code.length f.code.length]⟩ 67 (0, 0))], Ai, Ao, mls y.fi, mls y.fo, [(gb, .cells ⟨f.cells ++ [nv, .slice adf mf.vals.length capf]⟩ 71 (0, 0))], mf.A0, mf.As.flatten, mr.A0, mr.As.flatten]) (fun y => y.wait.length + 2 * unk y.fi t) ⟨fi, fo, wait, vw, Aw⟩ ⟨hV1, hrdm⟩ ⟨rfl, rfl, rfl, rfl, rfl, rfl, rfl, rfl, rfl, rfl, rfl, trivial⟩ (fun w' H => H) ?_
    clear hV1 hrdm
    rintro ⟨fi, fo, wait, vw, Aw⟩ ⟨hV1, hrdm⟩
    have hwo : OwnI vw wait Aw := hV1.ow
    try dsimp only at hrdm ⊢
    repeat' (first | refine g_ld 1 rfl rfl rfl rfl rfl rfl ?_ | refine gc_seq ?_ | refine gc_region ?_)
    refine g_lenL rfl hwo rfl rfl ?_
    repeat' (first | refine g_pv rfl rfl ?_ | refine g_nil ?_ | refine gq_then ?_)
    refine gc_condC rfl (fun hc2 => ?_) (fun hc2 => ?_)
    · have hpos : 0 < wait.length := by have := of_decide_eq_true hc2; omega
      obtain ⟨ws, x, rfl⟩ := pop_ex hpos
      obtain ⟨i, hxi, hin, hki⟩ := hV1.wt x (by simp)
      subst hxi
      have hli := hV1.sub i hki
      obtain ⟨g17, cap17, rst, hvw, _, hcap17, _, _⟩ := Own.pos hwo hpos
      subst hvw
      have hwl : (ws ++ [(i : Int)]).length = ws.length + 1 := by simp
      have hbdw := hV1.bd
      dsimp only at hbdw
      have e17 : some (Value.int IntKind.i64 (IntKind.i64.wrap (((ws ++ [(i : Int)]).length : Int) - 1))) = some (Value.int .i64 (ws.length : Int)) := by
        rw [hwl, IntKind.wrap_i64]; congr 2; omega
      have hpop := pop_wait hV1 (own_pop hwo)
      have hm0 : ws.length + 2 * unk fi t < (ws ++ [(i : Int)]).length + 2 * unk fi t := by rw [hwl]; omega
      obtain ⟨u2, a2, hu2, ha2, hoa2⟩ := hmf.get (i := i) (by omega)
      have hfv : (fromsAt f.code f.code.length)[i]'(by omega) = frOf f.code i := Option.some.inj ((List.getElem?_eq_getElem (by omega)).symm.trans (fromsOf_get f.code i hin))
      rw [hfv] at hoa2
      obtain ⟨uad2, ucap2, rfl, _⟩ := Own.shape hoa2
      have hrow2 := (frOf_fr f.code (by omega)).nn i
      have hrlen2 := froms_len f.code i
      have hlt2 := fun p => frOf_lt f.code i p
      have hrmem := fun x => frOf_mem f.code i x
      generalize frOf f.code i = row2 at hoa2 hrow2 hrlen2 hlt2 hrmem hu2
      repeat' (first | refine g_pv rfl rfl ?_ | refine g_ld 1 rfl rfl rfl rfl rfl rfl ?_ | refine gq_then ?_ | refine gc_seq ?_ | refine gc_region ?_ | refine gc_block ?_ | refine gc_skip ?_)
      refine g_eq 110 rfl (Option.some.inj e17) ?_
      refine g_atL 0 (f := fI) (q := (i : Int)) rfl rfl hwo (fun _ => rfl) rfl rfl rfl rfl (Int.natCast_nonneg _) (by simp) rfl rfl rfl (fun _ => ?_)
      repeat' (first | refine g_pv rfl rfl ?_ | refine g_ld 1 rfl rfl rfl rfl rfl rfl ?_ | refine g_nil ?_ | refine gq_then ?_ | refine gc_seq ?_ | refine gc_region ?_)
      refine g_eq 116 rfl (Option.some.inj e17) ?_
      refine g_hi rfl rfl rfl rfl (by rw [hwl] at hcap17; omega) rfl ?_
      repeat' (first | refine g_pv rfl rfl ?_ | refine g_nil ?_ | refine gq_then ?_ | refine gc_seq ?_ | refine gc_region ?_ | refine g_st 1 rfl rfl rfl rfl rfl rfl rfl ?_)
      refine g_ld 9 rfl rfl rfl rfl rfl rfl ?_
      repeat' (refine g_pv rfl rfl ?_)
      refine g_atL 10 (f := fV) (q := .slice uad2 row2.length ucap2) rfl rfl hmf.row (fun _ => rfl) rfl rfl rfl rfl (Int.natCast_nonneg i) (by simpa using hu2) rfl rfl rfl (fun _ => ?_)
      repeat' (first | refine g_pv rfl rfl ?_ | refine g_nil ?_ | refine gq_then ?_ | refine gc_block ?_)
      refine gc_loop (Y := Nat × VS) (fun y => y.1 ≤ row2.length ∧ VInv f.code t fi0 fo0 (fun j => j = i) y.2 ∧ (∀ (i : Nat) x, f.code[i]? = some x → (t : Int) ∈ x.reads → kin y.2.fi i t) ∧ (∀ p : Nat, (p : Int) ∈ row2.take y.1 → kin y.2.fo p t ∧ ∀ x, f.code[p]? = some x → x.writes ≠ t → kin y.2.fi p t) ∧ y.2.wait.length + 2 * unk y.2.fi t < (ws ++ [(i : Int)]).length + 2 * unk fi t)
        (fun y => [(1, .pointer (some ⟨b1, 0, none⟩)), (5, .pointer (some ⟨gb, 0, none⟩)), (7, .int .i64 f.code.length), (8, .pointer (some ⟨b8, 0, none⟩)), (9, .slice (some ⟨go, 0, none⟩) f.code.length f.code.length), (11, .slice (some ⟨gr, 0, none⟩) T T), (16, .pointer (some ⟨b16, 0, none⟩)), (17, .pointer (some ⟨b17, 0, none⟩)), (18, .func (.func 34) #[] #[.pointer (some ⟨b8, 0, none⟩), .pointer (some ⟨b16, 0, none⟩), .pointer (some ⟨b17, 0, none⟩)]), (86, .int .i64 f.temps), (87, .int .i64 t), (21, .int .i64 i), (124, .slice uad2 row2.length ucap2), (125, .int .i64 row2.length), (126, .int .i64 y.1)]) (fun y => [y.2.Aw, [(b17, .cells ⟨[y.2.vw]⟩ 26 (0, 0))], [(b16, .cells ⟨[.int .i64 (t : Nat)]⟩ 3 (0, 0))], [(b1, .cells ⟨f.cells⟩ 25 (0, 0))], [(b8, .cells ⟨[.slice (some ⟨gi, 0, none⟩) f.code.length f.code.length]⟩ 67 (0, 0))], Ai, Ao, mls y.2.fi, mls y.2.fo, [(gb, .cells ⟨f.cells ++ [nv, .slice adf mf.vals.length capf]⟩ 71 (0, 0))], mf.A0, mf.As.flatten, mr.A0, mr.As.flatten])
        (fun y => row2.length - y.1) (0, ⟨fi, fo, ws, .slice (some ⟨g17, 0, none⟩) ws.length cap17, Aw⟩) ⟨Nat.zero_le _, hpop, hrdm, fun p h => by simp at h, hm0⟩ ⟨rfl, rfl, rfl, rfl, rfl, rfl, rfl, rfl, rfl, rfl, rfl, rfl, rfl, rfl, rfl, trivial⟩ (fun w' H => H) ?_
      generalize hM : (ws ++ [(i : Int)]).length + 2 * unk fi t = M0
      clear hV1 hrdm hpop hm0 hwo
      rintro ⟨k, ⟨fi, fo, wait, vw, Aw⟩⟩ ⟨hk, hV1, hrdm, hdone, hmu⟩
      have hwo : OwnI vw wait Aw := hV1.ow
      try dsimp only at hk hrdm hdone hmu ⊢
      repeat' (first | refine g_pv rfl rfl ?_ | refine g_nil ?_ | refine gq_then ?_ | refine gc_seq ?_ | refine gc_region ?_)
      refine gc_condC rfl (fun hc3 => ?_) (fun hc3 => ?_)
      · have hklt : k < row2.length := by have := of_decide_eq_true hc3; omega
        have hxk : row2[k]? = some row2[k] := List.getElem?_eq_getElem hklt
        have hp0 := hrow2 _ (List.getElem_mem hklt)
        have htk : row2.take (k + 1) = row2.take k ++ [row2[k]] := List.take_succ_eq_append_getElem hklt
        have hpm := List.getElem_mem hklt
        generalize row2[k] = pz at hxk hp0 htk hpm
        obtain ⟨p, rfl⟩ : ∃ p : Nat, pz = p := ⟨pz.toNat, by omega⟩
        have hpn := hlt2 p hpm
        have hedge := (hrmem p).1 hpm
        have hlo : LiveOut f.code t p := ⟨i, hedge, hli⟩
        obtain ⟨mo, hmo⟩ : ∃ mo, fo[p]? = some mo := ⟨_, List.getElem?_eq_getElem (by have := hV1.len2; dsimp only at this; omega)⟩
        have hmook := hV1.ok2 mo (List.mem_of_getElem? hmo)
        have hmor := r_get (hV1.r2.trans hTI.r2) hmo
        obtain ⟨z, hz⟩ := hmook.look (t : Int)
        repeat' (first | refine gq_then ?_ | refine gc_seq ?_ | refine gc_region ?_ | refine gc_block ?_ | refine gc_skip ?_)
        refine g_atG (l := row2) (f := fI) (u := (p : Int)) rfl rfl rfl rfl rfl (Int.natCast_nonneg k) (by omega) (fun w' H => ?_) hxk rfl rfl rfl rfl (fun _ => ?_)
        · obtain ⟨ad', cap', he, hrd2⟩ := OwnL.rd (f := fI) (fun _ => rfl) hoa2 (H := hw w') (fun b o hb' => hp_in H 11 rfl b o (List.mem_flatten.2 ⟨a2, List.mem_of_getElem? ha2, hb'⟩))
          have he' := (Value.slice.inj he).1
          subst he'; exact hrd2
        repeat' (first | refine g_pv rfl rfl ?_ | refine g_nil ?_ | refine gq_then ?_ | refine gc_seq ?_)
        refine gc_heap (R' := [Ao, [(b16, .cells ⟨[.int .i64 (t : Nat)]⟩ 3 (0, 0))], mo.hl, ((fo.map FM.hl).eraseIdx p).flatten, Aw, [(b17, .cells ⟨[vw]⟩ 26 (0, 0))], [(b1, .cells ⟨f.cells⟩ 25 (0, 0))], [(b8, .cells ⟨[.slice (some ⟨gi, 0, none⟩) f.code.length f.code.length]⟩ 67 (0, 0))], Ai, mls fi, [(gb, .cells ⟨f.cells ++ [nv, .slice adf mf.vals.length capf]⟩ 71 (0, 0))], mf.A0, mf.As.flatten, mr.A0, mr.As.flatten]) (fun w' H => hp_cnt (R := [Aw, [(b17, .cells ⟨[vw]⟩ 26 (0, 0))], [(b16, .cells ⟨[.int .i64 (t : Nat)]⟩ 3 (0, 0))], [(b1, .cells ⟨f.cells⟩ 25 (0, 0))], [(b8, .cells ⟨[.slice (some ⟨gi, 0, none⟩) f.code.length f.code.length]⟩ 67 (0, 0))], Ai, Ao, mls fi, mls fo, [(gb, .cells ⟨f.cells ++ [nv, .slice adf mf.vals.length capf]⟩ 71 (0, 0))], mf.A0, mf.As.flatten, mr.A0, mr.As.flatten]) [] H (fun x => by
          have e1 := mls_cnt hmo x
          simp only [List.cons_append, List.nil_append, List.flatten_append, List.flatten_cons, List.flatten_nil, List.count_append, List.count_cons, List.count_nil, List.append_nil]
          omega)) ?_
        refine gc_draw [Ao, [(b16, .cells ⟨[.int .i64 (t : Nat)]⟩ 3 (0, 0))]] [mo.hl, ((fo.map FM.hl).eraseIdx p).flatten, Aw, [(b17, .cells ⟨[vw]⟩ 26 (0, 0))], [(b1, .cells ⟨f.cells⟩ 25 (0, 0))], [(b8, .cells ⟨[.slice (some ⟨gi, 0, none⟩) f.code.length f.code.length]⟩ 67 (0, 0))], Ai, mls fi, [(gb, .cells ⟨f.cells ++ [nv, .slice adf mf.vals.length capf]⟩ 71 (0, 0))], mf.A0, mf.As.flatten, mr.A0, mr.As.flatten] rfl (List.Perm.refl _) ?_
        (refine ga_p 0 (by repeat first | exact NoP.sp | apply NoP.then | apply NoP.block) rfl (pv_spec rfl) rfl (by kernel_rfl) (by kernel_rfl) (by kernel_rfl) ?_); (refine ga_p 1 (by repeat first | exact NoP.sp | apply NoP.then | apply NoP.block) rfl (pv_spec rfl) rfl (by kernel_rfl) (by kernel_rfl) (by kernel_rfl) ?_)
        refine ga_at 2 3 (l := rso.map mref) (f := fV) (u := .map (some mo.r)) (by repeat first | exact NoP.sp | apply NoP.then | apply NoP.block) rfl wanted_none rfl (fun a _ => wanted_none a) rfl rfl rfl rfl rfl (Int.natCast_nonneg p) (by omega) (still_rd 0 rfl (fun _ => rfl) hoo rfl) hmor rfl rfl rfl rfl (by kernel_rfl) (by kernel_rfl) (by kernel_rfl) (by kernel_rfl) (by kernel_rfl) (fun _ => ?_)
        (refine ga_ld 4 1 (by repeat first | exact NoP.sp | apply NoP.then | apply NoP.block) rfl wanted_none rfl rfl rfl rfl rfl rfl (by kernel_rfl) (by kernel_rfl) (by kernel_rfl) ?_)
        refine ga_one (i := 5) (by kernel_rfl) (gs_of rfl (fun K hK => ?_))
        refine g_look 2 (kf := KI) (k := (t : Int)) rfl rfl rfl rfl rfl (kl_int (Try.sx.ok.at rfl)) hmook.is rfl ?_
        rw [show ((ml mo.kv (t : Int)).getD (Value.int .i64 0)) = _ from hz]
        refine g_nil ?_
        refine hK _ _ ⟨_, List.Perm.refl _⟩ ?_
        (refine ga_p 6 (by repeat first | exact NoP.sp | apply NoP.then | apply NoP.block) rfl (pv_spec rfl) rfl (by kernel_rfl) (by kernel_rfl) (by kernel_rfl) ?_)
        refine ga_one (i := 7) (by kernel_rfl) (gs_last rfl (by kernel_rfl) (by kernel_rfl) (fun K hK => ?_))
        refine g_upd 2 (kf := KI) (k := (t : Int)) rfl rfl rfl rfl rfl (kl_int (Try.sx.ok.at rfl)) hmook.is (fun es' clock' Mo' => ?_)
        refine g_nil ?_
        refine hK _ _ ?_
        have hokI := okI_put hmook Mo'
        obtain ⟨hV2, hkp, hmono2⟩ := hV1.mark hmo hlo (m' := ⟨mo.r, es', clock', mput mo.kv (t : Int) (.int .i64 (IntKind.i64.wrap (z + 1)))⟩) rfl hokI (fun k => mem_keys_mput _ _ _ _)
        repeat' (first | refine gq_then ?_ | refine gc_seq ?_)
        refine gc_heap (R' := [[(b1, .cells ⟨f.cells⟩ 25 (0, 0))], [(b16, .cells ⟨[.int .i64 (t : Nat)]⟩ 3 (0, 0))], Aw, [(b17, .cells ⟨[vw]⟩ 26 (0, 0))], [(b8, .cells ⟨[.slice (some ⟨gi, 0, none⟩) f.code.length f.code.length]⟩ 67 (0, 0))], Ai, Ao, mls fi, mls (fo.set p ⟨mo.r, es', clock', mput mo.kv (t : Int) (.int .i64 (IntKind.i64.wrap (z + 1)))⟩), [(gb, .cells ⟨f.cells ++ [nv, .slice adf mf.vals.length capf]⟩ 71 (0, 0))], mf.A0, mf.As.flatten, mr.A0, mr.As.flatten]) (fun w' H => hp_cnt (R := [Ao, [(b16, .cells ⟨[.int .i64 (t : Nat)]⟩ 3 (0, 0))], [(mo.r, .map es' clock')], ((fo.map FM.hl).eraseIdx p).flatten, Aw, [(b17, .cells ⟨[vw]⟩ 26 (0, 0))], [(b1, .cells ⟨f.cells⟩ 25 (0, 0))], [(b8, .cells ⟨[.slice (some ⟨gi, 0, none⟩) f.code.length f.code.length]⟩ 67 (0, 0))], Ai, mls fi, [(gb, .cells ⟨f.cells ++ [nv, .slice adf mf.vals.length capf]⟩ 71 (0, 0))], mf.A0, mf.As.flatten, mr.A0, mr.As.flatten]) [] H (fun x => by
          have e2 := mls_set (m' := ⟨mo.r, es', clock', mput mo.kv (t : Int) (.int .i64 (IntKind.i64.wrap (z + 1)))⟩) hmo x
          simp only [FM.hl, List.cons_append, List.nil_append, List.flatten_append, List.flatten_cons, List.flatten_nil, List.count_append, List.count_cons, List.count_nil, List.append_nil] at e2 ⊢
          omega)) ?_
        generalize fo.set p ⟨mo.r, es', clock', mput mo.kv (t : Int) (.int .i64 (IntKind.i64.wrap (z + 1)))⟩ = fo2 at hV2 hkp hmono2 ⊢
        have hxp : f.code[p]? = some f.code[p] := List.getElem?_eq_getElem hpn
        generalize f.code[p] = x at hxp
        refine gc_draw [[(b1, .cells ⟨f.cells⟩ 25 (0, 0))], [(b16, .cells ⟨[.int .i64 (t : Nat)]⟩ 3 (0, 0))]] [Aw, [(b17, .cells ⟨[vw]⟩ 26 (0, 0))], [(b8, .cells ⟨[.slice (some ⟨gi, 0, none⟩) f.code.length f.code.length]⟩ 67 (0, 0))], Ai, Ao, mls fi, mls fo2, [(gb, .cells ⟨f.cells ++ [nv, .slice adf mf.vals.length capf]⟩ 71 (0, 0))], mf.A0, mf.As.flatten, mr.A0, mr.As.flatten] rfl (List.Perm.refl _) ?_
        (refine ga_p 0 (by repeat first | exact NoP.sp | apply NoP.then | apply NoP.block) rfl (pv_spec rfl) rfl (by kernel_rfl) (by kernel_rfl) (by kernel_rfl) ?_); (refine ga_ld 1 0 (by repeat first | exact NoP.sp | apply NoP.then | apply NoP.block) rfl wanted_none rfl rfl rfl rfl rfl rfl (by kernel_rfl) (by kernel_rfl) (by kernel_rfl) ?_); (refine ga_p 2 (by repeat first | exact NoP.sp | apply NoP.then | apply NoP.block) rfl (pv_spec rfl) rfl (by kernel_rfl) (by kernel_rfl) (by kernel_rfl) ?_)
        refine ga_at 3 4 (l := f.code) (f := Ins.cells) (u := x) (by repeat first | exact NoP.sp | apply NoP.then | apply NoP.block) rfl wanted_none rfl (fun a _ => wanted_none a) rfl rfl rfl rfl rfl (Int.natCast_nonneg p) (by omega) (still_rdO (hf.row.le (old_le0 _ w))) hxp rfl rfl rfl rfl (by kernel_rfl) (by kernel_rfl) (by kernel_rfl) (by kernel_rfl) (by kernel_rfl) (fun _ => ?_)
        (refine ga_ld 6 1 (by repeat first | exact NoP.sp | apply NoP.then | apply NoP.block) rfl wanted_none rfl rfl rfl rfl rfl rfl (by kernel_rfl) (by kernel_rfl) (by kernel_rfl) ?_)
        refine ga_one (i := 5) (by kernel_rfl) (gs_of rfl (fun K hK => ?_))
        refine g_call rfl (Cl.of Try.func35 rfl rfl) rfl rfl (fun w' hE => writes_sp x w') rfl (fun _ _ => ?_)
        refine g_nil ?_
        refine hK _ _ ⟨_, List.Perm.refl _⟩ ?_
        (refine ga_p 7 (by repeat first | exact NoP.sp | apply NoP.then | apply NoP.block) rfl (pv_spec rfl) rfl (by kernel_rfl) (by kernel_rfl) (by kernel_rfl) ?_)
        refine ga_nil (by kernel_rfl) ?_
        repeat' (refine gq_then ?_)
        refine gc_condC rfl (fun hq => ?_) (fun hq => ?_)
        · have hwr : x.writes ≠ (t : Int) := by simpa using hq
          repeat' (first | refine g_pv rfl rfl ?_ | refine gc_region ?_)
          obtain ⟨m, hm⟩ : ∃ m, fi[p]? = some m := ⟨_, List.getElem?_eq_getElem (by have := hV2.len1; dsimp only at this; omega)⟩
          have hmok := hV2.ok1 m (List.mem_of_getElem? hm)
          have hmr1 := r_get (hV2.r1.trans hTI.r1) hm
          have hwl : wait.length ≤ 100000 := by have := hV2.bd; dsimp only at this; omega
          refine g_heap (R' := (m.hl ++ [(b17, .cells ⟨[vw]⟩ 26 (0, 0))] ++ Aw) :: [[(b16, .cells ⟨[.int .i64 (t : Nat)]⟩ 3 (0, 0))], [(b1, .cells ⟨f.cells⟩ 25 (0, 0))], [(b8, .cells ⟨[.slice (some ⟨gi, 0, none⟩) f.code.length f.code.length]⟩ 67 (0, 0))], Ai, Ao, ((fi.map FM.hl).eraseIdx p).flatten, mls fo2, [(gb, .cells ⟨f.cells ++ [nv, .slice adf mf.vals.length capf]⟩ 71 (0, 0))], mf.A0, mf.As.flatten, mr.A0, mr.As.flatten]) (fun w' H => hp_cnt (R := [[(b1, .cells ⟨f.cells⟩ 25 (0, 0))], [(b16, .cells ⟨[.int .i64 (t : Nat)]⟩ 3 (0, 0))], Aw, [(b17, .cells ⟨[vw]⟩ 26 (0, 0))], [(b8, .cells ⟨[.slice (some ⟨gi, 0, none⟩) f.code.length f.code.length]⟩ 67 (0, 0))], Ai, Ao, mls fi, mls fo2, [(gb, .cells ⟨f.cells ++ [nv, .slice adf mf.vals.length capf]⟩ 71 (0, 0))], mf.A0, mf.As.flatten, mr.A0, mr.As.flatten]) [] H (fun x => by
            have e1 := mls_cnt hm x
            simp only [List.cons_append, List.nil_append, List.flatten_append, List.flatten_cons, List.flatten_nil, List.count_append, List.count_cons, List.count_nil, List.append_nil]
            omega)) ?_
          refine g_callA rfl rfl (Cl.of Try.func34 rfl rfl) rfl rfl (fun w' hE => ahead_sp m hmok b8 b16 b17 gi f.code.length f.code.length p t (rsi.map mref) vw wait Aw w' hV2.ow hwl hpn (hp_eff hE) (cellAt_of (hp_exc hE (b := b8) (o := .cells ⟨[.slice (some ⟨gi, 0, none⟩) f.code.length f.code.length]⟩ 67 (0, 0)) (by simp))) (hp_excL (f := fV) (sz := 1) hE 3 rfl (fun _ => rfl) hoi) hmr1 (cellAt_of (hp_exc hE (b := b16) (o := .cells ⟨[.int .i64 (t : Nat)]⟩ 3 (0, 0)) (by simp)))) rfl ?_
          rintro ⟨m', vw', Aw', wait'⟩ hz0
          obtain ⟨hz1, hz2, hz3, hz4⟩ := hz0
          obtain ⟨hV, hkj, hmono, hms⟩ := hV2.ahead hpn hm (.next hxp hwr hedge hli) hz1 hz2 hz3 hz4
          dsimp only at hV hkj hmono hms
          repeat' (first | refine g_pv rfl rfl ?_ | refine g_nil ?_ | refine gq_then ?_ | refine gc_region ?_ | refine gq_block ?_)
          refine gq_again (k + 1, ⟨fi.set p m', fo2, wait', vw', Aw'⟩) ⟨hklt, hV, fun i x h1 h2 => hmono i (hrdm i x h1 h2), fun q hq2 => ?_, by simp only; omega⟩ (by simp only; omega) ⟨rfl, rfl, rfl, rfl, rfl, rfl, rfl, rfl, rfl, rfl, rfl, rfl, rfl, rfl, inc_eq (by omega), trivial⟩ (fun w' H => hp_cnt (R := [m'.hl, [(b17, .cells ⟨[vw']⟩ 26 (0, 0))], Aw', [(b16, .cells ⟨[.int .i64 (t : Nat)]⟩ 3 (0, 0))], [(b1, .cells ⟨f.cells⟩ 25 (0, 0))], [(b8, .cells ⟨[.slice (some ⟨gi, 0, none⟩) f.code.length f.code.length]⟩ 67 (0, 0))], Ai, Ao, ((fi.map FM.hl).eraseIdx p).flatten, mls fo2, [(gb, .cells ⟨f.cells ++ [nv, .slice adf mf.vals.length capf]⟩ 71 (0, 0))], mf.A0, mf.As.flatten, mr.A0, mr.As.flatten]) [] H (fun x => by
          have e2 := mls_set (m' := m') hm x
          simp only [List.cons_append, List.nil_append, List.flatten_append, List.flatten_cons, List.flatten_nil, List.count_append, List.count_cons, List.count_nil, List.append_nil]
          omega))
          rw [htk] at hq2
          rcases List.mem_append.1 hq2 with h1 | h1
          · exact ⟨hmono2 q (hdone q h1).1, fun x h2 h3 => hmono q ((hdone q h1).2 x h2 h3)⟩
          · have e : q = p := by simp at h1; omega
            rw [e]; exact ⟨hkp, fun _ _ _ => hkj⟩
        · have hwr : x.writes = (t : Int) := by simpa using hq
          repeat' (first | refine g_pv rfl rfl ?_ | refine g_nil ?_ | refine gq_then ?_ | refine gc_region ?_ | refine gc_skip ?_ | refine gq_block ?_)
          refine gq_again (k + 1, ⟨fi, fo2, wait, vw, Aw⟩) ⟨hklt, hV2, hrdm, fun q hq2 => ?_, hmu⟩ (by simp only; omega) ⟨rfl, rfl, rfl, rfl, rfl, rfl, rfl, rfl, rfl, rfl, rfl, rfl, rfl, rfl, inc_eq (by omega), trivial⟩ (fun w' H => hp_cnt (R := [[(b1, .cells ⟨f.cells⟩ 25 (0, 0))], [(b16, .cells ⟨[.int .i64 (t : Nat)]⟩ 3 (0, 0))], Aw, [(b17, .cells ⟨[vw]⟩ 26 (0, 0))], [(b8, .cells ⟨[.slice (some ⟨gi, 0, none⟩) f.code.length f.code.length]⟩ 67 (0, 0))], Ai, Ao, mls fi, mls fo2, [(gb, .cells ⟨f.cells ++ [nv, .slice adf mf.vals.length capf]⟩ 71 (0, 0))], mf.A0, mf.As.flatten, mr.A0, mr.As.flatten]) [] H (fun a => by simp only [FM.hl, putC, Value.cells, List.cons_append, List.nil_append, List.set_cons_zero, List.set_cons_succ, List.flatten_append, List.flatten_cons, List.flatten_nil, List.count_append, List.count_cons, List.count_nil, List.append_nil, List.flatten_replicate_nil]; omega))
          rw [htk] at hq2
          rcases List.mem_append.1 hq2 with h1 | h1
          · exact ⟨hmono2 q (hdone q h1).1, (hdone q h1).2⟩
          · have e : q = p := by simp at h1; omega
            rw [e]; exact ⟨hkp, fun y h2 h3 => by rw [hxp] at h2; cases h2; exact absurd hwr h3⟩
      · have hke : k = row2.length := by have := of_decide_eq_false hc3; omega
        rw [hke, List.take_length] at hdone
        repeat' (first | refine gc_exit ?_ | refine gq_then_exit ?_ | refine gq_block ?_ | refine gq_block_exit ?_)
        exact gq_again ⟨fi, fo, wait, vw, Aw⟩ ⟨full_row hV1 (fun p x hp he => ⟨(hdone p ((hrmem p).2 he)).1, (hdone p ((hrmem p).2 he)).2 x hp⟩), hrdm⟩ (by simp only; omega) ⟨rfl, rfl, rfl, rfl, rfl, rfl, rfl, rfl, rfl, rfl, rfl, trivial⟩ (fun w' H => H)
    · have hw0 : wait = [] := List.eq_nil_of_length_eq_zero (by have := of_decide_eq_false hc2; omega)
      have hnext := hV1.next hTI hw0 hrdm
      repeat' (first | refine g_pv rfl rfl ?_ | refine g_nil ?_ | refine gq_then ?_ | refine gc_region ?_ | refine gc_exit ?_ | refine gq_then_exit ?_ | refine gq_block ?_ | refine gq_block_exit ?_)
      exact gq_again (t + 1, fi, fo) ⟨hlt, by simpa using hnext⟩ (by simp only; omega) ⟨rfl, rfl, rfl, rfl, rfl, rfl, rfl, inc_eq (by omega), trivial⟩ (fun w' H => hp_tail (hp_tail (hp_tail H)))
  have hte : t = T := by have := of_decide_eq_false hc; omega
  rw [hte] at hTI
  clear hc htT
  repeat' (first | refine gq_then ?_ | refine gc_seq ?_ | refine gc_exit ?_ | refine gq_then_exit ?_ | refine gq_block_exit ?_)
  refine gc_cutT (Y := Nat × Nat) (fun _ => True) (fun y => [(1, .pointer (some ⟨b1, 0, none⟩)), (5, .pointer (some ⟨gb, 0, none⟩)), (7, .int .i64 f.code.length), (8, .pointer (some ⟨b8, 0, none⟩)), (9, .slice (some ⟨go, 0, none⟩) f.code.length f.code.length), (24, .slice (some ⟨y.1, 0, none⟩) f.code.length f.code.length), (25, .slice (some ⟨y.2, 0, none⟩) f.code.length f.code.length)])
    (fun y => [[(y.1, .cells ⟨rep f.code.length [.slice none 0 0]⟩ 26 (0, 0))], [(y.2, .cells ⟨rep f.code.length [.slice none 0 0]⟩ 26 (0, 0))], [(b1, .cells ⟨f.cells⟩ 25 (0, 0))], [(b8, .cells ⟨[.slice (some ⟨gi, 0, none⟩) f.code.length f.code.length]⟩ 67 (0, 0))], Ai, Ao, mls fi0, mls fo0, [(gb, .cells ⟨f.cells ++ [nv, .slice adf mf.vals.length capf]⟩ 71 (0, 0))], mf.A0, mf.As.flatten, mr.A0, mr.As.flatten]) ?_ ?_
  · refine gc_draw [[(b1, .cells ⟨f.cells⟩ 25 (0, 0))], [(b8, .cells ⟨[.slice (some ⟨gi, 0, none⟩) f.code.length f.code.length]⟩ 67 (0, 0))]] [Ai, Ao, mls fi0, mls fo0, [(gb, .cells ⟨f.cells ++ [nv, .slice adf mf.vals.length capf]⟩ 71 (0, 0))], mf.A0, mf.As.flatten, mr.A0, mr.As.flatten] rfl (List.Perm.refl _) ?_
    (refine ga_p 0 (by repeat first | exact NoP.sp | apply NoP.then | apply NoP.block) rfl (pv_spec rfl) rfl (by kernel_rfl) (by kernel_rfl) (by kernel_rfl) ?_); (refine ga_p 2 (by repeat first | exact NoP.sp | apply NoP.then | apply NoP.block) rfl (pv_spec rfl) rfl (by kernel_rfl) (by kernel_rfl) (by kernel_rfl) ?_)
    refine ga_two (i := 1) (j := 3) (by kernel_rfl) (gs_of rfl (fun K hK => ?_)) (gs_of rfl (fun K hK => ?_))
    · refine g_make (n := f.code.length) (c := f.code.length) rfl rfl rfl rfl rfl (Nat.le_refl _) (by show 24 * _ ≤ _; omega) (by omega) rfl (fun ga => ?_)
      refine g_nil ?_
      refine hK _ _ ⟨_ :: [Ai, Ao, mls fi0, mls fo0, [(gb, .cells ⟨f.cells ++ [nv, .slice adf mf.vals.length capf]⟩ 71 (0, 0))], mf.A0, mf.As.flatten, mr.A0, mr.As.flatten], List.perm_middle⟩ ?_
      (refine ga_p 4 (by repeat first | exact NoP.sp | apply NoP.then | apply NoP.block) rfl (pv_spec rfl) rfl (by kernel_rfl) (by kernel_rfl) (by kernel_rfl) ?_)
      refine ga_one (i := 3) (by kernel_rfl) (gs_of rfl (fun K hK => ?_))
      refine g_make (n := f.code.length) (c := f.code.length) rfl rfl rfl rfl rfl (Nat.le_refl _) (by show 24 * _ ≤ _; omega) (by omega) rfl (fun gc => ?_)
      refine g_nil ?_
      refine hK _ _ ⟨_ :: _ :: [Ai, Ao, mls fi0, mls fo0, [(gb, .cells ⟨f.cells ++ [nv, .slice adf mf.vals.length capf]⟩ 71 (0, 0))], mf.A0, mf.As.flatten, mr.A0, mr.As.flatten], List.perm_append_comm_assoc [[(b1, .cells ⟨f.cells⟩ 25 (0, 0))], [(b8, .cells ⟨[.slice (some ⟨gi, 0, none⟩) f.code.length f.code.length]⟩ 67 (0, 0))]] [_, _] [Ai, Ao, mls fi0, mls fo0, [(gb, .cells ⟨f.cells ++ [nv, .slice adf mf.vals.length capf]⟩ 71 (0, 0))], mf.A0, mf.As.flatten, mr.A0, mr.As.flatten]⟩ ?_
      (refine ga_p 5 (by repeat first | exact NoP.sp | apply NoP.then | apply NoP.block) rfl (pv_spec rfl) rfl (by kernel_rfl) (by kernel_rfl) (by kernel_rfl) ?_)
      refine ga_nil (by kernel_rfl) ?_
      exact gq_at (ga, gc) trivial ⟨rfl, rfl, rfl, rfl, rfl, rfl, rfl, trivial⟩ (fun w' H => hp_cnt (R := [[(gc, .cells ⟨rep f.code.length [.slice none 0 0]⟩ 26 (0, 0))], [(ga, .cells ⟨rep f.code.length [.slice none 0 0]⟩ 26 (0, 0))], [(b1, .cells ⟨f.cells⟩ 25 (0, 0))], [(b8, .cells ⟨[.slice (some ⟨gi, 0, none⟩) f.code.length f.code.length]⟩ 67 (0, 0))], Ai, Ao, mls fi0, mls fo0, [(gb, .cells ⟨f.cells ++ [nv, .slice adf mf.vals.length capf]⟩ 71 (0, 0))], mf.A0, mf.As.flatten, mr.A0, mr.As.flatten]) [] H (fun a => by simp only [FM.hl, putC, Value.cells, List.cons_append, List.nil_append, List.set_cons_zero, List.set_cons_succ, List.flatten_append, List.flatten_cons, List.flatten_nil, List.count_append, List.count_cons, List.count_nil, List.append_nil, List.flatten_replicate_nil]; omega))
    · refine g_make (n := f.code.length) (c := f.code.length) rfl rfl rfl rfl rfl (Nat.le_refl _) (by show 24 * _ ≤ _; omega) (by omega) rfl (fun gc => ?_)
      refine g_nil ?_
      refine hK _ _ ⟨_ :: [Ai, Ao, mls fi0, mls fo0, [(gb, .cells ⟨f.cells ++ [nv, .slice adf mf.vals.length capf]⟩ 71 (0, 0))], mf.A0, mf.As.flatten, mr.A0, mr.As.flatten], List.perm_middle⟩ ?_
      refine ga_one (i := 1) (by kernel_rfl) (gs_of rfl (fun K hK => ?_))
      refine g_make (n := f.code.length) (c := f.code.length) rfl rfl rfl rfl rfl (Nat.le_refl _) (by show 24 * _ ≤ _; omega) (by omega) rfl (fun ga => ?_)
      refine g_nil ?_
      refine hK _ _ ⟨_ :: _ :: [Ai, Ao, mls fi0, mls fo0, [(gb, .cells ⟨f.cells ++ [nv, .slice adf mf.vals.length capf]⟩ 71 (0, 0))], mf.A0, mf.As.flatten, mr.A0, mr.As.flatten], List.perm_append_comm_assoc [[(b1, .cells ⟨f.cells⟩ 25 (0, 0))], [(b8, .cells ⟨[.slice (some ⟨gi, 0, none⟩) f.code.length f.code.length]⟩ 67 (0, 0))]] [_, _] [Ai, Ao, mls fi0, mls fo0, [(gb, .cells ⟨f.cells ++ [nv, .slice adf mf.vals.length capf]⟩ 71 (0, 0))], mf.A0, mf.As.flatten, mr.A0, mr.As.flatten]⟩ ?_
      (refine ga_p 4 (by repeat first | exact NoP.sp | apply NoP.then | apply NoP.block) rfl (pv_spec rfl) rfl (by kernel_rfl) (by kernel_rfl) (by kernel_rfl) ?_); (refine ga_p 5 (by repeat first | exact NoP.sp | apply NoP.then | apply NoP.block) rfl (pv_spec rfl) rfl (by kernel_rfl) (by kernel_rfl) (by kernel_rfl) ?_)
      refine ga_nil (by kernel_rfl) ?_
      exact gq_at (ga, gc) trivial ⟨rfl, rfl, rfl, rfl, rfl, rfl, rfl, trivial⟩ (fun w' H => hp_cnt (R := [[(ga, .cells ⟨rep f.code.length [.slice none 0 0]⟩ 26 (0, 0))], [(gc, .cells ⟨rep f.code.length [.slice none 0 0]⟩ 26 (0, 0))], [(b1, .cells ⟨f.cells⟩ 25 (0, 0))], [(b8, .cells ⟨[.slice (some ⟨gi, 0, none⟩) f.code.length f.code.length]⟩ 67 (0, 0))], Ai, Ao, mls fi0, mls fo0, [(gb, .cells ⟨f.cells ++ [nv, .slice adf mf.vals.length capf]⟩ 71 (0, 0))], mf.A0, mf.As.flatten, mr.A0, mr.As.flatten]) [] H (fun a => by simp only [FM.hl, putC, Value.cells, List.cons_append, List.nil_append, List.set_cons_zero, List.set_cons_succ, List.flatten_append, List.flatten_cons, List.flatten_nil, List.count_append, List.count_cons, List.count_nil, List.append_nil, List.flatten_replicate_nil]; omega))
  rintro ⟨ga, gc⟩ -
  dsimp only
  have hoa0 := own_nils ga f.code.length (by unfold maxLen; omega)
  have hoc0 := own_nils gc f.code.length (by unfold maxLen; omega)
  rw [← srtAt_zero fi0] at hoa0
  rw [← srtAt_zero fo0] at hoc0
  have hmi : ∀ i m, fi0[i]? = some m → IsSet (srt m) (fun u => LiveIn f.code (u : Int) i) := fun i m hm => by
    refine sorted_set (hTI.ok1 m (List.mem_of_getElem? hm)).nodup (fun v => ?_)
    have h1 : v ∈ m.keys ↔ kin fi0 i v := ⟨fun h => ⟨m, hm, h⟩, fun ⟨m', h1, h2⟩ => by rw [hm] at h1; cases h1; exact h2⟩
    rw [h1, hTI.inn]
    constructor
    · rintro ⟨h1, h2⟩
      obtain ⟨x, hx, hv⟩ := h2.rd
      have h0 := (reads_ok (hf.all x hx) v hv).1
      exact ⟨v.toNat, by omega, by rw [Int.toNat_of_nonneg h0]; exact h2⟩
    · rintro ⟨u, rfl, h2⟩
      obtain ⟨x, hx, hv⟩ := h2.rd
      have := right_reads hr hx hv
      exact ⟨by omega, h2⟩
  have hmo : ∀ i m, fo0[i]? = some m → IsSet (srt m) (fun u => LiveOut f.code (u : Int) i) := fun i m hm => by
    refine sorted_set (hTI.ok2 m (List.mem_of_getElem? hm)).is.nodup (fun v => ?_)
    have h1 : v ∈ m.keys ↔ kin fo0 i v := ⟨fun h => ⟨m, hm, h⟩, fun ⟨m', h1, h2⟩ => by rw [hm] at h1; cases h1; exact h2⟩
    rw [h1, hTI.out]
    constructor
    · rintro ⟨h1, z, h3, h2⟩
      obtain ⟨x, hx, hv⟩ := h2.rd
      have h0 := (reads_ok (hf.all x hx) v hv).1
      exact ⟨v.toNat, by omega, by rw [Int.toNat_of_nonneg h0]; exact ⟨z, h3, h2⟩⟩
    · rintro ⟨u, rfl, z, h3, h2⟩
      obtain ⟨x, hx, hv⟩ := h2.rd
      have := right_reads hr hx hv
      exact ⟨by omega, z, h3, h2⟩
  repeat' (first | refine g_pv rfl rfl ?_ | refine g_nil ?_ | refine gq_then ?_ | refine gc_seq ?_ | refine gc_region ?_ | refine gc_block ?_)
  refine gc_loop (Y := Nat × LM × LM) (fun y => y.1 ≤ f.code.length ∧ OwnLL (.slice (some ⟨ga, 0, none⟩) f.code.length f.code.length) (srtAt fi0 f.code.length y.1) y.2.1 ∧ OwnLL (.slice (some ⟨gc, 0, none⟩) f.code.length f.code.length) (srtAt fo0 f.code.length y.1) y.2.2)
    (fun y => [(1, .pointer (some ⟨b1, 0, none⟩)), (5, .pointer (some ⟨gb, 0, none⟩)), (7, .int .i64 f.code.length), (8, .pointer (some ⟨b8, 0, none⟩)), (9, .slice (some ⟨go, 0, none⟩) f.code.length f.code.length), (24, .slice (some ⟨ga, 0, none⟩) f.code.length f.code.length), (25, .slice (some ⟨gc, 0, none⟩) f.code.length f.code.length), (154, .int .i64 f.code.length), (155, .int .i64 y.1)])
    (fun y => [y.2.1.A0, y.2.1.As.flatten, y.2.2.A0, y.2.2.As.flatten, [(b1, .cells ⟨f.cells⟩ 25 (0, 0))], [(b8, .cells ⟨[.slice (some ⟨gi, 0, none⟩) f.code.length f.code.length]⟩ 67 (0, 0))], Ai, Ao, mls fi0, mls fo0, [(gb, .cells ⟨f.cells ++ [nv, .slice adf mf.vals.length capf]⟩ 71 (0, 0))], mf.A0, mf.As.flatten, mr.A0, mr.As.flatten]) (fun y => f.code.length - y.1) (0, _, _) ⟨Nat.zero_le _, hoa0, hoc0⟩ ⟨rfl, rfl, rfl, rfl, rfl, rfl, rfl, rfl, rfl, trivial⟩ (fun w' H => hp_cnt (R := [[(ga, .cells ⟨rep f.code.length [.slice none 0 0]⟩ 26 (0, 0))], [(gc, .cells ⟨rep f.code.length [.slice none 0 0]⟩ 26 (0, 0))], [(b1, .cells ⟨f.cells⟩ 25 (0, 0))], [(b8, .cells ⟨[.slice (some ⟨gi, 0, none⟩) f.code.length f.code.length]⟩ 67 (0, 0))], Ai, Ao, mls fi0, mls fo0, [(gb, .cells ⟨f.cells ++ [nv, .slice adf mf.vals.length capf]⟩ 71 (0, 0))], mf.A0, mf.As.flatten, mr.A0, mr.As.flatten]) [] H (fun a => by simp only [FM.hl, putC, Value.cells, List.cons_append, List.nil_append, List.set_cons_zero, List.set_cons_succ, List.flatten_append, List.flatten_cons, List.flatten_nil, List.count_append, List.count_cons, List.count_nil, List.append_nil, List.flatten_replicate_nil]; omega)) ?_
  rintro ⟨i, ma, mc⟩ ⟨hi, hma, hmc⟩
  try dsimp only at hi hma hmc ⊢
  repeat' (first | refine g_pv rfl rfl ?_ | refine g_nil ?_ | refine gq_then ?_ | refine gc_seq ?_ | refine gc_region ?_)
  refine gc_condC rfl (fun hc => ?_) (fun hc => ?_)
  · have hlt : i < f.code.length := by have := of_decide_eq_true hc; omega
    obtain ⟨m1, hm1⟩ : ∃ m1, fi0[i]? = some m1 := ⟨_, List.getElem?_eq_getElem (by omega)⟩
    obtain ⟨m2, hm2⟩ : ∃ m2, fo0[i]? = some m2 := ⟨_, List.getElem?_eq_getElem (by omega)⟩
    have hr1 := r_get hTI.r1 hm1
    have hr2 := r_get hTI.r2 hm2
    have hok1 := (hTI.ok1 m1 (List.mem_of_getElem? hm1)).toI
    have hok2 := hTI.ok2 m2 (List.mem_of_getElem? hm2)
    have hkey : ∀ (m : FM), m.OkI → (∀ k ∈ m.keys, 0 ≤ k ∧ k < (T : Int)) → m.kv.length ≤ 8796093022000 := fun m hm h => Nat.le_trans (keys_lenI hm h) (by omega)
    have hk1 := hkey m1 hok1 (fun k hk => by
      obtain ⟨h1, h2⟩ := (hTI.inn i k).1 ⟨m1, hm1, hk⟩
      obtain ⟨x, hx, hv⟩ := h2.rd
      exact ⟨(reads_ok (hf.all x hx) k hv).1, h1⟩)
    have hk2 := hkey m2 hok2 (fun k hk => by
      obtain ⟨h1, z, _, h2⟩ := (hTI.out i k).1 ⟨m2, hm2, hk⟩
      obtain ⟨x, hx, hv⟩ := h2.rd
      exact ⟨(reads_ok (hf.all x hx) k hv).1, h1⟩)
    have hvla : ma.vals.length = f.code.length := by rw [hma.len, srtAt_len hfl1 hi]
    have hala : ma.As.length = f.code.length := by rw [hma.alen, srtAt_len hfl1 hi]
    have hvlc : mc.vals.length = f.code.length := by rw [hmc.len, srtAt_len hfl2 hi]
    have halc : mc.As.length = f.code.length := by rw [hmc.alen, srtAt_len hfl2 hi]
    repeat' (first | refine g_pv rfl rfl ?_ | refine g_nil ?_ | refine gq_then ?_ | refine gc_seq ?_ | refine gc_region ?_ | refine gc_block ?_ | refine gc_skip ?_)
    refine gc_heap (R' := [Ai, Ao, [(b8, .cells ⟨[.slice (some ⟨gi, 0, none⟩) f.code.length f.code.length]⟩ 67 (0, 0))], m1.hl, m2.hl, ((fi0.map FM.hl).eraseIdx i).flatten, ((fo0.map FM.hl).eraseIdx i).flatten, ma.A0, ma.As.flatten, mc.A0, mc.As.flatten, [(b1, .cells ⟨f.cells⟩ 25 (0, 0))], [(gb, .cells ⟨f.cells ++ [nv, .slice adf mf.vals.length capf]⟩ 71 (0, 0))], mf.A0, mf.As.flatten, mr.A0, mr.As.flatten]) (fun w' H => hp_cnt (R := [ma.A0, ma.As.flatten, mc.A0, mc.As.flatten, [(b1, .cells ⟨f.cells⟩ 25 (0, 0))], [(b8, .cells ⟨[.slice (some ⟨gi, 0, none⟩) f.code.length f.code.length]⟩ 67 (0, 0))], Ai, Ao, mls fi0, mls fo0, [(gb, .cells ⟨f.cells ++ [nv, .slice adf mf.vals.length capf]⟩ 71 (0, 0))], mf.A0, mf.As.flatten, mr.A0, mr.As.flatten]) [] H (fun x => by
      have e1 := mls_cnt hm1 x
      have e2 := mls_cnt hm2 x
      simp only [List.cons_append, List.nil_append, List.flatten_append, List.flatten_cons, List.flatten_nil, List.count_append, List.count_cons, List.count_nil, List.append_nil]
      omega)) ?_
    refine gc_draw [Ai, Ao, [(b8, .cells ⟨[.slice (some ⟨gi, 0, none⟩) f.code.length f.code.length]⟩ 67 (0, 0))]] [m1.hl, m2.hl, ((fi0.map FM.hl).eraseIdx i).flatten, ((fo0.map FM.hl).eraseIdx i).flatten, ma.A0, ma.As.flatten, mc.A0, mc.As.flatten, [(b1, .cells ⟨f.cells⟩ 25 (0, 0))], [(gb, .cells ⟨f.cells ++ [nv, .slice adf mf.vals.length capf]⟩ 71 (0, 0))], mf.A0, mf.As.flatten, mr.A0, mr.As.flatten] rfl (List.Perm.refl _) ?_
    (refine ga_p 0 (by repeat first | exact NoP.sp | apply NoP.then | apply NoP.block) rfl (pv_spec rfl) rfl (by kernel_rfl) (by kernel_rfl) (by kernel_rfl) ?_); (refine ga_p 1 (by repeat first | exact NoP.sp | apply NoP.then | apply NoP.block) rfl (pv_spec rfl) rfl (by kernel_rfl) (by kernel_rfl) (by kernel_rfl) ?_); (refine ga_p 2 (by repeat first | exact NoP.sp | apply NoP.then | apply NoP.block) rfl (pv_spec rfl) rfl (by kernel_rfl) (by kernel_rfl) (by kernel_rfl) ?_); (refine ga_p 3 (by repeat first | exact NoP.sp | apply NoP.then | apply NoP.block) rfl (pv_spec rfl) rfl (by kernel_rfl) (by kernel_rfl) (by kernel_rfl) ?_); (refine ga_ld 4 2 (by repeat first | exact NoP.sp | apply NoP.then | apply NoP.block) rfl wanted_none rfl rfl rfl rfl rfl rfl (by kernel_rfl) (by kernel_rfl) (by kernel_rfl) ?_); (refine ga_p 5 (by repeat first | exact NoP.sp | apply NoP.then | apply NoP.block) rfl (pv_spec rfl) rfl (by kernel_rfl) (by kernel_rfl) (by kernel_rfl) ?_)
    refine ga_at 6 7 (l := rsi.map mref) (f := fV) (u := .map (some m1.r)) (by repeat first | exact NoP.sp | apply NoP.then | apply NoP.block) rfl wanted_none rfl (fun a _ => wanted_none a) rfl rfl rfl rfl rfl (Int.natCast_nonneg i) (by omega) (still_rd 0 rfl (fun _ => rfl) hoi rfl) hr1 rfl rfl rfl rfl (by kernel_rfl) (by kernel_rfl) (by kernel_rfl) (by kernel_rfl) (by kernel_rfl) (fun _ => ?_)
    (refine ga_p 9 (by repeat first | exact NoP.sp | apply NoP.then | apply NoP.block) rfl (pv_spec rfl) rfl (by kernel_rfl) (by kernel_rfl) (by kernel_rfl) ?_); (refine ga_p 10 (by repeat first | exact NoP.sp | apply NoP.then | apply NoP.block) rfl (pv_spec rfl) rfl (by kernel_rfl) (by kernel_rfl) (by kernel_rfl) ?_)
    refine ga_at 11 12 (l := rso.map mref) (f := fV) (u := .map (some m2.r)) (by repeat first | exact NoP.sp | apply NoP.then | apply NoP.block) rfl wanted_none rfl (fun a _ => wanted_none a) rfl rfl rfl rfl rfl (Int.natCast_nonneg i) (by omega) (still_rd 1 rfl (fun _ => rfl) hoo rfl) hr2 rfl rfl rfl rfl (by kernel_rfl) (by kernel_rfl) (by kernel_rfl) (by kernel_rfl) (by kernel_rfl) (fun _ => ?_)
    refine ga_one (i := 8) (by kernel_rfl) (gs_of rfl (fun K hK => ?_))
    refine g_heap (R' := [m1.hl, Ai, Ao, [(b8, .cells ⟨[.slice (some ⟨gi, 0, none⟩) f.code.length f.code.length]⟩ 67 (0, 0))], m2.hl, ((fi0.map FM.hl).eraseIdx i).flatten, ((fo0.map FM.hl).eraseIdx i).flatten, ma.A0, ma.As.flatten, mc.A0, mc.As.flatten, [(b1, .cells ⟨f.cells⟩ 25 (0, 0))], [(gb, .cells ⟨f.cells ++ [nv, .slice adf mf.vals.length capf]⟩ 71 (0, 0))], mf.A0, mf.As.flatten, mr.A0, mr.As.flatten]) (fun w' H => hp_pick 3 rfl H) ?_
    refine g_callA rfl rfl (Cl.of Try.func29 rfl rfl) rfl rfl (fun w' hE => rising_sp m1.r m1.es m1.clock m1.kv w' hok1.is (hp_eff hE) hk1) rfl ?_
    rintro ⟨v1, A1⟩ ho1
    dsimp only at ho1 ⊢
    refine g_heap (R' := [Ai, Ao, [(b8, .cells ⟨[.slice (some ⟨gi, 0, none⟩) f.code.length f.code.length]⟩ 67 (0, 0))], A1, m1.hl, m2.hl, ((fi0.map FM.hl).eraseIdx i).flatten, ((fo0.map FM.hl).eraseIdx i).flatten, ma.A0, ma.As.flatten, mc.A0, mc.As.flatten, [(b1, .cells ⟨f.cells⟩ 25 (0, 0))], [(gb, .cells ⟨f.cells ++ [nv, .slice adf mf.vals.length capf]⟩ 71 (0, 0))], mf.A0, mf.As.flatten, mr.A0, mr.As.flatten]) (fun w' H => hp_cnt (R := [A1, m1.hl, Ai, Ao, [(b8, .cells ⟨[.slice (some ⟨gi, 0, none⟩) f.code.length f.code.length]⟩ 67 (0, 0))], m2.hl, ((fi0.map FM.hl).eraseIdx i).flatten, ((fo0.map FM.hl).eraseIdx i).flatten, ma.A0, ma.As.flatten, mc.A0, mc.As.flatten, [(b1, .cells ⟨f.cells⟩ 25 (0, 0))], [(gb, .cells ⟨f.cells ++ [nv, .slice adf mf.vals.length capf]⟩ 71 (0, 0))], mf.A0, mf.As.flatten, mr.A0, mr.As.flatten]) [] H (fun a => by simp only [FM.hl, putC, Value.cells, List.cons_append, List.nil_append, List.set_cons_zero, List.set_cons_succ, List.flatten_append, List.flatten_cons, List.flatten_nil, List.count_append, List.count_cons, List.count_nil, List.append_nil, List.flatten_replicate_nil]; omega)) ?_
    refine g_nil ?_
    refine hK _ _ ⟨_, List.Perm.refl _⟩ ?_
    refine ga_one (i := 13) (by kernel_rfl) (gs_of rfl (fun K hK => ?_))
    refine g_heap (R' := [m2.hl, Ai, Ao, [(b8, .cells ⟨[.slice (some ⟨gi, 0, none⟩) f.code.length f.code.length]⟩ 67 (0, 0))], A1, m1.hl, ((fi0.map FM.hl).eraseIdx i).flatten, ((fo0.map FM.hl).eraseIdx i).flatten, ma.A0, ma.As.flatten, mc.A0, mc.As.flatten, [(b1, .cells ⟨f.cells⟩ 25 (0, 0))], [(gb, .cells ⟨f.cells ++ [nv, .slice adf mf.vals.length capf]⟩ 71 (0, 0))], mf.A0, mf.As.flatten, mr.A0, mr.As.flatten]) (fun w' H => hp_pick 5 rfl H) ?_
    refine g_callA rfl rfl (Cl.of Try.func29 rfl rfl) rfl rfl (fun w' hE => rising_sp m2.r m2.es m2.clock m2.kv w' hok2.is (hp_eff hE) hk2) rfl ?_
    rintro ⟨v2, A2⟩ ho2
    dsimp only at ho2 ⊢
    refine g_heap (R' := [Ai, Ao, [(b8, .cells ⟨[.slice (some ⟨gi, 0, none⟩) f.code.length f.code.length]⟩ 67 (0, 0))], A1, A2, m1.hl, m2.hl, ((fi0.map FM.hl).eraseIdx i).flatten, ((fo0.map FM.hl).eraseIdx i).flatten, ma.A0, ma.As.flatten, mc.A0, mc.As.flatten, [(b1, .cells ⟨f.cells⟩ 25 (0, 0))], [(gb, .cells ⟨f.cells ++ [nv, .slice adf mf.vals.length capf]⟩ 71 (0, 0))], mf.A0, mf.As.flatten, mr.A0, mr.As.flatten]) (fun w' H => hp_cnt (R := [A2, m2.hl, Ai, Ao, [(b8, .cells ⟨[.slice (some ⟨gi, 0, none⟩) f.code.length f.code.length]⟩ 67 (0, 0))], A1, m1.hl, ((fi0.map FM.hl).eraseIdx i).flatten, ((fo0.map FM.hl).eraseIdx i).flatten, ma.A0, ma.As.flatten, mc.A0, mc.As.flatten, [(b1, .cells ⟨f.cells⟩ 25 (0, 0))], [(gb, .cells ⟨f.cells ++ [nv, .slice adf mf.vals.length capf]⟩ 71 (0, 0))], mf.A0, mf.As.flatten, mr.A0, mr.As.flatten]) [] H (fun a => by simp only [FM.hl, putC, Value.cells, List.cons_append, List.nil_append, List.set_cons_zero, List.set_cons_succ, List.flatten_append, List.flatten_cons, List.flatten_nil, List.count_append, List.count_cons, List.count_nil, List.append_nil, List.flatten_replicate_nil]; omega)) ?_
    refine g_nil ?_
    refine hK _ _ ⟨_, List.Perm.refl _⟩ ?_
    refine ga_p 14 (by repeat first | exact NoP.sp | apply NoP.then | apply NoP.block) rfl (p_ix rfl rfl rfl rfl (Int.natCast_nonneg i) (by omega)) rfl (by kernel_rfl) (by kernel_rfl) (by kernel_rfl) ?_
    refine ga_one (i := 15) (by kernel_rfl) (gs_of rfl (fun K hK => ?_))
    refine g_stL 9 (f := fV) (q := v1) (i := i) rfl rfl rfl rfl hma.row (fun _ => rfl) (by simp) (by omega) ?_ ?_ (fun A0a hra => ?_)
    · obtain ⟨_, _, rfl, _⟩ := Own.shape ho1; rfl
    · obtain ⟨_, _, rfl, _⟩ := Own.shape ho1; rfl
    refine g_nil ?_
    refine hK _ _ ⟨_, List.Perm.refl _⟩ ?_
    refine ga_p 16 (by repeat first | exact NoP.sp | apply NoP.then | apply NoP.block) rfl (p_ix rfl rfl rfl rfl (Int.natCast_nonneg i) (by omega)) rfl (by kernel_rfl) (by kernel_rfl) (by kernel_rfl) ?_
    refine ga_one (i := 17) (by kernel_rfl) (gs_last rfl (by kernel_rfl) (by kernel_rfl) (fun K hK => ?_))
    refine g_stL 11 (f := fV) (q := v2) (i := i) rfl rfl rfl rfl hmc.row (fun _ => rfl) (by simp) (by omega) ?_ ?_ (fun A0c hrc => ?_)
    · obtain ⟨_, _, rfl, _⟩ := Own.shape ho2; rfl
    · obtain ⟨_, _, rfl, _⟩ := Own.shape ho2; rfl
    refine g_nil ?_
    refine hK _ _ ?_
    have hpa := hma.put (l := srt m1) ho1 hra
    have hpc := hmc.put (l := srt m2) ho2 hrc
    rw [srtAt_succ hfl1 hm1] at hpa
    rw [srtAt_succ hfl2 hm2] at hpc
    repeat' (first | refine g_pv rfl rfl ?_ | refine g_nil ?_ | refine gq_then ?_ | refine gc_region ?_ | refine gq_block ?_)
    refine gq_again (i + 1, ⟨A0a, ma.As.set i A1, ma.vals.set i v1⟩, ⟨A0c, mc.As.set i A2, mc.vals.set i v2⟩) ⟨hlt, hpa, hpc⟩ (by simp only; omega) ⟨rfl, rfl, rfl, rfl, rfl, rfl, rfl, rfl, inc_eq (by omega), trivial⟩ (fun w' H => hp_cnt (R := [Ai, Ao, [(b8, .cells ⟨[.slice (some ⟨gi, 0, none⟩) f.code.length f.code.length]⟩ 67 (0, 0))], A1, A2, m1.hl, m2.hl, ((fi0.map FM.hl).eraseIdx i).flatten, ((fo0.map FM.hl).eraseIdx i).flatten, A0a, ma.As.flatten, A0c, mc.As.flatten, [(b1, .cells ⟨f.cells⟩ 25 (0, 0))], [(gb, .cells ⟨f.cells ++ [nv, .slice adf mf.vals.length capf]⟩ 71 (0, 0))], mf.A0, mf.As.flatten, mr.A0, mr.As.flatten]) (ma.As[i]'(by omega) ++ mc.As[i]'(by omega)) H (fun x => ?_))
    have e1 := mls_cnt hm1 x
    have e2 := mls_cnt hm2 x
    have e3 := cnt_erase ma.As i (List.getElem?_eq_getElem (by omega)) x
    have e4 := cnt_erase mc.As i (List.getElem?_eq_getElem (by omega)) x
    have e5 := cnt_set ma.As i (B := A1) (by omega) x
    have e6 := cnt_set mc.As i (B := A2) (by omega) x
    simp only [List.cons_append, List.nil_append, List.flatten_append, List.flatten_cons, List.flatten_nil, List.count_append, List.count_cons, List.count_nil, List.append_nil]
    omega
  · have hie : i = f.code.length := by have := of_decide_eq_false hc; omega
    rw [hie, srtAt_all hfl1] at hma
    rw [hie, srtAt_all hfl2] at hmc
    repeat' (first | refine g_pv rfl rfl ?_ | refine g_nil ?_ | refine gq_then ?_ | refine gc_seq ?_ | refine gc_region ?_ | refine gc_exit ?_ | refine gc_ret ?_ | refine gq_then_exit ?_ | refine gq_block_exit ?_)
    refine gq_ret3 (.inr rfl) rfl rfl rfl rfl rfl (fun w' H => ⟨⟨_, _, ma, _, _, mc⟩, ⟨hma, hmc, ?_⟩, by simp [errOf, hr], hp_take 0 rfl (fun H => hp_take 0 rfl (fun H => hp_take 0 rfl (fun H => hp_take 0 rfl (fun H => hp_nil H) H) H) H) H⟩)
    rw [if_pos hr]
    refine ⟨by simp [hfl1], by simp [hfl2], fun i l hl => ?_, fun i l hl => ?_⟩
    · rw [List.getElem?_map] at hl
      cases hm : fi0[i]? with
      | none => rw [hm] at hl; cases hl
      | some m => rw [hm] at hl; cases hl; exact hmi i m hm
    · rw [List.getElem?_map] at hl
      cases hm : fo0[i]? with
      | none => rw [hm] at hl; cases hl
      | some m => rw [hm] at hl; cases hl; exact hmo i m hm
end Go.Proofs.Ytpmkkmahimdjkaa
