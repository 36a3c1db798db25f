/-
  The document's Idom and Loops.
  The document's Depth.
  What is asked for (plain); flow.Live's ahead.
-/
import Derived.Test.YtpmkkmahimdjkaaZ16

/- The document's Idom and Loops. -/
namespace Go.Proofs.Ytpmkkmahimdjkaa
open Go.Wk
set_option linter.unusedVariables false
set_option linter.unusedSimpArgs false
attribute [local irreducible] G GC GQ GA GS Exit.then Exit.inBlock

theorem ridomT_sp (f : TF) (w : World) (hf : CodeIn (hw w) f.cA f.code) :
    Sp Try.prog 19 [f.val] w [] (fun y : Value × HL => .tuple #[y.1, .int .i64 (errOf f)]) (fun y => [y.2]) (IdomAns f) := by
  refine enter (s := Try.sx) [] Try.func19 rfl rfl rfl (Eff.refl w) ?_
  repeat' (first | refine g_pv rfl rfl ?_ | refine g_ld 0 rfl rfl rfl rfl rfl rfl ?_ | refine g_nil ?_ | refine gq_then ?_ | refine gc_seq ?_ | refine gc_region ?_ | refine g_box rfl rfl (fun _ => ?_))
  refine g_call rfl (Cl.of Try.func24 rfl rfl) rfl rfl (fun w' hE => right_sp f w' (hf.le (fun b o h => old_le hE b o (old_le0 _ w b o h)))) rfl ?_
  rintro ⟨⟩ -
  repeat' (first | refine g_pv rfl rfl ?_ | refine g_nil ?_ | refine gq_then ?_)
  cases hr : f.right with
  | false =>
    repeat' (first | refine g_pv rfl rfl ?_ | refine g_nil ?_ | refine gq_then ?_ | refine gc_seq ?_ | refine gc_region ?_ | refine gc_cond_t rfl ?_ | refine gc_ret ?_ | refine gq_then_ret ?_)
    exact gq_ret2 (.inr rfl) rfl rfl rfl rfl (fun w' H => ⟨(.slice none 0 0, []), ⟨[], OwnL.nil _ _ _, by simp [hr]⟩, by simp [errOf, hr], hp_perm (hp_nil H) (by simp)⟩)
  | true =>
    obtain ⟨hn1, hn2, _, _⟩ := TF.right_n hr
    repeat' (first | refine g_ld 0 rfl rfl rfl rfl rfl rfl ?_ | refine gq_then ?_ | refine gc_seq ?_ | refine gc_region ?_ | refine gc_cond_f rfl ?_ | refine gc_skip ?_)
    refine g_call rfl (Cl.of Try.func32 rfl rfl) rfl rfl (fun w' hE => edges_sp f w' (hf.le (fun b o h => old_le hE b o (old_le0 _ w b o h))) hn2) rfl ?_
    rintro ⟨vn, mn⟩ hmn
    dsimp only at hmn ⊢
    refine g_call rfl (Cl.of Try.func40 rfl rfl) rfl rfl (fun w' hE => ridom_sp f.code vn w' (hmn.rd (hp_in hE 0 rfl) (hp_in hE 1 rfl)) hn1 hn2) rfl ?_
    rintro ⟨v2, A2, xs⟩ ⟨ho2, hid⟩
    repeat' (first | refine g_pv rfl rfl ?_ | refine g_nil ?_ | refine gq_then ?_ | refine gc_ret ?_)
    exact gq_ret2 (.inr rfl) rfl rfl rfl rfl (fun w' H => ⟨(v2, A2), ⟨_, ho2, by rw [if_pos hr]; exact hid⟩, by simp [errOf, hr], hp_take 0 rfl (fun H => hp_nil H) H⟩)

theorem IsSet.push {l : List Int} {S : Nat → Prop} {b : Nat} (h : IsSet l (fun u => u < b ∧ S u)) (hb : S b) : IsSet (l ++ [(b : Int)]) (fun u => u < b + 1 ∧ S u) := by
  refine ⟨?_, fun v => ?_⟩
  · rw [List.pairwise_append]
    refine ⟨h.1, by simp, fun x hx y hy => ?_⟩
    obtain ⟨u, rfl, hu, _⟩ := (h.2 x).1 hx
    simp at hy; omega
  · rw [List.mem_append, h.2]
    constructor
    · rintro (⟨u, h1, h2, h3⟩ | h1)
      · exact ⟨u, h1, by omega, h3⟩
      · simp at h1; exact ⟨b, h1, by omega, hb⟩
    · rintro ⟨u, h1, h2, h3⟩
      by_cases hu : u = b
      · subst hu; exact .inr (by simp [h1])
      · exact .inl ⟨u, h1, by omega, h3⟩
theorem IsSet.pass {l : List Int} {S : Nat → Prop} {b : Nat} (h : IsSet l (fun u => u < b ∧ S u)) (hb : ¬ S b) : IsSet l (fun u => u < b + 1 ∧ S u) :=
  h.congr (fun u => ⟨fun ⟨h1, h2⟩ => ⟨by omega, h2⟩, fun ⟨h1, h2⟩ => ⟨(Nat.lt_or_eq_of_le (Nat.le_of_lt_succ h1)).elim id (fun h3 => absurd (by rw [← h3]; exact h2) hb), h2⟩⟩)
structure RLs where
  vh : Value
  hl : List Int
  Ah : HL
  vl : Value
  ll : List (List Int)
  m : LM
structure RLInv (es : Nat → List Int) (b : Nat) (y : RLs) : Prop where
  oh : OwnI y.vh y.hl y.Ah
  ol : OwnLL y.vl y.ll y.m
  hs : IsSet y.hl (fun u => u < b ∧ HeadP es u)
  len : y.ll.length = y.hl.length
  row : ∀ (i c : Nat) l, y.hl[i]? = some (c : Int) → y.ll[i]? = some l → IsSet l (InLoop es c)
/-- Of the first k of row: those that lead back to b. -/
def Bk (es : Nat → List Int) (row : List Int) (b k a : Nat) : Prop := (a : Int) ∈ row.take k ∧ R0 es a ∧ Dm es b a
theorem Bk.succ {es : Nat → List Int} {row : List Int} {b k x : Nat} (hx : row[k]? = some (x : Int)) (a : Nat) : Bk es row b (k + 1) a ↔ Bk es row b k a ∨ (a = x ∧ R0 es x ∧ Dm es b x) := by
  unfold Bk
  rw [List.take_add_one, hx]
  simp only [Option.toList_some, List.mem_append, List.mem_singleton]
  constructor
  · rintro ⟨h1 | h1, h2, h3⟩
    · exact .inl ⟨h1, h2, h3⟩
    · have : a = x := by omega
      subst this; exact .inr ⟨rfl, h2, h3⟩
  · rintro (⟨h1, h2, h3⟩ | ⟨rfl, h2, h3⟩)
    · exact ⟨.inl h1, h2, h3⟩
    · exact ⟨.inr rfl, h2, h3⟩
structure BSt where
  bs : List Bool
  A : HL
  some' : Bool
abbrev esb (code : List Ins) (b : Nat) : Nat → List Int := fun u => (frOf code u).filter fun k => decide (k ≠ (b : Int))
structure BInv (code : List Ins) (row : List Int) (g b k : Nat) (y : BSt) : Prop where
  o : OwnL 4 1 fB (.slice (some ⟨g, 0, none⟩) code.length code.length) y.bs y.A
  len : y.bs.length = code.length
  mk2 : ∀ u, u < code.length → (mk' y.bs u ↔ u = b ∨ ∃ a, Bk (nxt code) row b k a ∧ a ≠ b ∧ Rch (esb code b) [(a : Int)] u)
  sm : y.some' = true ↔ ∃ a, Bk (nxt code) row b k a
theorem or_getD (bs ls : List Bool) (i u : Nat) (h : i < bs.length) : mk' (bs.set i (bs.getD i false || ls.getD i false)) u ↔ mk' bs u ∨ (u = i ∧ mk' ls u) := by
  unfold mk'
  by_cases hu : u = i
  · subst hu
    rw [show (bs.set u (bs.getD u false || ls.getD u false)).getD u false = (bs.getD u false || ls.getD u false) from by simp only [List.getD, List.getElem?_set_self h, Option.getD_some]]
    simp
  · rw [show (bs.set i (bs.getD i false || ls.getD i false)).getD u false = bs.getD u false from by simp only [List.getD, List.getElem?_set_ne (Ne.symm hu)]]
    simp [hu]

set_option maxHeartbeats 32000000 in
theorem rloopsT_sp (f : TF) (w : World) (hf : CodeIn (hw w) f.cA f.code) :
    Sp Try.prog 21 [f.val] w [] (fun y : LA => .tuple #[y.v, y.vl, .int .i64 (errOf f)]) (fun y => [y.A, y.m.A0, y.m.As.flatten]) (LoopsAns f) := by
  refine enter (s := Try.sx) [] Try.func21 rfl rfl rfl (Eff.refl w) ?_
  repeat' (first | refine g_pv rfl rfl ?_ | refine g_ld 0 rfl rfl rfl rfl rfl rfl ?_ | refine g_nil ?_ | refine gq_then ?_ | refine gc_seq ?_ | refine gc_region ?_ | refine g_box rfl rfl (fun _ => ?_))
  rename_i b1
  refine g_call rfl (Cl.of Try.func24 rfl rfl) rfl rfl (fun w' hE => right_sp f w' (hf.le (fun b o h => old_le hE b o (old_le0 _ w b o h)))) rfl ?_
  rintro ⟨⟩ -
  repeat' (first | refine g_pv rfl rfl ?_ | refine g_nil ?_ | refine gq_then ?_)
  cases hr : f.right with
  | false =>
    repeat' (first | refine g_pv rfl rfl ?_ | refine g_nil ?_ | refine gq_then ?_ | refine gc_seq ?_ | refine gc_region ?_ | refine gc_cond_t rfl ?_ | refine gc_ret ?_ | refine gq_then_ret ?_)
    exact gq_ret3 (.inr rfl) rfl rfl rfl rfl rfl (fun w' H => ⟨⟨.slice none 0 0, [], [], .slice none 0 0, [], ⟨[], [], []⟩⟩, ⟨OwnL.nil _ _ _, ownLL_nil, by simp [hr]⟩, by simp [errOf, hr], hp_perm (hp_nil H) (by simp)⟩)
  | true =>
    obtain ⟨hn1, hn2, _, _⟩ := TF.right_n hr
    have F := frOf_fr f.code hn1
    have hnl := nexts_length f.code
    have hfl : (fromsAt f.code f.code.length).length = f.code.length := fromsAt_length _ _
    repeat' (first | refine g_ld 0 rfl rfl rfl rfl rfl rfl ?_ | refine gq_then ?_ | refine gc_seq ?_ | refine gc_region ?_ | refine gc_cond_f rfl ?_ | refine gc_skip ?_)
    refine g_call rfl (Cl.of Try.func32 rfl rfl) rfl rfl (fun w' hE => edges_sp f w' (hf.le (fun b o h => old_le hE b o (old_le0 _ w b o h))) hn2) rfl ?_
    rintro ⟨vn, mn⟩ hmn
    dsimp only at hmn ⊢
    repeat' (first | refine g_pv rfl rfl ?_ | refine g_nil ?_ | refine gq_then ?_ | refine gc_seq ?_ | refine gc_region ?_)
    refine g_call rfl (Cl.of Try.func40 rfl rfl) rfl rfl (fun w' hE => ridom_sp f.code vn w' (hmn.rd (hp_in hE 0 rfl) (hp_in hE 1 rfl)) hn1 hn2) rfl ?_
    rintro ⟨vd, Ad, xs⟩ ⟨hod, hid⟩
    dsimp only at hod hid ⊢
    obtain ⟨num, M, N, hMn⟩ := hid.num
    repeat' (first | refine g_pv rfl rfl ?_ | refine g_nil ?_ | refine gq_then ?_ | refine gc_seq ?_ | refine gc_region ?_)
    refine g_call rfl (Cl.of Try.func42 rfl rfl) rfl rfl (fun w' hE => back_sp f.code vn w' (hmn.rd (hp_in hE 1 rfl) (hp_in hE 2 rfl)) hn2) rfl ?_
    rintro ⟨v7, m7⟩ hm7
    dsimp only at hm7 ⊢
    repeat' (first | refine g_pv rfl rfl ?_ | refine g_nil ?_ | refine gq_then ?_ | refine gc_seq ?_ | refine gc_region ?_)
    refine g_call rfl (Cl.of Try.func26 rfl rfl) rfl rfl (fun w' hE => flood_sp (nexts f.code f.code.length) vn 0 (-1) w' (hmn.rd (hp_in hE 3 rfl) (hp_in hE 4 rfl)) (nexts_in f.code) (by omega) (by omega) (nexts_lens f.code)) rfl ?_
    rintro ⟨g8, on, A8⟩ ⟨hnl8, ho8, hon⟩
    dsimp only at hnl8 ho8 hon ⊢
    have hnn := hmn.len
    obtain ⟨adn, capn, rfl, _⟩ := Own.shape hmn.row
    rw [hnl] at hnn
    have hv7 := hm7.len
    obtain ⟨ad7, cap7, rfl, _⟩ := Own.shape hm7.row
    rw [esw_nexts, show srcw 0 (-1) = [0] from rfl, hnl] at hon
    rw [hnl] at hnl8
    have ho8' : OwnL 4 1 fB (.slice (some ⟨g8, 0, none⟩) f.code.length f.code.length) on A8 := by rw [hnl] at ho8; exact ho8
    repeat' (first | refine g_pv rfl rfl ?_ | refine g_nil ?_ | refine gq_then ?_ | refine gc_seq ?_ | refine gc_region ?_ | refine gc_block ?_)
    refine gc_eq 8 (u' := .slice (some ⟨g8, 0, none⟩) f.code.length f.code.length) rfl (by rw [hnl]) ?_
    refine gc_loop (Y := Nat × RLs) (fun y => y.1 ≤ f.code.length ∧ RLInv (nxt f.code) y.1 y.2)
      (fun y => [(5, .slice adn mn.vals.length capn), (6, vd), (7, .slice ad7 m7.vals.length cap7), (8, .slice (some ⟨g8, 0, none⟩) f.code.length f.code.length), (9, y.2.vh), (10, y.2.vl), (11, .int .i64 y.1)]) (fun y => [y.2.Ah, y.2.m.A0, y.2.m.As.flatten, A8, m7.A0, m7.As.flatten, Ad])
      (fun y => f.code.length - y.1) (0, ⟨.slice none 0 0, [], [], .slice none 0 0, [], ⟨[], [], []⟩⟩) ⟨Nat.zero_le _, OwnL.nil _ _ _, ownLL_nil, ⟨List.Pairwise.nil, fun v => ⟨fun h => (by cases h), fun ⟨u, _, h, _⟩ => (by omega)⟩⟩, rfl, fun i c l h => by simp at h⟩ ⟨rfl, rfl, rfl, rfl, rfl, rfl, rfl, trivial⟩
      (fun w' H => hp_cnt (R := [A8, m7.A0, m7.As.flatten, Ad, mn.A0, mn.As.flatten, [(b1, .cells ⟨f.cells⟩ 25 (0, 0))]]) (mn.A0 ++ mn.As.flatten ++ [(b1, .cells ⟨f.cells⟩ 25 (0, 0))]) H (fun a => by simp only [FM.hl, putC, Value.cells, List.cons_append, List.nil_append, List.set_cons_zero, List.set_cons_succ, List.flatten_append, List.flatten_cons, List.flatten_nil, List.count_append, List.count_cons, List.count_nil, List.append_nil, List.flatten_replicate_nil]; omega)) ?_
    rintro ⟨b, ⟨vh, hl, Ah, vl, ll, m⟩⟩ ⟨hb, hI⟩
    try dsimp only at hb hI ⊢
    repeat' (first | refine g_pv rfl rfl ?_ | refine g_nil ?_ | refine gq_then ?_ | refine gc_seq ?_ | refine gc_region ?_)
    refine gc_condC rfl (fun hc => ?_) (fun hc => ?_)
    · have hlt : b < f.code.length := by have := of_decide_eq_true hc; omega
      repeat' (first | refine g_pv rfl rfl ?_ | refine gq_then ?_ | refine gc_seq ?_ | refine gc_region ?_ | refine gc_block ?_ | refine gc_skip ?_)
      refine g_eq 36 (u' := .int .i64 (f.code.length : Int)) rfl (by rw [hnn]) ?_
      refine g_make (n := f.code.length) (c := f.code.length) rfl rfl rfl rfl rfl (Nat.le_refl _) (by show 1 * _ ≤ _; omega) (by omega) rfl (fun g => ?_)
      have hob0 := own_bools g f.code.length (by unfold maxLen; omega)
      repeat' (first | refine g_pv rfl rfl ?_ | refine g_nil ?_ | refine gq_then ?_ | refine gc_seq ?_ | refine gc_region ?_)
      refine g_setL 0 (f := fB) (q := true) rfl rfl hob0 (fun _ => rfl) rfl rfl rfl rfl (Int.natCast_nonneg b) (by simp; omega) rfl rfl rfl rfl rfl (fun _ A1 ho1 => ?_)
      rw [Int.toNat_natCast] at ho1
      obtain ⟨u, a7, hu, ha7, hoa⟩ := hm7.get (i := b) (by omega)
      have hfv : (fromsAt f.code f.code.length)[b]'(by omega) = frOf f.code b := Option.some.inj ((List.getElem?_eq_getElem (by omega)).symm.trans (fromsOf_get f.code b hlt))
      rw [hfv] at hoa
      obtain ⟨uad, ucap, rfl, _⟩ := Own.shape hoa
      have hrow := F.nn b
      have hrlen := froms_len f.code b
      have hlt2 := fun p => frOf_lt f.code b p
      have hrmem := fun x => frOf_mem f.code b x
      generalize hrw : frOf f.code b = row at hoa hrow hrlen hlt2 hu hrmem
      have hrd : ∀ {X : Cx} {R : RL} (w' : World), R[6]? = some m7.As.flatten → Hp X w' R → Rd (hw w') fI 1 uad row := fun {X R} w' hR H => by
        obtain ⟨ad', cap', he, hrd⟩ := OwnL.rd (f := fI) (fun _ => rfl) hoa (H := hw w') (fun b o hb' => hp_in H 6 hR b o (List.mem_flatten.2 ⟨a7, List.mem_of_getElem? ha7, hb'⟩))
        have he' := (Value.slice.inj he).1
        subst he'; exact hrd
      repeat' (first | refine g_pv rfl rfl ?_ | refine g_nil ?_ | refine gq_then ?_ | refine gc_seq ?_ | refine gc_region ?_ | refine gc_block ?_)
      refine gc_loop (Y := Nat × BSt) (fun y => y.1 ≤ row.length ∧ BInv f.code row g b y.1 y.2)
        (fun y => [(5, .slice adn mn.vals.length capn), (6, vd), (7, .slice ad7 m7.vals.length cap7), (8, .slice (some ⟨g8, 0, none⟩) f.code.length f.code.length), (9, vh), (10, vl), (11, .int .i64 b), (12, .slice (some ⟨g, 0, none⟩) f.code.length f.code.length), (13, .bool y.2.some'), (14, .int .i64 y.1)]) (fun y => [y.2.A, Ah, m.A0, m.As.flatten, A8, m7.A0, m7.As.flatten, Ad])
        (fun y => row.length - y.1) (0, ⟨_, A1, false⟩) ⟨Nat.zero_le _, ho1, by simp, fun u hu => ?_, ⟨fun h => (by cases h), fun ⟨a, h, _⟩ => (by simp at h)⟩⟩ ⟨rfl, rfl, rfl, rfl, rfl, rfl, rfl, rfl, rfl, rfl, trivial⟩ (fun w' H => H) ?_
      · rw [mk_set (by simp; omega)]
        constructor
        · rintro (h | h)
          · exact .inl h
          · simp [mk', List.getD, List.getElem?_replicate, hu] at h
        · rintro (h | ⟨a, ⟨h, _⟩, _⟩)
          · exact .inl h
          · simp at h
      rintro ⟨k, ⟨ins, A12, sm⟩⟩ ⟨hk, hB⟩
      try dsimp only at hk hB ⊢
      have hoi : OwnL 4 1 fB (.slice (some ⟨g, 0, none⟩) f.code.length f.code.length) ins A12 := hB.o
      have hil : ins.length = f.code.length := hB.len
      repeat' (first | refine g_pv rfl rfl ?_ | refine gc_seq ?_ | refine gc_region ?_)
      refine g_atL 5 (f := fV) (q := .slice uad row.length ucap) rfl rfl hm7.row (fun _ => rfl) rfl rfl rfl rfl (Int.natCast_nonneg b) (by simpa using hu) rfl rfl rfl (fun _ => ?_)
      repeat' (first | refine g_pv rfl rfl ?_ | refine g_nil ?_ | refine gq_then ?_)
      refine gc_condC rfl (fun hc2 => ?_) (fun hc2 => ?_)
      · have hklt : k < row.length := by have := of_decide_eq_true hc2; omega
        have hpk : row[k]? = some row[k] := List.getElem?_eq_getElem hklt
        have hp0 := hrow _ (List.getElem_mem hklt)
        generalize row[k] = p at hpk hp0
        obtain ⟨a, rfl⟩ : ∃ a : Nat, p = a := ⟨p.toNat, by omega⟩
        have han := hlt2 a (List.mem_of_getElem? hpk)
        have hbk := Bk.succ (es := nxt f.code) (b := b) hpk
        have hona : on[a]? = some (on.getD a false) := getD_some (by omega)
        repeat' (first | refine g_pv rfl rfl ?_ | refine gq_then ?_ | refine gc_seq ?_ | refine gc_region ?_ | refine gc_block ?_ | refine gc_skip ?_)
        refine g_atL 5 (f := fV) (q := .slice uad row.length ucap) rfl rfl hm7.row (fun _ => rfl) rfl rfl rfl rfl (Int.natCast_nonneg b) (by simpa using hu) rfl rfl rfl (fun _ => ?_)
        repeat' (refine g_pv rfl rfl ?_)
        refine g_atG (l := row) (f := fI) (u := (a : Int)) rfl rfl rfl rfl rfl (Int.natCast_nonneg k) (by omega) (fun w' H => hrd w' rfl H) hpk rfl rfl rfl rfl (fun _ => ?_)
        repeat' (first | refine g_pv rfl rfl ?_ | refine g_nil ?_ | refine gq_then ?_ | refine gc_seq ?_ | refine gc_region ?_)
        refine g_atL 4 (f := fB) (q := on.getD a false) rfl rfl ho8' (fun _ => rfl) rfl rfl rfl rfl (Int.natCast_nonneg a) (by simpa using hona) rfl rfl rfl (fun _ => ?_)
        repeat' (refine g_pv rfl rfl ?_)
        have hskip : ¬ (R0 (nxt f.code) a ∧ Dm (nxt f.code) b a) → BInv f.code row g b (k + 1) ⟨ins, A12, sm⟩ := fun hno => by
          have e : ∀ a', Bk (nxt f.code) row b (k + 1) a' ↔ Bk (nxt f.code) row b k a' := fun a' => by
            rw [hbk]
            exact ⟨fun h => h.elim id (fun ⟨_, h⟩ => absurd h hno), .inl⟩
          exact ⟨hoi, hil, fun u hu => by rw [hB.mk2 u hu]; simp only [e], by rw [hB.sm]; simp only [e]⟩
        refine g_case (t := 62) rfl (fun h => ?_) (fun h => ?_)
        · have hnr : ¬ R0 (nxt f.code) a := fun h2 => by
            have := (hon a han).2 h2
            unfold mk' at this; rw [this] at h; cases h
          repeat' (first | refine g_pv rfl rfl ?_ | refine g_nil ?_ | refine gq_then ?_ | refine gc_region ?_ | refine gc_cond_t rfl ?_ | refine gc_exit ?_ | refine gq_then_exit ?_ | refine gq_block_exit ?_ | refine g_no rfl rfl rfl rfl rfl ?_)
          exact gq_again (k + 1, ⟨ins, A12, sm⟩) ⟨hklt, hskip (fun h => hnr h.1)⟩ (by simp only; omega) ⟨rfl, rfl, rfl, rfl, rfl, rfl, rfl, rfl, rfl, inc_eq (by omega), trivial⟩ (fun w' H => H)
        have har : R0 (nxt f.code) a := (hon a han).1 (by unfold mk'; simpa using h)
        repeat' (first | refine g_pv rfl rfl ?_ | refine g_yes rfl rfl rfl ?_)
        refine g_call rfl (Cl.of Try.func43 rfl rfl) rfl rfl (fun w' hE => rover_sp N hid F.lt b a vd w' (OwnI.rd hod (hp_in hE 7 rfl)) har) rfl ?_
        rintro yb hyb
        repeat' (first | refine g_pv rfl rfl ?_ | refine g_nil ?_ | refine gq_then ?_ | refine g_yes rfl rfl rfl ?_)
        refine gc_condC rfl (fun hq => ?_) (fun hq => ?_)
        · have hnd : ¬ Dm (nxt f.code) b a := fun h2 => by rw [hyb.2 h2] at hq; cases hq
          repeat' (first | refine g_pv rfl rfl ?_ | refine g_nil ?_ | refine gq_then ?_ | refine gc_region ?_ | refine gc_exit ?_ | refine gq_then_exit ?_ | refine gq_block_exit ?_)
          exact gq_again (k + 1, ⟨ins, A12, sm⟩) ⟨hklt, hskip (fun h => hnd h.2)⟩ (by simp only; omega) ⟨rfl, rfl, rfl, rfl, rfl, rfl, rfl, rfl, rfl, inc_eq (by omega), trivial⟩ (fun w' H => H)
        have hdm : Dm (nxt f.code) b a := hyb.1 (by simpa using hq)
        repeat' (first | refine g_pv rfl rfl ?_ | refine g_nil ?_ | refine gq_then ?_ | refine gc_seq ?_ | refine gc_region ?_ | refine gc_skip ?_)
        refine gc_condC rfl (fun hq2 => ?_) (fun hq2 => ?_)
        · have hab : a = b := by have : (a : Int) = b := by simpa using hq2
                                 omega
          repeat' (first | refine g_pv rfl rfl ?_ | refine g_nil ?_ | refine gq_then ?_ | refine gc_region ?_ | refine gc_exit ?_ | refine gq_then_exit ?_ | refine gq_block_exit ?_)
          refine gq_again (k + 1, ⟨ins, A12, true⟩) ⟨hklt, hoi, hil, fun u hu => ?_, ⟨fun _ => ⟨a, (hbk a).2 (.inr ⟨rfl, har, hdm⟩)⟩, fun _ => rfl⟩⟩ (by simp only; omega) ⟨rfl, rfl, rfl, rfl, rfl, rfl, rfl, rfl, rfl, inc_eq (by omega), trivial⟩ (fun w' H => H)
          refine (hB.mk2 u hu).trans ⟨fun h => h.imp id (fun ⟨a', h1, h2⟩ => ⟨a', (hbk a').2 (.inl h1), h2⟩), fun h => h.imp id (fun ⟨a', h1, h2, h3⟩ => ?_)⟩
          rcases (hbk a').1 h1 with h4 | ⟨h4, _⟩
          · exact ⟨a', h4, h2, h3⟩
          · subst h4; exact absurd hab h2
        have hab : a ≠ b := fun h => by subst h; simp at hq2
        repeat' (first | refine g_pv rfl rfl ?_ | refine gq_then ?_ | refine gc_seq ?_ | refine gc_region ?_ | refine gc_skip ?_)
        refine g_call rfl (Cl.of Try.func26 rfl rfl) rfl rfl (fun w' hE => flood_sp (fromsAt f.code f.code.length) _ a (b : Int) w' ?_ (fun l hl' => ?_) (by omega) (by omega) (fun l hl' => ?_)) rfl ?_
        · rw [← hm7.len] at hfl; have := hm7.rd (hp_in hE 5 rfl) (hp_in hE 6 rfl); exact this
        · intro x hx
          obtain ⟨i, hi, rfl⟩ := List.mem_iff_getElem.1 hl'
          rw [hfl] at hi
          have hfi : (fromsAt f.code f.code.length)[i]'(by omega) = frOf f.code i := Option.some.inj ((List.getElem?_eq_getElem (by omega)).symm.trans (fromsOf_get f.code i hi))
          rw [hfi] at hx
          have h0 := F.nn i x hx
          have := frOf_lt f.code i x.toNat (by rw [Int.toNat_of_nonneg h0]; exact hx)
          rw [hfl]; omega
        · have := lens_froms f.code f.code.length l hl'
          omega
        rintro ⟨g16, fl, A16⟩ ⟨hfll, hofl, hflm⟩
        dsimp only at hfll hofl hflm ⊢
        rw [hfl] at hfll hflm
        have hofl' : OwnL 4 1 fB (.slice (some ⟨g16, 0, none⟩) f.code.length f.code.length) fl A16 := by rw [hfl] at hofl; exact hofl
        repeat' (first | refine g_pv rfl rfl ?_ | refine g_nil ?_ | refine gq_then ?_ | refine gc_seq ?_ | refine gc_region ?_ | refine gc_block ?_)
        refine gc_eq 16 (u' := .slice (some ⟨g16, 0, none⟩) f.code.length f.code.length) rfl (by rw [hfl]) ?_
        refine gc_loop (Y := Nat × List Bool × HL) (fun y => y.1 ≤ f.code.length ∧ y.2.1.length = f.code.length ∧ OwnL 4 1 fB (.slice (some ⟨g, 0, none⟩) f.code.length f.code.length) y.2.1 y.2.2 ∧ ∀ u, mk' y.2.1 u ↔ mk' ins u ∨ (u < y.1 ∧ mk' fl u))
          (fun y => [(5, .slice adn mn.vals.length capn), (6, vd), (7, .slice ad7 m7.vals.length cap7), (8, .slice (some ⟨g8, 0, none⟩) f.code.length f.code.length), (9, vh), (10, vl), (11, .int .i64 b), (12, .slice (some ⟨g, 0, none⟩) f.code.length f.code.length), (13, .bool true), (14, .int .i64 k), (16, .slice (some ⟨g16, 0, none⟩) f.code.length f.code.length), (17, .int .i64 y.1)]) (fun y => [A16, y.2.2, Ah, m.A0, m.As.flatten, A8, m7.A0, m7.As.flatten, Ad])
          (fun y => f.code.length - y.1) (0, ins, A12) ⟨Nat.zero_le _, hil, hoi, fun u => ⟨.inl, fun h => h.elim id (fun h => (by omega))⟩⟩ ⟨rfl, rfl, rfl, rfl, rfl, rfl, rfl, rfl, rfl, rfl, rfl, rfl, trivial⟩ (fun w' H => H) ?_
        rintro ⟨q, ins2, A13⟩ ⟨hq3, hil2, hoi2, him⟩
        try dsimp only at hq3 hil2 hoi2 him ⊢
        repeat' (first | refine g_pv rfl rfl ?_ | refine g_nil ?_ | refine gq_then ?_ | refine gc_seq ?_ | refine gc_region ?_)
        refine gc_condC rfl (fun hc4 => ?_) (fun hc4 => ?_)
        · have hqlt : q < f.code.length := by have := of_decide_eq_true hc4; omega
          have hi2 : ins2[q]? = some (ins2.getD q false) := getD_some (by omega)
          have hf2 : fl[q]? = some (fl.getD q false) := getD_some (by omega)
          have hor := or_getD ins2 fl q
          have hfin : ∀ {z : Bool}, z = (ins2.getD q false || fl.getD q false) → ∀ u, mk' (ins2.set q z) u ↔ mk' ins u ∨ (u < q + 1 ∧ mk' fl u) := fun hz u => by
            rw [hz, hor u (by omega), him]
            constructor
            · rintro ((h | ⟨h1, h2⟩) | ⟨h1, h2⟩)
              · exact .inl h
              · exact .inr ⟨by omega, h2⟩
              · exact .inr ⟨by omega, h2⟩
            · rintro (h | ⟨h1, h2⟩)
              · exact .inl (.inl h)
              · by_cases huq : u = q
                · exact .inr ⟨huq, h2⟩
                · exact .inl (.inr ⟨by omega, h2⟩)
          repeat' (first | refine g_pv rfl rfl ?_ | refine gq_then ?_ | refine gc_seq ?_ | refine gc_region ?_ | refine gc_block ?_ | refine gc_skip ?_)
          refine g_atL 1 (f := fB) (q := ins2.getD q false) rfl rfl hoi2 (fun _ => rfl) rfl rfl rfl rfl (Int.natCast_nonneg q) (by simpa using hi2) rfl rfl rfl (fun _ => ?_)
          repeat' (refine g_pv rfl rfl ?_)
          refine g_case (t := 88) rfl (fun h5 => ?_) (fun h5 => ?_)
          · repeat' (first | refine g_pv rfl rfl ?_ | refine g_no rfl rfl rfl rfl rfl ?_)
            refine g_setL 1 (f := fB) (q := true) rfl rfl hoi2 (fun _ => rfl) rfl rfl rfl rfl (Int.natCast_nonneg q) (by omega) rfl rfl rfl rfl rfl (fun _ A14 ho14 => ?_)
            rw [Int.toNat_natCast] at ho14
            repeat' (first | refine g_pv rfl rfl ?_ | refine g_nil ?_ | refine gq_then ?_ | refine gc_region ?_ | refine gq_block ?_)
            exact gq_again (q + 1, ins2.set q true, A14) ⟨hqlt, by simpa using hil2, ho14, hfin (by rw [h5]; rfl)⟩ (by simp only; omega) ⟨rfl, rfl, rfl, rfl, rfl, rfl, rfl, rfl, rfl, rfl, rfl, inc_eq (by omega), trivial⟩ (fun w' H => H)
          · repeat' (first | refine g_pv rfl rfl ?_ | refine g_yes rfl rfl rfl ?_)
            refine g_ix rfl rfl rfl rfl (Int.natCast_nonneg q) (by omega) rfl ?_
            repeat' (refine g_yes rfl rfl rfl ?_)
            refine g_ldL 0 (f := fB) (i := q) rfl rfl rfl hofl' (fun _ => rfl) (by simp) hf2 rfl rfl ?_
            repeat' (refine g_pv rfl rfl ?_)
            refine g_setL 1 (f := fB) (q := fl.getD q false) rfl rfl hoi2 (fun _ => rfl) rfl rfl rfl rfl (Int.natCast_nonneg q) (by omega) rfl rfl rfl rfl rfl (fun _ A14 ho14 => ?_)
            rw [Int.toNat_natCast] at ho14
            repeat' (first | refine g_pv rfl rfl ?_ | refine g_nil ?_ | refine gq_then ?_ | refine gc_region ?_ | refine gq_block ?_)
            exact gq_again (q + 1, ins2.set q (fl.getD q false), A14) ⟨hqlt, by simpa using hil2, ho14, hfin (by rw [h5]; rfl)⟩ (by simp only; omega) ⟨rfl, rfl, rfl, rfl, rfl, rfl, rfl, rfl, rfl, rfl, rfl, inc_eq (by omega), trivial⟩ (fun w' H => H)
        · have hqe : q = f.code.length := by have := of_decide_eq_false hc4; omega
          subst hqe
          repeat' (first | refine g_pv rfl rfl ?_ | refine g_nil ?_ | refine gq_then ?_ | refine gc_region ?_ | refine gc_exit ?_ | refine gq_then_exit ?_ | refine gq_block ?_ | refine gq_block_exit ?_)
          refine gq_again (k + 1, ⟨ins2, A13, true⟩) ⟨hklt, hoi2, hil2, fun u hu => ?_, ⟨fun _ => ⟨a, (hbk a).2 (.inr ⟨rfl, har, hdm⟩)⟩, fun _ => rfl⟩⟩ (by simp only; omega) ⟨rfl, rfl, rfl, rfl, rfl, rfl, rfl, rfl, rfl, inc_eq (by omega), trivial⟩ (fun w' H => hp_tail H)
          show mk' ins2 u ↔ _
          rw [him, hB.mk2 u hu]
          have hsr : srcw a (b : Int) = [(a : Int)] := by unfold srcw; rw [if_neg (by omega)]
          rw [hsr] at hflm
          constructor
          · rintro ((h | ⟨a', h1, h2⟩) | ⟨_, h⟩)
            · exact .inl h
            · exact .inr ⟨a', (hbk a').2 (.inl h1), h2⟩
            · exact .inr ⟨a, (hbk a).2 (.inr ⟨rfl, har, hdm⟩), hab, (hflm u hu).1 h⟩
          · rintro (h | ⟨a', h1, h2, h3⟩)
            · exact .inl (.inl h)
            · rcases (hbk a').1 h1 with h4 | ⟨h4, _⟩
              · exact .inl (.inr ⟨a', h4, h2, h3⟩)
              · subst h4; exact .inr ⟨hu, (hflm u hu).2 h3⟩
      · have hke : k = row.length := by have := of_decide_eq_false hc2; omega
        subst hke
        have hbE : ∀ a, Bk (nxt f.code) row b row.length a ↔ BackE (nxt f.code) a b := fun a => by
          unfold Bk BackE
          rw [List.take_length, hrmem a]
          exact ⟨fun ⟨h1, h2, h3⟩ => ⟨h2, h1, h3⟩, fun ⟨h1, h2, h3⟩ => ⟨h2, h1, h3⟩⟩
        have hsm : sm = true ↔ HeadP (nxt f.code) b := hB.sm.trans ⟨fun ⟨a, h⟩ => ⟨a, (hbE a).1 h⟩, fun ⟨a, h⟩ => ⟨a, (hbE a).2 h⟩⟩
        have hll : ll.length ≤ b := by
          have h1 := isset_len hI.hs (fun u hu => hu.1)
          have h2 := hI.len
          dsimp only at h1 h2
          omega
        have hlen := hI.len
        have hvl := hI.ol.len
        dsimp only at hlen hvl
        repeat' (first | refine g_pv rfl rfl ?_ | refine g_nil ?_ | refine gq_then ?_ | refine gc_seq ?_ | refine gc_region ?_ | refine gc_exit ?_ | refine gq_then_exit ?_ | refine gq_block_exit ?_)
        refine gc_condC rfl (fun hs => ?_) (fun hs => ?_)
        · have hhd := hsm.1 hs
          have hset : IsSet (toldN ins ins.length) (InLoop (nxt f.code) b) := (toldN_set _ _).congr (fun u => by
            rw [InLoop.by_flood (code := f.code) (b := b) u]
            constructor
            · rintro ⟨hu, h⟩
              rcases (hB.mk2 u (by omega)).1 h with h | ⟨a, h1, h2, h3⟩
              · exact .inl h
              · exact .inr ⟨a, (hbE a).1 h1, h2, h3⟩
            · intro h
              have hu : u < f.code.length := InLoop.lt ((InLoop.by_flood (code := f.code) (b := b) u).2 h) hhd.rch hn1
              refine ⟨by omega, (hB.mk2 u hu).2 (h.imp id (fun ⟨a, h1, h2, h3⟩ => ⟨a, (hbE a).2 h1, h2, h3⟩))⟩)
          repeat' (first | refine g_pv rfl rfl ?_ | refine gc_seq ?_ | refine gc_region ?_)
          refine g_app1L 1 (f := fI) (q := (b : Int)) rfl rfl rfl rfl rfl rfl rfl rfl rfl rfl rfl rfl hI.oh (by unfold maxLen; dsimp only; omega) (by show _ * 8 ≤ _; dsimp only; omega) rfl rfl (fun v4 A4 g4 ho4 => ?_)
          repeat' (first | refine g_pv rfl rfl ?_ | refine g_nil ?_ | refine gq_then ?_ | refine gc_region ?_)
          refine g_eq 101 (u' := .slice (some ⟨g, 0, none⟩) ins.length ins.length) rfl (by rw [hil]) ?_
          refine g_call rfl (Cl.of Try.func30 rfl rfl) rfl rfl (fun w' hE => told_sp ins _ _ w' ?_ (by omega)) rfl ?_
          · obtain ⟨ad', cap', he, hrd2⟩ := OwnL.rd (f := fB) (fun _ => rfl) hoi (H := hw w') (hp_in hE 0 rfl)
            have he' := (Value.slice.inj he).1
            subst he'
            exact hrd2
          rintro ⟨v2, A2⟩ ho2
          dsimp only at ho2 ⊢
          have hcell : v2.cells = ⟨fV v2⟩ ∧ (v2.oneCell') = true := by obtain ⟨_, _, rfl, _⟩ := Own.shape ho2; exact ⟨rfl, rfl⟩
          refine g_app1L 3 (f := fV) (q := v2) rfl rfl rfl rfl rfl rfl rfl rfl hcell.1 rfl rfl (by simp [hcell.2]) hI.ol.row (by unfold maxLen; dsimp only; omega) (by show _ * 24 ≤ _; dsimp only; omega) rfl rfl (fun v5 A5 g5 ho5 => ?_)
          repeat' (first | refine g_pv rfl rfl ?_ | refine g_nil ?_ | refine gq_then ?_ | refine gc_region ?_ | refine gq_block ?_)
          refine gq_again (b + 1, ⟨v4, hl ++ [(b : Int)], A4, v5, ll ++ [_], ⟨A5, m.As ++ [A2], m.vals ++ [v2]⟩⟩) ⟨hlt, ho4, hI.ol.push ho2 ho5, hI.hs.push hhd, by simp [hlen], fun i c l h1 h2 => ?_⟩ (by simp only; omega) ⟨rfl, rfl, rfl, rfl, rfl, rfl, inc_eq (by omega), trivial⟩ (fun w' H => hp_cnt (R := [A2, A12, A4, A5, m.As.flatten, A8, m7.A0, m7.As.flatten, Ad]) A12 H (fun a => by simp only [FM.hl, putC, Value.cells, List.cons_append, List.nil_append, List.set_cons_zero, List.set_cons_succ, List.flatten_append, List.flatten_cons, List.flatten_nil, List.count_append, List.count_cons, List.count_nil, List.append_nil, List.flatten_replicate_nil]; omega))
          have h1' : (hl ++ [(b : Int)])[i]? = some (c : Int) := h1
          have h2' : (ll ++ [_])[i]? = some l := h2
          by_cases hij : i < hl.length
          · rw [List.getElem?_append_left hij] at h1'
            rw [List.getElem?_append_left (by omega)] at h2'
            exact hI.row i c l h1' h2'
          · have e : i = hl.length := by
              have := (List.getElem?_eq_some_iff.1 h1').1
              simp at this; omega
            subst e
            rw [List.getElem?_concat_length] at h1'
            rw [← hlen, List.getElem?_concat_length] at h2'
            have hcb : c = b := by simp at h1'; omega
            subst hcb
            cases h2'
            exact hset
        · have hnh : ¬ HeadP (nxt f.code) b := fun h => by rw [hsm.2 h] at hs; cases hs
          repeat' (first | refine g_pv rfl rfl ?_ | refine g_nil ?_ | refine gq_then ?_ | refine gc_region ?_ | refine gc_skip ?_ | refine gq_block ?_)
          exact gq_again (b + 1, ⟨vh, hl, Ah, vl, ll, m⟩) ⟨hlt, hI.oh, hI.ol, hI.hs.pass hnh, hI.len, hI.row⟩ (by simp only; omega) ⟨rfl, rfl, rfl, rfl, rfl, rfl, inc_eq (by omega), trivial⟩ (fun w' H => hp_tail H)
    · have hbe : b = f.code.length := by have := of_decide_eq_false hc; omega
      subst hbe
      have hheads : IsSet hl (HeadP (nxt f.code)) := hI.hs.congr (fun u => ⟨fun h => h.2, fun h => ⟨F.lt u h.rch, h⟩⟩)
      repeat' (first | refine g_pv rfl rfl ?_ | refine g_nil ?_ | refine gq_then ?_ | refine gc_seq ?_ | refine gc_region ?_ | refine gc_exit ?_ | refine gc_ret ?_ | refine gq_then_exit ?_ | refine gq_block_exit ?_)
      exact gq_ret3 (.inr rfl) rfl rfl rfl rfl rfl (fun w' H => ⟨⟨vh, Ah, hl, vl, ll, m⟩, ⟨hI.oh, hI.ol, by rw [if_pos hr]; exact ⟨hheads, hI.len, hI.row⟩⟩, by simp [errOf, hr], hp_take 0 rfl (fun H => hp_take 0 rfl (fun H => hp_take 0 rfl (fun H => hp_nil H) H) H) H⟩)
end Go.Proofs.Ytpmkkmahimdjkaa

/- The document's Depth. -/
namespace Go.Proofs.Ytpmkkmahimdjkaa
open Go.Wk
set_option linter.unusedVariables false
set_option linter.unusedSimpArgs false
attribute [local irreducible] G GC GQ GA GS Exit.then Exit.inBlock

set_option maxHeartbeats 8000000 in
theorem rdepthT_sp (f : TF) (w : World) (hf : CodeIn (hw w) f.cA f.code) :
    Sp Try.prog 23 [f.val] w [] (fun y : Value × HL => .tuple #[y.1, .int .i64 (errOf f)]) (fun y => [y.2]) (DepthAns f) := by
  refine enter (s := Try.sx) [] Try.func23 rfl rfl rfl (Eff.refl w) ?_
  repeat' (first | refine g_pv rfl rfl ?_ | refine g_ld 0 rfl rfl rfl rfl rfl rfl ?_ | refine g_nil ?_ | refine gq_then ?_ | refine gc_seq ?_ | refine gc_region ?_ | refine g_box rfl rfl (fun _ => ?_))
  rename_i b1
  refine g_call rfl (Cl.of Try.func21 rfl rfl) rfl rfl (fun w' hE => rloopsT_sp f w' (hf.le (fun b o h => old_le hE b o (old_le0 _ w b o h)))) rfl ?_
  rintro ⟨v, A, hl, vl, ll, m⟩ ⟨ho, hol, his⟩
  dsimp only at ho hol his ⊢
  cases hr : f.right with
  | false =>
    have he : errOf f = 160 := by simp [errOf, hr]
    rw [he]
    repeat' (first | refine g_pv rfl rfl ?_ | refine g_nil ?_ | refine gq_then ?_ | refine gc_seq ?_ | refine gc_region ?_ | refine gc_cond_t rfl ?_ | refine gc_ret ?_ | refine gq_then_ret ?_)
    exact gq_ret2 (.inr rfl) rfl rfl rfl rfl (fun w' H => ⟨(.slice none 0 0, []), ⟨[], OwnL.nil _ _ _, by simp [hr]⟩, rfl, hp_perm (hp_nil H) (by simp)⟩)
  | true =>
    have he : errOf f = 0 := by simp [errOf, hr]
    rw [he]
    rw [if_pos hr] at his
    obtain ⟨hn1, hn2, _, _⟩ := TF.right_n hr
    have F := frOf_fr f.code hn1
    have hhl := isset_len his.heads (fun b hb => F.lt b hb.rch)
    have hlen := his.len
    have hrow : ∀ (i : Nat) l, ll[i]? = some l → ∃ b, R0 (nxt f.code) b ∧ IsSet l (InLoop (nxt f.code) b) := fun i l hl' => by
      have hi : i < hl.length := by have := (List.getElem?_eq_some_iff.1 hl').1; omega
      obtain ⟨b, hb, hbh⟩ := (his.heads.2 hl[i]).1 (List.getElem_mem hi)
      exact ⟨b, hbh.rch, his.row i b l (by rw [← hb]; exact List.getElem?_eq_getElem hi) hl'⟩
    have hlens : ∀ l ∈ ll, l.length ≤ f.code.length := fun l hl' => by
      obtain ⟨i, hi, rfl⟩ := List.mem_iff_getElem.1 hl'
      obtain ⟨b, hb, hs⟩ := hrow i _ (List.getElem?_eq_getElem hi)
      exact isset_len hs (fun u hu => hu.lt hb hn1)
    obtain ⟨adl, capl, rfl, _⟩ := Own.shape hol.row
    have hvll := hol.len
    repeat' (first | refine g_pv rfl rfl ?_ | refine g_ld 3 rfl rfl rfl rfl rfl rfl ?_ | refine g_nil ?_ | refine gq_then ?_ | refine gc_seq ?_ | refine gc_region ?_ | refine gc_cond_f rfl ?_ | refine gc_skip ?_)
    refine g_make (n := f.code.length) (c := f.code.length) rfl rfl rfl rfl rfl (Nat.le_refl _) (by show 8 * _ ≤ _; omega) (by omega) rfl (fun go => ?_)
    have hoo := own_make (e := 3) (te := ⟨.int .i64, .int .i64 0, 1, 8⟩) (f := fI) (0 : Int) rfl rfl go f.code.length (by unfold maxLen; omega)
    repeat' (first | refine g_pv rfl rfl ?_ | refine g_nil ?_ | refine gq_then ?_ | refine gc_seq ?_ | refine gc_region ?_ | refine gc_block ?_)
    refine gc_loop (Y := Nat × HL) (fun y => y.1 ≤ ll.length ∧ OwnI (.slice (some ⟨go, 0, none⟩) f.code.length f.code.length) ((ll.take y.1).foldl dep1 (List.replicate f.code.length 0)) y.2)
      (fun y => [(5, .slice adl m.vals.length capl), (7, .slice (some ⟨go, 0, none⟩) f.code.length f.code.length), (8, .int .i64 y.1)]) (fun y => [y.2, m.A0, m.As.flatten])
      (fun y => ll.length - y.1) (0, _) ⟨Nat.zero_le _, by simpa using hoo⟩ ⟨rfl, rfl, rfl, trivial⟩ (fun w' H => hp_take 0 rfl (fun H => hp_take 1 rfl (fun H => hp_take 1 rfl (fun H => hp_nil H) H) H) H) ?_
    rintro ⟨j, Ao⟩ ⟨hj, hao⟩
    try dsimp only at hj hao ⊢
    repeat' (first | refine g_pv rfl rfl ?_ | refine g_nil ?_ | refine gq_then ?_ | refine gc_seq ?_ | refine gc_region ?_)
    refine gc_condC rfl (fun hc => ?_) (fun hc => ?_)
    · have hlt : j < ll.length := by have := of_decide_eq_true hc; omega
      have hlj : ll[j]? = some ll[j] := List.getElem?_eq_getElem hlt
      obtain ⟨u, a, hu, ha, hua⟩ := hol.get hlt
      have htk := foldl_take dep1 (List.replicate f.code.length (0 : Int)) ll j hlt
      have hbd := dep_bnd (n := f.code.length) (ll := ll.take j) (fun l hl' => hlens l (List.mem_of_mem_take hl'))
      have hdl := depF_len f.code.length (ll.take j)
      have hll := hlens _ (List.getElem_mem hlt)
      obtain ⟨b, hb, hs⟩ := hrow j _ hlj
      generalize hD : (ll.take j).foldl dep1 (List.replicate f.code.length (0 : Int)) = D at hao htk hbd hdl
      generalize ll[j] = l at hlj hua htk hll hs
      obtain ⟨uad, ucap, rfl, _⟩ := Own.shape hua
      have hsq : (ll.take j).length * f.code.length ≤ 16384 * 16384 := Nat.mul_le_mul (by rw [List.length_take]; omega) hn2
      repeat' (first | refine g_pv rfl rfl ?_ | refine g_nil ?_ | refine gq_then ?_ | refine gc_seq ?_ | refine gc_region ?_ | refine gc_block ?_ | refine gc_skip ?_)
      refine gc_loop (Y := Nat × HL) (fun y => y.1 ≤ l.length ∧ OwnI (.slice (some ⟨go, 0, none⟩) f.code.length f.code.length) (dep1 D (l.take y.1)) y.2)
        (fun y => [(5, .slice adl m.vals.length capl), (7, .slice (some ⟨go, 0, none⟩) f.code.length f.code.length), (8, .int .i64 j), (9, .int .i64 y.1)]) (fun y => [y.2, m.A0, m.As.flatten])
        (fun y => l.length - y.1) (0, Ao) ⟨Nat.zero_le _, hao⟩ ⟨rfl, rfl, rfl, rfl, trivial⟩ (fun w' H => H) ?_
      rintro ⟨k, A2⟩ ⟨hk, ha2⟩
      try dsimp only at hk ha2 ⊢
      repeat' (first | refine g_pv rfl rfl ?_ | refine gc_seq ?_ | refine gc_region ?_)
      refine g_atL 1 (f := fV) (q := .slice uad l.length ucap) rfl rfl hol.row (fun _ => rfl) rfl rfl rfl rfl (Int.natCast_nonneg j) (by simpa using hu) rfl rfl rfl (fun _ => ?_)
      repeat' (first | refine g_pv rfl rfl ?_ | refine g_nil ?_ | refine gq_then ?_)
      refine gc_condC rfl (fun hc2 => ?_) (fun hc2 => ?_)
      · have hklt : k < l.length := by have := of_decide_eq_true hc2; omega
        have hkx : l[k]? = some l[k] := List.getElem?_eq_getElem hklt
        obtain ⟨x, hx, hxl⟩ := (hs.2 l[k]).1 (List.getElem_mem hklt)
        have hxn := hxl.lt hb hn1
        have hsn : l.take (k + 1) = l.take k ++ [(x : Int)] := by rw [List.take_succ_eq_append_getElem hklt, hx]
        rw [hx] at hkx
        have hbk := bnd_dep1 (l := l.take k) hbd
        have hdk : (dep1 D (l.take k)).length = f.code.length := by rw [dep1_len, hdl]
        have hdn := dep1_snoc D (l.take k) (x : Int)
        generalize dep1 D (l.take k) = E at ha2 hbk hdk hdn
        obtain ⟨e1, e2⟩ := bnd_getD hbk x
        have hge : E[x]? = some (E.getD x 0) := by simp [List.getD, List.getElem?_eq_getElem (show x < E.length by omega)]
        have htl : (l.take k).length ≤ 16384 := by rw [List.length_take]; omega
        repeat' (first | refine g_pv rfl rfl ?_ | refine gq_then ?_ | refine gc_seq ?_ | refine gc_region ?_ | refine gc_block ?_ | refine gc_skip ?_)
        refine g_atL 1 (f := fV) (q := .slice uad l.length ucap) rfl rfl hol.row (fun _ => rfl) rfl rfl rfl rfl (Int.natCast_nonneg j) (by simpa using hu) rfl rfl rfl (fun _ => ?_)
        repeat' (refine g_pv rfl rfl ?_)
        refine g_atG (l := l) (f := fI) (u := (x : Int)) rfl rfl rfl rfl rfl (Int.natCast_nonneg k) (by omega) (fun w' H => ?_) hkx rfl rfl rfl rfl (fun _ => ?_)
        · obtain ⟨ad', cap', he, hrd⟩ := OwnL.rd (f := fI) (fun _ => rfl) hua (H := hw w') (fun b o hb' => hp_in H 2 rfl b o (List.mem_flatten.2 ⟨a, List.mem_of_getElem? ha, hb'⟩))
          have he' := (Value.slice.inj he).1
          subst he'; exact hrd
        repeat' (fail)
        refine g_atL 0 (f := fI) (q := E.getD x 0) rfl rfl ha2 (fun _ => rfl) rfl rfl rfl rfl (Int.natCast_nonneg x) (by simpa using hge) rfl rfl rfl (fun _ => ?_)
        repeat' (refine g_pv rfl rfl ?_)
        refine g_eq 48 (u' := .int .i64 (E.getD x 0 + 1)) rfl (Option.some.inj (inc_eqZ (by omega))) ?_
        refine g_setL 0 (f := fI) (q := E.getD x 0 + 1) rfl rfl ha2 (fun _ => rfl) rfl rfl rfl rfl (Int.natCast_nonneg x) (by omega) rfl rfl rfl rfl rfl (fun _ A3 ha3 => ?_)
        rw [Int.toNat_natCast] at ha3 hdn
        repeat' (first | refine g_pv rfl rfl ?_ | refine g_nil ?_ | refine gq_then ?_ | refine gc_region ?_ | refine gq_block ?_)
        exact gq_again (k + 1, A3) ⟨hklt, by rw [hsn, hdn]; exact ha3⟩ (by simp only; omega) ⟨rfl, rfl, rfl, inc_eq (by omega), trivial⟩ (fun w' H => H)
      · have hke : k = l.length := by have := of_decide_eq_false hc2; omega
        subst hke
        rw [List.take_length] at ha2
        repeat' (first | refine g_pv rfl rfl ?_ | refine g_nil ?_ | refine gq_then ?_ | refine gc_region ?_ | refine gc_exit ?_ | refine gq_then_exit ?_ | refine gq_block ?_ | refine gq_block_exit ?_)
        exact gq_again (j + 1, A2) ⟨hlt, by simp only; rw [htk]; exact ha2⟩ (by simp only; omega) ⟨rfl, rfl, inc_eq (by omega), trivial⟩ (fun w' H => H)
    · have hje : j = ll.length := by have := of_decide_eq_false hc; omega
      subst hje
      rw [List.take_length] at hao
      repeat' (first | refine g_pv rfl rfl ?_ | refine g_nil ?_ | refine gq_then ?_ | refine gc_seq ?_ | refine gc_region ?_ | refine gc_exit ?_ | refine gc_ret ?_ | refine gq_then_exit ?_ | refine gq_block_exit ?_)
      exact gq_ret2 (.inr rfl) rfl rfl rfl rfl (fun w' H => ⟨(_, Ao), ⟨_, hao, by rw [if_pos hr]; exact ⟨hl, ll, his, rfl⟩⟩, rfl, hp_take 0 rfl (fun H => hp_nil H) H⟩)
end Go.Proofs.Ytpmkkmahimdjkaa

/- What is asked for (plain); flow.Live's ahead. -/
namespace Go.Proofs.Ytpmkkmahimdjkaa
open Go.Wk
set_option linter.unusedVariables false
set_option linter.unusedSimpArgs false
attribute [local irreducible] G GC GQ GA GS Exit.then Exit.inBlock

/-- Temporary t is asked for at instruction i. -/
inductive LiveIn (code : List Ins) (t : Int) : Nat → Prop
  | read {i : Nat} {x : Ins} : code[i]? = some x → t ∈ x.reads → LiveIn code t i
  | next {i v : Nat} {x : Ins} : code[i]? = some x → x.writes ≠ t → (v : Int) ∈ nxt code i → LiveIn code t v → LiveIn code t i
def LiveOut (code : List Ins) (t : Int) (i : Nat) : Prop := ∃ v : Nat, (v : Int) ∈ nxt code i ∧ LiveIn code t v
theorem LiveIn.rd {code : List Ins} {t : Int} {i : Nat} (h : LiveIn code t i) : ∃ x ∈ code, t ∈ x.reads := by
  induction h with
  | @read i x h1 h2 => exact ⟨x, List.mem_of_getElem? h1, h2⟩
  | next _ _ _ _ ih => exact ih
theorem right_reads {f : TF} (h : f.right = true) {x : Ins} (hx : x ∈ f.code) {t : Int} (ht : t ∈ x.reads) : t < f.temps := by
  simp only [TF.right, Bool.and_eq_true, List.all_eq_true] at h
  have h1 := h.2 x hx
  simp only [insOk, Bool.and_eq_true, List.all_eq_true, decide_eq_true_eq] at h1
  exact h1.1.2 t ht
/-- What is told of what is asked for. -/
structure IsLive (code : List Ins) (li lo : List (List Int)) : Prop where
  ln1 : li.length = code.length
  ln2 : lo.length = code.length
  inn : ∀ (i : Nat) l, li[i]? = some l → IsSet l (fun t => LiveIn code (t : Int) i)
  out : ∀ (i : Nat) l, lo[i]? = some l → IsSet l (fun t => LiveOut code (t : Int) i)
theorem IsLive.uniq {code : List Ins} {li lo li' lo' : List (List Int)} (h : IsLive code li lo) (h' : IsLive code li' lo') : li = li' ∧ lo = lo' := by
  constructor
  · refine List.ext_getElem (by rw [h.ln1, h'.ln1]) fun i h1 h2 => ?_
    exact (h.inn i _ (List.getElem?_eq_getElem h1)).eq (h'.inn i _ (List.getElem?_eq_getElem h2)) (fun _ => Iff.rfl)
  · refine List.ext_getElem (by rw [h.ln2, h'.ln2]) fun i h1 h2 => ?_
    exact (h.out i _ (List.getElem?_eq_getElem h1)).eq (h'.out i _ (List.getElem?_eq_getElem h2)) (fun _ => Iff.rfl)

structure AY where
  m : FM
  vw : Value
  Aw : HL
  wait : List Int
theorem ahead_sp (m : FM) (hm : m.Ok) (bi bt bw g n cap i : Nat) (t : Int) (vals : List Value) (vw : Value) (wait : List Int) (Aw : HL) (w : World) (ow : OwnI vw wait Aw) (hl : wait.length ≤ 100000) (hi : i < n)
    (hE : Eff w (m.hl ++ [(bw, .cells ⟨[vw]⟩ 26 (0, 0))] ++ Aw) w (m.hl ++ [(bw, .cells ⟨[vw]⟩ 26 (0, 0))] ++ Aw))
    (hbi : cellAt (exc w (m.hl ++ [(bw, .cells ⟨[vw]⟩ 26 (0, 0))] ++ Aw)) bi 0 = some (.slice (some ⟨g, 0, none⟩) n cap)) (hrow : Rd (exc w (m.hl ++ [(bw, .cells ⟨[vw]⟩ 26 (0, 0))] ++ Aw)) fV 1 (some ⟨g, 0, none⟩) vals) (hv : vals[i]? = some (.map (some m.r)))
    (hbt : cellAt (exc w (m.hl ++ [(bw, .cells ⟨[vw]⟩ 26 (0, 0))] ++ Aw)) bt 0 = some (.int .i64 t)) :
    Sp Try.prog 34 [.int .i64 i, .pointer (some ⟨bi, 0, none⟩), .pointer (some ⟨bt, 0, none⟩), .pointer (some ⟨bw, 0, none⟩)] w (m.hl ++ [(bw, .cells ⟨[vw]⟩ 26 (0, 0))] ++ Aw) (fun _ : AY => .tuple #[]) (fun y => [y.m.hl, [(bw, .cells ⟨[y.vw]⟩ 26 (0, 0))], y.Aw])
      (fun y => y.m.r = m.r ∧ y.m.Ok ∧ OwnI y.vw y.wait y.Aw ∧ ((t ∈ m.keys ∧ y.m.keys = m.keys ∧ y.wait = wait) ∨ (t ∉ m.keys ∧ (∀ k, k ∈ y.m.keys ↔ k = t ∨ k ∈ m.keys) ∧ y.wait = wait ++ [(i : Int)]))) := by
  refine enterA (s := Try.sx) [m.hl, [(bw, .cells ⟨[vw]⟩ 26 (0, 0))], Aw] (by simp) Try.func34 rfl rfl rfl hE ?_
  repeat' (refine gc_seq ?_)
  refine gc_draw [m.hl, [(bw, .cells ⟨[vw]⟩ 26 (0, 0))], Aw] [] rfl (by simp) ?_
  refine ga_ldO 0 (cs := [.slice (some ⟨g, 0, none⟩) n cap]) (by repeat first | exact NoP.sp | apply NoP.then | apply NoP.block) rfl wanted_none rfl rfl rfl rfl (cell1 hbi) rfl (by kernel_rfl) (by kernel_rfl) (by kernel_rfl) ?_
  (refine ga_p 1 (by repeat first | exact NoP.sp | apply NoP.then | apply NoP.block) rfl (pv_spec rfl) rfl (by kernel_rfl) (by kernel_rfl) (by kernel_rfl) ?_)
  refine ga_at 2 3 (l := vals) (f := fV) (u := .map (some m.r)) (by repeat first | exact NoP.sp | apply NoP.then | apply NoP.block) rfl wanted_none rfl (fun a _ => wanted_none a) rfl rfl rfl rfl rfl (Int.natCast_nonneg i) (by omega) (still_rdO hrow) hv rfl rfl rfl rfl (by kernel_rfl) (by kernel_rfl) (by kernel_rfl) (by kernel_rfl) (by kernel_rfl) (fun _ => ?_)
  refine ga_ldO 4 (cs := [.int .i64 t]) (by repeat first | exact NoP.sp | apply NoP.then | apply NoP.block) rfl wanted_none rfl rfl rfl rfl (cell1 hbt) rfl (by kernel_rfl) (by kernel_rfl) (by kernel_rfl) ?_
  refine ga_one (i := 5) (by kernel_rfl) (gs_of rfl (fun K hK => ?_))
  refine g_look 0 (kf := KI) (k := t) rfl rfl rfl rfl rfl (kl_int (Try.sx.ok.at rfl)) hm.is rfl ?_
  rw [show ((ml m.kv t).getD (Value.int .i64 0)) = _ from FM.look hm t]
  refine g_nil ?_
  refine hK _ _ ⟨[], by simp⟩ ?_
  (refine ga_p 6 (by repeat first | exact NoP.sp | apply NoP.then | apply NoP.block) rfl (pv_spec rfl) rfl (by kernel_rfl) (by kernel_rfl) (by kernel_rfl) ?_)
  refine ga_nil (by kernel_rfl) ?_
  by_cases hk : t ∈ m.keys
  · simp only [if_pos hk]
    repeat' (first | refine gq_then ?_ | refine gc_cond_f rfl ?_ | refine gc_skip ?_)
    exact gq_ret0 (.inl rfl) rfl rfl (fun w' H => ⟨⟨m, vw, Aw, wait⟩, ⟨rfl, hm, ow, .inl ⟨hk, rfl, rfl⟩⟩, rfl, H⟩)
  · simp only [if_neg hk]
    repeat' (first | refine gq_then ?_ | refine gc_seq ?_ | refine gc_cond_t rfl ?_)
    refine gc_draw [m.hl, [(bw, .cells ⟨[vw]⟩ 26 (0, 0))], Aw] [] rfl (by simp) ?_
    refine ga_ldO 0 (cs := [.slice (some ⟨g, 0, none⟩) n cap]) (by repeat first | exact NoP.sp | apply NoP.then | apply NoP.block) rfl wanted_none rfl rfl rfl rfl (cell1 hbi) rfl (by kernel_rfl) (by kernel_rfl) (by kernel_rfl) ?_
    (refine ga_p 1 (by repeat first | exact NoP.sp | apply NoP.then | apply NoP.block) rfl (pv_spec rfl) rfl (by kernel_rfl) (by kernel_rfl) (by kernel_rfl) ?_)
    refine ga_at 2 3 (l := vals) (f := fV) (u := .map (some m.r)) (by repeat first | exact NoP.sp | apply NoP.then | apply NoP.block) rfl wanted_none rfl (fun a _ => wanted_none a) rfl rfl rfl rfl rfl (Int.natCast_nonneg i) (by omega) (still_rdO hrow) hv rfl rfl rfl rfl (by kernel_rfl) (by kernel_rfl) (by kernel_rfl) (by kernel_rfl) (by kernel_rfl) (fun _ => ?_)
    refine ga_ldO 4 (cs := [.int .i64 t]) (by repeat first | exact NoP.sp | apply NoP.then | apply NoP.block) rfl wanted_none rfl rfl rfl rfl (cell1 hbt) rfl (by kernel_rfl) (by kernel_rfl) (by kernel_rfl) ?_
    refine ga_one (i := 5) (by kernel_rfl) (gs_of rfl (fun K hK => ?_))
    refine g_look 0 (kf := KI) (k := t) rfl rfl rfl rfl rfl (kl_int (Try.sx.ok.at rfl)) hm.is rfl ?_
    rw [show ((ml m.kv t).getD (Value.int .i64 0)) = _ from FM.look hm t]
    simp only [if_neg hk]
    refine g_nil ?_
    refine hK _ _ ⟨[], by simp⟩ ?_
    (refine ga_p 6 (by repeat first | exact NoP.sp | apply NoP.then | apply NoP.block) rfl (pv_spec rfl) rfl (by kernel_rfl) (by kernel_rfl) (by kernel_rfl) ?_)
    refine ga_eq 18 (u' := .int .i64 1) rfl rfl ?_
    refine ga_one (i := 7) (by kernel_rfl) (gs_last rfl (by kernel_rfl) (by kernel_rfl) (fun K hK => ?_))
    refine g_upd 0 (kf := KI) (k := t) rfl rfl rfl rfl rfl (kl_int (Try.sx.ok.at rfl)) hm.is (fun es' clock' M' => ?_)
    refine g_nil ?_
    refine hK _ _ ?_
    repeat' (first | refine g_pv rfl rfl ?_ | refine g_ld 1 rfl rfl rfl rfl rfl rfl ?_ | refine gq_then ?_ | refine gc_region ?_)
    refine g_app1L 2 (f := fI) (q := (i : Int)) rfl rfl rfl rfl rfl rfl rfl rfl rfl rfl rfl rfl ow (by unfold maxLen; omega) (by show _ * 8 ≤ _; omega) rfl rfl (fun v4 A4 g4 ho4 => ?_)
    have hcell : v4.cells = ⟨fV v4⟩ ∧ (v4.oneCell') = true := by obtain ⟨_, _, rfl, _⟩ := Own.shape ho4; exact ⟨rfl, rfl⟩
    obtain ⟨ad4, cap4, rfl, _⟩ := Own.shape ho4
    repeat' (first | refine g_nil ?_ | refine g_st 1 rfl rfl rfl rfl rfl rfl rfl ?_)
    refine gq_ret0 (.inl rfl) rfl rfl (fun w' H => ⟨⟨⟨m.r, es', clock', mput m.kv t (.int .i64 1)⟩, _, A4, wait ++ [(i : Int)]⟩, ⟨rfl, ⟨M', fun p hp => ?_⟩, ho4, .inr ⟨hk, fun k => mem_keys_mput _ _ _ _, rfl⟩⟩, rfl, H⟩)
    rcases mput_mem p hp with h | h
    · exact h
    · exact hm.one p h
end Go.Proofs.Ytpmkkmahimdjkaa
