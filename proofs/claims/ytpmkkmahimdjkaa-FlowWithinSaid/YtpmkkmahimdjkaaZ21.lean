/-
  The document's Live, walked.
-/
import Derived.Test.YtpmkkmahimdjkaaZ20

/- The document's Live, walked. -/
namespace Go.Proofs.Ytpmkkmahimdjkaa
open Go.Wk
set_option linter.unusedVariables false
set_option linter.unusedSimpArgs false
attribute [local irreducible] G GC GQ GA GS Exit.then Exit.inBlock

structure LS where
  ib : List (List Bool)
  ob : List (List Bool)
  mi : LM
  mo : LM
  tn : Bool
def fal (n T i : Nat) : List (List Bool) := List.replicate i (List.replicate T false) ++ List.replicate (n - i) []
theorem fal_set {n T i : Nat} (hi : i < n) : (fal n T i).set i (List.replicate T false) = fal n T (i + 1) := by
  unfold fal
  rw [List.set_append_right _ _ (by simp), show n - i = (n - (i + 1)) + 1 from by omega, List.replicate_succ (n := n - (i + 1))]
  simp [List.replicate_succ']
theorem fal_len {n T i : Nat} (hi : i ≤ n) : (fal n T i).length = n := by simp [fal]; omega

set_option maxHeartbeats 64000000 in
theorem rliveT_sp (f : TF) (w : World) (hf : CodeIn (hw w) f.cA f.code) :
    Sp Try.prog 13 [f.val] w [] (fun y : LVA => .tuple #[y.vi, y.vo, .int .i64 (errOf f)]) (fun y => [y.mi.A0, y.mi.As.flatten, y.mo.A0, y.mo.As.flatten]) (LiveAns f) := by
  refine enter (s := Try.sx) [] Try.func13 rfl rfl rfl (Eff.refl w) ?_
  repeat' (first | refine g_pv rfl rfl ?_ | refine g_ld 0 rfl rfl rfl rfl rfl rfl ?_ | refine g_nil ?_ | refine gq_then ?_ | refine gc_seq ?_ | refine gc_region ?_ | refine g_box rfl rfl (fun _ => ?_))
  rename_i b1
  refine g_call rfl (Cl.of Try.func24 rfl rfl) rfl rfl (fun w' hE => right_sp f w' (hf.le (fun b o h => old_le hE b o (old_le0 _ w b o h)))) rfl ?_
  rintro ⟨⟩ -
  repeat' (first | refine g_pv rfl rfl ?_ | refine g_nil ?_ | refine gq_then ?_)
  cases hr : f.right with
  | false =>
    repeat' (first | refine g_pv rfl rfl ?_ | refine g_nil ?_ | refine gq_then ?_ | refine gc_seq ?_ | refine gc_region ?_ | refine gc_cond_t rfl ?_ | refine gc_ret ?_ | refine gq_then_ret ?_)
    exact gq_ret3 (.inr rfl) rfl rfl rfl rfl rfl (fun w' H => ⟨⟨.slice none 0 0, [], ⟨[], [], []⟩, .slice none 0 0, [], ⟨[], [], []⟩⟩, ⟨ownLL_nil, ownLL_nil, by simp [hr]⟩, by simp [errOf, hr], hp_perm (hp_nil H) (by simp)⟩)
  | true =>
  obtain ⟨hn1, hn2, ht1, ht2⟩ := TF.right_n hr
  obtain ⟨T, hT⟩ : ∃ T : Nat, f.temps = T := ⟨f.temps.toNat, by omega⟩
  have hnl := nexts_length f.code
  have hrr : ∀ x ∈ f.code, ∀ t ∈ x.reads, 0 ≤ t ∧ t < (T : Int) := fun x hx t ht => ⟨(reads_ok (hf.all x hx) t ht).1, by have := right_reads hr hx ht; omega⟩
  repeat' (first | refine g_pv rfl rfl ?_ | refine g_ld 0 rfl rfl rfl rfl rfl rfl ?_ | refine g_nil ?_ | refine gq_then ?_ | refine gc_seq ?_ | refine gc_region ?_ | refine gc_cond_f rfl ?_ | refine gc_skip ?_)
  refine g_call rfl (Cl.of Try.func32 rfl rfl) rfl rfl (fun w' hE => edges_sp f w' (hf.le (fun b o h => old_le hE b o (old_le0 _ w b o h))) hn2) rfl ?_
  rintro ⟨vn, mn⟩ hmn
  dsimp only at hmn ⊢
  have hnn := hmn.len
  rw [hnl] at hnn
  obtain ⟨adn, capn, rfl, _⟩ := Own.shape hmn.row
  repeat' (first | refine g_pv rfl rfl ?_ | refine g_nil ?_ | refine gq_then ?_ | refine gc_seq ?_ | refine gc_region ?_)
  refine g_make (n := f.code.length) (c := f.code.length) rfl rfl rfl rfl rfl (Nat.le_refl _) (by show 24 * _ ≤ _; omega) (by omega) rfl (fun gi => ?_)
  have hi0 := own_nilsB gi f.code.length (by unfold maxLen; omega)
  repeat' (first | refine g_pv rfl rfl ?_ | refine g_nil ?_ | refine gq_then ?_ | refine gc_seq ?_ | refine gc_region ?_)
  refine g_make (n := f.code.length) (c := f.code.length) rfl rfl rfl rfl rfl (Nat.le_refl _) (by show 24 * _ ≤ _; omega) (by omega) rfl (fun go => ?_)
  have ho0 := own_nilsB go f.code.length (by unfold maxLen; omega)
  repeat' (first | refine g_pv rfl rfl ?_ | refine g_nil ?_ | refine gq_then ?_ | refine gc_seq ?_ | refine gc_region ?_ | refine gc_block ?_)
  refine gc_loop (Y := Nat × LM × LM) (fun y => y.1 ≤ f.code.length ∧ OwnB2 (.slice (some ⟨gi, 0, none⟩) f.code.length f.code.length) (fal f.code.length T y.1) y.2.1 ∧ OwnB2 (.slice (some ⟨go, 0, none⟩) f.code.length f.code.length) (fal f.code.length T y.1) y.2.2)
    (fun y => [(1, .pointer (some ⟨b1, 0, none⟩)), (5, .int .i64 f.code.length), (6, .slice adn mn.vals.length capn), (7, .slice (some ⟨gi, 0, none⟩) f.code.length f.code.length), (8, .slice (some ⟨go, 0, none⟩) f.code.length f.code.length), (9, .int .i64 y.1)]) (fun y => [y.2.1.A0, y.2.1.As.flatten, y.2.2.A0, y.2.2.As.flatten, [(b1, .cells ⟨f.cells⟩ 25 (0, 0))], mn.A0, mn.As.flatten])
    (fun y => f.code.length - y.1) (0, _, _) ⟨Nat.zero_le _, by simpa [fal] using hi0, by simpa [fal] using ho0⟩ ⟨rfl, rfl, rfl, rfl, rfl, rfl, trivial⟩ (fun w' H => hp_cnt (R := [[(go, .cells ⟨rep f.code.length [.slice none 0 0]⟩ 47 (0, 0))], [(gi, .cells ⟨rep f.code.length [.slice none 0 0]⟩ 47 (0, 0))], mn.A0, mn.As.flatten, [(b1, .cells ⟨f.cells⟩ 25 (0, 0))]]) [] H (fun a => by simp only [FM.hl, putC, Value.cells, List.cons_append, List.nil_append, List.set_cons_zero, List.set_cons_succ, List.flatten_append, List.flatten_cons, List.flatten_nil, List.count_append, List.count_cons, List.count_nil, List.append_nil, List.flatten_replicate_nil]; omega)) ?_
  clear hi0 ho0
  rintro ⟨i, mi, mo⟩ ⟨hi, hmi, hmo⟩
  try dsimp only at hi hmi hmo ⊢
  repeat' (first | refine g_pv rfl rfl ?_ | refine g_nil ?_ | refine gq_then ?_ | refine gc_seq ?_ | refine gc_region ?_)
  refine gc_condC rfl (fun hc => ?_) (fun hc => ?_)
  · have hlt : i < f.code.length := by have := of_decide_eq_true hc; omega
    have hvi : mi.vals.length = f.code.length := by rw [hmi.len, fal_len hi]
    have hai : mi.As.length = f.code.length := by rw [hmi.alen, fal_len hi]
    have hvo : mo.vals.length = f.code.length := by rw [hmo.len, fal_len hi]
    have hao : mo.As.length = f.code.length := by rw [hmo.alen, fal_len hi]
    repeat' (first | refine g_pv rfl rfl ?_ | refine g_ld 4 rfl rfl rfl rfl rfl rfl ?_ | refine gq_then ?_ | refine gc_seq ?_ | refine gc_region ?_ | refine gc_block ?_ | refine gc_skip ?_)
    refine g_eq 41 (u' := .int .i64 (T : Int)) rfl (by rw [hT]) ?_
    refine g_make (n := T) (c := T) rfl rfl rfl rfl rfl (Nat.le_refl _) (by show 1 * _ ≤ _; omega) (by omega) rfl (fun g1 => ?_)
    have hob1 := own_bools g1 T (by unfold maxLen; omega)
    repeat' (fail)
    refine g_setL 1 (f := fV) (q := .slice (some ⟨g1, 0, none⟩) T T) rfl rfl hmi.row (fun _ => rfl) rfl rfl rfl rfl (Int.natCast_nonneg i) (by omega) rfl rfl rfl rfl rfl (fun _ A1 ho1 => ?_)
    rw [Int.toNat_natCast] at ho1
    repeat' (first | refine g_pv rfl rfl ?_ | refine g_nil ?_ | refine gq_then ?_ | refine gc_region ?_)
    refine g_ld 5 rfl rfl rfl rfl rfl rfl ?_
    refine g_eq 47 (u' := .int .i64 (T : Int)) rfl (by rw [hT]) ?_
    refine g_make (n := T) (c := T) rfl rfl rfl rfl rfl (Nat.le_refl _) (by show 1 * _ ≤ _; omega) (by omega) rfl (fun g2 => ?_)
    have hob2 := own_bools g2 T (by unfold maxLen; omega)
    repeat' (fail)
    refine g_setL 4 (f := fV) (q := .slice (some ⟨g2, 0, none⟩) T T) rfl rfl hmo.row (fun _ => rfl) rfl rfl rfl rfl (Int.natCast_nonneg i) (by omega) rfl rfl rfl rfl rfl (fun _ A2 ho2 => ?_)
    rw [Int.toNat_natCast] at ho2
    have hp1 := hmi.put hob1 ho1
    have hp2 := hmo.put hob2 ho2
    rw [fal_set hlt] at hp1 hp2
    repeat' (first | refine g_pv rfl rfl ?_ | refine g_nil ?_ | refine gq_then ?_ | refine gc_region ?_ | refine gq_block ?_)
    refine gq_again (i + 1, ⟨A1, mi.As.set i _, _⟩, ⟨A2, mo.As.set i _, _⟩) ⟨hlt, hp1, hp2⟩ (by simp only; omega) ⟨rfl, rfl, rfl, rfl, rfl, inc_eq (by omega), trivial⟩ (fun w' H => hp_cnt (R := [[(g2, .cells ⟨rep T [.bool false]⟩ 4 (0, 0))], [(g1, .cells ⟨rep T [.bool false]⟩ 4 (0, 0))], A1, mi.As.flatten, A2, mo.As.flatten, [(b1, .cells ⟨f.cells⟩ 25 (0, 0))], mn.A0, mn.As.flatten]) (mi.As[i]'(by omega) ++ mo.As[i]'(by omega)) H (fun x => ?_))
    have e3 := cnt_erase mi.As i (List.getElem?_eq_getElem (by omega)) x
    have e4 := cnt_erase mo.As i (List.getElem?_eq_getElem (by omega)) x
    have e5 := cnt_set mi.As i (B := [(g1, .cells ⟨rep T [.bool false]⟩ 4 (0, 0))]) (by omega) x
    have e6 := cnt_set mo.As i (B := [(g2, .cells ⟨rep T [.bool false]⟩ 4 (0, 0))]) (by omega) x
    simp only [List.cons_append, List.nil_append, List.flatten_append, List.flatten_cons, List.flatten_nil, List.count_append, List.count_cons, List.count_nil, List.append_nil] at e5 e6 ⊢
    omega
  have hin : i = f.code.length := by have := of_decide_eq_false hc; omega
  have hfal : fal f.code.length T f.code.length = List.replicate f.code.length (List.replicate T false) := by simp [fal]
  rw [hin, hfal] at hmi hmo
  clear hc hi hin hfal
  have hd0 := falses_dims f.code.length T
  have hb0 : ∀ i t, ¬ bI (List.replicate f.code.length (List.replicate T false)) i t := fun i t => falses_bI
  generalize List.replicate f.code.length (List.replicate T false) = fb at hmi hmo hd0 hb0
  repeat' (first | refine g_pv rfl rfl ?_ | refine g_nil ?_ | refine gq_then ?_ | refine gc_seq ?_ | refine gc_region ?_ | refine gc_block ?_ | refine gc_exit ?_ | refine gq_then_exit ?_ | refine gq_block_exit ?_)
  refine gc_loop (Y := LS) (fun y => OwnB2 (.slice (some ⟨gi, 0, none⟩) f.code.length f.code.length) y.ib y.mi ∧ OwnB2 (.slice (some ⟨go, 0, none⟩) f.code.length f.code.length) y.ob y.mo ∧ PInv f.code T (unmT y.ib + 1) y.ib y.ob y.tn ∧ (y.tn = false → ∀ i, i < f.code.length → Clo f.code T y.ib y.ob i))
    (fun y => [(1, .pointer (some ⟨b1, 0, none⟩)), (5, .int .i64 f.code.length), (6, .slice adn mn.vals.length capn), (7, .slice (some ⟨gi, 0, none⟩) f.code.length f.code.length), (8, .slice (some ⟨go, 0, none⟩) f.code.length f.code.length), (10, .bool y.tn)]) (fun y => [y.mi.A0, y.mi.As.flatten, y.mo.A0, y.mo.As.flatten, [(b1, .cells ⟨f.cells⟩ 25 (0, 0))], mn.A0, mn.As.flatten])
    (fun y => if y.tn then 1 + unmT y.ib else 0) ⟨fb, fb, mi, mo, true⟩ ⟨hmi, hmo, ⟨hd0, hd0, fun i t _ _ h => absurd h (hb0 i t), fun i t _ _ h => absurd h (hb0 i t), by omega, fun _ => by omega⟩, fun h => (by cases h)⟩ ⟨rfl, rfl, rfl, rfl, rfl, rfl, trivial⟩ (fun w' H => H) ?_
  clear hmi hmo hd0 hb0
  rintro ⟨ib, ob, mi, mo, tn⟩ ⟨hmi, hmo, hP, hclo⟩
  try dsimp only at hmi hmo hP hclo ⊢
  repeat' (first | refine g_pv rfl rfl ?_ | refine g_nil ?_ | refine gq_then ?_ | refine gc_seq ?_ | refine gc_region ?_)
  refine gc_condC rfl (fun hc => ?_) (fun hc => ?_)
  · subst hc
    have hP0 : PInv f.code T (unmT ib) ib ob false := ⟨hP.d1, hP.d2, hP.s1, hP.s2, Nat.le_refl _, fun h => (by cases h)⟩
    repeat' (first | refine g_pv rfl rfl ?_ | refine g_nil ?_ | refine gq_then ?_ | refine gc_seq ?_ | refine gc_region ?_ | refine gc_block ?_ | refine gc_skip ?_)
    refine gc_loop (Y := Nat × LS) (fun y => y.1 ≤ f.code.length ∧ OwnB2 (.slice (some ⟨gi, 0, none⟩) f.code.length f.code.length) y.2.ib y.2.mi ∧ OwnB2 (.slice (some ⟨go, 0, none⟩) f.code.length f.code.length) y.2.ob y.2.mo ∧ PInv f.code T (unmT ib) y.2.ib y.2.ob y.2.tn ∧ (y.2.tn = false → ∀ j, f.code.length - y.1 ≤ j → j < f.code.length → Clo f.code T y.2.ib y.2.ob j))
      (fun y => [(1, .pointer (some ⟨b1, 0, none⟩)), (5, .int .i64 f.code.length), (6, .slice adn mn.vals.length capn), (7, .slice (some ⟨gi, 0, none⟩) f.code.length f.code.length), (8, .slice (some ⟨go, 0, none⟩) f.code.length f.code.length), (10, .bool y.2.tn), (11, .int .i64 ((f.code.length : Int) - 1 - y.1))]) (fun y => [y.2.mi.A0, y.2.mi.As.flatten, y.2.mo.A0, y.2.mo.As.flatten, [(b1, .cells ⟨f.cells⟩ 25 (0, 0))], mn.A0, mn.As.flatten])
      (fun y => f.code.length - y.1) (0, ⟨ib, ob, mi, mo, false⟩) ⟨Nat.zero_le _, hmi, hmo, hP0, fun _ j h1 h2 => (by omega)⟩ ⟨rfl, rfl, rfl, rfl, rfl, rfl, ?_, trivial⟩ (fun w' H => H) ?_
    · exact congrArg (fun z => some (Value.int .i64 z)) (by rw [IntKind.wrap_i64]; simp; omega)
    generalize hU : unmT ib = U
    clear hmi hmo hP hP0 hclo
    rintro ⟨k, ⟨ib, ob, mi, mo, tn⟩⟩ ⟨hk, hmi, hmo, hP, hclo⟩
    try dsimp only at hk hmi hmo hP hclo ⊢
    repeat' (first | refine g_pv rfl rfl ?_ | refine g_nil ?_ | refine gq_then ?_ | refine gc_seq ?_ | refine gc_region ?_)
    refine gc_condC rfl (fun hc => ?_) (fun hc => ?_)
    · have hklt : k < f.code.length := by have := of_decide_eq_true hc; omega
      obtain ⟨i, hi⟩ : ∃ i : Nat, i = f.code.length - 1 - k := ⟨_, rfl⟩
      have hlt : i < f.code.length := by omega
      have e3 : ((f.code.length : Int) - 1 - k) = (i : Nat) := by omega
      rw [e3]
      have hclo' : tn = false → ∀ j, i < j → j < f.code.length → Clo f.code T ib ob j := fun h j h1 h2 => hclo h j (by omega) h2
      clear hclo hc
      have hxi : f.code[i]? = some f.code[i] := List.getElem?_eq_getElem hlt
      have hx := ins_at hf hlt
      have hxm := List.getElem_mem hlt
      obtain ⟨u, an, hu, han, hon⟩ := hmn.get (i := i) (by omega)
      have hng : (nexts f.code f.code.length)[i]'(by omega) = nxt f.code i := by simp [nexts]
      rw [hng] at hon
      obtain ⟨uad, ucap, rfl, _⟩ := Own.shape hon
      have hrin := nxt_in f.code i
      have hrlen := nxt_len f.code i
      repeat' (first | refine g_pv rfl rfl ?_ | refine g_ld 4 rfl rfl rfl rfl rfl rfl ?_ | refine gq_then ?_ | refine gc_seq ?_ | refine gc_region ?_ | refine gc_block ?_ | refine gc_skip ?_)
      refine g_at (l := f.code) (f := Ins.cells) (u := f.code[i]) rfl rfl rfl rfl rfl (Int.natCast_nonneg i) (by omega) (hf.row.le (old_le0 _ w)) hxi rfl rfl rfl rfl (fun _ => ?_)
      generalize f.code[i] = x at hxi hx hxm
      refine g_call rfl (Cl.of Try.func36 rfl rfl) rfl rfl (fun w' hE => rwrites_sp x w') rfl (fun _ _ => ?_)
      rw [rwrites_eq]
      repeat' (first | refine g_pv rfl rfl ?_ | refine g_nil ?_ | refine gq_then ?_ | refine gc_seq ?_ | refine gc_region ?_ | refine gc_block ?_)
      have hie3 : i < (nexts f.code f.code.length).length := by omega
      refine gc_loop (Y := Nat × List (List Bool) × LM) (fun y => y.1 ≤ (nxt f.code i).length ∧ OwnB2 (.slice (some ⟨go, 0, none⟩) f.code.length f.code.length) y.2.1 y.2.2 ∧ PInv f.code T U ib y.2.1 tn ∧ (tn = false → ∀ j, i < j → j < f.code.length → Clo f.code T ib y.2.1 j) ∧ ∀ v : Nat, (v : Int) ∈ (nxt f.code i).take y.1 → ∀ t, t < T → bI ib v t → bI y.2.1 i t)
        (fun y => [(1, .pointer (some ⟨b1, 0, none⟩)), (5, .int .i64 f.code.length), (6, .slice adn mn.vals.length capn), (7, .slice (some ⟨gi, 0, none⟩) f.code.length f.code.length), (8, .slice (some ⟨go, 0, none⟩) f.code.length f.code.length), (10, .bool tn), (11, .int .i64 (i : Nat)), (12, .int .i64 x.writes), (13, .int .i64 y.1)]) (fun y => [mi.A0, mi.As.flatten, y.2.2.A0, y.2.2.As.flatten, [(b1, .cells ⟨f.cells⟩ 25 (0, 0))], mn.A0, mn.As.flatten])
        (fun y => (nxt f.code i).length - y.1) (0, ob, mo) ⟨Nat.zero_le _, hmo, hP, hclo', fun v h => by simp at h⟩ ⟨rfl, rfl, rfl, rfl, rfl, rfl, rfl, rfl, rfl, trivial⟩ (fun w' H => H) ?_
      clear hmo hP hclo'
      rintro ⟨q, ob, mo⟩ ⟨hq, hmo, hP, hclo, hdn⟩
      try dsimp only at hq hmo hP hclo hdn ⊢
      repeat' (first | refine g_pv rfl rfl ?_ | refine gc_seq ?_ | refine gc_region ?_)
      refine g_atL 5 (f := fV) (q := .slice uad (nxt f.code i).length ucap) rfl rfl hmn.row (fun _ => rfl) rfl rfl rfl rfl (Int.natCast_nonneg i) (by simpa using hu) rfl rfl rfl (fun _ => ?_)
      repeat' (first | refine g_pv rfl rfl ?_ | refine g_nil ?_ | refine gq_then ?_)
      refine gc_condC rfl (fun hc => ?_) (fun hc => ?_)
      · have hqlt : q < (nxt f.code i).length := by have := of_decide_eq_true hc; omega
        have hvq : (nxt f.code i)[q]? = some (nxt f.code i)[q] := List.getElem?_eq_getElem hqlt
        have hvm := List.getElem_mem hqlt
        have hv0 := hrin _ hvm
        have htk : (nxt f.code i).take (q + 1) = (nxt f.code i).take q ++ [(nxt f.code i)[q]] := List.take_succ_eq_append_getElem hqlt
        generalize (nxt f.code i)[q] = vz at hvq hvm hv0 htk
        obtain ⟨v, rfl⟩ : ∃ v : Nat, vz = v := ⟨vz.toNat, by omega⟩
        have hvn : v < f.code.length := by omega
        repeat' (first | refine g_pv rfl rfl ?_ | refine g_nil ?_ | refine gq_then ?_ | refine gc_seq ?_ | refine gc_region ?_ | refine gc_block ?_ | refine gc_skip ?_)
        refine gc_loop (Y := Nat × List (List Bool) × LM) (fun y => y.1 ≤ T ∧ OwnB2 (.slice (some ⟨go, 0, none⟩) f.code.length f.code.length) y.2.1 y.2.2 ∧ PInv f.code T U ib y.2.1 tn ∧ (tn = false → ∀ j, i < j → j < f.code.length → Clo f.code T ib y.2.1 j) ∧ (∀ v : Nat, (v : Int) ∈ (nxt f.code i).take q → ∀ t, t < T → bI ib v t → bI y.2.1 i t) ∧ ∀ t, t < y.1 → bI ib v t → bI y.2.1 i t)
          (fun y => [(1, .pointer (some ⟨b1, 0, none⟩)), (5, .int .i64 f.code.length), (6, .slice adn mn.vals.length capn), (7, .slice (some ⟨gi, 0, none⟩) f.code.length f.code.length), (8, .slice (some ⟨go, 0, none⟩) f.code.length f.code.length), (10, .bool tn), (11, .int .i64 (i : Nat)), (12, .int .i64 x.writes), (13, .int .i64 q), (14, .int .i64 y.1)]) (fun y => [mi.A0, mi.As.flatten, y.2.2.A0, y.2.2.As.flatten, [(b1, .cells ⟨f.cells⟩ 25 (0, 0))], mn.A0, mn.As.flatten])
          (fun y => T - y.1) (0, ob, mo) ⟨Nat.zero_le _, hmo, hP, hclo, hdn, fun t h => absurd h (by omega)⟩ ⟨rfl, rfl, rfl, rfl, rfl, rfl, rfl, rfl, rfl, rfl, trivial⟩ (fun w' H => H) ?_
        clear hmo hP hclo hdn
        rintro ⟨t, ob, mo⟩ ⟨htT, hmo, hP, hclo, hdn, hdt⟩
        try dsimp only at htT hmo hP hclo hdn hdt ⊢
        repeat' (first | refine g_pv rfl rfl ?_ | refine g_ld 4 rfl rfl rfl rfl rfl rfl ?_ | refine g_nil ?_ | refine gq_then ?_ | refine gc_seq ?_ | refine gc_region ?_)
        refine gc_condC rfl (fun hc => ?_) (fun hc => ?_)
        · have htlt : t < T := by have := of_decide_eq_true hc; omega
          have hol := hP.d2.2 i hlt
          have hil := hP.d1.2 v hvn
          obtain ⟨uo, ao, huo, hao, hoo⟩ := hmo.get (i := i) (by rw [hP.d2.1]; exact hlt)
          obtain ⟨g9, cap9, _, rfl, _, _, _, _⟩ := Own.pos hoo (by omega)
          obtain ⟨ui, ai, hui, hai, hoi⟩ := hmi.get (i := v) (by rw [hP.d1.1]; exact hvn)
          obtain ⟨g7, cap7, _, rfl, _, _, _, _⟩ := Own.pos hoi (by omega)
          have hvo : mo.vals.length = f.code.length := by rw [hmo.len, hP.d2.1]
          have hvi : mi.vals.length = f.code.length := by rw [hmi.len, hP.d1.1]
          have hao2 : mo.As.length = f.code.length := by rw [hmo.alen, hP.d2.1]
          have hot : (ob.getD i [])[t]? = some ((ob.getD i []).getD t false) := getD_some (by omega)
          have hit : (ib.getD v [])[t]? = some ((ib.getD v []).getD t false) := getD_some (by omega)
          have hanm : ∀ p, p ∈ an → p ∈ mn.As.flatten := fun p hp => List.mem_flatten.2 ⟨an, List.mem_of_getElem? han, hp⟩
          have haim : ∀ p, p ∈ ai → p ∈ mi.As.flatten := fun p hp => List.mem_flatten.2 ⟨ai, List.mem_of_getElem? hai, hp⟩
          have hfin : ∀ {ob2 : List (List Bool)}, PInv f.code T U ib ob2 tn → (∀ j s, bI ob2 j s ↔ (j = i ∧ s = t ∧ (bI ob i t ∨ bI ib v t)) ∨ bI ob j s) → (∃ r, ob2 = ob.set i r) →
              PInv f.code T U ib ob2 tn ∧ (tn = false → ∀ j, i < j → j < f.code.length → Clo f.code T ib ob2 j) ∧ (∀ v : Nat, (v : Int) ∈ (nxt f.code i).take q → ∀ t, t < T → bI ib v t → bI ob2 i t) ∧ ∀ s, s < t + 1 → bI ib v s → bI ob2 i s := fun {ob2} hp hb ⟨r, hr2⟩ =>
            ⟨hp, fun h j h1 h2 => by rw [hr2]; exact (hclo h j h1 h2).other (by omega), fun v' h1 s h2 h3 => (hb i s).2 (.inr (hdn v' h1 s h2 h3)), fun s h1 h2 => by
              by_cases hst : s = t
              · subst hst; exact (hb i s).2 (.inl ⟨rfl, rfl, .inr h2⟩)
              · exact (hb i s).2 (.inr (hdt s (by omega) h2))⟩
          have hset : (bI ob i t ∨ bI ib v t) → ∃ ob2, ob2 = ob.set i ((ob.getD i []).set t true) ∧ PInv f.code T U ib ob2 tn ∧ (tn = false → ∀ j, i < j → j < f.code.length → Clo f.code T ib ob2 j) ∧ (∀ v : Nat, (v : Int) ∈ (nxt f.code i).take q → ∀ t, t < T → bI ib v t → bI ob2 i t) ∧ ∀ s, s < t + 1 → bI ib v s → bI ob2 i s := fun h => by
            refine ⟨_, rfl, hfin (hP.out hlt htlt (h.elim (fun h => hP.s2 i t hlt htlt h) (fun h => ⟨v, hvm, hP.s1 v t hvn htlt h⟩))) (fun j s => ?_) ⟨_, rfl⟩⟩
            rw [bI_set hP.d2 hlt htlt]
            exact ⟨fun h2 => h2.imp (fun ⟨a, b⟩ => ⟨a, b, h⟩) id, fun h2 => h2.imp (fun ⟨a, b, _⟩ => ⟨a, b⟩) id⟩
          repeat' (first | refine gq_then ?_ | refine gc_seq ?_ | refine gc_block ?_ | refine gc_skip ?_)
          refine gc_heap (R' := [ao, (mo.As.eraseIdx i).flatten, mo.A0, mi.A0, mi.As.flatten, [(b1, .cells ⟨f.cells⟩ 25 (0, 0))], mn.A0, mn.As.flatten]) (fun w' H => hp_cnt (R := [mi.A0, mi.As.flatten, mo.A0, mo.As.flatten, [(b1, .cells ⟨f.cells⟩ 25 (0, 0))], mn.A0, mn.As.flatten]) [] H (fun x => by
            have e1 := cnt_erase mo.As i hao x
            simp only [List.cons_append, List.nil_append, List.flatten_append, List.flatten_cons, List.flatten_nil, List.count_append, List.count_cons, List.count_nil, List.append_nil]
            omega)) ?_
          refine gc_draw [ao, (mo.As.eraseIdx i).flatten, mo.A0, mi.A0, mi.As.flatten, [(b1, .cells ⟨f.cells⟩ 25 (0, 0))], mn.A0, mn.As.flatten] [] rfl (by simp) ?_
          (refine ga_p 0 (by repeat first | exact NoP.sp | apply NoP.then | apply NoP.block) rfl (pv_spec rfl) rfl (by kernel_rfl) (by kernel_rfl) (by kernel_rfl) ?_); (refine ga_p 1 (by repeat first | exact NoP.sp | apply NoP.then | apply NoP.block) rfl (pv_spec rfl) rfl (by kernel_rfl) (by kernel_rfl) (by kernel_rfl) ?_)
          refine ga_at 2 3 (l := mo.vals) (f := fV) (u := .slice (some ⟨g9, 0, none⟩) (ob.getD i []).length cap9) (by repeat first | exact NoP.sp | apply NoP.then | apply NoP.block) rfl wanted_none rfl (fun a _ => wanted_none a) rfl rfl rfl rfl rfl (Int.natCast_nonneg i) (by omega) (still_rd 2 rfl (fun _ => rfl) hmo.row rfl) huo rfl rfl rfl rfl (by kernel_rfl) (by kernel_rfl) (by kernel_rfl) (by kernel_rfl) (by kernel_rfl) (fun _ => ?_)
          (refine ga_p 4 (by repeat first | exact NoP.sp | apply NoP.then | apply NoP.block) rfl (pv_spec rfl) rfl (by kernel_rfl) (by kernel_rfl) (by kernel_rfl) ?_); (refine ga_p 5 (by repeat first | exact NoP.sp | apply NoP.then | apply NoP.block) rfl (pv_spec rfl) rfl (by kernel_rfl) (by kernel_rfl) (by kernel_rfl) ?_); (refine ga_p 6 (by repeat first | exact NoP.sp | apply NoP.then | apply NoP.block) rfl (pv_spec rfl) rfl (by kernel_rfl) (by kernel_rfl) (by kernel_rfl) ?_)
          refine ga_at 7 8 (l := mo.vals) (f := fV) (u := .slice (some ⟨g9, 0, none⟩) (ob.getD i []).length cap9) (by repeat first | exact NoP.sp | apply NoP.then | apply NoP.block) rfl wanted_none rfl (fun a _ => wanted_none a) rfl rfl rfl rfl rfl (Int.natCast_nonneg i) (by omega) (still_rd 2 rfl (fun _ => rfl) hmo.row rfl) huo rfl rfl rfl rfl (by kernel_rfl) (by kernel_rfl) (by kernel_rfl) (by kernel_rfl) (by kernel_rfl) (fun _ => ?_)
          (refine ga_p 9 (by repeat first | exact NoP.sp | apply NoP.then | apply NoP.block) rfl (pv_spec rfl) rfl (by kernel_rfl) (by kernel_rfl) (by kernel_rfl) ?_)
          refine ga_at 10 11 (l := ob.getD i []) (f := fB) (u := (ob.getD i []).getD t false) (by repeat first | exact NoP.sp | apply NoP.then | apply NoP.block) rfl wanted_none rfl (fun a _ => wanted_none a) rfl rfl rfl rfl rfl (Int.natCast_nonneg t) (by omega) (still_rd 0 rfl (fun _ => rfl) hoo rfl) hot rfl rfl rfl rfl (by kernel_rfl) (by kernel_rfl) (by kernel_rfl) (by kernel_rfl) (by kernel_rfl) (fun _ => ?_)
          (refine ga_p 12 (by repeat first | exact NoP.sp | apply NoP.then | apply NoP.block) rfl (pv_spec rfl) rfl (by kernel_rfl) (by kernel_rfl) (by kernel_rfl) ?_)
          refine ga_case (t := 90) rfl (fun h => ?_) (fun h => ?_)
          · obtain ⟨ob2, hob2, hnew⟩ := hset (.inl h)
            (refine ga_n 13 (by repeat first | exact NoP.sp | apply NoP.then | apply NoP.block) rfl rfl rfl rfl rfl rfl (by kernel_rfl) (by kernel_rfl) (by kernel_rfl) ?_); (refine ga_n 14 (by repeat first | exact NoP.sp | apply NoP.then | apply NoP.block) rfl rfl rfl rfl rfl rfl (by kernel_rfl) (by kernel_rfl) (by kernel_rfl) ?_); (refine ga_n 15 (by repeat first | exact NoP.sp | apply NoP.then | apply NoP.block) rfl rfl rfl rfl rfl rfl (by kernel_rfl) (by kernel_rfl) (by kernel_rfl) ?_); (refine ga_n 16 (by repeat first | exact NoP.sp | apply NoP.then | apply NoP.block) rfl rfl rfl rfl rfl rfl (by kernel_rfl) (by kernel_rfl) (by kernel_rfl) ?_); (refine ga_n 17 (by repeat first | exact NoP.sp | apply NoP.then | apply NoP.block) rfl rfl rfl rfl rfl rfl (by kernel_rfl) (by kernel_rfl) (by kernel_rfl) ?_); (refine ga_n 18 (by repeat first | exact NoP.sp | apply NoP.then | apply NoP.block) rfl rfl rfl rfl rfl rfl (by kernel_rfl) (by kernel_rfl) (by kernel_rfl) ?_); (refine ga_n 19 (by repeat first | exact NoP.sp | apply NoP.then | apply NoP.block) rfl rfl rfl rfl rfl rfl (by kernel_rfl) (by kernel_rfl) (by kernel_rfl) ?_); (refine ga_n 20 (by repeat first | exact NoP.sp | apply NoP.then | apply NoP.block) rfl rfl rfl rfl rfl rfl (by kernel_rfl) (by kernel_rfl) (by kernel_rfl) ?_); (refine ga_n 21 (by repeat first | exact NoP.sp | apply NoP.then | apply NoP.block) rfl rfl rfl rfl rfl rfl (by kernel_rfl) (by kernel_rfl) (by kernel_rfl) ?_); (refine ga_n 22 (by repeat first | exact NoP.sp | apply NoP.then | apply NoP.block) rfl rfl rfl rfl rfl rfl (by kernel_rfl) (by kernel_rfl) (by kernel_rfl) ?_); (refine ga_n 23 (by repeat first | exact NoP.sp | apply NoP.then | apply NoP.block) rfl rfl rfl rfl rfl rfl (by kernel_rfl) (by kernel_rfl) (by kernel_rfl) ?_); (refine ga_n 24 (by repeat first | exact NoP.sp | apply NoP.then | apply NoP.block) rfl rfl rfl rfl rfl rfl (by kernel_rfl) (by kernel_rfl) (by kernel_rfl) ?_); (refine ga_n 25 (by repeat first | exact NoP.sp | apply NoP.then | apply NoP.block) rfl rfl rfl rfl rfl rfl (by kernel_rfl) (by kernel_rfl) (by kernel_rfl) ?_); (refine ga_p 26 (by repeat first | exact NoP.sp | apply NoP.then | apply NoP.block) rfl (pv_spec rfl) rfl (by kernel_rfl) (by kernel_rfl) (by kernel_rfl) ?_)
            refine ga_p 27 (by repeat first | exact NoP.sp | apply NoP.then | apply NoP.block) rfl (p_ix rfl rfl rfl rfl (Int.natCast_nonneg t) (by omega)) rfl (by kernel_rfl) (by kernel_rfl) (by kernel_rfl) ?_
            refine ga_one (i := 28) (by kernel_rfl) (gs_last rfl (by kernel_rfl) (by kernel_rfl) (fun K hK => ?_))
            refine g_stL 0 (f := fB) (q := true) (i := t) rfl rfl rfl rfl hoo (fun _ => rfl) (by simp) (by omega) rfl rfl (fun ao2 hoo2 => ?_)
            refine g_nil ?_
            refine hK _ _ ?_
            have hup := hmo.upd huo hoo2
            rw [← hob2] at hup
            repeat' (first | refine g_pv rfl rfl ?_ | refine g_nil ?_ | refine gq_then ?_ | refine gc_region ?_ | refine gq_block ?_)
            exact gq_again (t + 1, ob2, ⟨mo.A0, mo.As.set i ao2, mo.vals⟩) ⟨htlt, hup, hnew⟩ (by simp only; omega) ⟨rfl, rfl, rfl, rfl, rfl, rfl, rfl, rfl, rfl, inc_eq (by omega), trivial⟩ (fun w' H => hp_cnt (R := [ao2, (mo.As.eraseIdx i).flatten, mo.A0, mi.A0, mi.As.flatten, [(b1, .cells ⟨f.cells⟩ 25 (0, 0))], mn.A0, mn.As.flatten]) [] H (fun x => by
              have e2 := cnt_set mo.As i (B := ao2) (by omega) x
              simp only [List.cons_append, List.nil_append, List.flatten_append, List.flatten_cons, List.flatten_nil, List.count_append, List.count_cons, List.count_nil, List.append_nil]
              omega))
          · have hnob : ¬ bI ob i t := fun hb => by unfold bI mk' at hb; rw [hb] at h; cases h
            (refine ga_py 13 (by repeat first | exact NoP.sp | apply NoP.then | apply NoP.block) rfl rfl rfl rfl (pv_spec rfl) rfl (by kernel_rfl) (by kernel_rfl) (by kernel_rfl) ?_); (refine ga_py 14 (by repeat first | exact NoP.sp | apply NoP.then | apply NoP.block) rfl rfl rfl rfl (pv_spec rfl) rfl (by kernel_rfl) (by kernel_rfl) (by kernel_rfl) ?_); (refine ga_py 15 (by repeat first | exact NoP.sp | apply NoP.then | apply NoP.block) rfl rfl rfl rfl (pv_spec rfl) rfl (by kernel_rfl) (by kernel_rfl) (by kernel_rfl) ?_)
            refine ga_at 16 17 (l := mn.vals) (f := fV) (u := .slice uad (nxt f.code i).length ucap) (by repeat first | exact NoP.sp | apply NoP.then | apply NoP.block) rfl (wanted_yes rfl rfl rfl) rfl (fun a _ h => wanted_yes rfl rfl rfl a h) rfl rfl rfl rfl rfl (Int.natCast_nonneg i) (by omega) (still_rd 6 rfl (fun _ => rfl) hmn.row rfl) hu rfl rfl rfl rfl (by kernel_rfl) (by kernel_rfl) (by kernel_rfl) (by kernel_rfl) (by kernel_rfl) (fun _ => ?_)
            (refine ga_py 18 (by repeat first | exact NoP.sp | apply NoP.then | apply NoP.block) rfl rfl rfl rfl (pv_spec rfl) rfl (by kernel_rfl) (by kernel_rfl) (by kernel_rfl) ?_)
            refine ga_at 19 20 (l := nxt f.code i) (f := fI) (u := (v : Int)) (by repeat first | exact NoP.sp | apply NoP.then | apply NoP.block) rfl (wanted_yes rfl rfl rfl) rfl (fun a _ h => wanted_yes rfl rfl rfl a h) rfl rfl rfl rfl rfl (Int.natCast_nonneg q) (by omega) (still_in 7 rfl (fun _ => rfl) hon hanm) hvq rfl rfl rfl rfl (by kernel_rfl) (by kernel_rfl) (by kernel_rfl) (by kernel_rfl) (by kernel_rfl) (fun _ => ?_)
            refine ga_at 21 22 (l := mi.vals) (f := fV) (u := .slice (some ⟨g7, 0, none⟩) (ib.getD v []).length cap7) (by repeat first | exact NoP.sp | apply NoP.then | apply NoP.block) rfl (wanted_yes rfl rfl rfl) rfl (fun a _ h => wanted_yes rfl rfl rfl a h) rfl rfl rfl rfl rfl (Int.natCast_nonneg v) (by omega) (still_rd 3 rfl (fun _ => rfl) hmi.row rfl) hui rfl rfl rfl rfl (by kernel_rfl) (by kernel_rfl) (by kernel_rfl) (by kernel_rfl) (by kernel_rfl) (fun _ => ?_)
            (refine ga_py 23 (by repeat first | exact NoP.sp | apply NoP.then | apply NoP.block) rfl rfl rfl rfl (pv_spec rfl) rfl (by kernel_rfl) (by kernel_rfl) (by kernel_rfl) ?_)
            refine ga_at 24 25 (l := ib.getD v []) (f := fB) (u := (ib.getD v []).getD t false) (by repeat first | exact NoP.sp | apply NoP.then | apply NoP.block) rfl (wanted_yes rfl rfl rfl) rfl (fun a _ h => wanted_yes rfl rfl rfl a h) rfl rfl rfl rfl rfl (Int.natCast_nonneg t) (by omega) (still_in 4 rfl (fun _ => rfl) hoi haim) hit rfl rfl rfl rfl (by kernel_rfl) (by kernel_rfl) (by kernel_rfl) (by kernel_rfl) (by kernel_rfl) (fun _ => ?_)
            (refine ga_p 26 (by repeat first | exact NoP.sp | apply NoP.then | apply NoP.block) rfl (pv_spec rfl) rfl (by kernel_rfl) (by kernel_rfl) (by kernel_rfl) ?_)
            refine ga_p 27 (by repeat first | exact NoP.sp | apply NoP.then | apply NoP.block) rfl (p_ix rfl rfl rfl rfl (Int.natCast_nonneg t) (by omega)) rfl (by kernel_rfl) (by kernel_rfl) (by kernel_rfl) ?_
            refine ga_one (i := 28) (by kernel_rfl) (gs_last rfl (by kernel_rfl) (by kernel_rfl) (fun K hK => ?_))
            refine g_stL 0 (f := fB) (q := (ib.getD v []).getD t false) (i := t) rfl rfl rfl rfl hoo (fun _ => rfl) (by simp) (by omega) rfl rfl (fun ao2 hoo2 => ?_)
            refine g_nil ?_
            refine hK _ _ ?_
            have hup := hmo.upd huo hoo2
            have hnew : ∃ ob2, ob2 = ob.set i ((ob.getD i []).set t ((ib.getD v []).getD t false)) ∧ PInv f.code T U ib ob2 tn ∧ (tn = false → ∀ j, i < j → j < f.code.length → Clo f.code T ib ob2 j) ∧ (∀ v : Nat, (v : Int) ∈ (nxt f.code i).take q → ∀ t, t < T → bI ib v t → bI ob2 i t) ∧ ∀ s, s < t + 1 → bI ib v s → bI ob2 i s := by
              cases hbv : (ib.getD v []).getD t false with
              | true => exact hset (.inr hbv)
              | false =>
                have h2 : (ob.getD i []).getD t false = false := h
                have e := bI_same hP.d2 hlt htlt
                rw [h2] at e
                have hnib : ¬ bI ib v t := fun hb => by unfold bI mk' at hb; rw [hb] at hbv; cases hbv
                refine ⟨ob, e.symm, hfin hP (fun j s => ⟨.inr, fun h3 => h3.elim (fun ⟨_, _, h4⟩ => absurd h4 (fun h5 => h5.elim hnob hnib)) id⟩) ⟨_, e.symm⟩⟩
            obtain ⟨ob2, hob2, hnew⟩ := hnew
            rw [← hob2] at hup
            repeat' (first | refine g_pv rfl rfl ?_ | refine g_nil ?_ | refine gq_then ?_ | refine gc_region ?_ | refine gq_block ?_)
            exact gq_again (t + 1, ob2, ⟨mo.A0, mo.As.set i ao2, mo.vals⟩) ⟨htlt, hup, hnew⟩ (by simp only; omega) ⟨rfl, rfl, rfl, rfl, rfl, rfl, rfl, rfl, rfl, inc_eq (by omega), trivial⟩ (fun w' H => hp_cnt (R := [ao2, (mo.As.eraseIdx i).flatten, mo.A0, mi.A0, mi.As.flatten, [(b1, .cells ⟨f.cells⟩ 25 (0, 0))], mn.A0, mn.As.flatten]) [] H (fun x => by
              have e2 := cnt_set mo.As i (B := ao2) (by omega) x
              simp only [List.cons_append, List.nil_append, List.flatten_append, List.flatten_cons, List.flatten_nil, List.count_append, List.count_cons, List.count_nil, List.append_nil]
              omega))
        · have hte : t = T := by have := of_decide_eq_false hc; omega
          subst hte
          repeat' (first | refine g_pv rfl rfl ?_ | refine g_nil ?_ | refine gq_then ?_ | refine gc_region ?_ | refine gc_exit ?_ | refine gq_then_exit ?_ | refine gq_block ?_ | refine gq_block_exit ?_)
          refine gq_again (q + 1, ob, mo) ⟨hqlt, hmo, hP, hclo, fun v' h1 s h2 h3 => ?_⟩ (by simp only; omega) ⟨rfl, rfl, rfl, rfl, rfl, rfl, rfl, rfl, inc_eq (by omega), trivial⟩ (fun w' H => H)
          simp only at h1
          rw [htk] at h1
          rcases List.mem_append.1 h1 with h4 | h4
          · exact hdn v' h4 s h2 h3
          · have e : v' = v := by simp at h4; omega
            subst e; exact hdt s h2 h3
      have hqe : q = (nxt f.code i).length := by have := of_decide_eq_false hc; omega
      rw [hqe, List.take_length] at hdn
      clear hq hqe hc
      repeat' (first | refine g_pv rfl rfl ?_ | refine g_nil ?_ | refine gq_then ?_ | refine gc_seq ?_ | refine gc_region ?_ | refine gc_block ?_ | refine gc_exit ?_ | refine gq_then_exit ?_ | refine gq_block_exit ?_)
      refine gc_loop (Y := Nat × LS) (fun y => y.1 ≤ T ∧ OwnB2 (.slice (some ⟨gi, 0, none⟩) f.code.length f.code.length) y.2.ib y.2.mi ∧ PInv f.code T U y.2.ib ob y.2.tn ∧ (y.2.tn = false → (∀ j, i < j → j < f.code.length → Clo f.code T y.2.ib ob j) ∧ (∀ v : Nat, (v : Int) ∈ nxt f.code i → ∀ t, t < T → bI y.2.ib v t → bI ob i t) ∧ ∀ s, s < y.1 → bI ob i s → x.writes ≠ (s : Int) → bI y.2.ib i s))
        (fun y => [(1, .pointer (some ⟨b1, 0, none⟩)), (5, .int .i64 f.code.length), (6, .slice adn mn.vals.length capn), (7, .slice (some ⟨gi, 0, none⟩) f.code.length f.code.length), (8, .slice (some ⟨go, 0, none⟩) f.code.length f.code.length), (10, .bool y.2.tn), (11, .int .i64 (i : Nat)), (12, .int .i64 x.writes), (15, .int .i64 y.1)]) (fun y => [y.2.mi.A0, y.2.mi.As.flatten, mo.A0, mo.As.flatten, [(b1, .cells ⟨f.cells⟩ 25 (0, 0))], mn.A0, mn.As.flatten])
        (fun y => T - y.1) (0, ⟨ib, ob, mi, mo, tn⟩) ⟨Nat.zero_le _, hmi, hP, fun h => ⟨hclo h, hdn, fun s h => absurd h (by omega)⟩⟩ ⟨rfl, rfl, rfl, rfl, rfl, rfl, rfl, rfl, rfl, trivial⟩ (fun w' H => H) ?_
      clear hmi hP hclo hdn
      rintro ⟨t, ⟨ib, _, mi, _, tn⟩⟩ ⟨htT, hmi, hP, hclo⟩
      try dsimp only at htT hmi hP hclo ⊢
      repeat' (first | refine g_pv rfl rfl ?_ | refine g_ld 4 rfl rfl rfl rfl rfl rfl ?_ | refine g_nil ?_ | refine gq_then ?_ | refine gc_seq ?_ | refine gc_region ?_)
      refine gc_condC rfl (fun hc => ?_) (fun hc => ?_)
      · have htlt : t < T := by have := of_decide_eq_true hc; omega
        have hol := hP.d2.2 i hlt
        have hil := hP.d1.2 i hlt
        obtain ⟨uo, ao, huo, hao, hoo⟩ := hmo.get (i := i) (by rw [hP.d2.1]; exact hlt)
        obtain ⟨uad9, cap9, rfl, _⟩ := Own.shape hoo
        obtain ⟨ui, ai, hui, hai, hoi⟩ := hmi.get (i := i) (by rw [hP.d1.1]; exact hlt)
        obtain ⟨g7, cap7, _, rfl, _, _, _, _⟩ := Own.pos hoi (by omega)
        have hvi : mi.vals.length = f.code.length := by rw [hmi.len, hP.d1.1]
        have hai2 : mi.As.length = f.code.length := by rw [hmi.alen, hP.d1.1]
        have hot : (ob.getD i [])[t]? = some ((ob.getD i []).getD t false) := getD_some (by omega)
        have hit : (ib.getD i [])[t]? = some ((ib.getD i []).getD t false) := getD_some (by omega)
        have hstay : (bI ob i t → x.writes ≠ (t : Int) → bI ib i t) → (tn = false → (∀ j, i < j → j < f.code.length → Clo f.code T ib ob j) ∧ (∀ v : Nat, (v : Int) ∈ nxt f.code i → ∀ t, t < T → bI ib v t → bI ob i t) ∧ ∀ s, s < t + 1 → bI ob i s → x.writes ≠ (s : Int) → bI ib i s) := fun h1 h2 => ⟨(hclo h2).1, (hclo h2).2.1, fun s hs h3 h4 => by
          by_cases hst : s = t
          · subst hst; exact h1 h3 h4
          · exact (hclo h2).2.2 s (by omega) h3 h4⟩
        repeat' (first | refine g_pv rfl rfl ?_ | refine gq_then ?_ | refine gc_seq ?_ | refine gc_region ?_ | refine gc_block ?_ | refine gc_skip ?_)
        refine g_heap (R' := [ai, (mi.As.eraseIdx i).flatten, mi.A0, mo.A0, mo.As.flatten, [(b1, .cells ⟨f.cells⟩ 25 (0, 0))], mn.A0, mn.As.flatten]) (fun w' H => hp_cnt (R := [mi.A0, mi.As.flatten, mo.A0, mo.As.flatten, [(b1, .cells ⟨f.cells⟩ 25 (0, 0))], mn.A0, mn.As.flatten]) [] H (fun x => by
          have e1 := cnt_erase mi.As i hai x
          simp only [List.cons_append, List.nil_append, List.flatten_append, List.flatten_cons, List.flatten_nil, List.count_append, List.count_cons, List.count_nil, List.append_nil]
          omega)) ?_
        repeat' (fail)
        refine g_atL 3 (f := fV) (q := .slice uad9 (ob.getD i []).length cap9) rfl rfl hmo.row (fun _ => rfl) rfl rfl rfl rfl (Int.natCast_nonneg i) (by simpa using huo) rfl rfl rfl (fun _ => ?_)
        repeat' (refine g_pv rfl rfl ?_)
        refine g_atG (l := ob.getD i []) (f := fB) (u := (ob.getD i []).getD t false) rfl rfl rfl rfl rfl (Int.natCast_nonneg t) (by omega) (fun w' H => ?_) hot rfl rfl rfl rfl (fun _ => ?_)
        · obtain ⟨ad', cap', he, hrd2⟩ := OwnL.rd (f := fB) (fun _ => rfl) hoo (H := hw w') (fun b o hb' => hp_in H 4 rfl b o (List.mem_flatten.2 ⟨ao, List.mem_of_getElem? hao, hb'⟩))
          have he' := (Value.slice.inj he).1
          subst he'; exact hrd2
        repeat' (refine g_pv rfl rfl ?_)
        refine g_case (t := 119) rfl (fun h => ?_) (fun h => ?_)
        · have hbo : bI ob i t := h
          repeat' (first | refine g_pv rfl rfl ?_ | refine g_yes rfl rfl rfl ?_)
          refine g_case (t := 124) rfl (fun h2 => ?_) (fun h2 => ?_)
          · have hwt : x.writes ≠ (t : Int) := fun e => by rw [e] at h2; simp at h2
            repeat' (first | refine g_pv rfl rfl ?_ | refine g_yes rfl rfl rfl ?_)
            refine g_ix rfl rfl rfl rfl (Int.natCast_nonneg i) (by omega) rfl ?_
            repeat' (refine g_yes rfl rfl rfl ?_)
            refine g_ldL 2 (f := fV) (i := i) rfl rfl rfl hmi.row (fun _ => rfl) (by simp) hui rfl rfl ?_
            repeat' (first | refine g_pv rfl rfl ?_ | refine g_yes rfl rfl rfl ?_)
            refine g_ix rfl rfl rfl rfl (Int.natCast_nonneg t) (by omega) rfl ?_
            repeat' (refine g_yes rfl rfl rfl ?_)
            refine g_ldL 0 (f := fB) (i := t) rfl rfl rfl hoi (fun _ => rfl) (by simp) hit rfl rfl ?_
            repeat' (first | refine g_pv rfl rfl ?_ | refine g_nil ?_ | refine gq_then ?_ | refine g_yes rfl rfl rfl ?_)
            refine gc_condC rfl (fun hq => ?_) (fun hq => ?_)
            · have hnib : ¬ bI ib i t := fun hb => by unfold bI mk' at hb; rw [hb] at hq; cases hq
              have hP2 := hP.inn hlt htlt hnib (by
                obtain ⟨v, h3, h4⟩ := hP.s2 i t hlt htlt hbo
                exact .next hxi hwt h3 h4)
              repeat' (first | refine g_pv rfl rfl ?_ | refine gc_seq ?_ | refine gc_region ?_)
              refine g_atL 2 (f := fV) (q := .slice (some ⟨g7, 0, none⟩) (ib.getD i []).length cap7) rfl rfl hmi.row (fun _ => rfl) rfl rfl rfl rfl (Int.natCast_nonneg i) (by simpa using hui) rfl rfl rfl (fun _ => ?_)
              repeat' (refine g_pv rfl rfl ?_)
              refine g_setL 0 (f := fB) (q := true) rfl rfl hoi (fun _ => rfl) rfl rfl rfl rfl (Int.natCast_nonneg t) (by omega) rfl rfl rfl rfl rfl (fun _ ai2 hoi2 => ?_)
              rw [Int.toNat_natCast] at hoi2
              have hup := hmi.upd hui (l := (ib.getD i []).set t true) (by
                have e : ((ib.getD i []).set t true).length = (ib.getD i []).length := by simp
                exact hoi2)
              repeat' (first | refine g_pv rfl rfl ?_ | refine g_nil ?_ | refine gq_then ?_ | refine gc_region ?_ | refine gq_block ?_)
              exact gq_again (t + 1, ⟨ib.set i ((ib.getD i []).set t true), ob, ⟨mi.A0, mi.As.set i ai2, mi.vals⟩, mo, true⟩) ⟨htlt, hup, hP2, fun h => (by cases h)⟩ (by simp only; omega) ⟨rfl, rfl, rfl, rfl, rfl, rfl, rfl, rfl, inc_eq (by omega), trivial⟩ (fun w' H => hp_cnt (R := [ai2, (mi.As.eraseIdx i).flatten, mi.A0, mo.A0, mo.As.flatten, [(b1, .cells ⟨f.cells⟩ 25 (0, 0))], mn.A0, mn.As.flatten]) [] H (fun x => by
                have e2 := cnt_set mi.As i (B := ai2) (by omega) x
                simp only [List.cons_append, List.nil_append, List.flatten_append, List.flatten_cons, List.flatten_nil, List.count_append, List.count_cons, List.count_nil, List.append_nil]
                omega))
            · have hib : bI ib i t := by unfold bI mk'; simpa using hq
              repeat' (first | refine g_pv rfl rfl ?_ | refine g_nil ?_ | refine gq_then ?_ | refine gc_region ?_ | refine gc_skip ?_ | refine gq_block ?_)
              exact gq_again (t + 1, ⟨ib, ob, mi, mo, tn⟩) ⟨htlt, hmi, hP, hstay (fun _ _ => hib)⟩ (by simp only; omega) ⟨rfl, rfl, rfl, rfl, rfl, rfl, rfl, rfl, inc_eq (by omega), trivial⟩ (fun w' H => hp_cnt (R := [ai, (mi.As.eraseIdx i).flatten, mi.A0, mo.A0, mo.As.flatten, [(b1, .cells ⟨f.cells⟩ 25 (0, 0))], mn.A0, mn.As.flatten]) [] H (fun x => by
            have e2 := cnt_erase mi.As i hai x
            simp only [List.cons_append, List.nil_append, List.flatten_append, List.flatten_cons, List.flatten_nil, List.count_append, List.count_cons, List.count_nil, List.append_nil]
            omega))
          · have hwt : x.writes = (t : Int) := by
              have : (t : Int) = x.writes := by simpa using h2
              exact this.symm
            repeat' (first | refine g_pv rfl rfl ?_ | refine g_nil ?_ | refine gq_then ?_ | refine gc_region ?_ | refine gc_cond_f rfl ?_ | refine gc_skip ?_ | refine gq_block ?_ | refine g_no rfl rfl rfl rfl rfl ?_)
            exact gq_again (t + 1, ⟨ib, ob, mi, mo, tn⟩) ⟨htlt, hmi, hP, hstay (fun _ h5 => absurd hwt h5)⟩ (by simp only; omega) ⟨rfl, rfl, rfl, rfl, rfl, rfl, rfl, rfl, inc_eq (by omega), trivial⟩ (fun w' H => hp_cnt (R := [ai, (mi.As.eraseIdx i).flatten, mi.A0, mo.A0, mo.As.flatten, [(b1, .cells ⟨f.cells⟩ 25 (0, 0))], mn.A0, mn.As.flatten]) [] H (fun x => by
            have e2 := cnt_erase mi.As i hai x
            simp only [List.cons_append, List.nil_append, List.flatten_append, List.flatten_cons, List.flatten_nil, List.count_append, List.count_cons, List.count_nil, List.append_nil]
            omega))
        · have hbo : ¬ bI ob i t := fun hb => by unfold bI mk' at hb; rw [hb] at h; cases h
          repeat' (first | refine g_pv rfl rfl ?_ | refine g_nil ?_ | refine gq_then ?_ | refine gc_region ?_ | refine gc_cond_f rfl ?_ | refine gc_skip ?_ | refine gq_block ?_ | refine g_no rfl rfl rfl rfl rfl ?_)
          exact gq_again (t + 1, ⟨ib, ob, mi, mo, tn⟩) ⟨htlt, hmi, hP, hstay (fun h5 => absurd h5 hbo)⟩ (by simp only; omega) ⟨rfl, rfl, rfl, rfl, rfl, rfl, rfl, rfl, inc_eq (by omega), trivial⟩ (fun w' H => hp_cnt (R := [ai, (mi.As.eraseIdx i).flatten, mi.A0, mo.A0, mo.As.flatten, [(b1, .cells ⟨f.cells⟩ 25 (0, 0))], mn.A0, mn.As.flatten]) [] H (fun x => by
            have e2 := cnt_erase mi.As i hai x
            simp only [List.cons_append, List.nil_append, List.flatten_append, List.flatten_cons, List.flatten_nil, List.count_append, List.count_cons, List.count_nil, List.append_nil]
            omega))
      have hte : t = T := by have := of_decide_eq_false hc; omega
      subst hte
      clear htT hc
      repeat' (first | refine g_pv rfl rfl ?_ | refine g_ld 4 rfl rfl rfl rfl rfl rfl ?_ | refine gq_then ?_ | refine gc_seq ?_ | refine gc_region ?_ | refine gc_exit ?_ | refine gq_then_exit ?_ | refine gq_block_exit ?_)
      refine g_at (l := f.code) (f := Ins.cells) (u := x) rfl rfl rfl rfl rfl (Int.natCast_nonneg i) (by omega) (hf.row.le (old_le0 _ w)) hxi rfl rfl rfl rfl (fun _ => ?_)
      refine g_call rfl (Cl.of Try.func37 rfl rfl) rfl rfl (fun w' hE => rreads_sp x w' (hx.le (fun b o h => old_le hE b o (old_le0 _ w b o h)))) rfl ?_
      rintro ⟨v16, A16⟩ ho16
      dsimp only at ho16 ⊢
      have hxr := hrr x hxm
      have hxl := reads_len hx
      obtain ⟨ad16, cap16, rfl, _⟩ := Own.shape ho16
      repeat' (first | refine g_pv rfl rfl ?_ | refine g_nil ?_ | refine gq_then ?_ | refine gc_seq ?_ | refine gc_region ?_ | refine gc_block ?_)
      refine gc_loop (Y := Nat × LS) (fun y => y.1 ≤ x.reads.length ∧ OwnB2 (.slice (some ⟨gi, 0, none⟩) f.code.length f.code.length) y.2.ib y.2.mi ∧ PInv f.code t U y.2.ib ob y.2.tn ∧ (y.2.tn = false → (∀ j, i < j → j < f.code.length → Clo f.code t y.2.ib ob j) ∧ (∀ v : Nat, (v : Int) ∈ nxt f.code i → ∀ s, s < t → bI y.2.ib v s → bI ob i s) ∧ (∀ s, s < t → bI ob i s → x.writes ≠ (s : Int) → bI y.2.ib i s) ∧ ∀ r : Nat, (r : Int) ∈ x.reads.take y.1 → bI y.2.ib i r))
        (fun y => [(1, .pointer (some ⟨b1, 0, none⟩)), (5, .int .i64 f.code.length), (6, .slice adn mn.vals.length capn), (7, .slice (some ⟨gi, 0, none⟩) f.code.length f.code.length), (8, .slice (some ⟨go, 0, none⟩) f.code.length f.code.length), (10, .bool y.2.tn), (11, .int .i64 (i : Nat)), (12, .int .i64 x.writes), (16, .slice ad16 x.reads.length cap16), (17, .int .i64 y.1)]) (fun y => [A16, y.2.mi.A0, y.2.mi.As.flatten, mo.A0, mo.As.flatten, [(b1, .cells ⟨f.cells⟩ 25 (0, 0))], mn.A0, mn.As.flatten])
        (fun y => x.reads.length - y.1) (0, ⟨ib, ob, mi, mo, tn⟩) ⟨Nat.zero_le _, hmi, hP, fun h => ⟨(hclo h).1, (hclo h).2.1, (hclo h).2.2, fun r hr => by simp at hr⟩⟩ ⟨rfl, rfl, rfl, rfl, rfl, rfl, rfl, rfl, rfl, rfl, trivial⟩ (fun w' H => H) ?_
      clear hmi hP hclo
      rintro ⟨q, ⟨ib, _, mi, _, tn⟩⟩ ⟨hq, hmi, hP, hclo⟩
      try dsimp only at hq hmi hP hclo ⊢
      repeat' (first | refine g_pv rfl rfl ?_ | refine g_nil ?_ | refine gq_then ?_ | refine gc_seq ?_ | refine gc_region ?_)
      refine gc_condC rfl (fun hc => ?_) (fun hc => ?_)
      · have hqlt : q < x.reads.length := by have := of_decide_eq_true hc; omega
        have hrq : x.reads[q]? = some x.reads[q] := List.getElem?_eq_getElem hqlt
        have hrm := List.getElem_mem hqlt
        have hr0 := hxr _ hrm
        have htk : x.reads.take (q + 1) = x.reads.take q ++ [x.reads[q]] := List.take_succ_eq_append_getElem hqlt
        generalize x.reads[q] = rz at hrq hrm hr0 htk
        obtain ⟨r, rfl⟩ : ∃ r : Nat, rz = r := ⟨rz.toNat, by omega⟩
        have hrt : r < t := by omega
        have hil := hP.d1.2 i hlt
        obtain ⟨ui, ai, hui, hai, hoi⟩ := hmi.get (i := i) (by rw [hP.d1.1]; exact hlt)
        obtain ⟨g7, cap7, _, rfl, _, _, _, _⟩ := Own.pos hoi (by omega)
        have hvi : mi.vals.length = f.code.length := by rw [hmi.len, hP.d1.1]
        have hai2 : mi.As.length = f.code.length := by rw [hmi.alen, hP.d1.1]
        have hit : (ib.getD i [])[r]? = some ((ib.getD i []).getD r false) := getD_some (by omega)
        have haim : ∀ p, p ∈ ai → p ∈ mi.As.flatten := fun p hp => List.mem_flatten.2 ⟨ai, List.mem_of_getElem? hai, hp⟩
        repeat' (first | refine gq_then ?_ | refine gc_seq ?_ | refine gc_block ?_ | refine gc_skip ?_)
        refine gc_draw [A16, mi.A0, mi.As.flatten, mo.A0, mo.As.flatten, [(b1, .cells ⟨f.cells⟩ 25 (0, 0))], mn.A0, mn.As.flatten] [] rfl (by simp) ?_
        (refine ga_p 0 (by repeat first | exact NoP.sp | apply NoP.then | apply NoP.block) rfl (pv_spec rfl) rfl (by kernel_rfl) (by kernel_rfl) (by kernel_rfl) ?_); (refine ga_p 1 (by repeat first | exact NoP.sp | apply NoP.then | apply NoP.block) rfl (pv_spec rfl) rfl (by kernel_rfl) (by kernel_rfl) (by kernel_rfl) ?_)
        refine ga_at 2 3 (l := mi.vals) (f := fV) (u := .slice (some ⟨g7, 0, none⟩) (ib.getD i []).length cap7) (by repeat first | exact NoP.sp | apply NoP.then | apply NoP.block) rfl wanted_none rfl (fun a _ => wanted_none a) rfl rfl rfl rfl rfl (Int.natCast_nonneg i) (by omega) (still_rd 1 rfl (fun _ => rfl) hmi.row rfl) hui rfl rfl rfl rfl (by kernel_rfl) (by kernel_rfl) (by kernel_rfl) (by kernel_rfl) (by kernel_rfl) (fun _ => ?_)
        (refine ga_p 4 (by repeat first | exact NoP.sp | apply NoP.then | apply NoP.block) rfl (pv_spec rfl) rfl (by kernel_rfl) (by kernel_rfl) (by kernel_rfl) ?_); (refine ga_p 5 (by repeat first | exact NoP.sp | apply NoP.then | apply NoP.block) rfl (pv_spec rfl) rfl (by kernel_rfl) (by kernel_rfl) (by kernel_rfl) ?_)
        refine ga_at 6 7 (l := x.reads) (f := fI) (u := (r : Int)) (by repeat first | exact NoP.sp | apply NoP.then | apply NoP.block) rfl wanted_none rfl (fun a _ => wanted_none a) rfl rfl rfl rfl rfl (Int.natCast_nonneg q) (by omega) (still_rd 0 rfl (fun _ => rfl) ho16 rfl) hrq rfl rfl rfl rfl (by kernel_rfl) (by kernel_rfl) (by kernel_rfl) (by kernel_rfl) (by kernel_rfl) (fun _ => ?_)
        refine ga_at 8 9 (l := ib.getD i []) (f := fB) (u := (ib.getD i []).getD r false) (by repeat first | exact NoP.sp | apply NoP.then | apply NoP.block) rfl wanted_none rfl (fun a _ => wanted_none a) rfl rfl rfl rfl rfl (Int.natCast_nonneg r) (by omega) (still_in 2 rfl (fun _ => rfl) hoi haim) hit rfl rfl rfl rfl (by kernel_rfl) (by kernel_rfl) (by kernel_rfl) (by kernel_rfl) (by kernel_rfl) (fun _ => ?_)
        (refine ga_p 10 (by repeat first | exact NoP.sp | apply NoP.then | apply NoP.block) rfl (pv_spec rfl) rfl (by kernel_rfl) (by kernel_rfl) (by kernel_rfl) ?_)
        refine ga_nil (by kernel_rfl) ?_
        repeat' (refine gq_then ?_)
        refine gc_condC rfl (fun hm => ?_) (fun hm => ?_)
        · have hnib : ¬ bI ib i r := fun hb => by unfold bI mk' at hb; rw [hb] at hm; cases hm
          have hP2 := hP.inn hlt hrt hnib (.read hxi hrm)
          repeat' (refine gc_seq ?_)
          refine gc_heap (R' := [ai, (mi.As.eraseIdx i).flatten, A16, mi.A0, mo.A0, mo.As.flatten, [(b1, .cells ⟨f.cells⟩ 25 (0, 0))], mn.A0, mn.As.flatten]) (fun w' H => hp_cnt (R := [A16, mi.A0, mi.As.flatten, mo.A0, mo.As.flatten, [(b1, .cells ⟨f.cells⟩ 25 (0, 0))], mn.A0, mn.As.flatten]) [] H (fun x => by
            have e1 := cnt_erase mi.As i hai x
            simp only [List.cons_append, List.nil_append, List.flatten_append, List.flatten_cons, List.flatten_nil, List.count_append, List.count_cons, List.count_nil, List.append_nil]
            omega)) ?_
          refine gc_draw [ai, (mi.As.eraseIdx i).flatten, A16, mi.A0, mo.A0, mo.As.flatten, [(b1, .cells ⟨f.cells⟩ 25 (0, 0))], mn.A0, mn.As.flatten] [] rfl (by simp) ?_
          (refine ga_p 0 (by repeat first | exact NoP.sp | apply NoP.then | apply NoP.block) rfl (pv_spec rfl) rfl (by kernel_rfl) (by kernel_rfl) (by kernel_rfl) ?_); (refine ga_p 1 (by repeat first | exact NoP.sp | apply NoP.then | apply NoP.block) rfl (pv_spec rfl) rfl (by kernel_rfl) (by kernel_rfl) (by kernel_rfl) ?_)
          refine ga_at 2 3 (l := mi.vals) (f := fV) (u := .slice (some ⟨g7, 0, none⟩) (ib.getD i []).length cap7) (by repeat first | exact NoP.sp | apply NoP.then | apply NoP.block) rfl wanted_none rfl (fun a _ => wanted_none a) rfl rfl rfl rfl rfl (Int.natCast_nonneg i) (by omega) (still_rd 3 rfl (fun _ => rfl) hmi.row rfl) hui rfl rfl rfl rfl (by kernel_rfl) (by kernel_rfl) (by kernel_rfl) (by kernel_rfl) (by kernel_rfl) (fun _ => ?_)
          (refine ga_p 4 (by repeat first | exact NoP.sp | apply NoP.then | apply NoP.block) rfl (pv_spec rfl) rfl (by kernel_rfl) (by kernel_rfl) (by kernel_rfl) ?_); (refine ga_p 5 (by repeat first | exact NoP.sp | apply NoP.then | apply NoP.block) rfl (pv_spec rfl) rfl (by kernel_rfl) (by kernel_rfl) (by kernel_rfl) ?_)
          refine ga_at 6 7 (l := x.reads) (f := fI) (u := (r : Int)) (by repeat first | exact NoP.sp | apply NoP.then | apply NoP.block) rfl wanted_none rfl (fun a _ => wanted_none a) rfl rfl rfl rfl rfl (Int.natCast_nonneg q) (by omega) (still_rd 2 rfl (fun _ => rfl) ho16 rfl) hrq rfl rfl rfl rfl (by kernel_rfl) (by kernel_rfl) (by kernel_rfl) (by kernel_rfl) (by kernel_rfl) (fun _ => ?_)
          refine ga_p 8 (by repeat first | exact NoP.sp | apply NoP.then | apply NoP.block) rfl (p_ix rfl rfl rfl rfl (Int.natCast_nonneg r) (by omega)) rfl (by kernel_rfl) (by kernel_rfl) (by kernel_rfl) ?_
          refine ga_one (i := 9) (by kernel_rfl) (gs_last rfl (by kernel_rfl) (by kernel_rfl) (fun K hK => ?_))
          refine g_stL 0 (f := fB) (q := true) (i := r) rfl rfl rfl rfl hoi (fun _ => rfl) (by simp) (by omega) rfl rfl (fun ai2 hoi2 => ?_)
          refine g_nil ?_
          refine hK _ _ ?_
          have hup := hmi.upd hui hoi2
          repeat' (first | refine g_pv rfl rfl ?_ | refine g_nil ?_ | refine gq_then ?_ | refine gc_region ?_ | refine gq_block ?_)
          exact gq_again (q + 1, ⟨ib.set i ((ib.getD i []).set r true), ob, ⟨mi.A0, mi.As.set i ai2, mi.vals⟩, mo, true⟩) ⟨hqlt, hup, hP2, fun h => (by cases h)⟩ (by simp only; omega) ⟨rfl, rfl, rfl, rfl, rfl, rfl, rfl, rfl, rfl, inc_eq (by omega), trivial⟩ (fun w' H => hp_cnt (R := [ai2, (mi.As.eraseIdx i).flatten, A16, mi.A0, mo.A0, mo.As.flatten, [(b1, .cells ⟨f.cells⟩ 25 (0, 0))], mn.A0, mn.As.flatten]) [] H (fun x => by
            have e2 := cnt_set mi.As i (B := ai2) (by omega) x
            simp only [List.cons_append, List.nil_append, List.flatten_append, List.flatten_cons, List.flatten_nil, List.count_append, List.count_cons, List.count_nil, List.append_nil]
            omega))
        · have hib : bI ib i r := by unfold bI mk'; simpa using hm
          repeat' (first | refine g_pv rfl rfl ?_ | refine g_nil ?_ | refine gq_then ?_ | refine gc_region ?_ | refine gc_skip ?_ | refine gq_block ?_)
          refine gq_again (q + 1, ⟨ib, ob, mi, mo, tn⟩) ⟨hqlt, hmi, hP, fun h => ⟨(hclo h).1, (hclo h).2.1, (hclo h).2.2.1, fun r' h1 => ?_⟩⟩ (by simp only; omega) ⟨rfl, rfl, rfl, rfl, rfl, rfl, rfl, rfl, rfl, inc_eq (by omega), trivial⟩ (fun w' H => H)
          rw [htk] at h1
          rcases List.mem_append.1 h1 with h4 | h4
          · exact (hclo h).2.2.2 r' h4
          · have e : r' = r := by simp at h4; omega
            subst e; exact hib
      have hqe : q = x.reads.length := by have := of_decide_eq_false hc; omega
      rw [hqe, List.take_length] at hclo
      repeat' (first | refine g_pv rfl rfl ?_ | refine g_nil ?_ | refine gq_then ?_ | refine gc_region ?_ | refine gc_exit ?_ | refine gq_then_exit ?_ | refine gq_block ?_ | refine gq_block_exit ?_)
      refine gq_again (k + 1, ⟨ib, ob, mi, mo, tn⟩) ⟨hklt, hmi, hmo, hP, fun h j h1 h2 => ?_⟩ (by simp only; omega) ⟨rfl, rfl, rfl, rfl, rfl, rfl, ?_, trivial⟩ (fun w' H => hp_tail H)
      · by_cases hji : j = i
        · subst hji
          refine ⟨(hclo h).2.1, fun y hy => ?_⟩
          rw [hxi] at hy; cases hy
          exact ⟨(hclo h).2.2.1, fun s hs => (hclo h).2.2.2 s hs⟩
        · exact (hclo h).1 j (by simp only at h1; omega) h2
      · exact congrArg (fun z => some (Value.int .i64 z)) (by rw [IntKind.wrap_i64]; omega)
    · have hke : k = f.code.length := by have := of_decide_eq_false hc; omega
      have hP2 : PInv f.code T (unmT ib + 1) ib ob tn := ⟨hP.d1, hP.d2, hP.s1, hP.s2, by omega, fun _ => by omega⟩
      have hle := hP.le
      repeat' (first | refine gc_exit ?_ | refine gq_then_exit ?_ | refine gq_block ?_ | refine gq_block_exit ?_)
      refine gq_again ⟨ib, ob, mi, mo, tn⟩ ⟨hmi, hmo, hP2, fun h j h1 => hclo h j (by omega) h1⟩ ?_ ⟨rfl, rfl, rfl, rfl, rfl, rfl, trivial⟩ (fun w' H => H)
      cases tn with
      | true => have := hP.lt rfl; simp; omega
      | false => simp; omega
  subst hc
  obtain ⟨hfi, hfo⟩ := live_fin hP (hclo rfl) hrr
  have hd1 := hP.d1
  have hd2 := hP.d2
  clear hP hclo
  have hsi : ∀ i, i < f.code.length → IsSet (toldN (ib.getD i []) (ib.getD i []).length) (fun u => LiveIn f.code (u : Int) i) := fun i hi => (toldN_set _ _).congr (fun u => by
    rw [hfi i u, hd1.2 i hi]
    exact ⟨fun ⟨h1, h2⟩ => ⟨hi, h1, h2⟩, fun ⟨_, h1, h2⟩ => ⟨h1, h2⟩⟩)
  have hso : ∀ i, i < f.code.length → IsSet (toldN (ob.getD i []) (ob.getD i []).length) (fun u => LiveOut f.code (u : Int) i) := fun i hi => (toldN_set _ _).congr (fun u => by
    rw [hfo i u, hd2.2 i hi]
    exact ⟨fun ⟨h1, h2⟩ => ⟨hi, h1, h2⟩, fun ⟨_, h1, h2⟩ => ⟨h1, h2⟩⟩)
  have hvi : mi.vals.length = f.code.length := by rw [hmi.len, hd1.1]
  have hvo : mo.vals.length = f.code.length := by rw [hmo.len, hd2.1]
  repeat' (first | refine g_pv rfl rfl ?_ | refine g_nil ?_ | refine gq_then ?_ | refine gc_seq ?_ | refine gc_region ?_ | refine gc_block ?_ | refine gc_exit ?_ | refine gq_then_exit ?_ | refine gq_block_exit ?_)
  refine gc_loop (Y := Nat × LVA) (fun y => y.1 ≤ f.code.length ∧ OwnLL y.2.vi y.2.li y.2.mi ∧ OwnLL y.2.vo y.2.lo y.2.mo ∧ y.2.li.length = y.1 ∧ y.2.lo.length = y.1 ∧ (∀ (i : Nat) l, y.2.li[i]? = some l → IsSet l (fun u => LiveIn f.code (u : Int) i)) ∧ ∀ (i : Nat) l, y.2.lo[i]? = some l → IsSet l (fun u => LiveOut f.code (u : Int) i))
    (fun y => [(1, .pointer (some ⟨b1, 0, none⟩)), (5, .int .i64 f.code.length), (6, .slice adn mn.vals.length capn), (7, .slice (some ⟨gi, 0, none⟩) f.code.length f.code.length), (8, .slice (some ⟨go, 0, none⟩) f.code.length f.code.length), (18, y.2.vi), (19, y.2.vo), (20, .int .i64 y.1)]) (fun y => [y.2.mi.A0, y.2.mi.As.flatten, y.2.mo.A0, y.2.mo.As.flatten, mi.A0, mi.As.flatten, mo.A0, mo.As.flatten])
    (fun y => f.code.length - y.1) (0, ⟨.slice none 0 0, [], ⟨[], [], []⟩, .slice none 0 0, [], ⟨[], [], []⟩⟩) ⟨Nat.zero_le _, ownLL_nil, ownLL_nil, rfl, rfl, fun i l h => by simp at h, fun i l h => by simp at h⟩ ⟨rfl, rfl, rfl, rfl, rfl, rfl, rfl, rfl, trivial⟩ (fun w' H => hp_cnt (R := [mi.A0, mi.As.flatten, mo.A0, mo.As.flatten, [(b1, .cells ⟨f.cells⟩ 25 (0, 0))], mn.A0, mn.As.flatten]) ([(b1, .cells ⟨f.cells⟩ 25 (0, 0))] ++ mn.A0 ++ mn.As.flatten) H (fun a => by simp only [FM.hl, putC, Value.cells, List.cons_append, List.nil_append, List.set_cons_zero, List.set_cons_succ, List.flatten_append, List.flatten_cons, List.flatten_nil, List.count_append, List.count_cons, List.count_nil, List.append_nil, List.flatten_replicate_nil]; omega)) ?_
  rintro ⟨i, ⟨va, la, ma, vc, lc, mc⟩⟩ ⟨hi, hma, hmc, hla, hlc, hra, hrc⟩
  try dsimp only at hi hma hmc hla hlc hra hrc ⊢
  repeat' (first | refine g_pv rfl rfl ?_ | refine g_nil ?_ | refine gq_then ?_ | refine gc_seq ?_ | refine gc_region ?_)
  refine gc_condC rfl (fun hc => ?_) (fun hc => ?_)
  · have hlt : i < f.code.length := by have := of_decide_eq_true hc; omega
    obtain ⟨ui, ai, hui, hai, hoi⟩ := hmi.get (i := i) (by rw [hd1.1]; exact hlt)
    obtain ⟨adi, capi, rfl, _⟩ := Own.shape hoi
    obtain ⟨uo, ao, huo, hao, hoo⟩ := hmo.get (i := i) (by rw [hd2.1]; exact hlt)
    obtain ⟨ado, capo, rfl, _⟩ := Own.shape hoo
    have hli := hd1.2 i hlt
    have hlo := hd2.2 i hlt
    have hsi2 := hsi i hlt
    have hso2 := hso i hlt
    have hval : ma.vals.length = i := by rw [hma.len, hla]
    have hvcl : mc.vals.length = i := by rw [hmc.len, hlc]
    repeat' (first | refine g_pv rfl rfl ?_ | refine gq_then ?_ | refine gc_seq ?_ | refine gc_region ?_ | refine gc_block ?_ | refine gc_skip ?_)
    refine g_atL 4 (f := fV) (q := .slice adi (ib.getD i []).length capi) rfl rfl hmi.row (fun _ => rfl) rfl rfl rfl rfl (Int.natCast_nonneg i) (by simpa using hui) rfl rfl rfl (fun _ => ?_)
    repeat' (fail)
    refine g_call rfl (Cl.of Try.func30 rfl rfl) rfl rfl (fun w' hE => told_sp (ib.getD i []) _ _ w' ?_ (by omega)) rfl ?_
    · obtain ⟨ad', cap', he, hrd2⟩ := OwnL.rd (f := fB) (fun _ => rfl) hoi (H := hw w') (fun b o hb' => hp_in hE 5 rfl b o (List.mem_flatten.2 ⟨ai, List.mem_of_getElem? hai, hb'⟩))
      have he' := (Value.slice.inj he).1
      subst he'; exact hrd2
    rintro ⟨v1, A1⟩ ho1
    dsimp only at ho1 ⊢
    have hcell : v1.cells = ⟨fV v1⟩ ∧ (v1.oneCell') = true := by obtain ⟨_, _, rfl, _⟩ := Own.shape ho1; exact ⟨rfl, rfl⟩
    refine g_app1L 1 (f := fV) (q := v1) rfl rfl rfl rfl rfl rfl rfl rfl hcell.1 rfl rfl (by simp [hcell.2]) hma.row (by unfold maxLen; omega) (by show _ * 24 ≤ _; omega) rfl rfl (fun v4 A4 g4 ho4 => ?_)
    repeat' (first | refine g_pv rfl rfl ?_ | refine g_nil ?_ | refine gq_then ?_ | refine gc_region ?_)
    refine g_heap (R' := [A1, A4, ma.As.flatten, mc.A0, mc.As.flatten, mi.A0, mi.As.flatten, mo.A0, mo.As.flatten]) (fun w' H => hp_cnt (R := [A1, A4, ma.As.flatten, mc.A0, mc.As.flatten, mi.A0, mi.As.flatten, mo.A0, mo.As.flatten]) [] H (fun a => by simp only [FM.hl, putC, Value.cells, List.cons_append, List.nil_append, List.set_cons_zero, List.set_cons_succ, List.flatten_append, List.flatten_cons, List.flatten_nil, List.count_append, List.count_cons, List.count_nil, List.append_nil, List.flatten_replicate_nil]; omega)) ?_
    refine g_atL 7 (f := fV) (q := .slice ado (ob.getD i []).length capo) rfl rfl hmo.row (fun _ => rfl) rfl rfl rfl rfl (Int.natCast_nonneg i) (by simpa using huo) rfl rfl rfl (fun _ => ?_)
    repeat' (fail)
    refine g_call rfl (Cl.of Try.func30 rfl rfl) rfl rfl (fun w' hE => told_sp (ob.getD i []) _ _ w' ?_ (by omega)) rfl ?_
    · obtain ⟨ad', cap', he, hrd2⟩ := OwnL.rd (f := fB) (fun _ => rfl) hoo (H := hw w') (fun b o hb' => hp_in hE 8 rfl b o (List.mem_flatten.2 ⟨ao, List.mem_of_getElem? hao, hb'⟩))
      have he' := (Value.slice.inj he).1
      subst he'; exact hrd2
    rintro ⟨v2, A2⟩ ho2
    dsimp only at ho2 ⊢
    have hcell2 : v2.cells = ⟨fV v2⟩ ∧ (v2.oneCell') = true := by obtain ⟨_, _, rfl, _⟩ := Own.shape ho2; exact ⟨rfl, rfl⟩
    refine g_app1L 4 (f := fV) (q := v2) rfl rfl rfl rfl rfl rfl rfl rfl hcell2.1 rfl rfl (by simp [hcell2.2]) hmc.row (by unfold maxLen; omega) (by show _ * 24 ≤ _; omega) rfl rfl (fun v5 A5 g5 ho5 => ?_)
    repeat' (first | refine g_pv rfl rfl ?_ | refine g_nil ?_ | refine gq_then ?_ | refine gc_region ?_ | refine gq_block ?_)
    refine gq_again (i + 1, ⟨v4, la ++ [_], ⟨A4, ma.As ++ [A1], ma.vals ++ [v1]⟩, v5, lc ++ [_], ⟨A5, mc.As ++ [A2], mc.vals ++ [v2]⟩⟩) ⟨hlt, hma.push ho1 ho4, hmc.push ho2 ho5, by simp [hla], by simp [hlc], fun j l h => ?_, fun j l h => ?_⟩ (by simp only; omega) ⟨rfl, rfl, rfl, rfl, rfl, rfl, rfl, inc_eq (by omega), trivial⟩ (fun w' H => hp_cnt (R := [A2, A1, A4, ma.As.flatten, A5, mc.As.flatten, mi.A0, mi.As.flatten, mo.A0, mo.As.flatten]) [] H (fun a => by simp only [FM.hl, putC, Value.cells, List.cons_append, List.nil_append, List.set_cons_zero, List.set_cons_succ, List.flatten_append, List.flatten_cons, List.flatten_nil, List.count_append, List.count_cons, List.count_nil, List.append_nil, List.flatten_replicate_nil]; omega))
    · have h' : (la ++ [_])[j]? = some l := h
      by_cases hj : j < la.length
      · rw [List.getElem?_append_left hj] at h'; exact hra j l h'
      · have e : j = la.length := by
          have := (List.getElem?_eq_some_iff.1 h').1
          simp at this; omega
        subst e
        rw [List.getElem?_concat_length] at h'; cases h'
        rw [hla]; exact hsi2
    · have h' : (lc ++ [_])[j]? = some l := h
      by_cases hj : j < lc.length
      · rw [List.getElem?_append_left hj] at h'; exact hrc j l h'
      · have e : j = lc.length := by
          have := (List.getElem?_eq_some_iff.1 h').1
          simp at this; omega
        subst e
        rw [List.getElem?_concat_length] at h'; cases h'
        rw [hlc]; exact hso2
  · have hie : i = f.code.length := by have := of_decide_eq_false hc; omega
    repeat' (first | refine g_pv rfl rfl ?_ | refine g_nil ?_ | refine gq_then ?_ | refine gc_seq ?_ | refine gc_region ?_ | refine gc_exit ?_ | refine gc_ret ?_ | refine gq_then_exit ?_ | refine gq_block_exit ?_)
    exact gq_ret3 (.inr rfl) rfl rfl rfl rfl rfl (fun w' H => ⟨⟨va, la, ma, vc, lc, mc⟩, ⟨hma, hmc, by rw [if_pos hr]; exact ⟨hla.trans hie, hlc.trans hie, hra, hrc⟩⟩, by simp [errOf, hr], hp_take 0 rfl (fun H => hp_take 0 rfl (fun H => hp_take 0 rfl (fun H => hp_take 0 rfl (fun H => hp_nil H) H) H) H) H⟩)
end Go.Proofs.Ytpmkkmahimdjkaa
