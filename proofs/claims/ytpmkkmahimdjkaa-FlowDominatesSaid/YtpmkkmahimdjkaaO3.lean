/-
  The law FlowDominates: an instruction dominates another one just if that is not reached without it.
-/
import Derived.Test.YtpmkkmahimdjkaaO0
namespace Go.Proofs.Ytpmkkmahimdjkaa
open Go.Wk
set_option linter.unusedVariables false
set_option linter.unusedSimpArgs false
attribute [local irreducible] G GC GQ GA GS Exit.then Exit.inBlock

theorem rchw_iff (code : List Ins) (a u : Nat) : Rch (esw (nexts code code.length) (a : Int)) (srcw 0 (a : Int)) u ↔ RchW (nxt code) a u := by
  constructor
  · intro h
    induction h with
    | base h =>
      unfold srcw at h
      split at h
      · cases h
      · rename_i hne
        simp at h
        subst h
        exact .base (fun h => hne (by simp [← h]))
    | step _ h ih =>
      unfold esw at h
      rw [nexts_getD] at h
      obtain ⟨h1, h2⟩ := List.mem_filter.1 h
      exact .step ih h1 (fun h => by simp [h] at h2)
  · intro h
    induction h with
    | base h => exact .base (by unfold srcw; rw [if_neg (by omega)]; simp)
    | step _ h hne ih =>
      refine .step ih ?_
      unfold esw
      rw [nexts_getD]
      exact List.mem_filter.2 ⟨h, by simp; omega⟩
theorem IsIdom.bnd {es : Nat → List Int} {n : Nat} {xs : List Int} (I : IsIdom es n xs) (hlt : ∀ v, R0 es v → v < n) (u : Nat) : -1 ≤ xs.getD u (-1) ∧ xs.getD u (-1) < n := by
  by_cases hu : R0 es u
  · by_cases h0 : u = 0
    · subst h0; rw [I.zero]; have := hlt 0 hu; omega
    · obtain ⟨d, e, hn⟩ := I.near u hu h0
      have := hlt d hn.1.rch
      omega
  · rw [I.out u hu]; omega

set_option maxHeartbeats 16000000 in
theorem flowDominates_sp (f : TF) (w : World) (hf : CodeIn (hw w) f.cA f.code) : Sp Try.prog 5 [f.val] w [] (fun _ : Unit => .bool true) (fun _ => []) (fun _ => True) := by
  refine enter (s := Try.sx) [] Try.func5 rfl rfl rfl (Eff.refl w) ?_
  repeat' (first | refine g_pv rfl rfl ?_ | refine g_ld 0 rfl rfl rfl rfl rfl rfl ?_ | refine g_nil ?_ | refine gq_then ?_ | refine gc_seq ?_ | refine gc_region ?_ | refine g_box rfl rfl (fun _ => ?_))
  rename_i b1
  refine g_call rfl (Cl.of Try.func18 rfl rfl) rfl rfl (fun w' hE => idomT_sp f w' (hf.le (fun b o h => old_le hE b o (old_le0 _ w b o h)))) rfl ?_
  rintro ⟨va, Aa⟩ ⟨la, hoa, hla⟩
  dsimp only at hoa ⊢
  cases hr : f.right with
  | false =>
    have he : errOf f = 160 := by simp [errOf, hr]
    rw [he]
    have hR : ∀ w', CodeIn (hw w') f.cA f.code → Sp Try.prog 24 [f.val] w' [] (fun _ : Unit => .bool false) (fun _ => []) (fun _ => True) := fun w' h => by have := right_sp f w' h; rwa [hr] at this
    repeat' (first | refine g_pv rfl rfl ?_ | refine g_nil ?_ | refine gq_then ?_ | refine gc_seq ?_ | refine gc_region ?_)
    refine g_call rfl (Cl.of Try.func15 rfl rfl) rfl rfl (fun w' hE => num_sp 160 w') rfl (fun _ _ => ?_)
    repeat' (first | refine g_pv rfl rfl ?_ | refine g_nil ?_ | refine gq_then ?_ | refine gc_seq ?_ | refine gc_cond_t rfl ?_ | refine g_no rfl rfl rfl rfl rfl ?_)
    refine gc_draw [Aa, [(b1, .cells f.val.cells 25 (0, 0))]] [] rfl (by simp) ?_
    (refine ga_p 0 (by repeat first | exact NoP.sp | apply NoP.then | apply NoP.block) rfl (pv_spec rfl) rfl (by kernel_rfl) (by kernel_rfl) (by kernel_rfl) ?_); (refine ga_ld 3 1 (by repeat first | exact NoP.sp | apply NoP.then | apply NoP.block) rfl wanted_none rfl rfl rfl rfl rfl rfl (by kernel_rfl) (by kernel_rfl) (by kernel_rfl) ?_)
    refine ga_one (i := 1) (by kernel_rfl) (gs_of rfl (fun K hK => ?_))
    refine g_call rfl (Cl.of Try.func15 rfl rfl) rfl rfl (fun w' hE => num_sp 160 w') rfl (fun _ _ => ?_)
    refine g_nil ?_
    refine hK _ _ ⟨[], by simp⟩ ?_
    (refine ga_p 2 (by repeat first | exact NoP.sp | apply NoP.then | apply NoP.block) rfl (pv_spec rfl) rfl (by kernel_rfl) (by kernel_rfl) (by kernel_rfl) ?_)
    refine ga_one (i := 4) (by kernel_rfl) (gs_of rfl (fun K hK => ?_))
    refine g_call rfl (Cl.of Try.func24 rfl rfl) rfl rfl (fun w' hE => hR w' (hf.le (fun b o h => old_le hE b o (old_le0 _ w b o h)))) rfl (fun _ _ => ?_)
    refine g_nil ?_
    refine hK _ _ ⟨[], by simp⟩ ?_
    (refine ga_p 5 (by repeat first | exact NoP.sp | apply NoP.then | apply NoP.block) rfl (pv_spec rfl) rfl (by kernel_rfl) (by kernel_rfl) (by kernel_rfl) ?_)
    refine ga_p 6 (by repeat first | exact NoP.sp | apply NoP.then | apply NoP.block) rfl (p_eqB rfl rfl rfl) rfl (by kernel_rfl) (by kernel_rfl) (by kernel_rfl) ?_
    (refine ga_p 7 (by repeat first | exact NoP.sp | apply NoP.then | apply NoP.block) rfl (pv_spec rfl) rfl (by kernel_rfl) (by kernel_rfl) (by kernel_rfl) ?_)
    refine ga_one (i := 8) (by kernel_rfl) (gs_of rfl (fun K hK => ?_))
    repeat' (refine g_yes rfl rfl rfl ?_)
    refine g_call rfl (Cl.of Try.func17 rfl rfl) rfl rfl (fun w' hE => heads_sp w') rfl (fun _ _ => ?_)
    refine g_nil ?_
    refine hK _ _ ⟨[], by simp⟩ ?_
    (refine ga_p 9 (by repeat first | exact NoP.sp | apply NoP.then | apply NoP.block) rfl (pv_spec rfl) rfl (by kernel_rfl) (by kernel_rfl) (by kernel_rfl) ?_); (refine ga_p 10 (by repeat first | exact NoP.sp | apply NoP.then | apply NoP.block) rfl (pv_spec rfl) rfl (by kernel_rfl) (by kernel_rfl) (by kernel_rfl) ?_)
    refine ga_nil (by kernel_rfl) ?_
    repeat' (first | refine gq_then ?_ | refine gc_ret ?_ | refine gq_then_ret ?_)
    exact gq_ret1 (.inr rfl) rfl rfl rfl (fun w' H => ⟨(), trivial, rfl, hp_nil H⟩)
  | true =>
    have he : errOf f = 0 := by simp [errOf, hr]
    rw [he]
    rw [hr] at hla
    have I := ite_t rfl hla
    have hR : ∀ w', CodeIn (hw w') f.cA f.code → Sp Try.prog 24 [f.val] w' [] (fun _ : Unit => .bool true) (fun _ => []) (fun _ => True) := fun w' h => by have := right_sp f w' h; rwa [hr] at this
    obtain ⟨hn1, hn2, _, _⟩ := TF.right_n hr
    have F := frOf_fr f.code hn1
    have hlt0 : ∀ v, R0 (nxt f.code) v → v < f.code.length := fun v hv => F.lt v hv
    obtain ⟨num, M, N, hM⟩ := I.num
    obtain ⟨ad, cap, rfl, hpos⟩ := Own.shape hoa
    obtain ⟨ga, rfl⟩ := hpos (by rw [I.len]; omega)
    rw [I.len]
    have hoa' : OwnI (.slice (some ⟨ga, 0, none⟩) f.code.length cap) la Aa := by rw [← I.len]; exact hoa
    repeat' (first | refine g_pv rfl rfl ?_ | refine g_nil ?_ | refine gq_then ?_ | refine gc_seq ?_ | refine gc_region ?_)
    refine g_call rfl (Cl.of Try.func15 rfl rfl) rfl rfl (fun w' hE => num_sp 0 w') rfl (fun _ _ => ?_)
    repeat' (first | refine g_pv rfl rfl ?_ | refine g_ld 1 rfl rfl rfl rfl rfl rfl ?_ | refine g_nil ?_ | refine gq_then ?_ | refine g_yes rfl rfl rfl ?_)
    refine gc_condC rfl (fun hc => ?_) (fun hc => ?_)
    · repeat' (refine gc_seq ?_)
      refine gc_draw [Aa, [(b1, .cells f.val.cells 25 (0, 0))]] [] rfl (by simp) ?_
      (refine ga_p 0 (by repeat first | exact NoP.sp | apply NoP.then | apply NoP.block) rfl (pv_spec rfl) rfl (by kernel_rfl) (by kernel_rfl) (by kernel_rfl) ?_); (refine ga_ld 3 1 (by repeat first | exact NoP.sp | apply NoP.then | apply NoP.block) rfl wanted_none rfl rfl rfl rfl rfl rfl (by kernel_rfl) (by kernel_rfl) (by kernel_rfl) ?_)
      refine ga_one (i := 1) (by kernel_rfl) (gs_of rfl (fun K hK => ?_))
      refine g_call rfl (Cl.of Try.func15 rfl rfl) rfl rfl (fun w' hE => num_sp 0 w') rfl (fun _ _ => ?_)
      refine g_nil ?_
      refine hK _ _ ⟨[], by simp⟩ ?_
      (refine ga_p 2 (by repeat first | exact NoP.sp | apply NoP.then | apply NoP.block) rfl (pv_spec rfl) rfl (by kernel_rfl) (by kernel_rfl) (by kernel_rfl) ?_)
      refine ga_one (i := 4) (by kernel_rfl) (gs_of rfl (fun K hK => ?_))
      refine g_call rfl (Cl.of Try.func24 rfl rfl) rfl rfl (fun w' hE => hR w' (hf.le (fun b o h => old_le hE b o (old_le0 _ w b o h)))) rfl (fun _ _ => ?_)
      refine g_nil ?_
      refine hK _ _ ⟨[], by simp⟩ ?_
      (refine ga_p 5 (by repeat first | exact NoP.sp | apply NoP.then | apply NoP.block) rfl (pv_spec rfl) rfl (by kernel_rfl) (by kernel_rfl) (by kernel_rfl) ?_)
      refine ga_p 6 (by repeat first | exact NoP.sp | apply NoP.then | apply NoP.block) rfl (p_eqB rfl rfl rfl) rfl (by kernel_rfl) (by kernel_rfl) (by kernel_rfl) ?_
      (refine ga_p 7 (by repeat first | exact NoP.sp | apply NoP.then | apply NoP.block) rfl (pv_spec rfl) rfl (by kernel_rfl) (by kernel_rfl) (by kernel_rfl) ?_)
      refine ga_one (i := 8) (by kernel_rfl) (gs_of rfl (fun K hK => ?_))
      repeat' (refine g_yes rfl rfl rfl ?_)
      refine g_call rfl (Cl.of Try.func17 rfl rfl) rfl rfl (fun w' hE => heads_sp w') rfl (fun _ _ => ?_)
      refine g_nil ?_
      refine hK _ _ ⟨[], by simp⟩ ?_
      (refine ga_p 9 (by repeat first | exact NoP.sp | apply NoP.then | apply NoP.block) rfl (pv_spec rfl) rfl (by kernel_rfl) (by kernel_rfl) (by kernel_rfl) ?_); (refine ga_p 10 (by repeat first | exact NoP.sp | apply NoP.then | apply NoP.block) rfl (pv_spec rfl) rfl (by kernel_rfl) (by kernel_rfl) (by kernel_rfl) ?_)
      refine ga_nil (by kernel_rfl) ?_
      repeat' (first | refine gq_then ?_ | refine gc_ret ?_ | refine gq_then_ret ?_)
      exact gq_ret1 (.inr rfl) rfl rfl rfl (fun w' H => ⟨(), trivial, rfl, hp_nil H⟩)
    · have h60 : f.code.length ≤ 60 := by have := of_decide_eq_false hc; omega
      repeat' (first | refine g_pv rfl rfl ?_ | refine g_ld 1 rfl rfl rfl rfl rfl rfl ?_ | refine g_nil ?_ | refine gq_then ?_ | refine gc_seq ?_ | refine gc_region ?_ | refine gc_skip ?_)
      refine gc_condC rfl (fun hq => ?_) (fun hq => ?_)
      · exact absurd hq (by simp)
      · repeat' (first | refine g_pv rfl rfl ?_ | refine g_nil ?_ | refine gq_then ?_ | refine gc_seq ?_ | refine gc_region ?_ | refine gc_block ?_ | refine gc_skip ?_)
        refine gc_loop (Y := ES) (fun y => y.i ≤ f.code.length ∧ OwnLL y.v (nexts f.code y.i) y.m)
          (fun y => [(1, .pointer (some ⟨b1, 0, none⟩)), (3, .slice (some ⟨ga, 0, none⟩) f.code.length cap), (5, y.v), (6, .int .i64 y.i)]) (fun y => [y.m.A0, y.m.As.flatten, Aa, [(b1, .cells f.val.cells 25 (0, 0))]])
          (fun y => f.code.length - y.i) ⟨0, _, _⟩ ⟨Nat.zero_le _, ownLL_nil⟩ ⟨rfl, rfl, rfl, rfl, trivial⟩ (fun w' H => hp_perm H (by simp)) ?_
        rintro ⟨i, v, m⟩ ⟨hi, hm⟩
        try dsimp only at hi hm ⊢
        repeat' (first | refine g_pv rfl rfl ?_ | refine g_ld 3 rfl rfl rfl rfl rfl rfl ?_ | refine g_nil ?_ | refine gq_then ?_ | refine gc_seq ?_ | refine gc_region ?_)
        refine gc_condC rfl (fun hc => ?_) (fun hc => ?_)
        · have hlt : i < f.code.length := by have := of_decide_eq_true hc; omega
          have hvl : m.vals.length = i := by rw [hm.len]; simp [nexts]
          obtain ⟨hb1, hb2⟩ := I.bnd hlt0 i
          have hget : la[i]? = some (la.getD i (-1)) := by simp [List.getD, List.getElem?_eq_getElem (show i < la.length by rw [I.len]; exact hlt)]
          generalize la.getD i (-1) = di at hb1 hb2 hget
          repeat' (first | refine g_pv rfl rfl ?_ | refine gq_then ?_ | refine gc_seq ?_ | refine gc_region ?_ | refine gc_block ?_ | refine gc_skip ?_)
          refine g_atL 2 (f := fI) (q := di) rfl rfl hoa' (fun _ => rfl) rfl rfl rfl rfl (Int.natCast_nonneg i) (by simpa using hget) rfl rfl rfl (fun _ => ?_)
          repeat' (refine g_pv rfl rfl ?_)
          refine g_eq 53 (u' := .bool false) rfl (by simp; omega) ?_
          repeat' (first | refine g_pv rfl rfl ?_ | refine g_yes rfl rfl rfl ?_)
          refine g_ix rfl rfl rfl rfl (Int.natCast_nonneg i) (by omega) rfl ?_
          repeat' (refine g_yes rfl rfl rfl ?_)
          refine g_ldL 2 (f := fI) (i := i) rfl rfl rfl hoa' (fun _ => rfl) (by simp) hget rfl rfl ?_
          repeat' (first | refine g_pv rfl rfl ?_ | refine g_nil ?_ | refine gq_then ?_ | refine g_yes rfl rfl rfl ?_)
          refine gc_condC rfl (fun hc2 => ?_) (fun hc2 => ?_)
          · exact absurd (of_decide_eq_true hc2) (by omega)
          repeat' (first | refine g_pv rfl rfl ?_ | refine g_ld 3 rfl rfl rfl rfl rfl rfl ?_ | refine gq_then ?_ | refine gc_region ?_ | refine gc_skip ?_)
          refine g_call rfl (Cl.of Try.func25 rfl rfl) rfl rfl (fun w' hE => rnext_sp' f.code i f.cA f.cC w' (hf.le (fun b o h => old_le hE b o (old_le0 _ w b o h))) hlt) rfl ?_
          rintro ⟨v16, A16⟩ ho16
          dsimp only at ho16 ⊢
          have hcell : v16.cells = ⟨fV v16⟩ ∧ (v16.oneCell') = true := by obtain ⟨_, _, rfl, _⟩ := Own.shape ho16; exact ⟨rfl, rfl⟩
          refine g_app1L 1 (f := fV) (q := v16) rfl rfl rfl rfl rfl rfl rfl rfl hcell.1 rfl rfl (by simp [hcell.2]) hm.row (by unfold maxLen; omega) (by show _ * 24 ≤ _; omega) rfl rfl (fun v4 A4 g4 ho4 => ?_)
          repeat' (first | refine g_pv rfl rfl ?_ | refine g_nil ?_ | refine gq_then ?_ | refine gc_region ?_ | refine gq_block ?_)
          refine gq_again ⟨i + 1, v4, ⟨A4, m.As ++ [A16], m.vals ++ [v16]⟩⟩ ⟨hlt, by rw [nexts_succ]; exact hm.push ho16 ho4⟩ (by simp only; omega) ⟨rfl, rfl, rfl, inc_eq (by omega), trivial⟩ (fun w' H => hp_cnt [] H (fun a => by simp only [List.cons_append, List.nil_append, List.set_cons_zero, List.set_cons_succ, List.flatten_append, List.flatten_cons, List.flatten_nil, List.count_append, List.count_cons, List.count_nil, List.append_nil, List.flatten_replicate_nil]; omega))
        · have hge : i = f.code.length := by have := of_decide_eq_false hc; omega
          subst hge
          have hnl := nexts_length f.code
          have hvl : m.vals.length = f.code.length := by rw [hm.len, hnl]
          repeat' (first | refine g_pv rfl rfl ?_ | refine gq_then ?_ | refine gc_seq ?_ | refine gc_region ?_ | refine gc_exit ?_ | refine gq_then_exit ?_ | refine gq_block_exit ?_)
          refine g_call rfl (Cl.of Try.func26 rfl rfl) rfl rfl (fun w' hE => flood_sp (nexts f.code f.code.length) v 0 (-1) w' (hm.rd (hp_in hE 0 rfl) (hp_in hE 1 rfl)) (nexts_in f.code) (by omega) (by omega) (nexts_lens f.code)) rfl ?_
          rintro ⟨go, bs, Ao⟩ ⟨hbl, hob, hbs⟩
          dsimp only at hbl hob hbs ⊢
          rw [hnl] at hbl hob hbs ⊢
          rw [esw_nexts, (show srcw 0 (-1) = [0] from rfl)] at hbs
          obtain ⟨vad, vcap, rfl, _⟩ := Own.shape hm.row
          rw [hvl]
          rw [hvl] at hm
          repeat' (first | refine g_pv rfl rfl ?_ | refine g_nil ?_ | refine gq_then ?_ | refine gc_seq ?_ | refine gc_region ?_ | refine gc_block ?_)
          refine gc_loop (Y := Nat) (fun y => y ≤ f.code.length)
            (fun y => [(3, .slice (some ⟨ga, 0, none⟩) f.code.length cap), (5, .slice vad f.code.length vcap), (7, .slice (some ⟨go, 0, none⟩) f.code.length f.code.length), (8, .int .i64 y)]) (fun y => [Ao, m.A0, m.As.flatten, Aa])
            (fun y => f.code.length - y) 0 (Nat.zero_le _) ⟨rfl, rfl, rfl, rfl, trivial⟩ (fun w' H => hp_take 0 rfl (fun H => hp_take 0 rfl (fun H => hp_take 0 rfl (fun H => hp_take 0 rfl (fun H => hp_nil H) H) H) H) H) ?_
          rintro a ha
          try dsimp only at ha ⊢
          repeat' (first | refine g_pv rfl rfl ?_ | refine g_nil ?_ | refine gq_then ?_ | refine gc_seq ?_ | refine gc_region ?_)
          refine gc_condC rfl (fun hc => ?_) (fun hc => ?_)
          · have halt : a < f.code.length := by have := of_decide_eq_true hc; omega
            repeat' (first | refine g_pv rfl rfl ?_ | refine gq_then ?_ | refine gc_seq ?_ | refine gc_region ?_ | refine gc_block ?_ | refine gc_skip ?_)
            refine g_call rfl (Cl.of Try.func26 rfl rfl) rfl rfl (fun w' hE => flood_sp (nexts f.code f.code.length) _ 0 (a : Int) w' (hm.rd (hp_in hE 1 rfl) (hp_in hE 2 rfl)) (nexts_in f.code) (by omega) (by omega) (nexts_lens f.code)) rfl ?_
            rintro ⟨gw, ws, Aw⟩ ⟨hwl, how, hws⟩
            dsimp only at hwl how hws ⊢
            rw [hnl] at hwl how hws ⊢
            repeat' (first | refine g_pv rfl rfl ?_ | refine g_nil ?_ | refine gq_then ?_ | refine gc_seq ?_ | refine gc_region ?_ | refine gc_block ?_)
            refine gc_loop (Y := Nat) (fun y => y ≤ f.code.length)
              (fun y => [(3, .slice (some ⟨ga, 0, none⟩) f.code.length cap), (5, .slice vad f.code.length vcap), (7, .slice (some ⟨go, 0, none⟩) f.code.length f.code.length), (8, .int .i64 a), (9, .slice (some ⟨gw, 0, none⟩) f.code.length f.code.length), (10, .int .i64 y)]) (fun y => [Aw, Ao, m.A0, m.As.flatten, Aa])
              (fun y => f.code.length - y) 0 (Nat.zero_le _) ⟨rfl, rfl, rfl, rfl, rfl, rfl, trivial⟩ (fun w' H => H) ?_
            rintro b hb0
            try dsimp only at hb0 ⊢
            repeat' (first | refine g_pv rfl rfl ?_ | refine g_nil ?_ | refine gq_then ?_ | refine gc_seq ?_ | refine gc_region ?_)
            refine gc_condC rfl (fun hc3 => ?_) (fun hc3 => ?_)
            · have hblt : b < f.code.length := by have := of_decide_eq_true hc3; omega
              have hbs' := hbs b hblt
              have hbg : bs[b]? = some (bs.getD b false) := by simp [List.getD, List.getElem?_eq_getElem (show b < bs.length by omega)]
              have hwg : ws[b]? = some (ws.getD b false) := by simp [List.getD, List.getElem?_eq_getElem (show b < ws.length by omega)]
              unfold mk' at hbs'
              generalize bs.getD b false = bv at hbg hbs'
              repeat' (first | refine g_pv rfl rfl ?_ | refine gq_then ?_ | refine gc_seq ?_ | refine gc_region ?_ | refine gc_block ?_ | refine gc_skip ?_)
              refine g_atL 1 (f := fB) (q := bv) rfl rfl hob (fun _ => rfl) rfl rfl rfl rfl (Int.natCast_nonneg b) (by simpa using hbg) rfl rfl rfl (fun _ => ?_)
              cases bv with
              | false =>
                have hnr : ¬ R0 (nxt f.code) b := fun h => by have := hbs'.2 h; cases this
                have hget : la[b]? = some (-1) := by
                  rw [← I.out b hnr]
                  simp [List.getD, List.getElem?_eq_getElem (show b < la.length by rw [I.len]; exact hblt)]
                repeat' (first | refine g_pv rfl rfl ?_ | refine g_nil ?_ | refine gq_then ?_ | refine gc_seq ?_ | refine gc_region ?_ | refine gc_cond_t rfl ?_)
                refine g_atL 4 (f := fI) (q := -1) rfl rfl hoa' (fun _ => rfl) rfl rfl rfl rfl (Int.natCast_nonneg b) (by simpa using hget) rfl rfl rfl (fun _ => ?_)
                repeat' (first | refine g_pv rfl rfl ?_ | refine g_nil ?_ | refine gq_then ?_ | refine gc_region ?_ | refine gc_cond_f rfl ?_ | refine gc_skip ?_ | refine gc_exit ?_ | refine gq_then_exit ?_ | refine gq_block_exit ?_)
                exact gq_again (b + 1) hblt (by omega) ⟨rfl, rfl, rfl, rfl, rfl, inc_eq (by omega), trivial⟩ (fun w' H => H)
              | true =>
                have hrb : R0 (nxt f.code) b := hbs'.1 rfl
                repeat' (first | refine g_pv rfl rfl ?_ | refine g_nil ?_ | refine gq_then ?_ | refine gc_seq ?_ | refine gc_cond_f rfl ?_ | refine gc_skip ?_)
                refine gc_draw [Aw, Ao, m.A0, m.As.flatten, Aa] [] rfl (by simp) ?_
                generalize hwe : ws.getD b false = wv at hwg
                (refine ga_p 0 (by repeat first | exact NoP.sp | apply NoP.then | apply NoP.block) rfl (pv_spec rfl) rfl (by kernel_rfl) (by kernel_rfl) (by kernel_rfl) ?_); (refine ga_p 1 (by repeat first | exact NoP.sp | apply NoP.then | apply NoP.block) rfl (pv_spec rfl) rfl (by kernel_rfl) (by kernel_rfl) (by kernel_rfl) ?_); (refine ga_p 2 (by repeat first | exact NoP.sp | apply NoP.then | apply NoP.block) rfl (pv_spec rfl) rfl (by kernel_rfl) (by kernel_rfl) (by kernel_rfl) ?_); (refine ga_p 4 (by repeat first | exact NoP.sp | apply NoP.then | apply NoP.block) rfl (pv_spec rfl) rfl (by kernel_rfl) (by kernel_rfl) (by kernel_rfl) ?_); (refine ga_p 5 (by repeat first | exact NoP.sp | apply NoP.then | apply NoP.block) rfl (pv_spec rfl) rfl (by kernel_rfl) (by kernel_rfl) (by kernel_rfl) ?_)
                refine ga_at 6 7 (l := ws) (f := fB) (u := wv) (by repeat first | exact NoP.sp | apply NoP.then | apply NoP.block) rfl wanted_none rfl (fun a _ => wanted_none a) rfl rfl rfl rfl rfl (Int.natCast_nonneg b) (by omega) (still_rd 0 rfl (fun _ => rfl) how rfl) (by simpa using hwg) rfl rfl rfl rfl (by kernel_rfl) (by kernel_rfl) (by kernel_rfl) (by kernel_rfl) (by kernel_rfl) (fun _ => ?_)
                (refine ga_p 8 (by repeat first | exact NoP.sp | apply NoP.then | apply NoP.block) rfl (pv_spec rfl) rfl (by kernel_rfl) (by kernel_rfl) (by kernel_rfl) ?_)
                refine ga_one (i := 3) (by kernel_rfl) (gs_of rfl (fun K hK => ?_))
                refine g_call rfl (Cl.of Try.func27 rfl rfl) rfl rfl (fun w' hE => lover_sp N I hlt0 hM hn2 a b _ w' (OwnI.rd hoa' (hp_in hE 4 rfl)) hrb) rfl (fun y hy => ?_)
                refine g_nil ?_
                refine hK _ _ ⟨[], by simp⟩ ?_
                have hwv : y = !wv := by
                  have h1 := (hws b hblt).trans (rchw_iff f.code a b)
                  unfold mk' at h1
                  rw [hwe] at h1
                  unfold Dm at hy
                  cases y <;> cases wv <;> simp_all
                refine ga_p 9 (by repeat first | exact NoP.sp | apply NoP.then | apply NoP.block) rfl (p_neB rfl rfl rfl) rfl (by kernel_rfl) (by kernel_rfl) (by kernel_rfl) ?_
                refine ga_nil (by kernel_rfl) ?_
                repeat' (refine gq_then ?_)
                refine gc_condC rfl (fun hq => ?_) (fun hq => ?_)
                · exact absurd hq (by simp [hwv])
                repeat' (first | refine g_pv rfl rfl ?_ | refine g_nil ?_ | refine gq_then ?_ | refine gc_region ?_ | refine gc_skip ?_ | refine gq_block ?_)
                exact gq_again (b + 1) hblt (by omega) ⟨rfl, rfl, rfl, rfl, rfl, inc_eq (by omega), trivial⟩ (fun w' H => H)
            · repeat' (first | refine g_pv rfl rfl ?_ | refine g_nil ?_ | refine gq_then ?_ | refine gc_region ?_ | refine gc_exit ?_ | refine gq_then_exit ?_ | refine gq_block ?_ | refine gq_block_exit ?_)
              exact gq_again (a + 1) halt (by omega) ⟨rfl, rfl, rfl, inc_eq (by omega), trivial⟩ (fun w' H => hp_take 1 rfl (fun H => hp_take 1 rfl (fun H => hp_take 1 rfl (fun H => hp_take 1 rfl (fun H => hp_nil H) H) H) H) H)
          · repeat' (first | refine gq_then ?_ | refine gc_seq ?_ | refine gc_region ?_ | refine gc_exit ?_ | refine gq_then_exit ?_ | refine gq_block_exit ?_)
            refine g_call rfl (Cl.of Try.func17 rfl rfl) rfl rfl (fun w' hE => heads_sp w') rfl (fun _ _ => ?_)
            repeat' (first | refine g_pv rfl rfl ?_ | refine g_nil ?_ | refine gq_then ?_ | refine gc_ret ?_)
            exact gq_ret1 (.inr rfl) rfl rfl rfl (fun w' H => ⟨(), trivial, rfl, hp_nil H⟩)
end Go.Proofs.Ytpmkkmahimdjkaa
