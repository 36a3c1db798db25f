/-
  The law FlowWithin: what is reached of a loop is dominated by its first instruction.
-/
import Derived.Test.YtpmkkmahimdjkaaO0
namespace Go.Proofs.Ytpmkkmahimdjkaa
open Go.Wk
set_option linter.unusedVariables false
set_option linter.unusedSimpArgs false
attribute [local irreducible] G GC GQ GA GS Exit.then Exit.inBlock

theorem mk_nil5 {n u : Nat} : ¬ mk' (List.replicate n false) u := by
  unfold mk'
  rw [List.getD_eq_getElem?_getD, List.getElem?_replicate]
  split <;> simp
theorem still_row {X : Cx} {R0 : RL} {As : List HL} {k : Nat} {a : HL} {v : Value} {l : List Int} {ad : Option Addr} {n cap : Nat} (i : Nat) (hR : R0[i]? = some As.flatten) (ha : As[k]? = some a) (ho : OwnI v l a) (hv : v = .slice ad n cap) :
    ∀ w, Still X R0 w → Rd (hw w) fI 1 ad l := by
  intro w hS
  obtain ⟨F, E⟩ := hS
  obtain ⟨ad', cap', he, hrd⟩ := OwnL.rd (f := fI) (fun _ => rfl) ho (H := hw w) (fun b o hb => E.holds b o (List.mem_append_left _ (List.mem_flatten.2 ⟨_, List.mem_of_getElem? hR, List.mem_flatten.2 ⟨a, List.mem_of_getElem? ha, hb⟩⟩)))
  rw [hv] at he
  have he' := (Value.slice.inj he).1
  subst he'
  exact hrd

set_option maxHeartbeats 16000000 in
theorem flowWithin_sp (f : TF) (w : World) (hf : CodeIn (hw w) f.cA f.code) : Sp Try.prog 7 [f.val] w [] (fun _ : Unit => .bool true) (fun _ => []) (fun _ => True) := by
  refine enter (s := Try.sx) [] Try.func7 rfl rfl rfl (Eff.refl w) ?_
  repeat' (first | refine g_pv rfl rfl ?_ | refine g_ld 0 rfl rfl rfl rfl rfl rfl ?_ | refine g_nil ?_ | refine gq_then ?_ | refine gc_seq ?_ | refine gc_region ?_ | refine g_box rfl rfl (fun _ => ?_))
  rename_i b1
  refine g_call rfl (Cl.of Try.func18 rfl rfl) rfl rfl (fun w' hE => idomT_sp f w' (hf.le (fun b o h => old_le hE b o (old_le0 _ w b o h)))) rfl ?_
  rintro ⟨va, Aa⟩ ⟨la, hoa, hla⟩
  dsimp only at hoa ⊢
  repeat' (first | refine g_pv rfl rfl ?_ | refine g_ld 1 rfl rfl rfl rfl rfl rfl ?_ | refine g_nil ?_ | refine gq_then ?_ | refine gc_seq ?_ | refine gc_region ?_)
  refine g_call rfl (Cl.of Try.func20 rfl rfl) rfl rfl (fun w' hE => loopsT_sp f w' (hf.le (fun b o h => old_le hE b o (old_le0 _ w b o h)))) rfl ?_
  rintro ⟨vh, Ah, hl, vl, ll, m⟩ ⟨hoh, hol, hld⟩
  dsimp only at hoh hol hld ⊢
  cases hr : f.right with
  | false =>
    have he : errOf f = 160 := by simp [errOf, hr]
    rw [he]
    repeat' (first | refine g_pv rfl rfl ?_ | refine g_nil ?_ | refine gq_then ?_ | refine gc_seq ?_ | refine gc_region ?_)
    refine g_call rfl (Cl.of Try.func15 rfl rfl) rfl rfl (fun w' hE => num_sp 160 w') rfl (fun _ _ => ?_)
    repeat' (first | refine g_pv rfl rfl ?_ | refine g_nil ?_ | refine gq_then ?_ | refine gc_seq ?_ | refine gc_region ?_ | refine gc_cond_t rfl ?_ | refine g_yes rfl rfl rfl ?_ | refine g_no rfl rfl rfl rfl rfl ?_)
    refine g_call rfl (Cl.of Try.func17 rfl rfl) rfl rfl (fun w' hE => heads_sp w') rfl (fun _ _ => ?_)
    repeat' (first | refine g_pv rfl rfl ?_ | refine g_nil ?_ | refine gq_then ?_ | refine gc_ret ?_ | refine gq_then_ret ?_)
    exact gq_ret1 (.inr rfl) rfl rfl rfl (fun w' H => ⟨(), trivial, rfl, hp_nil H⟩)
  | true =>
    have he : errOf f = 0 := by simp [errOf, hr]
    rw [he]
    rw [hr] at hla hld
    have I := ite_t rfl hla
    have his := ite_t rfl hld
    obtain ⟨hn1, hn2, _, _⟩ := TF.right_n hr
    have F := frOf_fr f.code hn1
    have hlt0 : ∀ v, R0 (nxt f.code) v → v < f.code.length := fun v hv => F.lt v hv
    obtain ⟨num, M, N, hM⟩ := I.num
    have hhl := isset_len his.heads (fun b hb => F.lt b hb.rch)
    have hlen := his.len
    obtain ⟨ad, cap, rfl, hpos⟩ := Own.shape hoa
    rw [I.len]
    have hoa' : OwnI (.slice ad f.code.length cap) la Aa := by rw [← I.len]; exact hoa
    obtain ⟨adh, caph, rfl, _⟩ := Own.shape hoh
    obtain ⟨adl, capl, rfl, _⟩ := Own.shape hol.row
    have hvl : m.vals.length = hl.length := by rw [hol.len]; omega
    rw [hvl] at hol ⊢
    repeat' (first | refine g_pv rfl rfl ?_ | refine g_nil ?_ | refine gq_then ?_ | refine gc_seq ?_ | refine gc_region ?_)
    refine g_call rfl (Cl.of Try.func15 rfl rfl) rfl rfl (fun w' hE => num_sp 0 w') rfl (fun _ _ => ?_)
    repeat' (first | refine g_pv rfl rfl ?_ | refine g_yes rfl rfl rfl ?_)
    refine g_call rfl (Cl.of Try.func15 rfl rfl) rfl rfl (fun w' hE => num_sp 0 w') rfl (fun _ _ => ?_)
    repeat' (first | refine g_pv rfl rfl ?_ | refine g_ld 4 rfl rfl rfl rfl rfl rfl ?_ | refine g_nil ?_ | refine gq_then ?_ | refine g_yes rfl rfl rfl ?_)
    refine gc_condC rfl (fun hc => ?_) (fun hc => ?_)
    · repeat' (first | refine g_pv rfl rfl ?_ | refine gc_seq ?_ | refine gc_region ?_ | refine g_yes rfl rfl rfl ?_)
      refine g_call rfl (Cl.of Try.func17 rfl rfl) rfl rfl (fun w' hE => heads_sp w') rfl (fun _ _ => ?_)
      repeat' (first | refine g_pv rfl rfl ?_ | refine g_nil ?_ | refine gq_then ?_ | refine gc_ret ?_ | refine gq_then_ret ?_)
      exact gq_ret1 (.inr rfl) rfl rfl rfl (fun w' H => ⟨(), trivial, rfl, hp_nil H⟩)
    · have h60 : f.code.length ≤ 500 := by have := of_decide_eq_false hc; omega
      repeat' (first | refine g_ld 4 rfl rfl rfl rfl rfl rfl ?_ | refine gq_then ?_ | refine gc_seq ?_ | refine gc_region ?_ | refine gc_skip ?_)
      refine g_call rfl (Cl.of Try.func10 rfl rfl) rfl rfl (fun w' hE => reach_sp f w' (hf.le (fun b o h => old_le hE b o (old_le0 _ w b o h)))) rfl ?_
      rintro ⟨vr, Ar⟩ ⟨lr, hor, hlr⟩
      dsimp only at hor ⊢
      rw [he]
      rw [hr] at hlr
      have hs := ite_t rfl hlr
      have hlrl : lr.length ≤ f.code.length := isset_len hs hlt0
      obtain ⟨adr, capr, rfl, _⟩ := Own.shape hor
      repeat' (first | refine g_pv rfl rfl ?_ | refine g_nil ?_ | refine gq_then ?_ | refine gc_seq ?_ | refine gc_region ?_)
      refine g_eq 55 (u' := .bool false) rfl (by simp) ?_
      repeat' (first | refine g_pv rfl rfl ?_ | refine g_yes rfl rfl rfl ?_)
      refine g_call rfl (Cl.of Try.func15 rfl rfl) rfl rfl (fun w' hE => num_sp 0 w') rfl (fun _ _ => ?_)
      repeat' (first | refine g_pv rfl rfl ?_ | refine g_nil ?_ | refine gq_then ?_ | refine gc_seq ?_ | refine gc_region ?_ | refine gc_cond_f rfl ?_ | refine gc_skip ?_ | refine g_yes rfl rfl rfl ?_)
      refine g_ld 5 rfl rfl rfl rfl rfl rfl ?_
      repeat' (refine g_pv rfl rfl ?_)
      refine g_make (n := f.code.length) (c := f.code.length) rfl rfl rfl rfl rfl (Nat.le_refl _) (by show 1 * _ ≤ _; omega) (by omega) rfl (fun go => ?_)
      have ho0 := own_bools go f.code.length (by unfold maxLen; omega)
      repeat' (first | refine g_pv rfl rfl ?_ | refine g_nil ?_ | refine gq_then ?_ | refine gc_seq ?_ | refine gc_region ?_ | refine gc_block ?_)
      refine gc_loop (Y := Nat × List Bool × HL) (fun y => y.1 ≤ lr.length ∧ y.2.1.length = f.code.length ∧ OwnL 4 1 fB (.slice (some ⟨go, 0, none⟩) f.code.length f.code.length) y.2.1 y.2.2 ∧ ∀ u : Nat, mk' y.2.1 u ↔ (u : Int) ∈ lr.take y.1)
        (fun y => [(3, .slice ad f.code.length cap), (5, .slice adh hl.length caph), (6, .slice adl hl.length capl), (8, .slice adr lr.length capr), (10, .slice (some ⟨go, 0, none⟩) f.code.length f.code.length), (11, .int .i64 y.1)]) (fun y => [y.2.2, Ar, Ah, m.A0, m.As.flatten, Aa])
        (fun y => lr.length - y.1) (0, _, _) ⟨Nat.zero_le _, by simp, ho0, fun u => by simp [mk_nil5]⟩ ⟨rfl, rfl, rfl, rfl, rfl, rfl, trivial⟩ (fun w' H => hp_take 0 rfl (fun H => hp_take 0 rfl (fun H => hp_take 0 rfl (fun H => hp_take 0 rfl (fun H => hp_take 0 rfl (fun H => hp_take 0 rfl (fun H => hp_nil H) H) H) H) H) H) H) ?_
      rintro ⟨i, bs, Ao⟩ ⟨hi, hbl, hob, hbs⟩
      try dsimp only at hi hbl hob hbs ⊢
      repeat' (first | refine g_pv rfl rfl ?_ | refine g_nil ?_ | refine gq_then ?_ | refine gc_seq ?_ | refine gc_region ?_)
      refine gc_condC rfl (fun hc => ?_) (fun hc => ?_)
      · have hlt : i < lr.length := by have := of_decide_eq_true hc; omega
        obtain ⟨u, hu, hur⟩ := (hs.2 lr[i]).1 (List.getElem_mem hlt)
        have hun := hlt0 u hur
        have hget : lr[i]? = some (u : Int) := by rw [List.getElem?_eq_getElem hlt, hu]
        repeat' (first | refine g_pv rfl rfl ?_ | refine gq_then ?_ | refine gc_seq ?_ | refine gc_region ?_ | refine gc_block ?_ | refine gc_skip ?_)
        refine g_atL 1 (f := fI) (q := (u : Int)) rfl rfl hor (fun _ => rfl) rfl rfl rfl rfl (Int.natCast_nonneg i) (by simpa using hget) rfl rfl rfl (fun _ => ?_)
        repeat' (fail)
        refine g_setL 0 (f := fB) (q := true) rfl rfl hob (fun _ => rfl) rfl rfl rfl rfl (Int.natCast_nonneg u) (by omega) rfl rfl rfl rfl rfl (fun _ A1 ho1 => ?_)
        rw [Int.toNat_natCast] at ho1
        repeat' (first | refine g_pv rfl rfl ?_ | refine g_nil ?_ | refine gq_then ?_ | refine gc_region ?_ | refine gq_block ?_)
        refine gq_again (i + 1, bs.set u true, A1) ⟨hlt, by simp [hbl], ho1, fun v => ?_⟩ (by simp only; omega) ⟨rfl, rfl, rfl, rfl, rfl, inc_eq (by omega), trivial⟩ (fun w' H => H)
        simp only
        rw [mk_set (by omega), hbs, List.take_succ_eq_append_getElem hlt, hu]
        simp only [List.mem_append, List.mem_singleton]
        constructor
        · rintro (rfl | h)
          · exact .inr rfl
          · exact .inl h
        · rintro (h | h)
          · exact .inr h
          · exact .inl (by omega)
      · have hge : i = lr.length := by have := of_decide_eq_false hc; omega
        subst hge
        rw [List.take_length] at hbs
        have hbr : ∀ u : Nat, mk' bs u ↔ R0 (nxt f.code) u := by
          intro u
          rw [hbs]
          refine (hs.2 u).trans ⟨?_, fun h => ⟨u, rfl, h⟩⟩
          rintro ⟨v, h, hv⟩
          have : u = v := by omega
          subst this
          exact hv
        repeat' (first | refine g_pv rfl rfl ?_ | refine g_nil ?_ | refine gq_then ?_ | refine gc_seq ?_ | refine gc_region ?_ | refine gc_block ?_ | refine gc_exit ?_ | refine gq_then_exit ?_ | refine gq_block_exit ?_)
        refine gc_loop (Y := Nat) (fun y => y ≤ hl.length)
          (fun y => [(3, .slice ad f.code.length cap), (5, .slice adh hl.length caph), (6, .slice adl hl.length capl), (10, .slice (some ⟨go, 0, none⟩) f.code.length f.code.length), (12, .int .i64 y)]) (fun y => [Ao, Ah, m.A0, m.As.flatten, Aa])
          (fun y => hl.length - y) 0 (Nat.zero_le _) ⟨rfl, rfl, rfl, rfl, rfl, trivial⟩ (fun w' H => hp_take 0 rfl (fun H => hp_take 1 rfl (fun H => hp_take 1 rfl (fun H => hp_take 1 rfl (fun H => hp_take 1 rfl (fun H => hp_nil H) H) H) H) H) H) ?_
        rintro i hi0
        try dsimp only at hi0 ⊢
        repeat' (first | refine g_pv rfl rfl ?_ | refine g_nil ?_ | refine gq_then ?_ | refine gc_seq ?_ | refine gc_region ?_)
        refine gc_condC rfl (fun hc => ?_) (fun hc => ?_)
        · have hlt : i < hl.length := by have := of_decide_eq_true hc; omega
          have hlt2 : i < ll.length := by omega
          obtain ⟨b, hb, hbh⟩ := (his.heads.2 hl[i]).1 (List.getElem_mem hlt)
          have hhg : hl[i]? = some (b : Int) := by rw [List.getElem?_eq_getElem hlt, hb]
          have hsr := his.row i b _ hhg (List.getElem?_eq_getElem hlt2)
          obtain ⟨u0, a, hu, ha, hua⟩ := hol.get hlt2
          generalize ll[i] = row at hsr hua
          have hrl : row.length ≤ f.code.length := isset_len hsr (fun u h => h.lt hbh.rch hn1)
          obtain ⟨uad, ucap, rfl, _⟩ := Own.shape hua
          repeat' (first | refine g_pv rfl rfl ?_ | refine g_nil ?_ | refine gq_then ?_ | refine gc_seq ?_ | refine gc_region ?_ | refine gc_block ?_ | refine gc_skip ?_)
          refine gc_loop (Y := Nat) (fun y => y ≤ row.length)
            (fun y => [(3, .slice ad f.code.length cap), (5, .slice adh hl.length caph), (6, .slice adl hl.length capl), (10, .slice (some ⟨go, 0, none⟩) f.code.length f.code.length), (12, .int .i64 i), (13, .int .i64 y)]) (fun y => [Ao, Ah, m.A0, m.As.flatten, Aa])
            (fun y => row.length - y) 0 (Nat.zero_le _) ⟨rfl, rfl, rfl, rfl, rfl, rfl, trivial⟩ (fun w' H => H) ?_
          rintro k hk0
          try dsimp only at hk0 ⊢
          repeat' (first | refine g_pv rfl rfl ?_ | refine gc_seq ?_ | refine gc_region ?_)
          refine g_atL 2 (f := fV) (q := (.slice uad row.length ucap)) rfl rfl hol.row (fun _ => rfl) rfl rfl rfl rfl (Int.natCast_nonneg i) (by simpa using hu) rfl rfl rfl (fun _ => ?_)
          repeat' (first | refine g_pv rfl rfl ?_ | refine g_nil ?_ | refine gq_then ?_)
          refine gc_condC rfl (fun hc2 => ?_) (fun hc2 => ?_)
          · have hklt : k < row.length := by have := of_decide_eq_true hc2; omega
            obtain ⟨u, hku0, hul⟩ := (hsr.2 row[k]).1 (List.getElem_mem hklt)
            have hku : row[k]? = some (u : Int) := by rw [List.getElem?_eq_getElem hklt, hku0]
            have hun := hul.lt hbh.rch hn1
            have hbg : bs[u]? = some (bs.getD u false) := getD_some (by omega)
            have hbr' := hbr u
            unfold mk' at hbr'
            generalize bs.getD u false = c at hbg hbr'
            repeat' (first | refine gq_then ?_ | refine gc_seq ?_ | refine gc_block ?_ | refine gc_skip ?_)
            refine gc_draw [Ao, Ah, m.A0, m.As.flatten, Aa] [] rfl (by simp) ?_
            (refine ga_p 0 (by repeat first | exact NoP.sp | apply NoP.then | apply NoP.block) rfl (pv_spec rfl) rfl (by kernel_rfl) (by kernel_rfl) (by kernel_rfl) ?_); (refine ga_p 1 (by repeat first | exact NoP.sp | apply NoP.then | apply NoP.block) rfl (pv_spec rfl) rfl (by kernel_rfl) (by kernel_rfl) (by kernel_rfl) ?_); (refine ga_p 4 (by repeat first | exact NoP.sp | apply NoP.then | apply NoP.block) rfl (pv_spec rfl) rfl (by kernel_rfl) (by kernel_rfl) (by kernel_rfl) ?_)
            refine ga_at 2 3 (l := m.vals) (f := fV) (u := (.slice uad row.length ucap)) (by repeat first | exact NoP.sp | apply NoP.then | apply NoP.block) rfl wanted_none rfl (fun a _ => wanted_none a) rfl rfl rfl rfl rfl (Int.natCast_nonneg _) (by omega) (still_rd 2 rfl (fun _ => rfl) hol.row rfl) (by simpa using hu) rfl rfl rfl rfl (by kernel_rfl) (by kernel_rfl) (by kernel_rfl) (by kernel_rfl) (by kernel_rfl) (fun _ => ?_)
            refine ga_at 5 6 (l := row) (f := fI) (u := (u : Int)) (by repeat first | exact NoP.sp | apply NoP.then | apply NoP.block) rfl wanted_none rfl (fun a _ => wanted_none a) rfl rfl rfl rfl rfl (Int.natCast_nonneg _) (by omega) (still_row 3 rfl ha hua rfl) (by simpa using hku) rfl rfl rfl rfl (by kernel_rfl) (by kernel_rfl) (by kernel_rfl) (by kernel_rfl) (by kernel_rfl) (fun _ => ?_)
            (refine ga_p 7 (by repeat first | exact NoP.sp | apply NoP.then | apply NoP.block) rfl (pv_spec rfl) rfl (by kernel_rfl) (by kernel_rfl) (by kernel_rfl) ?_)
            refine ga_eq 98 (u' := .bool false) rfl rfl ?_
            (refine ga_p 8 (by repeat first | exact NoP.sp | apply NoP.then | apply NoP.block) rfl (pv_spec rfl) rfl (by kernel_rfl) (by kernel_rfl) (by kernel_rfl) ?_); (refine ga_py 9 (by repeat first | exact NoP.sp | apply NoP.then | apply NoP.block) rfl rfl rfl rfl (pv_spec rfl) rfl (by kernel_rfl) (by kernel_rfl) (by kernel_rfl) ?_); (refine ga_py 10 (by repeat first | exact NoP.sp | apply NoP.then | apply NoP.block) rfl rfl rfl rfl (pv_spec rfl) rfl (by kernel_rfl) (by kernel_rfl) (by kernel_rfl) ?_)
            refine ga_at 11 12 (l := m.vals) (f := fV) (u := (.slice uad row.length ucap)) (by repeat first | exact NoP.sp | apply NoP.then | apply NoP.block) rfl (wanted_yes rfl rfl rfl) rfl (fun a _ h => wanted_yes rfl rfl rfl a h) rfl rfl rfl rfl rfl (Int.natCast_nonneg _) (by omega) (still_rd 2 rfl (fun _ => rfl) hol.row rfl) (by simpa using hu) rfl rfl rfl rfl (by kernel_rfl) (by kernel_rfl) (by kernel_rfl) (by kernel_rfl) (by kernel_rfl) (fun _ => ?_)
            (refine ga_py 13 (by repeat first | exact NoP.sp | apply NoP.then | apply NoP.block) rfl rfl rfl rfl (pv_spec rfl) rfl (by kernel_rfl) (by kernel_rfl) (by kernel_rfl) ?_)
            refine ga_at 14 15 (l := row) (f := fI) (u := (u : Int)) (by repeat first | exact NoP.sp | apply NoP.then | apply NoP.block) rfl (wanted_yes rfl rfl rfl) rfl (fun a _ h => wanted_yes rfl rfl rfl a h) rfl rfl rfl rfl rfl (Int.natCast_nonneg _) (by omega) (still_row 3 rfl ha hua rfl) (by simpa using hku) rfl rfl rfl rfl (by kernel_rfl) (by kernel_rfl) (by kernel_rfl) (by kernel_rfl) (by kernel_rfl) (fun _ => ?_)
            (refine ga_py 16 (by repeat first | exact NoP.sp | apply NoP.then | apply NoP.block) rfl rfl rfl rfl (pv_spec rfl) rfl (by kernel_rfl) (by kernel_rfl) (by kernel_rfl) ?_); (refine ga_py 17 (by repeat first | exact NoP.sp | apply NoP.then | apply NoP.block) rfl rfl rfl rfl (pv_spec rfl) rfl (by kernel_rfl) (by kernel_rfl) (by kernel_rfl) ?_); (refine ga_py 18 (by repeat first | exact NoP.sp | apply NoP.then | apply NoP.block) rfl rfl rfl rfl (pv_spec rfl) rfl (by kernel_rfl) (by kernel_rfl) (by kernel_rfl) ?_)
            refine ga_eq 109 (u' := .bool false) rfl (by congr 1; exact decide_eq_false (by omega)) ?_
            (refine ga_p 19 (by repeat first | exact NoP.sp | apply NoP.then | apply NoP.block) rfl (pv_spec rfl) rfl (by kernel_rfl) (by kernel_rfl) (by kernel_rfl) ?_); (refine ga_p 20 (by repeat first | exact NoP.sp | apply NoP.then | apply NoP.block) rfl (pv_spec rfl) rfl (by kernel_rfl) (by kernel_rfl) (by kernel_rfl) ?_); (refine ga_py 21 (by repeat first | exact NoP.sp | apply NoP.then | apply NoP.block) rfl rfl rfl rfl (pv_spec rfl) rfl (by kernel_rfl) (by kernel_rfl) (by kernel_rfl) ?_); (refine ga_py 22 (by repeat first | exact NoP.sp | apply NoP.then | apply NoP.block) rfl rfl rfl rfl (pv_spec rfl) rfl (by kernel_rfl) (by kernel_rfl) (by kernel_rfl) ?_); (refine ga_py 23 (by repeat first | exact NoP.sp | apply NoP.then | apply NoP.block) rfl rfl rfl rfl (pv_spec rfl) rfl (by kernel_rfl) (by kernel_rfl) (by kernel_rfl) ?_)
            refine ga_at 24 25 (l := m.vals) (f := fV) (u := (.slice uad row.length ucap)) (by repeat first | exact NoP.sp | apply NoP.then | apply NoP.block) rfl (wanted_yes rfl rfl rfl) rfl (fun a _ h => wanted_yes rfl rfl rfl a h) rfl rfl rfl rfl rfl (Int.natCast_nonneg _) (by omega) (still_rd 2 rfl (fun _ => rfl) hol.row rfl) (by simpa using hu) rfl rfl rfl rfl (by kernel_rfl) (by kernel_rfl) (by kernel_rfl) (by kernel_rfl) (by kernel_rfl) (fun _ => ?_)
            (refine ga_py 26 (by repeat first | exact NoP.sp | apply NoP.then | apply NoP.block) rfl rfl rfl rfl (pv_spec rfl) rfl (by kernel_rfl) (by kernel_rfl) (by kernel_rfl) ?_)
            refine ga_at 27 28 (l := row) (f := fI) (u := (u : Int)) (by repeat first | exact NoP.sp | apply NoP.then | apply NoP.block) rfl (wanted_yes rfl rfl rfl) rfl (fun a _ h => wanted_yes rfl rfl rfl a h) rfl rfl rfl rfl rfl (Int.natCast_nonneg _) (by omega) (still_row 3 rfl ha hua rfl) (by simpa using hku) rfl rfl rfl rfl (by kernel_rfl) (by kernel_rfl) (by kernel_rfl) (by kernel_rfl) (by kernel_rfl) (fun _ => ?_)
            refine ga_at 29 30 (l := bs) (f := fB) (u := c) (by repeat first | exact NoP.sp | apply NoP.then | apply NoP.block) rfl (wanted_yes rfl rfl rfl) rfl (fun a _ h => wanted_yes rfl rfl rfl a h) rfl rfl rfl rfl rfl (Int.natCast_nonneg _) (by omega) (still_rd 0 rfl (fun _ => rfl) hob rfl) (by simpa using hbg) rfl rfl rfl rfl (by kernel_rfl) (by kernel_rfl) (by kernel_rfl) (by kernel_rfl) (by kernel_rfl) (fun _ => ?_)
            cases c with
            | false =>
              (refine ga_py 31 (by repeat first | exact NoP.sp | apply NoP.then | apply NoP.block) rfl rfl rfl rfl (pv_spec rfl) rfl (by kernel_rfl) (by kernel_rfl) (by kernel_rfl) ?_); (refine ga_n 32 (by repeat first | exact NoP.sp | apply NoP.then | apply NoP.block) rfl rfl rfl rfl rfl rfl (by kernel_rfl) (by kernel_rfl) (by kernel_rfl) ?_); (refine ga_n 33 (by repeat first | exact NoP.sp | apply NoP.then | apply NoP.block) rfl rfl rfl rfl rfl rfl (by kernel_rfl) (by kernel_rfl) (by kernel_rfl) ?_); (refine ga_n 34 (by repeat first | exact NoP.sp | apply NoP.then | apply NoP.block) rfl rfl rfl rfl rfl rfl (by kernel_rfl) (by kernel_rfl) (by kernel_rfl) ?_); (refine ga_n 35 (by repeat first | exact NoP.sp | apply NoP.then | apply NoP.block) rfl rfl rfl rfl rfl rfl (by kernel_rfl) (by kernel_rfl) (by kernel_rfl) ?_); (refine ga_n 36 (by repeat first | exact NoP.sp | apply NoP.then | apply NoP.block) rfl rfl rfl rfl rfl rfl (by kernel_rfl) (by kernel_rfl) (by kernel_rfl) ?_); (refine ga_n 37 (by repeat first | exact NoP.sp | apply NoP.then | apply NoP.block) rfl rfl rfl rfl rfl rfl (by kernel_rfl) (by kernel_rfl) (by kernel_rfl) ?_); (refine ga_n 38 (by repeat first | exact NoP.sp | apply NoP.then | apply NoP.block) rfl rfl rfl rfl rfl rfl (by kernel_rfl) (by kernel_rfl) (by kernel_rfl) ?_); (refine ga_n 39 (by repeat first | exact NoP.sp | apply NoP.then | apply NoP.block) rfl rfl rfl rfl rfl rfl (by kernel_rfl) (by kernel_rfl) (by kernel_rfl) ?_); (refine ga_n 40 (by repeat first | exact NoP.sp | apply NoP.then | apply NoP.block) rfl rfl rfl rfl rfl rfl (by kernel_rfl) (by kernel_rfl) (by kernel_rfl) ?_); (refine ga_n 41 (by repeat first | exact NoP.sp | apply NoP.then | apply NoP.block) rfl rfl rfl rfl rfl rfl (by kernel_rfl) (by kernel_rfl) (by kernel_rfl) ?_); (refine ga_n 42 (by repeat first | exact NoP.sp | apply NoP.then | apply NoP.block) rfl rfl rfl rfl rfl rfl (by kernel_rfl) (by kernel_rfl) (by kernel_rfl) ?_); (refine ga_n 43 (by repeat first | exact NoP.sp | apply NoP.then | apply NoP.block) rfl rfl rfl rfl rfl rfl (by kernel_rfl) (by kernel_rfl) (by kernel_rfl) ?_); (refine ga_n 44 (by repeat first | exact NoP.sp | apply NoP.then | apply NoP.block) rfl rfl rfl rfl rfl rfl (by kernel_rfl) (by kernel_rfl) (by kernel_rfl) ?_); (refine ga_n 45 (by repeat first | exact NoP.sp | apply NoP.then | apply NoP.block) rfl rfl rfl rfl rfl rfl (by kernel_rfl) (by kernel_rfl) (by kernel_rfl) ?_); (refine ga_py 46 (by repeat first | exact NoP.sp | apply NoP.then | apply NoP.block) rfl rfl rfl rfl (pv_spec rfl) rfl (by kernel_rfl) (by kernel_rfl) (by kernel_rfl) ?_); (refine ga_p 47 (by repeat first | exact NoP.sp | apply NoP.then | apply NoP.block) rfl (pv_spec rfl) rfl (by kernel_rfl) (by kernel_rfl) (by kernel_rfl) ?_)
              refine ga_nil (by kernel_rfl) ?_
              repeat' (first | refine g_pv rfl rfl ?_ | refine g_nil ?_ | refine gq_then ?_ | refine gc_region ?_ | refine gc_cond_f rfl ?_ | refine gc_skip ?_ | refine gq_block ?_)
              exact gq_again (k + 1) hklt (by omega) ⟨rfl, rfl, rfl, rfl, rfl, inc_eq (by omega), trivial⟩ (fun w' H => H)
            | true =>
              have hur : R0 (nxt f.code) u := hbr'.1 rfl
              have hdm := hul.dom hur
              (refine ga_py 31 (by repeat first | exact NoP.sp | apply NoP.then | apply NoP.block) rfl rfl rfl rfl (pv_spec rfl) rfl (by kernel_rfl) (by kernel_rfl) (by kernel_rfl) ?_); (refine ga_py 32 (by repeat first | exact NoP.sp | apply NoP.then | apply NoP.block) rfl rfl rfl rfl (pv_spec rfl) rfl (by kernel_rfl) (by kernel_rfl) (by kernel_rfl) ?_); (refine ga_py 33 (by repeat first | exact NoP.sp | apply NoP.then | apply NoP.block) rfl rfl rfl rfl (pv_spec rfl) rfl (by kernel_rfl) (by kernel_rfl) (by kernel_rfl) ?_); (refine ga_py 34 (by repeat first | exact NoP.sp | apply NoP.then | apply NoP.block) rfl rfl rfl rfl (pv_spec rfl) rfl (by kernel_rfl) (by kernel_rfl) (by kernel_rfl) ?_)
              refine ga_at 35 36 (l := hl) (f := fI) (u := (b : Int)) (by repeat first | exact NoP.sp | apply NoP.then | apply NoP.block) rfl (wanted_yes rfl rfl rfl) rfl (fun a _ h => wanted_yes rfl rfl rfl a h) rfl rfl rfl rfl rfl (Int.natCast_nonneg _) (by omega) (still_rd 1 rfl (fun _ => rfl) hoh rfl) (by simpa using hhg) rfl rfl rfl rfl (by kernel_rfl) (by kernel_rfl) (by kernel_rfl) (by kernel_rfl) (by kernel_rfl) (fun _ => ?_)
              (refine ga_py 37 (by repeat first | exact NoP.sp | apply NoP.then | apply NoP.block) rfl rfl rfl rfl (pv_spec rfl) rfl (by kernel_rfl) (by kernel_rfl) (by kernel_rfl) ?_); (refine ga_py 38 (by repeat first | exact NoP.sp | apply NoP.then | apply NoP.block) rfl rfl rfl rfl (pv_spec rfl) rfl (by kernel_rfl) (by kernel_rfl) (by kernel_rfl) ?_)
              refine ga_at 39 40 (l := m.vals) (f := fV) (u := (.slice uad row.length ucap)) (by repeat first | exact NoP.sp | apply NoP.then | apply NoP.block) rfl (wanted_yes rfl rfl rfl) rfl (fun a _ h => wanted_yes rfl rfl rfl a h) rfl rfl rfl rfl rfl (Int.natCast_nonneg _) (by omega) (still_rd 2 rfl (fun _ => rfl) hol.row rfl) (by simpa using hu) rfl rfl rfl rfl (by kernel_rfl) (by kernel_rfl) (by kernel_rfl) (by kernel_rfl) (by kernel_rfl) (fun _ => ?_)
              (refine ga_py 41 (by repeat first | exact NoP.sp | apply NoP.then | apply NoP.block) rfl rfl rfl rfl (pv_spec rfl) rfl (by kernel_rfl) (by kernel_rfl) (by kernel_rfl) ?_)
              refine ga_at 42 43 (l := row) (f := fI) (u := (u : Int)) (by repeat first | exact NoP.sp | apply NoP.then | apply NoP.block) rfl (wanted_yes rfl rfl rfl) rfl (fun a _ h => wanted_yes rfl rfl rfl a h) rfl rfl rfl rfl rfl (Int.natCast_nonneg _) (by omega) (still_row 3 rfl ha hua rfl) (by simpa using hku) rfl rfl rfl rfl (by kernel_rfl) (by kernel_rfl) (by kernel_rfl) (by kernel_rfl) (by kernel_rfl) (fun _ => ?_)
              refine ga_one (i := 44) (by kernel_rfl) (gs_of rfl (fun K hK => ?_))
              repeat' (refine g_yes rfl rfl rfl ?_)
              refine g_call rfl (Cl.of Try.func27 rfl rfl) rfl rfl (fun w' hE => lover_sp N I hlt0 hM hn2 b u _ w' (OwnI.rd hoa' (hp_in hE 4 rfl)) hur) rfl (fun y hy => ?_)
              obtain rfl := hy.2 hdm
              refine g_nil ?_
              refine hK _ _ ⟨[], by simp⟩ ?_
              (refine ga_py 45 (by repeat first | exact NoP.sp | apply NoP.then | apply NoP.block) rfl rfl rfl rfl (pv_spec rfl) rfl (by kernel_rfl) (by kernel_rfl) (by kernel_rfl) ?_); (refine ga_py 46 (by repeat first | exact NoP.sp | apply NoP.then | apply NoP.block) rfl rfl rfl rfl (pv_spec rfl) rfl (by kernel_rfl) (by kernel_rfl) (by kernel_rfl) ?_); (refine ga_p 47 (by repeat first | exact NoP.sp | apply NoP.then | apply NoP.block) rfl (pv_spec rfl) rfl (by kernel_rfl) (by kernel_rfl) (by kernel_rfl) ?_)
              refine ga_nil (by kernel_rfl) ?_
              repeat' (first | refine g_pv rfl rfl ?_ | refine g_nil ?_ | refine gq_then ?_ | refine gc_region ?_ | refine gc_cond_f rfl ?_ | refine gc_skip ?_ | refine gq_block ?_)
              exact gq_again (k + 1) hklt (by omega) ⟨rfl, rfl, rfl, rfl, rfl, inc_eq (by omega), trivial⟩ (fun w' H => H)
          · repeat' (first | refine g_pv rfl rfl ?_ | refine g_nil ?_ | refine gq_then ?_ | refine gc_region ?_ | refine gc_exit ?_ | refine gq_then_exit ?_ | refine gq_block ?_ | refine gq_block_exit ?_)
            exact gq_again (i + 1) hlt (by omega) ⟨rfl, rfl, rfl, rfl, inc_eq (by omega), trivial⟩ (fun w' H => H)
        · repeat' (first | refine gq_then ?_ | refine gc_seq ?_ | refine gc_region ?_ | refine gc_exit ?_ | refine gq_then_exit ?_ | refine gq_block_exit ?_)
          refine g_call rfl (Cl.of Try.func17 rfl rfl) rfl rfl (fun w' hE => heads_sp w') rfl (fun _ _ => ?_)
          repeat' (first | refine g_pv rfl rfl ?_ | refine g_nil ?_ | refine gq_then ?_ | refine gc_ret ?_)
          exact gq_ret1 (.inr rfl) rfl rfl rfl (fun w' H => ⟨(), trivial, rfl, hp_nil H⟩)
end Go.Proofs.Ytpmkkmahimdjkaa
