/-
  The law FlowEntered: whatever is reached is reached from somewhere.
-/
import Derived.Test.YtpmkkmahimdjkaaO0
namespace Go.Proofs.Ytpmkkmahimdjkaa
open Go.Wk
set_option linter.unusedVariables false
set_option linter.unusedSimpArgs false
attribute [local irreducible] G GC GQ GA GS Exit.then Exit.inBlock

theorem r0_iff {code : List Ins} {la : List Int} (hs : IsSet la (Rch (nxt code) [0])) (u : Nat) : (u = 0 ∨ ∃ x ∈ la, (u : Int) ∈ nxt code x.toNat) ↔ (u : Int) ∈ la := by
  have hm : ∀ u : Nat, (u : Int) ∈ la ↔ Rch (nxt code) [0] u := by
    intro u
    refine (hs.2 u).trans ⟨?_, fun h => ⟨u, rfl, h⟩⟩
    rintro ⟨v, h, hv⟩
    have : u = v := by omega
    subst this
    exact hv
  rw [hm]
  constructor
  · rintro (rfl | ⟨x, hx, h⟩)
    · exact .base (by simp)
    · obtain ⟨v, rfl, hv⟩ := (hs.2 x).1 hx
      exact .step hv (by simpa using h)
  · intro h
    cases h with
    | base h => simp at h; exact .inl h
    | step h1 h2 => exact .inr ⟨_, (hm _).2 h1, by simpa using h2⟩
theorem mk_nil {n u : Nat} : ¬ mk' (List.replicate n false) u := by
  unfold mk'
  rw [List.getD_eq_getElem?_getD, List.getElem?_replicate]
  split <;> simp

set_option maxHeartbeats 16000000 in
theorem flowEntered_sp (f : TF) (w : World) (hf : CodeIn (hw w) f.cA f.code) : Sp Try.prog 6 [f.val] w [] (fun _ : Unit => .bool true) (fun _ => []) (fun _ => True) := by
  refine enter (s := Try.sx) [] Try.func6 rfl rfl rfl (Eff.refl w) ?_
  repeat' (first | refine g_pv rfl rfl ?_ | refine g_ld 0 rfl rfl rfl rfl rfl rfl ?_ | refine g_nil ?_ | refine gq_then ?_ | refine gc_seq ?_ | refine gc_region ?_ | refine g_box rfl rfl (fun _ => ?_))
  rename_i b1
  refine g_call rfl (Cl.of Try.func10 rfl rfl) rfl rfl (fun w' hE => reach_sp f w' (hf.le (fun b o h => old_le hE b o (old_le0 _ w b o h)))) rfl ?_
  rintro ⟨va, Aa⟩ ⟨la, hoa, hla⟩
  dsimp only at hoa ⊢
  cases hr : f.right with
  | false =>
    have he : errOf f = 160 := by simp [errOf, hr]
    rw [he]
    have hR : ∀ w', CodeIn (hw w') f.cA f.code → Sp Try.prog 24 [f.val] w' [] (fun _ : Unit => .bool false) (fun _ => []) (fun _ => True) := fun w' h => by have := right_sp f w' h; rwa [hr] at this
    repeat' (first | refine g_pv rfl rfl ?_ | refine g_nil ?_ | refine gq_then ?_ | refine gc_seq ?_ | refine gc_region ?_)
    refine g_call rfl (Cl.of Try.func15 rfl rfl) rfl rfl (fun w' hE => num_sp 160 w') rfl (fun _ _ => ?_)
    repeat' (first | refine g_pv rfl rfl ?_ | refine g_nil ?_ | refine gq_then ?_ | refine gc_seq ?_ | refine gc_cond_t rfl ?_ | refine g_no rfl rfl rfl rfl rfl ?_)
    refine gc_draw [Aa, [(b1, .cells f.val.cells 25 (0, 0))]] [] rfl (by simp) ?_
    (refine ga_p 0 (by repeat first | exact NoP.sp | apply NoP.then | apply NoP.block) rfl (pv_spec rfl) rfl (by kernel_rfl) (by kernel_rfl) (by kernel_rfl) ?_); (refine ga_ld 3 1 (by repeat first | exact NoP.sp | apply NoP.then | apply NoP.block) rfl wanted_none rfl rfl rfl rfl rfl rfl (by kernel_rfl) (by kernel_rfl) (by kernel_rfl) ?_)
    refine ga_one (i := 1) (by kernel_rfl) (gs_of rfl (fun K hK => ?_))
    refine g_call rfl (Cl.of Try.func15 rfl rfl) rfl rfl (fun w' hE => num_sp 160 w') rfl (fun _ _ => ?_)
    refine g_nil ?_
    refine hK _ _ ⟨[], by simp⟩ ?_
    (refine ga_p 2 (by repeat first | exact NoP.sp | apply NoP.then | apply NoP.block) rfl (pv_spec rfl) rfl (by kernel_rfl) (by kernel_rfl) (by kernel_rfl) ?_)
    refine ga_one (i := 4) (by kernel_rfl) (gs_of rfl (fun K hK => ?_))
    refine g_call rfl (Cl.of Try.func24 rfl rfl) rfl rfl (fun w' hE => hR w' (hf.le (fun b o h => old_le hE b o (old_le0 _ w b o h)))) rfl (fun _ _ => ?_)
    refine g_nil ?_
    refine hK _ _ ⟨[], by simp⟩ ?_
    (refine ga_p 5 (by repeat first | exact NoP.sp | apply NoP.then | apply NoP.block) rfl (pv_spec rfl) rfl (by kernel_rfl) (by kernel_rfl) (by kernel_rfl) ?_)
    refine ga_p 6 (by repeat first | exact NoP.sp | apply NoP.then | apply NoP.block) rfl (p_eqB rfl rfl rfl) rfl (by kernel_rfl) (by kernel_rfl) (by kernel_rfl) ?_
    (refine ga_p 7 (by repeat first | exact NoP.sp | apply NoP.then | apply NoP.block) rfl (pv_spec rfl) rfl (by kernel_rfl) (by kernel_rfl) (by kernel_rfl) ?_)
    refine ga_one (i := 8) (by kernel_rfl) (gs_of rfl (fun K hK => ?_))
    repeat' (refine g_yes rfl rfl rfl ?_)
    refine g_call rfl (Cl.of Try.func17 rfl rfl) rfl rfl (fun w' hE => heads_sp w') rfl (fun _ _ => ?_)
    refine g_nil ?_
    refine hK _ _ ⟨[], by simp⟩ ?_
    (refine ga_p 9 (by repeat first | exact NoP.sp | apply NoP.then | apply NoP.block) rfl (pv_spec rfl) rfl (by kernel_rfl) (by kernel_rfl) (by kernel_rfl) ?_); (refine ga_p 10 (by repeat first | exact NoP.sp | apply NoP.then | apply NoP.block) rfl (pv_spec rfl) rfl (by kernel_rfl) (by kernel_rfl) (by kernel_rfl) ?_)
    refine ga_nil (by kernel_rfl) ?_
    repeat' (first | refine gq_then ?_ | refine gc_ret ?_ | refine gq_then_ret ?_)
    exact gq_ret1 (.inr rfl) rfl rfl rfl (fun w' H => ⟨(), trivial, rfl, hp_nil H⟩)
  | true =>
    have he : errOf f = 0 := by simp [errOf, hr]
    rw [he]
    rw [hr] at hla
    have hs := ite_t rfl hla
    have hR : ∀ w', CodeIn (hw w') f.cA f.code → Sp Try.prog 24 [f.val] w' [] (fun _ : Unit => .bool true) (fun _ => []) (fun _ => True) := fun w' h => by have := right_sp f w' h; rwa [hr] at this
    obtain ⟨hn1, hn2, _, _⟩ := TF.right_n hr
    have F := frOf_fr f.code hn1
    have hlt0 : ∀ v, R0 (nxt f.code) v → v < f.code.length := fun v hv => F.lt v hv
    have hlal : la.length ≤ f.code.length := isset_len hs hlt0
    obtain ⟨ad, cap, rfl, _⟩ := Own.shape hoa
    repeat' (first | refine g_pv rfl rfl ?_ | refine g_nil ?_ | refine gq_then ?_ | refine gc_seq ?_ | refine gc_region ?_)
    refine g_call rfl (Cl.of Try.func15 rfl rfl) rfl rfl (fun w' hE => num_sp 0 w') rfl (fun _ _ => ?_)
    repeat' (first | refine g_pv rfl rfl ?_ | refine g_ld 1 rfl rfl rfl rfl rfl rfl ?_ | refine g_nil ?_ | refine gq_then ?_ | refine g_yes rfl rfl rfl ?_)
    refine gc_condC rfl (fun hc => ?_) (fun hc => ?_)
    · repeat' (refine gc_seq ?_)
      refine gc_draw [Aa, [(b1, .cells f.val.cells 25 (0, 0))]] [] rfl (by simp) ?_
      (refine ga_p 0 (by repeat first | exact NoP.sp | apply NoP.then | apply NoP.block) rfl (pv_spec rfl) rfl (by kernel_rfl) (by kernel_rfl) (by kernel_rfl) ?_); (refine ga_ld 3 1 (by repeat first | exact NoP.sp | apply NoP.then | apply NoP.block) rfl wanted_none rfl rfl rfl rfl rfl rfl (by kernel_rfl) (by kernel_rfl) (by kernel_rfl) ?_)
      refine ga_one (i := 1) (by kernel_rfl) (gs_of rfl (fun K hK => ?_))
      refine g_call rfl (Cl.of Try.func15 rfl rfl) rfl rfl (fun w' hE => num_sp 0 w') rfl (fun _ _ => ?_)
      refine g_nil ?_
      refine hK _ _ ⟨[], by simp⟩ ?_
      (refine ga_p 2 (by repeat first | exact NoP.sp | apply NoP.then | apply NoP.block) rfl (pv_spec rfl) rfl (by kernel_rfl) (by kernel_rfl) (by kernel_rfl) ?_)
      refine ga_one (i := 4) (by kernel_rfl) (gs_of rfl (fun K hK => ?_))
      refine g_call rfl (Cl.of Try.func24 rfl rfl) rfl rfl (fun w' hE => hR w' (hf.le (fun b o h => old_le hE b o (old_le0 _ w b o h)))) rfl (fun _ _ => ?_)
      refine g_nil ?_
      refine hK _ _ ⟨[], by simp⟩ ?_
      (refine ga_p 5 (by repeat first | exact NoP.sp | apply NoP.then | apply NoP.block) rfl (pv_spec rfl) rfl (by kernel_rfl) (by kernel_rfl) (by kernel_rfl) ?_)
      refine ga_p 6 (by repeat first | exact NoP.sp | apply NoP.then | apply NoP.block) rfl (p_eqB rfl rfl rfl) rfl (by kernel_rfl) (by kernel_rfl) (by kernel_rfl) ?_
      (refine ga_p 7 (by repeat first | exact NoP.sp | apply NoP.then | apply NoP.block) rfl (pv_spec rfl) rfl (by kernel_rfl) (by kernel_rfl) (by kernel_rfl) ?_)
      refine ga_one (i := 8) (by kernel_rfl) (gs_of rfl (fun K hK => ?_))
      repeat' (refine g_yes rfl rfl rfl ?_)
      refine g_call rfl (Cl.of Try.func17 rfl rfl) rfl rfl (fun w' hE => heads_sp w') rfl (fun _ _ => ?_)
      refine g_nil ?_
      refine hK _ _ ⟨[], by simp⟩ ?_
      (refine ga_p 9 (by repeat first | exact NoP.sp | apply NoP.then | apply NoP.block) rfl (pv_spec rfl) rfl (by kernel_rfl) (by kernel_rfl) (by kernel_rfl) ?_); (refine ga_p 10 (by repeat first | exact NoP.sp | apply NoP.then | apply NoP.block) rfl (pv_spec rfl) rfl (by kernel_rfl) (by kernel_rfl) (by kernel_rfl) ?_)
      refine ga_nil (by kernel_rfl) ?_
      repeat' (first | refine gq_then ?_ | refine gc_ret ?_ | refine gq_then_ret ?_)
      exact gq_ret1 (.inr rfl) rfl rfl rfl (fun w' H => ⟨(), trivial, rfl, hp_nil H⟩)
    · have h60 : f.code.length ≤ 2000 := by have := of_decide_eq_false hc; omega
      repeat' (first | refine g_pv rfl rfl ?_ | refine g_ld 1 rfl rfl rfl rfl rfl rfl ?_ | refine gq_then ?_ | refine gc_seq ?_ | refine gc_region ?_ | refine gc_skip ?_)
      refine g_make (n := f.code.length) (c := f.code.length) rfl rfl rfl rfl rfl (Nat.le_refl _) (by show 1 * _ ≤ _; omega) (by omega) rfl (fun go => ?_)
      have ho0 := own_bools go f.code.length (by unfold maxLen; omega)
      repeat' (first | refine g_pv rfl rfl ?_ | refine g_nil ?_ | refine gq_then ?_ | refine gc_seq ?_ | refine gc_region ?_ | refine gc_block ?_)
      refine gc_loop (Y := Nat × List Bool × HL) (fun y => y.1 ≤ la.length ∧ y.2.1.length = f.code.length ∧ OwnL 4 1 fB (.slice (some ⟨go, 0, none⟩) f.code.length f.code.length) y.2.1 y.2.2 ∧ ∀ u : Nat, mk' y.2.1 u ↔ (u : Int) ∈ la.take y.1)
        (fun y => [(1, .pointer (some ⟨b1, 0, none⟩)), (3, .slice ad la.length cap), (5, .slice (some ⟨go, 0, none⟩) f.code.length f.code.length), (6, .int .i64 y.1)]) (fun y => [y.2.2, Aa, [(b1, .cells f.val.cells 25 (0, 0))]])
        (fun y => la.length - y.1) (0, _, _) ⟨Nat.zero_le _, by simp, ho0, fun u => by simp [mk_nil]⟩ ⟨rfl, rfl, rfl, rfl, trivial⟩ (fun w' H => H) ?_
      rintro ⟨i, bs, Ao⟩ ⟨hi, hbl, hob, hbs⟩
      try dsimp only at hi hbl hob hbs ⊢
      repeat' (first | refine g_pv rfl rfl ?_ | refine g_nil ?_ | refine gq_then ?_ | refine gc_seq ?_ | refine gc_region ?_)
      refine gc_condC rfl (fun hc => ?_) (fun hc => ?_)
      · have hlt : i < la.length := by have := of_decide_eq_true hc; omega
        obtain ⟨u, hu, hur⟩ := (hs.2 la[i]).1 (List.getElem_mem hlt)
        have hun := hlt0 u hur
        have hget : la[i]? = some (u : Int) := by rw [List.getElem?_eq_getElem hlt, hu]
        repeat' (first | refine gq_then ?_ | refine gc_skip ?_)
        refine gc_seq ?_
        repeat' (refine gc_block ?_)
        refine gc_seq ?_
        repeat' (fail)
        refine gc_cut (Y := Unit) (fun _ => True) (fun _ => [(75, .bool false), (1, .pointer (some ⟨b1, 0, none⟩)), (3, .slice ad la.length cap), (5, .slice (some ⟨go, 0, none⟩) f.code.length f.code.length), (6, .int .i64 i)]) (fun _ => [Ao, Aa, [(b1, .cells f.val.cells 25 (0, 0))]]) ?_ ?_
        · refine gc_draw [Ao, Aa, [(b1, .cells f.val.cells 25 (0, 0))]] [] rfl (by simp) ?_
          (refine ga_p 0 (by repeat first | exact NoP.sp | apply NoP.then | apply NoP.block) rfl (pv_spec rfl) rfl (by kernel_rfl) (by kernel_rfl) (by kernel_rfl) ?_); (refine ga_p 1 (by repeat first | exact NoP.sp | apply NoP.then | apply NoP.block) rfl (pv_spec rfl) rfl (by kernel_rfl) (by kernel_rfl) (by kernel_rfl) ?_)
          refine ga_at 2 3 (l := la) (f := fI) (u := (u : Int)) (by repeat first | exact NoP.sp | apply NoP.then | apply NoP.block) rfl wanted_none rfl (fun a _ => wanted_none a) rfl rfl rfl rfl rfl (Int.natCast_nonneg _) (by omega) (still_rd 1 rfl (fun _ => rfl) hoa rfl) (by simpa using hget) rfl rfl rfl rfl (by kernel_rfl) (by kernel_rfl) (by kernel_rfl) (by kernel_rfl) (by kernel_rfl) (fun _ => ?_)
          (refine ga_p 4 (by repeat first | exact NoP.sp | apply NoP.then | apply NoP.block) rfl (pv_spec rfl) rfl (by kernel_rfl) (by kernel_rfl) (by kernel_rfl) ?_)
          refine ga_eq 50 (u' := .bool false) rfl rfl ?_
          (refine ga_p 5 (by repeat first | exact NoP.sp | apply NoP.then | apply NoP.block) rfl (pv_spec rfl) rfl (by kernel_rfl) (by kernel_rfl) (by kernel_rfl) ?_); (refine ga_py 6 (by repeat first | exact NoP.sp | apply NoP.then | apply NoP.block) rfl rfl rfl rfl (pv_spec rfl) rfl (by kernel_rfl) (by kernel_rfl) (by kernel_rfl) ?_); (refine ga_py 7 (by repeat first | exact NoP.sp | apply NoP.then | apply NoP.block) rfl rfl rfl rfl (pv_spec rfl) rfl (by kernel_rfl) (by kernel_rfl) (by kernel_rfl) ?_)
          refine ga_at 8 9 (l := la) (f := fI) (u := (u : Int)) (by repeat first | exact NoP.sp | apply NoP.then | apply NoP.block) rfl (wanted_yes rfl rfl rfl) rfl (fun a _ h => wanted_yes rfl rfl rfl a h) rfl rfl rfl rfl rfl (Int.natCast_nonneg _) (by omega) (still_rd 1 rfl (fun _ => rfl) hoa rfl) (by simpa using hget) rfl rfl rfl rfl (by kernel_rfl) (by kernel_rfl) (by kernel_rfl) (by kernel_rfl) (by kernel_rfl) (fun _ => ?_)
          (refine ga_py 10 (by repeat first | exact NoP.sp | apply NoP.then | apply NoP.block) rfl rfl rfl rfl (pv_spec rfl) rfl (by kernel_rfl) (by kernel_rfl) (by kernel_rfl) ?_); (refine ga_py 11 (by repeat first | exact NoP.sp | apply NoP.then | apply NoP.block) rfl rfl rfl rfl (pv_spec rfl) rfl (by kernel_rfl) (by kernel_rfl) (by kernel_rfl) ?_); (refine ga_py 12 (by repeat first | exact NoP.sp | apply NoP.then | apply NoP.block) rfl rfl rfl rfl (pv_spec rfl) rfl (by kernel_rfl) (by kernel_rfl) (by kernel_rfl) ?_)
          refine ga_eq 58 (u' := .bool false) rfl (by congr 1; exact decide_eq_false (by omega)) ?_
          (refine ga_p 13 (by repeat first | exact NoP.sp | apply NoP.then | apply NoP.block) rfl (pv_spec rfl) rfl (by kernel_rfl) (by kernel_rfl) (by kernel_rfl) ?_); (refine ga_p 14 (by repeat first | exact NoP.sp | apply NoP.then | apply NoP.block) rfl (pv_spec rfl) rfl (by kernel_rfl) (by kernel_rfl) (by kernel_rfl) ?_); (refine ga_py 15 (by repeat first | exact NoP.sp | apply NoP.then | apply NoP.block) rfl rfl rfl rfl (pv_spec rfl) rfl (by kernel_rfl) (by kernel_rfl) (by kernel_rfl) ?_); (refine ga_py 16 (by repeat first | exact NoP.sp | apply NoP.then | apply NoP.block) rfl rfl rfl rfl (pv_spec rfl) rfl (by kernel_rfl) (by kernel_rfl) (by kernel_rfl) ?_)
          by_cases h0 : i = 0
          · refine ga_eq 62 (u' := .bool false) rfl (by congr 1; exact decide_eq_false (by omega)) ?_
            (refine ga_py 17 (by repeat first | exact NoP.sp | apply NoP.then | apply NoP.block) rfl rfl rfl rfl (pv_spec rfl) rfl (by kernel_rfl) (by kernel_rfl) (by kernel_rfl) ?_); (refine ga_n 18 (by repeat first | exact NoP.sp | apply NoP.then | apply NoP.block) rfl rfl rfl rfl rfl rfl (by kernel_rfl) (by kernel_rfl) (by kernel_rfl) ?_); (refine ga_n 19 (by repeat first | exact NoP.sp | apply NoP.then | apply NoP.block) rfl rfl rfl rfl rfl rfl (by kernel_rfl) (by kernel_rfl) (by kernel_rfl) ?_); (refine ga_n 20 (by repeat first | exact NoP.sp | apply NoP.then | apply NoP.block) rfl rfl rfl rfl rfl rfl (by kernel_rfl) (by kernel_rfl) (by kernel_rfl) ?_); (refine ga_n 21 (by repeat first | exact NoP.sp | apply NoP.then | apply NoP.block) rfl rfl rfl rfl rfl rfl (by kernel_rfl) (by kernel_rfl) (by kernel_rfl) ?_); (refine ga_n 22 (by repeat first | exact NoP.sp | apply NoP.then | apply NoP.block) rfl rfl rfl rfl rfl rfl (by kernel_rfl) (by kernel_rfl) (by kernel_rfl) ?_); (refine ga_n 23 (by repeat first | exact NoP.sp | apply NoP.then | apply NoP.block) rfl rfl rfl rfl rfl rfl (by kernel_rfl) (by kernel_rfl) (by kernel_rfl) ?_); (refine ga_n 24 (by repeat first | exact NoP.sp | apply NoP.then | apply NoP.block) rfl rfl rfl rfl rfl rfl (by kernel_rfl) (by kernel_rfl) (by kernel_rfl) ?_); (refine ga_n 25 (by repeat first | exact NoP.sp | apply NoP.then | apply NoP.block) rfl rfl rfl rfl rfl rfl (by kernel_rfl) (by kernel_rfl) (by kernel_rfl) ?_); (refine ga_n 26 (by repeat first | exact NoP.sp | apply NoP.then | apply NoP.block) rfl rfl rfl rfl rfl rfl (by kernel_rfl) (by kernel_rfl) (by kernel_rfl) ?_); (refine ga_n 27 (by repeat first | exact NoP.sp | apply NoP.then | apply NoP.block) rfl rfl rfl rfl rfl rfl (by kernel_rfl) (by kernel_rfl) (by kernel_rfl) ?_); (refine ga_py 28 (by repeat first | exact NoP.sp | apply NoP.then | apply NoP.block) rfl rfl rfl rfl (pv_spec rfl) rfl (by kernel_rfl) (by kernel_rfl) (by kernel_rfl) ?_); (refine ga_p 29 (by repeat first | exact NoP.sp | apply NoP.then | apply NoP.block) rfl (pv_spec rfl) rfl (by kernel_rfl) (by kernel_rfl) (by kernel_rfl) ?_)
            refine ga_nil (by kernel_rfl) ?_
            exact gq_at () trivial ⟨rfl, rfl, rfl, rfl, rfl, trivial⟩ (fun w' H => H)
          · have hlt' : i - 1 < la.length := by omega
            have hget' : la[i - 1]? = some la[i - 1] := List.getElem?_eq_getElem hlt'
            have hord : la[i - 1] < (u : Int) := by rw [← hu]; exact List.pairwise_iff_getElem.1 hs.1 (i - 1) i hlt' hlt (by omega)
            generalize la[i - 1] = pv at hget' hord
            refine ga_eq 62 (u' := .bool true) rfl (by congr 1; exact decide_eq_true (by omega)) ?_
            (refine ga_py 17 (by repeat first | exact NoP.sp | apply NoP.then | apply NoP.block) rfl rfl rfl rfl (pv_spec rfl) rfl (by kernel_rfl) (by kernel_rfl) (by kernel_rfl) ?_); (refine ga_py 18 (by repeat first | exact NoP.sp | apply NoP.then | apply NoP.block) rfl rfl rfl rfl (pv_spec rfl) rfl (by kernel_rfl) (by kernel_rfl) (by kernel_rfl) ?_); (refine ga_py 19 (by repeat first | exact NoP.sp | apply NoP.then | apply NoP.block) rfl rfl rfl rfl (pv_spec rfl) rfl (by kernel_rfl) (by kernel_rfl) (by kernel_rfl) ?_)
            refine ga_at 20 21 (l := la) (f := fI) (u := (u : Int)) (by repeat first | exact NoP.sp | apply NoP.then | apply NoP.block) rfl (wanted_yes rfl rfl rfl) rfl (fun a _ h => wanted_yes rfl rfl rfl a h) rfl rfl rfl rfl rfl (Int.natCast_nonneg _) (by omega) (still_rd 1 rfl (fun _ => rfl) hoa rfl) (by simpa using hget) rfl rfl rfl rfl (by kernel_rfl) (by kernel_rfl) (by kernel_rfl) (by kernel_rfl) (by kernel_rfl) (fun _ => ?_)
            (refine ga_py 22 (by repeat first | exact NoP.sp | apply NoP.then | apply NoP.block) rfl rfl rfl rfl (pv_spec rfl) rfl (by kernel_rfl) (by kernel_rfl) (by kernel_rfl) ?_); (refine ga_py 23 (by repeat first | exact NoP.sp | apply NoP.then | apply NoP.block) rfl rfl rfl rfl (pv_spec rfl) rfl (by kernel_rfl) (by kernel_rfl) (by kernel_rfl) ?_); (refine ga_py 24 (by repeat first | exact NoP.sp | apply NoP.then | apply NoP.block) rfl rfl rfl rfl (pv_spec rfl) rfl (by kernel_rfl) (by kernel_rfl) (by kernel_rfl) ?_)
            refine ga_eq 70 (u' := .int .i64 ((i - 1 : Nat) : Int)) rfl (by congr 1; rw [IntKind.wrap_i64]; omega) ?_
            refine ga_at 25 26 (l := la) (f := fI) (u := pv) (by repeat first | exact NoP.sp | apply NoP.then | apply NoP.block) rfl (wanted_yes rfl rfl rfl) rfl (fun a _ h => wanted_yes rfl rfl rfl a h) rfl rfl rfl rfl rfl (Int.natCast_nonneg _) (by omega) (still_rd 1 rfl (fun _ => rfl) hoa rfl) (by simpa using hget') rfl rfl rfl rfl (by kernel_rfl) (by kernel_rfl) (by kernel_rfl) (by kernel_rfl) (by kernel_rfl) (fun _ => ?_)
            (refine ga_py 27 (by repeat first | exact NoP.sp | apply NoP.then | apply NoP.block) rfl rfl rfl rfl (pv_spec rfl) rfl (by kernel_rfl) (by kernel_rfl) (by kernel_rfl) ?_)
            refine ga_eq 73 (u' := .bool false) rfl (by congr 1; exact decide_eq_false (by omega)) ?_
            (refine ga_py 28 (by repeat first | exact NoP.sp | apply NoP.then | apply NoP.block) rfl rfl rfl rfl (pv_spec rfl) rfl (by kernel_rfl) (by kernel_rfl) (by kernel_rfl) ?_); (refine ga_p 29 (by repeat first | exact NoP.sp | apply NoP.then | apply NoP.block) rfl (pv_spec rfl) rfl (by kernel_rfl) (by kernel_rfl) (by kernel_rfl) ?_)
            refine ga_nil (by kernel_rfl) ?_
            exact gq_at () trivial ⟨rfl, rfl, rfl, rfl, rfl, trivial⟩ (fun w' H => H)
        rintro ⟨⟩ -
        dsimp only
        repeat' (first | refine g_pv rfl rfl ?_ | refine gq_then ?_ | refine gc_region ?_ | refine gc_cond_f rfl ?_ | refine gc_skip ?_)
        refine g_atL 1 (f := fI) (q := (u : Int)) rfl rfl hoa (fun _ => rfl) rfl rfl rfl rfl (Int.natCast_nonneg i) (by simpa using hget) rfl rfl rfl (fun _ => ?_)
        repeat' (fail)
        refine g_setL 0 (f := fB) (q := true) rfl rfl hob (fun _ => rfl) rfl rfl rfl rfl (Int.natCast_nonneg u) (by omega) rfl rfl rfl rfl rfl (fun _ A1 ho1 => ?_)
        rw [Int.toNat_natCast] at ho1
        repeat' (first | refine g_pv rfl rfl ?_ | refine g_nil ?_ | refine gq_then ?_ | refine gc_region ?_ | refine gq_block ?_)
        refine gq_again (i + 1, bs.set u true, A1) ⟨hlt, by simp [hbl], ho1, fun v => ?_⟩ (by simp only; omega) ⟨rfl, rfl, rfl, inc_eq (by omega), trivial⟩ (fun w' H => H)
        simp only
        rw [mk_set (by omega), hbs, List.take_succ_eq_append_getElem hlt, hu]
        simp only [List.mem_append, List.mem_singleton]
        constructor
        · rintro (rfl | h)
          · exact .inr rfl
          · exact .inl h
        · rintro (h | h)
          · exact .inr h
          · exact .inl (by omega)
      · have hge : i = la.length := by have := of_decide_eq_false hc; omega
        subst hge
        rw [List.take_length] at hbs
        repeat' (first | refine g_pv rfl rfl ?_ | refine g_ld 2 rfl rfl rfl rfl rfl rfl ?_ | refine gq_then ?_ | refine gc_seq ?_ | refine gc_region ?_ | refine gc_exit ?_ | refine gq_then_exit ?_ | refine gq_block_exit ?_)
        refine g_make (n := f.code.length) (c := f.code.length) rfl rfl rfl rfl rfl (Nat.le_refl _) (by show 1 * _ ≤ _; omega) (by omega) rfl (fun gf => ?_)
        have hf0 := own_bools gf f.code.length (by unfold maxLen; omega)
        repeat' (first | refine g_pv rfl rfl ?_ | refine g_nil ?_ | refine gq_then ?_ | refine gc_seq ?_ | refine gc_region ?_)
        refine g_setL 0 (f := fB) (q := true) rfl rfl hf0 (fun _ => rfl) rfl rfl rfl rfl (by omega) (by simp; omega) rfl rfl rfl rfl rfl (fun _ A0 hf1 => ?_)
        repeat' (first | refine g_pv rfl rfl ?_ | refine g_nil ?_ | refine gq_then ?_ | refine gc_seq ?_ | refine gc_region ?_ | refine gc_block ?_)
        refine gc_loop (Y := Nat × List Bool × HL) (fun y => y.1 ≤ la.length ∧ y.2.1.length = f.code.length ∧ OwnL 4 1 fB (.slice (some ⟨gf, 0, none⟩) f.code.length f.code.length) y.2.1 y.2.2 ∧ ∀ u : Nat, mk' y.2.1 u ↔ (u = 0 ∨ ∃ x ∈ la.take y.1, (u : Int) ∈ nxt f.code x.toNat))
          (fun y => [(1, .pointer (some ⟨b1, 0, none⟩)), (3, .slice ad la.length cap), (5, .slice (some ⟨go, 0, none⟩) f.code.length f.code.length), (7, .slice (some ⟨gf, 0, none⟩) f.code.length f.code.length), (8, .int .i64 y.1)]) (fun y => [y.2.2, Ao, Aa, [(b1, .cells f.val.cells 25 (0, 0))]])
          (fun y => la.length - y.1) (0, _, _) ⟨Nat.zero_le _, by simp, hf1, fun u => by rw [(show (0 : Int).toNat = 0 from rfl), mk_set (by simp; omega)]; simp [mk_nil]⟩ ⟨rfl, rfl, rfl, rfl, rfl, trivial⟩ (fun w' H => H) ?_
        rintro ⟨i, fs, Af⟩ ⟨hi, hfl, hof, hfs⟩
        try dsimp only at hi hfl hof hfs ⊢
        repeat' (first | refine g_pv rfl rfl ?_ | refine g_nil ?_ | refine gq_then ?_ | refine gc_seq ?_ | refine gc_region ?_)
        refine gc_condC rfl (fun hc => ?_) (fun hc => ?_)
        · have hlt : i < la.length := by have := of_decide_eq_true hc; omega
          obtain ⟨x, hx, hxr⟩ := (hs.2 la[i]).1 (List.getElem_mem hlt)
          have hxn := hlt0 x hxr
          have hget : la[i]? = some (x : Int) := by rw [List.getElem?_eq_getElem hlt, hx]
          repeat' (first | refine gq_then ?_ | refine gc_seq ?_ | refine gc_block ?_ | refine gc_skip ?_)
          refine gc_draw [Af, Ao, Aa, [(b1, .cells f.val.cells 25 (0, 0))]] [] rfl (by simp) ?_
          (refine ga_p 0 (by repeat first | exact NoP.sp | apply NoP.then | apply NoP.block) rfl (pv_spec rfl) rfl (by kernel_rfl) (by kernel_rfl) (by kernel_rfl) ?_); (refine ga_ld 1 3 (by repeat first | exact NoP.sp | apply NoP.then | apply NoP.block) rfl wanted_none rfl rfl rfl rfl rfl rfl (by kernel_rfl) (by kernel_rfl) (by kernel_rfl) ?_); (refine ga_p 2 (by repeat first | exact NoP.sp | apply NoP.then | apply NoP.block) rfl (pv_spec rfl) rfl (by kernel_rfl) (by kernel_rfl) (by kernel_rfl) ?_); (refine ga_p 3 (by repeat first | exact NoP.sp | apply NoP.then | apply NoP.block) rfl (pv_spec rfl) rfl (by kernel_rfl) (by kernel_rfl) (by kernel_rfl) ?_)
          refine ga_at 4 5 (l := la) (f := fI) (u := (x : Int)) (by repeat first | exact NoP.sp | apply NoP.then | apply NoP.block) rfl wanted_none rfl (fun a _ => wanted_none a) rfl rfl rfl rfl rfl (Int.natCast_nonneg _) (by omega) (still_rd 2 rfl (fun _ => rfl) hoa rfl) (by simpa using hget) rfl rfl rfl rfl (by kernel_rfl) (by kernel_rfl) (by kernel_rfl) (by kernel_rfl) (by kernel_rfl) (fun _ => ?_)
          refine ga_one (i := 6) (by kernel_rfl) (gs_of rfl (fun K hK => ?_))
          refine g_call rfl (Cl.of Try.func25 rfl rfl) rfl rfl (fun w' hE => rnext_sp' f.code x f.cA f.cC w' (hf.le (fun b o h => old_le hE b o (old_le0 _ w b o h))) hxn) rfl ?_
          rintro ⟨v9, A9⟩ ho9
          dsimp only at ho9 ⊢
          refine g_nil ?_
          refine hK _ _ ⟨[A9], List.perm_append_comm⟩ ?_
          (refine ga_p 7 (by repeat first | exact NoP.sp | apply NoP.then | apply NoP.block) rfl (pv_spec rfl) rfl (by kernel_rfl) (by kernel_rfl) (by kernel_rfl) ?_)
          refine ga_nil (by kernel_rfl) ?_
          have hnl := nxt_len f.code x
          have hni := nxt_in f.code x
          generalize hnx : nxt f.code x = nx at ho9 hnl hni
          obtain ⟨ad9, cap9, rfl, _⟩ := Own.shape ho9
          repeat' (first | refine g_pv rfl rfl ?_ | refine g_nil ?_ | refine gq_then ?_ | refine gc_seq ?_ | refine gc_region ?_ | refine gc_block ?_)
          refine gc_loop (Y := Nat × List Bool × HL) (fun y => y.1 ≤ nx.length ∧ y.2.1.length = f.code.length ∧ OwnL 4 1 fB (.slice (some ⟨gf, 0, none⟩) f.code.length f.code.length) y.2.1 y.2.2 ∧ ∀ u : Nat, mk' y.2.1 u ↔ (mk' fs u ∨ (u : Int) ∈ nx.take y.1))
            (fun y => [(1, .pointer (some ⟨b1, 0, none⟩)), (3, .slice ad la.length cap), (5, .slice (some ⟨go, 0, none⟩) f.code.length f.code.length), (7, .slice (some ⟨gf, 0, none⟩) f.code.length f.code.length), (8, .int .i64 i), (9, .slice ad9 nx.length cap9), (10, .int .i64 y.1)]) (fun y => [A9, y.2.2, Ao, Aa, [(b1, .cells f.val.cells 25 (0, 0))]])
            (fun y => nx.length - y.1) (0, fs, Af) ⟨Nat.zero_le _, hfl, hof, fun u => by simp⟩ ⟨rfl, rfl, rfl, rfl, rfl, rfl, rfl, trivial⟩ (fun w' H => H) ?_
          rintro ⟨k, gs, Ag⟩ ⟨hk, hgl, hog, hgs⟩
          try dsimp only at hk hgl hog hgs ⊢
          repeat' (first | refine g_pv rfl rfl ?_ | refine g_nil ?_ | refine gq_then ?_ | refine gc_seq ?_ | refine gc_region ?_)
          refine gc_condC rfl (fun hc2 => ?_) (fun hc2 => ?_)
          · have hklt : k < nx.length := by have := of_decide_eq_true hc2; omega
            have hkg : nx[k]? = some nx[k] := List.getElem?_eq_getElem hklt
            have hkb := hni _ (List.getElem_mem hklt)
            have htk := List.take_succ_eq_append_getElem hklt
            generalize nx[k] = z at hkg hkb htk
            repeat' (first | refine g_pv rfl rfl ?_ | refine gq_then ?_ | refine gc_seq ?_ | refine gc_region ?_ | refine gc_block ?_ | refine gc_skip ?_)
            refine g_atL 0 (f := fI) (q := z) rfl rfl ho9 (fun _ => rfl) rfl rfl rfl rfl (Int.natCast_nonneg k) (by simpa using hkg) rfl rfl rfl (fun _ => ?_)
            repeat' (fail)
            refine g_setL 1 (f := fB) (q := true) rfl rfl hog (fun _ => rfl) rfl rfl rfl rfl hkb.1 (by omega) rfl rfl rfl rfl rfl (fun _ A2 ho2 => ?_)
            repeat' (first | refine g_pv rfl rfl ?_ | refine g_nil ?_ | refine gq_then ?_ | refine gc_region ?_ | refine gq_block ?_)
            refine gq_again (k + 1, gs.set z.toNat true, A2) ⟨hklt, by simp [hgl], ho2, fun v => ?_⟩ (by simp only; omega) ⟨rfl, rfl, rfl, rfl, rfl, rfl, inc_eq (by omega), trivial⟩ (fun w' H => H)
            simp only
            rw [mk_set (by omega), hgs, htk]
            simp only [List.mem_append, List.mem_singleton]
            constructor
            · rintro (h | h | h)
              · exact .inr (.inr (by omega))
              · exact .inl h
              · exact .inr (.inl h)
            · rintro (h | h | h)
              · exact .inr (.inl h)
              · exact .inr (.inr h)
              · exact .inl (by omega)
          · have hke : k = nx.length := by have := of_decide_eq_false hc2; omega
            subst hke
            rw [List.take_length] at hgs
            repeat' (first | refine g_pv rfl rfl ?_ | refine g_nil ?_ | refine gq_then ?_ | refine gc_region ?_ | refine gc_exit ?_ | refine gq_then_exit ?_ | refine gq_block ?_ | refine gq_block_exit ?_)
            refine gq_again (i + 1, gs, Ag) ⟨hlt, hgl, hog, fun v => ?_⟩ (by simp only; omega) ⟨rfl, rfl, rfl, rfl, inc_eq (by omega), trivial⟩ (fun w' H => hp_take 1 rfl (fun H => hp_take 1 rfl (fun H => hp_take 1 rfl (fun H => hp_take 1 rfl (fun H => hp_nil H) H) H) H) H)
            simp only
            rw [hgs, hfs, List.take_succ_eq_append_getElem hlt, hx]
            subst hnx
            constructor
            · rintro ((h | ⟨y, hy, h⟩) | h)
              · exact .inl h
              · exact .inr ⟨y, List.mem_append_left _ hy, h⟩
              · exact .inr ⟨(x : Int), List.mem_append_right _ (by simp), by simpa using h⟩
            · rintro (h | ⟨y, hy, h⟩)
              · exact .inl (.inl h)
              · rcases List.mem_append.1 hy with hy | hy
                · exact .inl (.inr ⟨y, hy, h⟩)
                · simp at hy; subst hy; exact .inr (by simpa using h)
        · have hge : i = la.length := by have := of_decide_eq_false hc; omega
          subst hge
          rw [List.take_length] at hfs
          have heq : ∀ u : Nat, mk' fs u ↔ mk' bs u := fun u => by rw [hfs, hbs]; exact r0_iff hs u
          repeat' (first | refine g_pv rfl rfl ?_ | refine g_nil ?_ | refine gq_then ?_ | refine gc_seq ?_ | refine gc_region ?_ | refine gc_block ?_ | refine gc_exit ?_ | refine gq_then_exit ?_ | refine gq_block_exit ?_)
          refine gc_loop (Y := Nat) (fun y => y ≤ f.code.length)
            (fun y => [(5, .slice (some ⟨go, 0, none⟩) f.code.length f.code.length), (7, .slice (some ⟨gf, 0, none⟩) f.code.length f.code.length), (11, .int .i64 y)]) (fun _ => [Af, Ao])
            (fun y => f.code.length - y) 0 (Nat.zero_le _) ⟨rfl, rfl, rfl, trivial⟩ (fun w' H => hp_take 0 rfl (fun H => hp_take 0 rfl (fun H => hp_nil H) H) H) ?_
          rintro j hj
          try dsimp only at hj ⊢
          repeat' (first | refine g_pv rfl rfl ?_ | refine g_nil ?_ | refine gq_then ?_ | refine gc_seq ?_ | refine gc_region ?_)
          refine gc_condC rfl (fun hc => ?_) (fun hc => ?_)
          · have hlt : j < f.code.length := by have := of_decide_eq_true hc; omega
            have hbg : bs[j]? = some (bs.getD j false) := getD_some (by omega)
            have hfg : fs[j]? = some (fs.getD j false) := getD_some (by omega)
            have hbf : fs.getD j false = bs.getD j false := by
              have := heq j
              unfold mk' at this
              cases h1 : fs.getD j false <;> cases h2 : bs.getD j false <;> simp_all
            rw [hbf] at hfg
            generalize bs.getD j false = c at hbg hfg
            repeat' (first | refine g_pv rfl rfl ?_ | refine gq_then ?_ | refine gc_seq ?_ | refine gc_region ?_ | refine gc_block ?_ | refine gc_skip ?_)
            refine g_atL 0 (f := fB) (q := c) rfl rfl hof (fun _ => rfl) rfl rfl rfl rfl (Int.natCast_nonneg j) (by simpa using hfg) rfl rfl rfl (fun _ => ?_)
            cases c with
            | false =>
              repeat' (first | refine g_pv rfl rfl ?_ | refine g_yes rfl rfl rfl ?_ | refine g_no rfl rfl rfl rfl rfl ?_)
              refine g_ix rfl rfl rfl rfl (Int.natCast_nonneg j) (by omega) rfl ?_
              repeat' (refine g_yes rfl rfl rfl ?_)
              refine g_ldL 1 (f := fB) (i := j) rfl rfl rfl hob (fun _ => rfl) (by simp) hbg rfl rfl ?_
              repeat' (first | refine g_pv rfl rfl ?_ | refine g_nil ?_ | refine gq_then ?_ | refine gc_region ?_ | refine gc_cond_f rfl ?_ | refine gc_skip ?_ | refine gq_block ?_ | refine g_yes rfl rfl rfl ?_ | refine g_no rfl rfl rfl rfl rfl ?_)
              exact gq_again (j + 1) hlt (by omega) ⟨rfl, rfl, inc_eq (by omega), trivial⟩ (fun w' H => H)
            | true =>
              repeat' (first | refine g_pv rfl rfl ?_ | refine g_yes rfl rfl rfl ?_)
              refine g_ix rfl rfl rfl rfl (Int.natCast_nonneg j) (by omega) rfl ?_
              repeat' (refine g_yes rfl rfl rfl ?_)
              refine g_ldL 1 (f := fB) (i := j) rfl rfl rfl hob (fun _ => rfl) (by simp) hbg rfl rfl ?_
              repeat' (first | refine g_pv rfl rfl ?_ | refine g_yes rfl rfl rfl ?_)
              refine g_ix rfl rfl rfl rfl (Int.natCast_nonneg j) (by omega) rfl ?_
              repeat' (refine g_yes rfl rfl rfl ?_)
              refine g_ldL 1 (f := fB) (i := j) rfl rfl rfl hob (fun _ => rfl) (by simp) hbg rfl rfl ?_
              repeat' (first | refine g_pv rfl rfl ?_ | refine g_yes rfl rfl rfl ?_)
              refine g_ix rfl rfl rfl rfl (Int.natCast_nonneg j) (by omega) rfl ?_
              repeat' (refine g_yes rfl rfl rfl ?_)
              refine g_ldL 0 (f := fB) (i := j) rfl rfl rfl hof (fun _ => rfl) (by simp) hfg rfl rfl ?_
              repeat' (first | refine g_pv rfl rfl ?_ | refine g_nil ?_ | refine gq_then ?_ | refine gc_region ?_ | refine gc_cond_f rfl ?_ | refine gc_skip ?_ | refine gq_block ?_ | refine g_yes rfl rfl rfl ?_)
              exact gq_again (j + 1) hlt (by omega) ⟨rfl, rfl, inc_eq (by omega), trivial⟩ (fun w' H => H)
          · repeat' (first | refine gq_then ?_ | refine gc_seq ?_ | refine gc_region ?_ | refine gc_exit ?_ | refine gq_then_exit ?_ | refine gq_block_exit ?_)
            refine g_call rfl (Cl.of Try.func17 rfl rfl) rfl rfl (fun w' hE => heads_sp w') rfl (fun _ _ => ?_)
            repeat' (first | refine g_pv rfl rfl ?_ | refine g_nil ?_ | refine gq_then ?_ | refine gc_ret ?_)
            exact gq_ret1 (.inr rfl) rfl rfl rfl (fun w' H => ⟨(), trivial, rfl, hp_nil H⟩)
end Go.Proofs.Ytpmkkmahimdjkaa
