/-
  The document's function.
  The document's Check.
  Programs without their addresses: what Check says of them.
  A struct of three numbers held against another.
  The document's Same of bytes, Func, Prog: true of what differs in addresses alone.
-/
import Derived.Test.YtpohhfggmaihpaaGreatDoorZ16
import Derived.Test.YtpohhfggmaihpaaGreatDoorZ14

/- The document's function. -/
namespace Go.Proofs.YtpohhfggmaihpaaGreatDoor
open Go.Wk
set_option linter.unusedVariables false
set_option linter.unusedSimpArgs false
attribute [local irreducible] G GC GQ GA GS Exit.then Exit.inBlock

theorem rng_eq (n : Int) (lo hi : Int) : rngB n lo hi = (!decide (n < lo) && !decide (n > hi)) := by
  unfold rngB; rw [← decide_not, ← decide_not]
  congr 1 <;> exact decide_eq_decide.2 (by omega)
theorem rng_in {n lo hi : Int} (h : rngB n lo hi = true) : lo ≤ n ∧ n ≤ hi := by simpa [rngB] using h
def slotR (s : Slt) : Bool := rngB s.size 1 16384 && powB s.align
theorem slotR_eq (s : Slt) : slotR s = slotB s := by unfold slotR slotB; rw [rng_eq, Bool.and_assoc]
theorem slotR_fun : slotR = slotB := funext slotR_eq
theorem slotB_size {s : Slt} (h : slotB s = true) : 1 ≤ s.size ∧ s.size ≤ 16384 := by
  rw [← slotR_eq] at h; unfold slotR at h
  simp only [Bool.and_eq_true] at h
  exact rng_in h.1
def funcR (p : Pr) (f : Fn) : Bool := tagB f.nm && (rngB f.pa 0 8 && (!decide (f.pa > f.te) && (!decide (f.te > 4096) && (!decide ((f.slots.length : Int) > 256) && (rngB f.code.length 1 16384 && (f.slots.all slotB && (f.code.all (rightB true ⟨p, f⟩) && lastB f)))))))
theorem funcR_eq (p : Pr) (f : Fn) : funcR p f = funcB ⟨p, f⟩ := by
  unfold funcR funcB
  rw [rng_eq, rng_eq, Bool.and_comm (f.code.all _) (lastB f)]
  simp only [Bool.and_assoc]
theorem memT_app {x : ByteArray} {l m : List ByteArray} : memT x (l ++ m) = (memT x l || memT x m) := by simp [memT]
theorem all_no {α : Type} {q : α → Bool} {l : List α} {x : α} (hx : x ∈ l) (h : q x = false) : l.all q = false := by
  cases hq : l.all q with
  | false => rfl
  | true => rw [List.all_eq_true.1 hq x hx] at h; cases h
theorem beqT {a b : ByteArray} : (a.toList == b.toList) = decide (a = b) := by
  by_cases h : a = b
  · subst h; simp
  · rw [decide_eq_false h]
    refine beq_eq_false_iff_ne.2 (fun e => h ?_)
    rw [ByteArray.toList_eq, ByteArray.toList_eq] at e
    cases a; cases b; congr 1; exact Array.toList_inj.1 e
set_option maxHeartbeats 16000000 in
theorem rfunction_sp (p : Pr) (f : Fn) (i : Nat) (w : World) (hp : PrIn (hw w) p) (hif : p.fns[i]? = some f) (hps : ∀ s ∈ p.obs, in64 s.size ∧ s.size ≤ 16384) :
    Sp Tryz.prog 32 [p.val, .int .i64 i] w [] (fun b : Bool => .bool b) (fun _ => []) (fun b => b = (!memT f.nm ((p.fns.take i).map Fn.nm) && funcB ⟨p, f⟩)) := by
  have hflen := hp.flen
  have hilt := (List.getElem?_eq_some_iff.1 hif).1
  have hfm : f ∈ p.fns := List.mem_of_getElem? hif
  have hfin := hp.fn f hfm
  have hslen := hfin.slen
  have hclen := hfin.code.len
  rw [← funcR_eq]
  refine enter (s := Tryz.sx) [] Tryz.func32 rfl rfl rfl (Eff.refl w) ?_
  refine gc_seq ?_
  repeat' (first | refine g_pv rfl rfl ?_ | refine g_nil ?_ | refine gq_then ?_ | refine gc_region ?_ | refine g_box rfl rfl (fun _ => ?_))
  rename_i b2
  refine gc_seq ?_
  repeat' (first | refine g_pv rfl rfl ?_ | refine g_ld 0 rfl rfl rfl rfl rfl rfl ?_ | refine gc_region ?_)
  refine g_at (l := p.fns) (f := Fn.cells) (u := f) rfl rfl rfl rfl rfl (Int.natCast_nonneg i) (by omega) (hp.fns.le (old_le0 _ w)) hif rfl rfl rfl rfl (fun a => ?_)
  repeat' (first | refine g_nil ?_ | refine gq_then ?_ | refine g_alloc rfl rfl (fun _ => ?_) | refine g_st 0 rfl rfl rfl rfl rfl rfl rfl ?_)
  rename_i b5
  refine gc_heap (R' := [[(b5, .cells ⟨f.cells⟩ 32 (0, 0))], [(b2, .cells ⟨p.cells⟩ 25 (0, 0))]]) (fun w H => H) ?_
  repeat' (first | refine g_pv rfl rfl ?_ | refine g_ld 0 rfl rfl rfl rfl rfl rfl ?_ | refine gc_seq ?_ | refine gc_region ?_)
  refine g_call rfl (Cl.of Tryz.func52 rfl rfl) rfl rfl (fun w' hE => rtag_sp f.nm w') rfl ?_
  rintro t1 ht1
  repeat' (refine g_pv rfl rfl ?_)
  cases t1
  · repeat' (first | refine g_pv rfl rfl ?_ | refine g_nil ?_ | refine gq_then ?_ | refine gc_seq ?_ | refine gc_region ?_ | refine gc_cond_t rfl ?_ | refine gc_ret ?_ | refine gq_then_ret ?_ | refine g_no rfl rfl rfl rfl rfl ?_)
    refine gq_ret1 (.inr rfl) rfl rfl rfl (fun w' H => ⟨false, ?_, rfl, hp_nil H⟩)
    unfold funcR; rw [← ht1]; simp
  repeat' (first | refine g_pv rfl rfl ?_ | refine g_ld 0 rfl rfl rfl rfl rfl rfl ?_ | refine g_yes rfl rfl rfl ?_)
  refine g_call rfl (Cl.of Tryz.func30 rfl rfl) rfl rfl (fun w' hE => rwithin_sp _ _ _ w') rfl (fun _ _ => ?_)
  refine g_eq 22 (u' := .bool (rngB f.pa 0 8)) rfl rfl ?_
  repeat' (first | refine g_pv rfl rfl ?_ | refine g_yes rfl rfl rfl ?_)
  refine g_case (t := 25) rfl (fun h1 => ?_) (fun h1 => ?_)
  · have h1 : (rngB f.pa 0 8) = false := (Bool.not_eq_true' _).mp h1
    repeat' (first | refine g_pv rfl rfl ?_ | refine g_nil ?_ | refine gq_then ?_ | refine gc_seq ?_ | refine gc_region ?_ | refine gc_cond_t rfl ?_ | refine gc_ret ?_ | refine gq_then_ret ?_ | refine g_no rfl rfl rfl rfl rfl ?_)
    refine gq_ret1 (.inr rfl) rfl rfl rfl (fun w' H => ⟨false, ?_, rfl, hp_nil H⟩)
    unfold funcR; rw [h1]; simp
  have h1 : (rngB f.pa 0 8) = true := (Bool.not_eq_false' _).mp h1
  repeat' (first | refine g_pv rfl rfl ?_ | refine g_ld 0 rfl rfl rfl rfl rfl rfl ?_ | refine g_yes rfl rfl rfl ?_)
  refine g_case (t := 32) rfl (fun h2 => ?_) (fun h2 => ?_)
  · have h2 : decide (f.pa > f.te) = true := h2
    repeat' (first | refine g_pv rfl rfl ?_ | refine g_nil ?_ | refine gq_then ?_ | refine gc_seq ?_ | refine gc_region ?_ | refine gc_cond_t rfl ?_ | refine gc_ret ?_ | refine gq_then_ret ?_ | refine g_no rfl rfl rfl rfl rfl ?_)
    refine gq_ret1 (.inr rfl) rfl rfl rfl (fun w' H => ⟨false, ?_, rfl, hp_nil H⟩)
    unfold funcR; rw [h2]; simp
  have h2 : decide (f.pa > f.te) = false := h2
  repeat' (first | refine g_pv rfl rfl ?_ | refine g_ld 0 rfl rfl rfl rfl rfl rfl ?_ | refine g_yes rfl rfl rfl ?_)
  refine g_case (t := 37) rfl (fun h3 => ?_) (fun h3 => ?_)
  · have h3 : decide (f.te > 4096) = true := h3
    repeat' (first | refine g_pv rfl rfl ?_ | refine g_nil ?_ | refine gq_then ?_ | refine gc_seq ?_ | refine gc_region ?_ | refine gc_cond_t rfl ?_ | refine gc_ret ?_ | refine gq_then_ret ?_ | refine g_no rfl rfl rfl rfl rfl ?_)
    refine gq_ret1 (.inr rfl) rfl rfl rfl (fun w' H => ⟨false, ?_, rfl, hp_nil H⟩)
    unfold funcR; rw [h3]; simp
  have h3 : decide (f.te > 4096) = false := h3
  repeat' (first | refine g_pv rfl rfl ?_ | refine g_ld 0 rfl rfl rfl rfl rfl rfl ?_ | refine g_yes rfl rfl rfl ?_)
  refine g_case (t := 43) rfl (fun h4 => ?_) (fun h4 => ?_)
  · have h4 : decide ((f.slots.length : Int) > 256) = true := h4
    repeat' (first | refine g_pv rfl rfl ?_ | refine g_nil ?_ | refine gq_then ?_ | refine gc_seq ?_ | refine gc_region ?_ | refine gc_cond_t rfl ?_ | refine gc_ret ?_ | refine gq_then_ret ?_ | refine g_no rfl rfl rfl rfl rfl ?_)
    refine gq_ret1 (.inr rfl) rfl rfl rfl (fun w' H => ⟨false, ?_, rfl, hp_nil H⟩)
    unfold funcR; rw [h4]; simp
  have h4 : decide ((f.slots.length : Int) > 256) = false := h4
  repeat' (first | refine g_pv rfl rfl ?_ | refine g_ld 0 rfl rfl rfl rfl rfl rfl ?_ | refine g_yes rfl rfl rfl ?_)
  refine g_call rfl (Cl.of Tryz.func30 rfl rfl) rfl rfl (fun w' hE => rwithin_sp _ _ _ w') rfl (fun _ _ => ?_)
  refine g_eq 47 (u' := .bool (rngB f.code.length 1 16384)) rfl rfl ?_
  repeat' (first | refine g_pv rfl rfl ?_ | refine g_nil ?_ | refine gq_then ?_ | refine g_yes rfl rfl rfl ?_)
  refine gc_condC rfl (fun h5 => ?_) (fun h5 => ?_)
  · have h5 : (rngB f.code.length 1 16384) = false := (Bool.not_eq_true' _).mp h5
    repeat' (first | refine g_pv rfl rfl ?_ | refine g_nil ?_ | refine gq_then ?_ | refine gc_seq ?_ | refine gc_region ?_ | refine gc_ret ?_ | refine gq_then_ret ?_)
    refine gq_ret1 (.inr rfl) rfl rfl rfl (fun w' H => ⟨false, ?_, rfl, hp_nil H⟩)
    unfold funcR; rw [h5]; simp
  have h5 : (rngB f.code.length 1 16384) = true := (Bool.not_eq_false' _).mp h5
  repeat' (first | refine g_pv rfl rfl ?_ | refine g_nil ?_ | refine gq_then ?_ | refine gc_seq ?_ | refine gc_region ?_ | refine gc_block ?_ | refine gc_skip ?_)
  have hF : funcR p f = (f.slots.all slotB && (f.code.all (rightB true ⟨p, f⟩) && lastB f)) := by unfold funcR; rw [← ht1, h1, h2, h3, h4, h5]; simp
  have hcb := rng_in h5
  refine gc_loop (Y := Nat) (fun y => y ≤ i ∧ memT f.nm ((p.fns.take y).map Fn.nm) = false)
    (fun y => [(1, .int .i64 i), (2, .pointer (some ⟨b2, 0, none⟩)), (5, .pointer (some ⟨b5, 0, none⟩)), (6, .int .i64 y)])
    (fun y => [[(b5, .cells ⟨f.cells⟩ 32 (0, 0))], [(b2, .cells ⟨p.cells⟩ 25 (0, 0))]])
    (fun y => i - y) 0 ⟨Nat.zero_le _, rfl⟩ ⟨rfl, rfl, rfl, rfl, trivial⟩ (fun w' H => H) ?_
  rintro k ⟨hk, hnm⟩
  dsimp only at hk hnm ⊢
  repeat' (first | refine g_pv rfl rfl ?_ | refine g_nil ?_ | refine gq_then ?_ | refine gc_seq ?_ | refine gc_region ?_)
  refine gc_condC rfl (fun hc => ?_) (fun hc => ?_)
  · have hlt : k < i := by have := of_decide_eq_true hc; omega
    have hxk : p.fns[k]? = some (p.fns[k]'(by omega)) := List.getElem?_eq_getElem (by omega)
    have htk : p.fns.take (k + 1) = p.fns.take k ++ [p.fns[k]'(by omega)] := List.take_succ_eq_append_getElem (by omega)
    have hmk : p.fns[k]'(by omega) ∈ p.fns.take i := by
      rw [List.mem_take_iff_getElem]; exact ⟨k, by omega, rfl⟩
    generalize p.fns[k]'(by omega) = g at hxk htk hmk
    obtain ⟨bb, oo, hA, hcq⟩ := hp.fns k _ hxk
    repeat' (first | refine gq_then ?_ | refine gc_seq ?_ | refine gc_block ?_ | refine gc_skip ?_)
    refine gc_draw [[(b5, .cells ⟨f.cells⟩ 32 (0, 0))], [(b2, .cells ⟨p.cells⟩ 25 (0, 0))]] [] rfl (List.Perm.of_eq rfl) ?_
    (refine ga_p 0 (by repeat first | exact NoP.sp | apply NoP.then | apply NoP.block) rfl (pv_spec rfl) rfl (by kernel_rfl) (by kernel_rfl) (by kernel_rfl) ?_); (refine ga_ld 1 1 (by repeat first | exact NoP.sp | apply NoP.then | apply NoP.block) rfl wanted_none rfl rfl rfl rfl rfl rfl (by kernel_rfl) (by kernel_rfl) (by kernel_rfl) ?_); (refine ga_p 2 (by repeat first | exact NoP.sp | apply NoP.then | apply NoP.block) rfl (pv_spec rfl) rfl (by kernel_rfl) (by kernel_rfl) (by kernel_rfl) ?_)
    refine ga_p 3 (by repeat first | exact NoP.sp | apply NoP.then | apply NoP.block) rfl (p_ix (bx := bb) (o := oo) (by show some (Value.slice p.fA _ _) = _; rw [hA]) rfl rfl rfl (Int.natCast_nonneg k) (by omega)) rfl (by kernel_rfl) (by kernel_rfl) (by kernel_rfl) ?_
    (refine ga_p 4 (by repeat first | exact NoP.sp | apply NoP.then | apply NoP.block) rfl (pv_spec rfl) rfl (by kernel_rfl) (by kernel_rfl) (by kernel_rfl) ?_)
    refine ga_ldO 5 (cs := [.string g.nm]) (by repeat first | exact NoP.sp | apply NoP.then | apply NoP.block) rfl wanted_none rfl rfl rfl rfl (fun k u hk => ?_) rfl (by kernel_rfl) (by kernel_rfl) (by kernel_rfl) ?_
    · have hk0 : k = 0 := by have := (List.getElem?_eq_some_iff.1 hk).1; simp at this; omega
      subst hk0
      simp only [List.getElem?_cons_zero, Option.some.injEq] at hk; subst hk
      exact (old_le0 _ w).cell (hcq 0 _ rfl)
    (refine ga_p 6 (by repeat first | exact NoP.sp | apply NoP.then | apply NoP.block) rfl (pv_spec rfl) rfl (by kernel_rfl) (by kernel_rfl) (by kernel_rfl) ?_); (refine ga_ld 7 0 (by repeat first | exact NoP.sp | apply NoP.then | apply NoP.block) rfl wanted_none rfl rfl rfl rfl rfl rfl (by kernel_rfl) (by kernel_rfl) (by kernel_rfl) ?_)
    refine ga_p 8 (by repeat first | exact NoP.sp | apply NoP.then | apply NoP.block) rfl (p_eqT rfl rfl rfl) rfl (by kernel_rfl) (by kernel_rfl) (by kernel_rfl) ?_
    refine ga_nil (by kernel_rfl) ?_
    repeat' (refine gq_then ?_)
    refine gc_condC rfl (fun h6 => ?_) (fun h6 => ?_)
    · have h6 : (g.nm.toList == f.nm.toList) = true := h6
      rw [beqT] at h6
      repeat' (first | refine g_pv rfl rfl ?_ | refine g_nil ?_ | refine gq_then ?_ | refine gc_seq ?_ | refine gc_region ?_ | refine gc_ret ?_ | refine gq_then_ret ?_ | refine gq_block_ret ?_)
      refine gq_ret1 (.inr rfl) rfl rfl rfl (fun w' H => ⟨false, ?_, rfl, hp_nil H⟩)
      rw [memT_iff.2 (by rw [← of_decide_eq_true h6]; exact List.mem_map.2 ⟨g, hmk, rfl⟩)]; rfl
    have h6 : (g.nm.toList == f.nm.toList) = false := h6
    rw [beqT] at h6
    repeat' (first | refine g_pv rfl rfl ?_ | refine g_nil ?_ | refine gq_then ?_ | refine gc_region ?_ | refine gc_skip ?_ | refine gq_block ?_)
    refine gq_again (k + 1) ⟨hlt, ?_⟩ (by omega) ⟨rfl, rfl, rfl, inc_eq (by omega), trivial⟩ (fun w' H => H)
    rw [htk, List.map_append, memT_app, hnm]
    simp only [memT, List.map_cons, List.map_nil, List.any_cons, List.any_nil, Bool.or_false, Bool.false_or]
    exact h6
  have hki : k = i := by have := of_decide_eq_false hc; omega
  rw [hki] at hnm
  rw [hnm]
  repeat' (first | refine g_pv rfl rfl ?_ | refine g_nil ?_ | refine gq_then ?_ | refine gc_seq ?_ | refine gc_region ?_ | refine gc_block ?_ | refine gc_exit ?_ | refine gq_then_exit ?_ | refine gq_block_exit ?_)
  refine gc_loop (Y := Nat) (fun y => y ≤ f.slots.length ∧ (f.slots.take y).all slotB = true)
    (fun y => [(2, .pointer (some ⟨b2, 0, none⟩)), (5, .pointer (some ⟨b5, 0, none⟩)), (7, .int .i64 y)])
    (fun y => [[(b5, .cells ⟨f.cells⟩ 32 (0, 0))], [(b2, .cells ⟨p.cells⟩ 25 (0, 0))]])
    (fun y => f.slots.length - y) 0 ⟨Nat.zero_le _, rfl⟩ ⟨rfl, rfl, rfl, trivial⟩ (fun w' H => H) ?_
  rintro m ⟨hm, hall⟩
  dsimp only at hm hall ⊢
  repeat' (first | refine g_pv rfl rfl ?_ | refine g_ld 0 rfl rfl rfl rfl rfl rfl ?_ | refine g_nil ?_ | refine gq_then ?_ | refine gc_seq ?_ | refine gc_region ?_)
  refine gc_condC rfl (fun hc2 => ?_) (fun hc2 => ?_)
  · have hlt : m < f.slots.length := by have := of_decide_eq_true hc2; omega
    have hxs : f.slots[m]? = some (f.slots[m]) := List.getElem?_eq_getElem hlt
    have htk : f.slots.take (m + 1) = f.slots.take m ++ [f.slots[m]] := List.take_succ_eq_append_getElem hlt
    have hms : f.slots[m] ∈ f.slots := List.getElem_mem hlt
    generalize f.slots[m] = s at hxs htk hms
    repeat' (first | refine g_pv rfl rfl ?_ | refine g_ld 0 rfl rfl rfl rfl rfl rfl ?_ | refine gq_then ?_ | refine gc_seq ?_ | refine gc_region ?_ | refine gc_block ?_ | refine gc_skip ?_)
    refine g_atF (l := f.slots) (f := Slt.cells) (q := s) (cs := [.int .i64 s.size]) (off := 0) rfl rfl rfl rfl rfl rfl rfl rfl (Int.natCast_nonneg m) (by omega) (hfin.slots.le (old_le0 _ w)) hxs rfl rfl rfl rfl rfl (fun a a2 => ?_)
    repeat' (fail)
    refine g_call rfl (Cl.of Tryz.func30 rfl rfl) rfl rfl (fun w' hE => rwithin_sp _ _ _ w') rfl (fun _ _ => ?_)
    refine g_eq 77 (u' := .bool (rngB s.size 1 16384)) rfl rfl ?_
    repeat' (refine g_pv rfl rfl ?_)
    refine g_case (t := 79) rfl (fun h7 => ?_) (fun h7 => ?_)
    · have h7 : (rngB s.size 1 16384) = false := (Bool.not_eq_true' _).mp h7
      repeat' (first | refine g_pv rfl rfl ?_ | refine g_nil ?_ | refine gq_then ?_ | refine gc_seq ?_ | refine gc_region ?_ | refine gc_cond_t rfl ?_ | refine gc_ret ?_ | refine gq_then_ret ?_ | refine gq_block_ret ?_ | refine g_no rfl rfl rfl rfl rfl ?_)
      refine gq_ret1 (.inr rfl) rfl rfl rfl (fun w' H => ⟨false, ?_, rfl, hp_nil H⟩)
      rw [hF, all_no hms (by rw [← slotR_eq]; unfold slotR; rw [h7]; rfl)]; simp
    have h7 : (rngB s.size 1 16384) = true := (Bool.not_eq_false' _).mp h7
    repeat' (first | refine g_pv rfl rfl ?_ | refine g_ld 0 rfl rfl rfl rfl rfl rfl ?_ | refine g_yes rfl rfl rfl ?_)
    obtain ⟨bb, oo, hA, hcq⟩ := hfin.slots m _ hxs
    refine g_p (p_ix (bx := bb) (o := oo) (by show some (Value.slice f.sA _ _) = _; rw [hA]) rfl rfl rfl (Int.natCast_nonneg m) (by omega)) rfl ?_
    repeat' (first | refine g_pv rfl rfl ?_ | refine g_yes rfl rfl rfl ?_)
    refine g_ldO rfl rfl (cs := [.int .i64 s.align]) rfl rfl (fun i u hu => ?_) rfl ?_
    · have hi0 : i = 0 := by have := (List.getElem?_eq_some_iff.1 hu).1; simp at this; omega
      subst hi0
      simp only [List.getElem?_cons_zero, Option.some.injEq] at hu; subst hu
      exact (old_le0 _ w).cell (hcq 1 _ rfl)
    repeat' (refine g_yes rfl rfl rfl ?_)
    refine g_call rfl (Cl.of Tryz.func53 rfl rfl) rfl rfl (fun w' hE => rpower_sp s.align w') rfl ?_
    rintro t8 ht8
    have ht8 : powB s.align = t8 := ht8.symm
    repeat' (first | refine g_pv rfl rfl ?_ | refine g_nil ?_ | refine gq_then ?_ | refine g_yes rfl rfl rfl ?_)
    cases t8
    · repeat' (first | refine g_pv rfl rfl ?_ | refine g_nil ?_ | refine gq_then ?_ | refine gc_seq ?_ | refine gc_region ?_ | refine gc_cond_t rfl ?_ | refine gc_ret ?_ | refine gq_then_ret ?_ | refine gq_block_ret ?_)
      refine gq_ret1 (.inr rfl) rfl rfl rfl (fun w' H => ⟨false, ?_, rfl, hp_nil H⟩)
      rw [hF, all_no hms (by rw [← slotR_eq]; unfold slotR; rw [h7, ht8]; rfl)]; simp
    repeat' (first | refine g_pv rfl rfl ?_ | refine g_nil ?_ | refine gq_then ?_ | refine gc_region ?_ | refine gc_cond_f rfl ?_ | refine gc_skip ?_ | refine gq_block ?_)
    refine gq_again (m + 1) ⟨hlt, ?_⟩ (by omega) ⟨rfl, rfl, inc_eq (by omega), trivial⟩ (fun w' H => H)
    rw [htk, List.all_append, hall]
    simp only [List.all_cons, List.all_nil, Bool.and_true, Bool.true_and]
    rw [← slotR_eq]; unfold slotR; rw [h7, ht8]; rfl
  have hm2 : m = f.slots.length := by have := of_decide_eq_false hc2; omega
  rw [hm2, List.take_length] at hall
  have hF2 : funcR p f = (f.code.all (rightB true ⟨p, f⟩) && lastB f) := by rw [hF, hall]; rfl
  have hfs : ∀ s ∈ f.slots, in64 s.size ∧ s.size ≤ 16384 := fun s hs => ⟨(hfin.ss s hs).1, (slotB_size (List.all_eq_true.1 hall s hs)).2⟩
  repeat' (first | refine g_pv rfl rfl ?_ | refine g_nil ?_ | refine gq_then ?_ | refine gc_seq ?_ | refine gc_region ?_ | refine gc_block ?_ | refine gc_exit ?_ | refine gq_then_exit ?_ | refine gq_block_exit ?_)
  refine gc_loop (Y := Nat) (fun y => y ≤ f.code.length ∧ (f.code.take y).all (rightB true ⟨p, f⟩) = true)
    (fun y => [(2, .pointer (some ⟨b2, 0, none⟩)), (5, .pointer (some ⟨b5, 0, none⟩)), (8, .int .i64 y)])
    (fun y => [[(b5, .cells ⟨f.cells⟩ 32 (0, 0))], [(b2, .cells ⟨p.cells⟩ 25 (0, 0))]])
    (fun y => f.code.length - y) 0 ⟨Nat.zero_le _, rfl⟩ ⟨rfl, rfl, rfl, trivial⟩ (fun w' H => H) ?_
  rintro n ⟨hn, hall2⟩
  dsimp only at hn hall2 ⊢
  repeat' (first | refine g_pv rfl rfl ?_ | refine g_ld 0 rfl rfl rfl rfl rfl rfl ?_ | refine g_nil ?_ | refine gq_then ?_ | refine gc_seq ?_ | refine gc_region ?_)
  refine gc_condC rfl (fun hc3 => ?_) (fun hc3 => ?_)
  · have hlt : n < f.code.length := by have := of_decide_eq_true hc3; omega
    have hxs : f.code[n]? = some (f.code[n]) := List.getElem?_eq_getElem hlt
    have htk : f.code.take (n + 1) = f.code.take n ++ [f.code[n]] := List.take_succ_eq_append_getElem hlt
    have hms : f.code[n] ∈ f.code := List.getElem_mem hlt
    generalize f.code[n] = x at hxs htk hms
    have hxin := hfin.code.all x hms
    repeat' (first | refine gq_then ?_ | refine gc_seq ?_ | refine gc_block ?_ | refine gc_skip ?_)
    refine gc_draw [[(b5, .cells ⟨f.cells⟩ 32 (0, 0))], [(b2, .cells ⟨p.cells⟩ 25 (0, 0))]] [] rfl (List.Perm.of_eq rfl) ?_
    (refine ga_ld 0 1 (by repeat first | exact NoP.sp | apply NoP.then | apply NoP.block) rfl wanted_none rfl rfl rfl rfl rfl rfl (by kernel_rfl) (by kernel_rfl) (by kernel_rfl) ?_); (refine ga_ld 1 0 (by repeat first | exact NoP.sp | apply NoP.then | apply NoP.block) rfl wanted_none rfl rfl rfl rfl rfl rfl (by kernel_rfl) (by kernel_rfl) (by kernel_rfl) ?_); (refine ga_p 2 (by repeat first | exact NoP.sp | apply NoP.then | apply NoP.block) rfl (pv_spec rfl) rfl (by kernel_rfl) (by kernel_rfl) (by kernel_rfl) ?_); (refine ga_ld 3 0 (by repeat first | exact NoP.sp | apply NoP.then | apply NoP.block) rfl wanted_none rfl rfl rfl rfl rfl rfl (by kernel_rfl) (by kernel_rfl) (by kernel_rfl) ?_); (refine ga_p 4 (by repeat first | exact NoP.sp | apply NoP.then | apply NoP.block) rfl (pv_spec rfl) rfl (by kernel_rfl) (by kernel_rfl) (by kernel_rfl) ?_)
    refine ga_at 5 6 (l := f.code) (f := Ins.cells) (u := x) (by repeat first | exact NoP.sp | apply NoP.then | apply NoP.block) rfl wanted_none rfl (fun a _ => wanted_none a) rfl rfl rfl rfl rfl (Int.natCast_nonneg n) (by omega) (still_rdO (hfin.code.row.le (old_le0 _ w))) hxs rfl rfl rfl rfl (by kernel_rfl) (by kernel_rfl) (by kernel_rfl) (by kernel_rfl) (by kernel_rfl) (fun _ => ?_)
    refine ga_one (i := 7) (by kernel_rfl) (gs_of rfl (fun K hK => ?_))
    refine g_call rfl (Cl.of Tryz.func54 rfl rfl) rfl rfl (fun w' hE => rright_sp p f x w' (hp.le (fun b o h => old_le hE b o (old_le0 _ w b o h))) (hfin.le (fun b o h => old_le hE b o (old_le0 _ w b o h))) (hxin.le (fun b o h => old_le hE b o (old_le0 _ w b o h))) hfs hps (by omega)) rfl ?_
    rintro b hb
    refine g_nil ?_
    refine hK _ _ ⟨[], List.Perm.of_eq rfl⟩ ?_
    (refine ga_p 8 (by repeat first | exact NoP.sp | apply NoP.then | apply NoP.block) rfl (pv_spec rfl) rfl (by kernel_rfl) (by kernel_rfl) (by kernel_rfl) ?_)
    refine ga_nil (by kernel_rfl) ?_
    repeat' (refine gq_then ?_)
    cases b
    · repeat' (first | refine g_pv rfl rfl ?_ | refine g_nil ?_ | refine gq_then ?_ | refine gc_seq ?_ | refine gc_region ?_ | refine gc_cond_t rfl ?_ | refine gc_ret ?_ | refine gq_then_ret ?_ | refine gq_block_ret ?_)
      refine gq_ret1 (.inr rfl) rfl rfl rfl (fun w' H => ⟨false, ?_, rfl, hp_nil H⟩)
      rw [hF2, all_no hms hb.symm]; rfl
    repeat' (first | refine g_pv rfl rfl ?_ | refine g_nil ?_ | refine gq_then ?_ | refine gc_region ?_ | refine gc_cond_f rfl ?_ | refine gc_skip ?_ | refine gq_block ?_)
    refine gq_again (n + 1) ⟨hlt, ?_⟩ (by omega) ⟨rfl, rfl, inc_eq (by omega), trivial⟩ (fun w' H => H)
    rw [htk, List.all_append, hall2]; simp [← hb]
  have hn2 : n = f.code.length := by have := of_decide_eq_false hc3; omega
  rw [hn2, List.take_length] at hall2
  have hlast : f.code[f.code.length - 1]? = some (f.code[f.code.length - 1]'(by omega)) := List.getElem?_eq_getElem (by omega)
  generalize f.code[f.code.length - 1]'(by omega) = x at hlast
  have hF3 : funcR p f = (x.op == 9 || (x.op == 10 || x.op == 14)) := by
    rw [hF2, hall2]; unfold lastB; rw [hlast]; rfl
  repeat' (first | refine g_pv rfl rfl ?_ | refine g_ld 0 rfl rfl rfl rfl rfl rfl ?_ | refine gq_then ?_ | refine gc_seq ?_ | refine gc_region ?_ | refine gc_exit ?_ | refine gq_then_exit ?_ | refine gq_block_exit ?_)
  refine g_eq 110 (u' := .int .i64 ((f.code.length - 1 : Nat) : Int)) rfl (by congr 1; rw [IntKind.wrap_i64]; omega) ?_
  refine g_atF (l := f.code) (f := Ins.cells) (q := x) (cs := [.int .i64 x.op]) (off := 0) rfl rfl rfl rfl rfl rfl rfl rfl (Int.natCast_nonneg _) (by omega) (hfin.code.row.le (old_le0 _ w)) hlast rfl rfl rfl rfl rfl (fun a a2 => ?_)
  repeat' (first | refine g_pv rfl rfl ?_ | refine g_nil ?_ | refine gq_then ?_ | refine gc_seq ?_ | refine gc_region ?_)
  refine g_case (t := 116) rfl (fun h9 => ?_) (fun h9 => ?_)
  · have h9 : (x.op == 9) = true := h9
    repeat' (first | refine g_pv rfl rfl ?_ | refine g_nil ?_ | refine gq_then ?_ | refine gc_ret ?_ | refine g_no rfl rfl rfl rfl rfl ?_)
    refine gq_ret1 (.inr rfl) rfl rfl rfl (fun w' H => ⟨true, ?_, rfl, hp_nil H⟩)
    rw [hF3, h9]; rfl
  have h9 : (x.op == 9) = false := h9
  repeat' (first | refine g_pv rfl rfl ?_ | refine g_yes rfl rfl rfl ?_)
  refine g_case (t := 120) rfl (fun h10 => ?_) (fun h10 => ?_)
  · have h10 : (x.op == 10) = true := h10
    repeat' (first | refine g_pv rfl rfl ?_ | refine g_nil ?_ | refine gq_then ?_ | refine gc_ret ?_ | refine g_no rfl rfl rfl rfl rfl ?_)
    refine gq_ret1 (.inr rfl) rfl rfl rfl (fun w' H => ⟨true, ?_, rfl, hp_nil H⟩)
    rw [hF3, h10]; simp
  have h10 : (x.op == 10) = false := h10
  repeat' (first | refine g_pv rfl rfl ?_ | refine g_nil ?_ | refine gq_then ?_ | refine gc_ret ?_ | refine g_yes rfl rfl rfl ?_)
  refine gq_ret1 (.inr rfl) rfl rfl rfl (fun w' H => ⟨x.op == 14, ?_, rfl, hp_nil H⟩)
  rw [hF3, h9, h10]; rfl
end Go.Proofs.YtpohhfggmaihpaaGreatDoor

/- The document's Check. -/
namespace Go.Proofs.YtpohhfggmaihpaaGreatDoor
open Go.Wk
set_option linter.unusedVariables false
set_option linter.unusedSimpArgs false
attribute [local irreducible] G GC GQ GA GS Exit.then Exit.inBlock

def checkR (p : Pr) : Bool := !decide ((p.obs.length : Int) > 256) && (rngB p.fns.length 1 64 && (inB p.main p.fns.length && (mainB p && (p.obs.all (objB ⟨p, fn0⟩) && fnsB p [] p.fns))))
theorem checkR_eq (p : Pr) : checkR p = checkB p := by
  unfold checkR checkB; rw [rng_eq, Bool.and_assoc]
theorem objB_size {j : Jg} {o : Ob} (h : objB j o = true) : 1 ≤ o.size ∧ o.size ≤ 16384 := by
  unfold objB at h
  simp only [Bool.and_eq_true, Bool.not_eq_true', decide_eq_false_iff_not] at h
  exact ⟨by omega, by omega⟩
set_option maxHeartbeats 16000000 in
theorem rcheck_sp (p : Pr) (w : World) (hp : PrIn (hw w) p) : Sp Tryz.prog 14 [p.val] w [] (fun e : Int => .int .i64 e) (fun _ => []) (fun e => e = errB (checkB p)) := by
  have holen := hp.olen
  have hflen := hp.flen
  rw [← checkR_eq]
  refine enter (s := Tryz.sx) [] Tryz.func14 rfl rfl rfl (Eff.refl w) ?_
  repeat' (first | refine g_pv rfl rfl ?_ | refine g_ld 0 rfl rfl rfl rfl rfl rfl ?_ | refine g_nil ?_ | refine gq_then ?_ | refine gc_seq ?_ | refine gc_region ?_ | refine g_box rfl rfl (fun _ => ?_))
  rename_i b1
  refine g_case (t := 9) rfl (fun h0 => ?_) (fun h0 => ?_)
  · have h0 : decide ((p.obs.length : Int) > 256) = true := h0
    repeat' (first | refine g_pv rfl rfl ?_ | refine g_nil ?_ | refine gq_then ?_ | refine gc_seq ?_ | refine gc_region ?_ | refine gc_cond_t rfl ?_ | refine gc_ret ?_ | refine gq_then_ret ?_ | refine g_no rfl rfl rfl rfl rfl ?_)
    refine gq_ret1 (.inr rfl) rfl rfl rfl (fun w' H => ⟨130, ?_, rfl, hp_nil H⟩)
    unfold checkR; rw [h0]; rfl
  have h0 : decide ((p.obs.length : Int) > 256) = false := h0
  repeat' (first | refine g_pv rfl rfl ?_ | refine g_ld 0 rfl rfl rfl rfl rfl rfl ?_ | refine g_yes rfl rfl rfl ?_)
  refine g_call rfl (Cl.of Tryz.func30 rfl rfl) rfl rfl (fun w' hE => rwithin_sp _ _ _ w') rfl (fun _ _ => ?_)
  refine g_eq 13 (u' := .bool (rngB p.fns.length 1 64)) rfl rfl ?_
  repeat' (first | refine g_pv rfl rfl ?_ | refine g_yes rfl rfl rfl ?_)
  refine g_case (t := 16) rfl (fun h1 => ?_) (fun h1 => ?_)
  · have h1 : rngB p.fns.length 1 64 = false := (Bool.not_eq_true' _).mp h1
    repeat' (first | refine g_pv rfl rfl ?_ | refine g_nil ?_ | refine gq_then ?_ | refine gc_seq ?_ | refine gc_region ?_ | refine gc_cond_t rfl ?_ | refine gc_ret ?_ | refine gq_then_ret ?_ | refine g_no rfl rfl rfl rfl rfl ?_)
    refine gq_ret1 (.inr rfl) rfl rfl rfl (fun w' H => ⟨130, ?_, rfl, hp_nil H⟩)
    unfold checkR; rw [h0, h1]; rfl
  have h1 : rngB p.fns.length 1 64 = true := (Bool.not_eq_false' _).mp h1
  repeat' (first | refine g_pv rfl rfl ?_ | refine g_ld 0 rfl rfl rfl rfl rfl rfl ?_ | refine g_yes rfl rfl rfl ?_)
  refine g_eq 22 (u' := .int .i64 ((p.fns.length : Int) - 1)) rfl (by rw [IntKind.wrap_i64]; congr 1; omega) ?_
  refine g_call rfl (Cl.of Tryz.func30 rfl rfl) rfl rfl (fun w' hE => rwithin_sp _ _ _ w') rfl (fun _ _ => ?_)
  refine g_eq 23 (u' := .bool (inB p.main p.fns.length)) rfl (by rw [inB_le]) ?_
  repeat' (first | refine g_pv rfl rfl ?_ | refine g_yes rfl rfl rfl ?_)
  refine g_case (t := 26) rfl (fun h3 => ?_) (fun h3 => ?_)
  · have h3 : inB p.main p.fns.length = false := (Bool.not_eq_true' _).mp h3
    repeat' (first | refine g_pv rfl rfl ?_ | refine g_nil ?_ | refine gq_then ?_ | refine gc_seq ?_ | refine gc_region ?_ | refine gc_cond_t rfl ?_ | refine gc_ret ?_ | refine gq_then_ret ?_ | refine g_no rfl rfl rfl rfl rfl ?_)
    refine gq_ret1 (.inr rfl) rfl rfl rfl (fun w' H => ⟨130, ?_, rfl, hp_nil H⟩)
    unfold checkR; rw [h0, h1, h3]; rfl
  have h3 : inB p.main p.fns.length = true := (Bool.not_eq_false' _).mp h3
  have hb3 := inB_iff.1 h3
  have hlx : p.fns[p.main.toNat]? = some (p.fns[p.main.toNat]'(by omega)) := List.getElem?_eq_getElem (by omega)
  generalize p.fns[p.main.toNat]'(by omega) = g at hlx
  have hm : mainB p = (g.pa == 0) := by unfold mainB; rw [hlx]
  repeat' (first | refine g_pv rfl rfl ?_ | refine g_ld 0 rfl rfl rfl rfl rfl rfl ?_ | refine g_yes rfl rfl rfl ?_)
  obtain ⟨bb, oo, hA, hcq⟩ := hp.fns p.main.toNat _ hlx
  refine g_p (p_ix (bx := bb) (o := oo) (by show some (Value.slice p.fA _ _) = _; rw [hA]) rfl rfl rfl hb3.1 hb3.2) rfl ?_
  repeat' (first | refine g_pv rfl rfl ?_ | refine g_yes rfl rfl rfl ?_)
  refine g_ldO rfl rfl (cs := [.int .i64 g.pa]) rfl rfl (fun i u hu => ?_) rfl ?_
  · have hi0 : i = 0 := by have := (List.getElem?_eq_some_iff.1 hu).1; simp at this; omega
    subst hi0
    simp only [List.getElem?_cons_zero, Option.some.injEq] at hu; subst hu
    exact (old_le0 _ w).cell (hcq 1 _ rfl)
  repeat' (first | refine g_pv rfl rfl ?_ | refine g_nil ?_ | refine gq_then ?_ | refine g_yes rfl rfl rfl ?_)
  refine gc_condC rfl (fun h4 => ?_) (fun h4 => ?_)
  · have h4' : (g.pa == 0) = false := by simpa using h4
    repeat' (first | refine g_pv rfl rfl ?_ | refine g_nil ?_ | refine gq_then ?_ | refine gc_seq ?_ | refine gc_region ?_ | refine gc_ret ?_ | refine gq_then_ret ?_)
    refine gq_ret1 (.inr rfl) rfl rfl rfl (fun w' H => ⟨130, ?_, rfl, hp_nil H⟩)
    unfold checkR; rw [h0, h1, h3, hm, h4']; rfl
  have h4' : (g.pa == 0) = true := by simpa using h4
  have hC : checkR p = (p.obs.all (objB ⟨p, fn0⟩) && fnsB p [] p.fns) := by unfold checkR; rw [h0, h1, h3, hm, h4']; rfl
  repeat' (first | refine g_pv rfl rfl ?_ | refine g_nil ?_ | refine gq_then ?_ | refine gc_seq ?_ | refine gc_region ?_ | refine gc_block ?_ | refine gc_skip ?_)
  refine gc_loop (Y := Nat) (fun y => y ≤ p.obs.length ∧ (p.obs.take y).all (objB ⟨p, fn0⟩) = true)
    (fun y => [(1, .pointer (some ⟨b1, 0, none⟩)), (3, .int .i64 y)])
    (fun y => [[(b1, .cells ⟨p.cells⟩ 25 (0, 0))]])
    (fun y => p.obs.length - y) 0 ⟨Nat.zero_le _, rfl⟩ ⟨rfl, rfl, trivial⟩ (fun w' H => H) ?_
  rintro k ⟨hk, hall⟩
  dsimp only at hk hall ⊢
  repeat' (first | refine g_pv rfl rfl ?_ | refine g_ld 0 rfl rfl rfl rfl rfl rfl ?_ | refine g_nil ?_ | refine gq_then ?_ | refine gc_seq ?_ | refine gc_region ?_)
  refine gc_condC rfl (fun hc => ?_) (fun hc => ?_)
  · have hlt : k < p.obs.length := by have := of_decide_eq_true hc; omega
    have hx : p.obs[k]? = some (p.obs[k]) := List.getElem?_eq_getElem hlt
    have htk : p.obs.take (k + 1) = p.obs.take k ++ [p.obs[k]] := List.take_succ_eq_append_getElem hlt
    have hmx : p.obs[k] ∈ p.obs := List.getElem_mem hlt
    generalize p.obs[k] = o at hx htk hmx
    repeat' (first | refine gq_then ?_ | refine gc_seq ?_ | refine gc_block ?_ | refine gc_skip ?_)
    refine gc_draw [[(b1, .cells ⟨p.cells⟩ 25 (0, 0))]] [] rfl (List.Perm.of_eq rfl) ?_
    (refine ga_ld 0 0 (by repeat first | exact NoP.sp | apply NoP.then | apply NoP.block) rfl wanted_none rfl rfl rfl rfl rfl rfl (by kernel_rfl) (by kernel_rfl) (by kernel_rfl) ?_); (refine ga_p 1 (by repeat first | exact NoP.sp | apply NoP.then | apply NoP.block) rfl (pv_spec rfl) rfl (by kernel_rfl) (by kernel_rfl) (by kernel_rfl) ?_); (refine ga_ld 2 0 (by repeat first | exact NoP.sp | apply NoP.then | apply NoP.block) rfl wanted_none rfl rfl rfl rfl rfl rfl (by kernel_rfl) (by kernel_rfl) (by kernel_rfl) ?_); (refine ga_p 3 (by repeat first | exact NoP.sp | apply NoP.then | apply NoP.block) rfl (pv_spec rfl) rfl (by kernel_rfl) (by kernel_rfl) (by kernel_rfl) ?_)
    refine ga_at 4 5 (l := p.obs) (f := Ob.cells) (u := o) (by repeat first | exact NoP.sp | apply NoP.then | apply NoP.block) rfl wanted_none rfl (fun a _ => wanted_none a) rfl rfl rfl rfl rfl (Int.natCast_nonneg k) (by omega) (still_rdO (hp.obs.le (old_le0 _ w))) hx rfl rfl rfl rfl (by kernel_rfl) (by kernel_rfl) (by kernel_rfl) (by kernel_rfl) (by kernel_rfl) (fun _ => ?_)
    refine ga_one (i := 6) (by kernel_rfl) (gs_of rfl (fun K hK => ?_))
    refine g_call rfl (Cl.of Tryz.func31 rfl rfl) rfl rfl (fun w' hE => robject_sp p fn0 o w' (hp.le (fun b o h => old_le hE b o (old_le0 _ w b o h))) ((hp.ob o hmx).le (fun b o h => old_le hE b o (old_le0 _ w b o h)))) rfl ?_
    rintro t ht
    refine g_nil ?_
    refine hK _ _ ⟨[], List.Perm.of_eq rfl⟩ ?_
    (refine ga_p 7 (by repeat first | exact NoP.sp | apply NoP.then | apply NoP.block) rfl (pv_spec rfl) rfl (by kernel_rfl) (by kernel_rfl) (by kernel_rfl) ?_)
    refine ga_nil (by kernel_rfl) ?_
    repeat' (refine gq_then ?_)
    cases t
    · repeat' (first | refine g_pv rfl rfl ?_ | refine g_nil ?_ | refine gq_then ?_ | refine gc_seq ?_ | refine gc_region ?_ | refine gc_cond_t rfl ?_ | refine gc_ret ?_ | refine gq_then_ret ?_ | refine gq_block_ret ?_)
      refine gq_ret1 (.inr rfl) rfl rfl rfl (fun w' H => ⟨130, ?_, rfl, hp_nil H⟩)
      rw [hC, all_no hmx ht.symm]; rfl
    · repeat' (first | refine g_pv rfl rfl ?_ | refine g_nil ?_ | refine gq_then ?_ | refine gc_region ?_ | refine gc_cond_f rfl ?_ | refine gc_skip ?_ | refine gq_block ?_)
      refine gq_again (k + 1) ⟨hlt, ?_⟩ (by omega) ⟨rfl, inc_eq (by omega), trivial⟩ (fun w' H => H)
      rw [htk, List.all_append, hall]; simp [← ht]
  have hge : k = p.obs.length := by have := of_decide_eq_false hc; omega
  rw [hge, List.take_length] at hall
  have hC2 : checkR p = fnsB p [] p.fns := by rw [hC, hall]; rfl
  have hps : ∀ s ∈ p.obs, in64 s.size ∧ s.size ≤ 16384 := fun s hs => ⟨(hp.ob s hs).size, (objB_size (List.all_eq_true.1 hall s hs)).2⟩
  repeat' (first | refine g_pv rfl rfl ?_ | refine g_nil ?_ | refine gq_then ?_ | refine gc_seq ?_ | refine gc_region ?_ | refine gc_block ?_ | refine gc_exit ?_ | refine gq_then_exit ?_ | refine gq_block_exit ?_)
  refine gc_loop (Y := Nat) (fun y => y ≤ p.fns.length ∧ fnsB p [] p.fns = fnsB p ((p.fns.take y).map Fn.nm) (p.fns.drop y))
    (fun y => [(1, .pointer (some ⟨b1, 0, none⟩)), (4, .int .i64 y)])
    (fun y => [[(b1, .cells ⟨p.cells⟩ 25 (0, 0))]])
    (fun y => p.fns.length - y) 0 ⟨Nat.zero_le _, rfl⟩ ⟨rfl, rfl, trivial⟩ (fun w' H => H) ?_
  rintro k ⟨hk, hR⟩
  dsimp only at hk hR ⊢
  repeat' (first | refine g_pv rfl rfl ?_ | refine g_ld 0 rfl rfl rfl rfl rfl rfl ?_ | refine g_nil ?_ | refine gq_then ?_ | refine gc_seq ?_ | refine gc_region ?_)
  refine gc_condC rfl (fun hc => ?_) (fun hc => ?_)
  rotate_left
  · have hge : k = p.fns.length := by have := of_decide_eq_false hc; omega
    repeat' (first | refine g_pv rfl rfl ?_ | refine g_nil ?_ | refine gq_then ?_ | refine gc_seq ?_ | refine gc_region ?_ | refine gc_exit ?_ | refine gc_ret ?_ | refine gq_then_exit ?_ | refine gq_block_exit ?_)
    refine gq_ret1 (.inr rfl) rfl rfl rfl (fun w' H => ⟨0, ?_, rfl, hp_nil H⟩)
    rw [hC2, hR, hge, List.drop_length]; rfl
  have hlt : k < p.fns.length := by have := of_decide_eq_true hc; omega
  have hx : p.fns[k]? = some (p.fns[k]) := List.getElem?_eq_getElem hlt
  have htk : p.fns.take (k + 1) = p.fns.take k ++ [p.fns[k]] := List.take_succ_eq_append_getElem hlt
  have hd : p.fns.drop k = p.fns[k] :: p.fns.drop (k + 1) := List.drop_eq_getElem_cons hlt
  generalize p.fns[k] = f at hx htk hd
  rw [hd, fnsB_cons, ← Bool.and_assoc] at hR
  repeat' (first | refine g_pv rfl rfl ?_ | refine g_ld 0 rfl rfl rfl rfl rfl rfl ?_ | refine gq_then ?_ | refine gc_seq ?_ | refine gc_region ?_ | refine gc_block ?_ | refine gc_skip ?_)
  refine g_call rfl (Cl.of Tryz.func32 rfl rfl) rfl rfl (fun w' hE => rfunction_sp p f k w' (hp.le (fun b o h => old_le hE b o (old_le0 _ w b o h))) hx hps) rfl ?_
  rintro t ht
  repeat' (first | refine g_pv rfl rfl ?_ | refine g_nil ?_ | refine gq_then ?_)
  cases t
  · repeat' (first | refine g_pv rfl rfl ?_ | refine g_nil ?_ | refine gq_then ?_ | refine gc_seq ?_ | refine gc_region ?_ | refine gc_cond_t rfl ?_ | refine gc_ret ?_ | refine gq_then_ret ?_ | refine gq_block_ret ?_)
    refine gq_ret1 (.inr rfl) rfl rfl rfl (fun w' H => ⟨130, ?_, rfl, hp_nil H⟩)
    rw [hC2, hR, ← ht]; rfl
  · repeat' (first | refine g_pv rfl rfl ?_ | refine g_nil ?_ | refine gq_then ?_ | refine gc_region ?_ | refine gc_cond_f rfl ?_ | refine gc_skip ?_ | refine gq_block ?_)
    refine gq_again (k + 1) ⟨hlt, ?_⟩ (by omega) ⟨rfl, inc_eq (by omega), trivial⟩ (fun w' H => H)
    rw [hR, ← ht, htk, List.map_append]; rfl
end Go.Proofs.YtpohhfggmaihpaaGreatDoor

/- Programs without their addresses: what Check says of them. -/
namespace Go.Proofs.YtpohhfggmaihpaaGreatDoor
open Go.Wk
set_option linter.unusedVariables false
set_option linter.unusedSimpArgs false
attribute [local irreducible] G GC GQ GA GS Exit.then Exit.inBlock

def Ins.er (x : Ins) : Ins := { x with aA := none, aC := 0 }
def Fn.er (f : Fn) : Fn := { f with sA := none, sC := 0, code := f.code.map Ins.er, cA := none, cC := 0 }
def Ob.er (o : Ob) : Ob := { o with bA := none, bC := 0, rA := none, rC := 0 }
def Pr.er (p : Pr) : Pr := { p with obs := p.obs.map Ob.er, oA := none, oC := 0, fns := p.fns.map Fn.er, fA := none, fC := 0 }
theorem len_er {α β : Type} (e : α → β) (l : List α) : (l.map e).length = l.length := List.length_map e
theorem okI_er (nb : Bool) (p : Pr) (f : Fn) (x : Ins) : okI nb ⟨p.er, f.er⟩ x.er = okI nb ⟨p, f⟩ x := by
  unfold okI
  simp only [Pr.er, Fn.er, Ins.er, len_er, List.getElem?_map]
  cases p.obs[x.n.toNat]? <;> cases p.fns[x.n.toNat]? <;> rfl
theorem rightB_er (nb : Bool) (p : Pr) (f : Fn) (x : Ins) : rightB nb ⟨p.er, f.er⟩ x.er = rightB nb ⟨p, f⟩ x := by
  unfold rightB
  rw [okI_er]
  rfl
theorem lastB_er (f : Fn) : lastB f.er = lastB f := by
  unfold lastB
  simp only [Fn.er, len_er, List.getElem?_map]
  cases f.code[f.code.length - 1]? <;> rfl
theorem all_er {α β : Type} (e : α → β) (g : β → Bool) (h : α → Bool) (l : List α) (H : ∀ x, g (e x) = h x) : (l.map e).all g = l.all h := by
  rw [List.all_map]; congr 1; funext x; exact H x
theorem funcB_er (p : Pr) (f : Fn) : funcB ⟨p.er, f.er⟩ = funcB ⟨p, f⟩ := by
  unfold funcB
  dsimp only
  rw [lastB_er, show f.er.code.all (rightB true ⟨p.er, f.er⟩) = f.code.all (rightB true ⟨p, f⟩) from all_er _ _ _ _ (rightB_er true p f), show f.er.code.length = f.code.length from len_er _ _]
  rfl
theorem relB_er (p : Pr) (f g : Fn) (o : Ob) (fr : Int) (r : Rel) : relB ⟨p.er, f⟩ o.er fr r = relB ⟨p, g⟩ o fr r := by
  unfold relB
  simp only [Pr.er, Ob.er, len_er, List.getElem?_map]
  cases p.obs[r.gl.toNat]? <;> rfl
theorem relsB_er (p : Pr) (f g : Fn) (o : Ob) : ∀ (l : List Rel) (fr : Int), relsB ⟨p.er, f⟩ o.er fr l = relsB ⟨p, g⟩ o fr l
  | [], _ => rfl
  | r :: t, fr => by simp only [relsB]; rw [relB_er p f g, relsB_er p f g o t]
theorem objB_er (p : Pr) (f g : Fn) (o : Ob) : objB ⟨p.er, f⟩ o.er = objB ⟨p, g⟩ o := by
  unfold objB
  rw [show o.er.rels = o.rels from rfl, relsB_er p f g]
  rfl
theorem fnsB_er (p : Pr) : ∀ (l : List Fn) (s : List ByteArray), fnsB p.er s (l.map Fn.er) = fnsB p s l
  | [], _ => rfl
  | f :: t, s => by
    rw [List.map_cons, fnsB_cons, fnsB_cons, funcB_er, fnsB_er p t]
    rfl
theorem mainB_er (p : Pr) : mainB p.er = mainB p := by
  unfold mainB
  simp only [Pr.er, List.getElem?_map]
  cases p.fns[p.main.toNat]? <;> rfl
theorem checkB_er (p : Pr) : checkB p.er = checkB p := by
  unfold checkB
  rw [mainB_er, show p.er.obs.all (objB ⟨p.er, fn0⟩) = p.obs.all (objB ⟨p, fn0⟩) from all_er _ _ _ _ (objB_er p fn0 fn0), show fnsB p.er [] p.er.fns = fnsB p [] p.fns from fnsB_er p p.fns [],
    show p.er.obs.length = p.obs.length from len_er _ _, show p.er.fns.length = p.fns.length from len_er _ _]
  rfl
theorem checkB_same {p q : Pr} (h : q.er = p.er) : checkB q = checkB p := by rw [← checkB_er q, h, checkB_er]
end Go.Proofs.YtpohhfggmaihpaaGreatDoor

/- A struct of three numbers held against another. -/
namespace Go.Wk
open Op
set_option linter.unusedVariables false
set_option linter.unusedSimpArgs false
theorem run_eqA3 {P : Program} {t t1 t2 t3 : TypeId} {k1 k2 k3 : IntKind} {a1 a2 a3 b1 b2 b3 : Int} {z z1 z2 z3 : Value} {s b s1 c1 s2 c2 s3 c3 : Nat} (ht : tiOf P t = some ⟨.struct [(0, t1), (1, t2), (2, t3)], z, s, b⟩) (h1 : tiOf P t1 = some ⟨.int k1, z1, s1, c1⟩) (h2 : tiOf P t2 = some ⟨.int k2, z2, s2, c2⟩) (h3 : tiOf P t3 = some ⟨.int k3, z3, s3, c3⟩) (hs : sEq P t = true) (x y : Operand) (w : World) (d : Nat) :
    (Op.equalIn (d + 2) t (.agg #[.int k1 a1, .int k2 a2, .int k3 a3]) (.agg #[.int k1 b1, .int k2 b2, .int k3 b3])).run P w = .ok (a1 == b1 && (a2 == b2 && a3 == b3)) w := by
  obtain ⟨fl, hu, hfl⟩ := tk_struct ht
  simp only [sEq, hu, Bool.and_eq_true, Bool.not_eq_true'] at hs
  have hf : P.fieldsOf t = fl := by simp [Program.fieldsOf, hu]
  rw [run_equalIn_agg w (d + 1) t _ _ (by rw [hf]; exact hu) hs.1.2, hf]
  obtain ⟨fl⟩ := fl
  dsimp only at hs hfl ⊢
  obtain ⟨f1, r1, rfl, e0, hr1⟩ := List.map_eq_cons_iff.1 hfl
  obtain ⟨f2, r2, rfl, e9, hr2⟩ := List.map_eq_cons_iff.1 hr1
  obtain ⟨f3, r3, rfl, e8, hr3⟩ := List.map_eq_cons_iff.1 hr2
  obtain rfl := List.map_eq_nil_iff.1 hr3
  simp only [Prod.mk.injEq] at e0 e9 e8
  obtain ⟨e1, e2⟩ := e0
  obtain ⟨e3, e4⟩ := e9
  obtain ⟨e5, e6⟩ := e8
  simp only [List.all_cons, List.all_nil, Bool.and_true, Bool.and_eq_true, bne_iff_ne] at hs
  subst e2; subst e4; subst e6
  have q1 : (Op.equalIn (d + 1) f1.type (.int k1 a1) (.int k1 b1)).run P w = .ok (a1 == b1) w := run_equalIn_int w d _ _ _ _ _ (tk_int h1)
  have q2 : (Op.equalIn (d + 1) f2.type (.int k2 a2) (.int k2 b2)).run P w = .ok (a2 == b2) w := run_equalIn_int w d _ _ _ _ _ (tk_int h2)
  have q3 : (Op.equalIn (d + 1) f3.type (.int k3 a3) (.int k3 b3)).run P w = .ok (a3 == b3) w := run_equalIn_int w d _ _ _ _ _ (tk_int h3)
  have p1 : (part f1.type #[.int k1 a1, .int k2 a2, .int k3 a3] 0).run P w = .ok (.int k1 a1) w := run_part1 h1 _ _ _ rfl w
  have p2 : (part f1.type #[.int k1 b1, .int k2 b2, .int k3 b3] 0).run P w = .ok (.int k1 b1) w := run_part1 h1 _ _ _ rfl w
  have p3 : (part f2.type #[.int k1 a1, .int k2 a2, .int k3 a3] 1).run P w = .ok (.int k2 a2) w := run_part1 h2 _ _ _ rfl w
  have p4 : (part f2.type #[.int k1 b1, .int k2 b2, .int k3 b3] 1).run P w = .ok (.int k2 b2) w := run_part1 h2 _ _ _ rfl w
  have p5 : (part f3.type #[.int k1 a1, .int k2 a2, .int k3 a3] 2).run P w = .ok (.int k3 a3) w := run_part1 h3 _ _ _ rfl w
  have p6 : (part f3.type #[.int k1 b1, .int k2 b2, .int k3 b3] 2).run P w = .ok (.int k3 b3) w := run_part1 h3 _ _ _ rfl w
  simp only [Op.eqFields, if_pos hs.1.1.1, if_pos hs.1.1.2.1, if_pos hs.1.1.2.2, Sem.run_bind, e1, e3, e5, p1, p2, q1, Result.andThen_ok]
  cases hq : (a1 == b1) with
  | false => simp
  | true =>
    simp only [Bool.not_true, Bool.false_eq_true, if_false, Sem.run_bind, p3, p4, q2, Result.andThen_ok]
    cases hr : (a2 == b2) with
    | false => simp
    | true =>
      simp only [Bool.not_true, Bool.false_eq_true, if_false, Sem.run_bind, p5, p6, q3, Result.andThen_ok]
      cases hr : (a3 == b3) <;> simp
section
variable {X : Cx} {L : LT} {d : Nat} {x y : Operand} {t ty yt : TypeId} {p : String} {af : Array Edge}
theorem p_neA3 {t1 t2 t3 : TypeId} {k1 k2 k3 : IntKind} {a1 a2 a3 b1 b2 b3 : Int} {z z1 z2 z3 : Value} {s b s1 c1 s2 c2 s3 c3 : Nat} (hx : ev L x = some (.agg #[.int k1 a1, .int k2 a2, .int k3 a3])) (hy : ev L y = some (.agg #[.int k1 b1, .int k2 b2, .int k3 b3]))
    (ht : tl X.s.tab t = some ⟨.struct [(0, t1), (1, t2), (2, t3)], z, s, b⟩) (h1 : tl X.s.tab t1 = some ⟨.int k1, z1, s1, c1⟩) (h2 : tl X.s.tab t2 = some ⟨.int k2, z2, s2, c2⟩) (h3 : tl X.s.tab t3 = some ⟨.int k3, z3, s3, c3⟩) (hs : sEq X.s.P t = true) :
    PR X.s.P L (⟨some d, .binOp .neq t x y yt, ty, p, af, none⟩ : Oper) (.bool (!(a1 == b1 && (a2 == b2 && a3 == b3)))) := fun ρ w h => by
  simp only [execOp]; rw [h x _ hx, h y _ hy]
  have hg : X.s.P.eqGuardType X.s.P.depth t = false := by
    unfold sEq at hs
    split at hs
    · simp only [Bool.and_eq_true, Bool.not_eq_true'] at hs; exact hs.2
    · cases hs
  have e : (do eqGuard .neq t x y (.agg #[.int k1 a1, .int k2 a2, .int k3 a3]) (.agg #[.int k1 b1, .int k2 b2, .int k3 b3]); binOp .neq t (.agg #[.int k1 a1, .int k2 a2, .int k3 a3]) (.agg #[.int k1 b1, .int k2 b2, .int k3 b3]) : Sem Value).run X.s.P w = .ok (.bool (!(a1 == b1 && (a2 == b2 && a3 == b3)))) w := by
    rw [Sem.run_bind, run_eqGuard_agg w .neq t x y _ _ hg, Result.andThen_ok, run_neq_struct]
    rw [run_eqA3 (X.s.ok.at ht) (X.s.ok.at h1) (X.s.ok.at h2) (X.s.ok.at h3) hs x y w 9998]
    rfl
  rw [Sem.run_bind, e]; rfl
end
end Go.Wk

/- The document's Same of bytes, Func, Prog: true of what differs in addresses alone. -/
namespace Go.Proofs.YtpohhfggmaihpaaGreatDoor
open Go.Wk
set_option linter.unusedVariables false
set_option linter.unusedSimpArgs false
attribute [local irreducible] G GC GQ GA GS Exit.then Exit.inBlock

theorem neT_self (a : ByteArray) : (a.toList != a.toList) = false := by simp
theorem neI_self (a : Int) : (a != a) = false := by simp
theorem rsameb_sp (l l' : List Int) (A A' : Option Addr) (c c' : Nat) (w : World) (h : l' = l) (hr : Rd (hw w) fB 1 A l) (hr' : Rd (hw w) fB 1 A' l') (hl : l.length ≤ 140737488355328) :
    Sp Tryz.prog 33 [.slice A l.length c, .slice A' l'.length c'] w [] (fun b : Bool => .bool b) (fun _ => []) (fun b => b = true) := by
  subst h
  refine enter (s := Tryz.sx) [] Tryz.func33 rfl rfl rfl (Eff.refl w) ?_
  repeat' (first | refine g_pv rfl rfl ?_ | refine g_nil ?_ | refine gq_then ?_ | refine gc_seq ?_ | refine gc_region ?_)
  refine gc_eq 10 (u' := .bool false) rfl (by congr 1; exact neI_self _) ?_
  repeat' (first | refine g_pv rfl rfl ?_ | refine g_nil ?_ | refine gq_then ?_ | refine gc_seq ?_ | refine gc_region ?_ | refine gc_block ?_ | refine gc_cond_f rfl ?_ | refine gc_skip ?_)
  refine gc_loop (Y := Nat) (fun k => k ≤ l'.length) (fun k => [(0, .slice A l'.length c), (1, .slice A' l'.length c'), (5, .int .i64 k)]) (fun k => [])
    (fun k => l'.length - k) 0 (Nat.zero_le _) ⟨rfl, rfl, rfl, trivial⟩ (fun w' H => H) ?_
  rintro k hk
  dsimp only at hk ⊢
  repeat' (first | refine g_pv rfl rfl ?_ | refine g_nil ?_ | refine gq_then ?_ | refine gc_seq ?_ | refine gc_region ?_)
  refine gc_condC rfl (fun hc => ?_) (fun hc => ?_)
  rotate_left
  · repeat' (first | refine g_pv rfl rfl ?_ | refine g_nil ?_ | refine gq_then ?_ | refine gc_seq ?_ | refine gc_region ?_ | refine gc_exit ?_ | refine gc_ret ?_ | refine gq_then_exit ?_ | refine gq_block_exit ?_)
    exact gq_ret1 (.inr rfl) rfl rfl rfl (fun w' H => ⟨true, rfl, rfl, hp_nil H⟩)
  have hlt : k < l'.length := by have := of_decide_eq_true hc; omega
  have hx1 : l'[k]? = some (l'[k]) := List.getElem?_eq_getElem hlt
  generalize l'[k] = a at hx1
  repeat' (first | refine gq_then ?_ | refine gc_seq ?_ | refine gc_block ?_ | refine gc_skip ?_)
  refine gc_draw [] [] rfl (List.Perm.of_eq rfl) ?_
  (refine ga_p 0 (by repeat first | exact NoP.sp | apply NoP.then | apply NoP.block) rfl (pv_spec rfl) rfl (by kernel_rfl) (by kernel_rfl) (by kernel_rfl) ?_); (refine ga_p 1 (by repeat first | exact NoP.sp | apply NoP.then | apply NoP.block) rfl (pv_spec rfl) rfl (by kernel_rfl) (by kernel_rfl) (by kernel_rfl) ?_)
  refine ga_at 2 3 (l := l') (f := fB) (u := a) (by repeat first | exact NoP.sp | apply NoP.then | apply NoP.block) rfl wanted_none rfl (fun a _ => wanted_none a) rfl rfl rfl rfl rfl (Int.natCast_nonneg k) (by omega) (still_rdO (hr.le (old_le0 _ w))) hx1 rfl rfl rfl rfl (by kernel_rfl) (by kernel_rfl) (by kernel_rfl) (by kernel_rfl) (by kernel_rfl) (fun _ => ?_)
  (refine ga_p 4 (by repeat first | exact NoP.sp | apply NoP.then | apply NoP.block) rfl (pv_spec rfl) rfl (by kernel_rfl) (by kernel_rfl) (by kernel_rfl) ?_); (refine ga_p 5 (by repeat first | exact NoP.sp | apply NoP.then | apply NoP.block) rfl (pv_spec rfl) rfl (by kernel_rfl) (by kernel_rfl) (by kernel_rfl) ?_)
  refine ga_at 6 7 (l := l') (f := fB) (u := a) (by repeat first | exact NoP.sp | apply NoP.then | apply NoP.block) rfl wanted_none rfl (fun a _ => wanted_none a) rfl rfl rfl rfl rfl (Int.natCast_nonneg k) (by omega) (still_rdO (hr'.le (old_le0 _ w))) hx1 rfl rfl rfl rfl (by kernel_rfl) (by kernel_rfl) (by kernel_rfl) (by kernel_rfl) (by kernel_rfl) (fun _ => ?_)
  (refine ga_p 8 (by repeat first | exact NoP.sp | apply NoP.then | apply NoP.block) rfl (pv_spec rfl) rfl (by kernel_rfl) (by kernel_rfl) (by kernel_rfl) ?_)
  refine ga_eq 25 (u' := .bool false) rfl (by congr 1; exact neI_self _) ?_
  refine ga_nil (by kernel_rfl) ?_
  repeat' (first | refine g_pv rfl rfl ?_ | refine g_nil ?_ | refine gq_then ?_ | refine gc_region ?_ | refine gc_cond_f rfl ?_ | refine gc_skip ?_ | refine gq_block ?_)
  exact gq_again (k + 1) hlt (by omega) ⟨rfl, rfl, inc_eq (by omega), trivial⟩ (fun w' H => H)
theorem alikeB_refl (x : Ins) : alikeB x x = true := by simp [alikeB]
theorem sameB_er {x y : Ins} (h : x.er = y.er) : sameB x y = true := by
  have e1 : x.args = y.args := by have := congrArg Ins.args h; exact this
  have e2 : alikeB x y = alikeB x.er y.er := rfl
  unfold sameB
  rw [e1, argsEq_refl, e2, h, alikeB_refl]; rfl
theorem er_at {α : Type} {e : α → α} {l m : List α} (h : l.map e = m.map e) {k : Nat} (hk : k < l.length) : ∃ x y, l[k]? = some x ∧ m[k]? = some y ∧ e x = e y := by
  have hl : l.length = m.length := by have := congrArg List.length h; simpa using this
  have hk2 : k < m.length := by omega
  refine ⟨l[k], m[k], List.getElem?_eq_getElem hk, List.getElem?_eq_getElem hk2, ?_⟩
  have h1 := congrArg (fun q => q[k]?) h
  simp only [List.getElem?_map, List.getElem?_eq_getElem hk, List.getElem?_eq_getElem hk2, Option.map_some, Option.some.injEq] at h1
  exact h1
set_option maxHeartbeats 8000000 in
theorem rfunc_sp (f g : Fn) (w : World) (h : f.er = g.er) (hf : FnIn (hw w) f) (hg : FnIn (hw w) g) :
    Sp Tryz.prog 34 [f.val, g.val] w [] (fun b : Bool => .bool b) (fun _ => []) (fun b => b = true) := by
  have hnm : f.nm = g.nm := by have := congrArg Fn.nm h; exact this
  have hpa : f.pa = g.pa := by have := congrArg Fn.pa h; exact this
  have hte : f.te = g.te := by have := congrArg Fn.te h; exact this
  have hgi : f.gi = g.gi := by have := congrArg Fn.gi h; exact this
  have hsl : f.slots = g.slots := by have := congrArg Fn.slots h; exact this
  have hcode : f.code.map Ins.er = g.code.map Ins.er := by have := congrArg Fn.code h; exact this
  have hcl : f.code.length = g.code.length := by have := congrArg List.length hcode; simpa using this
  have hslen := hf.slen
  have hclen := hf.code.len
  refine enter (s := Tryz.sx) [] Tryz.func34 rfl rfl rfl (Eff.refl w) ?_
  repeat' (first | refine g_pv rfl rfl ?_ | refine g_ld 0 rfl rfl rfl rfl rfl rfl ?_ | refine g_ld 1 rfl rfl rfl rfl rfl rfl ?_ | refine g_nil ?_ | refine gq_then ?_ | refine gc_seq ?_ | refine gc_region ?_ | refine g_box rfl rfl (fun _ => ?_))
  rename_i b2 b3
  refine g_p (p_neT rfl rfl rfl) rfl ?_
  repeat' (refine g_pv rfl rfl ?_)
  refine g_eq 12 (u' := .bool false) rfl (by rw [hnm, neT_self]) ?_
  repeat' (first | refine g_pv rfl rfl ?_ | refine g_ld 0 rfl rfl rfl rfl rfl rfl ?_ | refine g_ld 1 rfl rfl rfl rfl rfl rfl ?_ | refine g_yes rfl rfl rfl ?_)
  refine g_eq 19 (u' := .bool false) rfl (by rw [hpa, neI_self]) ?_
  repeat' (first | refine g_pv rfl rfl ?_ | refine g_ld 0 rfl rfl rfl rfl rfl rfl ?_ | refine g_ld 1 rfl rfl rfl rfl rfl rfl ?_ | refine g_yes rfl rfl rfl ?_)
  refine g_eq 26 (u' := .bool false) rfl (by rw [hte, neI_self]) ?_
  repeat' (first | refine g_pv rfl rfl ?_ | refine g_ld 0 rfl rfl rfl rfl rfl rfl ?_ | refine g_ld 1 rfl rfl rfl rfl rfl rfl ?_ | refine g_yes rfl rfl rfl ?_)
  refine g_p (p_neB rfl rfl rfl) rfl ?_
  repeat' (refine g_pv rfl rfl ?_)
  refine g_eq 33 (u' := .bool false) rfl (by rw [hgi]; cases g.gi <;> rfl) ?_
  repeat' (first | refine g_pv rfl rfl ?_ | refine g_ld 0 rfl rfl rfl rfl rfl rfl ?_ | refine g_ld 1 rfl rfl rfl rfl rfl rfl ?_ | refine g_yes rfl rfl rfl ?_)
  refine g_eq 42 (u' := .bool false) rfl (by rw [hsl, neI_self]) ?_
  repeat' (first | refine g_pv rfl rfl ?_ | refine g_ld 0 rfl rfl rfl rfl rfl rfl ?_ | refine g_ld 1 rfl rfl rfl rfl rfl rfl ?_ | refine g_nil ?_ | refine gq_then ?_ | refine g_yes rfl rfl rfl ?_)
  refine gc_eq 50 (u' := .bool false) rfl (by rw [hcl, neI_self]) ?_
  refine gc_heap (R' := [[(b3, .cells ⟨g.cells⟩ 32 (0, 0))], [(b2, .cells ⟨f.cells⟩ 32 (0, 0))]]) (fun w H => H) ?_
  repeat' (first | refine g_pv rfl rfl ?_ | refine g_nil ?_ | refine gq_then ?_ | refine gc_seq ?_ | refine gc_region ?_ | refine gc_block ?_ | refine gc_cond_f rfl ?_ | refine gc_skip ?_)
  refine gc_loop (Y := Nat) (fun k => k ≤ f.slots.length) (fun k => [(2, .pointer (some ⟨b2, 0, none⟩)), (3, .pointer (some ⟨b3, 0, none⟩)), (5, .int .i64 k)]) (fun k => [[(b3, .cells ⟨g.cells⟩ 32 (0, 0))], [(b2, .cells ⟨f.cells⟩ 32 (0, 0))]])
    (fun k => f.slots.length - k) 0 (Nat.zero_le _) ⟨rfl, rfl, rfl, trivial⟩ (fun w' H => H) ?_
  rintro k hk
  dsimp only at hk ⊢
  repeat' (first | refine g_pv rfl rfl ?_ | refine g_ld 1 rfl rfl rfl rfl rfl rfl ?_ | refine g_nil ?_ | refine gq_then ?_ | refine gc_seq ?_ | refine gc_region ?_)
  refine gc_condC rfl (fun hc => ?_) (fun hc => ?_)
  · have hlt : k < f.slots.length := by have := of_decide_eq_true hc; omega
    have hx1 : f.slots[k]? = some (f.slots[k]) := List.getElem?_eq_getElem hlt
    generalize f.slots[k] = a at hx1
    have hx2 : g.slots[k]? = some a := by rw [← hsl]; exact hx1
    have hlt2 : k < g.slots.length := by rw [← hsl]; exact hlt
    repeat' (first | refine gq_then ?_ | refine gc_seq ?_ | refine gc_block ?_ | refine gc_skip ?_)
    refine gc_draw [[(b3, .cells ⟨g.cells⟩ 32 (0, 0))], [(b2, .cells ⟨f.cells⟩ 32 (0, 0))]] [] rfl (List.Perm.of_eq rfl) ?_
    (refine ga_p 0 (by repeat first | exact NoP.sp | apply NoP.then | apply NoP.block) rfl (pv_spec rfl) rfl (by kernel_rfl) (by kernel_rfl) (by kernel_rfl) ?_); (refine ga_ld 1 1 (by repeat first | exact NoP.sp | apply NoP.then | apply NoP.block) rfl wanted_none rfl rfl rfl rfl rfl rfl (by kernel_rfl) (by kernel_rfl) (by kernel_rfl) ?_); (refine ga_p 2 (by repeat first | exact NoP.sp | apply NoP.then | apply NoP.block) rfl (pv_spec rfl) rfl (by kernel_rfl) (by kernel_rfl) (by kernel_rfl) ?_)
    refine ga_at 3 4 (l := f.slots) (f := Slt.cells) (u := a) (by repeat first | exact NoP.sp | apply NoP.then | apply NoP.block) rfl wanted_none rfl (fun a _ => wanted_none a) rfl rfl rfl rfl rfl (Int.natCast_nonneg k) (by omega) (still_rdO (hf.slots.le (old_le0 _ w))) hx1 rfl rfl rfl rfl (by kernel_rfl) (by kernel_rfl) (by kernel_rfl) (by kernel_rfl) (by kernel_rfl) (fun _ => ?_)
    (refine ga_p 5 (by repeat first | exact NoP.sp | apply NoP.then | apply NoP.block) rfl (pv_spec rfl) rfl (by kernel_rfl) (by kernel_rfl) (by kernel_rfl) ?_); (refine ga_ld 6 0 (by repeat first | exact NoP.sp | apply NoP.then | apply NoP.block) rfl wanted_none rfl rfl rfl rfl rfl rfl (by kernel_rfl) (by kernel_rfl) (by kernel_rfl) ?_); (refine ga_p 7 (by repeat first | exact NoP.sp | apply NoP.then | apply NoP.block) rfl (pv_spec rfl) rfl (by kernel_rfl) (by kernel_rfl) (by kernel_rfl) ?_)
    refine ga_at 8 9 (l := g.slots) (f := Slt.cells) (u := a) (by repeat first | exact NoP.sp | apply NoP.then | apply NoP.block) rfl wanted_none rfl (fun a _ => wanted_none a) rfl rfl rfl rfl rfl (Int.natCast_nonneg k) (by omega) (still_rdO (hg.slots.le (old_le0 _ w))) hx2 rfl rfl rfl rfl (by kernel_rfl) (by kernel_rfl) (by kernel_rfl) (by kernel_rfl) (by kernel_rfl) (fun _ => ?_)
    refine ga_p 10 (by repeat first | exact NoP.sp | apply NoP.then | apply NoP.block) rfl (p_neA rfl rfl rfl rfl rfl (by kernel_rfl)) rfl (by kernel_rfl) (by kernel_rfl) (by kernel_rfl) ?_
    refine ga_eq 68 (u' := .bool false) rfl (by simp) ?_
    refine ga_nil (by kernel_rfl) ?_
    repeat' (first | refine g_pv rfl rfl ?_ | refine g_nil ?_ | refine gq_then ?_ | refine gc_region ?_ | refine gc_cond_f rfl ?_ | refine gc_skip ?_ | refine gq_block ?_)
    exact gq_again (k + 1) hlt (by omega) ⟨rfl, rfl, inc_eq (by omega), trivial⟩ (fun w' H => H)
  repeat' (first | refine g_pv rfl rfl ?_ | refine g_nil ?_ | refine gq_then ?_ | refine gc_seq ?_ | refine gc_region ?_ | refine gc_block ?_ | refine gc_exit ?_ | refine gq_then_exit ?_ | refine gq_block_exit ?_)
  refine gc_loop (Y := Nat) (fun k => k ≤ f.code.length) (fun k => [(2, .pointer (some ⟨b2, 0, none⟩)), (3, .pointer (some ⟨b3, 0, none⟩)), (6, .int .i64 k)]) (fun k => [[(b3, .cells ⟨g.cells⟩ 32 (0, 0))], [(b2, .cells ⟨f.cells⟩ 32 (0, 0))]])
    (fun k => f.code.length - k) 0 (Nat.zero_le _) ⟨rfl, rfl, rfl, trivial⟩ (fun w' H => H) ?_
  rintro k hk
  dsimp only at hk ⊢
  repeat' (first | refine g_pv rfl rfl ?_ | refine g_ld 1 rfl rfl rfl rfl rfl rfl ?_ | refine g_nil ?_ | refine gq_then ?_ | refine gc_seq ?_ | refine gc_region ?_)
  refine gc_condC rfl (fun hc => ?_) (fun hc => ?_)
  · have hlt : k < f.code.length := by have := of_decide_eq_true hc; omega
    obtain ⟨x, y, hx1, hx2, hxy⟩ := er_at hcode hlt
    have hxm := hf.code.all x (List.mem_of_getElem? hx1)
    have hym := hg.code.all y (List.mem_of_getElem? hx2)
    repeat' (first | refine gq_then ?_ | refine gc_seq ?_ | refine gc_block ?_ | refine gc_skip ?_)
    refine gc_draw [[(b3, .cells ⟨g.cells⟩ 32 (0, 0))], [(b2, .cells ⟨f.cells⟩ 32 (0, 0))]] [] rfl (List.Perm.of_eq rfl) ?_
    (refine ga_p 0 (by repeat first | exact NoP.sp | apply NoP.then | apply NoP.block) rfl (pv_spec rfl) rfl (by kernel_rfl) (by kernel_rfl) (by kernel_rfl) ?_); (refine ga_ld 1 1 (by repeat first | exact NoP.sp | apply NoP.then | apply NoP.block) rfl wanted_none rfl rfl rfl rfl rfl rfl (by kernel_rfl) (by kernel_rfl) (by kernel_rfl) ?_); (refine ga_p 2 (by repeat first | exact NoP.sp | apply NoP.then | apply NoP.block) rfl (pv_spec rfl) rfl (by kernel_rfl) (by kernel_rfl) (by kernel_rfl) ?_)
    refine ga_at 3 4 (l := f.code) (f := Ins.cells) (u := x) (by repeat first | exact NoP.sp | apply NoP.then | apply NoP.block) rfl wanted_none rfl (fun a _ => wanted_none a) rfl rfl rfl rfl rfl (Int.natCast_nonneg k) (by omega) (still_rdO (hf.code.row.le (old_le0 _ w))) hx1 rfl rfl rfl rfl (by kernel_rfl) (by kernel_rfl) (by kernel_rfl) (by kernel_rfl) (by kernel_rfl) (fun _ => ?_)
    (refine ga_p 5 (by repeat first | exact NoP.sp | apply NoP.then | apply NoP.block) rfl (pv_spec rfl) rfl (by kernel_rfl) (by kernel_rfl) (by kernel_rfl) ?_); (refine ga_ld 6 0 (by repeat first | exact NoP.sp | apply NoP.then | apply NoP.block) rfl wanted_none rfl rfl rfl rfl rfl rfl (by kernel_rfl) (by kernel_rfl) (by kernel_rfl) ?_); (refine ga_p 7 (by repeat first | exact NoP.sp | apply NoP.then | apply NoP.block) rfl (pv_spec rfl) rfl (by kernel_rfl) (by kernel_rfl) (by kernel_rfl) ?_)
    refine ga_at 8 9 (l := g.code) (f := Ins.cells) (u := y) (by repeat first | exact NoP.sp | apply NoP.then | apply NoP.block) rfl wanted_none rfl (fun a _ => wanted_none a) rfl rfl rfl rfl rfl (Int.natCast_nonneg k) (by omega) (still_rdO (hg.code.row.le (old_le0 _ w))) hx2 rfl rfl rfl rfl (by kernel_rfl) (by kernel_rfl) (by kernel_rfl) (by kernel_rfl) (by kernel_rfl) (fun _ => ?_)
    refine ga_one (i := 10) (by kernel_rfl) (gs_of rfl (fun K hK => ?_))
    refine g_call rfl (Cl.of Tryz.func55 rfl rfl) rfl rfl (fun w' hE => rSame_sp x y w' (hxm.args.le (fun b o h => old_le hE b o (old_le0 _ w b o h))) (hym.args.le (fun b o h => old_le hE b o (old_le0 _ w b o h))) hxm.len) rfl ?_
    rintro b hb
    rw [sameB_er hxy] at hb
    subst hb
    refine g_nil ?_
    refine hK _ _ ⟨[], List.Perm.of_eq rfl⟩ ?_
    (refine ga_p 11 (by repeat first | exact NoP.sp | apply NoP.then | apply NoP.block) rfl (pv_spec rfl) rfl (by kernel_rfl) (by kernel_rfl) (by kernel_rfl) ?_)
    refine ga_nil (by kernel_rfl) ?_
    repeat' (first | refine g_pv rfl rfl ?_ | refine g_nil ?_ | refine gq_then ?_ | refine gc_region ?_ | refine gc_cond_f rfl ?_ | refine gc_skip ?_ | refine gq_block ?_)
    exact gq_again (k + 1) hlt (by omega) ⟨rfl, rfl, inc_eq (by omega), trivial⟩ (fun w' H => H)
  repeat' (first | refine g_pv rfl rfl ?_ | refine g_nil ?_ | refine gq_then ?_ | refine gc_seq ?_ | refine gc_region ?_ | refine gc_exit ?_ | refine gc_ret ?_ | refine gq_then_exit ?_ | refine gq_block_exit ?_)
  exact gq_ret1 (.inr rfl) rfl rfl rfl (fun w' H => ⟨true, rfl, rfl, hp_nil H⟩)
set_option maxHeartbeats 16000000 in
theorem rprog_sp (p q : Pr) (w : World) (h : p.er = q.er) (hp : PrIn (hw w) p) (hq : PrIn (hw w) q) :
    Sp Tryz.prog 15 [p.val, q.val] w [] (fun b : Bool => .bool b) (fun _ => []) (fun b => b = true) := by
  have hmn : p.main = q.main := by have := congrArg Pr.main h; exact this
  have hob : p.obs.map Ob.er = q.obs.map Ob.er := by have := congrArg Pr.obs h; exact this
  have hfn : p.fns.map Fn.er = q.fns.map Fn.er := by have := congrArg Pr.fns h; exact this
  have hol : p.obs.length = q.obs.length := by have := congrArg List.length hob; simpa using this
  have hfl : p.fns.length = q.fns.length := by have := congrArg List.length hfn; simpa using this
  have holen := hp.olen
  have hflen := hp.flen
  refine enter (s := Tryz.sx) [] Tryz.func15 rfl rfl rfl (Eff.refl w) ?_
  repeat' (first | refine g_pv rfl rfl ?_ | refine g_ld 0 rfl rfl rfl rfl rfl rfl ?_ | refine g_ld 1 rfl rfl rfl rfl rfl rfl ?_ | refine g_nil ?_ | refine gq_then ?_ | refine gc_seq ?_ | refine gc_region ?_ | refine g_box rfl rfl (fun _ => ?_))
  rename_i b2 b3
  refine g_eq 15 (u' := .bool false) rfl (by rw [hmn, neI_self]) ?_
  repeat' (first | refine g_pv rfl rfl ?_ | refine g_ld 0 rfl rfl rfl rfl rfl rfl ?_ | refine g_ld 1 rfl rfl rfl rfl rfl rfl ?_ | refine g_yes rfl rfl rfl ?_)
  refine g_eq 24 (u' := .bool false) rfl (by rw [hol, neI_self]) ?_
  repeat' (first | refine g_pv rfl rfl ?_ | refine g_ld 0 rfl rfl rfl rfl rfl rfl ?_ | refine g_ld 1 rfl rfl rfl rfl rfl rfl ?_ | refine g_nil ?_ | refine gq_then ?_ | refine g_yes rfl rfl rfl ?_)
  refine gc_eq 32 (u' := .bool false) rfl (by rw [hfl, neI_self]) ?_
  refine gc_heap (R' := [[(b3, .cells ⟨q.cells⟩ 25 (0, 0))], [(b2, .cells ⟨p.cells⟩ 25 (0, 0))]]) (fun w H => H) ?_
  repeat' (first | refine g_pv rfl rfl ?_ | refine g_nil ?_ | refine gq_then ?_ | refine gc_seq ?_ | refine gc_region ?_ | refine gc_block ?_ | refine gc_cond_f rfl ?_ | refine gc_skip ?_)
  refine gc_loop (Y := Nat) (fun k => k ≤ p.obs.length) (fun k => [(2, .pointer (some ⟨b2, 0, none⟩)), (3, .pointer (some ⟨b3, 0, none⟩)), (5, .int .i64 k)]) (fun k => [[(b3, .cells ⟨q.cells⟩ 25 (0, 0))], [(b2, .cells ⟨p.cells⟩ 25 (0, 0))]])
    (fun k => p.obs.length - k) 0 (Nat.zero_le _) ⟨rfl, rfl, rfl, trivial⟩ (fun w' H => H) ?_
  rintro k hk
  dsimp only at hk ⊢
  refine gc_seq ?_
  repeat' (fail)
  refine gc_seq ?_
  repeat' (first | refine g_pv rfl rfl ?_ | refine g_ld 1 rfl rfl rfl rfl rfl rfl ?_ | refine g_nil ?_ | refine gq_then ?_ | refine gc_region ?_)
  refine gc_condC rfl (fun hc => ?_) (fun hc => ?_)
  · have hlt : k < p.obs.length := by have := of_decide_eq_true hc; omega
    obtain ⟨x, y, hx1, hx2, hxy⟩ := er_at hob hlt
    have hxm := hp.ob x (List.mem_of_getElem? hx1)
    have hym := hq.ob y (List.mem_of_getElem? hx2)
    have xnm : x.nm = y.nm := by have := congrArg Ob.nm hxy; exact this
    have xsz : x.size = y.size := by have := congrArg Ob.size hxy; exact this
    have xal : x.align = y.align := by have := congrArg Ob.align hxy; exact this
    have xby : x.bytes = y.bytes := by have := congrArg Ob.bytes hxy; exact this
    have xre : x.rels = y.rels := by have := congrArg Ob.rels hxy; exact this
    have hrl := hxm.rlen
    repeat' (first | refine gq_then ?_ | refine gc_skip ?_)
    refine gc_seq ?_
    repeat' (refine gc_block ?_)
    refine gc_cut (Y := Nat × Nat) (fun _ => True) (fun y => [(2, .pointer (some ⟨b2, 0, none⟩)), (3, .pointer (some ⟨b3, 0, none⟩)), (5, .int .i64 k), (6, .pointer (some ⟨y.1, 0, none⟩)), (7, .pointer (some ⟨y.2, 0, none⟩))])
      (fun g => [[(g.1, .cells ⟨x.cells⟩ 66 (0, 0))], [(g.2, .cells ⟨y.cells⟩ 66 (0, 0))], [(b3, .cells ⟨q.cells⟩ 25 (0, 0))], [(b2, .cells ⟨p.cells⟩ 25 (0, 0))]]) ?_ ?_
    · refine gc_draw [[(b3, .cells ⟨q.cells⟩ 25 (0, 0))], [(b2, .cells ⟨p.cells⟩ 25 (0, 0))]] [] rfl (List.Perm.of_eq rfl) ?_
      (refine ga_p 0 (by repeat first | exact NoP.sp | apply NoP.then | apply NoP.block) rfl (pv_spec rfl) rfl (by kernel_rfl) (by kernel_rfl) (by kernel_rfl) ?_); (refine ga_ld 1 1 (by repeat first | exact NoP.sp | apply NoP.then | apply NoP.block) rfl wanted_none rfl rfl rfl rfl rfl rfl (by kernel_rfl) (by kernel_rfl) (by kernel_rfl) ?_); (refine ga_p 2 (by repeat first | exact NoP.sp | apply NoP.then | apply NoP.block) rfl (pv_spec rfl) rfl (by kernel_rfl) (by kernel_rfl) (by kernel_rfl) ?_)
      refine ga_at 3 4 (l := p.obs) (f := Ob.cells) (u := x) (by repeat first | exact NoP.sp | apply NoP.then | apply NoP.block) rfl wanted_none rfl (fun a _ => wanted_none a) rfl rfl rfl rfl rfl (Int.natCast_nonneg k) (by omega) (still_rdO (hp.obs.le (old_le0 _ w))) hx1 rfl rfl rfl rfl (by kernel_rfl) (by kernel_rfl) (by kernel_rfl) (by kernel_rfl) (by kernel_rfl) (fun _ => ?_)
      (refine ga_p 5 (by repeat first | exact NoP.sp | apply NoP.then | apply NoP.block) rfl (pv_spec rfl) rfl (by kernel_rfl) (by kernel_rfl) (by kernel_rfl) ?_); (refine ga_ld 6 0 (by repeat first | exact NoP.sp | apply NoP.then | apply NoP.block) rfl wanted_none rfl rfl rfl rfl rfl rfl (by kernel_rfl) (by kernel_rfl) (by kernel_rfl) ?_); (refine ga_p 7 (by repeat first | exact NoP.sp | apply NoP.then | apply NoP.block) rfl (pv_spec rfl) rfl (by kernel_rfl) (by kernel_rfl) (by kernel_rfl) ?_)
      refine ga_at 8 9 (l := q.obs) (f := Ob.cells) (u := y) (by repeat first | exact NoP.sp | apply NoP.then | apply NoP.block) rfl wanted_none rfl (fun a _ => wanted_none a) rfl rfl rfl rfl rfl (Int.natCast_nonneg k) (by omega) (still_rdO (hq.obs.le (old_le0 _ w))) hx2 rfl rfl rfl rfl (by kernel_rfl) (by kernel_rfl) (by kernel_rfl) (by kernel_rfl) (by kernel_rfl) (fun _ => ?_)
      refine ga_two (i := 10) (j := 11) (by kernel_rfl) (gs_of rfl (fun K hK => ?_)) (gs_of rfl (fun K hK => ?_))
      · -- 10
        refine g_alloc rfl rfl (fun g6 => ?_)
        refine g_heap (R' := [[(g6, .cells ⟨[.string ⟨#[]⟩, .int .i64 0, .int .i64 0, .slice none 0 0, .slice none 0 0]⟩ 66 (0, 0))], [(b3, .cells ⟨q.cells⟩ 25 (0, 0))], [(b2, .cells ⟨p.cells⟩ 25 (0, 0))]]) (fun w H => H) ?_
        refine g_nil ?_
        refine hK _ _ ⟨[_], List.perm_append_comm⟩ ?_
        refine ga_one (i := 11) (by kernel_rfl) (gs_of rfl (fun K hK => ?_))
        refine g_alloc rfl rfl (fun g7 => ?_)
        refine g_heap (R' := [[(g7, .cells ⟨[.string ⟨#[]⟩, .int .i64 0, .int .i64 0, .slice none 0 0, .slice none 0 0]⟩ 66 (0, 0))], [(g6, .cells ⟨[.string ⟨#[]⟩, .int .i64 0, .int .i64 0, .slice none 0 0, .slice none 0 0]⟩ 66 (0, 0))], [(b3, .cells ⟨q.cells⟩ 25 (0, 0))], [(b2, .cells ⟨p.cells⟩ 25 (0, 0))]]) (fun w H => H) ?_
        refine g_nil ?_
        refine hK _ _ ⟨[_, _], List.perm_append_comm⟩ ?_
        refine ga_one (i := 12) (by kernel_rfl) (gs_of rfl (fun K hK => ?_))
        refine g_st 1 rfl rfl rfl rfl rfl rfl rfl ?_
        refine g_heap (R' := [[(g7, .cells ⟨[.string ⟨#[]⟩, .int .i64 0, .int .i64 0, .slice none 0 0, .slice none 0 0]⟩ 66 (0, 0))], [(g6, .cells ⟨x.cells⟩ 66 (0, 0))], [(b3, .cells ⟨q.cells⟩ 25 (0, 0))], [(b2, .cells ⟨p.cells⟩ 25 (0, 0))]]) (fun w H => H) ?_
        refine g_nil ?_
        refine hK _ _ ⟨[_, _], List.perm_append_comm⟩ ?_
        refine ga_one (i := 13) (by kernel_rfl) (gs_of rfl (fun K hK => ?_))
        refine g_st 0 rfl rfl rfl rfl rfl rfl rfl ?_
        refine g_heap (R' := [[(g7, .cells ⟨y.cells⟩ 66 (0, 0))], [(g6, .cells ⟨x.cells⟩ 66 (0, 0))], [(b3, .cells ⟨q.cells⟩ 25 (0, 0))], [(b2, .cells ⟨p.cells⟩ 25 (0, 0))]]) (fun w H => H) ?_
        refine g_nil ?_
        refine hK _ _ ⟨[_, _], List.perm_append_comm⟩ ?_
        refine ga_nil (by kernel_rfl) ?_
        exact gq_at (g6, g7) trivial ⟨rfl, rfl, rfl, rfl, rfl, trivial⟩ (fun w' H => hp_permL H (List.Perm.swap _ _ _))
      · -- 11
        refine g_alloc rfl rfl (fun g7 => ?_)
        refine g_heap (R' := [[(g7, .cells ⟨[.string ⟨#[]⟩, .int .i64 0, .int .i64 0, .slice none 0 0, .slice none 0 0]⟩ 66 (0, 0))], [(b3, .cells ⟨q.cells⟩ 25 (0, 0))], [(b2, .cells ⟨p.cells⟩ 25 (0, 0))]]) (fun w H => H) ?_
        refine g_nil ?_
        refine hK _ _ ⟨[_], List.perm_append_comm⟩ ?_
        refine ga_one (i := 10) (by kernel_rfl) (gs_of rfl (fun K hK => ?_))
        refine g_alloc rfl rfl (fun g6 => ?_)
        refine g_heap (R' := [[(g6, .cells ⟨[.string ⟨#[]⟩, .int .i64 0, .int .i64 0, .slice none 0 0, .slice none 0 0]⟩ 66 (0, 0))], [(g7, .cells ⟨[.string ⟨#[]⟩, .int .i64 0, .int .i64 0, .slice none 0 0, .slice none 0 0]⟩ 66 (0, 0))], [(b3, .cells ⟨q.cells⟩ 25 (0, 0))], [(b2, .cells ⟨p.cells⟩ 25 (0, 0))]]) (fun w H => H) ?_
        refine g_nil ?_
        refine hK _ _ ⟨[_, _], List.perm_append_comm⟩ ?_
        refine ga_one (i := 12) (by kernel_rfl) (gs_of rfl (fun K hK => ?_))
        refine g_st 0 rfl rfl rfl rfl rfl rfl rfl ?_
        refine g_heap (R' := [[(g6, .cells ⟨x.cells⟩ 66 (0, 0))], [(g7, .cells ⟨[.string ⟨#[]⟩, .int .i64 0, .int .i64 0, .slice none 0 0, .slice none 0 0]⟩ 66 (0, 0))], [(b3, .cells ⟨q.cells⟩ 25 (0, 0))], [(b2, .cells ⟨p.cells⟩ 25 (0, 0))]]) (fun w H => H) ?_
        refine g_nil ?_
        refine hK _ _ ⟨[_, _], List.perm_append_comm⟩ ?_
        refine ga_one (i := 13) (by kernel_rfl) (gs_of rfl (fun K hK => ?_))
        refine g_st 1 rfl rfl rfl rfl rfl rfl rfl ?_
        refine g_heap (R' := [[(g6, .cells ⟨x.cells⟩ 66 (0, 0))], [(g7, .cells ⟨y.cells⟩ 66 (0, 0))], [(b3, .cells ⟨q.cells⟩ 25 (0, 0))], [(b2, .cells ⟨p.cells⟩ 25 (0, 0))]]) (fun w H => H) ?_
        refine g_nil ?_
        refine hK _ _ ⟨[_, _], List.perm_append_comm⟩ ?_
        refine ga_nil (by kernel_rfl) ?_
        exact gq_at (g6, g7) trivial ⟨rfl, rfl, rfl, rfl, rfl, trivial⟩ (fun w' H => H)
    rintro ⟨g6, g7⟩ -
    try dsimp only
    repeat' (first | refine g_pv rfl rfl ?_ | refine g_ld 0 rfl rfl rfl rfl rfl rfl ?_ | refine g_ld 1 rfl rfl rfl rfl rfl rfl ?_ | refine gc_seq ?_ | refine gc_region ?_)
    refine g_p (p_neT rfl rfl rfl) rfl ?_
    repeat' (refine g_pv rfl rfl ?_)
    refine g_eq 55 (u' := .bool false) rfl (by rw [xnm, neT_self]) ?_
    repeat' (first | refine g_pv rfl rfl ?_ | refine g_ld 0 rfl rfl rfl rfl rfl rfl ?_ | refine g_ld 1 rfl rfl rfl rfl rfl rfl ?_ | refine g_yes rfl rfl rfl ?_)
    refine g_eq 62 (u' := .bool false) rfl (by rw [xsz, neI_self]) ?_
    repeat' (first | refine g_pv rfl rfl ?_ | refine g_ld 0 rfl rfl rfl rfl rfl rfl ?_ | refine g_ld 1 rfl rfl rfl rfl rfl rfl ?_ | refine g_yes rfl rfl rfl ?_)
    refine g_eq 69 (u' := .bool false) rfl (by rw [xal, neI_self]) ?_
    repeat' (first | refine g_pv rfl rfl ?_ | refine g_ld 0 rfl rfl rfl rfl rfl rfl ?_ | refine g_ld 1 rfl rfl rfl rfl rfl rfl ?_ | refine g_yes rfl rfl rfl ?_)
    refine g_call rfl (Cl.of Tryz.func33 rfl rfl) rfl rfl (fun w' hE => rsameb_sp x.bytes y.bytes x.bA y.bA x.bC y.bC w' xby.symm (hxm.bytes.le (fun b o h => old_le hE b o (old_le0 _ w b o h))) (hym.bytes.le (fun b o h => old_le hE b o (old_le0 _ w b o h))) hxm.blen) rfl ?_
    rintro b rfl
    repeat' (first | refine g_pv rfl rfl ?_ | refine g_ld 0 rfl rfl rfl rfl rfl rfl ?_ | refine g_ld 1 rfl rfl rfl rfl rfl rfl ?_ | refine g_nil ?_ | refine gq_then ?_ | refine g_yes rfl rfl rfl ?_)
    refine gc_eq 89 (u' := .bool false) rfl (by rw [xre, neI_self]) ?_
    repeat' (first | refine g_pv rfl rfl ?_ | refine g_nil ?_ | refine gq_then ?_ | refine gc_seq ?_ | refine gc_region ?_ | refine gc_block ?_ | refine gc_cond_f rfl ?_ | refine gc_skip ?_)
    refine gc_loop (Y := Nat) (fun m => m ≤ x.rels.length) (fun m => [(2, .pointer (some ⟨b2, 0, none⟩)), (3, .pointer (some ⟨b3, 0, none⟩)), (5, .int .i64 k), (6, .pointer (some ⟨g6, 0, none⟩)), (7, .pointer (some ⟨g7, 0, none⟩)), (8, .int .i64 m)]) (fun m => [[(g6, .cells ⟨x.cells⟩ 66 (0, 0))], [(g7, .cells ⟨y.cells⟩ 66 (0, 0))], [(b3, .cells ⟨q.cells⟩ 25 (0, 0))], [(b2, .cells ⟨p.cells⟩ 25 (0, 0))]])
      (fun m => x.rels.length - m) 0 (Nat.zero_le _) ⟨rfl, rfl, rfl, rfl, rfl, rfl, trivial⟩ (fun w' H => H) ?_
    rintro m hm
    try dsimp only at hm ⊢
    repeat' (first | refine g_pv rfl rfl ?_ | refine g_ld 0 rfl rfl rfl rfl rfl rfl ?_ | refine g_nil ?_ | refine gq_then ?_ | refine gc_seq ?_ | refine gc_region ?_)
    refine gc_condC rfl (fun hc2 => ?_) (fun hc2 => ?_)
    · have hmlt : m < x.rels.length := by have := of_decide_eq_true hc2; omega
      have hy1 : x.rels[m]? = some (x.rels[m]) := List.getElem?_eq_getElem hmlt
      generalize x.rels[m] = a at hy1
      have hy2 : y.rels[m]? = some a := by rw [← xre]; exact hy1
      have hmlt2 : m < y.rels.length := by rw [← xre]; exact hmlt
      repeat' (first | refine gq_then ?_ | refine gc_seq ?_ | refine gc_block ?_ | refine gc_skip ?_)
      refine gc_draw [[(g6, .cells ⟨x.cells⟩ 66 (0, 0))], [(g7, .cells ⟨y.cells⟩ 66 (0, 0))], [(b3, .cells ⟨q.cells⟩ 25 (0, 0))], [(b2, .cells ⟨p.cells⟩ 25 (0, 0))]] [] rfl (List.Perm.of_eq rfl) ?_
      (refine ga_p 0 (by repeat first | exact NoP.sp | apply NoP.then | apply NoP.block) rfl (pv_spec rfl) rfl (by kernel_rfl) (by kernel_rfl) (by kernel_rfl) ?_); (refine ga_p 1 (by repeat first | exact NoP.sp | apply NoP.then | apply NoP.block) rfl (pv_spec rfl) rfl (by kernel_rfl) (by kernel_rfl) (by kernel_rfl) ?_); (refine ga_ld 2 0 (by repeat first | exact NoP.sp | apply NoP.then | apply NoP.block) rfl wanted_none rfl rfl rfl rfl rfl rfl (by kernel_rfl) (by kernel_rfl) (by kernel_rfl) ?_); (refine ga_p 3 (by repeat first | exact NoP.sp | apply NoP.then | apply NoP.block) rfl (pv_spec rfl) rfl (by kernel_rfl) (by kernel_rfl) (by kernel_rfl) ?_)
      refine ga_at 4 5 (l := x.rels) (f := Rel.cells) (u := a) (by repeat first | exact NoP.sp | apply NoP.then | apply NoP.block) rfl wanted_none rfl (fun a _ => wanted_none a) rfl rfl rfl rfl rfl (Int.natCast_nonneg m) (by omega) (still_rdO (hxm.rels.le (old_le0 _ w))) hy1 rfl rfl rfl rfl (by kernel_rfl) (by kernel_rfl) (by kernel_rfl) (by kernel_rfl) (by kernel_rfl) (fun _ => ?_)
      (refine ga_p 6 (by repeat first | exact NoP.sp | apply NoP.then | apply NoP.block) rfl (pv_spec rfl) rfl (by kernel_rfl) (by kernel_rfl) (by kernel_rfl) ?_); (refine ga_p 7 (by repeat first | exact NoP.sp | apply NoP.then | apply NoP.block) rfl (pv_spec rfl) rfl (by kernel_rfl) (by kernel_rfl) (by kernel_rfl) ?_); (refine ga_ld 8 1 (by repeat first | exact NoP.sp | apply NoP.then | apply NoP.block) rfl wanted_none rfl rfl rfl rfl rfl rfl (by kernel_rfl) (by kernel_rfl) (by kernel_rfl) ?_); (refine ga_p 9 (by repeat first | exact NoP.sp | apply NoP.then | apply NoP.block) rfl (pv_spec rfl) rfl (by kernel_rfl) (by kernel_rfl) (by kernel_rfl) ?_)
      refine ga_at 10 11 (l := y.rels) (f := Rel.cells) (u := a) (by repeat first | exact NoP.sp | apply NoP.then | apply NoP.block) rfl wanted_none rfl (fun a _ => wanted_none a) rfl rfl rfl rfl rfl (Int.natCast_nonneg m) (by omega) (still_rdO (hym.rels.le (old_le0 _ w))) hy2 rfl rfl rfl rfl (by kernel_rfl) (by kernel_rfl) (by kernel_rfl) (by kernel_rfl) (by kernel_rfl) (fun _ => ?_)
      refine ga_p 12 (by repeat first | exact NoP.sp | apply NoP.then | apply NoP.block) rfl (p_neA3 rfl rfl rfl rfl rfl rfl (by kernel_rfl)) rfl (by kernel_rfl) (by kernel_rfl) (by kernel_rfl) ?_
      refine ga_eq 110 (u' := .bool false) rfl (by simp) ?_
      refine ga_nil (by kernel_rfl) ?_
      repeat' (first | refine g_pv rfl rfl ?_ | refine g_nil ?_ | refine gq_then ?_ | refine gc_region ?_ | refine gc_cond_f rfl ?_ | refine gc_skip ?_ | refine gq_block ?_)
      exact gq_again (m + 1) hmlt (by omega) ⟨rfl, rfl, rfl, rfl, rfl, inc_eq (by omega), trivial⟩ (fun w' H => H)
    repeat' (first | refine g_pv rfl rfl ?_ | refine g_nil ?_ | refine gq_then ?_ | refine gc_region ?_ | refine gc_exit ?_ | refine gq_then_exit ?_ | refine gq_block ?_ | refine gq_block_exit ?_)
    exact gq_again (k + 1) hlt (by omega) ⟨rfl, rfl, inc_eq (by omega), trivial⟩ (fun w' H => hp_drop 0 (hp_drop 0 H))
  repeat' (first | refine g_pv rfl rfl ?_ | refine g_nil ?_ | refine gq_then ?_ | refine gc_seq ?_ | refine gc_region ?_ | refine gc_block ?_ | refine gc_exit ?_ | refine gq_then_exit ?_ | refine gq_block_exit ?_)
  refine gc_loop (Y := Nat) (fun k => k ≤ p.fns.length) (fun k => [(2, .pointer (some ⟨b2, 0, none⟩)), (3, .pointer (some ⟨b3, 0, none⟩)), (9, .int .i64 k)]) (fun k => [[(b3, .cells ⟨q.cells⟩ 25 (0, 0))], [(b2, .cells ⟨p.cells⟩ 25 (0, 0))]])
    (fun k => p.fns.length - k) 0 (Nat.zero_le _) ⟨rfl, rfl, rfl, trivial⟩ (fun w' H => H) ?_
  rintro k hk
  dsimp only at hk ⊢
  repeat' (first | refine g_pv rfl rfl ?_ | refine g_ld 1 rfl rfl rfl rfl rfl rfl ?_ | refine g_nil ?_ | refine gq_then ?_ | refine gc_seq ?_ | refine gc_region ?_)
  refine gc_condC rfl (fun hc => ?_) (fun hc => ?_)
  · have hlt : k < p.fns.length := by have := of_decide_eq_true hc; omega
    obtain ⟨x, y, hx1, hx2, hxy⟩ := er_at hfn hlt
    have hxm := hp.fn x (List.mem_of_getElem? hx1)
    have hym := hq.fn y (List.mem_of_getElem? hx2)
    repeat' (first | refine gq_then ?_ | refine gc_seq ?_ | refine gc_block ?_ | refine gc_skip ?_)
    refine gc_draw [[(b3, .cells ⟨q.cells⟩ 25 (0, 0))], [(b2, .cells ⟨p.cells⟩ 25 (0, 0))]] [] rfl (List.Perm.of_eq rfl) ?_
    (refine ga_p 0 (by repeat first | exact NoP.sp | apply NoP.then | apply NoP.block) rfl (pv_spec rfl) rfl (by kernel_rfl) (by kernel_rfl) (by kernel_rfl) ?_); (refine ga_ld 1 1 (by repeat first | exact NoP.sp | apply NoP.then | apply NoP.block) rfl wanted_none rfl rfl rfl rfl rfl rfl (by kernel_rfl) (by kernel_rfl) (by kernel_rfl) ?_); (refine ga_p 2 (by repeat first | exact NoP.sp | apply NoP.then | apply NoP.block) rfl (pv_spec rfl) rfl (by kernel_rfl) (by kernel_rfl) (by kernel_rfl) ?_)
    refine ga_at 3 4 (l := p.fns) (f := Fn.cells) (u := x) (by repeat first | exact NoP.sp | apply NoP.then | apply NoP.block) rfl wanted_none rfl (fun a _ => wanted_none a) rfl rfl rfl rfl rfl (Int.natCast_nonneg k) (by omega) (still_rdO (hp.fns.le (old_le0 _ w))) hx1 rfl rfl rfl rfl (by kernel_rfl) (by kernel_rfl) (by kernel_rfl) (by kernel_rfl) (by kernel_rfl) (fun _ => ?_)
    (refine ga_p 5 (by repeat first | exact NoP.sp | apply NoP.then | apply NoP.block) rfl (pv_spec rfl) rfl (by kernel_rfl) (by kernel_rfl) (by kernel_rfl) ?_); (refine ga_ld 6 0 (by repeat first | exact NoP.sp | apply NoP.then | apply NoP.block) rfl wanted_none rfl rfl rfl rfl rfl rfl (by kernel_rfl) (by kernel_rfl) (by kernel_rfl) ?_); (refine ga_p 7 (by repeat first | exact NoP.sp | apply NoP.then | apply NoP.block) rfl (pv_spec rfl) rfl (by kernel_rfl) (by kernel_rfl) (by kernel_rfl) ?_)
    refine ga_at 8 9 (l := q.fns) (f := Fn.cells) (u := y) (by repeat first | exact NoP.sp | apply NoP.then | apply NoP.block) rfl wanted_none rfl (fun a _ => wanted_none a) rfl rfl rfl rfl rfl (Int.natCast_nonneg k) (by omega) (still_rdO (hq.fns.le (old_le0 _ w))) hx2 rfl rfl rfl rfl (by kernel_rfl) (by kernel_rfl) (by kernel_rfl) (by kernel_rfl) (by kernel_rfl) (fun _ => ?_)
    refine ga_one (i := 10) (by kernel_rfl) (gs_of rfl (fun K hK => ?_))
    refine g_call rfl (Cl.of Tryz.func34 rfl rfl) rfl rfl (fun w' hE => rfunc_sp x y w' hxy (hxm.le (fun b o h => old_le hE b o (old_le0 _ w b o h))) (hym.le (fun b o h => old_le hE b o (old_le0 _ w b o h)))) rfl ?_
    rintro b rfl
    refine g_nil ?_
    refine hK _ _ ⟨[], List.Perm.of_eq rfl⟩ ?_
    (refine ga_p 11 (by repeat first | exact NoP.sp | apply NoP.then | apply NoP.block) rfl (pv_spec rfl) rfl (by kernel_rfl) (by kernel_rfl) (by kernel_rfl) ?_)
    refine ga_nil (by kernel_rfl) ?_
    repeat' (first | refine g_pv rfl rfl ?_ | refine g_nil ?_ | refine gq_then ?_ | refine gc_region ?_ | refine gc_cond_f rfl ?_ | refine gc_skip ?_ | refine gq_block ?_)
    exact gq_again (k + 1) hlt (by omega) ⟨rfl, rfl, inc_eq (by omega), trivial⟩ (fun w' H => H)
  repeat' (first | refine g_pv rfl rfl ?_ | refine g_nil ?_ | refine gq_then ?_ | refine gc_seq ?_ | refine gc_region ?_ | refine gc_exit ?_ | refine gc_ret ?_ | refine gq_then_exit ?_ | refine gq_block_exit ?_)
  exact gq_ret1 (.inr rfl) rfl rfl rfl (fun w' H => ⟨true, rfl, rfl, hp_nil H⟩)
end Go.Proofs.YtpohhfggmaihpaaGreatDoor
