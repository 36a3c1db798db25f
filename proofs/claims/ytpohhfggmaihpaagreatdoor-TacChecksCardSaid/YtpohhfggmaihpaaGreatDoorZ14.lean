/-
  tac: Check.
  The document's power, temp, arg, none, same, digit, letter.
  The document's Word and Tag.
  The document's Tag.
  A result that lies in a cell.
-/
import Derived.Test.YtpohhfggmaihpaaGreatDoorZ13

/- tac: Check. -/
namespace Go.Proofs.YtpohhfggmaihpaaGreatDoor
open Go.Wk
set_option linter.unusedVariables false
set_option linter.unusedSimpArgs false
attribute [local irreducible] G GC GQ GA GS Exit.then Exit.inBlock

def fn0 : Fn := ⟨⟨#[]⟩, 0, 0, false, [], none, 0, [], none, 0⟩
theorem fn0_in (h : Nat → Option Obj) : FnIn h fn0 := ⟨⟨(fun i x hx => by simp [fn0] at hx), by decide, (fun x hx => by cases hx)⟩, (fun i x hx => by simp [fn0] at hx), by decide, (by unfold in64 fn0; decide), (by unfold in64 fn0; decide), (fun s hs => by cases hs)⟩
def memT (x : ByteArray) (l : List ByteArray) : Bool := l.any fun y => decide (y = x)
theorem memT_iff {x : ByteArray} {l : List ByteArray} : memT x l = true ↔ x ∈ l := by simp [memT, List.any_eq_true]
theorem memT_no {x : ByteArray} {l : List ByteArray} (h : x ∉ l) : memT x l = false := by
  cases hq : memT x l with
  | false => rfl
  | true => exact absurd (memT_iff.1 hq) h
/-- Each function's name is new, and it may be. -/
def fnsB (p : Pr) : List ByteArray → List Fn → Bool
  | _, [] => true
  | seen, f :: t => !memT f.nm seen && (funcB ⟨p, f⟩ && fnsB p (seen ++ [f.nm]) t)
def mainB (p : Pr) : Bool := match p.fns[p.main.toNat]? with
  | some g => g.pa == 0
  | none => false
def checkB (p : Pr) : Bool := !decide ((p.obs.length : Int) > 256) && (!decide ((p.fns.length : Int) < 1) && (!decide ((p.fns.length : Int) > 64) && (inB p.main p.fns.length && (mainB p && (p.obs.all (objB ⟨p, fn0⟩) && fnsB p [] p.fns)))))
def errB (b : Bool) : Int := if b then 0 else 130
theorem fnsB_cons {p : Pr} {seen : List ByteArray} {f : Fn} {t : List Fn} : fnsB p seen (f :: t) = (!memT f.nm seen && (funcB ⟨p, f⟩ && fnsB p (seen ++ [f.nm]) t)) := rfl
/-- The map of the names that were seen. -/
structure SeenIs (kv : List (ByteArray × Value)) (l : List ByteArray) : Prop where
  one : ∀ k v, ml kv k = some v → v = .int .i64 1
  keys : ∀ k, k ∈ kv.map (·.1) ↔ k ∈ l
set_option maxHeartbeats 16000000 in
theorem check_sp (p : Pr) (w : World) (hp : PrIn (hw w) p) : Sp Tryz.prog 8 [p.val] w [] (fun e : Int => .int .i64 e) (fun _ => []) (fun e => e = errB (checkB p)) := by
  have holen := hp.olen
  have hflen := hp.flen
  have hj0 : JgIn (hw w) ⟨p, fn0⟩ := ⟨hp, fn0_in _⟩
  refine enter (s := Tryz.sx) [] Tryz.func8 rfl rfl rfl (Eff.refl w) ?_
  refine gc_seq ?_
  repeat' (first | refine g_pv rfl rfl ?_ | refine g_nil ?_ | refine gq_then ?_ | refine gc_region ?_ | refine g_box rfl rfl (fun _ => ?_))
  rename_i b1
  refine gc_seq ?_
  repeat' (first | refine g_ld 0 rfl rfl rfl rfl rfl rfl ?_ | refine gc_region ?_)
  refine g_p (p_build rfl rfl rfl rfl) rfl ?_
  repeat' (first | refine g_nil ?_ | refine gq_then ?_ | refine g_alloc rfl rfl (fun _ => ?_) | refine g_st 0 rfl rfl rfl rfl rfl rfl rfl ?_)
  rename_i b3
  refine gc_heap (R' := [[(b3, .cells ⟨(⟨p, fn0⟩ : Jg).cells⟩ 59 (0, 0))], [(b1, .cells ⟨p.cells⟩ 25 (0, 0))]]) (fun w H => H) ?_
  repeat' (first | refine g_pv rfl rfl ?_ | refine g_ld 1 rfl rfl rfl rfl rfl rfl ?_ | refine gc_seq ?_ | refine gc_region ?_)
  refine g_case (t := 15) rfl (fun h0 => ?_) (fun h0 => ?_)
  · have h0 : decide ((p.obs.length : Int) > 256) = true := h0
    repeat' (first | refine g_pv rfl rfl ?_ | refine g_nil ?_ | refine gq_then ?_ | refine gc_seq ?_ | refine gc_region ?_ | refine gc_cond_t rfl ?_ | refine gc_ret ?_ | refine gq_then_ret ?_ | refine g_no rfl rfl rfl rfl rfl ?_)
    refine gq_ret1 (.inr rfl) rfl rfl rfl (fun w' H => ⟨130, ?_, rfl, hp_nil H⟩)
    unfold checkB; rw [h0]; rfl
  have h0 : decide ((p.obs.length : Int) > 256) = false := h0
  repeat' (first | refine g_pv rfl rfl ?_ | refine g_ld 1 rfl rfl rfl rfl rfl rfl ?_ | refine g_yes rfl rfl rfl ?_)
  refine g_case (t := 21) rfl (fun h1 => ?_) (fun h1 => ?_)
  · have h1 : decide ((p.fns.length : Int) < 1) = true := h1
    repeat' (first | refine g_pv rfl rfl ?_ | refine g_nil ?_ | refine gq_then ?_ | refine gc_seq ?_ | refine gc_region ?_ | refine gc_cond_t rfl ?_ | refine gc_ret ?_ | refine gq_then_ret ?_ | refine g_no rfl rfl rfl rfl rfl ?_)
    refine gq_ret1 (.inr rfl) rfl rfl rfl (fun w' H => ⟨130, ?_, rfl, hp_nil H⟩)
    unfold checkB; rw [h0, h1]; rfl
  have h1 : decide ((p.fns.length : Int) < 1) = false := h1
  repeat' (first | refine g_pv rfl rfl ?_ | refine g_ld 1 rfl rfl rfl rfl rfl rfl ?_ | refine g_yes rfl rfl rfl ?_)
  refine g_case (t := 27) rfl (fun h2 => ?_) (fun h2 => ?_)
  · have h2 : decide ((p.fns.length : Int) > 64) = true := h2
    repeat' (first | refine g_pv rfl rfl ?_ | refine g_nil ?_ | refine gq_then ?_ | refine gc_seq ?_ | refine gc_region ?_ | refine gc_cond_t rfl ?_ | refine gc_ret ?_ | refine gq_then_ret ?_ | refine g_no rfl rfl rfl rfl rfl ?_)
    refine gq_ret1 (.inr rfl) rfl rfl rfl (fun w' H => ⟨130, ?_, rfl, hp_nil H⟩)
    unfold checkB; rw [h0, h1, h2]; rfl
  have h2 : decide ((p.fns.length : Int) > 64) = false := h2
  repeat' (first | refine g_pv rfl rfl ?_ | refine g_ld 1 rfl rfl rfl rfl rfl rfl ?_ | refine g_yes rfl rfl rfl ?_)
  refine g_call rfl (Cl.of Tryz.func23 rfl rfl) rfl rfl (fun w' hE => within_sp p.main p.fns.length w') rfl (fun _ _ => ?_)
  repeat' (first | refine g_pv rfl rfl ?_ | refine g_yes rfl rfl rfl ?_)
  refine g_case (t := 36) rfl (fun h3 => ?_) (fun h3 => ?_)
  · have h3 : inB p.main p.fns.length = false := (Bool.not_eq_true' _).mp h3
    repeat' (first | refine g_pv rfl rfl ?_ | refine g_nil ?_ | refine gq_then ?_ | refine gc_seq ?_ | refine gc_region ?_ | refine gc_cond_t rfl ?_ | refine gc_ret ?_ | refine gq_then_ret ?_ | refine g_no rfl rfl rfl rfl rfl ?_)
    refine gq_ret1 (.inr rfl) rfl rfl rfl (fun w' H => ⟨130, ?_, rfl, hp_nil H⟩)
    unfold checkB; rw [h0, h1, h2, h3]; rfl
  have h3 : inB p.main p.fns.length = true := (Bool.not_eq_false' _).mp h3
  have hb3 := inB_iff.1 h3
  have hlx : p.fns[p.main.toNat]? = some (p.fns[p.main.toNat]'(by omega)) := List.getElem?_eq_getElem (by omega)
  generalize p.fns[p.main.toNat]'(by omega) = g at hlx
  obtain ⟨bb, oo, hA, hcq⟩ := hp.fns p.main.toNat _ hlx
  have hm : mainB p = (g.pa == 0) := by unfold mainB; rw [hlx]
  repeat' (first | refine g_pv rfl rfl ?_ | refine g_ld 1 rfl rfl rfl rfl rfl rfl ?_ | refine g_yes rfl rfl rfl ?_)
  refine g_p (p_ix (bx := bb) (o := oo) (by show some (Value.slice p.fA _ _) = _; rw [hA]) rfl rfl rfl hb3.1 hb3.2) rfl ?_
  repeat' (first | refine g_pv rfl rfl ?_ | refine g_yes rfl rfl rfl ?_)
  refine g_ldO rfl rfl (cs := [.int .i64 g.pa]) rfl rfl (fun i u hu => ?_) rfl ?_
  · have hi0 : i = 0 := by have := (List.getElem?_eq_some_iff.1 hu).1; simp at this; omega
    subst hi0
    simp only [List.getElem?_cons_zero, Option.some.injEq] at hu; subst hu
    exact (old_le0 _ w).cell (hcq 1 _ rfl)
  repeat' (first | refine g_pv rfl rfl ?_ | refine g_nil ?_ | refine gq_then ?_ | refine g_yes rfl rfl rfl ?_)
  refine gc_condC rfl (fun h4 => ?_) (fun h4 => ?_)
  · have h4' : (g.pa == 0) = false := by simpa using h4
    repeat' (first | refine g_pv rfl rfl ?_ | refine g_nil ?_ | refine gq_then ?_ | refine gc_seq ?_ | refine gc_region ?_ | refine gc_ret ?_ | refine gq_then_ret ?_)
    refine gq_ret1 (.inr rfl) rfl rfl rfl (fun w' H => ⟨130, ?_, rfl, hp_nil H⟩)
    unfold checkB; rw [h0, h1, h2, h3, hm, h4']; rfl
  have h4' : (g.pa == 0) = true := by simpa using h4
  have hC : checkB p = (p.obs.all (objB ⟨p, fn0⟩) && fnsB p [] p.fns) := by unfold checkB; rw [h0, h1, h2, h3, hm, h4']; rfl
  have hl1 := of_decide_eq_false h0
  have hl2 := of_decide_eq_false h2
  repeat' (first | refine g_pv rfl rfl ?_ | refine g_ld 1 rfl rfl rfl rfl rfl rfl ?_ | refine g_nil ?_ | refine gq_then ?_ | refine gc_seq ?_ | refine gc_region ?_ | refine gc_block ?_ | refine gc_skip ?_)
  refine gc_loop (Y := Nat) (fun y => y ≤ p.obs.length ∧ (p.obs.take y).all (objB ⟨p, fn0⟩) = true)
    (fun y => [(1, .pointer (some ⟨b1, 0, none⟩)), (3, .pointer (some ⟨b3, 0, none⟩)), (47, .slice p.oA p.obs.length p.oC), (48, .int .i64 p.obs.length), (49, .int .i64 y)])
    (fun y => [[(b3, .cells ⟨(⟨p, fn0⟩ : Jg).cells⟩ 59 (0, 0))], [(b1, .cells ⟨p.cells⟩ 25 (0, 0))]])
    (fun y => p.obs.length - y) 0 ⟨Nat.zero_le _, rfl⟩ ⟨rfl, rfl, rfl, rfl, rfl, trivial⟩ (fun w' H => H) ?_
  rintro k ⟨hk, hall⟩
  dsimp only at hk hall ⊢
  repeat' (first | refine g_pv rfl rfl ?_ | refine g_nil ?_ | refine gq_then ?_ | refine gc_seq ?_ | refine gc_region ?_)
  refine gc_condC rfl (fun hc => ?_) (fun hc => ?_)
  · have hlt : k < p.obs.length := by have := of_decide_eq_true hc; omega
    have hx : p.obs[k]? = some (p.obs[k]) := List.getElem?_eq_getElem hlt
    have htk : p.obs.take (k + 1) = p.obs.take k ++ [p.obs[k]] := List.take_succ_eq_append_getElem hlt
    have hmx : p.obs[k] ∈ p.obs := List.getElem_mem hlt
    generalize p.obs[k] = o at hx htk hmx
    repeat' (first | refine gq_then ?_ | refine gc_seq ?_ | refine gc_region ?_ | refine gc_block ?_ | refine gc_skip ?_)
    refine g_at (l := p.obs) (f := Ob.cells) (u := o) rfl rfl rfl rfl rfl (Int.natCast_nonneg k) (by omega) (hp.obs.le (old_le0 _ w)) hx rfl rfl rfl rfl (fun a => ?_)
    repeat' (first | refine g_nil ?_ | refine gq_then ?_ | refine g_alloc rfl rfl (fun _ => ?_) | refine g_st 0 rfl rfl rfl rfl rfl rfl rfl ?_)
    rename_i b5
    refine gc_heap (R' := [[(b5, .cells ⟨o.cells⟩ 66 (0, 0))], [(b3, .cells ⟨(⟨p, fn0⟩ : Jg).cells⟩ 59 (0, 0))], [(b1, .cells ⟨p.cells⟩ 25 (0, 0))]]) (fun w H => H) ?_
    repeat' (first | refine g_ld 0 rfl rfl rfl rfl rfl rfl ?_ | refine g_ld 1 rfl rfl rfl rfl rfl rfl ?_ | refine gc_seq ?_ | refine gc_region ?_)
    refine g_call rfl (Cl.of Tryz.func24 rfl rfl) rfl rfl (fun w' hE => object_sp ⟨p, fn0⟩ o w' (hj0.le (fun b o h => old_le hE b o (old_le0 _ w b o h))) ((hp.ob o hmx).le (fun b o h => old_le hE b o (old_le0 _ w b o h)))) rfl ?_
    rintro t ht
    repeat' (first | refine g_pv rfl rfl ?_ | refine g_nil ?_ | refine gq_then ?_)
    cases t
    · repeat' (first | refine g_pv rfl rfl ?_ | refine g_nil ?_ | refine gq_then ?_ | refine gc_seq ?_ | refine gc_region ?_ | refine gc_cond_t rfl ?_ | refine gc_ret ?_ | refine gq_then_ret ?_ | refine gq_block_ret ?_)
      refine gq_ret1 (.inr rfl) rfl rfl rfl (fun w' H => ⟨130, ?_, rfl, hp_nil H⟩)
      have : p.obs.all (objB ⟨p, fn0⟩) = false := by
        cases hq : p.obs.all (objB ⟨p, fn0⟩) with
        | false => rfl
        | true => rw [List.all_eq_true.1 hq o hmx] at ht; cases ht
      rw [hC, this]; rfl
    · repeat' (first | refine g_pv rfl rfl ?_ | refine g_nil ?_ | refine gq_then ?_ | refine gc_region ?_ | refine gc_cond_f rfl ?_ | refine gc_skip ?_ | refine gq_block ?_)
      refine gq_again (k + 1) ⟨hlt, ?_⟩ (by omega) ⟨rfl, rfl, rfl, rfl, inc_eq (by omega), trivial⟩ (fun w' H => hp_drop 0 H)
      rw [htk, List.all_append, hall]; simp [← ht]
  have hge : k = p.obs.length := by have := of_decide_eq_false hc; omega
  rw [hge, List.take_length] at hall
  have hC2 : checkB p = fnsB p [] p.fns := by rw [hC, hall]; rfl
  repeat' (first | refine gq_then ?_ | refine gc_seq ?_ | refine gc_region ?_ | refine gc_exit ?_ | refine gq_then_exit ?_ | refine gq_block_exit ?_)
  refine g_mkmap rfl (fun br => ?_)
  repeat' (first | refine g_pv rfl rfl ?_ | refine g_ld 2 rfl rfl rfl rfl rfl rfl ?_ | refine g_nil ?_ | refine gq_then ?_ | refine gc_seq ?_ | refine gc_region ?_ | refine gc_block ?_)
  refine gc_loop (Y := Nat × Fn × Array MapEntry × Nat × List (ByteArray × Value)) (fun y => y.1 ≤ p.fns.length ∧ MapIs Value.string y.2.2.2.2 y.2.2.1 y.2.2.2.1 ∧ SeenIs y.2.2.2.2 ((p.fns.take y.1).map Fn.nm) ∧ fnsB p [] p.fns = fnsB p ((p.fns.take y.1).map Fn.nm) (p.fns.drop y.1))
    (fun y => [(1, .pointer (some ⟨b1, 0, none⟩)), (3, .pointer (some ⟨b3, 0, none⟩)), (6, .map (some br)), (60, .slice p.fA p.fns.length p.fC), (61, .int .i64 p.fns.length), (62, .int .i64 y.1)])
    (fun y => [[(br, .map y.2.2.1 y.2.2.2.1)], [(b3, .cells ⟨(⟨p, y.2.1⟩ : Jg).cells⟩ 59 (0, 0))], [(b1, .cells ⟨p.cells⟩ 25 (0, 0))]])
    (fun y => p.fns.length - y.1) (0, fn0, #[], 0, []) ⟨Nat.zero_le _, mapIs_nil _ _, ⟨(fun k v h => by simp [ml] at h), (fun k => by simp)⟩, rfl⟩ ⟨rfl, rfl, rfl, rfl, rfl, rfl, trivial⟩ (fun w' H => H) ?_
  rintro ⟨k, gg, es, clock, kv⟩ ⟨hk, hM, hS, hR⟩
  dsimp only at hk hM hS hR ⊢
  repeat' (first | refine g_pv rfl rfl ?_ | refine g_nil ?_ | refine gq_then ?_ | refine gc_seq ?_ | refine gc_region ?_)
  refine gc_condC rfl (fun hc => ?_) (fun hc => ?_)
  rotate_left
  · have hge : k = p.fns.length := by have := of_decide_eq_false hc; omega
    repeat' (first | refine g_pv rfl rfl ?_ | refine g_nil ?_ | refine gq_then ?_ | refine gc_seq ?_ | refine gc_region ?_ | refine gc_exit ?_ | refine gc_ret ?_ | refine gq_then_exit ?_ | refine gq_block_exit ?_)
    refine gq_ret1 (.inr rfl) rfl rfl rfl (fun w' H => ⟨0, ?_, rfl, hp_nil H⟩)
    rw [hC2, hR, hge, List.drop_length]; rfl
  have hlt : k < p.fns.length := by have := of_decide_eq_true hc; omega
  have hx : p.fns[k]? = some (p.fns[k]) := List.getElem?_eq_getElem hlt
  have htk : p.fns.take (k + 1) = p.fns.take k ++ [p.fns[k]] := List.take_succ_eq_append_getElem hlt
  have hd : p.fns.drop k = p.fns[k] :: p.fns.drop (k + 1) := List.drop_eq_getElem_cons hlt
  have hmx : p.fns[k] ∈ p.fns := List.getElem_mem hlt
  generalize p.fns[k] = f at hx htk hd hmx
  have hjf : JgIn (hw w) ⟨p, f⟩ := ⟨hp, hp.fn f hmx⟩
  rw [hd, fnsB_cons] at hR
  repeat' (first | refine gq_then ?_ | refine gc_seq ?_ | refine gc_region ?_ | refine gc_block ?_ | refine gc_skip ?_)
  refine g_at (l := p.fns) (f := Fn.cells) (u := f) rfl rfl rfl rfl rfl (Int.natCast_nonneg k) (by omega) (hp.fns.le (old_le0 _ w)) hx rfl rfl rfl rfl (fun a => ?_)
  repeat' (first | refine g_nil ?_ | refine gq_then ?_ | refine g_alloc rfl rfl (fun _ => ?_) | refine g_st 0 rfl rfl rfl rfl rfl rfl rfl ?_)
  rename_i b8
  refine gc_heap (R' := [[(b8, .cells ⟨f.cells⟩ 32 (0, 0))], [(br, .map es clock)], [(b3, .cells ⟨(⟨p, gg⟩ : Jg).cells⟩ 59 (0, 0))], [(b1, .cells ⟨p.cells⟩ 25 (0, 0))]]) (fun w H => H) ?_
  refine gc_seq ?_
  repeat' (first | refine g_pv rfl rfl ?_ | refine g_ld 0 rfl rfl rfl rfl rfl rfl ?_ | refine g_nil ?_ | refine gq_then ?_ | refine gc_region ?_ | refine g_st 2 rfl rfl rfl rfl rfl rfl rfl ?_)
  refine gc_heap (R' := [[(b8, .cells ⟨f.cells⟩ 32 (0, 0))], [(br, .map es clock)], [(b3, .cells ⟨(⟨p, f⟩ : Jg).cells⟩ 59 (0, 0))], [(b1, .cells ⟨p.cells⟩ 25 (0, 0))]]) (fun w H => H) ?_
  repeat' (first | refine g_pv rfl rfl ?_ | refine g_ld 0 rfl rfl rfl rfl rfl rfl ?_ | refine gc_seq ?_ | refine gc_region ?_)
  refine g_look 1 (kf := Value.string) (k := f.nm) rfl rfl rfl rfl rfl (kl_string (Tryz.sx.ok.at rfl)) hM rfl ?_
  by_cases hmem : f.nm ∈ (p.fns.take k).map Fn.nm
  · have hex : ∃ v, ml kv f.nm = some v := by
      cases hq : ml kv f.nm with
      | some v => exact ⟨v, rfl⟩
      | none => exact absurd ((hS.keys _).2 hmem) (ml_none.1 hq)
    obtain ⟨v, hv⟩ := hex
    have hv1 := hS.one _ _ hv
    subst hv1
    refine g_eq 71 (u' := .int .i64 1) rfl (by rw [hv]; rfl) ?_
    repeat' (refine g_pv rfl rfl ?_)
    refine g_upd 1 (kf := Value.string) (k := f.nm) rfl rfl rfl rfl rfl (kl_string (Tryz.sx.ok.at rfl)) hM (fun es' clock' M' => ?_)
    repeat' (first | refine g_pv rfl rfl ?_ | refine g_ld 0 rfl rfl rfl rfl rfl rfl ?_ | refine g_nil ?_ | refine gq_then ?_ | refine gc_seq ?_ | refine gc_region ?_)
    refine g_look 1 (kf := Value.string) (k := f.nm) rfl rfl rfl rfl rfl (kl_string (Tryz.sx.ok.at rfl)) M' rfl ?_
    refine g_eq 76 (u' := .int .i64 2) rfl (by rw [ml_mput, if_pos rfl]; rfl) ?_
    repeat' (first | refine g_pv rfl rfl ?_ | refine g_nil ?_ | refine gq_then ?_ | refine gc_seq ?_ | refine gc_region ?_ | refine gc_cond_t rfl ?_ | refine gc_ret ?_ | refine gq_then_ret ?_ | refine gq_block_ret ?_ | refine g_no rfl rfl rfl rfl rfl ?_)
    refine gq_ret1 (.inr rfl) rfl rfl rfl (fun w' H => ⟨130, ?_, rfl, hp_nil H⟩)
    rw [hC2, hR, memT_iff.2 hmem]; rfl
  · have hv : ml kv f.nm = none := ml_none.2 (fun h => hmem ((hS.keys _).1 h))
    refine g_eq 71 (u' := .int .i64 0) rfl (by rw [hv]; rfl) ?_
    repeat' (refine g_pv rfl rfl ?_)
    refine g_upd 1 (kf := Value.string) (k := f.nm) rfl rfl rfl rfl rfl (kl_string (Tryz.sx.ok.at rfl)) hM (fun es' clock' M' => ?_)
    repeat' (first | refine g_pv rfl rfl ?_ | refine g_ld 0 rfl rfl rfl rfl rfl rfl ?_ | refine g_nil ?_ | refine gq_then ?_ | refine gc_seq ?_ | refine gc_region ?_)
    refine g_look 1 (kf := Value.string) (k := f.nm) rfl rfl rfl rfl rfl (kl_string (Tryz.sx.ok.at rfl)) M' rfl ?_
    refine g_eq 76 (u' := .int .i64 1) rfl (by rw [ml_mput, if_pos rfl]; rfl) ?_
    repeat' (first | refine g_pv rfl rfl ?_ | refine g_ld 2 rfl rfl rfl rfl rfl rfl ?_ | refine g_yes rfl rfl rfl ?_)
    refine g_call rfl (Cl.of Tryz.func25 rfl rfl) rfl rfl (fun w' hE => function_sp ⟨p, f⟩ w' (hjf.le (fun b o h => old_le hE b o (old_le0 _ w b o h)))) rfl ?_
    rintro t ht
    repeat' (first | refine g_pv rfl rfl ?_ | refine g_nil ?_ | refine gq_then ?_ | refine g_yes rfl rfl rfl ?_)
    cases t
    · repeat' (first | refine g_pv rfl rfl ?_ | refine g_nil ?_ | refine gq_then ?_ | refine gc_seq ?_ | refine gc_region ?_ | refine gc_cond_t rfl ?_ | refine gc_ret ?_ | refine gq_then_ret ?_ | refine gq_block_ret ?_)
      refine gq_ret1 (.inr rfl) rfl rfl rfl (fun w' H => ⟨130, ?_, rfl, hp_nil H⟩)
      rw [hC2, hR, ← ht]; simp [errB]
    · repeat' (first | refine g_pv rfl rfl ?_ | refine g_nil ?_ | refine gq_then ?_ | refine gc_region ?_ | refine gc_cond_f rfl ?_ | refine gc_skip ?_ | refine gq_block ?_)
      refine gq_again (k + 1, f, es', clock', _) ⟨hlt, M', ?_, ?_⟩ (by dsimp only; omega) ⟨rfl, rfl, rfl, rfl, rfl, inc_eq (by omega), trivial⟩ (fun w' H => hp_drop 0 H)
      · dsimp only
        refine ⟨fun q v h => ?_, fun q => ?_⟩
        · rw [ml_mput] at h
          split at h
          · cases h; rfl
          · exact hS.one q v h
        · rw [mem_keys_mput, htk, List.map_append, List.mem_append, hS.keys q]
          simp [or_comm]
      · dsimp only
        rw [hR, ← ht, memT_no hmem, htk, List.map_append]; rfl
end Go.Proofs.YtpohhfggmaihpaaGreatDoor

/- The document's power, temp, arg, none, same, digit, letter. -/
namespace Go.Proofs.YtpohhfggmaihpaaGreatDoor
open Go.Wk
set_option linter.unusedVariables false
set_option linter.unusedSimpArgs false
attribute [local irreducible] G GC GQ GA GS Exit.then Exit.inBlock

theorem rpower_sp (n : Int) (w : World) : Sp Tryz.prog 53 [.int .i64 n] w [] (fun b : Bool => .bool b) (fun _ => []) (fun b => b = decide (n = 1 ∨ n = 2 ∨ n = 4)) := by
  refine enter (s := Tryz.sx) [] Tryz.func53 rfl rfl rfl (Eff.refl w) ?_
  repeat' (first | refine g_pv rfl rfl ?_ | refine g_nil ?_ | refine gq_then ?_ | refine gc_seq ?_ | refine gc_region ?_)
  refine g_case (t := 5) rfl (fun h => ?_) (fun h => ?_)
  · repeat' (first | refine g_pv rfl rfl ?_ | refine g_nil ?_ | refine gq_then ?_ | refine gc_ret ?_ | refine g_no rfl rfl rfl rfl rfl ?_)
    refine gq_ret1 (.inr rfl) rfl rfl rfl (fun w' H => ⟨true, ?_, rfl, H⟩)
    simp [beq_iff_eq.1 h]
  · repeat' (first | refine g_pv rfl rfl ?_ | refine g_yes rfl rfl rfl ?_)
    refine g_case (t := 9) rfl (fun h2 => ?_) (fun h2 => ?_)
    · repeat' (first | refine g_pv rfl rfl ?_ | refine g_nil ?_ | refine gq_then ?_ | refine gc_ret ?_ | refine g_no rfl rfl rfl rfl rfl ?_)
      refine gq_ret1 (.inr rfl) rfl rfl rfl (fun w' H => ⟨true, ?_, rfl, H⟩)
      simp [beq_iff_eq.1 h2]
    · repeat' (first | refine g_pv rfl rfl ?_ | refine g_nil ?_ | refine gq_then ?_ | refine gc_ret ?_ | refine g_yes rfl rfl rfl ?_)
      refine gq_ret1 (.inr rfl) rfl rfl rfl (fun w' H => ⟨n == 4, ?_, rfl, H⟩)
      have h1 : n ≠ 1 := beq_eq_false_iff_ne.1 h
      have h3 : n ≠ 2 := beq_eq_false_iff_ne.1 h2
      simp [h1, h3, Bool.beq_eq_decide_eq]
theorem rtemp_sp (f : Fn) (d : Int) (w : World) : Sp Tryz.prog 97 [f.val, .int .i64 d] w [] (fun b : Bool => .bool b) (fun _ => []) (fun b => b = inB d f.te) := by
  refine enter (s := Tryz.sx) [] Tryz.func97 rfl rfl rfl (Eff.refl w) ?_
  repeat' (first | refine g_pv rfl rfl ?_ | refine g_nil ?_ | refine gq_then ?_ | refine gc_seq ?_ | refine gc_region ?_ | refine g_box rfl rfl (fun _ => ?_))
  refine g_case (t := 7) rfl (fun h => ?_) (fun h => ?_)
  · have h : decide (0 ≤ d) = true := h
    repeat' (first | refine g_pv rfl rfl ?_ | refine g_ld 0 rfl rfl rfl rfl rfl rfl ?_ | refine g_nil ?_ | refine gq_then ?_ | refine gc_ret ?_ | refine g_yes rfl rfl rfl ?_)
    refine gq_ret1 (.inr rfl) rfl rfl rfl (fun w' H => ⟨_, ?_, rfl, hp_nil H⟩)
    unfold inB; rw [h]; rfl
  · have h : decide (0 ≤ d) = false := h
    repeat' (first | refine g_pv rfl rfl ?_ | refine g_nil ?_ | refine gq_then ?_ | refine gc_ret ?_ | refine g_no rfl rfl rfl rfl rfl ?_)
    refine gq_ret1 (.inr rfl) rfl rfl rfl (fun w' H => ⟨_, ?_, rfl, hp_nil H⟩)
    unfold inB; rw [h]; rfl
theorem rarg_sp (f : Fn) (a : Arg) (w : World) (ha : a.ok) (hj : in64 f.te) : Sp Tryz.prog 98 [f.val, .agg a.cells.toArray] w [] (fun b : Bool => .bool b) (fun _ => []) (fun b => b = argB f.te a) := by
  refine enter (s := Tryz.sx) [] Tryz.func98 rfl rfl rfl (Eff.refl w) ?_
  repeat' (first | refine g_pv rfl rfl ?_ | refine g_ld 0 rfl rfl rfl rfl rfl rfl ?_ | refine g_nil ?_ | refine gq_then ?_ | refine gc_seq ?_ | refine gc_region ?_ | refine g_box rfl rfl (fun _ => ?_))
  refine g_case (t := 8) rfl (fun h => ?_) (fun h => ?_)
  · repeat' (first | refine g_pv rfl rfl ?_ | refine g_nil ?_ | refine gq_then ?_ | refine gc_ret ?_ | refine g_no rfl rfl rfl rfl rfl ?_)
    refine gq_ret1 (.inr rfl) rfl rfl rfl (fun w' H => ⟨true, ?_, rfl, hp_nil H⟩)
    unfold argB; rw [h]; rfl
  · repeat' (first | refine g_pv rfl rfl ?_ | refine g_ld 0 rfl rfl rfl rfl rfl rfl ?_ | refine g_yes rfl rfl rfl ?_)
    refine g_case (t := 12) rfl (fun h2 => ?_) (fun h2 => ?_)
    · repeat' (first | refine g_pv rfl rfl ?_ | refine g_ld 0 rfl rfl rfl rfl rfl rfl ?_ | refine g_ld 1 rfl rfl rfl rfl rfl rfl ?_ | refine g_nil ?_ | refine gq_then ?_ | refine gc_ret ?_ | refine g_yes rfl rfl rfl ?_)
      refine gq_ret1 (.inr rfl) rfl rfl rfl (fun w' H => ⟨_, ?_, rfl, hp_nil H⟩)
      have e1 : IntKind.u64.wrap a.n = a.n := by
        have := ha.1; have := ha.2
        simp only [IntKind.wrap, IntKind.signed, IntKind.bits]; simp; omega
      have e2 : IntKind.u64.wrap (if f.te > 0 then f.te else 0) = if f.te > 0 then f.te else 0 := by
        have := hj.1; have := hj.2
        split
        · simp only [IntKind.wrap, IntKind.signed, IntKind.bits]; simp; omega
        · rfl
      unfold argB
      rw [e1, e2, h, h2]
      simp only [Bool.false_or, Bool.true_and]
      have := ha.1
      by_cases hn : a.n < f.te
      · rw [decide_eq_true hn, decide_eq_true (by split <;> omega)]
      · rw [decide_eq_false hn, decide_eq_false (by split <;> omega)]
    · repeat' (first | refine g_pv rfl rfl ?_ | refine g_nil ?_ | refine gq_then ?_ | refine gc_ret ?_ | refine g_yes rfl rfl rfl ?_ | refine g_no rfl rfl rfl rfl rfl ?_)
      refine gq_ret1 (.inr rfl) rfl rfl rfl (fun w' H => ⟨false, ?_, rfl, hp_nil H⟩)
      unfold argB; rw [h, h2]; rfl
theorem rnone_sp (a : Arg) (w : World) : Sp Tryz.prog 101 [.agg a.cells.toArray] w [] (fun b : Bool => .bool b) (fun _ => []) (fun b => b = (a.k == 0 && a.n == 0)) := by
  refine enter (s := Tryz.sx) [] Tryz.func101 rfl rfl rfl (Eff.refl w) ?_
  repeat' (first | refine g_pv rfl rfl ?_ | refine g_ld 0 rfl rfl rfl rfl rfl rfl ?_ | refine g_nil ?_ | refine gq_then ?_ | refine gc_seq ?_ | refine gc_region ?_ | refine g_box rfl rfl (fun _ => ?_))
  refine g_p (p_build rfl rfl rfl rfl) rfl ?_
  repeat' (fail)
  refine g_p (p_eqA rfl rfl rfl rfl rfl (by kernel_rfl)) rfl ?_
  repeat' (first | refine g_pv rfl rfl ?_ | refine g_nil ?_ | refine gq_then ?_ | refine gc_ret ?_)
  exact gq_ret1 (.inr rfl) rfl rfl rfl (fun w' H => ⟨_, rfl, rfl, hp_nil H⟩)
set_option maxHeartbeats 4000000 in
theorem rsame_sp (x y : Ins) (w : World) : Sp Tryz.prog 102 [x.val, y.val] w [] (fun b : Bool => .bool b) (fun _ => []) (fun b => b = alikeB x y) := by
  refine enter (s := Tryz.sx) [] Tryz.func102 rfl rfl rfl (Eff.refl w) ?_
  repeat' (first | refine g_pv rfl rfl ?_ | refine g_ld 0 rfl rfl rfl rfl rfl rfl ?_ | refine g_ld 1 rfl rfl rfl rfl rfl rfl ?_ | refine g_nil ?_ | refine gq_then ?_ | refine gc_seq ?_ | refine gc_region ?_ | refine g_box rfl rfl (fun _ => ?_))
  refine g_case (t := 10) rfl (fun h0 => ?_) (fun h0 => ?_)
  rotate_left
  · repeat' (first | refine g_pv rfl rfl ?_ | refine g_nil ?_ | refine gq_then ?_ | refine gc_ret ?_ | refine g_no rfl rfl rfl rfl rfl ?_)
    refine gq_ret1 (.inr rfl) rfl rfl rfl (fun w' H => ⟨false, ?_, rfl, hp_nil H⟩)
    unfold alikeB; rw [h0]; rfl
  repeat' (first | refine g_pv rfl rfl ?_ | refine g_ld 0 rfl rfl rfl rfl rfl rfl ?_ | refine g_ld 1 rfl rfl rfl rfl rfl rfl ?_ | refine g_yes rfl rfl rfl ?_)
  refine g_case (t := 17) rfl (fun h1 => ?_) (fun h1 => ?_)
  rotate_left
  · repeat' (first | refine g_pv rfl rfl ?_ | refine g_nil ?_ | refine gq_then ?_ | refine gc_ret ?_ | refine g_no rfl rfl rfl rfl rfl ?_)
    refine gq_ret1 (.inr rfl) rfl rfl rfl (fun w' H => ⟨false, ?_, rfl, hp_nil H⟩)
    unfold alikeB; rw [h0, h1]; rfl
  repeat' (first | refine g_pv rfl rfl ?_ | refine g_ld 0 rfl rfl rfl rfl rfl rfl ?_ | refine g_ld 1 rfl rfl rfl rfl rfl rfl ?_ | refine g_yes rfl rfl rfl ?_)
  refine g_case (t := 24) rfl (fun h2 => ?_) (fun h2 => ?_)
  rotate_left
  · repeat' (first | refine g_pv rfl rfl ?_ | refine g_nil ?_ | refine gq_then ?_ | refine gc_ret ?_ | refine g_no rfl rfl rfl rfl rfl ?_)
    refine gq_ret1 (.inr rfl) rfl rfl rfl (fun w' H => ⟨false, ?_, rfl, hp_nil H⟩)
    unfold alikeB; rw [h0, h1, h2]; rfl
  repeat' (first | refine g_pv rfl rfl ?_ | refine g_ld 0 rfl rfl rfl rfl rfl rfl ?_ | refine g_ld 1 rfl rfl rfl rfl rfl rfl ?_ | refine g_yes rfl rfl rfl ?_)
  refine g_p (p_eqA (L := _) rfl rfl rfl rfl rfl (by kernel_rfl)) rfl ?_
  repeat' (refine g_pv rfl rfl ?_)
  refine g_case (t := 31) rfl (fun h3 => ?_) (fun h3 => ?_)
  rotate_left
  · repeat' (first | refine g_pv rfl rfl ?_ | refine g_nil ?_ | refine gq_then ?_ | refine gc_ret ?_ | refine g_no rfl rfl rfl rfl rfl ?_)
    refine gq_ret1 (.inr rfl) rfl rfl rfl (fun w' H => ⟨false, ?_, rfl, hp_nil H⟩)
    unfold alikeB; rw [h0, h1, h2, h3]; rfl
  repeat' (first | refine g_pv rfl rfl ?_ | refine g_ld 0 rfl rfl rfl rfl rfl rfl ?_ | refine g_ld 1 rfl rfl rfl rfl rfl rfl ?_ | refine g_yes rfl rfl rfl ?_)
  refine g_p (p_eqA (L := _) rfl rfl rfl rfl rfl (by kernel_rfl)) rfl ?_
  repeat' (refine g_pv rfl rfl ?_)
  refine g_case (t := 38) rfl (fun h4 => ?_) (fun h4 => ?_)
  rotate_left
  · repeat' (first | refine g_pv rfl rfl ?_ | refine g_nil ?_ | refine gq_then ?_ | refine gc_ret ?_ | refine g_no rfl rfl rfl rfl rfl ?_)
    refine gq_ret1 (.inr rfl) rfl rfl rfl (fun w' H => ⟨false, ?_, rfl, hp_nil H⟩)
    unfold alikeB; rw [h0, h1, h2, h3, h4]; rfl
  repeat' (first | refine g_pv rfl rfl ?_ | refine g_ld 0 rfl rfl rfl rfl rfl rfl ?_ | refine g_ld 1 rfl rfl rfl rfl rfl rfl ?_ | refine g_yes rfl rfl rfl ?_)
  refine g_case (t := 45) rfl (fun h5 => ?_) (fun h5 => ?_)
  rotate_left
  · repeat' (first | refine g_pv rfl rfl ?_ | refine g_nil ?_ | refine gq_then ?_ | refine gc_ret ?_ | refine g_no rfl rfl rfl rfl rfl ?_)
    refine gq_ret1 (.inr rfl) rfl rfl rfl (fun w' H => ⟨false, ?_, rfl, hp_nil H⟩)
    unfold alikeB; rw [h0, h1, h2, h3, h4, h5]; rfl
  repeat' (first | refine g_pv rfl rfl ?_ | refine g_ld 0 rfl rfl rfl rfl rfl rfl ?_ | refine g_ld 1 rfl rfl rfl rfl rfl rfl ?_ | refine g_yes rfl rfl rfl ?_)
  refine g_case (t := 52) rfl (fun h6 => ?_) (fun h6 => ?_)
  rotate_left
  · repeat' (first | refine g_pv rfl rfl ?_ | refine g_nil ?_ | refine gq_then ?_ | refine gc_ret ?_ | refine g_no rfl rfl rfl rfl rfl ?_)
    refine gq_ret1 (.inr rfl) rfl rfl rfl (fun w' H => ⟨false, ?_, rfl, hp_nil H⟩)
    unfold alikeB; rw [h0, h1, h2, h3, h4, h5, h6]; rfl
  repeat' (first | refine g_pv rfl rfl ?_ | refine g_ld 0 rfl rfl rfl rfl rfl rfl ?_ | refine g_ld 1 rfl rfl rfl rfl rfl rfl ?_ | refine g_yes rfl rfl rfl ?_)
  refine g_case (t := 59) rfl (fun h7 => ?_) (fun h7 => ?_)
  rotate_left
  · repeat' (first | refine g_pv rfl rfl ?_ | refine g_nil ?_ | refine gq_then ?_ | refine gc_ret ?_ | refine g_no rfl rfl rfl rfl rfl ?_)
    refine gq_ret1 (.inr rfl) rfl rfl rfl (fun w' H => ⟨false, ?_, rfl, hp_nil H⟩)
    unfold alikeB; rw [h0, h1, h2, h3, h4, h5, h6, h7]; rfl
  repeat' (first | refine g_pv rfl rfl ?_ | refine g_ld 0 rfl rfl rfl rfl rfl rfl ?_ | refine g_ld 1 rfl rfl rfl rfl rfl rfl ?_ | refine g_yes rfl rfl rfl ?_)
  refine g_p (p_eqB rfl rfl rfl) rfl ?_
  repeat' (first | refine g_pv rfl rfl ?_ | refine g_nil ?_ | refine gq_then ?_ | refine gc_ret ?_)
  refine gq_ret1 (.inr rfl) rfl rfl rfl (fun w' H => ⟨x.signed == y.signed, ?_, rfl, hp_nil H⟩)
  unfold alikeB; rw [h0, h1, h2, h3, h4, h5, h6, h7]; rfl
def isDig (c : Int) : Bool := decide (c ≥ 48) && decide (c ≤ 57)
def isLet (c : Int) : Bool := (decide (c ≥ 97) && decide (c ≤ 122)) || ((decide (c ≥ 65) && decide (c ≤ 90)) || c == 95)
theorem digit_sp (c : Int) (w : World) : Sp Tryz.prog 95 [.int .u8 c] w [] (fun b : Bool => .bool b) (fun _ => []) (fun b => b = isDig c) := by
  refine enter (s := Tryz.sx) [] Tryz.func95 rfl rfl rfl (Eff.refl w) ?_
  repeat' (first | refine g_pv rfl rfl ?_ | refine g_nil ?_ | refine gq_then ?_ | refine gc_seq ?_ | refine gc_region ?_)
  refine g_case (t := 5) rfl (fun h => ?_) (fun h => ?_)
  all_goals (repeat' (first | refine g_pv rfl rfl ?_ | refine g_nil ?_ | refine gq_then ?_ | refine gc_ret ?_ | refine g_yes rfl rfl rfl ?_ | refine g_no rfl rfl rfl rfl rfl ?_))
  all_goals refine gq_ret1 (.inr rfl) rfl rfl rfl (fun w' H => ⟨_, ?_, rfl, hp_nil H⟩)
  all_goals (unfold isDig; rw [h]; rfl)
theorem letter_sp (c : Int) (w : World) : Sp Tryz.prog 133 [.int .u8 c] w [] (fun b : Bool => .bool b) (fun _ => []) (fun b => b = isLet c) := by
  refine enter (s := Tryz.sx) [] Tryz.func133 rfl rfl rfl (Eff.refl w) ?_
  repeat' (first | refine g_pv rfl rfl ?_ | refine g_nil ?_ | refine gq_then ?_ | refine gc_seq ?_ | refine gc_region ?_)
  have two : ∀ (h1 : (decide (c ≥ 97) && decide (c ≤ 122)) = false) (b : Bool), b = isLet c ↔ b = ((decide (c ≥ 65) && decide (c ≤ 90)) || c == 95) := fun h1 b => by unfold isLet; rw [h1]; rfl
  refine g_case (t := 5) rfl (fun h => ?_) (fun h => ?_)
  · have h : decide (c ≥ 97) = true := h
    repeat' (first | refine g_pv rfl rfl ?_ | refine g_yes rfl rfl rfl ?_)
    refine g_case (t := 9) rfl (fun h2 => ?_) (fun h2 => ?_)
    · have h2 : decide (c ≤ 122) = true := h2
      repeat' (first | refine g_pv rfl rfl ?_ | refine g_nil ?_ | refine gq_then ?_ | refine gc_ret ?_ | refine g_no rfl rfl rfl rfl rfl ?_)
      refine gq_ret1 (.inr rfl) rfl rfl rfl (fun w' H => ⟨_, ?_, rfl, hp_nil H⟩)
      unfold isLet; rw [h, h2]; rfl
    have h2 : decide (c ≤ 122) = false := h2
    repeat' (first | refine g_pv rfl rfl ?_ | refine g_yes rfl rfl rfl ?_)
    refine g_case (t := 12) rfl (fun h3 => ?_) (fun h3 => ?_)
    · have h3 : decide (c ≥ 65) = true := h3
      repeat' (first | refine g_pv rfl rfl ?_ | refine g_yes rfl rfl rfl ?_)
      refine g_case (t := 17) rfl (fun h4 => ?_) (fun h4 => ?_)
      · have h4 : decide (c ≤ 90) = true := h4
        repeat' (first | refine g_pv rfl rfl ?_ | refine g_nil ?_ | refine gq_then ?_ | refine gc_ret ?_ | refine g_no rfl rfl rfl rfl rfl ?_)
        refine gq_ret1 (.inr rfl) rfl rfl rfl (fun w' H => ⟨_, (two (by rw [h, h2]; rfl) _).2 ?_, rfl, hp_nil H⟩)
        rw [h3, h4]; rfl
      · have h4 : decide (c ≤ 90) = false := h4
        repeat' (first | refine g_pv rfl rfl ?_ | refine g_nil ?_ | refine gq_then ?_ | refine gc_ret ?_ | refine g_yes rfl rfl rfl ?_)
        refine gq_ret1 (.inr rfl) rfl rfl rfl (fun w' H => ⟨_, (two (by rw [h, h2]; rfl) _).2 ?_, rfl, hp_nil H⟩)
        rw [h3, h4]; rfl
    · have h3 : decide (c ≥ 65) = false := h3
      repeat' (first | refine g_pv rfl rfl ?_ | refine g_nil ?_ | refine gq_then ?_ | refine gc_ret ?_ | refine g_yes rfl rfl rfl ?_ | refine g_no rfl rfl rfl rfl rfl ?_)
      refine gq_ret1 (.inr rfl) rfl rfl rfl (fun w' H => ⟨_, (two (by rw [h, h2]; rfl) _).2 ?_, rfl, hp_nil H⟩)
      rw [h3]; rfl
  · have h : decide (c ≥ 97) = false := h
    repeat' (first | refine g_pv rfl rfl ?_ | refine g_yes rfl rfl rfl ?_ | refine g_no rfl rfl rfl rfl rfl ?_)
    repeat' (fail)
    refine g_case (t := 12) rfl (fun h3 => ?_) (fun h3 => ?_)
    · have h3 : decide (c ≥ 65) = true := h3
      repeat' (first | refine g_pv rfl rfl ?_ | refine g_yes rfl rfl rfl ?_)
      refine g_case (t := 17) rfl (fun h4 => ?_) (fun h4 => ?_)
      · have h4 : decide (c ≤ 90) = true := h4
        repeat' (first | refine g_pv rfl rfl ?_ | refine g_nil ?_ | refine gq_then ?_ | refine gc_ret ?_ | refine g_no rfl rfl rfl rfl rfl ?_)
        refine gq_ret1 (.inr rfl) rfl rfl rfl (fun w' H => ⟨_, (two (by rw [h]; rfl) _).2 ?_, rfl, hp_nil H⟩)
        rw [h3, h4]; rfl
      · have h4 : decide (c ≤ 90) = false := h4
        repeat' (first | refine g_pv rfl rfl ?_ | refine g_nil ?_ | refine gq_then ?_ | refine gc_ret ?_ | refine g_yes rfl rfl rfl ?_)
        refine gq_ret1 (.inr rfl) rfl rfl rfl (fun w' H => ⟨_, (two (by rw [h]; rfl) _).2 ?_, rfl, hp_nil H⟩)
        rw [h3, h4]; rfl
    · have h3 : decide (c ≥ 65) = false := h3
      repeat' (first | refine g_pv rfl rfl ?_ | refine g_nil ?_ | refine gq_then ?_ | refine gc_ret ?_ | refine g_yes rfl rfl rfl ?_ | refine g_no rfl rfl rfl rfl rfl ?_)
      refine gq_ret1 (.inr rfl) rfl rfl rfl (fun w' H => ⟨_, (two (by rw [h]; rfl) _).2 ?_, rfl, hp_nil H⟩)
      rw [h3]; rfl
end Go.Proofs.YtpohhfggmaihpaaGreatDoor

/- The document's Word and Tag. -/
namespace Go.Proofs.YtpohhfggmaihpaaGreatDoor
open Go.Wk
set_option linter.unusedVariables false
set_option linter.unusedSimpArgs false
attribute [local irreducible] G GC GQ GA GS Exit.then Exit.inBlock

set_option maxRecDepth 100000 in
theorem bad0_all : ((List.range 256).all fun n => badC 0 (n : Int) == !isLet (n : Int)) = true := by kernel_rfl
set_option maxRecDepth 100000 in
theorem bad1_all : ((List.range 256).all fun n => badC 1 (n : Int) == !(isLet (n : Int) || isDig (n : Int))) = true := by kernel_rfl
theorem badC_succ (i : Nat) (c : Int) : badC (i + 1) c = badC 1 c := by
  have h : (((i + 1 : Nat) : Int) == 0) = ((1 : Int) == 0) := by
    rw [show ((1 : Int) == 0) = false from rfl]
    exact beq_eq_false_iff_ne.2 (by omega)
  unfold badC
  rw [h]; rfl
theorem bad0 (c : UInt8) : badC 0 c.toNat = !isLet c.toNat := beq_iff_eq.1 (List.all_eq_true.1 bad0_all c.toNat (List.mem_range.2 c.toNat_lt))
theorem bad1 (i : Nat) (c : UInt8) : badC (i + 1) c.toNat = !(isLet c.toNat || isDig c.toNat) := by
  rw [badC_succ]
  exact beq_iff_eq.1 (List.all_eq_true.1 bad1_all c.toNat (List.mem_range.2 c.toNat_lt))
theorem letters_yes {s : ByteArray} (h0 : (bytesL s).length ≠ 0) (h1 : (bytesL s).length ≤ 63) (h : ∀ i, i < (bytesL s).length → badC i (((bytesL s)[i]?).getD 0).toNat = false) : lettersB s = true := by
  unfold lettersB
  have e1 : (bytesL s).isEmpty = false := by
    cases hq : bytesL s with
    | nil => rw [hq] at h0; exact absurd rfl h0
    | cons a r => rfl
  have e2 : ((List.range (bytesL s).length).all fun i => !badC i (((bytesL s)[i]?).getD 0).toNat) = true := List.all_eq_true.2 (fun i hi => by rw [h i (List.mem_range.1 hi)]; rfl)
  rw [e1, decide_eq_true h1, e2]; rfl
theorem letters_no {s : ByteArray} {i : Nat} {c : UInt8} (hx : (bytesL s)[i]? = some c) (h : badC i c.toNat = true) : lettersB s = false := by
  unfold lettersB
  have : ((List.range (bytesL s).length).all fun i => !badC i (((bytesL s)[i]?).getD 0).toNat) = false := by
    cases hq : ((List.range (bytesL s).length).all fun i => !badC i (((bytesL s)[i]?).getD 0).toNat) with
    | false => rfl
    | true =>
      have := List.all_eq_true.1 hq i (List.mem_range.2 (List.getElem?_eq_some_iff.1 hx).1)
      rw [hx, Option.getD_some, h] at this; cases this
  rw [this]; simp
theorem word_sp (s : ByteArray) (w : World) : Sp Tryz.prog 94 [.string s] w [] (fun b : Bool => .bool b) (fun _ => []) (fun b => b = lettersB s) := by
  have hsz := size_bytesL s
  refine enter (s := Tryz.sx) [] Tryz.func94 rfl rfl rfl (Eff.refl w) ?_
  repeat' (first | refine g_pv rfl rfl ?_ | refine g_nil ?_ | refine gq_then ?_ | refine gc_seq ?_ | refine gc_region ?_)
  refine g_case (t := 7) rfl (fun h1 => ?_) (fun h1 => ?_)
  · have h2 := of_decide_eq_true h1
    repeat' (first | refine g_pv rfl rfl ?_ | refine g_nil ?_ | refine gq_then ?_ | refine gc_seq ?_ | refine gc_region ?_ | refine gc_cond_t rfl ?_ | refine gc_ret ?_ | refine gq_then_ret ?_ | refine g_no rfl rfl rfl rfl rfl ?_)
    refine gq_ret1 (.inr rfl) rfl rfl rfl (fun w' H => ⟨false, ?_, rfl, hp_nil H⟩)
    have : (bytesL s).isEmpty = true := by
      cases hq : bytesL s with
      | nil => rfl
      | cons a r => rw [hq] at hsz; simp at hsz; omega
    unfold lettersB; rw [this]; rfl
  have h2 := of_decide_eq_false h1
  repeat' (first | refine g_pv rfl rfl ?_ | refine g_yes rfl rfl rfl ?_)
  refine g_case (t := 12) rfl (fun h3 => ?_) (fun h3 => ?_)
  · have h4 := of_decide_eq_true h3
    repeat' (first | refine g_pv rfl rfl ?_ | refine g_nil ?_ | refine gq_then ?_ | refine gc_seq ?_ | refine gc_region ?_ | refine gc_cond_t rfl ?_ | refine gc_ret ?_ | refine gq_then_ret ?_ | refine g_no rfl rfl rfl rfl rfl ?_)
    refine gq_ret1 (.inr rfl) rfl rfl rfl (fun w' H => ⟨false, ?_, rfl, hp_nil H⟩)
    unfold lettersB; rw [decide_eq_false (by omega)]; simp
  have h4 := of_decide_eq_false h3
  have hx0 : (bytesL s)[0]? = some ((bytesL s)[0]'(by omega)) := List.getElem?_eq_getElem (by omega)
  generalize (bytesL s)[0]'(by omega) = c0 at hx0
  repeat' (first | refine g_pv rfl rfl ?_ | refine g_yes rfl rfl rfl ?_)
  refine g_p (p_idxT rfl rfl rfl (Int.le_refl 0) hx0) rfl ?_
  repeat' (refine g_yes rfl rfl rfl ?_)
  refine g_call rfl (Cl.of Tryz.func133 rfl rfl) rfl rfl (fun w' hE => letter_sp c0.toNat w') rfl ?_
  rintro b0 hb0
  repeat' (first | refine g_pv rfl rfl ?_ | refine g_nil ?_ | refine gq_then ?_ | refine g_yes rfl rfl rfl ?_)
  cases b0
  · repeat' (first | refine g_pv rfl rfl ?_ | refine g_nil ?_ | refine gq_then ?_ | refine gc_seq ?_ | refine gc_region ?_ | refine gc_cond_t rfl ?_ | refine gc_ret ?_ | refine gq_then_ret ?_)
    refine gq_ret1 (.inr rfl) rfl rfl rfl (fun w' H => ⟨false, ?_, rfl, hp_nil H⟩)
    rw [letters_no hx0 (by rw [bad0, ← hb0]; rfl)]
  repeat' (first | refine g_pv rfl rfl ?_ | refine g_nil ?_ | refine gq_then ?_ | refine gc_seq ?_ | refine gc_region ?_ | refine gc_block ?_ | refine gc_cond_f rfl ?_ | refine gc_skip ?_)
  refine gc_loop (Y := Nat) (fun y => 1 ≤ y ∧ y ≤ (bytesL s).length ∧ ∀ i, i < y → badC i (((bytesL s)[i]?).getD 0).toNat = false)
    (fun y => [(0, .string s), (3, .int .i64 y)]) (fun y => [])
    (fun y => (bytesL s).length - y) 1 ⟨Nat.le_refl _, by omega, fun i hi => by
      have : i = 0 := by omega
      subst this
      rw [hx0, Option.getD_some, bad0, ← hb0]; rfl⟩ ⟨rfl, rfl, trivial⟩ (fun w' H => hp_nil H) ?_
  rintro k ⟨hk1, hk, hb⟩
  dsimp only at hk1 hk hb ⊢
  repeat' (first | refine g_pv rfl rfl ?_ | refine g_nil ?_ | refine gq_then ?_ | refine gc_seq ?_ | refine gc_region ?_)
  refine gc_condC rfl (fun hc => ?_) (fun hc => ?_)
  rotate_left
  · have hge : k = (bytesL s).length := by have := of_decide_eq_false hc; omega
    repeat' (first | refine g_pv rfl rfl ?_ | refine g_nil ?_ | refine gq_then ?_ | refine gc_seq ?_ | refine gc_region ?_ | refine gc_exit ?_ | refine gc_ret ?_ | refine gq_then_exit ?_ | refine gq_block_exit ?_)
    refine gq_ret1 (.inr rfl) rfl rfl rfl (fun w' H => ⟨true, ?_, rfl, hp_nil H⟩)
    rw [letters_yes (by omega) (by omega) (by rw [← hge]; exact hb)]
  have hlt : k < (bytesL s).length := by have := of_decide_eq_true hc; omega
  have hx : (bytesL s)[k]? = some ((bytesL s)[k]) := List.getElem?_eq_getElem hlt
  generalize (bytesL s)[k] = c at hx
  obtain ⟨k', rfl⟩ : ∃ k', k = k' + 1 := ⟨k - 1, by omega⟩
  have again : (isLet c.toNat || isDig c.toNat) = true → ∀ i, i < k' + 1 + 1 → badC i (((bytesL s)[i]?).getD 0).toNat = false := fun h i hi => by
    rcases Nat.lt_succ_iff_lt_or_eq.1 hi with h6 | h6
    · exact hb i h6
    · subst h6; rw [hx, Option.getD_some, bad1, h]; rfl
  repeat' (first | refine g_pv rfl rfl ?_ | refine gq_then ?_ | refine gc_seq ?_ | refine gc_region ?_ | refine gc_block ?_ | refine gc_skip ?_)
  refine g_p (p_idxT rfl rfl rfl (Int.natCast_nonneg _) hx) rfl ?_
  repeat' (fail)
  refine g_call rfl (Cl.of Tryz.func133 rfl rfl) rfl rfl (fun w' hE => letter_sp c.toNat w') rfl ?_
  rintro b1 hb1
  repeat' (refine g_pv rfl rfl ?_)
  cases b1
  · repeat' (first | refine g_pv rfl rfl ?_ | refine g_yes rfl rfl rfl ?_)
    refine g_p (p_idxT rfl rfl rfl (Int.natCast_nonneg _) hx) rfl ?_
    repeat' (refine g_yes rfl rfl rfl ?_)
    refine g_call rfl (Cl.of Tryz.func95 rfl rfl) rfl rfl (fun w' hE => digit_sp c.toNat w') rfl ?_
    rintro b2 hb2
    repeat' (first | refine g_pv rfl rfl ?_ | refine g_nil ?_ | refine gq_then ?_ | refine g_yes rfl rfl rfl ?_)
    cases b2
    · repeat' (first | refine g_pv rfl rfl ?_ | refine g_nil ?_ | refine gq_then ?_ | refine gc_seq ?_ | refine gc_region ?_ | refine gc_cond_t rfl ?_ | refine gc_ret ?_ | refine gq_then_ret ?_ | refine gq_block_ret ?_)
      refine gq_ret1 (.inr rfl) rfl rfl rfl (fun w' H => ⟨false, ?_, rfl, hp_nil H⟩)
      rw [letters_no hx (by rw [bad1, ← hb1, ← hb2]; rfl)]
    · repeat' (first | refine g_pv rfl rfl ?_ | refine g_nil ?_ | refine gq_then ?_ | refine gc_region ?_ | refine gc_cond_f rfl ?_ | refine gc_skip ?_ | refine gq_block ?_)
      exact gq_again (k' + 1 + 1) ⟨by omega, hlt, again (by rw [← hb1, ← hb2]; rfl)⟩ (by omega) ⟨rfl, inc_eq (by omega), trivial⟩ (fun w' H => hp_nil H)
  · repeat' (first | refine g_pv rfl rfl ?_ | refine g_nil ?_ | refine gq_then ?_ | refine gc_region ?_ | refine gc_cond_f rfl ?_ | refine gc_skip ?_ | refine gq_block ?_ | refine g_no rfl rfl rfl rfl rfl ?_)
    exact gq_again (k' + 1 + 1) ⟨by omega, hlt, again (by rw [← hb1]; rfl)⟩ (by omega) ⟨rfl, inc_eq (by omega), trivial⟩ (fun w' H => hp_nil H)
end Go.Proofs.YtpohhfggmaihpaaGreatDoor

/- The document's Tag. -/
namespace Go.Proofs.YtpohhfggmaihpaaGreatDoor
open Go.Wk
set_option linter.unusedVariables false
set_option linter.unusedSimpArgs false
attribute [local irreducible] G GC GQ GA GS Exit.then Exit.inBlock

set_option maxRecDepth 100000 in
theorem dig_all : ((List.range 256).all fun n => digits10.contains (UInt8.ofNat n) == isDig (n : Int)) = true := by kernel_rfl
theorem dig_eq (c : UInt8) : digits10.contains c = isDig c.toNat := by
  have := beq_iff_eq.1 (List.all_eq_true.1 dig_all c.toNat (List.mem_range.2 c.toNat_lt))
  rwa [UInt8.ofNat_toNat] at this
theorem dropWhile_nil {p : UInt8 → Bool} : ∀ (l : List UInt8), l.dropWhile p = [] ↔ ∀ x ∈ l, p x = true
  | [] => by simp
  | a :: r => by
    rw [List.dropWhile_cons]
    cases h : p a with
    | true => simp [h, dropWhile_nil r]
    | false => simp [h]
theorem dropWhile_mem {p : UInt8 → Bool} {x : UInt8} (hx : p x = false) : ∀ {l : List UInt8}, x ∈ l → x ∈ l.dropWhile p
  | [], h => by cases h
  | a :: r, h => by
    rw [List.dropWhile_cons]
    cases ha : p a with
    | true =>
      rcases List.mem_cons.1 h with rfl | h
      · rw [hx] at ha; cases ha
      · simpa [ha] using dropWhile_mem hx h
    | false => simpa [ha] using h
theorem trimS_nil (r : List UInt8) : (Lib.trimS r digits10).isEmpty = r.all fun c => isDig c.toNat := by
  have e : (fun c : UInt8 => digits10.contains c) = fun c => isDig c.toNat := funext dig_eq
  unfold Lib.trimS Lib.trimLeftS Lib.trimRightS
  rw [e]
  cases h : r.all fun c => isDig c.toNat with
  | true =>
    have h1 : r.reverse.dropWhile (fun c => isDig c.toNat) = [] := (dropWhile_nil _).2 (fun x hx => List.all_eq_true.1 h x (List.mem_reverse.1 hx))
    rw [h1]; rfl
  | false =>
    cases hq : (List.dropWhile (fun c => isDig c.toNat) (List.dropWhile (fun c => isDig c.toNat) r.reverse).reverse) with
    | cons a t => rfl
    | nil =>
      have h2 := (dropWhile_nil _).1 hq
      have h3 : r.all (fun c => isDig c.toNat) = true := List.all_eq_true.2 (fun x hx => by
        cases hp : isDig x.toNat with
        | true => rfl
        | false =>
          have h4 := h2 x (List.mem_reverse.2 (dropWhile_mem (p := fun c : UInt8 => isDig c.toNat) hp (List.mem_reverse.2 hx)))
          rw [hp] at h4; cases h4)
      rw [h3] at h; cases h
theorem pre_cons {l : List UInt8} : Lib.hasPrefix l [35] = true ↔ ∃ r, l = 35 :: r := by
  unfold Lib.hasPrefix
  cases l with
  | nil => exact ⟨fun h => (by cases h), fun ⟨q, h⟩ => (by cases h)⟩
  | cons a r =>
    constructor
    · intro h
      have h1 : ((35 : UInt8) == a) = true := by
        have h2 : ((35 : UInt8) == a && List.isPrefixOf [] r) = true := h
        simp only [Bool.and_eq_true] at h2
        exact h2.1
      exact ⟨r, by rw [← beq_iff_eq.1 h1]⟩
    · rintro ⟨q, h⟩
      cases h
      show ((35 : UInt8) == 35 && true) = true
      rfl
theorem tag_word {s : ByteArray} (h : (bytesL s).length < 2 ∨ (bytesL s).length > 10 ∨ ∀ r, bytesL s ≠ 35 :: r) : tagB s = lettersB s := by
  cases hp : Lib.hasPrefix (bytesL s) [35] with
  | false => unfold tagB; rw [hp, if_neg (by decide)]
  | true =>
    obtain ⟨r, hr⟩ := pre_cons.1 hp
    have h1 : lettersB s = false := letters_no (i := 0) (c := 35) (by rw [hr]; rfl) (by rw [bad0]; rfl)
    have h2 : Lib.trimPrefix (bytesL s) [35] = r := by unfold Lib.trimPrefix; rw [hp, if_pos rfl, hr]; rfl
    rw [h1]
    unfold tagB
    rw [hp, if_pos rfl, h2]
    rw [hr] at h
    rcases h with h | h | h
    · have : r = [] := by cases r with
        | nil => rfl
        | cons a t => simp only [List.length_cons] at h; omega
      rw [this]; rfl
    · have : decide (r.length ≤ 9) = false := decide_eq_false (by simp at h; omega)
      rw [this]; simp
    · exact absurd rfl (h r)
theorem tag_dig {s : ByteArray} {r : List UInt8} (hr : bytesL s = 35 :: r) (h0 : r ≠ []) (h1 : r.length ≤ 9) : tagB s = r.all fun c => isDig c.toNat := by
  have hp : Lib.hasPrefix (bytesL s) [35] = true := pre_cons.2 ⟨r, hr⟩
  have h2 : Lib.trimPrefix (bytesL s) [35] = r := by unfold Lib.trimPrefix; rw [hp, if_pos rfl, hr]; rfl
  have h3 : r.isEmpty = false := by
    cases r with
    | nil => exact absurd rfl h0
    | cons a t => rfl
  unfold tagB
  rw [hp, if_pos rfl, h2, h3, decide_eq_true h1, trimS_nil]; rfl
theorem rtag_sp (s : ByteArray) (w : World) : Sp Tryz.prog 52 [.string s] w [] (fun b : Bool => .bool b) (fun _ => []) (fun b => b = tagB s) := by
  have hsz := size_bytesL s
  refine enter (s := Tryz.sx) [] Tryz.func52 rfl rfl rfl (Eff.refl w) ?_
  repeat' (first | refine g_pv rfl rfl ?_ | refine g_nil ?_ | refine gq_then ?_ | refine gc_seq ?_ | refine gc_region ?_)
  refine g_case (t := 7) rfl (fun h1 => ?_) (fun h1 => ?_)
  · have h2 := of_decide_eq_true h1
    repeat' (first | refine g_pv rfl rfl ?_ | refine g_nil ?_ | refine gq_then ?_ | refine gc_seq ?_ | refine gc_region ?_ | refine gc_cond_t rfl ?_ | refine g_no rfl rfl rfl rfl rfl ?_)
    refine g_call rfl (Cl.of Tryz.func94 rfl rfl) rfl rfl (fun w' hE => word_sp s w') rfl ?_
    rintro b hb
    repeat' (first | refine g_pv rfl rfl ?_ | refine g_nil ?_ | refine gq_then ?_ | refine gc_ret ?_ | refine gq_then_ret ?_)
    exact gq_ret1 (.inr rfl) rfl rfl rfl (fun w' H => ⟨b, by rw [hb, tag_word (.inl (by omega))], rfl, hp_nil H⟩)
  have h2 := of_decide_eq_false h1
  repeat' (first | refine g_pv rfl rfl ?_ | refine g_yes rfl rfl rfl ?_)
  refine g_case (t := 12) rfl (fun h3 => ?_) (fun h3 => ?_)
  · have h4 := of_decide_eq_true h3
    repeat' (first | refine g_pv rfl rfl ?_ | refine g_nil ?_ | refine gq_then ?_ | refine gc_seq ?_ | refine gc_region ?_ | refine gc_cond_t rfl ?_ | refine g_no rfl rfl rfl rfl rfl ?_)
    refine g_call rfl (Cl.of Tryz.func94 rfl rfl) rfl rfl (fun w' hE => word_sp s w') rfl ?_
    rintro b hb
    repeat' (first | refine g_pv rfl rfl ?_ | refine g_nil ?_ | refine gq_then ?_ | refine gc_ret ?_ | refine gq_then_ret ?_)
    exact gq_ret1 (.inr rfl) rfl rfl rfl (fun w' H => ⟨b, by rw [hb, tag_word (.inr (.inl (by omega)))], rfl, hp_nil H⟩)
  have h4 := of_decide_eq_false h3
  obtain ⟨c0, r, hr⟩ : ∃ c0 r, bytesL s = c0 :: r := by
    cases hq : bytesL s with
    | nil => rw [hq] at hsz; have h9 : s.size = 0 := hsz; omega
    | cons a t => exact ⟨a, t, rfl⟩
  have hx0 : s.data.toList[0]? = some c0 := by
    have : (bytesL s)[0]? = some c0 := by rw [hr]; rfl
    exact this
  have hlen : s.size = r.length + 1 := by rw [hsz, hr]; rfl
  repeat' (first | refine g_pv rfl rfl ?_ | refine g_yes rfl rfl rfl ?_)
  refine g_p (p_idxT rfl rfl rfl (Int.le_refl 0) hx0) rfl ?_
  repeat' (first | refine g_pv rfl rfl ?_ | refine g_nil ?_ | refine gq_then ?_ | refine g_yes rfl rfl rfl ?_)
  refine gc_condC rfl (fun h5 => ?_) (fun h5 => ?_)
  · repeat' (first | refine g_pv rfl rfl ?_ | refine gc_seq ?_ | refine gc_region ?_)
    refine g_call rfl (Cl.of Tryz.func94 rfl rfl) rfl rfl (fun w' hE => word_sp s w') rfl ?_
    rintro b hb
    repeat' (first | refine g_pv rfl rfl ?_ | refine g_nil ?_ | refine gq_then ?_ | refine gc_ret ?_ | refine gq_then_ret ?_)
    refine gq_ret1 (.inr rfl) rfl rfl rfl (fun w' H => ⟨b, ?_, rfl, hp_nil H⟩)
    rw [hb, tag_word (.inr (.inr (fun r' he => ?_)))]
    rw [hr] at he
    cases he
    exact absurd h5 (by decide)
  have hc0 : c0 = 35 := by
    have h6 : ((c0.toNat : Int) == 35) = true := by simpa using h5
    have h7 : c0.toNat = 35 := by have := beq_iff_eq.1 h6; omega
    exact UInt8.toNat_inj.1 (by rw [h7]; rfl)
  subst hc0
  have hr0 : r ≠ [] := fun he => by rw [he] at hlen; simp at hlen; omega
  have hT := tag_dig hr hr0 (by omega)
  repeat' (first | refine g_pv rfl rfl ?_ | refine g_nil ?_ | refine gq_then ?_ | refine gc_seq ?_ | refine gc_region ?_ | refine gc_block ?_ | refine gc_skip ?_)
  refine gc_loop (Y := Nat) (fun y => y ≤ r.length ∧ (r.take y).all (fun c => isDig c.toNat) = true)
    (fun y => [(0, .string s), (3, .int .i64 ((y + 1 : Nat) : Int))]) (fun y => [])
    (fun y => r.length - y) 0 ⟨Nat.zero_le _, rfl⟩ ⟨rfl, rfl, trivial⟩ (fun w' H => hp_nil H) ?_
  rintro k ⟨hk, hb⟩
  dsimp only at hk hb ⊢
  repeat' (first | refine g_pv rfl rfl ?_ | refine g_nil ?_ | refine gq_then ?_ | refine gc_seq ?_ | refine gc_region ?_)
  refine gc_condC rfl (fun hc => ?_) (fun hc => ?_)
  rotate_left
  · have hge : k = r.length := by have := of_decide_eq_false hc; omega
    repeat' (first | refine g_pv rfl rfl ?_ | refine g_nil ?_ | refine gq_then ?_ | refine gc_seq ?_ | refine gc_region ?_ | refine gc_exit ?_ | refine gc_ret ?_ | refine gq_then_exit ?_ | refine gq_block_exit ?_)
    refine gq_ret1 (.inr rfl) rfl rfl rfl (fun w' H => ⟨true, ?_, rfl, hp_nil H⟩)
    rw [hge, List.take_length] at hb
    rw [hT, hb]
  have hlt : k < r.length := by have := of_decide_eq_true hc; omega
  have hxk : r[k]? = some (r[k]) := List.getElem?_eq_getElem hlt
  have htk : r.take (k + 1) = r.take k ++ [r[k]] := List.take_succ_eq_append_getElem hlt
  have hmk : r[k] ∈ r := List.getElem_mem hlt
  generalize r[k] = c at hxk htk hmk
  have hx : s.data.toList[((k + 1 : Nat) : Int).toNat]? = some c := by
    have : (bytesL s)[k + 1]? = some c := by rw [hr]; simpa using hxk
    exact this
  repeat' (first | refine g_pv rfl rfl ?_ | refine gq_then ?_ | refine gc_seq ?_ | refine gc_region ?_ | refine gc_block ?_ | refine gc_skip ?_)
  refine g_p (p_idxT rfl rfl rfl (Int.natCast_nonneg _) hx) rfl ?_
  repeat' (fail)
  refine g_call rfl (Cl.of Tryz.func95 rfl rfl) rfl rfl (fun w' hE => digit_sp c.toNat w') rfl ?_
  rintro b1 hb1
  repeat' (first | refine g_pv rfl rfl ?_ | refine g_nil ?_ | refine gq_then ?_)
  cases b1
  · repeat' (first | refine g_pv rfl rfl ?_ | refine g_nil ?_ | refine gq_then ?_ | refine gc_seq ?_ | refine gc_region ?_ | refine gc_cond_t rfl ?_ | refine gc_ret ?_ | refine gq_then_ret ?_ | refine gq_block_ret ?_)
    refine gq_ret1 (.inr rfl) rfl rfl rfl (fun w' H => ⟨false, ?_, rfl, hp_nil H⟩)
    have : r.all (fun c => isDig c.toNat) = false := by
      cases hq : r.all (fun c => isDig c.toNat) with
      | false => rfl
      | true => have := List.all_eq_true.1 hq c hmk; rw [← hb1] at this; cases this
    rw [hT, this]
  · repeat' (first | refine g_pv rfl rfl ?_ | refine g_nil ?_ | refine gq_then ?_ | refine gc_region ?_ | refine gc_cond_f rfl ?_ | refine gc_skip ?_ | refine gq_block ?_)
    refine gq_again (k + 1) ⟨hlt, ?_⟩ (by omega) ⟨rfl, inc_eq (by omega), trivial⟩ (fun w' H => hp_nil H)
    rw [htk, List.all_append, hb]; simp [← hb1]
end Go.Proofs.YtpohhfggmaihpaaGreatDoor

/- A result that lies in a cell. -/
namespace Go.Wk
set_option linter.unusedVariables false
set_option linter.unusedSimpArgs false
section
variable {X : Cx} {fn : Func} {Rp : Ending → World → Prop} {L : LT} {R : RL}
theorem gq_retC {e : Exit} (he : e = .normal ∨ e = .ret) (hds : X.ds = []) {t : Tmp} {ty : TypeId} (hfn : fn.results = #[.cell t ty]) (i : Nat) {b o : Nat} {ti : Ti} {l cs : List Value} {ee : TypeId} {fz : Nat × Nat} {A : HL} {v : Value}
    (hR : R[i]? = some ((b, .cells ⟨l⟩ ee fz) :: A)) (hp : lk L t = some (.pointer (some ⟨b, o, none⟩))) (ht : tl X.s.tab ty = some ti) (hc : takeC l o ti.sz = some cs) (hv : asV ti.k cs = some v) (k : ∀ w, Hp X w R → Rp (.returned v) w) :
    GQ X (bodyPost X.s.P fn Rp) e L R :=
  gq_ret he hds v (fun a w ha hE => by
    obtain ⟨h1, h2⟩ := takeC_spec _ _ _ _ hc
    have hb := hp_cellA hE hR
    have hl : (Instr.loadAt ty (.pointer (some ⟨b, o, none⟩))).run X.s.P w = .ok v w := run_loadAt (X.s.ok.at ht) h1 hv (fun j u hj => by
      simp only [World.cell?, hb]
      simpa using h2 j u hj)
    have hg : a.tmps.getD t undef = .pointer (some ⟨b, o, none⟩) := ha.kn _ _ hp
    have hr : (results fn a.tmps) = (do loadVar ty (← asAddr (a.tmps.getD t undef))) := by
      simp [results, hfn]
    rw [hr, hg]
    exact hl) k
end
section
variable {X : Cx} {L : LT} {d : Nat} {x y : Operand} {t ty yt : TypeId} {p : String} {af : Array Edge}
theorem p_neA {t1 t2 : TypeId} {k1 k2 : IntKind} {a1 a2 b1 b2 : Int} {z z1 z2 : Value} {s b s1 c1 s2 c2 : Nat} (hx : ev L x = some (.agg #[.int k1 a1, .int k2 a2])) (hy : ev L y = some (.agg #[.int k1 b1, .int k2 b2]))
    (ht : tl X.s.tab t = some ⟨.struct [(0, t1), (1, t2)], z, s, b⟩) (h1 : tl X.s.tab t1 = some ⟨.int k1, z1, s1, c1⟩) (h2 : tl X.s.tab t2 = some ⟨.int k2, z2, s2, c2⟩) (hs : sEq X.s.P t = true) :
    PR X.s.P L (⟨some d, .binOp .neq t x y yt, ty, p, af, none⟩ : Oper) (.bool (!(a1 == b1 && a2 == b2))) := fun ρ w h => by
  simp only [execOp]; rw [h x _ hx, h y _ hy]
  have hg : X.s.P.eqGuardType X.s.P.depth t = false := by
    unfold sEq at hs
    split at hs
    · simp only [Bool.and_eq_true, Bool.not_eq_true'] at hs; exact hs.2
    · cases hs
  have e : (do eqGuard .neq t x y (.agg #[.int k1 a1, .int k2 a2]) (.agg #[.int k1 b1, .int k2 b2]); binOp .neq t (.agg #[.int k1 a1, .int k2 a2]) (.agg #[.int k1 b1, .int k2 b2]) : Sem Value).run X.s.P w = .ok (.bool (!(a1 == b1 && a2 == b2))) w := by
    rw [Sem.run_bind, run_eqGuard_agg w .neq t x y _ _ hg, Result.andThen_ok, run_neq_struct]
    rw [run_eqA (X.s.ok.at ht) (X.s.ok.at h1) (X.s.ok.at h2) hs x y w 9998]
    rfl
  rw [Sem.run_bind, e]; rfl
end
end Go.Wk
