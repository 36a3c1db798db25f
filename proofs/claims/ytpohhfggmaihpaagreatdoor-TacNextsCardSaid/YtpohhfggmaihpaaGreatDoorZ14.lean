/-
  tac: Check.
  The law TacNexts.
  TacNexts: PROVED FOR EVERY INPUT: the call returns true, and its argument reads as it read; over worlds whose listed tables read as the program lays them.
-/
import Derived.Test.YtpohhfggmaihpaaGreatDoorZ13
import Derived.Test.YtpohhfggmaihpaaGreatDoorZ10

/- tac: Check. -/
namespace Go.Proofs.YtpohhfggmaihpaaGreatDoor
open Go.Wk
set_option linter.unusedVariables false
set_option linter.unusedSimpArgs false
attribute [local irreducible] G GC GQ GA GS Exit.then Exit.inBlock

def fn0 : Fn := ⟨⟨#[]⟩, 0, 0, false, [], none, 0, [], none, 0⟩
theorem fn0_in (h : Nat → Option Obj) : FnIn h fn0 := ⟨⟨(fun i x hx => by simp [fn0] at hx), by decide, (fun x hx => by cases hx)⟩, (fun i x hx => by simp [fn0] at hx), by decide, (by unfold in64 fn0; decide), (by unfold in64 fn0; decide), (fun s hs => by cases hs)⟩
def memT (x : ByteArray) (l : List ByteArray) : Bool := l.any fun y => decide (y = x)
theorem memT_iff {x : ByteArray} {l : List ByteArray} : memT x l = true ↔ x ∈ l := by simp [memT, List.any_eq_true]
theorem memT_no {x : ByteArray} {l : List ByteArray} (h : x ∉ l) : memT x l = false := by
  cases hq : memT x l with
  | false => rfl
  | true => exact absurd (memT_iff.1 hq) h
/-- Each function's name is new, and it may be. -/
def fnsB (p : Pr) : List ByteArray → List Fn → Bool
  | _, [] => true
  | seen, f :: t => !memT f.nm seen && (funcB ⟨p, f⟩ && fnsB p (seen ++ [f.nm]) t)
def mainB (p : Pr) : Bool := match p.fns[p.main.toNat]? with
  | some g => g.pa == 0
  | none => false
def checkB (p : Pr) : Bool := !decide ((p.obs.length : Int) > 256) && (!decide ((p.fns.length : Int) < 1) && (!decide ((p.fns.length : Int) > 64) && (inB p.main p.fns.length && (mainB p && (p.obs.all (objB ⟨p, fn0⟩) && fnsB p [] p.fns)))))
def errB (b : Bool) : Int := if b then 0 else 130
theorem fnsB_cons {p : Pr} {seen : List ByteArray} {f : Fn} {t : List Fn} : fnsB p seen (f :: t) = (!memT f.nm seen && (funcB ⟨p, f⟩ && fnsB p (seen ++ [f.nm]) t)) := rfl
/-- The map of the names that were seen. -/
structure SeenIs (kv : List (ByteArray × Value)) (l : List ByteArray) : Prop where
  one : ∀ k v, ml kv k = some v → v = .int .i64 1
  keys : ∀ k, k ∈ kv.map (·.1) ↔ k ∈ l
set_option maxHeartbeats 16000000 in
theorem check_sp (p : Pr) (w : World) (hp : PrIn (hw w) p) : Sp Tryz.prog 8 [p.val] w [] (fun e : Int => .int .i64 e) (fun _ => []) (fun e => e = errB (checkB p)) := by
  have holen := hp.olen
  have hflen := hp.flen
  have hj0 : JgIn (hw w) ⟨p, fn0⟩ := ⟨hp, fn0_in _⟩
  refine enter (s := Tryz.sx) [] Tryz.func8 rfl rfl rfl (Eff.refl w) ?_
  refine gc_seq ?_
  repeat' (first | refine g_pv rfl rfl ?_ | refine g_nil ?_ | refine gq_then ?_ | refine gc_region ?_ | refine g_box rfl rfl (fun _ => ?_))
  rename_i b1
  refine gc_seq ?_
  repeat' (first | refine g_ld 0 rfl rfl rfl rfl rfl rfl ?_ | refine gc_region ?_)
  refine g_p (p_build rfl rfl rfl rfl) rfl ?_
  repeat' (first | refine g_nil ?_ | refine gq_then ?_ | refine g_alloc rfl rfl (fun _ => ?_) | refine g_st 0 rfl rfl rfl rfl rfl rfl rfl ?_)
  rename_i b3
  refine gc_heap (R' := [[(b3, .cells ⟨(⟨p, fn0⟩ : Jg).cells⟩ 59 (0, 0))], [(b1, .cells ⟨p.cells⟩ 25 (0, 0))]]) (fun w H => H) ?_
  repeat' (first | refine g_pv rfl rfl ?_ | refine g_ld 1 rfl rfl rfl rfl rfl rfl ?_ | refine gc_seq ?_ | refine gc_region ?_)
  refine g_case (t := 15) rfl (fun h0 => ?_) (fun h0 => ?_)
  · have h0 : decide ((p.obs.length : Int) > 256) = true := h0
    repeat' (first | refine g_pv rfl rfl ?_ | refine g_nil ?_ | refine gq_then ?_ | refine gc_seq ?_ | refine gc_region ?_ | refine gc_cond_t rfl ?_ | refine gc_ret ?_ | refine gq_then_ret ?_ | refine g_no rfl rfl rfl rfl rfl ?_)
    refine gq_ret1 (.inr rfl) rfl rfl rfl (fun w' H => ⟨130, ?_, rfl, hp_nil H⟩)
    unfold checkB; rw [h0]; rfl
  have h0 : decide ((p.obs.length : Int) > 256) = false := h0
  repeat' (first | refine g_pv rfl rfl ?_ | refine g_ld 1 rfl rfl rfl rfl rfl rfl ?_ | refine g_yes rfl rfl rfl ?_)
  refine g_case (t := 21) rfl (fun h1 => ?_) (fun h1 => ?_)
  · have h1 : decide ((p.fns.length : Int) < 1) = true := h1
    repeat' (first | refine g_pv rfl rfl ?_ | refine g_nil ?_ | refine gq_then ?_ | refine gc_seq ?_ | refine gc_region ?_ | refine gc_cond_t rfl ?_ | refine gc_ret ?_ | refine gq_then_ret ?_ | refine g_no rfl rfl rfl rfl rfl ?_)
    refine gq_ret1 (.inr rfl) rfl rfl rfl (fun w' H => ⟨130, ?_, rfl, hp_nil H⟩)
    unfold checkB; rw [h0, h1]; rfl
  have h1 : decide ((p.fns.length : Int) < 1) = false := h1
  repeat' (first | refine g_pv rfl rfl ?_ | refine g_ld 1 rfl rfl rfl rfl rfl rfl ?_ | refine g_yes rfl rfl rfl ?_)
  refine g_case (t := 27) rfl (fun h2 => ?_) (fun h2 => ?_)
  · have h2 : decide ((p.fns.length : Int) > 64) = true := h2
    repeat' (first | refine g_pv rfl rfl ?_ | refine g_nil ?_ | refine gq_then ?_ | refine gc_seq ?_ | refine gc_region ?_ | refine gc_cond_t rfl ?_ | refine gc_ret ?_ | refine gq_then_ret ?_ | refine g_no rfl rfl rfl rfl rfl ?_)
    refine gq_ret1 (.inr rfl) rfl rfl rfl (fun w' H => ⟨130, ?_, rfl, hp_nil H⟩)
    unfold checkB; rw [h0, h1, h2]; rfl
  have h2 : decide ((p.fns.length : Int) > 64) = false := h2
  repeat' (first | refine g_pv rfl rfl ?_ | refine g_ld 1 rfl rfl rfl rfl rfl rfl ?_ | refine g_yes rfl rfl rfl ?_)
  refine g_call rfl (Cl.of Tryz.func23 rfl rfl) rfl rfl (fun w' hE => within_sp p.main p.fns.length w') rfl (fun _ _ => ?_)
  repeat' (first | refine g_pv rfl rfl ?_ | refine g_yes rfl rfl rfl ?_)
  refine g_case (t := 36) rfl (fun h3 => ?_) (fun h3 => ?_)
  · have h3 : inB p.main p.fns.length = false := (Bool.not_eq_true' _).mp h3
    repeat' (first | refine g_pv rfl rfl ?_ | refine g_nil ?_ | refine gq_then ?_ | refine gc_seq ?_ | refine gc_region ?_ | refine gc_cond_t rfl ?_ | refine gc_ret ?_ | refine gq_then_ret ?_ | refine g_no rfl rfl rfl rfl rfl ?_)
    refine gq_ret1 (.inr rfl) rfl rfl rfl (fun w' H => ⟨130, ?_, rfl, hp_nil H⟩)
    unfold checkB; rw [h0, h1, h2, h3]; rfl
  have h3 : inB p.main p.fns.length = true := (Bool.not_eq_false' _).mp h3
  have hb3 := inB_iff.1 h3
  have hlx : p.fns[p.main.toNat]? = some (p.fns[p.main.toNat]'(by omega)) := List.getElem?_eq_getElem (by omega)
  generalize p.fns[p.main.toNat]'(by omega) = g at hlx
  obtain ⟨bb, oo, hA, hcq⟩ := hp.fns p.main.toNat _ hlx
  have hm : mainB p = (g.pa == 0) := by unfold mainB; rw [hlx]
  repeat' (first | refine g_pv rfl rfl ?_ | refine g_ld 1 rfl rfl rfl rfl rfl rfl ?_ | refine g_yes rfl rfl rfl ?_)
  refine g_p (p_ix (bx := bb) (o := oo) (by show some (Value.slice p.fA _ _) = _; rw [hA]) rfl rfl rfl hb3.1 hb3.2) rfl ?_
  repeat' (first | refine g_pv rfl rfl ?_ | refine g_yes rfl rfl rfl ?_)
  refine g_ldO rfl rfl (cs := [.int .i64 g.pa]) rfl rfl (fun i u hu => ?_) rfl ?_
  · have hi0 : i = 0 := by have := (List.getElem?_eq_some_iff.1 hu).1; simp at this; omega
    subst hi0
    simp only [List.getElem?_cons_zero, Option.some.injEq] at hu; subst hu
    exact (old_le0 _ w).cell (hcq 1 _ rfl)
  repeat' (first | refine g_pv rfl rfl ?_ | refine g_nil ?_ | refine gq_then ?_ | refine g_yes rfl rfl rfl ?_)
  refine gc_condC rfl (fun h4 => ?_) (fun h4 => ?_)
  · have h4' : (g.pa == 0) = false := by simpa using h4
    repeat' (first | refine g_pv rfl rfl ?_ | refine g_nil ?_ | refine gq_then ?_ | refine gc_seq ?_ | refine gc_region ?_ | refine gc_ret ?_ | refine gq_then_ret ?_)
    refine gq_ret1 (.inr rfl) rfl rfl rfl (fun w' H => ⟨130, ?_, rfl, hp_nil H⟩)
    unfold checkB; rw [h0, h1, h2, h3, hm, h4']; rfl
  have h4' : (g.pa == 0) = true := by simpa using h4
  have hC : checkB p = (p.obs.all (objB ⟨p, fn0⟩) && fnsB p [] p.fns) := by unfold checkB; rw [h0, h1, h2, h3, hm, h4']; rfl
  have hl1 := of_decide_eq_false h0
  have hl2 := of_decide_eq_false h2
  repeat' (first | refine g_pv rfl rfl ?_ | refine g_ld 1 rfl rfl rfl rfl rfl rfl ?_ | refine g_nil ?_ | refine gq_then ?_ | refine gc_seq ?_ | refine gc_region ?_ | refine gc_block ?_ | refine gc_skip ?_)
  refine gc_loop (Y := Nat) (fun y => y ≤ p.obs.length ∧ (p.obs.take y).all (objB ⟨p, fn0⟩) = true)
    (fun y => [(1, .pointer (some ⟨b1, 0, none⟩)), (3, .pointer (some ⟨b3, 0, none⟩)), (47, .slice p.oA p.obs.length p.oC), (48, .int .i64 p.obs.length), (49, .int .i64 y)])
    (fun y => [[(b3, .cells ⟨(⟨p, fn0⟩ : Jg).cells⟩ 59 (0, 0))], [(b1, .cells ⟨p.cells⟩ 25 (0, 0))]])
    (fun y => p.obs.length - y) 0 ⟨Nat.zero_le _, rfl⟩ ⟨rfl, rfl, rfl, rfl, rfl, trivial⟩ (fun w' H => H) ?_
  rintro k ⟨hk, hall⟩
  dsimp only at hk hall ⊢
  repeat' (first | refine g_pv rfl rfl ?_ | refine g_nil ?_ | refine gq_then ?_ | refine gc_seq ?_ | refine gc_region ?_)
  refine gc_condC rfl (fun hc => ?_) (fun hc => ?_)
  · have hlt : k < p.obs.length := by have := of_decide_eq_true hc; omega
    have hx : p.obs[k]? = some (p.obs[k]) := List.getElem?_eq_getElem hlt
    have htk : p.obs.take (k + 1) = p.obs.take k ++ [p.obs[k]] := List.take_succ_eq_append_getElem hlt
    have hmx : p.obs[k] ∈ p.obs := List.getElem_mem hlt
    generalize p.obs[k] = o at hx htk hmx
    repeat' (first | refine gq_then ?_ | refine gc_seq ?_ | refine gc_region ?_ | refine gc_block ?_ | refine gc_skip ?_)
    refine g_at (l := p.obs) (f := Ob.cells) (u := o) rfl rfl rfl rfl rfl (Int.natCast_nonneg k) (by omega) (hp.obs.le (old_le0 _ w)) hx rfl rfl rfl rfl (fun a => ?_)
    repeat' (first | refine g_nil ?_ | refine gq_then ?_ | refine g_alloc rfl rfl (fun _ => ?_) | refine g_st 0 rfl rfl rfl rfl rfl rfl rfl ?_)
    rename_i b5
    refine gc_heap (R' := [[(b5, .cells ⟨o.cells⟩ 66 (0, 0))], [(b3, .cells ⟨(⟨p, fn0⟩ : Jg).cells⟩ 59 (0, 0))], [(b1, .cells ⟨p.cells⟩ 25 (0, 0))]]) (fun w H => H) ?_
    repeat' (first | refine g_ld 0 rfl rfl rfl rfl rfl rfl ?_ | refine g_ld 1 rfl rfl rfl rfl rfl rfl ?_ | refine gc_seq ?_ | refine gc_region ?_)
    refine g_call rfl (Cl.of Tryz.func24 rfl rfl) rfl rfl (fun w' hE => object_sp ⟨p, fn0⟩ o w' (hj0.le (fun b o h => old_le hE b o (old_le0 _ w b o h))) ((hp.ob o hmx).le (fun b o h => old_le hE b o (old_le0 _ w b o h)))) rfl ?_
    rintro t ht
    repeat' (first | refine g_pv rfl rfl ?_ | refine g_nil ?_ | refine gq_then ?_)
    cases t
    · repeat' (first | refine g_pv rfl rfl ?_ | refine g_nil ?_ | refine gq_then ?_ | refine gc_seq ?_ | refine gc_region ?_ | refine gc_cond_t rfl ?_ | refine gc_ret ?_ | refine gq_then_ret ?_ | refine gq_block_ret ?_)
      refine gq_ret1 (.inr rfl) rfl rfl rfl (fun w' H => ⟨130, ?_, rfl, hp_nil H⟩)
      have : p.obs.all (objB ⟨p, fn0⟩) = false := by
        cases hq : p.obs.all (objB ⟨p, fn0⟩) with
        | false => rfl
        | true => rw [List.all_eq_true.1 hq o hmx] at ht; cases ht
      rw [hC, this]; rfl
    · repeat' (first | refine g_pv rfl rfl ?_ | refine g_nil ?_ | refine gq_then ?_ | refine gc_region ?_ | refine gc_cond_f rfl ?_ | refine gc_skip ?_ | refine gq_block ?_)
      refine gq_again (k + 1) ⟨hlt, ?_⟩ (by omega) ⟨rfl, rfl, rfl, rfl, inc_eq (by omega), trivial⟩ (fun w' H => hp_drop 0 H)
      rw [htk, List.all_append, hall]; simp [← ht]
  have hge : k = p.obs.length := by have := of_decide_eq_false hc; omega
  rw [hge, List.take_length] at hall
  have hC2 : checkB p = fnsB p [] p.fns := by rw [hC, hall]; rfl
  repeat' (first | refine gq_then ?_ | refine gc_seq ?_ | refine gc_region ?_ | refine gc_exit ?_ | refine gq_then_exit ?_ | refine gq_block_exit ?_)
  refine g_mkmap rfl (fun br => ?_)
  repeat' (first | refine g_pv rfl rfl ?_ | refine g_ld 2 rfl rfl rfl rfl rfl rfl ?_ | refine g_nil ?_ | refine gq_then ?_ | refine gc_seq ?_ | refine gc_region ?_ | refine gc_block ?_)
  refine gc_loop (Y := Nat × Fn × Array MapEntry × Nat × List (ByteArray × Value)) (fun y => y.1 ≤ p.fns.length ∧ MapIs Value.string y.2.2.2.2 y.2.2.1 y.2.2.2.1 ∧ SeenIs y.2.2.2.2 ((p.fns.take y.1).map Fn.nm) ∧ fnsB p [] p.fns = fnsB p ((p.fns.take y.1).map Fn.nm) (p.fns.drop y.1))
    (fun y => [(1, .pointer (some ⟨b1, 0, none⟩)), (3, .pointer (some ⟨b3, 0, none⟩)), (6, .map (some br)), (60, .slice p.fA p.fns.length p.fC), (61, .int .i64 p.fns.length), (62, .int .i64 y.1)])
    (fun y => [[(br, .map y.2.2.1 y.2.2.2.1)], [(b3, .cells ⟨(⟨p, y.2.1⟩ : Jg).cells⟩ 59 (0, 0))], [(b1, .cells ⟨p.cells⟩ 25 (0, 0))]])
    (fun y => p.fns.length - y.1) (0, fn0, #[], 0, []) ⟨Nat.zero_le _, mapIs_nil _ _, ⟨(fun k v h => by simp [ml] at h), (fun k => by simp)⟩, rfl⟩ ⟨rfl, rfl, rfl, rfl, rfl, rfl, trivial⟩ (fun w' H => H) ?_
  rintro ⟨k, gg, es, clock, kv⟩ ⟨hk, hM, hS, hR⟩
  dsimp only at hk hM hS hR ⊢
  repeat' (first | refine g_pv rfl rfl ?_ | refine g_nil ?_ | refine gq_then ?_ | refine gc_seq ?_ | refine gc_region ?_)
  refine gc_condC rfl (fun hc => ?_) (fun hc => ?_)
  rotate_left
  · have hge : k = p.fns.length := by have := of_decide_eq_false hc; omega
    repeat' (first | refine g_pv rfl rfl ?_ | refine g_nil ?_ | refine gq_then ?_ | refine gc_seq ?_ | refine gc_region ?_ | refine gc_exit ?_ | refine gc_ret ?_ | refine gq_then_exit ?_ | refine gq_block_exit ?_)
    refine gq_ret1 (.inr rfl) rfl rfl rfl (fun w' H => ⟨0, ?_, rfl, hp_nil H⟩)
    rw [hC2, hR, hge, List.drop_length]; rfl
  have hlt : k < p.fns.length := by have := of_decide_eq_true hc; omega
  have hx : p.fns[k]? = some (p.fns[k]) := List.getElem?_eq_getElem hlt
  have htk : p.fns.take (k + 1) = p.fns.take k ++ [p.fns[k]] := List.take_succ_eq_append_getElem hlt
  have hd : p.fns.drop k = p.fns[k] :: p.fns.drop (k + 1) := List.drop_eq_getElem_cons hlt
  have hmx : p.fns[k] ∈ p.fns := List.getElem_mem hlt
  generalize p.fns[k] = f at hx htk hd hmx
  have hjf : JgIn (hw w) ⟨p, f⟩ := ⟨hp, hp.fn f hmx⟩
  rw [hd, fnsB_cons] at hR
  repeat' (first | refine gq_then ?_ | refine gc_seq ?_ | refine gc_region ?_ | refine gc_block ?_ | refine gc_skip ?_)
  refine g_at (l := p.fns) (f := Fn.cells) (u := f) rfl rfl rfl rfl rfl (Int.natCast_nonneg k) (by omega) (hp.fns.le (old_le0 _ w)) hx rfl rfl rfl rfl (fun a => ?_)
  repeat' (first | refine g_nil ?_ | refine gq_then ?_ | refine g_alloc rfl rfl (fun _ => ?_) | refine g_st 0 rfl rfl rfl rfl rfl rfl rfl ?_)
  rename_i b8
  refine gc_heap (R' := [[(b8, .cells ⟨f.cells⟩ 32 (0, 0))], [(br, .map es clock)], [(b3, .cells ⟨(⟨p, gg⟩ : Jg).cells⟩ 59 (0, 0))], [(b1, .cells ⟨p.cells⟩ 25 (0, 0))]]) (fun w H => H) ?_
  refine gc_seq ?_
  repeat' (first | refine g_pv rfl rfl ?_ | refine g_ld 0 rfl rfl rfl rfl rfl rfl ?_ | refine g_nil ?_ | refine gq_then ?_ | refine gc_region ?_ | refine g_st 2 rfl rfl rfl rfl rfl rfl rfl ?_)
  refine gc_heap (R' := [[(b8, .cells ⟨f.cells⟩ 32 (0, 0))], [(br, .map es clock)], [(b3, .cells ⟨(⟨p, f⟩ : Jg).cells⟩ 59 (0, 0))], [(b1, .cells ⟨p.cells⟩ 25 (0, 0))]]) (fun w H => H) ?_
  repeat' (first | refine g_pv rfl rfl ?_ | refine g_ld 0 rfl rfl rfl rfl rfl rfl ?_ | refine gc_seq ?_ | refine gc_region ?_)
  refine g_look 1 (kf := Value.string) (k := f.nm) rfl rfl rfl rfl rfl (kl_string (Tryz.sx.ok.at rfl)) hM rfl ?_
  by_cases hmem : f.nm ∈ (p.fns.take k).map Fn.nm
  · have hex : ∃ v, ml kv f.nm = some v := by
      cases hq : ml kv f.nm with
      | some v => exact ⟨v, rfl⟩
      | none => exact absurd ((hS.keys _).2 hmem) (ml_none.1 hq)
    obtain ⟨v, hv⟩ := hex
    have hv1 := hS.one _ _ hv
    subst hv1
    refine g_eq 71 (u' := .int .i64 1) rfl (by rw [hv]; rfl) ?_
    repeat' (refine g_pv rfl rfl ?_)
    refine g_upd 1 (kf := Value.string) (k := f.nm) rfl rfl rfl rfl rfl (kl_string (Tryz.sx.ok.at rfl)) hM (fun es' clock' M' => ?_)
    repeat' (first | refine g_pv rfl rfl ?_ | refine g_ld 0 rfl rfl rfl rfl rfl rfl ?_ | refine g_nil ?_ | refine gq_then ?_ | refine gc_seq ?_ | refine gc_region ?_)
    refine g_look 1 (kf := Value.string) (k := f.nm) rfl rfl rfl rfl rfl (kl_string (Tryz.sx.ok.at rfl)) M' rfl ?_
    refine g_eq 76 (u' := .int .i64 2) rfl (by rw [ml_mput, if_pos rfl]; rfl) ?_
    repeat' (first | refine g_pv rfl rfl ?_ | refine g_nil ?_ | refine gq_then ?_ | refine gc_seq ?_ | refine gc_region ?_ | refine gc_cond_t rfl ?_ | refine gc_ret ?_ | refine gq_then_ret ?_ | refine gq_block_ret ?_ | refine g_no rfl rfl rfl rfl rfl ?_)
    refine gq_ret1 (.inr rfl) rfl rfl rfl (fun w' H => ⟨130, ?_, rfl, hp_nil H⟩)
    rw [hC2, hR, memT_iff.2 hmem]; rfl
  · have hv : ml kv f.nm = none := ml_none.2 (fun h => hmem ((hS.keys _).1 h))
    refine g_eq 71 (u' := .int .i64 0) rfl (by rw [hv]; rfl) ?_
    repeat' (refine g_pv rfl rfl ?_)
    refine g_upd 1 (kf := Value.string) (k := f.nm) rfl rfl rfl rfl rfl (kl_string (Tryz.sx.ok.at rfl)) hM (fun es' clock' M' => ?_)
    repeat' (first | refine g_pv rfl rfl ?_ | refine g_ld 0 rfl rfl rfl rfl rfl rfl ?_ | refine g_nil ?_ | refine gq_then ?_ | refine gc_seq ?_ | refine gc_region ?_)
    refine g_look 1 (kf := Value.string) (k := f.nm) rfl rfl rfl rfl rfl (kl_string (Tryz.sx.ok.at rfl)) M' rfl ?_
    refine g_eq 76 (u' := .int .i64 1) rfl (by rw [ml_mput, if_pos rfl]; rfl) ?_
    repeat' (first | refine g_pv rfl rfl ?_ | refine g_ld 2 rfl rfl rfl rfl rfl rfl ?_ | refine g_yes rfl rfl rfl ?_)
    refine g_call rfl (Cl.of Tryz.func25 rfl rfl) rfl rfl (fun w' hE => function_sp ⟨p, f⟩ w' (hjf.le (fun b o h => old_le hE b o (old_le0 _ w b o h)))) rfl ?_
    rintro t ht
    repeat' (first | refine g_pv rfl rfl ?_ | refine g_nil ?_ | refine gq_then ?_ | refine g_yes rfl rfl rfl ?_)
    cases t
    · repeat' (first | refine g_pv rfl rfl ?_ | refine g_nil ?_ | refine gq_then ?_ | refine gc_seq ?_ | refine gc_region ?_ | refine gc_cond_t rfl ?_ | refine gc_ret ?_ | refine gq_then_ret ?_ | refine gq_block_ret ?_)
      refine gq_ret1 (.inr rfl) rfl rfl rfl (fun w' H => ⟨130, ?_, rfl, hp_nil H⟩)
      rw [hC2, hR, ← ht]; simp [errB]
    · repeat' (first | refine g_pv rfl rfl ?_ | refine g_nil ?_ | refine gq_then ?_ | refine gc_region ?_ | refine gc_cond_f rfl ?_ | refine gc_skip ?_ | refine gq_block ?_)
      refine gq_again (k + 1, f, es', clock', _) ⟨hlt, M', ?_, ?_⟩ (by dsimp only; omega) ⟨rfl, rfl, rfl, rfl, rfl, inc_eq (by omega), trivial⟩ (fun w' H => hp_drop 0 H)
      · dsimp only
        refine ⟨fun q v h => ?_, fun q => ?_⟩
        · rw [ml_mput] at h
          split at h
          · cases h; rfl
          · exact hS.one q v h
        · rw [mem_keys_mput, htk, List.map_append, List.mem_append, hS.keys q]
          simp [or_comm]
      · dsimp only
        rw [hR, ← ht, memT_no hmem, htk, List.map_append]; rfl
end Go.Proofs.YtpohhfggmaihpaaGreatDoor

/- The law TacNexts. -/
namespace Go.Proofs.YtpohhfggmaihpaaGreatDoor
open Go.Wk
set_option linter.unusedVariables false
set_option linter.unusedSimpArgs false
attribute [local irreducible] G GC GQ GA GS Exit.then Exit.inBlock

theorem funcB_facts {p : Pr} {f : Fn} (h : funcB ⟨p, f⟩ = true) : FactsF f := by
  unfold funcB at h
  simp only [Bool.and_eq_true, Bool.not_eq_true', decide_eq_false_iff_not] at h
  obtain ⟨-, h1, -, h2, -, -, -, -, -, h3, h4⟩ := h
  have hpos : 0 ≤ f.te := by omega
  refine ⟨hpos, fun x hx => right_facts (List.all_eq_true.1 h4 x hx) hpos, fun x hx => ?_⟩
  unfold lastB at h3
  try dsimp only at h3
  rw [hx] at h3
  simpa using h3
theorem fnsB_all {p : Pr} : ∀ {l : List Fn} {s : List ByteArray}, fnsB p s l = true → ∀ f ∈ l, funcB ⟨p, f⟩ = true
  | [], _, _, f, hf => by cases hf
  | g :: t, s, h, f, hf => by
    rw [fnsB_cons] at h
    simp only [Bool.and_eq_true] at h
    rcases List.mem_cons.1 hf with rfl | hf
    · exact h.2.1
    · exact fnsB_all h.2.2 f hf
theorem check_facts {p : Pr} (h : checkB p = true) : ∀ f ∈ p.fns, FactsF f := fun f hf => by
  unfold checkB at h
  simp only [Bool.and_eq_true] at h
  exact funcB_facts (fnsB_all h.2.2.2.2.2.2 f hf)
/-- What is looked at of where an instruction goes on. -/
structure NL (n : Nat) (ends : Bool) (l : List Int) : Prop where
  ends : ends = decide (l.length = 0)
  len : l.length ≤ 2
  low : ∀ (i : Nat) x, l[i]? = some x → 0 ≤ x ∧ x < n
  up : ∀ (i : Nat) x y, l[i]? = some x → l[i + 1]? = some y → x < y
theorem nl_of {f : Fn} {k : Nat} {x : Ins} (hF : FactsF f) (hx : f.code[k]? = some x) : NL f.code.length (x.op == 9 || x.op == 14) (nextAt f.code k) := by
  have hlt := (List.getElem?_eq_some_iff.1 hx).1
  have hxe : f.code[k]'hlt = x := (List.getElem?_eq_some_iff.1 hx).2
  have hn : nextAt f.code k = nextL f.code.length x k := by
    unfold nextAt
    rw [dif_pos ⟨Int.natCast_nonneg k, by omega⟩]
    simp only [Int.toNat_natCast, hxe]
  rw [hn]
  have hm : x ∈ f.code := by rw [← hxe]; exact List.getElem_mem hlt
  rcases next_ok (hF.all x hm) hlt (fun he => hF.last x (by rw [show f.code.length - 1 = k from by omega]; exact hx)) with ⟨h1, h2⟩ | ⟨h1, h2⟩
  · rw [h2]
    refine ⟨?_, by decide, (fun i x h => by simp at h), (fun i x y h => by simp at h)⟩
    rcases h1 with h | h <;> simp [h]
  · have he : (x.op == 9 || x.op == 14) = false := by
      simp only [Bool.or_eq_false_iff, beq_eq_false_iff_ne]
      exact ⟨fun h => h1 (.inl h), fun h => h1 (.inr h)⟩
    rw [he]
    generalize nextL (f.code.length : Int) x (k : Int) = q at h2
    cases h2 with
    | one ha hb =>
      refine ⟨by simp, by simp, fun i x h => ?_, fun i x y h h' => by simp at h'⟩
      have : i = 0 := by have := (List.getElem?_eq_some_iff.1 h).1; simp at this; omega
      subst this
      simp at h; subst h; exact ⟨ha, hb⟩
    | two ha hb hc =>
      refine ⟨by simp, by simp, fun i x h => ?_, fun i x y h h' => ?_⟩
      · have hi : i = 0 ∨ i = 1 := by have := (List.getElem?_eq_some_iff.1 h).1; simp at this; omega
        rcases hi with rfl | rfl
        · simp at h; subst h; exact ⟨ha, by omega⟩
        · simp at h; subst h; exact ⟨by omega, hc⟩
      · have hi : i = 0 := by have := (List.getElem?_eq_some_iff.1 h').1; simp at this; omega
        subst hi
        simp at h h'; subst h; subst h'; exact hb

set_option maxHeartbeats 32000000 in
theorem tacNexts_sp (p : Pr) (w : World) (hp : PrIn (hw w) p) (h10 : Pow10 (hw w)) : Sp Tryz.prog 3 [p.val] w [] (fun _ : Unit => .bool true) (fun _ => []) (fun _ => True) := by
  have hflen := hp.flen
  refine enter (s := Tryz.sx) [] Tryz.func3 rfl rfl rfl (Eff.refl w) ?_
  repeat' (first | refine g_pv rfl rfl ?_ | refine g_ld 0 rfl rfl rfl rfl rfl rfl ?_ | refine g_nil ?_ | refine gq_then ?_ | refine gc_seq ?_ | refine gc_region ?_ | refine g_box rfl rfl (fun _ => ?_))
  rename_i b1
  refine g_call rfl (Cl.of Tryz.func8 rfl rfl) rfl rfl (fun w' hE => check_sp p w' (hp.le (fun b o h => old_le hE b o (old_le0 _ w b o h)))) rfl ?_
  rintro e he
  repeat' (first | refine g_pv rfl rfl ?_ | refine g_nil ?_ | refine gq_then ?_)
  refine gc_condC rfl (fun h1 => ?_) (fun h1 => ?_)
  · repeat' (first | refine gc_seq ?_ | refine gc_region ?_)
    refine g_call rfl (Cl.of Tryz.func9 rfl rfl) rfl rfl (fun w' hE => heads13_sp w' (h10.le (fun b o h => old_le hE b o (old_le0 _ w b o h)))) rfl (fun _ _ => ?_)
    repeat' (first | refine g_pv rfl rfl ?_ | refine g_nil ?_ | refine gq_then ?_ | refine gc_ret ?_ | refine gq_then_ret ?_)
    exact gq_ret1 (.inr rfl) rfl rfl rfl (fun w' H => ⟨(), trivial, rfl, hp_nil H⟩)
  have hC : checkB p = true := by
    have h2 : e = 0 := by simpa using h1
    rw [h2] at he
    cases hq : checkB p with
    | true => rfl
    | false => rw [hq] at he; exact absurd he (by decide)
  have hFs := check_facts hC
  refine gc_heap (R' := [[(b1, .cells ⟨p.cells⟩ 25 (0, 0))]]) (fun w H => H) ?_
  repeat' (first | refine g_pv rfl rfl ?_ | refine g_nil ?_ | refine gq_then ?_ | refine gc_seq ?_ | refine gc_region ?_ | refine gc_block ?_ | refine gc_skip ?_)
  refine gc_loop (Y := Nat) (fun y => y ≤ p.fns.length) (fun y => [(1, .pointer (some ⟨b1, 0, none⟩)), (3, .int .i64 y)]) (fun y => [[(b1, .cells ⟨p.cells⟩ 25 (0, 0))]])
    (fun y => p.fns.length - y) 0 (Nat.zero_le _) ⟨rfl, rfl, trivial⟩ (fun w' H => H) ?_
  rintro i hi
  dsimp only at hi ⊢
  repeat' (first | refine g_pv rfl rfl ?_ | refine g_ld 0 rfl rfl rfl rfl rfl rfl ?_ | refine g_nil ?_ | refine gq_then ?_ | refine gc_seq ?_ | refine gc_region ?_)
  refine gc_condC rfl (fun hc => ?_) (fun hc => ?_)
  rotate_left
  · repeat' (first | refine gq_then ?_ | refine gc_seq ?_ | refine gc_region ?_ | refine gc_exit ?_ | refine gq_then_exit ?_ | refine gq_block_exit ?_)
    refine g_call rfl (Cl.of Tryz.func9 rfl rfl) rfl rfl (fun w' hE => heads13_sp w' (h10.le (fun b o h => old_le hE b o (old_le0 _ w b o h)))) rfl (fun _ _ => ?_)
    repeat' (first | refine g_pv rfl rfl ?_ | refine g_nil ?_ | refine gq_then ?_ | refine gc_ret ?_)
    exact gq_ret1 (.inr rfl) rfl rfl rfl (fun w' H => ⟨(), trivial, rfl, hp_nil H⟩)
  have hilt : i < p.fns.length := by have := of_decide_eq_true hc; omega
  have hxf : p.fns[i]? = some (p.fns[i]) := List.getElem?_eq_getElem hilt
  have hmf : p.fns[i] ∈ p.fns := List.getElem_mem hilt
  generalize p.fns[i] = f at hxf hmf
  have hF := hFs f hmf
  have hfin := hp.fn f hmf
  have hclen := hfin.code.len
  repeat' (first | refine g_pv rfl rfl ?_ | refine g_ld 0 rfl rfl rfl rfl rfl rfl ?_ | refine gq_then ?_ | refine gc_seq ?_ | refine gc_region ?_ | refine gc_block ?_ | refine gc_skip ?_)
  refine g_atF (l := p.fns) (f := Fn.cells) (q := f) (cs := [.slice f.cA f.code.length f.cC]) (off := 5) rfl rfl rfl rfl rfl rfl rfl rfl (Int.natCast_nonneg i) (by omega) (hp.fns.le (old_le0 _ w)) hxf rfl rfl rfl rfl rfl (fun a a2 => ?_)
  repeat' (first | refine g_pv rfl rfl ?_ | refine g_nil ?_ | refine gq_then ?_ | refine gc_seq ?_ | refine gc_region ?_ | refine gc_block ?_)
  refine gc_loop (Y := Nat) (fun y => y ≤ f.code.length) (fun y => [(1, .pointer (some ⟨b1, 0, none⟩)), (3, .int .i64 i), (4, .slice f.cA f.code.length f.cC), (5, .int .i64 y)]) (fun y => [[(b1, .cells ⟨p.cells⟩ 25 (0, 0))]])
    (fun y => f.code.length - y) 0 (Nat.zero_le _) ⟨rfl, rfl, rfl, rfl, trivial⟩ (fun w' H => H) ?_
  rintro k hk
  dsimp only at hk ⊢
  repeat' (first | refine g_pv rfl rfl ?_ | refine g_nil ?_ | refine gq_then ?_ | refine gc_seq ?_ | refine gc_region ?_)
  refine gc_condC rfl (fun hc2 => ?_) (fun hc2 => ?_)
  rotate_left
  · repeat' (first | refine g_pv rfl rfl ?_ | refine g_nil ?_ | refine gq_then ?_ | refine gc_region ?_ | refine gc_exit ?_ | refine gq_then_exit ?_ | refine gq_block ?_ | refine gq_block_exit ?_)
    exact gq_again (i + 1) hilt (by omega) ⟨rfl, inc_eq (by omega), trivial⟩ (fun w' H => H)
  have hklt : k < f.code.length := by have := of_decide_eq_true hc2; omega
  have hxk : f.code[k]? = some (f.code[k]) := List.getElem?_eq_getElem hklt
  have hmk : f.code[k] ∈ f.code := List.getElem_mem hklt
  generalize f.code[k] = x at hxk hmk
  have hN := nl_of hF hxk
  have hFx := hF.all x hmk
  have hxin := hfin.code.all x hmk
  obtain ⟨bb, oo, hA, hcq⟩ := hfin.code.row k _ hxk
  repeat' (first | refine g_pv rfl rfl ?_ | refine gq_then ?_ | refine gc_seq ?_ | refine gc_region ?_ | refine gc_block ?_ | refine gc_skip ?_)
  refine g_call rfl (Cl.of Tryz.func10 rfl rfl) rfl rfl (fun w' hE => nextAny_sp f.code k f.cA f.cC w' (hfin.code.le (fun b o h => old_le hE b o (old_le0 _ w b o h)))) rfl ?_
  rintro ⟨v3, A3⟩ ho3
  obtain ⟨ad3, cap3, hv3, -⟩ := Own.shape ho3
  dsimp only at hv3 ho3 ⊢
  subst hv3
  generalize hNL : nextAt f.code (k : Int) = nl at *
  repeat' (first | refine g_pv rfl rfl ?_ | refine g_nil ?_ | refine gq_then ?_)
  refine gc_cut (Y := Unit) (fun _ => True) (fun _ => [(1, .pointer (some ⟨b1, 0, none⟩)), (3, .int .i64 i), (4, .slice f.cA f.code.length f.cC), (5, .int .i64 k), (6, .slice ad3 nl.length cap3), (7, .bool (x.op == 9 || x.op == 14))])
    (fun _ => [A3, [(b1, .cells ⟨p.cells⟩ 25 (0, 0))]]) ?_ ?_
  · repeat' (first | refine g_pv rfl rfl ?_ | refine gc_region ?_)
    refine g_p (p_ix (bx := bb) (o := oo) (by show some (Value.slice f.cA _ _) = _; rw [hA]) rfl rfl rfl (Int.natCast_nonneg k) (by omega)) rfl ?_
    repeat' (refine g_pv rfl rfl ?_)
    refine g_ldO rfl rfl (cs := [.int .i64 x.op]) rfl rfl (fun i u hu => ?_) rfl ?_
    · have hi0 : i = 0 := by have := (List.getElem?_eq_some_iff.1 hu).1; simp at this; omega
      subst hi0
      simp only [List.getElem?_cons_zero, Option.some.injEq] at hu; subst hu
      exact (old_le0 _ w).cell (hcq 0 _ rfl)
    repeat' (refine g_pv rfl rfl ?_)
    refine g_case (t := 44) rfl (fun g1 => ?_) (fun g1 => ?_)
    · have g1 : (x.op == 9) = true := g1
      repeat' (first | refine g_pv rfl rfl ?_ | refine g_nil ?_ | refine g_no rfl rfl rfl rfl rfl ?_)
      exact gq_at () trivial ⟨rfl, rfl, rfl, rfl, rfl, by rw [g1]; rfl, trivial⟩ (fun w' H => H)
    have g1 : (x.op == 9) = false := g1
    repeat' (first | refine g_pv rfl rfl ?_ | refine g_yes rfl rfl rfl ?_)
    refine g_p (p_ix (bx := bb) (o := oo) (by show some (Value.slice f.cA _ _) = _; rw [hA]) rfl rfl rfl (Int.natCast_nonneg k) (by omega)) rfl ?_
    repeat' (first | refine g_pv rfl rfl ?_ | refine g_yes rfl rfl rfl ?_)
    refine g_ldO rfl rfl (cs := [.int .i64 x.op]) rfl rfl (fun i u hu => ?_) rfl ?_
    · have hi0 : i = 0 := by have := (List.getElem?_eq_some_iff.1 hu).1; simp at this; omega
      subst hi0
      simp only [List.getElem?_cons_zero, Option.some.injEq] at hu; subst hu
      exact (old_le0 _ w).cell (hcq 0 _ rfl)
    repeat' (first | refine g_pv rfl rfl ?_ | refine g_nil ?_ | refine g_yes rfl rfl rfl ?_)
    exact gq_at () trivial ⟨rfl, rfl, rfl, rfl, rfl, by rw [g1]; rfl, trivial⟩ (fun w' H => H)
  rintro - -
  try dsimp only
  have hnlen := hN.len
  repeat' (first | refine g_pv rfl rfl ?_ | refine gc_seq ?_ | refine gc_region ?_)
  refine g_p (p_neB rfl rfl rfl) rfl ?_
  refine g_eq 56 (u' := .bool false) rfl (by
    rw [hN.ends]
    congr 1
    by_cases hl : nl.length = 0
    · rw [hl]; rfl
    · have hl2 : (nl.length : Int) ≠ 0 := by omega
      rw [decide_eq_false hl, beq_eq_false_iff_ne.2 hl2]; rfl) ?_
  repeat' (first | refine g_pv rfl rfl ?_ | refine g_nil ?_ | refine gq_then ?_ | refine g_yes rfl rfl rfl ?_)
  refine gc_condC rfl (fun g2 => ?_) (fun g2 => ?_)
  · have := of_decide_eq_true g2
    exact absurd this (by omega)
  repeat' (first | refine g_pv rfl rfl ?_ | refine g_nil ?_ | refine gq_then ?_ | refine gc_seq ?_ | refine gc_region ?_ | refine gc_block ?_ | refine gc_skip ?_)
  refine gc_loop (Y := Nat) (fun y => y ≤ nl.length) (fun y => [(1, .pointer (some ⟨b1, 0, none⟩)), (3, .int .i64 i), (4, .slice f.cA f.code.length f.cC), (5, .int .i64 k), (6, .slice ad3 nl.length cap3), (8, .int .i64 y)]) (fun y => [A3, [(b1, .cells ⟨p.cells⟩ 25 (0, 0))]])
    (fun y => nl.length - y) 0 (Nat.zero_le _) ⟨rfl, rfl, rfl, rfl, rfl, rfl, trivial⟩ (fun w' H => H) ?_
  rintro n hn
  dsimp only at hn ⊢
  repeat' (first | refine g_pv rfl rfl ?_ | refine g_nil ?_ | refine gq_then ?_ | refine gc_seq ?_ | refine gc_region ?_)
  refine gc_condC rfl (fun hc3 => ?_) (fun hc3 => ?_)
  · have hnlt : n < nl.length := by have := of_decide_eq_true hc3; omega
    have hxn : nl[n]? = some (nl[n]) := List.getElem?_eq_getElem hnlt
    have hlow := hN.low n _ hxn
    generalize nl[n] = a at hxn hlow
    repeat' (first | refine gq_then ?_ | refine gc_seq ?_ | refine gc_block ?_ | refine gc_skip ?_)
    refine gc_draw [A3, [(b1, .cells ⟨p.cells⟩ 25 (0, 0))]] [] rfl (List.Perm.of_eq rfl) ?_
    (refine ga_p 0 (by repeat first | exact NoP.sp | apply NoP.then | apply NoP.block) rfl (pv_spec rfl) rfl (by kernel_rfl) (by kernel_rfl) (by kernel_rfl) ?_); (refine ga_p 1 (by repeat first | exact NoP.sp | apply NoP.then | apply NoP.block) rfl (pv_spec rfl) rfl (by kernel_rfl) (by kernel_rfl) (by kernel_rfl) ?_)
    refine ga_at 2 3 (l := nl) (f := fI) (u := a) (by repeat first | exact NoP.sp | apply NoP.then | apply NoP.block) rfl wanted_none rfl (fun a _ => wanted_none a) rfl rfl rfl rfl rfl (Int.natCast_nonneg n) (by omega) (still_rd 0 rfl (fun _ => rfl) ho3 rfl) hxn rfl rfl rfl rfl (by kernel_rfl) (by kernel_rfl) (by kernel_rfl) (by kernel_rfl) (by kernel_rfl) (fun _ => ?_)
    (refine ga_p 4 (by repeat first | exact NoP.sp | apply NoP.then | apply NoP.block) rfl (pv_spec rfl) rfl (by kernel_rfl) (by kernel_rfl) (by kernel_rfl) ?_); (refine ga_p 5 (by repeat first | exact NoP.sp | apply NoP.then | apply NoP.block) rfl (pv_spec rfl) rfl (by kernel_rfl) (by kernel_rfl) (by kernel_rfl) ?_)
    refine ga_eq 73 (u' := .bool false) rfl (by simp; omega) ?_
    (refine ga_py 6 (by repeat first | exact NoP.sp | apply NoP.then | apply NoP.block) rfl rfl rfl rfl (pv_spec rfl) rfl (by kernel_rfl) (by kernel_rfl) (by kernel_rfl) ?_); (refine ga_py 7 (by repeat first | exact NoP.sp | apply NoP.then | apply NoP.block) rfl rfl rfl rfl (pv_spec rfl) rfl (by kernel_rfl) (by kernel_rfl) (by kernel_rfl) ?_)
    refine ga_at 8 9 (l := nl) (f := fI) (u := a) (by repeat first | exact NoP.sp | apply NoP.then | apply NoP.block) rfl (wanted_yes rfl rfl rfl) rfl (fun a _ h => wanted_yes rfl rfl rfl a h) rfl rfl rfl rfl rfl (Int.natCast_nonneg n) (by omega) (still_rd 0 rfl (fun _ => rfl) ho3 rfl) hxn rfl rfl rfl rfl (by kernel_rfl) (by kernel_rfl) (by kernel_rfl) (by kernel_rfl) (by kernel_rfl) (fun _ => ?_)
    (refine ga_py 10 (by repeat first | exact NoP.sp | apply NoP.then | apply NoP.block) rfl rfl rfl rfl (pv_spec rfl) rfl (by kernel_rfl) (by kernel_rfl) (by kernel_rfl) ?_); (refine ga_py 11 (by repeat first | exact NoP.sp | apply NoP.then | apply NoP.block) rfl rfl rfl rfl (pv_spec rfl) rfl (by kernel_rfl) (by kernel_rfl) (by kernel_rfl) ?_); (refine ga_py 12 (by repeat first | exact NoP.sp | apply NoP.then | apply NoP.block) rfl rfl rfl rfl (pv_spec rfl) rfl (by kernel_rfl) (by kernel_rfl) (by kernel_rfl) ?_)
    refine ga_eq 80 (u' := .bool false) rfl (by simp; omega) ?_
    (refine ga_p 13 (by repeat first | exact NoP.sp | apply NoP.then | apply NoP.block) rfl (pv_spec rfl) rfl (by kernel_rfl) (by kernel_rfl) (by kernel_rfl) ?_); (refine ga_p 14 (by repeat first | exact NoP.sp | apply NoP.then | apply NoP.block) rfl (pv_spec rfl) rfl (by kernel_rfl) (by kernel_rfl) (by kernel_rfl) ?_); (refine ga_py 15 (by repeat first | exact NoP.sp | apply NoP.then | apply NoP.block) rfl rfl rfl rfl (pv_spec rfl) rfl (by kernel_rfl) (by kernel_rfl) (by kernel_rfl) ?_); (refine ga_py 16 (by repeat first | exact NoP.sp | apply NoP.then | apply NoP.block) rfl rfl rfl rfl (pv_spec rfl) rfl (by kernel_rfl) (by kernel_rfl) (by kernel_rfl) ?_); (refine ga_py 17 (by repeat first | exact NoP.sp | apply NoP.then | apply NoP.block) rfl rfl rfl rfl (pv_spec rfl) rfl (by kernel_rfl) (by kernel_rfl) (by kernel_rfl) ?_)
    refine ga_case (t := 85) rfl (fun g3 => ?_) (fun g3 => ?_)
    · have hn0 : 0 < n := by have := of_decide_eq_true g3; omega
      have hxm : nl[n - 1]? = some (nl[n - 1]'(by omega)) := List.getElem?_eq_getElem (by omega)
      have hup := hN.up (n - 1) _ a hxm (by rw [show n - 1 + 1 = n from by omega]; exact hxn)
      generalize nl[n - 1]'(by omega) = a' at hxm hup
      (refine ga_py 18 (by repeat first | exact NoP.sp | apply NoP.then | apply NoP.block) rfl rfl rfl rfl (pv_spec rfl) rfl (by kernel_rfl) (by kernel_rfl) (by kernel_rfl) ?_); (refine ga_py 19 (by repeat first | exact NoP.sp | apply NoP.then | apply NoP.block) rfl rfl rfl rfl (pv_spec rfl) rfl (by kernel_rfl) (by kernel_rfl) (by kernel_rfl) ?_)
      refine ga_at 20 21 (l := nl) (f := fI) (u := a) (by repeat first | exact NoP.sp | apply NoP.then | apply NoP.block) rfl (wanted_yes rfl rfl rfl) rfl (fun a _ h => wanted_yes rfl rfl rfl a h) rfl rfl rfl rfl rfl (Int.natCast_nonneg n) (by omega) (still_rd 0 rfl (fun _ => rfl) ho3 rfl) hxn rfl rfl rfl rfl (by kernel_rfl) (by kernel_rfl) (by kernel_rfl) (by kernel_rfl) (by kernel_rfl) (fun _ => ?_)
      (refine ga_py 22 (by repeat first | exact NoP.sp | apply NoP.then | apply NoP.block) rfl rfl rfl rfl (pv_spec rfl) rfl (by kernel_rfl) (by kernel_rfl) (by kernel_rfl) ?_); (refine ga_py 23 (by repeat first | exact NoP.sp | apply NoP.then | apply NoP.block) rfl rfl rfl rfl (pv_spec rfl) rfl (by kernel_rfl) (by kernel_rfl) (by kernel_rfl) ?_); (refine ga_py 24 (by repeat first | exact NoP.sp | apply NoP.then | apply NoP.block) rfl rfl rfl rfl (pv_spec rfl) rfl (by kernel_rfl) (by kernel_rfl) (by kernel_rfl) ?_)
      refine ga_eq 92 (u' := .int .i64 ((n - 1 : Nat) : Int)) rfl (by congr 1; rw [IntKind.wrap_i64]; omega) ?_
      refine ga_at 25 26 (l := nl) (f := fI) (u := a') (by repeat first | exact NoP.sp | apply NoP.then | apply NoP.block) rfl (wanted_yes rfl rfl rfl) rfl (fun a _ h => wanted_yes rfl rfl rfl a h) rfl rfl rfl rfl rfl (Int.natCast_nonneg _) (by omega) (still_rd 0 rfl (fun _ => rfl) ho3 rfl) hxm rfl rfl rfl rfl (by kernel_rfl) (by kernel_rfl) (by kernel_rfl) (by kernel_rfl) (by kernel_rfl) (fun _ => ?_)
      (refine ga_py 27 (by repeat first | exact NoP.sp | apply NoP.then | apply NoP.block) rfl rfl rfl rfl (pv_spec rfl) rfl (by kernel_rfl) (by kernel_rfl) (by kernel_rfl) ?_)
      refine ga_eq 95 (u' := .bool false) rfl (by simp; omega) ?_
      (refine ga_py 28 (by repeat first | exact NoP.sp | apply NoP.then | apply NoP.block) rfl rfl rfl rfl (pv_spec rfl) rfl (by kernel_rfl) (by kernel_rfl) (by kernel_rfl) ?_); (refine ga_p 29 (by repeat first | exact NoP.sp | apply NoP.then | apply NoP.block) rfl (pv_spec rfl) rfl (by kernel_rfl) (by kernel_rfl) (by kernel_rfl) ?_)
      refine ga_nil (by kernel_rfl) ?_
      repeat' (first | refine g_pv rfl rfl ?_ | refine g_nil ?_ | refine gq_then ?_ | refine gc_region ?_ | refine gc_cond_f rfl ?_ | refine gc_skip ?_ | refine gq_block ?_)
      exact gq_again (n + 1) hnlt (by omega) ⟨rfl, rfl, rfl, rfl, rfl, inc_eq (by omega), trivial⟩ (fun w' H => H)
    · (refine ga_n 18 (by repeat first | exact NoP.sp | apply NoP.then | apply NoP.block) rfl rfl rfl rfl rfl rfl (by kernel_rfl) (by kernel_rfl) (by kernel_rfl) ?_); (refine ga_n 19 (by repeat first | exact NoP.sp | apply NoP.then | apply NoP.block) rfl rfl rfl rfl rfl rfl (by kernel_rfl) (by kernel_rfl) (by kernel_rfl) ?_); (refine ga_n 20 (by repeat first | exact NoP.sp | apply NoP.then | apply NoP.block) rfl rfl rfl rfl rfl rfl (by kernel_rfl) (by kernel_rfl) (by kernel_rfl) ?_); (refine ga_n 21 (by repeat first | exact NoP.sp | apply NoP.then | apply NoP.block) rfl rfl rfl rfl rfl rfl (by kernel_rfl) (by kernel_rfl) (by kernel_rfl) ?_); (refine ga_n 22 (by repeat first | exact NoP.sp | apply NoP.then | apply NoP.block) rfl rfl rfl rfl rfl rfl (by kernel_rfl) (by kernel_rfl) (by kernel_rfl) ?_); (refine ga_n 23 (by repeat first | exact NoP.sp | apply NoP.then | apply NoP.block) rfl rfl rfl rfl rfl rfl (by kernel_rfl) (by kernel_rfl) (by kernel_rfl) ?_); (refine ga_n 24 (by repeat first | exact NoP.sp | apply NoP.then | apply NoP.block) rfl rfl rfl rfl rfl rfl (by kernel_rfl) (by kernel_rfl) (by kernel_rfl) ?_); (refine ga_n 25 (by repeat first | exact NoP.sp | apply NoP.then | apply NoP.block) rfl rfl rfl rfl rfl rfl (by kernel_rfl) (by kernel_rfl) (by kernel_rfl) ?_); (refine ga_n 26 (by repeat first | exact NoP.sp | apply NoP.then | apply NoP.block) rfl rfl rfl rfl rfl rfl (by kernel_rfl) (by kernel_rfl) (by kernel_rfl) ?_); (refine ga_n 27 (by repeat first | exact NoP.sp | apply NoP.then | apply NoP.block) rfl rfl rfl rfl rfl rfl (by kernel_rfl) (by kernel_rfl) (by kernel_rfl) ?_); (refine ga_py 28 (by repeat first | exact NoP.sp | apply NoP.then | apply NoP.block) rfl rfl rfl rfl (pv_spec rfl) rfl (by kernel_rfl) (by kernel_rfl) (by kernel_rfl) ?_); (refine ga_p 29 (by repeat first | exact NoP.sp | apply NoP.then | apply NoP.block) rfl (pv_spec rfl) rfl (by kernel_rfl) (by kernel_rfl) (by kernel_rfl) ?_)
      refine ga_nil (by kernel_rfl) ?_
      repeat' (first | refine g_pv rfl rfl ?_ | refine g_nil ?_ | refine gq_then ?_ | refine gc_region ?_ | refine gc_cond_f rfl ?_ | refine gc_skip ?_ | refine gq_block ?_)
      exact gq_again (n + 1) hnlt (by omega) ⟨rfl, rfl, rfl, rfl, rfl, inc_eq (by omega), trivial⟩ (fun w' H => H)
  have hwr := hFx.wr
  have hwr2 := writes_ge x
  have hrd := reads_in hFx hxin.ok
  repeat' (first | refine g_pv rfl rfl ?_ | refine gq_then ?_ | refine gc_seq ?_ | refine gc_region ?_ | refine gc_exit ?_ | refine gq_then_exit ?_ | refine gq_block_exit ?_)
  refine g_at (l := f.code) (f := Ins.cells) (u := x) rfl rfl rfl rfl rfl (Int.natCast_nonneg k) (by omega) (hfin.code.row.le (old_le0 _ w)) hxk rfl rfl rfl rfl (fun _ => ?_)
  refine g_call rfl (Cl.of Tryz.func11 rfl rfl) rfl rfl (fun w' hE => writes_sp x w') rfl (fun _ _ => ?_)
  repeat' (first | refine g_pv rfl rfl ?_ | refine g_nil ?_ | refine gq_then ?_ | refine gc_seq ?_ | refine gc_region ?_)
  refine g_at (l := f.code) (f := Ins.cells) (u := x) rfl rfl rfl rfl rfl (Int.natCast_nonneg k) (by omega) (hfin.code.row.le (old_le0 _ w)) hxk rfl rfl rfl rfl (fun _ => ?_)
  refine g_call rfl (Cl.of Tryz.func12 rfl rfl) rfl rfl (fun w' hE => reads_sp x w' (hxin.le (fun b o h => old_le hE b o (old_le0 _ w b o h)))) rfl ?_
  rintro ⟨v4, A4⟩ ho4
  obtain ⟨ad4, cap4, hv4, -⟩ := Own.shape ho4
  have hsm4 := OwnI.small ho4
  try dsimp only at hv4 ho4 ⊢
  subst hv4
  generalize x.reads = rd at *
  generalize x.writes = wr at *
  repeat' (first | refine g_pv rfl rfl ?_ | refine g_ld 2 rfl rfl rfl rfl rfl rfl ?_ | refine g_nil ?_ | refine gq_then ?_ | refine gc_seq ?_ | refine gc_region ?_)
  refine g_atF (l := p.fns) (f := Fn.cells) (q := f) (cs := [.int .i64 f.te]) (off := 2) rfl rfl rfl rfl rfl rfl rfl rfl (Int.natCast_nonneg i) (by omega) (hp.fns.le (old_le0 _ w)) hxf rfl rfl rfl rfl rfl (fun _ _ => ?_)
  repeat' (refine g_pv rfl rfl ?_)
  refine g_eq 116 (u' := .bool false) rfl (by simp; omega) ?_
  repeat' (first | refine g_pv rfl rfl ?_ | refine g_nil ?_ | refine gq_then ?_ | refine g_yes rfl rfl rfl ?_)
  refine gc_condC rfl (fun g4 => ?_) (fun g4 => ?_)
  · have := of_decide_eq_true g4
    exact absurd this (by omega)
  obtain ⟨bf, of', hAf, hcf⟩ := hp.fns i _ hxf
  repeat' (first | refine g_pv rfl rfl ?_ | refine g_nil ?_ | refine gq_then ?_ | refine gc_seq ?_ | refine gc_region ?_ | refine gc_block ?_ | refine gc_skip ?_)
  refine gc_loop (Y := Nat) (fun y => y ≤ rd.length) (fun y => [(1, .pointer (some ⟨b1, 0, none⟩)), (3, .int .i64 i), (4, .slice f.cA f.code.length f.cC), (5, .int .i64 k), (10, .slice ad4 rd.length cap4), (11, .int .i64 y)]) (fun y => [A4, A3, [(b1, .cells ⟨p.cells⟩ 25 (0, 0))]])
    (fun y => rd.length - y) 0 (Nat.zero_le _) ⟨rfl, rfl, rfl, rfl, rfl, rfl, trivial⟩ (fun w' H => H) ?_
  rintro m hm
  try dsimp only at hm ⊢
  repeat' (first | refine g_pv rfl rfl ?_ | refine g_nil ?_ | refine gq_then ?_ | refine gc_seq ?_ | refine gc_region ?_)
  refine gc_condC rfl (fun hc5 => ?_) (fun hc5 => ?_)
  · have hmlt : m < rd.length := by have := of_decide_eq_true hc5; omega
    have hxm : rd[m]? = some (rd[m]) := List.getElem?_eq_getElem hmlt
    have hrm := hrd _ (List.getElem_mem hmlt)
    generalize rd[m] = a at hxm hrm
    repeat' (first | refine gq_then ?_ | refine gc_seq ?_ | refine gc_block ?_ | refine gc_skip ?_)
    refine gc_draw [A4, A3, [(b1, .cells ⟨p.cells⟩ 25 (0, 0))]] [] rfl (List.Perm.of_eq rfl) ?_
    (refine ga_p 0 (by repeat first | exact NoP.sp | apply NoP.then | apply NoP.block) rfl (pv_spec rfl) rfl (by kernel_rfl) (by kernel_rfl) (by kernel_rfl) ?_); (refine ga_p 1 (by repeat first | exact NoP.sp | apply NoP.then | apply NoP.block) rfl (pv_spec rfl) rfl (by kernel_rfl) (by kernel_rfl) (by kernel_rfl) ?_)
    refine ga_at 2 3 (l := rd) (f := fI) (u := a) (by repeat first | exact NoP.sp | apply NoP.then | apply NoP.block) rfl wanted_none rfl (fun a _ => wanted_none a) rfl rfl rfl rfl rfl (Int.natCast_nonneg m) (by omega) (still_rd 0 rfl (fun _ => rfl) ho4 rfl) hxm rfl rfl rfl rfl (by kernel_rfl) (by kernel_rfl) (by kernel_rfl) (by kernel_rfl) (by kernel_rfl) (fun _ => ?_)
    (refine ga_p 4 (by repeat first | exact NoP.sp | apply NoP.then | apply NoP.block) rfl (pv_spec rfl) rfl (by kernel_rfl) (by kernel_rfl) (by kernel_rfl) ?_); (refine ga_p 5 (by repeat first | exact NoP.sp | apply NoP.then | apply NoP.block) rfl (pv_spec rfl) rfl (by kernel_rfl) (by kernel_rfl) (by kernel_rfl) ?_)
    refine ga_eq 131 (u' := .bool false) rfl (by simp; omega) ?_
    (refine ga_py 6 (by repeat first | exact NoP.sp | apply NoP.then | apply NoP.block) rfl rfl rfl rfl (pv_spec rfl) rfl (by kernel_rfl) (by kernel_rfl) (by kernel_rfl) ?_); (refine ga_py 7 (by repeat first | exact NoP.sp | apply NoP.then | apply NoP.block) rfl rfl rfl rfl (pv_spec rfl) rfl (by kernel_rfl) (by kernel_rfl) (by kernel_rfl) ?_)
    refine ga_at 8 9 (l := rd) (f := fI) (u := a) (by repeat first | exact NoP.sp | apply NoP.then | apply NoP.block) rfl (wanted_yes rfl rfl rfl) rfl (fun a _ h => wanted_yes rfl rfl rfl a h) rfl rfl rfl rfl rfl (Int.natCast_nonneg m) (by omega) (still_rd 0 rfl (fun _ => rfl) ho4 rfl) hxm rfl rfl rfl rfl (by kernel_rfl) (by kernel_rfl) (by kernel_rfl) (by kernel_rfl) (by kernel_rfl) (fun _ => ?_)
    (refine ga_py 10 (by repeat first | exact NoP.sp | apply NoP.then | apply NoP.block) rfl rfl rfl rfl (pv_spec rfl) rfl (by kernel_rfl) (by kernel_rfl) (by kernel_rfl) ?_); (refine ga_ld 11 2 (by repeat first | exact NoP.sp | apply NoP.then | apply NoP.block) rfl (wanted_yes rfl rfl rfl) rfl rfl rfl rfl rfl rfl (by kernel_rfl) (by kernel_rfl) (by kernel_rfl) ?_); (refine ga_py 12 (by repeat first | exact NoP.sp | apply NoP.then | apply NoP.block) rfl rfl rfl rfl (pv_spec rfl) rfl (by kernel_rfl) (by kernel_rfl) (by kernel_rfl) ?_)
    refine ga_py 13 (by repeat first | exact NoP.sp | apply NoP.then | apply NoP.block) rfl rfl rfl rfl (p_ix (bx := bf) (o := of') (by show some (Value.slice p.fA _ _) = _; rw [hAf]) rfl rfl rfl (Int.natCast_nonneg i) (by omega)) rfl (by kernel_rfl) (by kernel_rfl) (by kernel_rfl) ?_
    (refine ga_py 14 (by repeat first | exact NoP.sp | apply NoP.then | apply NoP.block) rfl rfl rfl rfl (pv_spec rfl) rfl (by kernel_rfl) (by kernel_rfl) (by kernel_rfl) ?_)
    refine ga_ldO 15 (cs := [.int .i64 f.te]) (by repeat first | exact NoP.sp | apply NoP.then | apply NoP.block) rfl (wanted_yes rfl rfl rfl) rfl rfl rfl rfl (fun k u hk => ?_) rfl (by kernel_rfl) (by kernel_rfl) (by kernel_rfl) ?_
    · have hk0 : k = 0 := by have := (List.getElem?_eq_some_iff.1 hk).1; simp at this; omega
      subst hk0
      simp only [List.getElem?_cons_zero, Option.some.injEq] at hk; subst hk
      exact (old_le0 _ w).cell (hcf 2 _ rfl)
    (refine ga_py 16 (by repeat first | exact NoP.sp | apply NoP.then | apply NoP.block) rfl rfl rfl rfl (pv_spec rfl) rfl (by kernel_rfl) (by kernel_rfl) (by kernel_rfl) ?_)
    refine ga_eq 142 (u' := .bool false) rfl (by simp; omega) ?_
    (refine ga_p 17 (by repeat first | exact NoP.sp | apply NoP.then | apply NoP.block) rfl (pv_spec rfl) rfl (by kernel_rfl) (by kernel_rfl) (by kernel_rfl) ?_)
    refine ga_nil (by kernel_rfl) ?_
    repeat' (first | refine g_pv rfl rfl ?_ | refine g_nil ?_ | refine gq_then ?_ | refine gc_region ?_ | refine gc_cond_f rfl ?_ | refine gc_skip ?_ | refine gq_block ?_)
    exact gq_again (m + 1) hmlt (by omega) ⟨rfl, rfl, rfl, rfl, rfl, inc_eqM (by omega), trivial⟩ (fun w' H => H)
  repeat' (first | refine g_pv rfl rfl ?_ | refine g_nil ?_ | refine gq_then ?_ | refine gc_region ?_ | refine gc_exit ?_ | refine gq_then_exit ?_ | refine gq_block ?_ | refine gq_block_exit ?_)
  exact gq_again (k + 1) hklt (by omega) ⟨rfl, rfl, rfl, inc_eq (by omega), trivial⟩ (fun w' H => hp_take 2 rfl (fun H => hp_nil H) H)
end Go.Proofs.YtpohhfggmaihpaaGreatDoor

/- TacNexts: PROVED FOR EVERY INPUT: the call returns true, and its argument reads as it read; over worlds whose listed tables read as the program lays them. -/
namespace Go.Proofs.YtpohhfggmaihpaaGreatDoor
open Go.Wk Go.ChangeShapes Go.WideShapes Go.ChangeAt Go.RowKit
set_option linter.unusedVariables false
set_option maxRecDepth 100000

theorem prog_again {H : Type} {enc : TypeId × Value → H} {W W' : World} {v : Value} {d : DataW H} {p : List MemPlace} (h : DataW.Trod enc Tryz.prog W 0 (fun _ => true) true 25 v d p) (hB : Below W.heap.size W W') (hlt : ∀ x ∈ p, x.block < W.heap.size) :
    DataW.Trod enc Tryz.prog W' 0 (fun b => decide (b < W.heap.size)) true 25 v d p :=
  Below.trod laid_out (by kernel_rfl) (of_decide_eq_true (by kernel_rfl)) h hB hlt
theorem prog_read {H : Type} {enc : TypeId × Value → H} {W : World} {base : Nat} {v : Value} {d : DataW H} {ps : List MemPlace} (hval : Value.okWide Tryz.prog W .any base 25 v) (h : DataW.Trod enc Tryz.prog W 0 (fun _ => true) true 25 v d ps)
    (hs : ∀ n ∈ d.weights Tryz.prog 25, n ≤ reachBytes) : ∃ p : Pr, v = p.val ∧ PrIn (hw W) p := by
  obtain ⟨cs, rfl, -⟩ := okWide_struct Tryz.underlying25 hval
  obtain ⟨fuel, h'⟩ := h
  obtain ⟨p, hp, hin⟩ := pr_read h' hs
  refine ⟨p, ?_, hin⟩
  have e : cs.toList = p.cells := hp
  unfold Pr.val
  rw [← e]
theorem tacNexts_contract (H : Type) (enc : TypeId × Value → H) (W : World) (base : Nat) (args : Array Value) (ds gs : List (DataW H)) (before : List MemPlace)
    (hval : ∀ (j : Nat) t v, Tryz.f3.params[j]? = some t → args[j]? = some v → Value.okWide Tryz.prog W .any base t v)
    (hW : DataW.Whole enc Tryz.prog Tryz.f3.params.toList Rows.tacNextsSpec.vars false W args.toList ds gs before)
    (hsz : (DataW.weightsEach Tryz.prog (Tryz.f3.params.toList ++ Rows.tacNextsSpec.plain.varTypes Tryz.prog) (ds ++ gs)).all (· ≤ reachBytes) = true) (hL : laidMetH Tryz.prog laid13 W) :
    Calls Tryz.prog 3 args W fun e W' => ∃ v, e = .returned v ∧ Rows.tacNextsSpec.post enc Tryz.prog Tryz.f3 false true false false W args v W' := by
  have hW' := hW
  obtain ⟨p, q, hA0, hV, rfl, hfz, hnd⟩ := hW
  have hA : DataW.TrodAll enc Tryz.prog W 0 (fun _ => true) true Tryz.f3.params.toList args.toList ds p := hA0
  rw [Tryz.params3] at hA hval hsz
  obtain ⟨v0, d0, rfl, rfl, h0⟩ := trodAll_one hA
  obtain ⟨rfl, rfl⟩ := trodVars_none hV
  have hws : ∀ n ∈ d0.weights Tryz.prog 25, n ≤ reachBytes := fun n hn => by
    have := List.all_eq_true.1 hsz n (DataW.weights_mem_each (j := 0) rfl rfl n hn)
    simpa using this
  obtain ⟨pr, rfl, hc⟩ := prog_read (hval 0 25 _ rfl rfl) h0 hws
  clear hA0 hval hA hsz
  simp only [List.append_nil] at hW'
  refine (tacNexts_sp pr W hc (pow10_of hL)).mono fun e W' ⟨_, _, he, hE⟩ => ?_
  subst he
  have hB := eff_below hE
  have hlt : ∀ x ∈ p, x.block < W.heap.size := fun x hx => by simpa using hW'.lt x hx
  refine ⟨_, rfl, _, _, _, [], p, [], hW', ?_, ?_, ?_, hB.frame _, fun h => by cases h⟩
  · exact trodAll_mk1 (shut_bool Tryz.underlying4 _)
  · exact trodAll_mk1 (prog_again h0 hB hlt)
  · exact rfl

theorem tacNexts_reads (os : Os) {H : Type} (enc : TypeId × Value → H) : ∃ places, DataW.whole enc Tryz.prog ((World.laidAll Tryz.prog os laid13).forCall (fun _ _ => 0) ⟨#[], #[.agg #[.slice none 0 0, .slice none 0 0, .int .i64 0]], []⟩).memory Tryz.f3.params.toList Rows.tacNextsSpec.vars false #[Value.agg #[.slice none 0 0, .slice none 0 0, .int .i64 0]].toList 8 = some ([.agg [.nil, .nil, .lit (.int .i64 0)]], [], places) :=
  ⟨[], by kernel_rfl⟩
theorem tacNexts_lifted (os : Os) (started : os.Started) (H : Type) (enc : TypeId × Value → H) (F : Stop.Interp) :
    ReturnsInHanded {} Tryz.checked os 3 .any ((OpenSpec.ofChange Rows.tacNextsSpec).preRow enc Tryz.prog Tryz.f3 Rows.tacNextsRow.domain false Rows.tacNextsRow.laid) (((OpenSpec.ofChange Rows.tacNextsSpec).at F).post enc Tryz.prog Tryz.f3 false true false false) := by
  obtain ⟨places, hx⟩ := tacNexts_reads os enc
  refine returnsInHanded_of_row (C := Tryz.checked) (s := OpenSpec.ofChange Rows.tacNextsSpec) own_knob started (by kernel_rfl) Tryz.func3
    (witness_row_atRef (enc := enc) (C := Tryz.checked) false (World.laidAll Tryz.prog os laid13) #[.agg #[.slice none 0 0, .slice none 0 0, .int .i64 0]] (World.laidAll_os _ _ _) (by kernel_rfl) (by kernel_rfl) (by kernel_rfl)
      (OpenSpec.preRow_of_cond 8 hx (by kernel_rfl) (fun k hk => by cases hk) (by kernel_rfl) (laid13_met os _))) ?_
  intro W base args ds gs before hval hW _ _ hsz hL _ _
  exact tacNexts_contract H enc W base args ds gs before hval hW hsz hL
end Go.Proofs.YtpohhfggmaihpaaGreatDoor
