/-
  The library's IndexFunc, DeleteFunc at []int; tac.Next.
-/
import Derived.Test.YthiehhglnaiohaaGreatDoorF1
namespace Go.Proofs.YthiehhglnaiohaaGreatDoor
open Go.Wk
set_option linter.unusedVariables false
set_option linter.unusedSimpArgs false
attribute [local irreducible] G GC GQ GA GS Exit.then Exit.inBlock

theorem next1_sp (n : Int) (bx : Nat) (A : Option Addr) (len cap : Nat) (w : World) (hb : cellAt (hw w) bx 0 = some (.slice A len cap)) :
    Sp Tryz.prog 46 [.int .i64 n, .pointer (some ⟨bx, 0, none⟩)] w [] (fun _ : Unit => .bool (!(decide (0 ≤ n) && decide (n < (len : Int))))) (fun _ => []) (fun _ => True) := by
  refine enter (s := Tryz.sx) [] Tryz.func46 rfl rfl rfl (Eff.refl w) ?_
  repeat' (first | refine g_pv rfl rfl ?_ | refine g_ld 0 rfl rfl rfl rfl rfl rfl ?_ | refine g_ld 1 rfl rfl rfl rfl rfl rfl ?_ | refine g_ld 2 rfl rfl rfl rfl rfl rfl ?_ | refine g_ld 3 rfl rfl rfl rfl rfl rfl ?_ | refine g_ld 4 rfl rfl rfl rfl rfl rfl ?_ | refine g_nil ?_ | refine gq_then ?_ | refine gc_seq ?_ | refine gc_region ?_ | refine gc_block ?_ | refine gc_cond_t rfl ?_ | refine gc_cond_f rfl ?_ | refine gc_skip ?_ | refine gc_exit ?_ | refine gc_ret ?_ | refine gq_then_exit ?_ | refine gq_then_ret ?_ | refine gq_block ?_ | refine gq_block_ret ?_ | refine gq_block_exit ?_ | refine gq_block_exit' rfl ?_ | refine g_yes rfl rfl rfl ?_ | refine g_no rfl rfl rfl rfl rfl ?_ | refine g_box rfl rfl (fun _ => ?_) | refine g_alloc rfl rfl (fun _ => ?_) | refine g_st 0 rfl rfl rfl rfl rfl rfl rfl ?_ | refine g_st 1 rfl rfl rfl rfl rfl rfl rfl ?_ | refine g_st 2 rfl rfl rfl rfl rfl rfl rfl ?_ | refine g_st 3 rfl rfl rfl rfl rfl rfl rfl ?_)
  refine g_ldO rfl rfl (cs := [.slice A len cap]) rfl rfl (cell1 ((old_le0 _ w).cell hb)) rfl ?_
  repeat' (first | refine g_pv rfl rfl ?_ | refine g_ld 0 rfl rfl rfl rfl rfl rfl ?_ | refine g_ld 1 rfl rfl rfl rfl rfl rfl ?_ | refine g_ld 2 rfl rfl rfl rfl rfl rfl ?_ | refine g_ld 3 rfl rfl rfl rfl rfl rfl ?_ | refine g_ld 4 rfl rfl rfl rfl rfl rfl ?_ | refine g_nil ?_ | refine gq_then ?_ | refine gc_seq ?_ | refine gc_region ?_ | refine gc_block ?_ | refine gc_cond_t rfl ?_ | refine gc_cond_f rfl ?_ | refine gc_skip ?_ | refine gc_exit ?_ | refine gc_ret ?_ | refine gq_then_exit ?_ | refine gq_then_ret ?_ | refine gq_block ?_ | refine gq_block_ret ?_ | refine gq_block_exit ?_ | refine gq_block_exit' rfl ?_ | refine g_yes rfl rfl rfl ?_ | refine g_no rfl rfl rfl rfl rfl ?_ | refine g_box rfl rfl (fun _ => ?_) | refine g_alloc rfl rfl (fun _ => ?_) | refine g_st 0 rfl rfl rfl rfl rfl rfl rfl ?_ | refine g_st 1 rfl rfl rfl rfl rfl rfl rfl ?_ | refine g_st 2 rfl rfl rfl rfl rfl rfl rfl ?_ | refine g_st 3 rfl rfl rfl rfl rfl rfl rfl ?_)
  refine g_call rfl (Cl.of Tryz.func42 rfl rfl) rfl rfl (fun w hE => within_sp _ _ w) rfl (fun y hy => ?_)
  repeat' (first | refine g_pv rfl rfl ?_ | refine g_ld 0 rfl rfl rfl rfl rfl rfl ?_ | refine g_ld 1 rfl rfl rfl rfl rfl rfl ?_ | refine g_ld 2 rfl rfl rfl rfl rfl rfl ?_ | refine g_ld 3 rfl rfl rfl rfl rfl rfl ?_ | refine g_ld 4 rfl rfl rfl rfl rfl rfl ?_ | refine g_nil ?_ | refine gq_then ?_ | refine gc_seq ?_ | refine gc_region ?_ | refine gc_block ?_ | refine gc_cond_t rfl ?_ | refine gc_cond_f rfl ?_ | refine gc_skip ?_ | refine gc_exit ?_ | refine gc_ret ?_ | refine gq_then_exit ?_ | refine gq_then_ret ?_ | refine gq_block ?_ | refine gq_block_ret ?_ | refine gq_block_exit ?_ | refine gq_block_exit' rfl ?_ | refine g_yes rfl rfl rfl ?_ | refine g_no rfl rfl rfl rfl rfl ?_ | refine g_box rfl rfl (fun _ => ?_) | refine g_alloc rfl rfl (fun _ => ?_) | refine g_st 0 rfl rfl rfl rfl rfl rfl rfl ?_ | refine g_st 1 rfl rfl rfl rfl rfl rfl rfl ?_ | refine g_st 2 rfl rfl rfl rfl rfl rfl rfl ?_ | refine g_st 3 rfl rfl rfl rfl rfl rfl rfl ?_)
  exact gq_ret1 (.inr rfl) rfl rfl rfl (fun w' H => ⟨(), trivial, rfl, H⟩)

/-- What is asked of a predicate's function. -/
def PredAt (H : Nat → Option Obj) (k : FuncId) (cp : Array Value) (p : Int → Bool) : Prop :=
  Cl Tryz.prog k ∧ ∀ w n, Hle H (hw w) → Sp Tryz.prog k (.int .i64 n :: cp.toList) w [] (fun _ : Unit => .bool (p n)) (fun _ => []) (fun _ => True)

def idxF (p : Int → Bool) (l : List Int) : Int := match l.findIdx? p with | some k => k | none => -1
theorem idxF_hit {p : Int → Bool} {l : List Int} {k : Nat} (hk : k < l.length) (h : ∀ x ∈ l.take k, p x = false) (hp : p l[k] = true) : idxF p l = k := by
  have : l.findIdx? p = some k := by
    rw [List.findIdx?_eq_some_iff_getElem]
    refine ⟨hk, hp, fun j hj => ?_⟩
    have := h l[j] (List.mem_take_iff_getElem.2 ⟨j, by omega, rfl⟩)
    simp [this]
  simp [idxF, this]
theorem idxF_miss {p : Int → Bool} {l : List Int} (h : ∀ x ∈ l, p x = false) : idxF p l = -1 := by
  have : l.findIdx? p = none := by rw [List.findIdx?_eq_none_iff]; simpa using h
  simp [idxF, this]

theorem indexF_sp (l : List Int) (p : Int → Bool) (ad : Option Addr) (cap : Nat) (w : World) (k : FuncId) (cp : Array Value) (hl : l.length ≤ 4611686018427387904) (hr : Rd (hw w) fI 1 ad l) (hp : PredAt (hw w) k cp p) :
    Sp Tryz.prog 88 [.slice ad l.length cap, .func (.func k) #[] cp] w [] (fun _ : Unit => .int .i64 (idxF p l)) (fun _ => []) (fun _ => True) := by
  refine enter (s := Tryz.sx) [] Tryz.func88 rfl rfl rfl (Eff.refl w) ?_
  repeat' (first | refine g_pv rfl rfl ?_ | refine g_ld 0 rfl rfl rfl rfl rfl rfl ?_ | refine g_ld 1 rfl rfl rfl rfl rfl rfl ?_ | refine g_ld 2 rfl rfl rfl rfl rfl rfl ?_ | refine g_ld 3 rfl rfl rfl rfl rfl rfl ?_ | refine g_ld 4 rfl rfl rfl rfl rfl rfl ?_ | refine g_nil ?_ | refine gq_then ?_ | refine gc_seq ?_ | refine gc_region ?_ | refine gc_block ?_ | refine gc_cond_t rfl ?_ | refine gc_cond_f rfl ?_ | refine gc_skip ?_ | refine gc_exit ?_ | refine gc_ret ?_ | refine gq_then_exit ?_ | refine gq_then_ret ?_ | refine gq_block ?_ | refine gq_block_ret ?_ | refine gq_block_exit ?_ | refine gq_block_exit' rfl ?_ | refine g_yes rfl rfl rfl ?_ | refine g_no rfl rfl rfl rfl rfl ?_ | refine g_box rfl rfl (fun _ => ?_) | refine g_alloc rfl rfl (fun _ => ?_) | refine g_st 0 rfl rfl rfl rfl rfl rfl rfl ?_ | refine g_st 1 rfl rfl rfl rfl rfl rfl rfl ?_ | refine g_st 2 rfl rfl rfl rfl rfl rfl rfl ?_ | refine g_st 3 rfl rfl rfl rfl rfl rfl rfl ?_)
  refine gc_loop (Y := Nat) (fun y => y ≤ l.length ∧ ∀ x ∈ l.take y, p x = false)
    (fun y => [(0, .slice ad l.length cap), (1, .func (.func k) #[] cp), (6, .slice ad l.length cap), (7, .int .i64 l.length), (8, .int .i64 y)]) (fun y => [])
    (fun y => l.length - y) 0 ⟨Nat.zero_le _, by simp⟩ ⟨rfl, rfl, rfl, rfl, rfl, trivial⟩ (fun w' H => H) ?_
  rintro j ⟨hj, hpj⟩
  dsimp only at hj hpj ⊢
  repeat' (first | refine g_pv rfl rfl ?_ | refine g_ld 0 rfl rfl rfl rfl rfl rfl ?_ | refine g_ld 1 rfl rfl rfl rfl rfl rfl ?_ | refine g_ld 2 rfl rfl rfl rfl rfl rfl ?_ | refine g_ld 3 rfl rfl rfl rfl rfl rfl ?_ | refine g_ld 4 rfl rfl rfl rfl rfl rfl ?_ | refine g_nil ?_ | refine gq_then ?_ | refine gc_seq ?_ | refine gc_region ?_ | refine gc_block ?_ | refine gc_cond_t rfl ?_ | refine gc_cond_f rfl ?_ | refine gc_skip ?_ | refine gc_exit ?_ | refine gc_ret ?_ | refine gq_then_exit ?_ | refine gq_then_ret ?_ | refine gq_block ?_ | refine gq_block_ret ?_ | refine gq_block_exit ?_ | refine gq_block_exit' rfl ?_ | refine g_yes rfl rfl rfl ?_ | refine g_no rfl rfl rfl rfl rfl ?_ | refine g_box rfl rfl (fun _ => ?_) | refine g_alloc rfl rfl (fun _ => ?_) | refine g_st 0 rfl rfl rfl rfl rfl rfl rfl ?_ | refine g_st 1 rfl rfl rfl rfl rfl rfl rfl ?_ | refine g_st 2 rfl rfl rfl rfl rfl rfl rfl ?_ | refine g_st 3 rfl rfl rfl rfl rfl rfl rfl ?_)
  refine gc_condC rfl (fun hc => ?_) (fun hc => ?_)
  · have hlt : j < l.length := by have := of_decide_eq_true hc; omega
    repeat' (first | refine g_pv rfl rfl ?_ | refine g_ld 0 rfl rfl rfl rfl rfl rfl ?_ | refine g_ld 1 rfl rfl rfl rfl rfl rfl ?_ | refine g_ld 2 rfl rfl rfl rfl rfl rfl ?_ | refine g_ld 3 rfl rfl rfl rfl rfl rfl ?_ | refine g_ld 4 rfl rfl rfl rfl rfl rfl ?_ | refine g_nil ?_ | refine gq_then ?_ | refine gc_seq ?_ | refine gc_region ?_ | refine gc_block ?_ | refine gc_cond_t rfl ?_ | refine gc_cond_f rfl ?_ | refine gc_skip ?_ | refine gc_exit ?_ | refine gc_ret ?_ | refine gq_then_exit ?_ | refine gq_then_ret ?_ | refine gq_block ?_ | refine gq_block_ret ?_ | refine gq_block_exit ?_ | refine gq_block_exit' rfl ?_ | refine g_yes rfl rfl rfl ?_ | refine g_no rfl rfl rfl rfl rfl ?_ | refine g_box rfl rfl (fun _ => ?_) | refine g_alloc rfl rfl (fun _ => ?_) | refine g_st 0 rfl rfl rfl rfl rfl rfl rfl ?_ | refine g_st 1 rfl rfl rfl rfl rfl rfl rfl ?_ | refine g_st 2 rfl rfl rfl rfl rfl rfl rfl ?_ | refine g_st 3 rfl rfl rfl rfl rfl rfl rfl ?_)
    refine g_at (l := l) (f := fI) (u := l[j]) rfl rfl rfl rfl rfl (Int.natCast_nonneg j) (by omega) (hr.le (old_le0 _ w)) (List.getElem?_eq_getElem hlt) rfl rfl rfl rfl (fun a => ?_)
    refine g_call (gs := .int .i64 l[j] :: cp.toList) (Y := Unit) (vf := fun _ => .bool (p l[j])) (A' := fun _ => []) (post := fun _ => True) rfl hp.1 rfl rfl (fun w' hE => hp.2 w' l[j] (fun b o hh => old_le hE b o (old_le0 _ w b o hh))) rfl (fun y hy => ?_)
    repeat' (first | refine g_pv rfl rfl ?_ | refine g_ld 0 rfl rfl rfl rfl rfl rfl ?_ | refine g_ld 1 rfl rfl rfl rfl rfl rfl ?_ | refine g_ld 2 rfl rfl rfl rfl rfl rfl ?_ | refine g_ld 3 rfl rfl rfl rfl rfl rfl ?_ | refine g_ld 4 rfl rfl rfl rfl rfl rfl ?_ | refine g_nil ?_ | refine gq_then ?_ | refine gc_seq ?_ | refine gc_region ?_ | refine gc_block ?_ | refine gc_cond_t rfl ?_ | refine gc_cond_f rfl ?_ | refine gc_skip ?_ | refine gc_exit ?_ | refine gc_ret ?_ | refine gq_then_exit ?_ | refine gq_then_ret ?_ | refine gq_block ?_ | refine gq_block_ret ?_ | refine gq_block_exit ?_ | refine gq_block_exit' rfl ?_ | refine g_yes rfl rfl rfl ?_ | refine g_no rfl rfl rfl rfl rfl ?_ | refine g_box rfl rfl (fun _ => ?_) | refine g_alloc rfl rfl (fun _ => ?_) | refine g_st 0 rfl rfl rfl rfl rfl rfl rfl ?_ | refine g_st 1 rfl rfl rfl rfl rfl rfl rfl ?_ | refine g_st 2 rfl rfl rfl rfl rfl rfl rfl ?_ | refine g_st 3 rfl rfl rfl rfl rfl rfl rfl ?_)
    refine gc_condC rfl (fun hq => ?_) (fun hq => ?_)
    · repeat' (first | refine g_pv rfl rfl ?_ | refine g_ld 0 rfl rfl rfl rfl rfl rfl ?_ | refine g_ld 1 rfl rfl rfl rfl rfl rfl ?_ | refine g_ld 2 rfl rfl rfl rfl rfl rfl ?_ | refine g_ld 3 rfl rfl rfl rfl rfl rfl ?_ | refine g_ld 4 rfl rfl rfl rfl rfl rfl ?_ | refine g_nil ?_ | refine gq_then ?_ | refine gc_seq ?_ | refine gc_region ?_ | refine gc_block ?_ | refine gc_cond_t rfl ?_ | refine gc_cond_f rfl ?_ | refine gc_skip ?_ | refine gc_exit ?_ | refine gc_ret ?_ | refine gq_then_exit ?_ | refine gq_then_ret ?_ | refine gq_block ?_ | refine gq_block_ret ?_ | refine gq_block_exit ?_ | refine gq_block_exit' rfl ?_ | refine g_yes rfl rfl rfl ?_ | refine g_no rfl rfl rfl rfl rfl ?_ | refine g_box rfl rfl (fun _ => ?_) | refine g_alloc rfl rfl (fun _ => ?_) | refine g_st 0 rfl rfl rfl rfl rfl rfl rfl ?_ | refine g_st 1 rfl rfl rfl rfl rfl rfl rfl ?_ | refine g_st 2 rfl rfl rfl rfl rfl rfl rfl ?_ | refine g_st 3 rfl rfl rfl rfl rfl rfl rfl ?_)
      exact gq_ret1 (.inr rfl) rfl rfl rfl (fun w' H => ⟨(), trivial, by rw [idxF_hit hlt hpj hq], H⟩)
    · repeat' (first | refine g_pv rfl rfl ?_ | refine g_ld 0 rfl rfl rfl rfl rfl rfl ?_ | refine g_ld 1 rfl rfl rfl rfl rfl rfl ?_ | refine g_ld 2 rfl rfl rfl rfl rfl rfl ?_ | refine g_ld 3 rfl rfl rfl rfl rfl rfl ?_ | refine g_ld 4 rfl rfl rfl rfl rfl rfl ?_ | refine g_nil ?_ | refine gq_then ?_ | refine gc_seq ?_ | refine gc_region ?_ | refine gc_block ?_ | refine gc_cond_t rfl ?_ | refine gc_cond_f rfl ?_ | refine gc_skip ?_ | refine gc_exit ?_ | refine gc_ret ?_ | refine gq_then_exit ?_ | refine gq_then_ret ?_ | refine gq_block ?_ | refine gq_block_ret ?_ | refine gq_block_exit ?_ | refine gq_block_exit' rfl ?_ | refine g_yes rfl rfl rfl ?_ | refine g_no rfl rfl rfl rfl rfl ?_ | refine g_box rfl rfl (fun _ => ?_) | refine g_alloc rfl rfl (fun _ => ?_) | refine g_st 0 rfl rfl rfl rfl rfl rfl rfl ?_ | refine g_st 1 rfl rfl rfl rfl rfl rfl rfl ?_ | refine g_st 2 rfl rfl rfl rfl rfl rfl rfl ?_ | refine g_st 3 rfl rfl rfl rfl rfl rfl rfl ?_)
      refine gq_again (j + 1) ⟨hlt, ?_⟩ (by omega) ⟨rfl, rfl, rfl, rfl, inc_eq (by omega), trivial⟩ (fun w' H => H)
      intro x hx
      rw [List.take_succ_eq_append_getElem hlt] at hx
      rcases List.mem_append.1 hx with h | h
      · exact hpj x h
      · simp at h; subst h; exact hq
  · have hge : j = l.length := by have := of_decide_eq_false hc; omega
    repeat' (first | refine g_pv rfl rfl ?_ | refine g_ld 0 rfl rfl rfl rfl rfl rfl ?_ | refine g_ld 1 rfl rfl rfl rfl rfl rfl ?_ | refine g_ld 2 rfl rfl rfl rfl rfl rfl ?_ | refine g_ld 3 rfl rfl rfl rfl rfl rfl ?_ | refine g_ld 4 rfl rfl rfl rfl rfl rfl ?_ | refine g_nil ?_ | refine gq_then ?_ | refine gc_seq ?_ | refine gc_region ?_ | refine gc_block ?_ | refine gc_cond_t rfl ?_ | refine gc_cond_f rfl ?_ | refine gc_skip ?_ | refine gc_exit ?_ | refine gc_ret ?_ | refine gq_then_exit ?_ | refine gq_then_ret ?_ | refine gq_block ?_ | refine gq_block_ret ?_ | refine gq_block_exit ?_ | refine gq_block_exit' rfl ?_ | refine g_yes rfl rfl rfl ?_ | refine g_no rfl rfl rfl rfl rfl ?_ | refine g_box rfl rfl (fun _ => ?_) | refine g_alloc rfl rfl (fun _ => ?_) | refine g_st 0 rfl rfl rfl rfl rfl rfl rfl ?_ | refine g_st 1 rfl rfl rfl rfl rfl rfl rfl ?_ | refine g_st 2 rfl rfl rfl rfl rfl rfl rfl ?_ | refine g_st 3 rfl rfl rfl rfl rfl rfl rfl ?_)
    refine gq_ret1 (.inr rfl) rfl rfl rfl (fun w' H => ⟨(), trivial, ?_, H⟩)
    rw [idxF_miss (by rw [hge, List.take_length] at hpj; exact hpj)]

theorem idxF_cases (p : Int → Bool) (l : List Int) : (idxF p l = -1 ∧ ∀ x ∈ l, p x = false) ∨ ∃ k : Nat, idxF p l = k ∧ k < l.length ∧ (∀ x ∈ l.take k, p x = false) ∧ ∀ x, l[k]? = some x → p x = true := by
  unfold idxF
  cases h : l.findIdx? p with
  | none => left; rw [List.findIdx?_eq_none_iff] at h; exact ⟨rfl, by simpa using h⟩
  | some k =>
    right
    rw [List.findIdx?_eq_some_iff_getElem] at h
    obtain ⟨hk, h1, h2⟩ := h
    refine ⟨k, rfl, hk, fun x hx => ?_, fun x hx => ?_⟩
    · obtain ⟨j, hj, rfl⟩ := List.mem_take_iff_getElem.1 hx
      simpa using h2 j (by omega)
    · rw [List.getElem?_eq_getElem hk] at hx; cases hx; exact h1

/-- The state of DeleteFunc's loop: i are kept, j are looked at. -/
structure DelS (p : Int → Bool) (l m : List Int) (i j : Nat) : Prop where
  len : m.length = l.length
  ij : i < j
  jl : j ≤ l.length
  kept : m.take i = (l.take j).filter (fun x => !p x)
  rest : m.drop j = l.drop j

theorem deleteF_sp {v : Value} (l : List Int) (p : Int → Bool) {A : HL} (w : World) (k : FuncId) (cp : Array Value) (ho : OwnI v l A) (hA : Eff w A w A) (hl : l.length ≤ 4611686018427387904) (hp : PredAt (exc w A) k cp p) :
    Sp Tryz.prog 45 [v, .func (.func k) #[] cp] w A (fun y : Value × HL => y.1) (fun y => [y.2]) (fun y => OwnI y.1 (l.filter fun x => !p x) y.2) := by
  have hm : ∀ {s ro n N ds}, Oldh ⟨s, ro, n, N, ds, w, A⟩ = exc w A := rfl
  obtain ⟨ad, cap, rfl, hsh⟩ := Own.shape ho
  have hk : ∀ w', Hle (exc w A) (hw w') → ∀ m, Sp Tryz.prog k (.int .i64 m :: cp.toList) w' [] (fun _ : Unit => .bool (p m)) (fun _ => []) (fun _ => True) := fun w' hh m => hp.2 w' m hh
  refine enterA (s := Tryz.sx) [A] (by simp) Tryz.func45 rfl rfl rfl hA ?_
  repeat' (first | refine g_pv rfl rfl ?_ | refine g_ld 0 rfl rfl rfl rfl rfl rfl ?_ | refine g_ld 1 rfl rfl rfl rfl rfl rfl ?_ | refine g_ld 2 rfl rfl rfl rfl rfl rfl ?_ | refine g_ld 3 rfl rfl rfl rfl rfl rfl ?_ | refine g_ld 4 rfl rfl rfl rfl rfl rfl ?_ | refine g_nil ?_ | refine gq_then ?_ | refine gc_seq ?_ | refine gc_region ?_ | refine gc_block ?_ | refine gc_cond_t rfl ?_ | refine gc_cond_f rfl ?_ | refine gc_skip ?_ | refine gc_exit ?_ | refine gc_ret ?_ | refine gq_then_exit ?_ | refine gq_then_ret ?_ | refine gq_block ?_ | refine gq_block_ret ?_ | refine gq_block_exit ?_ | refine gq_block_exit' rfl ?_ | refine g_yes rfl rfl rfl ?_ | refine g_no rfl rfl rfl rfl rfl ?_ | refine g_box rfl rfl (fun _ => ?_) | refine g_alloc rfl rfl (fun _ => ?_) | refine g_st 0 rfl rfl rfl rfl rfl rfl rfl ?_ | refine g_st 1 rfl rfl rfl rfl rfl rfl rfl ?_ | refine g_st 2 rfl rfl rfl rfl rfl rfl rfl ?_ | refine g_st 3 rfl rfl rfl rfl rfl rfl rfl ?_)
  refine g_call (Y := Unit) (vf := fun _ => .int .i64 (idxF p l)) (A' := fun _ => []) (post := fun _ => True) rfl (Cl.of Tryz.func88 rfl rfl) rfl rfl (fun w' hE => ?_) rfl (fun y hy => ?_)
  · obtain ⟨ad', cap', he, hr⟩ := OwnL.rd (f := fI) (fun _ => rfl) ho (H := hw w') (fun b o hb => hE.holds b o (by simpa using hb))
    cases he
    exact indexF_sp l p ad cap w' k cp hl hr ⟨hp.1, fun w2 n2 hh => hk w2 (fun b o hb => hh b o (old_le hE b o hb)) n2⟩
  repeat' (first | refine g_pv rfl rfl ?_ | refine g_ld 0 rfl rfl rfl rfl rfl rfl ?_ | refine g_ld 1 rfl rfl rfl rfl rfl rfl ?_ | refine g_ld 2 rfl rfl rfl rfl rfl rfl ?_ | refine g_ld 3 rfl rfl rfl rfl rfl rfl ?_ | refine g_ld 4 rfl rfl rfl rfl rfl rfl ?_ | refine g_nil ?_ | refine gq_then ?_ | refine gc_seq ?_ | refine gc_region ?_ | refine gc_block ?_ | refine gc_cond_t rfl ?_ | refine gc_cond_f rfl ?_ | refine gc_skip ?_ | refine gc_exit ?_ | refine gc_ret ?_ | refine gq_then_exit ?_ | refine gq_then_ret ?_ | refine gq_block ?_ | refine gq_block_ret ?_ | refine gq_block_exit ?_ | refine gq_block_exit' rfl ?_ | refine g_yes rfl rfl rfl ?_ | refine g_no rfl rfl rfl rfl rfl ?_ | refine g_box rfl rfl (fun _ => ?_) | refine g_alloc rfl rfl (fun _ => ?_) | refine g_st 0 rfl rfl rfl rfl rfl rfl rfl ?_ | refine g_st 1 rfl rfl rfl rfl rfl rfl rfl ?_ | refine g_st 2 rfl rfl rfl rfl rfl rfl rfl ?_ | refine g_st 3 rfl rfl rfl rfl rfl rfl rfl ?_)
  rcases idxF_cases p l with ⟨he, hall⟩ | ⟨q, he, hq, hpre, hat⟩
  · rw [he]
    repeat' (first | refine g_pv rfl rfl ?_ | refine g_ld 0 rfl rfl rfl rfl rfl rfl ?_ | refine g_ld 1 rfl rfl rfl rfl rfl rfl ?_ | refine g_ld 2 rfl rfl rfl rfl rfl rfl ?_ | refine g_ld 3 rfl rfl rfl rfl rfl rfl ?_ | refine g_ld 4 rfl rfl rfl rfl rfl rfl ?_ | refine g_nil ?_ | refine gq_then ?_ | refine gc_seq ?_ | refine gc_region ?_ | refine gc_block ?_ | refine gc_cond_t rfl ?_ | refine gc_cond_f rfl ?_ | refine gc_skip ?_ | refine gc_exit ?_ | refine gc_ret ?_ | refine gq_then_exit ?_ | refine gq_then_ret ?_ | refine gq_block ?_ | refine gq_block_ret ?_ | refine gq_block_exit ?_ | refine gq_block_exit' rfl ?_ | refine g_yes rfl rfl rfl ?_ | refine g_no rfl rfl rfl rfl rfl ?_ | refine g_box rfl rfl (fun _ => ?_) | refine g_alloc rfl rfl (fun _ => ?_) | refine g_st 0 rfl rfl rfl rfl rfl rfl rfl ?_ | refine g_st 1 rfl rfl rfl rfl rfl rfl rfl ?_ | refine g_st 2 rfl rfl rfl rfl rfl rfl rfl ?_ | refine g_st 3 rfl rfl rfl rfl rfl rfl rfl ?_)
    refine gq_ret1 (.inr rfl) rfl rfl rfl (fun w' H => ⟨(_, A), ?_, rfl, hp_take 0 rfl (fun H => hp_nil H) H⟩)
    have : l.filter (fun x => !p x) = l := List.filter_eq_self.2 (fun x hx => by simp [hall x hx])
    rw [this]; exact ho
  · rw [he]
    have hql : q < l.length := hq
    repeat' (first | refine g_pv rfl rfl ?_ | refine g_ld 0 rfl rfl rfl rfl rfl rfl ?_ | refine g_ld 1 rfl rfl rfl rfl rfl rfl ?_ | refine g_ld 2 rfl rfl rfl rfl rfl rfl ?_ | refine g_ld 3 rfl rfl rfl rfl rfl rfl ?_ | refine g_ld 4 rfl rfl rfl rfl rfl rfl ?_ | refine g_nil ?_ | refine gq_then ?_ | refine gc_seq ?_ | refine gc_region ?_ | refine gc_block ?_ | refine gc_cond_t rfl ?_ | refine gc_cond_f rfl ?_ | refine gc_skip ?_ | refine gc_exit ?_ | refine gc_ret ?_ | refine gq_then_exit ?_ | refine gq_then_ret ?_ | refine gq_block ?_ | refine gq_block_ret ?_ | refine gq_block_exit ?_ | refine gq_block_exit' rfl ?_ | refine g_yes rfl rfl rfl ?_ | refine g_no rfl rfl rfl rfl rfl ?_ | refine g_box rfl rfl (fun _ => ?_) | refine g_alloc rfl rfl (fun _ => ?_) | refine g_st 0 rfl rfl rfl rfl rfl rfl rfl ?_ | refine g_st 1 rfl rfl rfl rfl rfl rfl rfl ?_ | refine g_st 2 rfl rfl rfl rfl rfl rfl rfl ?_ | refine g_st 3 rfl rfl rfl rfl rfl rfl rfl ?_)
    rw [show IntKind.i64.wrap ((q : Int) + 1) = ((q + 1 : Nat) : Int) from by rw [IntKind.wrap_i64]; omega]
    refine gc_loop (Y := List Int × Nat × Nat × HL) (fun y => DelS p l y.1 y.2.1 y.2.2.1 ∧ OwnI (.slice ad l.length cap) y.1 y.2.2.2)
      (fun y => [(0, .slice ad l.length cap), (1, .func (.func k) #[] cp), (5, .int .i64 y.2.1), (6, .int .i64 y.2.2.1)]) (fun y => [y.2.2.2])
      (fun y => l.length - y.2.2.1) (l, q, q + 1, A) ⟨⟨rfl, Nat.lt_succ_self q, hql, ?_, rfl⟩, ho⟩ ⟨rfl, rfl, rfl, rfl, trivial⟩ (fun w' H => H) ?_
    · rw [List.take_succ_eq_append_getElem hql, List.filter_append, List.filter_eq_self.2 (fun x hx => by simp [hpre x hx])]
      simp [hat _ (List.getElem?_eq_getElem hql)]
    rintro ⟨m, i, j, Am⟩ ⟨⟨hlen, hij, hjl, hkept, hrest⟩, hom⟩
    dsimp only at hlen hij hjl hkept hrest hom ⊢
    repeat' (first | refine g_pv rfl rfl ?_ | refine g_ld 0 rfl rfl rfl rfl rfl rfl ?_ | refine g_ld 1 rfl rfl rfl rfl rfl rfl ?_ | refine g_ld 2 rfl rfl rfl rfl rfl rfl ?_ | refine g_ld 3 rfl rfl rfl rfl rfl rfl ?_ | refine g_ld 4 rfl rfl rfl rfl rfl rfl ?_ | refine g_nil ?_ | refine gq_then ?_ | refine gc_seq ?_ | refine gc_region ?_ | refine gc_block ?_ | refine gc_cond_t rfl ?_ | refine gc_cond_f rfl ?_ | refine gc_skip ?_ | refine gc_exit ?_ | refine gc_ret ?_ | refine gq_then_exit ?_ | refine gq_then_ret ?_ | refine gq_block ?_ | refine gq_block_ret ?_ | refine gq_block_exit ?_ | refine gq_block_exit' rfl ?_ | refine g_yes rfl rfl rfl ?_ | refine g_no rfl rfl rfl rfl rfl ?_ | refine g_box rfl rfl (fun _ => ?_) | refine g_alloc rfl rfl (fun _ => ?_) | refine g_st 0 rfl rfl rfl rfl rfl rfl rfl ?_ | refine g_st 1 rfl rfl rfl rfl rfl rfl rfl ?_ | refine g_st 2 rfl rfl rfl rfl rfl rfl rfl ?_ | refine g_st 3 rfl rfl rfl rfl rfl rfl rfl ?_)
    refine gc_condC rfl (fun hc => ?_) (fun hc => ?_)
    · have hlt : j < l.length := by have := of_decide_eq_true hc; omega
      have hmj : m[j]? = some l[j] := by
        have : (m.drop j)[0]? = (l.drop j)[0]? := by rw [hrest]
        simpa [List.getElem?_eq_getElem hlt] using this
      have hrest' : m.drop (j + 1) = l.drop (j + 1) := by
        have : (m.drop j).drop 1 = (l.drop j).drop 1 := by rw [hrest]
        simpa using this
      repeat' (first | refine g_pv rfl rfl ?_ | refine g_ld 0 rfl rfl rfl rfl rfl rfl ?_ | refine g_ld 1 rfl rfl rfl rfl rfl rfl ?_ | refine g_ld 2 rfl rfl rfl rfl rfl rfl ?_ | refine g_ld 3 rfl rfl rfl rfl rfl rfl ?_ | refine g_ld 4 rfl rfl rfl rfl rfl rfl ?_ | refine g_nil ?_ | refine gq_then ?_ | refine gc_seq ?_ | refine gc_region ?_ | refine gc_block ?_ | refine gc_cond_t rfl ?_ | refine gc_cond_f rfl ?_ | refine gc_skip ?_ | refine gc_exit ?_ | refine gc_ret ?_ | refine gq_then_exit ?_ | refine gq_then_ret ?_ | refine gq_block ?_ | refine gq_block_ret ?_ | refine gq_block_exit ?_ | refine gq_block_exit' rfl ?_ | refine g_yes rfl rfl rfl ?_ | refine g_no rfl rfl rfl rfl rfl ?_ | refine g_box rfl rfl (fun _ => ?_) | refine g_alloc rfl rfl (fun _ => ?_) | refine g_st 0 rfl rfl rfl rfl rfl rfl rfl ?_ | refine g_st 1 rfl rfl rfl rfl rfl rfl rfl ?_ | refine g_st 2 rfl rfl rfl rfl rfl rfl rfl ?_ | refine g_st 3 rfl rfl rfl rfl rfl rfl rfl ?_)
      refine g_atL 0 rfl rfl hom (fun _ => rfl) rfl rfl rfl rfl (Int.natCast_nonneg j) hmj rfl rfl rfl (fun a => ?_)
      repeat' (first | refine g_pv rfl rfl ?_ | refine g_ld 0 rfl rfl rfl rfl rfl rfl ?_ | refine g_ld 1 rfl rfl rfl rfl rfl rfl ?_ | refine g_ld 2 rfl rfl rfl rfl rfl rfl ?_ | refine g_ld 3 rfl rfl rfl rfl rfl rfl ?_ | refine g_ld 4 rfl rfl rfl rfl rfl rfl ?_ | refine g_nil ?_ | refine gq_then ?_ | refine gc_seq ?_ | refine gc_region ?_ | refine gc_block ?_ | refine gc_cond_t rfl ?_ | refine gc_cond_f rfl ?_ | refine gc_skip ?_ | refine gc_exit ?_ | refine gc_ret ?_ | refine gq_then_exit ?_ | refine gq_then_ret ?_ | refine gq_block ?_ | refine gq_block_ret ?_ | refine gq_block_exit ?_ | refine gq_block_exit' rfl ?_ | refine g_yes rfl rfl rfl ?_ | refine g_no rfl rfl rfl rfl rfl ?_ | refine g_box rfl rfl (fun _ => ?_) | refine g_alloc rfl rfl (fun _ => ?_) | refine g_st 0 rfl rfl rfl rfl rfl rfl rfl ?_ | refine g_st 1 rfl rfl rfl rfl rfl rfl rfl ?_ | refine g_st 2 rfl rfl rfl rfl rfl rfl rfl ?_ | refine g_st 3 rfl rfl rfl rfl rfl rfl rfl ?_)
      refine g_call (gs := .int .i64 l[j] :: cp.toList) (Y := Unit) (vf := fun _ => .bool (p l[j])) (A' := fun _ => []) (post := fun _ => True) rfl hp.1 rfl rfl (fun w' hE => hk w' (fun b o hh => old_le hE b o hh) l[j]) rfl (fun y hy => ?_)
      repeat' (first | refine g_pv rfl rfl ?_ | refine g_ld 0 rfl rfl rfl rfl rfl rfl ?_ | refine g_ld 1 rfl rfl rfl rfl rfl rfl ?_ | refine g_ld 2 rfl rfl rfl rfl rfl rfl ?_ | refine g_ld 3 rfl rfl rfl rfl rfl rfl ?_ | refine g_ld 4 rfl rfl rfl rfl rfl rfl ?_ | refine g_nil ?_ | refine gq_then ?_ | refine gc_seq ?_ | refine gc_region ?_ | refine gc_block ?_ | refine gc_cond_t rfl ?_ | refine gc_cond_f rfl ?_ | refine gc_skip ?_ | refine gc_exit ?_ | refine gc_ret ?_ | refine gq_then_exit ?_ | refine gq_then_ret ?_ | refine gq_block ?_ | refine gq_block_ret ?_ | refine gq_block_exit ?_ | refine gq_block_exit' rfl ?_ | refine g_yes rfl rfl rfl ?_ | refine g_no rfl rfl rfl rfl rfl ?_ | refine g_box rfl rfl (fun _ => ?_) | refine g_alloc rfl rfl (fun _ => ?_) | refine g_st 0 rfl rfl rfl rfl rfl rfl rfl ?_ | refine g_st 1 rfl rfl rfl rfl rfl rfl rfl ?_ | refine g_st 2 rfl rfl rfl rfl rfl rfl rfl ?_ | refine g_st 3 rfl rfl rfl rfl rfl rfl rfl ?_)
      refine gc_condC rfl (fun hq2 => ?_) (fun hq2 => ?_)
      · have hpj : p l[j] = false := by simpa using hq2
        repeat' (first | refine g_pv rfl rfl ?_ | refine g_ld 0 rfl rfl rfl rfl rfl rfl ?_ | refine g_ld 1 rfl rfl rfl rfl rfl rfl ?_ | refine g_ld 2 rfl rfl rfl rfl rfl rfl ?_ | refine g_ld 3 rfl rfl rfl rfl rfl rfl ?_ | refine g_ld 4 rfl rfl rfl rfl rfl rfl ?_ | refine g_nil ?_ | refine gq_then ?_ | refine gc_seq ?_ | refine gc_region ?_ | refine gc_block ?_ | refine gc_cond_t rfl ?_ | refine gc_cond_f rfl ?_ | refine gc_skip ?_ | refine gc_exit ?_ | refine gc_ret ?_ | refine gq_then_exit ?_ | refine gq_then_ret ?_ | refine gq_block ?_ | refine gq_block_ret ?_ | refine gq_block_exit ?_ | refine gq_block_exit' rfl ?_ | refine g_yes rfl rfl rfl ?_ | refine g_no rfl rfl rfl rfl rfl ?_ | refine g_box rfl rfl (fun _ => ?_) | refine g_alloc rfl rfl (fun _ => ?_) | refine g_st 0 rfl rfl rfl rfl rfl rfl rfl ?_ | refine g_st 1 rfl rfl rfl rfl rfl rfl rfl ?_ | refine g_st 2 rfl rfl rfl rfl rfl rfl rfl ?_ | refine g_st 3 rfl rfl rfl rfl rfl rfl rfl ?_)
        refine g_setL 0 (f := fI) (q := l[j]) rfl rfl hom (fun _ => rfl) rfl rfl rfl rfl (Int.natCast_nonneg i) (by omega) rfl rfl rfl rfl rfl (fun a A2 ho2 => ?_)
        repeat' (first | refine g_pv rfl rfl ?_ | refine g_ld 0 rfl rfl rfl rfl rfl rfl ?_ | refine g_ld 1 rfl rfl rfl rfl rfl rfl ?_ | refine g_ld 2 rfl rfl rfl rfl rfl rfl ?_ | refine g_ld 3 rfl rfl rfl rfl rfl rfl ?_ | refine g_ld 4 rfl rfl rfl rfl rfl rfl ?_ | refine g_nil ?_ | refine gq_then ?_ | refine gc_seq ?_ | refine gc_region ?_ | refine gc_block ?_ | refine gc_cond_t rfl ?_ | refine gc_cond_f rfl ?_ | refine gc_skip ?_ | refine gc_exit ?_ | refine gc_ret ?_ | refine gq_then_exit ?_ | refine gq_then_ret ?_ | refine gq_block ?_ | refine gq_block_ret ?_ | refine gq_block_exit ?_ | refine gq_block_exit' rfl ?_ | refine g_yes rfl rfl rfl ?_ | refine g_no rfl rfl rfl rfl rfl ?_ | refine g_box rfl rfl (fun _ => ?_) | refine g_alloc rfl rfl (fun _ => ?_) | refine g_st 0 rfl rfl rfl rfl rfl rfl rfl ?_ | refine g_st 1 rfl rfl rfl rfl rfl rfl rfl ?_ | refine g_st 2 rfl rfl rfl rfl rfl rfl rfl ?_ | refine g_st 3 rfl rfl rfl rfl rfl rfl rfl ?_)
        refine gq_again (m.set i l[j], i + 1, j + 1, A2) ⟨⟨by simpa using hlen, by dsimp only; omega, hlt, ?_, ?_⟩, by simpa using ho2⟩ (by simp only; omega) ⟨rfl, rfl, inc_eq (by omega), inc_eq (by omega), trivial⟩ (fun w' H => H)
        · rw [List.take_succ_eq_append_getElem hlt, List.filter_append, ← hkept]
          dsimp only
          rw [List.take_succ_eq_append_getElem (by simp; omega)]
          simp [hpj, List.take_set_of_le]
        · dsimp only
          rw [← hrest', List.drop_set_of_lt (by omega)]
      · have hpj : p l[j] = true := by simpa using hq2
        repeat' (first | refine g_pv rfl rfl ?_ | refine g_ld 0 rfl rfl rfl rfl rfl rfl ?_ | refine g_ld 1 rfl rfl rfl rfl rfl rfl ?_ | refine g_ld 2 rfl rfl rfl rfl rfl rfl ?_ | refine g_ld 3 rfl rfl rfl rfl rfl rfl ?_ | refine g_ld 4 rfl rfl rfl rfl rfl rfl ?_ | refine g_nil ?_ | refine gq_then ?_ | refine gc_seq ?_ | refine gc_region ?_ | refine gc_block ?_ | refine gc_cond_t rfl ?_ | refine gc_cond_f rfl ?_ | refine gc_skip ?_ | refine gc_exit ?_ | refine gc_ret ?_ | refine gq_then_exit ?_ | refine gq_then_ret ?_ | refine gq_block ?_ | refine gq_block_ret ?_ | refine gq_block_exit ?_ | refine gq_block_exit' rfl ?_ | refine g_yes rfl rfl rfl ?_ | refine g_no rfl rfl rfl rfl rfl ?_ | refine g_box rfl rfl (fun _ => ?_) | refine g_alloc rfl rfl (fun _ => ?_) | refine g_st 0 rfl rfl rfl rfl rfl rfl rfl ?_ | refine g_st 1 rfl rfl rfl rfl rfl rfl rfl ?_ | refine g_st 2 rfl rfl rfl rfl rfl rfl rfl ?_ | refine g_st 3 rfl rfl rfl rfl rfl rfl rfl ?_)
        refine gq_again (m, i, j + 1, Am) ⟨⟨hlen, by dsimp only; omega, hlt, ?_, hrest'⟩, hom⟩ (by simp only; omega) ⟨rfl, rfl, rfl, inc_eq (by omega), trivial⟩ (fun w' H => H)
        rw [List.take_succ_eq_append_getElem hlt, List.filter_append, ← hkept]
        simp [hpj]
    · have hge : j = l.length := by have := of_decide_eq_false hc; omega
      rw [hge, List.take_length] at hkept
      have hdone : m.take i = l.filter (fun x => !p x) := hkept
      repeat' (first | refine g_pv rfl rfl ?_ | refine g_ld 0 rfl rfl rfl rfl rfl rfl ?_ | refine g_ld 1 rfl rfl rfl rfl rfl rfl ?_ | refine g_ld 2 rfl rfl rfl rfl rfl rfl ?_ | refine g_ld 3 rfl rfl rfl rfl rfl rfl ?_ | refine g_ld 4 rfl rfl rfl rfl rfl rfl ?_ | refine g_nil ?_ | refine gq_then ?_ | refine gc_seq ?_ | refine gc_region ?_ | refine gc_block ?_ | refine gc_cond_t rfl ?_ | refine gc_cond_f rfl ?_ | refine gc_skip ?_ | refine gc_exit ?_ | refine gc_ret ?_ | refine gq_then_exit ?_ | refine gq_then_ret ?_ | refine gq_block ?_ | refine gq_block_ret ?_ | refine gq_block_exit ?_ | refine gq_block_exit' rfl ?_ | refine g_yes rfl rfl rfl ?_ | refine g_no rfl rfl rfl rfl rfl ?_ | refine g_box rfl rfl (fun _ => ?_) | refine g_alloc rfl rfl (fun _ => ?_) | refine g_st 0 rfl rfl rfl rfl rfl rfl rfl ?_ | refine g_st 1 rfl rfl rfl rfl rfl rfl rfl ?_ | refine g_st 2 rfl rfl rfl rfl rfl rfl rfl ?_ | refine g_st 3 rfl rfl rfl rfl rfl rfl rfl ?_)
      obtain ⟨g, cap', rst, hv, rfl, h3, h4, h5⟩ := Own.pos hom (by omega)
      injection hv with hv1 hv2 hv3
      subst hv1; subst hv3
      have hfm : m.flatMap fI = m.map (Value.int .i64) := flat_one _ m
      rw [hfm] at h5 ⊢
      refine g_lo rfl rfl rfl rfl (by omega) rfl ?_
      refine g_clear1 0 (o := i) (l := m.map (Value.int .i64) ++ rst) rfl rfl rfl rfl rfl rfl (fun hpos => ?_) (by simp; omega) ?_
      · rw [if_neg (by omega)]; simp [Addr.add]; try (intro _; omega)
      repeat' (first | refine g_pv rfl rfl ?_ | refine g_ld 0 rfl rfl rfl rfl rfl rfl ?_ | refine g_ld 1 rfl rfl rfl rfl rfl rfl ?_ | refine g_ld 2 rfl rfl rfl rfl rfl rfl ?_ | refine g_ld 3 rfl rfl rfl rfl rfl rfl ?_ | refine g_ld 4 rfl rfl rfl rfl rfl rfl ?_ | refine g_nil ?_ | refine gq_then ?_ | refine gc_seq ?_ | refine gc_region ?_ | refine gc_block ?_ | refine gc_cond_t rfl ?_ | refine gc_cond_f rfl ?_ | refine gc_skip ?_ | refine gc_exit ?_ | refine gc_ret ?_ | refine gq_then_exit ?_ | refine gq_then_ret ?_ | refine gq_block ?_ | refine gq_block_ret ?_ | refine gq_block_exit ?_ | refine gq_block_exit' rfl ?_ | refine g_yes rfl rfl rfl ?_ | refine g_no rfl rfl rfl rfl rfl ?_ | refine g_box rfl rfl (fun _ => ?_) | refine g_alloc rfl rfl (fun _ => ?_) | refine g_st 0 rfl rfl rfl rfl rfl rfl rfl ?_ | refine g_st 1 rfl rfl rfl rfl rfl rfl rfl ?_ | refine g_st 2 rfl rfl rfl rfl rfl rfl rfl ?_ | refine g_st 3 rfl rfl rfl rfl rfl rfl rfl ?_)
      refine g_hi rfl rfl rfl rfl (by omega) rfl ?_
      repeat' (first | refine g_pv rfl rfl ?_ | refine g_ld 0 rfl rfl rfl rfl rfl rfl ?_ | refine g_ld 1 rfl rfl rfl rfl rfl rfl ?_ | refine g_ld 2 rfl rfl rfl rfl rfl rfl ?_ | refine g_ld 3 rfl rfl rfl rfl rfl rfl ?_ | refine g_ld 4 rfl rfl rfl rfl rfl rfl ?_ | refine g_nil ?_ | refine gq_then ?_ | refine gc_seq ?_ | refine gc_region ?_ | refine gc_block ?_ | refine gc_cond_t rfl ?_ | refine gc_cond_f rfl ?_ | refine gc_skip ?_ | refine gc_exit ?_ | refine gc_ret ?_ | refine gq_then_exit ?_ | refine gq_then_ret ?_ | refine gq_block ?_ | refine gq_block_ret ?_ | refine gq_block_exit ?_ | refine gq_block_exit' rfl ?_ | refine g_yes rfl rfl rfl ?_ | refine g_no rfl rfl rfl rfl rfl ?_ | refine g_box rfl rfl (fun _ => ?_) | refine g_alloc rfl rfl (fun _ => ?_) | refine g_st 0 rfl rfl rfl rfl rfl rfl rfl ?_ | refine g_st 1 rfl rfl rfl rfl rfl rfl rfl ?_ | refine g_st 2 rfl rfl rfl rfl rfl rfl rfl ?_ | refine g_st 3 rfl rfl rfl rfl rfl rfl rfl ?_)
      refine gq_ret1 (.inr rfl) rfl rfl rfl (fun w' H => ⟨(_, _), ?_, rfl, hp_take 0 rfl (fun H => hp_nil H) H⟩)
      have hlen2 : (l.filter (fun x => !p x)).length = i := by rw [← hdone, List.length_take]; omega
      have e1 : m.map (Value.int .i64) = (l.filter (fun x => !p x)).map (Value.int .i64) ++ (m.drop i).map (Value.int .i64) := by
        rw [← hdone, ← List.map_append, List.take_append_drop]
      have e2 := putC_tail ((l.filter (fun x => !p x)).map (Value.int .i64)) ((m.drop i).map (Value.int .i64)) (List.replicate (l.length - i) (.int .i64 0)) (by simp; omega) rst
      rw [List.length_map, hlen2, ← List.append_assoc, ← e1] at e2
      show OwnI (.slice (some ⟨g, 0, none⟩) i cap) _ [(g, .cells ⟨putC (m.map (Value.int .i64) ++ rst) i (List.replicate (l.length - i) (.int .i64 0))⟩ 3 (0, 0))]
      rw [e2, List.append_assoc]
      have := OwnI.mk (g := g) (cap := cap) (l := l.filter (fun x => !p x)) (rest := List.replicate (l.length - i) (.int .i64 0) ++ rst) (by omega) h4 (by simp at h5 ⊢; omega)
      rw [hlen2] at this
      exact this
end Go.Proofs.YthiehhglnaiohaaGreatDoor
