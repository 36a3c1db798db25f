/-
  tac: within, Writes, Reads.
  The library's IndexFunc, DeleteFunc at []int; tac.Next.
  tac.Next.
  The document's answer (layer 13): within, Writes, Reads, Next.
  A field of an element.
  The document's answer (layer 16): Ints, Lists, told; layer 13: Reads; flow: rising.
  The argument, read: what a reading of the function's argument says of memory.
  What the rows ask of a walk: the frame's last word, turned into a row's.
  Next where there is no instruction.
-/
import Derived.Test.YtpohhfggmaihpaaGreatDoorZ3
import Derived.Test.YtpohhfggmaihpaaGreatDoorZ2
import Derived.Test.YtpohhfggmaihpaaGreatDoorRows
import Derived.ProofKit
import Derived.SizedLaws

/- tac: within, Writes, Reads. -/
namespace Go.Proofs.YtpohhfggmaihpaaGreatDoor
open Go.Wk
set_option linter.unusedVariables false
set_option linter.unusedSimpArgs false
attribute [local irreducible] G GC GQ GA GS Exit.then Exit.inBlock

theorem within_sp (a b : Int) (w : World) : Sp Tryz.prog 23 [.int .i64 a, .int .i64 b] w [] (fun _ : Unit => .bool (decide (0 ≤ a) && decide (a < b))) (fun _ => []) (fun _ => True) := by
  refine enter (s := Tryz.sx) [] Tryz.func23 rfl rfl rfl (Eff.refl w) ?_
  repeat' (first | refine g_pv rfl rfl ?_ | refine g_nil ?_ | refine gq_then ?_ | refine gc_seq ?_ | refine gc_region ?_)
  refine g_case (t := 7) rfl (fun h => ?_) (fun h => ?_)
  all_goals (repeat' (first | refine g_pv rfl rfl ?_ | refine g_nil ?_ | refine gq_then ?_ | refine gc_ret ?_ | refine g_yes rfl rfl rfl ?_ | refine g_no rfl rfl rfl rfl rfl ?_))
  · refine gq_ret1 (.inr rfl) rfl rfl rfl (fun w' H => ⟨(), trivial, ?_, H⟩)
    have h' : 0 ≤ a := of_decide_eq_true h
    simp [h']
  · refine gq_ret1 (.inr rfl) rfl rfl rfl (fun w' H => ⟨(), trivial, ?_, H⟩)
    have h' : ¬ 0 ≤ a := of_decide_eq_false h
    simp [h']

theorem writes_sp (x : Ins) (w : World) : Sp Tryz.prog 11 [x.val] w [] (fun _ : Unit => .int .i64 x.writes) (fun _ => []) (fun _ => True) := by
  refine enter (s := Tryz.sx) [] Tryz.func11 rfl rfl rfl (Eff.refl w) ?_
  repeat' (first | refine g_pv rfl rfl ?_ | refine g_ld 0 rfl rfl rfl rfl rfl rfl ?_ | refine g_nil ?_ | refine gq_then ?_ | refine gc_seq ?_ | refine gc_region ?_ | refine gc_block ?_ | refine gc_cond_t rfl ?_ | refine gc_skip ?_ | refine gc_ret ?_ | refine gq_then_ret ?_ | refine gq_block ?_ | refine gq_block_ret ?_ | refine g_box rfl rfl (fun _ => ?_) | refine gc_condC rfl (fun hc => ?_) (fun hc => ?_))
  all_goals refine gq_ret1 (.inr rfl) rfl rfl rfl (fun w' H => ⟨(), trivial, ?_, hp_nil H⟩)
  all_goals simp only [beq_iff_eq, beq_eq_false_iff_ne, ne_eq] at *
  all_goals simp [Ins.writes, writesOp, *]
  all_goals omega

theorem wrap_in {n : Int} (h : -9223372036854775808 ≤ n) (h2 : n ≤ 9223372036854775807) : IntKind.i64.wrap n = n := by rw [IntKind.wrap_i64]; omega

theorem reads_sp (x : Ins) (w : World) (hx : InsIn (hw w) x) : Sp Tryz.prog 12 [x.val] w [] (fun y : Value × HL => y.1) (fun y => [y.2]) (fun y => OwnI y.1 x.reads y.2) := by
  refine enter (s := Tryz.sx) [] Tryz.func12 rfl rfl rfl (Eff.refl w) ?_
  repeat' (first | refine g_pv rfl rfl ?_ | refine g_ld 0 rfl rfl rfl rfl rfl rfl ?_ | refine g_nil ?_ | refine gq_then ?_ | refine gc_seq ?_ | refine gc_region ?_ | refine g_box rfl rfl (fun _ => ?_))
  refine g_litL rfl rfl rfl rfl rfl rfl rfl rfl rfl rfl (fun g => ?_)
  repeat' (first | refine g_pv rfl rfl ?_ | refine g_ld 1 rfl rfl rfl rfl rfl rfl ?_)
  have hlen := hx.len
  have ho : OwnL 40 2 Arg.cells (.slice (some ⟨g, 0, none⟩) 2 2) [x.a, x.b] [(g, .cells ⟨x.a.cells ++ x.b.cells⟩ 40 (0, 0))] := ⟨rfl, .inr ⟨g, 2, [], rfl, rfl, Nat.le_refl _, by decide, rfl⟩⟩
  refine g_appL 0 (m := x.args) rfl rfl rfl rfl rfl rfl rfl ho (fun _ => rfl) (fun w' hE => hx.args.le (fun b o h => old_le hE b o (old_le0 _ w b o h))) (fun _ => rfl) (by unfold maxLen; simp; omega) (by simp; omega) rfl (fun v' A' ho' => ?_)
  refine g_lenL rfl ho' rfl rfl ?_
  repeat' (first | refine g_pv rfl rfl ?_ | refine g_nil ?_ | refine gq_then ?_ | refine gc_block ?_)
  refine gc_loop (Y := Nat × Value × HL) (fun y => y.1 ≤ ([x.a, x.b] ++ x.args).length ∧ OwnI y.2.1 (readsF (([x.a, x.b] ++ x.args).take y.1)) y.2.2)
    (fun y => [(3, y.2.1), (13, v'), (14, .int .i64 ([x.a, x.b] ++ x.args).length), (15, .int .i64 y.1)]) (fun y => [y.2.2, A'])
    (fun y => ([x.a, x.b] ++ x.args).length - y.1) (0, .slice none 0 0, []) ⟨Nat.zero_le _, OwnL.nil _ _ _⟩ ⟨rfl, rfl, rfl, rfl, trivial⟩ (fun w' H => ?_) ?_
  · exact hp_perm (hp_take 0 rfl (fun H => hp_nil H) H) (by simp)
  rintro ⟨k, v3, A3⟩ ⟨hk, ho3⟩
  generalize hal : [x.a, x.b] ++ x.args = al at *
  have hall : al.length ≤ 8796093022002 := by rw [← hal]; simp; omega
  dsimp only at hk ho3 ⊢
  repeat' (first | refine g_pv rfl rfl ?_ | refine g_nil ?_ | refine gq_then ?_ | refine gc_seq ?_ | refine gc_region ?_)
  refine gc_condC rfl (fun hc => ?_) (fun hc => ?_)
  · have hlt : k < al.length := by have := of_decide_eq_true hc; omega
    have hak : al[k]? = some al[k] := List.getElem?_eq_getElem hlt
    have haok := hx.ok al[k] (by rw [hal]; exact List.getElem_mem hlt)
    have hle := readsF_le (al.take k)
    have htl : (al.take k).length ≤ k := List.length_take_le _ _
    repeat' (first | refine gq_then ?_ | refine gc_seq ?_ | refine gc_region ?_ | refine gc_block ?_ | refine gc_skip ?_)
    refine g_atL 1 rfl rfl ho' (fun _ => rfl) rfl rfl rfl rfl (Int.natCast_nonneg k) hak rfl rfl rfl (fun a => ?_)
    repeat' (first | refine g_pv rfl rfl ?_ | refine g_ld 0 rfl rfl rfl rfl rfl rfl ?_ | refine g_nil ?_ | refine gq_then ?_ | refine gc_seq ?_ | refine gc_region ?_ | refine g_alloc rfl rfl (fun _ => ?_) | refine g_st 0 rfl rfl rfl rfl rfl rfl rfl ?_)
    refine gc_condC rfl (fun hq => ?_) (fun hq => ?_)
    · repeat' (first | refine g_pv rfl rfl ?_ | refine g_ld 0 rfl rfl rfl rfl rfl rfl ?_ | refine gc_region ?_)
      refine g_eq 25 (u' := .int .i64 al[k].n) rfl (by rw [wrap_in (by have := haok.1; omega) (by have := haok.2; omega)]) ?_
      refine g_app1L 1 (f := fI) (q := al[k].n) rfl rfl rfl rfl rfl rfl rfl rfl rfl rfl rfl rfl ho3 (by unfold maxLen; omega) (by show _ * 8 ≤ _; omega) rfl rfl (fun v4 A4 g4 ho4 => ?_)
      repeat' (first | refine g_pv rfl rfl ?_ | refine g_nil ?_ | refine gq_then ?_ | refine gc_region ?_ | refine gq_block ?_)
      refine gq_again (k + 1, v4, A4) ⟨hlt, ?_⟩ (by simp only; omega) ⟨rfl, rfl, rfl, ?_, trivial⟩ (fun w' H => ?_)
      · rw [List.take_succ_eq_append_getElem hlt, readsF_app]
        have : readsF [al[k]] = [al[k].n] := by simp [readsF, (beq_iff_eq.1 hq : al[k].k = 1)]
        rw [this]; exact ho4
      · show some (Value.int .i64 (IntKind.i64.wrap ((k : Int) + 1))) = some (Value.int .i64 ((k + 1 : Nat) : Int)); rw [wrap_in (by omega) (by omega)]; rfl
      · exact hp_take 1 rfl (fun H => hp_take 1 rfl (fun H => hp_nil H) H) H
    · repeat' (first | refine g_pv rfl rfl ?_ | refine g_nil ?_ | refine gq_then ?_ | refine gc_region ?_ | refine gc_skip ?_ | refine gq_block ?_)
      refine gq_again (k + 1, v3, A3) ⟨hlt, ?_⟩ (by simp only; omega) ⟨rfl, rfl, rfl, ?_, trivial⟩ (fun w' H => ?_)
      · rw [List.take_succ_eq_append_getElem hlt, readsF_app]
        have : readsF [al[k]] = [] := by simp [readsF, (beq_eq_false_iff_ne.1 hq : al[k].k ≠ 1)]
        rw [this, List.append_nil]; exact ho3
      · show some (Value.int .i64 (IntKind.i64.wrap ((k : Int) + 1))) = some (Value.int .i64 ((k + 1 : Nat) : Int)); rw [wrap_in (by omega) (by omega)]; rfl
      · exact hp_take 1 rfl (fun H => hp_take 1 rfl (fun H => hp_nil H) H) H
  · have hge : k = al.length := by have := of_decide_eq_false hc; omega
    repeat' (first | refine g_pv rfl rfl ?_ | refine g_nil ?_ | refine gq_then ?_ | refine gc_seq ?_ | refine gc_region ?_ | refine gc_exit ?_ | refine gc_ret ?_ | refine gq_then_exit ?_ | refine gq_block_exit ?_)
    refine gq_ret1 (.inr rfl) rfl rfl rfl (fun w' H => ⟨(v3, A3), ?_, rfl, hp_take 0 rfl (fun H => hp_nil H) H⟩)
    show OwnI v3 x.reads A3
    rw [hge, List.take_length] at ho3
    unfold Ins.reads; rw [hal]; exact ho3
end Go.Proofs.YtpohhfggmaihpaaGreatDoor

/- The library's IndexFunc, DeleteFunc at []int; tac.Next. -/
namespace Go.Proofs.YtpohhfggmaihpaaGreatDoor
open Go.Wk
set_option linter.unusedVariables false
set_option linter.unusedSimpArgs false
attribute [local irreducible] G GC GQ GA GS Exit.then Exit.inBlock

theorem next1_sp (n : Int) (bx : Nat) (A : Option Addr) (len cap : Nat) (w : World) (hb : cellAt (hw w) bx 0 = some (.slice A len cap)) :
    Sp Tryz.prog 27 [.int .i64 n, .pointer (some ⟨bx, 0, none⟩)] w [] (fun _ : Unit => .bool (!(decide (0 ≤ n) && decide (n < (len : Int))))) (fun _ => []) (fun _ => True) := by
  refine enter (s := Tryz.sx) [] Tryz.func27 rfl rfl rfl (Eff.refl w) ?_
  repeat' (first | refine g_pv rfl rfl ?_ | refine g_nil ?_ | refine gq_then ?_ | refine gc_seq ?_ | refine gc_region ?_)
  refine g_ldO rfl rfl (cs := [.slice A len cap]) rfl rfl (cell1 ((old_le0 _ w).cell hb)) rfl ?_
  repeat' (refine g_pv rfl rfl ?_)
  refine g_call rfl (Cl.of Tryz.func23 rfl rfl) rfl rfl (fun w hE => within_sp _ _ w) rfl (fun y hy => ?_)
  repeat' (first | refine g_pv rfl rfl ?_ | refine g_nil ?_ | refine gq_then ?_ | refine gc_ret ?_)
  exact gq_ret1 (.inr rfl) rfl rfl rfl (fun w' H => ⟨(), trivial, rfl, H⟩)

/-- What is asked of a predicate's function. -/
def PredAt (H : Nat → Option Obj) (k : FuncId) (cp : Array Value) (p : Int → Bool) : Prop :=
  Cl Tryz.prog k ∧ ∀ w n, Hle H (hw w) → Sp Tryz.prog k (.int .i64 n :: cp.toList) w [] (fun _ : Unit => .bool (p n)) (fun _ => []) (fun _ => True)

def idxF (p : Int → Bool) (l : List Int) : Int := match l.findIdx? p with | some k => k | none => -1
theorem idxF_hit {p : Int → Bool} {l : List Int} {k : Nat} (hk : k < l.length) (h : ∀ x ∈ l.take k, p x = false) (hp : p l[k] = true) : idxF p l = k := by
  have : l.findIdx? p = some k := by
    rw [List.findIdx?_eq_some_iff_getElem]
    refine ⟨hk, hp, fun j hj => ?_⟩
    have := h l[j] (List.mem_take_iff_getElem.2 ⟨j, by omega, rfl⟩)
    simp [this]
  simp [idxF, this]
theorem idxF_miss {p : Int → Bool} {l : List Int} (h : ∀ x ∈ l, p x = false) : idxF p l = -1 := by
  have : l.findIdx? p = none := by rw [List.findIdx?_eq_none_iff]; simpa using h
  simp [idxF, this]

theorem indexF_sp (l : List Int) (p : Int → Bool) (ad : Option Addr) (cap : Nat) (w : World) (k : FuncId) (cp : Array Value) (hl : l.length ≤ 4611686018427387904) (hr : Rd (hw w) fI 1 ad l) (hp : PredAt (hw w) k cp p) :
    Sp Tryz.prog 49 [.slice ad l.length cap, .func (.func k) #[] cp] w [] (fun _ : Unit => .int .i64 (idxF p l)) (fun _ => []) (fun _ => True) := by
  refine enter (s := Tryz.sx) [] Tryz.func49 rfl rfl rfl (Eff.refl w) ?_
  repeat' (first | refine g_pv rfl rfl ?_ | refine g_nil ?_ | refine gq_then ?_ | refine gc_seq ?_ | refine gc_region ?_ | refine gc_block ?_)
  refine gc_loop (Y := Nat) (fun y => y ≤ l.length ∧ ∀ x ∈ l.take y, p x = false)
    (fun y => [(0, .slice ad l.length cap), (1, .func (.func k) #[] cp), (6, .slice ad l.length cap), (7, .int .i64 l.length), (8, .int .i64 y)]) (fun y => [])
    (fun y => l.length - y) 0 ⟨Nat.zero_le _, by simp⟩ ⟨rfl, rfl, rfl, rfl, rfl, trivial⟩ (fun w' H => H) ?_
  rintro j ⟨hj, hpj⟩
  dsimp only at hj hpj ⊢
  repeat' (first | refine g_pv rfl rfl ?_ | refine g_nil ?_ | refine gq_then ?_ | refine gc_seq ?_ | refine gc_region ?_)
  refine gc_condC rfl (fun hc => ?_) (fun hc => ?_)
  · have hlt : j < l.length := by have := of_decide_eq_true hc; omega
    repeat' (first | refine g_pv rfl rfl ?_ | refine g_nil ?_ | refine gq_then ?_ | refine gc_seq ?_ | refine gc_region ?_ | refine gc_block ?_ | refine gc_skip ?_)
    refine g_at (l := l) (f := fI) (u := l[j]) rfl rfl rfl rfl rfl (Int.natCast_nonneg j) (by omega) (hr.le (old_le0 _ w)) (List.getElem?_eq_getElem hlt) rfl rfl rfl rfl (fun a => ?_)
    refine g_call (gs := .int .i64 l[j] :: cp.toList) (Y := Unit) (vf := fun _ => .bool (p l[j])) (A' := fun _ => []) (post := fun _ => True) rfl hp.1 rfl rfl (fun w' hE => hp.2 w' l[j] (fun b o hh => old_le hE b o (old_le0 _ w b o hh))) rfl (fun y hy => ?_)
    repeat' (first | refine g_nil ?_ | refine gq_then ?_)
    refine gc_condC rfl (fun hq => ?_) (fun hq => ?_)
    · repeat' (first | refine g_pv rfl rfl ?_ | refine g_nil ?_ | refine gq_then ?_ | refine gc_seq ?_ | refine gc_region ?_ | refine gc_ret ?_ | refine gq_then_ret ?_ | refine gq_block_ret ?_)
      exact gq_ret1 (.inr rfl) rfl rfl rfl (fun w' H => ⟨(), trivial, by rw [idxF_hit hlt hpj hq], H⟩)
    · repeat' (first | refine g_pv rfl rfl ?_ | refine g_nil ?_ | refine gq_then ?_ | refine gc_region ?_ | refine gc_skip ?_ | refine gq_block ?_)
      refine gq_again (j + 1) ⟨hlt, ?_⟩ (by omega) ⟨rfl, rfl, rfl, rfl, inc_eq (by omega), trivial⟩ (fun w' H => H)
      intro x hx
      rw [List.take_succ_eq_append_getElem hlt] at hx
      rcases List.mem_append.1 hx with h | h
      · exact hpj x h
      · simp at h; subst h; exact hq
  · have hge : j = l.length := by have := of_decide_eq_false hc; omega
    repeat' (first | refine g_pv rfl rfl ?_ | refine g_nil ?_ | refine gq_then ?_ | refine gc_seq ?_ | refine gc_region ?_ | refine gc_exit ?_ | refine gc_ret ?_ | refine gq_then_exit ?_ | refine gq_block_exit ?_)
    refine gq_ret1 (.inr rfl) rfl rfl rfl (fun w' H => ⟨(), trivial, ?_, H⟩)
    rw [idxF_miss (by rw [hge, List.take_length] at hpj; exact hpj)]

theorem idxF_cases (p : Int → Bool) (l : List Int) : (idxF p l = -1 ∧ ∀ x ∈ l, p x = false) ∨ ∃ k : Nat, idxF p l = k ∧ k < l.length ∧ (∀ x ∈ l.take k, p x = false) ∧ ∀ x, l[k]? = some x → p x = true := by
  unfold idxF
  cases h : l.findIdx? p with
  | none => left; rw [List.findIdx?_eq_none_iff] at h; exact ⟨rfl, by simpa using h⟩
  | some k =>
    right
    rw [List.findIdx?_eq_some_iff_getElem] at h
    obtain ⟨hk, h1, h2⟩ := h
    refine ⟨k, rfl, hk, fun x hx => ?_, fun x hx => ?_⟩
    · obtain ⟨j, hj, rfl⟩ := List.mem_take_iff_getElem.1 hx
      simpa using h2 j (by omega)
    · rw [List.getElem?_eq_getElem hk] at hx; cases hx; exact h1

/-- The state of DeleteFunc's loop: i are kept, j are looked at. -/
structure DelS (p : Int → Bool) (l m : List Int) (i j : Nat) : Prop where
  len : m.length = l.length
  ij : i < j
  jl : j ≤ l.length
  kept : m.take i = (l.take j).filter (fun x => !p x)
  rest : m.drop j = l.drop j

theorem deleteF_sp {v : Value} (l : List Int) (p : Int → Bool) {A : HL} (w : World) (k : FuncId) (cp : Array Value) (ho : OwnI v l A) (hA : Eff w A w A) (hl : l.length ≤ 4611686018427387904) (hp : PredAt (exc w A) k cp p) :
    Sp Tryz.prog 26 [v, .func (.func k) #[] cp] w A (fun y : Value × HL => y.1) (fun y => [y.2]) (fun y => OwnI y.1 (l.filter fun x => !p x) y.2) := by
  have hm : ∀ {s ro n N ds}, Oldh ⟨s, ro, n, N, ds, w, A⟩ = exc w A := rfl
  obtain ⟨ad, cap, rfl, hsh⟩ := Own.shape ho
  have hk : ∀ w', Hle (exc w A) (hw w') → ∀ m, Sp Tryz.prog k (.int .i64 m :: cp.toList) w' [] (fun _ : Unit => .bool (p m)) (fun _ => []) (fun _ => True) := fun w' hh m => hp.2 w' m hh
  refine enterA (s := Tryz.sx) [A] (by simp) Tryz.func26 rfl rfl rfl hA ?_
  repeat' (first | refine g_pv rfl rfl ?_ | refine g_nil ?_ | refine gq_then ?_ | refine gc_seq ?_ | refine gc_region ?_)
  refine g_call (Y := Unit) (vf := fun _ => .int .i64 (idxF p l)) (A' := fun _ => []) (post := fun _ => True) rfl (Cl.of Tryz.func49 rfl rfl) rfl rfl (fun w' hE => ?_) rfl (fun y hy => ?_)
  · obtain ⟨ad', cap', he, hr⟩ := OwnL.rd (f := fI) (fun _ => rfl) ho (H := hw w') (fun b o hb => hE.holds b o (by simpa using hb))
    cases he
    exact indexF_sp l p ad cap w' k cp hl hr ⟨hp.1, fun w2 n2 hh => hk w2 (fun b o hb => hh b o (old_le hE b o hb)) n2⟩
  repeat' (first | refine g_pv rfl rfl ?_ | refine g_nil ?_ | refine gq_then ?_ | refine gc_seq ?_ | refine gc_region ?_)
  rcases idxF_cases p l with ⟨he, hall⟩ | ⟨q, he, hq, hpre, hat⟩
  · rw [he]
    repeat' (first | refine g_pv rfl rfl ?_ | refine g_nil ?_ | refine gq_then ?_ | refine gc_seq ?_ | refine gc_region ?_ | refine gc_cond_t rfl ?_ | refine gc_ret ?_ | refine gq_then_ret ?_)
    refine gq_ret1 (.inr rfl) rfl rfl rfl (fun w' H => ⟨(_, A), ?_, rfl, hp_take 0 rfl (fun H => hp_nil H) H⟩)
    have : l.filter (fun x => !p x) = l := List.filter_eq_self.2 (fun x hx => by simp [hall x hx])
    rw [this]; exact ho
  · rw [he]
    have hql : q < l.length := hq
    repeat' (first | refine g_pv rfl rfl ?_ | refine g_nil ?_ | refine gq_then ?_ | refine gc_seq ?_ | refine gc_region ?_ | refine gc_block ?_ | refine gc_cond_f rfl ?_ | refine gc_skip ?_)
    rw [show IntKind.i64.wrap ((q : Int) + 1) = ((q + 1 : Nat) : Int) from by rw [IntKind.wrap_i64]; omega]
    refine gc_loop (Y := List Int × Nat × Nat × HL) (fun y => DelS p l y.1 y.2.1 y.2.2.1 ∧ OwnI (.slice ad l.length cap) y.1 y.2.2.2)
      (fun y => [(0, .slice ad l.length cap), (1, .func (.func k) #[] cp), (5, .int .i64 y.2.1), (6, .int .i64 y.2.2.1)]) (fun y => [y.2.2.2])
      (fun y => l.length - y.2.2.1) (l, q, q + 1, A) ⟨⟨rfl, Nat.lt_succ_self q, hql, ?_, rfl⟩, ho⟩ ⟨rfl, rfl, rfl, rfl, trivial⟩ (fun w' H => H) ?_
    · rw [List.take_succ_eq_append_getElem hql, List.filter_append, List.filter_eq_self.2 (fun x hx => by simp [hpre x hx])]
      simp [hat _ (List.getElem?_eq_getElem hql)]
    rintro ⟨m, i, j, Am⟩ ⟨⟨hlen, hij, hjl, hkept, hrest⟩, hom⟩
    dsimp only at hlen hij hjl hkept hrest hom ⊢
    repeat' (first | refine g_pv rfl rfl ?_ | refine g_nil ?_ | refine gq_then ?_ | refine gc_seq ?_ | refine gc_region ?_)
    refine gc_condC rfl (fun hc => ?_) (fun hc => ?_)
    · have hlt : j < l.length := by have := of_decide_eq_true hc; omega
      have hmj : m[j]? = some l[j] := by
        have : (m.drop j)[0]? = (l.drop j)[0]? := by rw [hrest]
        simpa [List.getElem?_eq_getElem hlt] using this
      have hrest' : m.drop (j + 1) = l.drop (j + 1) := by
        have : (m.drop j).drop 1 = (l.drop j).drop 1 := by rw [hrest]
        simpa using this
      repeat' (first | refine g_pv rfl rfl ?_ | refine gq_then ?_ | refine gc_seq ?_ | refine gc_region ?_ | refine gc_block ?_ | refine gc_skip ?_)
      refine g_atL 0 rfl rfl hom (fun _ => rfl) rfl rfl rfl rfl (Int.natCast_nonneg j) hmj rfl rfl rfl (fun a => ?_)
      repeat' (first | refine g_pv rfl rfl ?_ | refine g_nil ?_ | refine gq_then ?_ | refine gc_seq ?_ | refine gc_region ?_)
      refine g_call (gs := .int .i64 l[j] :: cp.toList) (Y := Unit) (vf := fun _ => .bool (p l[j])) (A' := fun _ => []) (post := fun _ => True) rfl hp.1 rfl rfl (fun w' hE => hk w' (fun b o hh => old_le hE b o hh) l[j]) rfl (fun y hy => ?_)
      repeat' (first | refine g_pv rfl rfl ?_ | refine g_nil ?_ | refine gq_then ?_)
      refine gc_condC rfl (fun hq2 => ?_) (fun hq2 => ?_)
      · have hpj : p l[j] = false := by simpa using hq2
        repeat' (first | refine g_pv rfl rfl ?_ | refine gc_seq ?_ | refine gc_region ?_)
        refine g_setL 0 (f := fI) (q := l[j]) rfl rfl hom (fun _ => rfl) rfl rfl rfl rfl (Int.natCast_nonneg i) (by omega) rfl rfl rfl rfl rfl (fun a A2 ho2 => ?_)
        repeat' (first | refine g_pv rfl rfl ?_ | refine g_nil ?_ | refine gq_then ?_ | refine gc_region ?_ | refine gq_block ?_)
        refine gq_again (m.set i l[j], i + 1, j + 1, A2) ⟨⟨by simpa using hlen, by dsimp only; omega, hlt, ?_, ?_⟩, by simpa using ho2⟩ (by simp only; omega) ⟨rfl, rfl, inc_eq (by omega), inc_eq (by omega), trivial⟩ (fun w' H => H)
        · rw [List.take_succ_eq_append_getElem hlt, List.filter_append, ← hkept]
          dsimp only
          rw [List.take_succ_eq_append_getElem (by simp; omega)]
          simp [hpj, List.take_set_of_le]
        · dsimp only
          rw [← hrest', List.drop_set_of_lt (by omega)]
      · have hpj : p l[j] = true := by simpa using hq2
        repeat' (first | refine g_pv rfl rfl ?_ | refine g_nil ?_ | refine gq_then ?_ | refine gc_region ?_ | refine gc_skip ?_ | refine gq_block ?_)
        refine gq_again (m, i, j + 1, Am) ⟨⟨hlen, by dsimp only; omega, hlt, ?_, hrest'⟩, hom⟩ (by simp only; omega) ⟨rfl, rfl, rfl, inc_eq (by omega), trivial⟩ (fun w' H => H)
        rw [List.take_succ_eq_append_getElem hlt, List.filter_append, ← hkept]
        simp [hpj]
    · have hge : j = l.length := by have := of_decide_eq_false hc; omega
      rw [hge, List.take_length] at hkept
      have hdone : m.take i = l.filter (fun x => !p x) := hkept
      repeat' (first | refine g_pv rfl rfl ?_ | refine gq_then ?_ | refine gc_seq ?_ | refine gc_region ?_ | refine gc_exit ?_ | refine gq_then_exit ?_ | refine gq_block_exit ?_)
      obtain ⟨g, cap', rst, hv, rfl, h3, h4, h5⟩ := Own.pos hom (by omega)
      injection hv with hv1 hv2 hv3
      subst hv1; subst hv3
      have hfm : m.flatMap fI = m.map (Value.int .i64) := flat_one _ m
      rw [hfm] at h5 ⊢
      refine g_lo rfl rfl rfl rfl (by omega) rfl ?_
      refine g_clear1 0 (o := i) (l := m.map (Value.int .i64) ++ rst) rfl rfl rfl rfl rfl rfl (fun hpos => ?_) (by simp; omega) ?_
      · rw [if_neg (by omega)]; simp [Addr.add]; try (intro _; omega)
      repeat' (first | refine g_pv rfl rfl ?_ | refine g_nil ?_ | refine gq_then ?_ | refine gc_seq ?_ | refine gc_region ?_)
      refine g_hi rfl rfl rfl rfl (by omega) rfl ?_
      repeat' (first | refine g_pv rfl rfl ?_ | refine g_nil ?_ | refine gq_then ?_ | refine gc_ret ?_)
      refine gq_ret1 (.inr rfl) rfl rfl rfl (fun w' H => ⟨(_, _), ?_, rfl, hp_take 0 rfl (fun H => hp_nil H) H⟩)
      have hlen2 : (l.filter (fun x => !p x)).length = i := by rw [← hdone, List.length_take]; omega
      have e1 : m.map (Value.int .i64) = (l.filter (fun x => !p x)).map (Value.int .i64) ++ (m.drop i).map (Value.int .i64) := by
        rw [← hdone, ← List.map_append, List.take_append_drop]
      have e2 := putC_tail ((l.filter (fun x => !p x)).map (Value.int .i64)) ((m.drop i).map (Value.int .i64)) (List.replicate (l.length - i) (.int .i64 0)) (by simp; omega) rst
      rw [List.length_map, hlen2, ← List.append_assoc, ← e1] at e2
      show OwnI (.slice (some ⟨g, 0, none⟩) i cap) _ [(g, .cells ⟨putC (m.map (Value.int .i64) ++ rst) i (List.replicate (l.length - i) (.int .i64 0))⟩ 3 (0, 0))]
      rw [e2, List.append_assoc]
      have := OwnI.mk (g := g) (cap := cap) (l := l.filter (fun x => !p x)) (rest := List.replicate (l.length - i) (.int .i64 0) ++ rst) (by omega) h4 (by simp at h5 ⊢; omega)
      rw [hlen2] at this
      exact this
end Go.Proofs.YtpohhfggmaihpaaGreatDoor

/- tac.Next. -/
namespace Go.Proofs.YtpohhfggmaihpaaGreatDoor
open Go.Wk
set_option linter.unusedVariables false
set_option linter.unusedSimpArgs false
attribute [local irreducible] G GC GQ GA GS Exit.then Exit.inBlock

theorem ins_at {H : Nat → Option Obj} {ad : Option Addr} {l : List Ins} (hc : CodeIn H ad l) {i : Nat} (hi : i < l.length) : InsIn H l[i] := hc.all _ (List.getElem_mem hi)

theorem own_lit1 (g : Nat) (n : Int) : OwnI (.slice (some ⟨g, 0, none⟩) 1 1) [n] [(g, .cells ⟨[.int .i64 n]⟩ 3 (0, 0))] := ⟨rfl, .inr ⟨g, 1, [], rfl, rfl, Nat.le_refl _, by decide, rfl⟩⟩
theorem own_lit2 (g : Nat) (n m : Int) : OwnI (.slice (some ⟨g, 0, none⟩) 2 2) [n, m] [(g, .cells ⟨[.int .i64 n, .int .i64 m]⟩ 3 (0, 0))] := ⟨rfl, .inr ⟨g, 2, [], rfl, rfl, Nat.le_refl _, by decide, rfl⟩⟩

/-- What tac.Next hands to DeleteFunc. -/
def rawNext (x : Ins) (i : Int) : List Int :=
  if x.op = 9 ∨ x.op = 14 then [] else if x.op = 10 then [x.n] else if x.op = 11 then [i + 1, x.n] else [i + 1]
def notIn (n : Int) (k : Int) : Bool := !(decide (0 ≤ k) && decide (k < n))
theorem sorted0 : sorted [] = [] := by simp [sorted]
theorem sorted1 (a : Int) : sorted [a] = [a] := by simp [sorted]
theorem sorted2 (a b : Int) : sorted [a, b] = [min a b, max a b] := by
  simp [sorted, List.mergeSort, List.MergeSort.Internal.splitInTwo, List.merge]
  by_cases h : a ≤ b
  · simp [h, Int.min_eq_left, Int.max_eq_right]
  · simp [h, Int.min_eq_right (by omega : b ≤ a), Int.max_eq_left (by omega : b ≤ a)]
theorem compact0 : Lib.compact ([] : List Int) = [] := by simp [Lib.compact, Lib.compactUpTo]
theorem compact1 (a : Int) : Lib.compact [a] = [a] := by simp [Lib.compact, Lib.compactUpTo, Lib.keeps]
theorem compact2 (a b : Int) : Lib.compact [a, b] = if a = b then [a] else [a, b] := by
  unfold Lib.compact
  simp only [List.length_cons, List.length_nil]
  rw [Lib.compactUpTo_succ, Lib.compactUpTo_succ]
  by_cases h : a = b
  · simp [Lib.compactUpTo, Lib.keeps, h]
  · simp [Lib.compactUpTo, Lib.keeps, h, Ne.symm h]
theorem next_law (n : Int) (x : Ins) (i : Int) : Lib.compact (sorted ((rawNext x i).filter fun k => !notIn n k)) = nextL n x i := by
  have e : (fun k => !notIn n k) = fun k => decide (0 ≤ k) && decide (k < n) := by funext k; simp [notIn]
  rw [e]
  unfold rawNext nextL
  have one : ∀ a : Int, Lib.compact (sorted ([a].filter fun k => decide (0 ≤ k) && decide (k < n))) = [a].filter fun k => decide (0 ≤ k) && decide (k < n) := fun a => by
    by_cases h : (decide (0 ≤ a) && decide (a < n)) = true
    · rw [List.filter_cons_of_pos (by simpa using h)]; simp [sorted1, compact1]
    · rw [List.filter_cons_of_neg (by simpa using h)]; simp [sorted0, compact0]
  split
  · simp [sorted0, compact0]
  split
  · exact one _
  split
  · generalize i + 1 = a
    generalize x.n = b
    by_cases hab : b = a
    · subst hab
      rw [if_pos rfl]
      by_cases h : (decide (0 ≤ b) && decide (b < n)) = true
      · rw [List.filter_cons_of_pos (by simpa using h), List.filter_cons_of_pos (by simpa using h)]; simp [sorted2, compact2]
      · rw [List.filter_cons_of_neg (by simpa using h), List.filter_cons_of_neg (by simpa using h)]; simp [sorted0, compact0]
    · rw [if_neg hab]
      have hmm : (min a b = a ∧ max a b = b) ∨ (min a b = b ∧ max a b = a) := by omega
      by_cases ha : (decide (0 ≤ a) && decide (a < n)) = true <;> by_cases hb : (decide (0 ≤ b) && decide (b < n)) = true
      all_goals (rcases hmm with ⟨h1, h2⟩ | ⟨h1, h2⟩)
      all_goals (try simp only [List.filter_cons, ha, hb, h1, h2, if_true, if_false, List.filter_nil, Bool.false_eq_true, sorted0, sorted1, sorted2, compact0, compact1, compact2, hab, Ne.symm hab])
  · exact one _

theorem next_sp (l : List Ins) (i : Nat) (ad : Option Addr) (cap : Nat) (w : World) (hc : CodeIn (hw w) ad l) (hi : i < l.length) :
    Sp Tryz.prog 10 [.slice ad l.length cap, .int .i64 i] w [] (fun y : Value × HL => y.1) (fun y => [y.2]) (fun y => OwnI y.1 (nextL l.length l[i] i) y.2) := by
  have hlen := hc.len
  have hx := ins_at hc hi
  refine enter (s := Tryz.sx) [] Tryz.func10 rfl rfl rfl (Eff.refl w) ?_
  refine gc_seq ?_
  repeat' (first | refine g_pv rfl rfl ?_ | refine g_nil ?_ | refine gq_then ?_ | refine gc_region ?_ | refine g_box rfl rfl (fun _ => ?_))
  rename_i b2
  refine gc_seq ?_
  refine gc_seq ?_
  repeat' (first | refine g_pv rfl rfl ?_ | refine g_ld 0 rfl rfl rfl rfl rfl rfl ?_ | refine gc_region ?_)
  refine g_call rfl (Cl.of Tryz.func23 rfl rfl) rfl rfl (fun w hE => within_sp _ _ w) rfl (fun y hy => ?_)
  rw [show (decide ((0 : Int) ≤ i) && decide ((i : Int) < l.length)) = true from by simp; omega]
  repeat' (first | refine g_pv rfl rfl ?_ | refine g_nil ?_ | refine gq_then ?_ | refine gc_cond_f rfl ?_ | refine gc_skip ?_)
  refine gc_seq ?_
  repeat' (first | refine g_pv rfl rfl ?_ | refine g_nil ?_ | refine gq_then ?_ | refine gc_region ?_)
  refine gc_cut (Y := Value × HL) (fun y => OwnI y.1 (rawNext l[i] i) y.2) (fun y => [(5, y.1), (2, .pointer (some ⟨b2, 0, none⟩))]) (fun y => [y.2, [(b2, .cells ⟨[.slice ad l.length cap]⟩ 30 (0, 0))]]) ?_ ?_
  · repeat' (first | refine g_pv rfl rfl ?_ | refine g_ld 0 rfl rfl rfl rfl rfl rfl ?_ | refine gc_seq ?_ | refine gc_region ?_)
    refine g_at (l := l) (f := Ins.cells) (u := l[i]) rfl rfl rfl rfl rfl (Int.natCast_nonneg i) (by omega) (hc.row.le (old_le0 _ w)) (List.getElem?_eq_getElem hi) rfl rfl rfl rfl (fun a => ?_)
    repeat' (first | refine g_pv rfl rfl ?_ | refine g_ld 0 rfl rfl rfl rfl rfl rfl ?_ | refine g_nil ?_ | refine gq_then ?_ | refine gc_seq ?_ | refine gc_region ?_ | refine gc_block ?_ | refine gc_cond_t rfl ?_ | refine gc_skip ?_ | refine gq_block ?_ | refine g_alloc rfl rfl (fun _ => ?_) | refine g_st 0 rfl rfl rfl rfl rfl rfl rfl ?_ | refine gc_condC rfl (fun hc => ?_) (fun hc => ?_) | refine g_litL rfl rfl rfl rfl rfl rfl rfl rfl rfl rfl (fun g => ?_))
    all_goals simp only [beq_iff_eq, beq_eq_false_iff_ne, ne_eq] at *
    all_goals (try rw [wrap_in (n := (i : Int) + 1) (by omega) (by omega)])
    · exact gq_at (.slice none 0 0, []) (by simpa [rawNext, *] using OwnL.nil 3 1 fI) ⟨rfl, rfl, trivial⟩ (fun w' H => hp_perm (hp_take 1 rfl (fun H => hp_nil H) H) (by simp; rfl))
    · exact gq_at (.slice none 0 0, []) (by simpa [rawNext, *] using OwnL.nil 3 1 fI) ⟨rfl, rfl, trivial⟩ (fun w' H => hp_perm (hp_take 1 rfl (fun H => hp_nil H) H) (by simp; rfl))
    · exact gq_at (_, _) ((show rawNext l[i] i = [l[i].n] from by simp [rawNext, *]) ▸ own_lit1 g l[i].n) ⟨rfl, rfl, trivial⟩ (fun w' H => hp_take 0 rfl (fun H => hp_take 1 rfl (fun H => hp_nil H) H) H)
    · exact gq_at (_, _) ((show rawNext l[i] i = [(i : Int) + 1, l[i].n] from by simp [rawNext, *]) ▸ own_lit2 g (i + 1) l[i].n) ⟨rfl, rfl, trivial⟩ (fun w' H => hp_take 0 rfl (fun H => hp_take 1 rfl (fun H => hp_nil H) H) H)
    · exact gq_at (_, _) ((show rawNext l[i] i = [(i : Int) + 1] from by simp [rawNext, *]) ▸ own_lit1 g (i + 1)) ⟨rfl, rfl, trivial⟩ (fun w' H => hp_take 0 rfl (fun H => hp_take 1 rfl (fun H => hp_nil H) H) H)
  · rintro ⟨v, A⟩ ho
    dsimp only at ho ⊢
    have hraw : (rawNext l[i] i).length ≤ 2 := by unfold rawNext; split <;> (try split) <;> (try split) <;> simp
    repeat' (first | refine g_pv rfl rfl ?_ | refine gc_seq ?_ | refine gc_region ?_)
    refine g_callA rfl rfl (Cl.of Tryz.func26 rfl rfl) rfl rfl (fun w' hE => deleteF_sp (p := notIn l.length) _ w' 27 #[.pointer (some ⟨b2, 0, none⟩)] ho (hp_eff hE) (by omega)
      ⟨Cl.of Tryz.func27 rfl rfl, fun w2 n hh => next1_sp n b2 ad l.length cap w2 (hh.cell (by simp [cellAt, hp_exc hE (List.mem_append_left _ List.mem_cons_self)]))⟩) rfl ?_
    rintro ⟨v2, A2⟩ ho2
    have hfl := List.length_filter_le (fun x => !notIn l.length x) (rawNext l[i] i)
    repeat' (first | refine g_pv rfl rfl ?_ | refine g_nil ?_ | refine gq_then ?_ | refine gc_seq ?_ | refine gc_region ?_)
    refine g_callA rfl rfl (Cl.of Tryz.func28 rfl rfl) rfl rfl (fun w' hE => sort_sp w' ho2 (hp_eff hE) (by omega)) rfl ?_
    intro A3 ho3
    repeat' (first | refine g_pv rfl rfl ?_ | refine g_nil ?_ | refine gq_then ?_ | refine gc_seq ?_ | refine gc_region ?_)
    refine g_callA rfl rfl (Cl.of Tryz.func29 rfl rfl) rfl rfl (fun w' hE => compact_sp w' ho3 (hp_eff hE) (by rw [sorted_len]; omega)) rfl ?_
    rintro ⟨v4, A4⟩ ho4
    rw [next_law] at ho4
    repeat' (first | refine g_pv rfl rfl ?_ | refine g_nil ?_ | refine gq_then ?_ | refine gc_ret ?_)
    exact gq_ret1 (.inr rfl) rfl rfl rfl (fun w' H => ⟨(v4, A4), ho4, rfl, hp_take 0 rfl (fun H => hp_nil H) H⟩)
end Go.Proofs.YtpohhfggmaihpaaGreatDoor

/- The document's answer (layer 13): within, Writes, Reads, Next. -/
namespace Go.Proofs.YtpohhfggmaihpaaGreatDoor
open Go.Wk
set_option linter.unusedVariables false
set_option linter.unusedSimpArgs false
attribute [local irreducible] G GC GQ GA GS Exit.then Exit.inBlock

theorem rwithin_sp (n lo hi : Int) (w : World) : Sp Tryz.prog 30 [.int .i64 n, .int .i64 lo, .int .i64 hi] w [] (fun _ : Unit => .bool (decide (lo ≤ n) && decide (n ≤ hi))) (fun _ => []) (fun _ => True) := by
  refine enter (s := Tryz.sx) [] Tryz.func30 rfl rfl rfl (Eff.refl w) ?_
  repeat' (first | refine g_pv rfl rfl ?_ | refine g_nil ?_ | refine gq_then ?_ | refine gc_seq ?_ | refine gc_region ?_)
  refine g_case (t := 10) rfl (fun h => ?_) (fun h => ?_)
  all_goals (repeat' (first | refine g_pv rfl rfl ?_ | refine g_nil ?_ | refine gq_then ?_ | refine gc_ret ?_ | refine g_yes rfl rfl rfl ?_ | refine g_no rfl rfl rfl rfl rfl ?_))
  · refine gq_ret1 (.inr rfl) rfl rfl rfl (fun w' H => ⟨(), trivial, ?_, H⟩)
    have h' : lo ≤ n := by simpa using h
    simp [h']
  · refine gq_ret1 (.inr rfl) rfl rfl rfl (fun w' H => ⟨(), trivial, ?_, H⟩)
    have h' : ¬ lo ≤ n := by simpa using h
    simp [h']

def rwrites (x : Ins) : Int := if x.d < 0 then -1 else if writesOp x.op then x.d else -1
theorem rwrites_eq (x : Ins) : rwrites x = x.writes := by
  unfold rwrites Ins.writes
  split
  · split <;> omega
  · split <;> omega
theorem rwrites_sp (x : Ins) (w : World) : Sp Tryz.prog 18 [x.val] w [] (fun _ : Unit => .int .i64 (rwrites x)) (fun _ => []) (fun _ => True) := by
  refine enter (s := Tryz.sx) [] Tryz.func18 rfl rfl rfl (Eff.refl w) ?_
  repeat' (first | refine g_pv rfl rfl ?_ | refine g_ld 0 rfl rfl rfl rfl rfl rfl ?_ | refine g_nil ?_ | refine gq_then ?_ | refine gc_seq ?_ | refine gc_region ?_ | refine gc_block ?_ | refine gc_cond_t rfl ?_ | refine gc_skip ?_ | refine gc_ret ?_ | refine gq_then_ret ?_ | refine gq_block ?_ | refine gq_block_ret ?_ | refine g_box rfl rfl (fun _ => ?_) | refine gc_condC rfl (fun hc => ?_) (fun hc => ?_))
  all_goals refine gq_ret1 (.inr rfl) rfl rfl rfl (fun w' H => ⟨(), trivial, ?_, hp_nil H⟩)
  all_goals simp only [beq_iff_eq, beq_eq_false_iff_ne, ne_eq, decide_eq_true_eq, decide_eq_false_iff_not] at *
  all_goals simp [rwrites, writesOp, *]

/-- The list that Next looks through. -/
def rawN (x : Ins) (i : Int) : List Int :=
  if x.op = 9 ∨ x.op = 14 then [] else if x.op = 10 then [x.n] else if x.op = 11 then [if x.n < i + 1 then x.n else i + 1, if x.n > i + 1 then x.n else i + 1] else [i + 1]
def keepN (n : Int) (l : List Int) (k : Nat) : Bool := (decide (0 ≤ l.getD k 0) && decide (l.getD k 0 ≤ n - 1)) && (k == 0 || l.getD k 0 != l.getD (k - 1) 0)
def outN (n : Int) (l : List Int) (k : Nat) : List Int := ((List.range k).filter (keepN n l)).map (l.getD · 0)
theorem outN_succ (n : Int) (l : List Int) (k : Nat) : outN n l (k + 1) = outN n l k ++ if keepN n l k then [l.getD k 0] else [] := by
  unfold outN
  rw [List.range_succ, List.filter_append, List.map_append]
  congr 1
  by_cases h : keepN n l k <;> simp [h]
theorem rnext_law (n : Int) (x : Ins) (i : Int) : outN n (rawN x i) (rawN x i).length = nextL n x i := by
  unfold rawN nextL
  have e1 : ∀ k : Int, (decide (0 ≤ k) && decide (k ≤ n - 1)) = (decide (0 ≤ k) && decide (k < n)) := fun k => by
    by_cases h : k < n
    · simp [h, (show k ≤ n - 1 by omega)]
    · simp [h, (show ¬ k ≤ n - 1 by omega)]
  have one : ∀ a : Int, outN n [a] 1 = [a].filter fun k => decide (0 ≤ k) && decide (k < n) := fun a => by
    simp [outN, keepN, List.range_succ, List.filter_cons, e1]
    split <;> simp
  split
  · rfl
  split
  · exact one _
  split
  · generalize i + 1 = a
    generalize x.n = b
    simp only [List.length_cons, List.length_nil]
    by_cases hab : b = a
    · subst hab
      simp [outN, keepN, List.range_succ, List.filter_cons, e1]
      split <;> simp
    · rw [if_neg hab, show (if b < a then b else a) = min a b from by omega, show (if b > a then b else a) = max a b from by omega]
      have hmm : min a b ≠ max a b := by omega
      generalize min a b = c at *
      generalize max a b = d at *
      simp [outN, keepN, List.range_succ, List.filter_cons, e1, Ne.symm hmm]
      split <;> split <;> simp_all
  · exact one _

set_option maxHeartbeats 8000000 in
theorem rnext_sp (l : List Ins) (i : Nat) (ad : Option Addr) (cap : Nat) (w : World) (hc : CodeIn (hw w) ad l) (hi : i < l.length) :
    Sp Tryz.prog 19 [.slice ad l.length cap, .int .i64 i] w [] (fun y : Value × HL => y.1) (fun y => [y.2]) (fun y => OwnI y.1 (nextL l.length l[i] i) y.2) := by
  have hlen := hc.len
  have hx := ins_at hc hi
  refine enter (s := Tryz.sx) [] Tryz.func19 rfl rfl rfl (Eff.refl w) ?_
  refine gc_seq ?_
  repeat' (first | refine g_pv rfl rfl ?_ | refine g_nil ?_ | refine gq_then ?_ | refine gc_region ?_)
  refine gc_seq ?_
  refine gc_seq ?_
  repeat' (first | refine g_pv rfl rfl ?_ | refine gc_region ?_)
  rw [show IntKind.i64.wrap ((l.length : Int) - 1) = (l.length : Int) - 1 from by rw [IntKind.wrap_i64]; omega]
  refine g_call rfl (Cl.of Tryz.func30 rfl rfl) rfl rfl (fun w hE => rwithin_sp _ _ _ w) rfl (fun y hy => ?_)
  rw [show (decide ((0 : Int) ≤ i) && decide ((i : Int) ≤ l.length - 1)) = true from by simp; omega]
  repeat' (first | refine g_pv rfl rfl ?_ | refine g_nil ?_ | refine gq_then ?_ | refine gc_cond_f rfl ?_ | refine gc_skip ?_)
  refine gc_seq ?_
  repeat' (first | refine g_pv rfl rfl ?_ | refine gc_region ?_)
  refine g_at (l := l) (f := Ins.cells) (u := l[i]) rfl rfl rfl rfl rfl (Int.natCast_nonneg i) (by omega) (hc.row.le (old_le0 _ w)) (List.getElem?_eq_getElem hi) rfl rfl rfl rfl (fun a => ?_)
  repeat' (first | refine g_nil ?_ | refine gq_then ?_ | refine g_alloc rfl rfl (fun _ => ?_) | refine g_st 0 rfl rfl rfl rfl rfl rfl rfl ?_)
  refine gc_seq ?_
  repeat' (first | refine g_pv rfl rfl ?_ | refine g_nil ?_ | refine gq_then ?_ | refine gc_region ?_)
  refine gc_cut (Y := Value × HL) (fun y => OwnI y.1 (rawN l[i] i) y.2) (fun y => [(6, y.1), (0, .slice ad l.length cap)]) (fun y => [y.2]) ?_ ?_
  · repeat' (first | refine g_pv rfl rfl ?_ | refine g_ld 0 rfl rfl rfl rfl rfl rfl ?_ | refine g_nil ?_ | refine gq_then ?_ | refine gc_seq ?_ | refine gc_region ?_ | refine gc_block ?_ | refine gc_cond_t rfl ?_ | refine gc_skip ?_ | refine gq_block ?_ | refine gc_condC rfl (fun hc => ?_) (fun hc => ?_) | refine g_litL rfl rfl rfl rfl rfl rfl rfl rfl rfl rfl (fun g => ?_))
    all_goals simp only [beq_iff_eq, beq_eq_false_iff_ne, ne_eq] at *
    all_goals (try rw [wrap_in (n := (i : Int) + 1) (by omega) (by omega)])
    · exact gq_at (.slice none 0 0, []) (by simpa [rawN, *] using OwnL.nil 3 1 fI) ⟨rfl, rfl, trivial⟩ (fun w' H => hp_perm (hp_nil H) (by simp))
    · exact gq_at (.slice none 0 0, []) (by simpa [rawN, *] using OwnL.nil 3 1 fI) ⟨rfl, rfl, trivial⟩ (fun w' H => hp_perm (hp_nil H) (by simp))
    · exact gq_at (_, _) ((show rawN l[i] i = [l[i].n] from by simp [rawN, *]) ▸ own_lit1 g _) ⟨rfl, rfl, trivial⟩ (fun w' H => hp_take 0 rfl (fun H => hp_nil H) H)
    · exact gq_at (_, _) ((show rawN l[i] i = [if l[i].n < (i : Int) + 1 then l[i].n else (i : Int) + 1, if l[i].n > (i : Int) + 1 then l[i].n else (i : Int) + 1] from by simp [rawN, *]) ▸ own_lit2 g _ _) ⟨rfl, rfl, trivial⟩ (fun w' H => hp_take 0 rfl (fun H => hp_nil H) H)
    · exact gq_at (_, _) ((show rawN l[i] i = [(i : Int) + 1] from by simp [rawN, *]) ▸ own_lit1 g _) ⟨rfl, rfl, trivial⟩ (fun w' H => hp_take 0 rfl (fun H => hp_nil H) H)
  · rintro ⟨v, A⟩ ho
    dsimp only at ho ⊢
    have hraw : (rawN l[i] i).length ≤ 2 := by unfold rawN; split <;> (try split) <;> (try split) <;> simp
    rw [← rnext_law]
    generalize rawN l[i] i = raw at ho hraw ⊢
    obtain ⟨rad, rcap, rfl, _⟩ := Own.shape ho
    repeat' (first | refine g_pv rfl rfl ?_ | refine g_nil ?_ | refine gq_then ?_ | refine gc_seq ?_ | refine gc_region ?_ | refine gc_block ?_)
    refine gc_loop (Y := Nat × Value × HL) (fun y => y.1 ≤ raw.length ∧ OwnI y.2.1 (outN l.length raw y.1) y.2.2)
      (fun y => [(0, .slice ad l.length cap), (6, .slice rad raw.length rcap), (7, y.2.1), (8, .int .i64 y.1)]) (fun y => [y.2.2, A])
      (fun y => raw.length - y.1) (0, .slice none 0 0, []) ⟨Nat.zero_le _, OwnL.nil _ _ _⟩ ⟨rfl, rfl, rfl, rfl, trivial⟩ (fun w' H => hp_perm H (by simp)) ?_
    rintro ⟨k, v7, A7⟩ ⟨hk, ho7⟩
    dsimp only at hk ho7 ⊢
    repeat' (first | refine g_pv rfl rfl ?_ | refine g_nil ?_ | refine gq_then ?_ | refine gc_seq ?_ | refine gc_region ?_)
    refine gc_condC rfl (fun hc => ?_) (fun hc => ?_)
    · have hlt : k < raw.length := by have := of_decide_eq_true hc; omega
      have hgd : raw.getD k 0 = raw[k] := by simp [List.getD, List.getElem?_eq_getElem hlt]
      repeat' (first | refine gq_then ?_ | refine gc_skip ?_)
      refine gc_seq ?_
      repeat' (refine gc_block ?_)
      refine gc_cut (Y := Unit) (fun _ => True) (fun _ => [(74, .bool (keepN l.length raw k)), (0, .slice ad l.length cap), (6, .slice rad raw.length rcap), (7, v7), (8, .int .i64 k)]) (fun _ => [A7, A]) ?_ ?_
      · refine gc_draw [A7, A] [] rfl (by simp) ?_
        (refine ga_p 0 (by repeat first | exact NoP.sp | apply NoP.then | apply NoP.block) rfl (pv_spec rfl) rfl (by kernel_rfl) (by kernel_rfl) (by kernel_rfl) ?_); (refine ga_p 1 (by repeat first | exact NoP.sp | apply NoP.then | apply NoP.block) rfl (pv_spec rfl) rfl (by kernel_rfl) (by kernel_rfl) (by kernel_rfl) ?_); (refine ga_p 4 (by repeat first | exact NoP.sp | apply NoP.then | apply NoP.block) rfl (pv_spec rfl) rfl (by kernel_rfl) (by kernel_rfl) (by kernel_rfl) ?_); (refine ga_p 5 (by repeat first | exact NoP.sp | apply NoP.then | apply NoP.block) rfl (pv_spec rfl) rfl (by kernel_rfl) (by kernel_rfl) (by kernel_rfl) ?_); (refine ga_p 6 (by repeat first | exact NoP.sp | apply NoP.then | apply NoP.block) rfl (pv_spec rfl) rfl (by kernel_rfl) (by kernel_rfl) (by kernel_rfl) ?_)
        refine ga_at 2 3 (l := raw) (f := fI) (u := raw[k]) (by repeat first | exact NoP.sp | apply NoP.then | apply NoP.block) rfl wanted_none rfl (fun a _ => wanted_none a) rfl rfl rfl rfl rfl (Int.natCast_nonneg k) (by omega) (still_rd 1 rfl (fun _ => rfl) ho rfl) (List.getElem?_eq_getElem hlt) rfl rfl rfl rfl (by kernel_rfl) (by kernel_rfl) (by kernel_rfl) (by kernel_rfl) (by kernel_rfl) (fun a => ?_)
        refine ga_one (i := 7) (by kernel_rfl) (gs_of rfl (fun K hK => ?_))
        rw [show IntKind.i64.wrap ((l.length : Int) - 1) = (l.length : Int) - 1 from by rw [IntKind.wrap_i64]; omega]
        refine g_call rfl (Cl.of Tryz.func30 rfl rfl) rfl rfl (fun w hE => rwithin_sp _ _ _ w) rfl (fun y hy => ?_)
        refine g_nil ?_
        refine hK _ _ ⟨[], by simp⟩ ?_
        refine ga_case (t := 58) rfl (fun hin => ?_) (fun hin => ?_)
        · (refine ga_p 8 (by repeat first | exact NoP.sp | apply NoP.then | apply NoP.block) rfl (pv_spec rfl) rfl (by kernel_rfl) (by kernel_rfl) (by kernel_rfl) ?_); (refine ga_py 9 (by repeat first | exact NoP.sp | apply NoP.then | apply NoP.block) rfl rfl rfl rfl (pv_spec rfl) rfl (by kernel_rfl) (by kernel_rfl) (by kernel_rfl) ?_); (refine ga_py 10 (by repeat first | exact NoP.sp | apply NoP.then | apply NoP.block) rfl rfl rfl rfl (pv_spec rfl) rfl (by kernel_rfl) (by kernel_rfl) (by kernel_rfl) ?_); (refine ga_py 11 (by repeat first | exact NoP.sp | apply NoP.then | apply NoP.block) rfl rfl rfl rfl (pv_spec rfl) rfl (by kernel_rfl) (by kernel_rfl) (by kernel_rfl) ?_)
          refine ga_case (t := 62) rfl (fun h0 => ?_) (fun h0 => ?_)
          · (refine ga_n 12 (by repeat first | exact NoP.sp | apply NoP.then | apply NoP.block) rfl rfl rfl rfl rfl rfl (by kernel_rfl) (by kernel_rfl) (by kernel_rfl) ?_); (refine ga_n 13 (by repeat first | exact NoP.sp | apply NoP.then | apply NoP.block) rfl rfl rfl rfl rfl rfl (by kernel_rfl) (by kernel_rfl) (by kernel_rfl) ?_); (refine ga_n 14 (by repeat first | exact NoP.sp | apply NoP.then | apply NoP.block) rfl rfl rfl rfl rfl rfl (by kernel_rfl) (by kernel_rfl) (by kernel_rfl) ?_); (refine ga_n 15 (by repeat first | exact NoP.sp | apply NoP.then | apply NoP.block) rfl rfl rfl rfl rfl rfl (by kernel_rfl) (by kernel_rfl) (by kernel_rfl) ?_); (refine ga_n 16 (by repeat first | exact NoP.sp | apply NoP.then | apply NoP.block) rfl rfl rfl rfl rfl rfl (by kernel_rfl) (by kernel_rfl) (by kernel_rfl) ?_); (refine ga_n 17 (by repeat first | exact NoP.sp | apply NoP.then | apply NoP.block) rfl rfl rfl rfl rfl rfl (by kernel_rfl) (by kernel_rfl) (by kernel_rfl) ?_); (refine ga_n 18 (by repeat first | exact NoP.sp | apply NoP.then | apply NoP.block) rfl rfl rfl rfl rfl rfl (by kernel_rfl) (by kernel_rfl) (by kernel_rfl) ?_); (refine ga_n 19 (by repeat first | exact NoP.sp | apply NoP.then | apply NoP.block) rfl rfl rfl rfl rfl rfl (by kernel_rfl) (by kernel_rfl) (by kernel_rfl) ?_); (refine ga_n 20 (by repeat first | exact NoP.sp | apply NoP.then | apply NoP.block) rfl rfl rfl rfl rfl rfl (by kernel_rfl) (by kernel_rfl) (by kernel_rfl) ?_); (refine ga_n 21 (by repeat first | exact NoP.sp | apply NoP.then | apply NoP.block) rfl rfl rfl rfl rfl rfl (by kernel_rfl) (by kernel_rfl) (by kernel_rfl) ?_); (refine ga_py 22 (by repeat first | exact NoP.sp | apply NoP.then | apply NoP.block) rfl rfl rfl rfl (pv_spec rfl) rfl (by kernel_rfl) (by kernel_rfl) (by kernel_rfl) ?_); (refine ga_p 23 (by repeat first | exact NoP.sp | apply NoP.then | apply NoP.block) rfl (pv_spec rfl) rfl (by kernel_rfl) (by kernel_rfl) (by kernel_rfl) ?_)
            refine ga_nil (by kernel_rfl) ?_
            have hk0 : k = 0 := by have := beq_iff_eq.1 h0; omega
            have e : keepN l.length raw k = true := by simp only [keepN, hgd, hin]; simp [hk0]
            refine gq_at () trivial ⟨?_, rfl, rfl, rfl, rfl, trivial⟩ (fun w' H => H)
            rw [e]; rfl
          · have hk0 : 0 < k := by have := beq_eq_false_iff_ne.1 h0; omega
            have hlt' : k - 1 < raw.length := by omega
            have hgd' : raw.getD (k - 1) 0 = raw[k - 1] := by simp [List.getD, List.getElem?_eq_getElem hlt']
            (refine ga_py 12 (by repeat first | exact NoP.sp | apply NoP.then | apply NoP.block) rfl rfl rfl rfl (pv_spec rfl) rfl (by kernel_rfl) (by kernel_rfl) (by kernel_rfl) ?_); (refine ga_py 13 (by repeat first | exact NoP.sp | apply NoP.then | apply NoP.block) rfl rfl rfl rfl (pv_spec rfl) rfl (by kernel_rfl) (by kernel_rfl) (by kernel_rfl) ?_)
            refine ga_at 14 15 (l := raw) (f := fI) (u := raw[k]) (by repeat first | exact NoP.sp | apply NoP.then | apply NoP.block) rfl (wanted_yes rfl rfl rfl) rfl (fun a _ h => wanted_yes rfl rfl rfl a h) rfl rfl rfl rfl rfl (Int.natCast_nonneg k) (by omega) (still_rd 1 rfl (fun _ => rfl) ho rfl) (List.getElem?_eq_getElem hlt) rfl rfl rfl rfl (by kernel_rfl) (by kernel_rfl) (by kernel_rfl) (by kernel_rfl) (by kernel_rfl) (fun a => ?_)
            (refine ga_py 16 (by repeat first | exact NoP.sp | apply NoP.then | apply NoP.block) rfl rfl rfl rfl (pv_spec rfl) rfl (by kernel_rfl) (by kernel_rfl) (by kernel_rfl) ?_); (refine ga_py 17 (by repeat first | exact NoP.sp | apply NoP.then | apply NoP.block) rfl rfl rfl rfl (pv_spec rfl) rfl (by kernel_rfl) (by kernel_rfl) (by kernel_rfl) ?_); (refine ga_py 18 (by repeat first | exact NoP.sp | apply NoP.then | apply NoP.block) rfl rfl rfl rfl (pv_spec rfl) rfl (by kernel_rfl) (by kernel_rfl) (by kernel_rfl) ?_)
            refine ga_eq 69 (u' := .int .i64 ((k - 1 : Nat) : Int)) rfl (by congr 1; rw [IntKind.wrap_i64]; omega) ?_
            refine ga_at 19 20 (l := raw) (f := fI) (u := raw[k - 1]) (by repeat first | exact NoP.sp | apply NoP.then | apply NoP.block) rfl (wanted_yes rfl rfl rfl) rfl (fun a _ h => wanted_yes rfl rfl rfl a h) rfl rfl rfl rfl rfl (Int.natCast_nonneg _) (by omega) (still_rd 1 rfl (fun _ => rfl) ho rfl) (List.getElem?_eq_getElem hlt') rfl rfl rfl rfl (by kernel_rfl) (by kernel_rfl) (by kernel_rfl) (by kernel_rfl) (by kernel_rfl) (fun a => ?_)
            (refine ga_py 21 (by repeat first | exact NoP.sp | apply NoP.then | apply NoP.block) rfl rfl rfl rfl (pv_spec rfl) rfl (by kernel_rfl) (by kernel_rfl) (by kernel_rfl) ?_); (refine ga_py 22 (by repeat first | exact NoP.sp | apply NoP.then | apply NoP.block) rfl rfl rfl rfl (pv_spec rfl) rfl (by kernel_rfl) (by kernel_rfl) (by kernel_rfl) ?_); (refine ga_p 23 (by repeat first | exact NoP.sp | apply NoP.then | apply NoP.block) rfl (pv_spec rfl) rfl (by kernel_rfl) (by kernel_rfl) (by kernel_rfl) ?_)
            refine ga_nil (by kernel_rfl) ?_
            have e : keepN l.length raw k = (raw[k] != raw[k - 1]) := by simp only [keepN, hgd, hgd', hin]; simp [Nat.ne_of_gt hk0]
            refine gq_at () trivial ⟨?_, rfl, rfl, rfl, rfl, trivial⟩ (fun w' H => H)
            rw [e]; rfl
        · (refine ga_p 8 (by repeat first | exact NoP.sp | apply NoP.then | apply NoP.block) rfl (pv_spec rfl) rfl (by kernel_rfl) (by kernel_rfl) (by kernel_rfl) ?_); (refine ga_n 9 (by repeat first | exact NoP.sp | apply NoP.then | apply NoP.block) rfl rfl rfl rfl rfl rfl (by kernel_rfl) (by kernel_rfl) (by kernel_rfl) ?_); (refine ga_n 10 (by repeat first | exact NoP.sp | apply NoP.then | apply NoP.block) rfl rfl rfl rfl rfl rfl (by kernel_rfl) (by kernel_rfl) (by kernel_rfl) ?_); (refine ga_n 11 (by repeat first | exact NoP.sp | apply NoP.then | apply NoP.block) rfl rfl rfl rfl rfl rfl (by kernel_rfl) (by kernel_rfl) (by kernel_rfl) ?_); (refine ga_n 12 (by repeat first | exact NoP.sp | apply NoP.then | apply NoP.block) rfl rfl rfl rfl rfl rfl (by kernel_rfl) (by kernel_rfl) (by kernel_rfl) ?_); (refine ga_n 13 (by repeat first | exact NoP.sp | apply NoP.then | apply NoP.block) rfl rfl rfl rfl rfl rfl (by kernel_rfl) (by kernel_rfl) (by kernel_rfl) ?_); (refine ga_n 14 (by repeat first | exact NoP.sp | apply NoP.then | apply NoP.block) rfl rfl rfl rfl rfl rfl (by kernel_rfl) (by kernel_rfl) (by kernel_rfl) ?_); (refine ga_n 15 (by repeat first | exact NoP.sp | apply NoP.then | apply NoP.block) rfl rfl rfl rfl rfl rfl (by kernel_rfl) (by kernel_rfl) (by kernel_rfl) ?_); (refine ga_n 16 (by repeat first | exact NoP.sp | apply NoP.then | apply NoP.block) rfl rfl rfl rfl rfl rfl (by kernel_rfl) (by kernel_rfl) (by kernel_rfl) ?_); (refine ga_n 17 (by repeat first | exact NoP.sp | apply NoP.then | apply NoP.block) rfl rfl rfl rfl rfl rfl (by kernel_rfl) (by kernel_rfl) (by kernel_rfl) ?_); (refine ga_n 18 (by repeat first | exact NoP.sp | apply NoP.then | apply NoP.block) rfl rfl rfl rfl rfl rfl (by kernel_rfl) (by kernel_rfl) (by kernel_rfl) ?_); (refine ga_n 19 (by repeat first | exact NoP.sp | apply NoP.then | apply NoP.block) rfl rfl rfl rfl rfl rfl (by kernel_rfl) (by kernel_rfl) (by kernel_rfl) ?_); (refine ga_n 20 (by repeat first | exact NoP.sp | apply NoP.then | apply NoP.block) rfl rfl rfl rfl rfl rfl (by kernel_rfl) (by kernel_rfl) (by kernel_rfl) ?_); (refine ga_n 21 (by repeat first | exact NoP.sp | apply NoP.then | apply NoP.block) rfl rfl rfl rfl rfl rfl (by kernel_rfl) (by kernel_rfl) (by kernel_rfl) ?_); (refine ga_n 22 (by repeat first | exact NoP.sp | apply NoP.then | apply NoP.block) rfl rfl rfl rfl rfl rfl (by kernel_rfl) (by kernel_rfl) (by kernel_rfl) ?_); (refine ga_p 23 (by repeat first | exact NoP.sp | apply NoP.then | apply NoP.block) rfl (pv_spec rfl) rfl (by kernel_rfl) (by kernel_rfl) (by kernel_rfl) ?_)
          refine ga_nil (by kernel_rfl) ?_
          have e : keepN l.length raw k = false := by simp only [keepN, hgd, hin]; simp
          refine gq_at () trivial ⟨?_, rfl, rfl, rfl, rfl, trivial⟩ (fun w' H => H)
          rw [e]; rfl
      rintro ⟨⟩ -
      dsimp only
      have hol : (outN l.length raw k).length ≤ k := by unfold outN; rw [List.length_map]; exact Nat.le_trans (List.length_filter_le _ _) (by simp)
      refine gc_condC rfl (fun hq => ?_) (fun hq => ?_)
      · repeat' (first | refine g_pv rfl rfl ?_ | refine gc_region ?_)
        refine g_atL 1 rfl rfl ho (fun _ => rfl) rfl rfl rfl rfl (Int.natCast_nonneg k) (List.getElem?_eq_getElem hlt) rfl rfl rfl (fun a2 => ?_)
        refine g_app1L 0 (f := fI) (q := raw[k]) rfl rfl rfl rfl rfl rfl rfl rfl rfl rfl rfl rfl ho7 (by unfold maxLen; omega) (by show _ * 8 ≤ _; omega) rfl rfl (fun v4 A4 g4 ho4 => ?_)
        repeat' (first | refine g_pv rfl rfl ?_ | refine g_nil ?_ | refine gq_then ?_ | refine gc_region ?_ | refine gq_block ?_)
        refine gq_again (k + 1, v4, A4) ⟨hlt, ?_⟩ (by simp only; omega) ⟨rfl, rfl, rfl, inc_eq (by omega), trivial⟩ (fun w' H => H)
        rw [outN_succ, if_pos hq, hgd]; exact ho4
      · repeat' (first | refine g_pv rfl rfl ?_ | refine g_nil ?_ | refine gq_then ?_ | refine gc_region ?_ | refine gc_skip ?_ | refine gq_block ?_)
        refine gq_again (k + 1, v7, A7) ⟨hlt, ?_⟩ (by simp only; omega) ⟨rfl, rfl, rfl, inc_eq (by omega), trivial⟩ (fun w' H => H)
        rw [outN_succ, if_neg (by simp [hq]), List.append_nil]; exact ho7
    · have hge : k = raw.length := by have := of_decide_eq_false hc; omega
      repeat' (first | refine g_pv rfl rfl ?_ | refine g_nil ?_ | refine gq_then ?_ | refine gc_seq ?_ | refine gc_region ?_ | refine gc_exit ?_ | refine gc_ret ?_ | refine gq_then_exit ?_ | refine gq_block_exit ?_)
      exact gq_ret1 (.inr rfl) rfl rfl rfl (fun w' H => ⟨(v7, A7), hge ▸ ho7, rfl, hp_take 0 rfl (fun H => hp_nil H) H⟩)
end Go.Proofs.YtpohhfggmaihpaaGreatDoor

/- A field of an element. -/
namespace Go.Wk
set_option linter.unusedVariables false
set_option linter.unusedSimpArgs false
section
variable {X : Cx} {ops : Array Oper} {Q : Post} {rest : List Oper} {L : LT} {R : RL} {d d1 d2 : Nat} {x y : Operand} {v u : Value} {t t2 st ty ty1 ty2 : TypeId} {p p1 p2 : String} {af af1 af2 : Array Edge}
theorem Rd.fld {α : Type} {H : Nat → Option Obj} {f : α → List Value} {sz : Nat} {A : Option Addr} {l : List α} {i : Nat} {q : α} {off n : Nat} {cs : List Value} (hr : Rd H f sz A l) (hl : l[i]? = some q) (hc : takeC (f q) off n = some cs) :
    ∃ b o, A = some ⟨b, o, none⟩ ∧ ∀ j u, cs[j]? = some u → cellAt H b (o + i * sz + off + j) = some u := by
  obtain ⟨b, o, hA, h⟩ := hr i q hl
  obtain ⟨_, h2⟩ := takeC_spec _ _ _ _ hc
  refine ⟨b, o, hA, fun j u hj => ?_⟩
  have := h (off + j) u (h2 j u hj)
  rw [← Nat.add_assoc] at this; exact this
/-- x[y].f, x of old memory. -/
theorem g_atF {α : Type} {e : TypeId} {z z' : Value} {s b off ff : Nat} {te tf : Ti} {ik : IntKind} {i : Int} {A : Option Addr} {n c : Nat} {f : α → List Value} {l : List α} {q : α} {fs : List (Nat × TypeId)} {sz' by' : Nat} {cs : List Value}
    (hx : ev L x = some (.slice A n c)) (hy : ev L y = some (.int ik i)) (ht : tl X.s.tab t = some ⟨.slice e, z, s, b⟩) (hte : tl X.s.tab e = some te) (hst : tl X.s.tab st = some ⟨.struct fs, z', sz', by'⟩)
    (hff : fs[ff]? = some (off, t2)) (htf : tl X.s.tab t2 = some tf) (hsz : Nat.beq tf.sz 0 = false)
    (h0 : 0 ≤ i) (h1 : i < n) (hr : Rd (Oldh X) f te.sz A l) (hl : l[i.toNat]? = some q) (hc : takeC (f q) off tf.sz = some cs) (hv : asV tf.k cs = some u) (hN1 : Nat.blt d1 X.N = true) (hN2 : Nat.blt d2 X.N = true) (hN : Nat.blt d X.N = true)
    (k : ∀ a a2, G X ops Q rest ((d, u) :: (d2, .pointer (some a2)) :: (d1, .pointer (some a)) :: L) R) :
    G X ops Q (⟨some d1, .indexAddr t x y, ty1, p1, af1, none⟩ :: ⟨some d2, .fieldAddr st (.tmp d1) ff, ty2, p2, af2, none⟩ :: ⟨some d, .load t2 (.tmp d2), ty, p, af, none⟩ :: rest) L R := by
  obtain ⟨bx, o, rfl, hcc⟩ := hr.fld hl hc
  refine g_ix hx hy ht hte h0 h1 hN1 ?_
  refine g_fld (lk_hd d1 _ L) hst hff htf hsz hN2 ?_
  exact g_ldO (lk_hd d2 _ _) htf (takeC_spec _ _ _ _ hc).1 hv hcc hN (k _ _)
/-- x[y].f, x number j of what one owns. -/
theorem g_atFL (j : Nat) {α : Type} {e e' : TypeId} {z z' : Value} {s b off ff : Nat} {te tf : Ti} {ik : IntKind} {i : Int} {A : HL} {f : α → List Value} {l : List α} {q : α} {fs : List (Nat × TypeId)} {sz' by' : Nat} {cs : List Value}
    (hR : R[j]? = some A) (hx : ev L x = some v) (ho : OwnL e' te.sz f v l A) (hf : ∀ x, (f x).length = te.sz) (hy : ev L y = some (.int ik i)) (ht : tl X.s.tab t = some ⟨.slice e, z, s, b⟩) (hte : tl X.s.tab e = some te) (hst : tl X.s.tab st = some ⟨.struct fs, z', sz', by'⟩)
    (hff : fs[ff]? = some (off, t2)) (htf : tl X.s.tab t2 = some tf) (hsz : Nat.beq tf.sz 0 = false)
    (h0 : 0 ≤ i) (hl : l[i.toNat]? = some q) (hc : takeC (f q) off tf.sz = some cs) (hv : asV tf.k cs = some u) (hN1 : Nat.blt d1 X.N = true) (hN2 : Nat.blt d2 X.N = true) (hN : Nat.blt d X.N = true)
    (k : ∀ a a2, G X ops Q rest ((d, u) :: (d2, .pointer (some a2)) :: (d1, .pointer (some a)) :: L) R) :
    G X ops Q (⟨some d1, .indexAddr t x y, ty1, p1, af1, none⟩ :: ⟨some d2, .fieldAddr st (.tmp d1) ff, ty2, p2, af2, none⟩ :: ⟨some d, .load t2 (.tmp d2), ty, p, af, none⟩ :: rest) L R := by
  have hlt := (List.getElem?_eq_some_iff.1 hl).1
  obtain ⟨ad, cap, rfl, _⟩ := Own.shape ho
  have hrd : ∀ w, Hp X w R → Rd (hw w) f te.sz ad l := fun w hE => by
    obtain ⟨ad', cap', he, hr⟩ := OwnL.rd hf ho (H := hw w) (fun b o hb => hE.holds b o (List.mem_flatten.2 ⟨_, List.mem_of_getElem? hR, hb⟩))
    cases he; exact hr
  have hA : ∃ g, ad = some ⟨g, 0, none⟩ := by
    rcases ho.2 with ⟨h1, h2, _⟩ | ⟨g, cap', rst, h1, _⟩
    · omega
    · cases h1; exact ⟨g, rfl⟩
  obtain ⟨g, rfl⟩ := hA
  refine g_ix hx hy ht hte h0 (by omega) hN1 ?_
  refine g_fld (lk_hd d1 _ L) hst hff htf hsz hN2 ?_
  refine g_ldG (lk_hd d2 _ _) htf (takeC_spec _ _ _ _ hc).1 hv (fun w hE j' u' hj => ?_) hN (k _ _)
  obtain ⟨b2, o2, hA2, hc2⟩ := (hrd w hE).fld hl hc
  cases hA2
  rw [← cellAt_hw]; exact hc2 j' u' hj
end
end Go.Wk

/- The document's answer (layer 16): Ints, Lists, told; layer 13: Reads; flow: rising. -/
namespace Go.Proofs.YtpohhfggmaihpaaGreatDoor
open Go.Wk
set_option linter.unusedVariables false
set_option linter.unusedSimpArgs false
attribute [local irreducible] G GC GQ GA GS Exit.then Exit.inBlock

/-- A list of numbers, as memory H holds it. -/
def RdI (H : Nat → Option Obj) (v : Value) (l : List Int) : Prop := ∃ ad cap, v = .slice ad l.length cap ∧ Rd H fI 1 ad l
theorem RdI.le {H1 H2 : Nat → Option Obj} (h : Hle H1 H2) {v : Value} {l : List Int} (hr : RdI H1 v l) : RdI H2 v l := by
  obtain ⟨ad, cap, rfl, h1⟩ := hr; exact ⟨ad, cap, rfl, h1.le h⟩
theorem OwnI.rd {v : Value} {l : List Int} {A : HL} (ho : OwnI v l A) {H : Nat → Option Obj} (hA : ∀ b o, (b, o) ∈ A → H b = some o) : RdI H v l := OwnL.rd (f := fI) (fun _ => rfl) ho hA
abbrev fV (v : Value) : List Value := [v]
/-- A list of lists. -/
def RdLL (H : Nat → Option Obj) (v : Value) (ll : List (List Int)) : Prop := ∃ (ad : Option Addr) (cap : Nat) (vals : List Value), v = .slice ad ll.length cap ∧ vals.length = ll.length ∧ Rd H fV 1 ad vals ∧ ∀ (i : Nat) (u : Value) (l : List Int), vals[i]? = some u → ll[i]? = some l → RdI H u l
theorem RdLL.le {H1 H2 : Nat → Option Obj} (h : Hle H1 H2) {v : Value} {l : List (List Int)} (hr : RdLL H1 v l) : RdLL H2 v l := by
  obtain ⟨ad, cap, vals, rfl, h1, h2, h3⟩ := hr; exact ⟨ad, cap, vals, rfl, h1, h2.le h, fun i u l hu hl => (h3 i u l hu hl).le h⟩

theorem inc_eqM {k : Nat} (h : k < 9223372036854775807) : some (Value.int .i64 (IntKind.i64.wrap ((k : Int) + 1))) = some (Value.int .i64 ((k + 1 : Nat) : Int)) :=
  congrArg (fun z => some (Value.int .i64 z)) (by rw [IntKind.wrap_i64]; omega)
theorem ints_sp (a b : List Int) (va vb : Value) (w : World) (ha : RdI (hw w) va a) (hb : RdI (hw w) vb b) (hl : a.length < 9223372036854775808) :
    Sp Tryz.prog 16 [va, vb] w [] (fun _ : Unit => .bool (decide (a = b))) (fun _ => []) (fun _ => True) := by
  obtain ⟨ad, cap, rfl, ha⟩ := ha
  obtain ⟨bd, cap', rfl, hb⟩ := hb
  refine enter (s := Tryz.sx) [] Tryz.func16 rfl rfl rfl (Eff.refl w) ?_
  repeat' (first | refine g_pv rfl rfl ?_ | refine g_nil ?_ | refine gq_then ?_ | refine gc_seq ?_ | refine gc_region ?_)
  refine gc_condC rfl (fun hne => ?_) (fun hne => ?_)
  · repeat' (first | refine g_pv rfl rfl ?_ | refine g_nil ?_ | refine gq_then ?_ | refine gc_seq ?_ | refine gc_region ?_ | refine gc_ret ?_ | refine gq_then_ret ?_)
    refine gq_ret1 (.inr rfl) rfl rfl rfl (fun w' H => ⟨(), trivial, ?_, H⟩)
    have : a.length ≠ b.length := fun h => by simp [h] at hne
    have : a ≠ b := fun h => this (by rw [h])
    simp [this]
  · have hlen : a.length = b.length := by have := bne_eq_false_iff_eq.1 hne; omega
    repeat' (first | refine g_pv rfl rfl ?_ | refine g_nil ?_ | refine gq_then ?_ | refine gc_seq ?_ | refine gc_region ?_ | refine gc_block ?_ | refine gc_skip ?_)
    refine gc_loop (Y := Nat) (fun y => y ≤ a.length ∧ a.take y = b.take y)
      (fun y => [(0, .slice ad a.length cap), (1, .slice bd b.length cap'), (5, .int .i64 y)]) (fun y => [])
      (fun y => a.length - y) 0 ⟨Nat.zero_le _, by simp⟩ ⟨rfl, rfl, rfl, trivial⟩ (fun w' H => H) ?_
    rintro j ⟨hj, hpj⟩
    dsimp only at hj hpj ⊢
    repeat' (first | refine g_pv rfl rfl ?_ | refine g_nil ?_ | refine gq_then ?_ | refine gc_seq ?_ | refine gc_region ?_)
    refine gc_condC rfl (fun hc => ?_) (fun hc => ?_)
    · have hlt : j < a.length := by have := of_decide_eq_true hc; omega
      have hlt' : j < b.length := by omega
      repeat' (first | refine gq_then ?_ | refine gc_seq ?_ | refine gc_block ?_ | refine gc_skip ?_)
      refine gc_draw [] [] rfl (by simp) ?_
      (refine ga_p 0 (by repeat first | exact NoP.sp | apply NoP.then | apply NoP.block) rfl (pv_spec rfl) rfl (by kernel_rfl) (by kernel_rfl) (by kernel_rfl) ?_); (refine ga_p 1 (by repeat first | exact NoP.sp | apply NoP.then | apply NoP.block) rfl (pv_spec rfl) rfl (by kernel_rfl) (by kernel_rfl) (by kernel_rfl) ?_)
      refine ga_at 2 3 (l := a) (f := fI) (u := a[j]) (by repeat first | exact NoP.sp | apply NoP.then | apply NoP.block) rfl wanted_none rfl (fun a _ => wanted_none a) rfl rfl rfl rfl rfl (Int.natCast_nonneg j) (by omega) (still_rdO (ha.le (old_le0 _ w))) (List.getElem?_eq_getElem hlt) rfl rfl rfl rfl (by kernel_rfl) (by kernel_rfl) (by kernel_rfl) (by kernel_rfl) (by kernel_rfl) (fun _ => ?_)
      (refine ga_p 4 (by repeat first | exact NoP.sp | apply NoP.then | apply NoP.block) rfl (pv_spec rfl) rfl (by kernel_rfl) (by kernel_rfl) (by kernel_rfl) ?_); (refine ga_p 5 (by repeat first | exact NoP.sp | apply NoP.then | apply NoP.block) rfl (pv_spec rfl) rfl (by kernel_rfl) (by kernel_rfl) (by kernel_rfl) ?_)
      refine ga_at 6 7 (l := b) (f := fI) (u := b[j]) (by repeat first | exact NoP.sp | apply NoP.then | apply NoP.block) rfl wanted_none rfl (fun a _ => wanted_none a) rfl rfl rfl rfl rfl (Int.natCast_nonneg j) (by omega) (still_rdO (hb.le (old_le0 _ w))) (List.getElem?_eq_getElem hlt') rfl rfl rfl rfl (by kernel_rfl) (by kernel_rfl) (by kernel_rfl) (by kernel_rfl) (by kernel_rfl) (fun _ => ?_)
      (refine ga_p 8 (by repeat first | exact NoP.sp | apply NoP.then | apply NoP.block) rfl (pv_spec rfl) rfl (by kernel_rfl) (by kernel_rfl) (by kernel_rfl) ?_)
      refine ga_nil (by kernel_rfl) ?_
      repeat' (refine gq_then ?_)
      refine gc_condC rfl (fun hq => ?_) (fun hq => ?_)
      · repeat' (first | refine g_pv rfl rfl ?_ | refine g_nil ?_ | refine gq_then ?_ | refine gc_seq ?_ | refine gc_region ?_ | refine gc_ret ?_ | refine gq_then_ret ?_ | refine gq_block_ret ?_)
        refine gq_ret1 (.inr rfl) rfl rfl rfl (fun w' H => ⟨(), trivial, ?_, H⟩)
        have : a ≠ b := fun h => by subst h; simp at hq
        simp [this]
      · repeat' (first | refine g_pv rfl rfl ?_ | refine g_nil ?_ | refine gq_then ?_ | refine gc_region ?_ | refine gc_skip ?_ | refine gq_block ?_)
        refine gq_again (j + 1) ⟨hlt, ?_⟩ (by omega) ⟨rfl, rfl, inc_eqM (by omega), trivial⟩ (fun w' H => H)
        rw [List.take_succ_eq_append_getElem hlt, List.take_succ_eq_append_getElem hlt', hpj, bne_eq_false_iff_eq.1 hq]
    · have hge : j = a.length := by have := of_decide_eq_false hc; omega
      repeat' (first | refine g_pv rfl rfl ?_ | refine g_nil ?_ | refine gq_then ?_ | refine gc_seq ?_ | refine gc_region ?_ | refine gc_exit ?_ | refine gc_ret ?_ | refine gq_then_exit ?_ | refine gq_block_exit ?_)
      refine gq_ret1 (.inr rfl) rfl rfl rfl (fun w' H => ⟨(), trivial, ?_, H⟩)
      rw [hge, List.take_length, hlen, List.take_length] at hpj
      simp [hpj]

theorem rreads_sp (x : Ins) (w : World) (hx : InsIn (hw w) x) : Sp Tryz.prog 17 [x.val] w [] (fun y : Value × HL => y.1) (fun y => [y.2]) (fun y => OwnI y.1 x.reads y.2) := by
  refine enter (s := Tryz.sx) [] Tryz.func17 rfl rfl rfl (Eff.refl w) ?_
  repeat' (first | refine g_pv rfl rfl ?_ | refine g_ld 0 rfl rfl rfl rfl rfl rfl ?_ | refine g_nil ?_ | refine gq_then ?_ | refine gc_seq ?_ | refine gc_region ?_ | refine g_box rfl rfl (fun _ => ?_))
  refine g_litL rfl rfl rfl rfl rfl rfl rfl rfl rfl rfl (fun g => ?_)
  repeat' (first | refine g_pv rfl rfl ?_ | refine g_ld 1 rfl rfl rfl rfl rfl rfl ?_ | refine g_nil ?_ | refine gq_then ?_ | refine gc_seq ?_ | refine gc_region ?_)
  have hlen := hx.len
  have ho : OwnL 40 2 Arg.cells (.slice (some ⟨g, 0, none⟩) 2 2) [x.a, x.b] [(g, .cells ⟨x.a.cells ++ x.b.cells⟩ 40 (0, 0))] := ⟨rfl, .inr ⟨g, 2, [], rfl, rfl, Nat.le_refl _, by decide, rfl⟩⟩
  refine g_appL 0 (m := x.args) rfl rfl rfl rfl rfl rfl rfl ho (fun _ => rfl) (fun w' hE => hx.args.le (fun b o h => old_le hE b o (old_le0 _ w b o h))) (fun _ => rfl) (by unfold maxLen; simp; omega) (by simp; omega) rfl (fun v' A' ho' => ?_)
  repeat' (first | refine g_pv rfl rfl ?_ | refine g_nil ?_ | refine gq_then ?_ | refine gc_seq ?_ | refine gc_region ?_ | refine gc_block ?_)
  refine gc_loop (Y := Nat × Value × HL) (fun y => y.1 ≤ ([x.a, x.b] ++ x.args).length ∧ OwnI y.2.1 (readsF (([x.a, x.b] ++ x.args).take y.1)) y.2.2)
    (fun y => [(3, v'), (4, y.2.1), (5, .int .i64 y.1)]) (fun y => [y.2.2, A'])
    (fun y => ([x.a, x.b] ++ x.args).length - y.1) (0, .slice none 0 0, []) ⟨Nat.zero_le _, OwnL.nil _ _ _⟩ ⟨rfl, rfl, rfl, trivial⟩ (fun w' H => ?_) ?_
  · exact hp_perm (hp_take 0 rfl (fun H => hp_nil H) H) (by simp)
  rintro ⟨k, v3, A3⟩ ⟨hk, ho3⟩
  generalize hal : [x.a, x.b] ++ x.args = al at *
  have hall : al.length ≤ 8796093022002 := by rw [← hal]; simp; omega
  dsimp only at hk ho3 ⊢
  repeat' (first | refine g_pv rfl rfl ?_ | refine gc_seq ?_ | refine gc_region ?_)
  refine g_lenL rfl ho' rfl rfl ?_
  repeat' (first | refine g_pv rfl rfl ?_ | refine g_nil ?_ | refine gq_then ?_)
  refine gc_condC rfl (fun hc => ?_) (fun hc => ?_)
  · have hlt : k < al.length := by have := of_decide_eq_true hc; omega
    have hak : al[k]? = some al[k] := List.getElem?_eq_getElem hlt
    have haok := hx.ok al[k] (by rw [hal]; exact List.getElem_mem hlt)
    have hle := readsF_le (al.take k)
    have htl : (al.take k).length ≤ k := List.length_take_le _ _
    repeat' (first | refine g_pv rfl rfl ?_ | refine gq_then ?_ | refine gc_seq ?_ | refine gc_region ?_ | refine gc_block ?_ | refine gc_skip ?_)
    refine g_atFL 1 rfl rfl ho' (fun _ => rfl) rfl rfl rfl rfl rfl rfl rfl (Int.natCast_nonneg k) hak rfl rfl rfl rfl rfl (fun _ _ => ?_)
    repeat' (first | refine g_pv rfl rfl ?_ | refine g_nil ?_ | refine gq_then ?_)
    refine gc_condC rfl (fun hq => ?_) (fun hq => ?_)
    · repeat' (first | refine g_pv rfl rfl ?_ | refine gc_region ?_)
      refine g_atFL 1 rfl rfl ho' (fun _ => rfl) rfl rfl rfl rfl rfl rfl rfl (Int.natCast_nonneg k) hak rfl rfl rfl rfl rfl (fun _ _ => ?_)
      repeat' (refine g_pv rfl rfl ?_)
      refine g_eq 33 (u' := .int .i64 al[k].n) rfl (by rw [wrap_in (by have := haok.1; omega) (by have := haok.2; omega)]) ?_
      refine g_app1L 0 (f := fI) (q := al[k].n) rfl rfl rfl rfl rfl rfl rfl rfl rfl rfl rfl rfl ho3 (by unfold maxLen; omega) (by show _ * 8 ≤ _; omega) rfl rfl (fun v4 A4 g4 ho4 => ?_)
      repeat' (first | refine g_pv rfl rfl ?_ | refine g_nil ?_ | refine gq_then ?_ | refine gc_region ?_ | refine gq_block ?_)
      refine gq_again (k + 1, v4, A4) ⟨hlt, ?_⟩ (by simp only; omega) ⟨rfl, rfl, inc_eq (by omega), trivial⟩ (fun w' H => H)
      rw [List.take_succ_eq_append_getElem hlt, readsF_app]
      have : readsF [al[k]] = [al[k].n] := by simp [readsF, (beq_iff_eq.1 hq : al[k].k = 1)]
      rw [this]; exact ho4
    · repeat' (first | refine g_pv rfl rfl ?_ | refine g_nil ?_ | refine gq_then ?_ | refine gc_region ?_ | refine gc_skip ?_ | refine gq_block ?_)
      refine gq_again (k + 1, v3, A3) ⟨hlt, ?_⟩ (by simp only; omega) ⟨rfl, rfl, inc_eq (by omega), trivial⟩ (fun w' H => H)
      rw [List.take_succ_eq_append_getElem hlt, readsF_app]
      have : readsF [al[k]] = [] := by simp [readsF, (beq_eq_false_iff_ne.1 hq : al[k].k ≠ 1)]
      rw [this, List.append_nil]; exact ho3
  · have hge : k = al.length := by have := of_decide_eq_false hc; omega
    repeat' (first | refine g_pv rfl rfl ?_ | refine g_nil ?_ | refine gq_then ?_ | refine gc_seq ?_ | refine gc_region ?_ | refine gc_exit ?_ | refine gc_ret ?_ | refine gq_then_exit ?_ | refine gq_block_exit ?_)
    refine gq_ret1 (.inr rfl) rfl rfl rfl (fun w' H => ⟨(v3, A3), ?_, rfl, hp_take 0 rfl (fun H => hp_nil H) H⟩)
    show OwnI v3 x.reads A3
    rw [hge, List.take_length] at ho3
    unfold Ins.reads; rw [hal]; exact ho3
end Go.Proofs.YtpohhfggmaihpaaGreatDoor

/- The argument, read: what a reading of the function's argument says of memory. -/
namespace Go.Proofs.YtpohhfggmaihpaaGreatDoor
open Go.Wk Go.ChangeShapes Go.WideShapes Go.ChangeAt Go.RowKit
set_option linter.unusedVariables false
set_option linter.unusedSimpArgs false

theorem list_of {α : Type} {p : Nat → α → Prop} : ∀ (n : Nat), (∀ i, i < n → ∃ x, p i x) → ∃ l : List α, l.length = n ∧ ∀ i x, l[i]? = some x → p i x
  | 0, _ => ⟨[], rfl, fun i x h => by simp at h⟩
  | n + 1, h => by
    obtain ⟨l, hl, hp⟩ := list_of n (fun i hi => h i (by omega))
    obtain ⟨x, hx⟩ := h n (by omega)
    refine ⟨l ++ [x], by simp [hl], fun i y hy => ?_⟩
    by_cases hi : i < l.length
    · rw [List.getElem?_append_left hi] at hy; exact hp i y hy
    · rw [List.getElem?_append_right (by omega)] at hy
      have h0 : i - l.length = 0 := by
        cases hk : i - l.length with
        | zero => rfl
        | succ k => rw [hk] at hy; simp at hy
      rw [h0] at hy
      cases hy
      have : i = n := by omega
      subst this; exact hx

theorem weights_all {H : Type} {P : Program} {e : TypeId} {l : List (DataW H)} {d : DataW H} (hd : d ∈ l) {n : Nat} (hn : n ∈ d.weights P e) : n ∈ DataW.weightsAll P e l := by
  induction l with
  | nil => cases hd
  | cons x l ih =>
    simp only [DataW.weightsAll, List.mem_append]
    rcases List.mem_cons.1 hd with rfl | h
    · exact .inl hn
    · exact .inr (ih h)

theorem bulk_one {H : Type} (d : DataW H) : 1 ≤ Rows.uptoBulk d := by
  cases d with
  | lit l => cases l <;> simp [Rows.uptoBulk]
  | nil => simp [Rows.uptoBulk]
  | ptr d => simp [Rows.uptoBulk]
  | slice elems spare => simp [Rows.uptoBulk]
  | agg parts => simp [Rows.uptoBulk]
  | iface t d => simp [Rows.uptoBulk]
  | map entries => simp [Rows.uptoBulk]
  | held h => simp [Rows.uptoBulk]
theorem bulk_part {H : Type} {d : DataW H} {l : List (DataW H)} (h : d ∈ l) : Rows.uptoBulk d ≤ Rows.uptoBulkAll l := by
  induction l with
  | nil => cases h
  | cons x r ih =>
    simp only [Rows.uptoBulkAll]
    rcases List.mem_cons.1 h with rfl | e
    · omega
    · have := ih e; omega
theorem bulk_len {H : Type} (l : List (DataW H)) : l.length ≤ Rows.uptoBulkAll l := by
  induction l with
  | nil => simp [Rows.uptoBulkAll]
  | cons x r ih => have := bulk_one x; simp only [Rows.uptoBulkAll, List.length_cons]; omega

section
variable {H : Type} {enc : TypeId × Value → H} {W : World} {sp : Nat → Bool} {fuel : Nat}

theorem add_at (a : Addr) (i : Nat) : (a.add i).block = a.block ∧ (a.add i).off = a.off + i := by
  unfold Addr.add
  split
  · rename_i h; subst h; exact ⟨rfl, rfl⟩
  · exact ⟨rfl, rfl⟩
theorem cell_at {a : Addr} {j : Nat} {u : Value} (h : W.cell? (a.add j) = some u) : cellAt (hw W) a.block (a.off + j) = some u := by
  have hs := World.cell?_spot h
  obtain ⟨h1, h2⟩ := add_at a j
  rw [cellAt_hw, ← h1, ← h2]
  generalize a.add j = c at hs h
  obtain ⟨b, o, s⟩ := c
  simp only at hs
  subst hs
  exact h
/-- The cells of an element, as memory holds them. -/
theorem cells_at {a : Addr} {n : Nat} {cs : List Value} (h : W.cells? 0 a n = some cs) {j : Nat} {u : Value} (hj : cs[j]? = some u) : cellAt (hw W) a.block (a.off + j) = some u := by
  obtain ⟨-, hl, hc⟩ := World.cells?_some h
  have hjl := (List.getElem?_eq_some_iff.1 hj).1
  have h1 := hc j (by omega)
  rw [hj] at h1
  exact cell_at h1
theorem spot_none {a : Addr} {n sz : Nat} {cs : List Value} (h : W.cells? 0 (a.add (0 * sz)) (n + 1) = some cs) : a = ⟨a.block, a.off, none⟩ := by
  obtain ⟨-, hl, hc⟩ := World.cells?_some h
  have h1 := hc 0 (by omega)
  rw [List.getElem?_eq_getElem (by omega)] at h1
  have hs : a.spot = none := by
    have h2 := World.cell?_spot h1
    simpa [Addr.add] using h2
  obtain ⟨b, o, s⟩ := a
  simp only at hs
  subst hs
  rfl
theorem rd_of {α : Type} {f : α → List Value} {sz : Nat} {a : Addr} {l : List α} (h : ∀ i y, l[i]? = some y → W.cells? 0 (a.add (i * (sz + 1))) (sz + 1) = some (f y)) : Rd (hw W) f (sz + 1) (some a) l := by
  intro i y hy
  have hi := (List.getElem?_eq_some_iff.1 hy).1
  have h0 := spot_none (h 0 _ (List.getElem?_eq_getElem (by omega)))
  refine ⟨a.block, a.off, by rw [h0], fun j u hj => ?_⟩
  have := cells_at (h i y hy) hj
  obtain ⟨h1, h2⟩ := add_at a (i * (sz + 1))
  rw [h1, h2] at this
  exact this

set_option maxRecDepth 100000
theorem arg_read {cs : List Value} {x : DataW H × List MemPlace} (h : DataW.trod enc Tryz.prog W 0 sp true fuel 40 cs = some x) : ∃ a : Arg, cs = a.cells ∧ a.ok := by
  obtain ⟨xs, n, rfl, rfl, hl, hxl, hf⟩ := DataW.trod_struct Tryz.underlying40 h
  have e : Tryz.prog.cellsOf 40 = 2 := by kernel_rfl
  rw [e] at hl
  match xs, hxl, cs, hl with
  | [y0, y1], _, [v0, v1], _ =>
    have c0 : Tryz.prog.cellsOf 37 = 1 := by kernel_rfl
    have c1 : Tryz.prog.cellsOf 38 = 1 := by kernel_rfl
    have h0 := hf 0 _ rfl
    have h1 := hf 1 _ rfl
    simp only [c0, c1, List.drop_zero, List.drop_succ_cons, List.take_succ_cons, List.take_zero, List.getElem?_cons_zero, List.getElem?_cons_succ] at h0 h1
    obtain ⟨k, e0, -, w0⟩ := DataW.trod_int Tryz.underlying37 h0
    obtain ⟨m, e1, -, w1⟩ := DataW.trod_int Tryz.underlying38 h1
    cases e0; cases e1
    refine ⟨⟨k, m⟩, rfl, ?_⟩
    simpa [Arg.ok, Lit.wf, IntKind.min, IntKind.max, IntKind.signed, IntKind.bits] using w1

theorem args_read {v : Value} {x : DataW H × List MemPlace} (h : DataW.trod enc Tryz.prog W 0 sp true fuel 41 [v] = some x) (hs : ∀ n ∈ x.1.weights Tryz.prog 41, n ≤ reachBytes) :
    ∃ (A : Option Addr) (c : Nat) (l : List Arg), v = .slice A l.length c ∧ Rd (hw W) Arg.cells 2 A l ∧ l.length ≤ 8796093022000 ∧ (∀ a ∈ l, a.ok) ∧ l.length ≤ Rows.uptoBulk x.1 := by
  rcases DataW.trod_slice Tryz.underlying41 h with ⟨e, -⟩ | ⟨a, len, cap, elems, rest, n, rfl, e, rfl, -, hlc, -, hel, hat, -⟩
  · cases e
    exact ⟨none, 0, [], rfl, fun i x hx => by simp at hx, by decide, (fun a ha => by cases ha), Nat.zero_le _⟩
  · cases e
    have c : Tryz.prog.cellsOf 40 = 2 := by kernel_rfl
    rw [c] at hat
    obtain ⟨l, hl, hp⟩ := list_of (α := Arg) (p := fun i y => (W.cells? 0 (a.add (i * 2)) 2 = some y.cells) ∧ y.ok) len (fun i hi => by
      have h1 := hat i hi
      rw [List.getElem?_eq_getElem (by omega : i < elems.length)] at h1
      obtain ⟨cs, h2, h3⟩ := Option.bind_eq_some_iff.1 h1
      obtain ⟨y, rfl, hy⟩ := arg_read h3
      exact ⟨y, h2, hy⟩)
    refine ⟨some a, cap, l, by rw [hl], rd_of (fun i y hy => (hp i y hy).1), ?_, fun y hy => ?_, ?_⟩
    · have := hs ((elems.length + rest.length) * Tryz.prog.bytesOf 40) (by simp [DataW.weights, Tryz.underlying41])
      have b : Tryz.prog.bytesOf 40 = 16 := by kernel_rfl
      rw [b] at this
      unfold reachBytes at this
      omega
    · obtain ⟨i, hi, rfl⟩ := List.mem_iff_getElem.1 hy
      exact (hp i _ (List.getElem?_eq_getElem hi)).2
    · simp only [Rows.uptoBulk]
      have := bulk_len (elems.map (·.1))
      rw [List.length_map] at this
      omega

theorem in64_wf {n : Int} (h : (Lit.int .i64 n).wf = true) : in64 n := by
  simpa [in64, Lit.wf, IntKind.min, IntKind.max, IntKind.signed, IntKind.bits] using h

theorem ins_read {cs : List Value} {x : DataW H × List MemPlace} (h : DataW.trod enc Tryz.prog W 0 sp true fuel 43 cs = some x) (hs : ∀ n ∈ x.1.weights Tryz.prog 43, n ≤ reachBytes) : ∃ i : Ins, cs = i.cells ∧ InsIn (hw W) i ∧ i.args.length ≤ Rows.uptoBulk x.1 := by
  obtain ⟨xs, n, rfl, rfl, hl, hxl, hf⟩ := DataW.trod_struct Tryz.underlying43 h
  have e : Tryz.prog.cellsOf 43 = 12 := by kernel_rfl
  rw [e] at hl
  match xs, hxl, cs, hl with
  | [y0, y1, y2, y3, y4, y5, y6, y7, y8, y9], _, [v0, v1, v2, v3, v4, v5, v6, v7, v8, v9, v10, v11], _ =>
    have c0 : Tryz.prog.cellsOf 35 = 1 := by kernel_rfl
    have c1 : Tryz.prog.cellsOf 36 = 1 := by kernel_rfl
    have c2 : Tryz.prog.cellsOf 3 = 1 := by kernel_rfl
    have c3 : Tryz.prog.cellsOf 40 = 2 := by kernel_rfl
    have c4 : Tryz.prog.cellsOf 4 = 1 := by kernel_rfl
    have c5 : Tryz.prog.cellsOf 41 = 1 := by kernel_rfl
    have h0 := hf 0 _ rfl
    have h1 := hf 1 _ rfl
    have h2 := hf 2 _ rfl
    have h3 := hf 3 _ rfl
    have h4 := hf 4 _ rfl
    have h5 := hf 5 _ rfl
    have h6 := hf 6 _ rfl
    have h7 := hf 7 _ rfl
    have h8 := hf 8 _ rfl
    have h9 := hf 9 _ rfl
    simp only [c0, c1, c2, c3, c4, c5, List.drop_zero, List.drop_succ_cons, List.take_succ_cons, List.take_zero, List.getElem?_cons_zero, List.getElem?_cons_succ] at h0 h1 h2 h3 h4 h5 h6 h7 h8 h9
    obtain ⟨op, e0, -, w0⟩ := DataW.trod_int Tryz.underlying35 h0
    obtain ⟨bin, e1, -, -⟩ := DataW.trod_int Tryz.underlying36 h1
    obtain ⟨d, e2, -, w2⟩ := DataW.trod_int Tryz.underlying3 h2
    obtain ⟨a, e3, w3⟩ := arg_read h3
    obtain ⟨b, e4, w4⟩ := arg_read h4
    obtain ⟨nn, e5, -, w5⟩ := DataW.trod_int Tryz.underlying3 h5
    obtain ⟨off, e6, -, -⟩ := DataW.trod_int Tryz.underlying3 h6
    obtain ⟨wi, e7, -, -⟩ := DataW.trod_int Tryz.underlying3 h7
    obtain ⟨si, e8, -⟩ := DataW.trod_bool Tryz.underlying4 h8
    obtain ⟨aA, aC, args, e9, r1, r2, r3, r4⟩ := args_read h9 (fun n hn => hs n (by
      simp [DataW.weights, Tryz.underlying43, DataW.weightsEach, hn]))
    cases e0; cases e1; cases e2; cases e3; cases e4; cases e5; cases e6; cases e7; cases e8; subst e9
    refine ⟨⟨op, bin, d, a, b, nn, off, wi, si, args, aA, aC⟩, rfl, ⟨r1, r2, fun z hz => ?_, in64_wf w0, in64_wf w2, in64_wf w5⟩, ?_⟩
    rotate_left
    · refine Nat.le_trans r4 (Nat.le_trans (bulk_part (l := [y0, y1, y2, y3, y4, y5, y6, y7, y8, y9].map (·.1)) (by simp)) ?_)
      simp only [Rows.uptoBulk]; omega
    simp only [List.mem_append, List.mem_cons, List.not_mem_nil, or_false] at hz
    rcases hz with (rfl | rfl) | hz
    · exact w3
    · exact w4
    · exact r3 z hz

theorem code_read {v : Value} {x : DataW H × List MemPlace} (h : DataW.trod enc Tryz.prog W 0 sp true fuel 30 [v] = some x) (hs : ∀ n ∈ x.1.weights Tryz.prog 30, n ≤ reachBytes) :
    ∃ (A : Option Addr) (c : Nat) (l : List Ins), v = .slice A l.length c ∧ CodeIn (hw W) A l ∧ ∀ i ∈ l, i.args.length ≤ Rows.uptoBulk x.1 := by
  rcases DataW.trod_slice Tryz.underlying30 h with ⟨e, -⟩ | ⟨a, len, cap, elems, rest, n, rfl, e, rfl, -, hlc, -, hel, hat, -⟩
  · cases e
    exact ⟨none, 0, [], rfl, ⟨fun i x hx => by simp at hx, by decide, fun a ha => by cases ha⟩, fun i hi => by cases hi⟩
  · cases e
    have c : Tryz.prog.cellsOf 43 = 12 := by kernel_rfl
    rw [c] at hat
    obtain ⟨l, hl, hp⟩ := list_of (α := Ins) (p := fun i y => (W.cells? 0 (a.add (i * 12)) 12 = some y.cells) ∧ InsIn (hw W) y ∧ y.args.length ≤ Rows.uptoBulkAll (elems.map (·.1))) len (fun i hi => by
      have hie : i < elems.length := by omega
      have h1 := hat i hi
      rw [List.getElem?_eq_getElem hie] at h1
      obtain ⟨cs, h2, h3⟩ := Option.bind_eq_some_iff.1 h1
      obtain ⟨y, rfl, hy, hb⟩ := ins_read h3 (fun n hn => hs n (by
        simp only [DataW.weights, Tryz.underlying30, List.mem_cons, List.mem_append]
        exact .inr (.inl (weights_all (List.mem_map.2 ⟨_, List.getElem_mem hie, rfl⟩) hn))))
      exact ⟨y, h2, hy, Nat.le_trans hb (bulk_part (List.mem_map.2 ⟨_, List.getElem_mem hie, rfl⟩))⟩)
    refine ⟨some a, cap, l, by rw [hl], ⟨rd_of (fun i y hy => (hp i y hy).1), ?_, fun y hy => ?_⟩, fun y hy => ?_⟩
    · have := hs ((elems.length + rest.length) * Tryz.prog.bytesOf 43) (by simp [DataW.weights, Tryz.underlying30])
      have b : Tryz.prog.bytesOf 43 = 112 := by kernel_rfl
      rw [b] at this
      unfold reachBytes at this
      omega
    · obtain ⟨i, hi, rfl⟩ := List.mem_iff_getElem.1 hy
      exact (hp i _ (List.getElem?_eq_getElem hi)).2.1
    · obtain ⟨i, hi, rfl⟩ := List.mem_iff_getElem.1 hy
      have := (hp i _ (List.getElem?_eq_getElem hi)).2.2
      simp only [Rows.uptoBulk]
      omega
end
end Go.Proofs.YtpohhfggmaihpaaGreatDoor

/- What the rows ask of a walk: the frame's last word, turned into a row's. -/
namespace Go.Proofs.YtpohhfggmaihpaaGreatDoor
open Go.Wk Go.ChangeShapes Go.WideShapes Go.ChangeAt Go.RowKit
set_option linter.unusedVariables false
theorem own_knob : ownKnob Tryz.prog.godebug = none := by kernel_rfl
theorem laid_out : laidOutB Tryz.prog = true := by kernel_rfl
theorem eff_below {W w' : World} (h : Eff W [] w' []) : Below W.heap.size W w' := ⟨h.os, h.tape, h.output, h.size, fun k hk => h.keep k hk (by simp [ids])⟩
theorem code_again {H : Type} {enc : TypeId × Value → H} {W W' : World} {v : Value} {d : DataW H} {p : List MemPlace} (h : DataW.Trod enc Tryz.prog W 0 (fun _ => true) true 30 v d p) (hB : Below W.heap.size W W') (hlt : ∀ x ∈ p, x.block < W.heap.size) :
    DataW.Trod enc Tryz.prog W' 0 (fun b => decide (b < W.heap.size)) true 30 v d p :=
  Below.trod laid_out (by kernel_rfl) (of_decide_eq_true (by kernel_rfl)) h hB hlt
end Go.Proofs.YtpohhfggmaihpaaGreatDoor

/- Next where there is no instruction. -/
namespace Go.Proofs.YtpohhfggmaihpaaGreatDoor
open Go.Wk
set_option linter.unusedVariables false
set_option linter.unusedSimpArgs false
attribute [local irreducible] G GC GQ GA GS Exit.then Exit.inBlock

theorem next_out (l : Nat) (i : Int) (ad : Option Addr) (cap : Nat) (w : World) (hi : ¬ (0 ≤ i ∧ i < l)) :
    Sp Tryz.prog 10 [.slice ad l cap, .int .i64 i] w [] (fun y : Value × HL => y.1) (fun y => [y.2]) (fun y => OwnI y.1 [] y.2) := by
  refine enter (s := Tryz.sx) [] Tryz.func10 rfl rfl rfl (Eff.refl w) ?_
  refine gc_seq ?_
  repeat' (first | refine g_pv rfl rfl ?_ | refine g_nil ?_ | refine gq_then ?_ | refine gc_region ?_ | refine g_box rfl rfl (fun _ => ?_))
  rename_i b2
  refine gc_seq ?_
  refine gc_seq ?_
  repeat' (first | refine g_pv rfl rfl ?_ | refine g_ld 0 rfl rfl rfl rfl rfl rfl ?_ | refine gc_region ?_)
  refine g_call rfl (Cl.of Tryz.func23 rfl rfl) rfl rfl (fun w hE => within_sp _ _ w) rfl (fun y hy => ?_)
  rw [show (decide ((0 : Int) ≤ i) && decide (i < (l : Int))) = false from by
    rw [Bool.and_eq_false_iff, decide_eq_false_iff_not, decide_eq_false_iff_not]; omega]
  repeat' (first | refine g_pv rfl rfl ?_ | refine g_nil ?_ | refine gq_then ?_ | refine gc_seq ?_ | refine gc_region ?_ | refine gc_cond_t rfl ?_ | refine gc_ret ?_ | refine gq_then_ret ?_)
  exact gq_ret1 (.inr rfl) rfl rfl rfl (fun w' H => ⟨(.slice none 0 0, []), OwnL.nil 3 1 fI, rfl, hp_perm (hp_nil H) (by simp)⟩)

theorem rnext_out (l : Nat) (i : Int) (ad : Option Addr) (cap : Nat) (w : World) (hl : l ≤ 1256584717430) (hi : ¬ (0 ≤ i ∧ i < l)) :
    Sp Tryz.prog 19 [.slice ad l cap, .int .i64 i] w [] (fun y : Value × HL => y.1) (fun y => [y.2]) (fun y => OwnI y.1 [] y.2) := by
  refine enter (s := Tryz.sx) [] Tryz.func19 rfl rfl rfl (Eff.refl w) ?_
  refine gc_seq ?_
  repeat' (first | refine g_pv rfl rfl ?_ | refine g_nil ?_ | refine gq_then ?_ | refine gc_region ?_)
  refine gc_seq ?_
  refine gc_seq ?_
  repeat' (first | refine g_pv rfl rfl ?_ | refine gc_region ?_)
  rw [show IntKind.i64.wrap ((l : Int) - 1) = (l : Int) - 1 from by rw [IntKind.wrap_i64]; omega]
  refine g_call rfl (Cl.of Tryz.func30 rfl rfl) rfl rfl (fun w hE => rwithin_sp _ _ _ w) rfl (fun y hy => ?_)
  rw [show (decide ((0 : Int) ≤ i) && decide (i ≤ (l : Int) - 1)) = false from by
    rw [Bool.and_eq_false_iff, decide_eq_false_iff_not, decide_eq_false_iff_not]; omega]
  repeat' (first | refine g_pv rfl rfl ?_ | refine g_nil ?_ | refine gq_then ?_ | refine gc_seq ?_ | refine gc_region ?_ | refine gc_cond_t rfl ?_ | refine gc_ret ?_ | refine gq_then_ret ?_)
  exact gq_ret1 (.inr rfl) rfl rfl rfl (fun w' H => ⟨(.slice none 0 0, []), OwnL.nil 3 1 fI, rfl, hp_perm (hp_nil H) (by simp)⟩)
theorem OwnI.small {v : Value} {l : List Int} {A : HL} (h : OwnI v l A) : l.length < 9223372036854775808 := by
  rcases h.own with ⟨-, rfl, -⟩ | ⟨g, cap, rest, -, -, h1, h2, -⟩
  · decide
  · unfold maxLen at h2; omega
/-- What Next answers anywhere. -/
def nextAt (l : List Ins) (i : Int) : List Int := if h : 0 ≤ i ∧ i < l.length then nextL l.length (l[i.toNat]'(by omega)) i else []
theorem nextAny_sp (l : List Ins) (i : Int) (ad : Option Addr) (cap : Nat) (w : World) (hc : CodeIn (hw w) ad l) :
    Sp Tryz.prog 10 [.slice ad l.length cap, .int .i64 i] w [] (fun y : Value × HL => y.1) (fun y => [y.2]) (fun y => OwnI y.1 (nextAt l i) y.2) := by
  unfold nextAt
  split
  · rename_i h
    have := next_sp l i.toNat ad cap w hc (by omega)
    rwa [Int.toNat_of_nonneg h.1] at this
  · rename_i h; exact next_out l.length i ad cap w h
theorem rnextAny_sp (l : List Ins) (i : Int) (ad : Option Addr) (cap : Nat) (w : World) (hc : CodeIn (hw w) ad l) :
    Sp Tryz.prog 19 [.slice ad l.length cap, .int .i64 i] w [] (fun y : Value × HL => y.1) (fun y => [y.2]) (fun y => OwnI y.1 (nextAt l i) y.2) := by
  unfold nextAt
  split
  · rename_i h
    have := rnext_sp l i.toNat ad cap w hc (by omega)
    rwa [Int.toNat_of_nonneg h.1] at this
  · rename_i h; exact rnext_out l.length i ad cap w hc.len h
end Go.Proofs.YtpohhfggmaihpaaGreatDoor
