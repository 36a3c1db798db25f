/-
  What a seat's tables must show.
-/
import Derived.Test.YthiehhglnaiohaaGreatDoorE19
import Derived.Conc.MarkLaws
import Derived.KernelRfl
namespace Go.Ev
open Go.Wk
set_option linter.unusedVariables false
set_option linter.unusedSimpArgs false

def kOk {α : Type} : List (Nat × α) → Bool
  | [] => true
  | (k, _) :: r => Nat.blt (Nat.succ k) TOP && kOk r
def assoc {α : Type} : List (Nat × α) → Nat → Option α
  | [], _ => none
  | (j, v) :: r, i => bif Nat.beq j i then some v else assoc r i
theorem Tr.of_assoc {α : Type} : ∀ {l : List (Nat × α)}, kOk l = true → ∀ k, (Tr.of l).get k = assoc l k
  | [], _, k => rfl
  | (j, v) :: r, h, k => by
    simp only [kOk, Bool.and_eq_true] at h
    simp only [Tr.of, assoc]
    rw [Tr.get_set _ h.1, Tr.of_assoc h.2 k]
    by_cases hk : k = j
    · subst hk; rw [if_pos rfl, Nat.beq_refl, cond_true]
    · have hb : Nat.beq j k = false := by
        cases hb : Nat.beq j k with
        | false => rfl
        | true => exact absurd (Nat.eq_of_beq_eq_true hb).symm hk
      rw [if_neg hk, hb, cond_false]
theorem assoc_tl : ∀ (l : List (Nat × Ti)) (k : Nat), assoc l k = tl l k
  | [], _ => rfl
  | (j, v) :: r, k => by simp only [assoc, tl, assoc_tl r k]
theorem assoc_mem {α : Type} : ∀ {l : List (Nat × α)} {k : Nat} {v : α}, assoc l k = some v → (k, v) ∈ l
  | [], _, _, h => by cases h
  | (j, v) :: r, k, u, h => by
    simp only [assoc] at h
    cases hb : Nat.beq j k with
    | true => rw [hb, cond_true] at h; cases h; rw [Nat.eq_of_beq_eq_true hb]; exact List.mem_cons_self
    | false => rw [hb, cond_false] at h; exact List.mem_cons_of_mem _ (assoc_mem h)
theorem okL_of {tab : List (Nat × Ti)} (h : kOk tab = true) (t : TypeId) (i : Ti) (hg : (Tr.of tab).get t = some i) : tl tab t = some i := by
  rw [← assoc_tl, ← Tr.of_assoc h]; exact hg
/-- The functions are the program's. -/
def fOk (P : Program) : List (Nat × Func) → Prop
  | [] => True
  | (k, f) :: r => (P.funcs[k]? = some f ∧ (f.name == "runtime.NumGoroutine") = false) ∧ fOk P r
theorem fOk_mem {P : Program} : ∀ {l : List (Nat × Func)}, fOk P l → ∀ {k : Nat} {f : Func}, (k, f) ∈ l → P.funcs[k]? = some f ∧ (f.name == "runtime.NumGoroutine") = false
  | [], _, _, _, h => by cases h
  | (j, g) :: r, ok, k, f, h => by
    rcases List.mem_cons.1 h with h | h
    · cases h; exact ok.1
    · exact fOk_mem ok.2 h
theorem okF_of {P : Program} {l : List (Nat × Func)} (h : kOk l = true) (ok : fOk P l) (f : FuncId) (fn : Func) (hg : (Tr.of l).get f = some fn) : P.funcs[f]? = some fn ∧ (fn.name == "runtime.NumGoroutine") = false :=
  fOk_mem ok (assoc_mem (by rw [← Tr.of_assoc h]; exact hg))
/-- The entries are the functions'. -/
def xOk (P : Program) (bt : TypeId) : List (Nat × Nat) → Prop
  | [] => True
  | (k, c) :: r => (∃ fn, P.funcs[k]? = some fn ∧ (fn.name == "runtime.NumGoroutine") = false ∧ fn.body.isNone = true ∧ Extern.findNext fn = none ∧ Extern.find fn = some (xrow bt c)) ∧ xOk P bt r
theorem xOk_mem {P : Program} {bt : TypeId} : ∀ {l : List (Nat × Nat)}, xOk P bt l → ∀ {k c : Nat}, (k, c) ∈ l → ∃ fn, P.funcs[k]? = some fn ∧ (fn.name == "runtime.NumGoroutine") = false ∧ fn.body.isNone = true ∧ Extern.findNext fn = none ∧ Extern.find fn = some (xrow bt c)
  | [], _, _, _, h => by cases h
  | (j, g) :: r, ok, k, c, h => by
    rcases List.mem_cons.1 h with h | h
    · cases h; exact ok.1
    · exact xOk_mem ok.2 h
theorem okX_of {P : Program} {bt : TypeId} {l : List (Nat × Nat)} (h : kOk l = true) (ok : xOk P bt l) (f : FuncId) (c : Nat) (hg : (Tr.of l).get f = some c) (args : Array Value) (w : World) :
    (callFunc f args).run P w = ((xrow bt c args).run P w).andThen fun v w' => .ok (.value v) w' := by
  obtain ⟨fn, h1, h2, h3, h4, h5⟩ := xOk_mem ok (assoc_mem (by rw [← Tr.of_assoc h]; exact hg))
  rw [run_callFunc_extern h1 h2 h3 h4 h5]
end Go.Ev
