/-
  The library's Sort, Compact, Clone at []int: the shelf's contracts, laid, as contracts over memory of one's own.
-/
import Derived.Test.YthiehhglnaiohaaGreatDoorWk6
import Derived.Test.YthiehhglnaiohaaGreatDoorShelf
import Derived.Test.YthiehhglnaiohaaGreatDoorTab
namespace Go.Proofs.YthiehhglnaiohaaGreatDoor
open Go.Wk
set_option linter.unusedVariables false
abbrev fI (n : Int) : List Value := [.int .i64 n]
abbrev OwnI (v : Value) (l : List Int) (A : HL) : Prop := OwnL 3 1 fI v l A
def sorted (l : List Int) : List Int := l.mergeSort fun x y => decide (x ≤ y)
theorem sorted_len (l : List Int) : (sorted l).length = l.length := by simp [sorted]
theorem OwnI.own {v : Value} {l : List Int} {A : HL} (h : OwnI v l A) : (v = .slice none 0 0 ∧ l = [] ∧ A = []) ∨
    ∃ g cap rest, v = .slice (some ⟨g, 0, none⟩) l.length cap ∧ A = [(g, .cells ⟨l.map (Value.int .i64) ++ rest⟩ 3 (0, 0))] ∧ l.length ≤ cap ∧ cap ≤ maxLen ∧ (l.map (Value.int .i64) ++ rest).length = cap := by
  have hf := flat_one (Value.int .i64) l
  rcases h.2 with ⟨h1, h2, h3⟩ | ⟨g, cap, rest, h1, h2, h3, h4, h5⟩
  · exact .inl ⟨h1, List.eq_nil_of_length_eq_zero h2, h3⟩
  · have hf' : l.flatMap fI = l.map (Value.int .i64) := hf
    rw [hf'] at h2 h5
    exact .inr ⟨g, cap, rest, h1, h2, h3, h4, by simpa using h5⟩
theorem OwnI.mk {g cap : Nat} {l : List Int} {rest : List Value} (h1 : l.length ≤ cap) (h2 : cap ≤ maxLen) (h3 : (l.map (Value.int .i64) ++ rest).length = cap) : OwnI (.slice (some ⟨g, 0, none⟩) l.length cap) l [(g, .cells ⟨l.map (Value.int .i64) ++ rest⟩ 3 (0, 0))] := by
  have hf : l.flatMap fI = l.map (Value.int .i64) := flat_one (Value.int .i64) l
  refine ⟨by rw [hf]; simp, .inr ⟨g, cap, rest, rfl, by rw [hf], h1, h2, by rw [hf]; simpa using h3⟩⟩

theorem sort_sp {v : Value} {l : List Int} {A : HL} (w : World) (ho : OwnI v l A) (hA : Eff w A w A) (hl : l.length < 4611686018427387904) :
    Sp Tryz.prog 47 [v] w A (fun _ : HL => .tuple #[]) (fun y => [y]) (fun y => OwnI v (sorted l) y) := by
  rcases OwnI.own ho with ⟨rfl, rfl, rfl⟩ | ⟨g, cap, rest, rfl, rfl, h3, h4, h5⟩
  · refine (Tryz.slices_Sort_int_none none 0 w).mono ?_
    rintro e w' ⟨rfl, rfl⟩
    exact ⟨[], by simpa [sorted] using OwnL.nil 3 1 fI, rfl, Eff.refl _⟩
  · have hg := hA.holds g _ List.mem_cons_self
    refine (Tryz.slices_Sort_int g 0 cap l w (holds_row _ l rest hg) (Array.getElem?_eq_some_iff.1 hg).1 hl).mono ?_
    rintro e w' ⟨rfl, q, os, rfl⟩
    have h := Eff.row (q := q) hg (Sort.putCells (Value.int .i64) 0 (sorted l).toArray) os
    rw [put_row _ (sorted l) l rest (sorted_len l)] at h
    refine ⟨[(g, .cells ⟨(sorted l).map (Value.int .i64) ++ rest⟩ 3 (0, 0))], ?_, rfl, h⟩
    rw [← sorted_len l]
    exact OwnI.mk (by rw [sorted_len]; exact h3) h4 (by simpa [sorted_len] using h5)

theorem compact_len (l : List Int) : (Lib.compact l).length ≤ l.length := by
  have : ∀ m, (Lib.compactUpTo l.toArray m).length ≤ m := fun m => by
    induction m with
    | zero => simp [Lib.compactUpTo]
    | succ m ih =>
      rw [Lib.compactUpTo_succ, List.length_append]
      split <;> simp <;> omega
  exact this _
theorem compact_sp {v : Value} {l : List Int} {A : HL} (w : World) (ho : OwnI v l A) (hA : Eff w A w A) (hl : l.length < 4611686018427387904) :
    Sp Tryz.prog 48 [v] w A (fun y : Value × HL => y.1) (fun y => [y.2]) (fun y => OwnI y.1 (Lib.compact l) y.2) := by
  rcases OwnI.own ho with ⟨rfl, rfl, rfl⟩ | ⟨g, cap, rest, rfl, rfl, h3, h4, h5⟩
  · refine (Tryz.slices_Compact_int_empty none 0 w).mono ?_
    rintro e w' ⟨rfl, rfl⟩
    exact ⟨(_, []), OwnL.nil _ _ _, rfl, Eff.refl _⟩
  · have hg := hA.holds g _ List.mem_cons_self
    refine (Tryz.slices_Compact_int g 0 cap l w (holds_row _ l rest hg) (by omega) h3).mono ?_
    rintro e w' ⟨rfl, q, rfl⟩
    have hc := compact_len l
    have h := Eff.row (q := q) hg (Sort.putCells (Value.int .i64) 0 (Lib.compact l ++ List.replicate (l.length - (Lib.compact l).length) 0).toArray) #[]
    rw [put_row _ _ l rest (by simp; omega), Sort.grow_empty] at h
    refine ⟨(_, [(g, .cells ⟨(Lib.compact l).map (Value.int .i64) ++ (((List.replicate (l.length - (Lib.compact l).length) 0).map (Value.int .i64)) ++ rest)⟩ 3 (0, 0))]), ?_, rfl, ?_⟩
    · exact OwnI.mk (by omega) h4 (by simp at h5 ⊢; omega)
    · rw [List.map_append, List.append_assoc] at h; exact h
end Go.Proofs.YthiehhglnaiohaaGreatDoor
