/-
  ctype: letters, Tag.
  slices.Max at []byte.
  tac's judge: object.
  tac's judge: function.
  tac: Check.
  How a program is written: the words of each line, the document's lines; they are the same text, and how long it may be.
  A result that lies in a cell.
  A struct of three numbers held against another.
-/
import Derived.Test.YtpohhfggmaihpaaGreatDoorZ9
import Derived.Test.YtpohhfggmaihpaaGreatDoorZ10
import Derived.Lib.ItoaLen
import Derived.Lib.Join

/- ctype: letters, Tag. -/
namespace Go.Proofs.YtpohhfggmaihpaaGreatDoor
open Go.Wk
set_option linter.unusedVariables false
set_option linter.unusedSimpArgs false
attribute [local irreducible] G GC GQ GA GS Exit.then Exit.inBlock

def lowI (c : Int) : Int := IntKind.u8.wrap (BitVec.ofInt 8 c ||| BitVec.ofInt 8 32).toNat
/-- May byte c not stand at place i? -/
def badC (i : Nat) (c : Int) : Bool := (c != 95 && (decide (lowI c < 97) || decide (lowI c > 122))) && (((i : Int) == 0 || decide (c < 48)) || decide (c > 57))
def bytesL (s : ByteArray) : List UInt8 := s.data.toList
def lettersB (s : ByteArray) : Bool := !(bytesL s).isEmpty && (decide ((bytesL s).length ≤ 63) && (List.range (bytesL s).length).all fun i => !badC i (((bytesL s)[i]?).getD 0).toNat)
theorem e0T : (⟨#[]⟩ : ByteArray).toList = [] := by rw [ByteArray.toList_eq]
theorem bytesL_eq (s : ByteArray) : s.toList = bytesL s := by rw [ByteArray.toList_eq]; rfl
theorem empT (s : ByteArray) : (s.toList == (⟨#[]⟩ : ByteArray).toList) = (bytesL s).isEmpty := by
  rw [e0T, bytesL_eq]
  cases bytesL s <;> rfl
theorem size_bytesL (s : ByteArray) : s.size = (bytesL s).length := by unfold bytesL; rw [Array.length_toList]; rfl
set_option maxHeartbeats 4000000 in
theorem letters_sp (s : ByteArray) (w : World) : Sp Tryz.prog 77 [.string s] w [] (fun b : Bool => .bool b) (fun _ => []) (fun b => b = lettersB s) := by
  have hsz := size_bytesL s
  refine enter (s := Tryz.sx) [] Tryz.func77 rfl rfl rfl (Eff.refl w) ?_
  repeat' (first | refine g_pv rfl rfl ?_ | refine g_nil ?_ | refine gq_then ?_ | refine gc_seq ?_ | refine gc_region ?_)
  refine g_p (p_eqT rfl rfl rfl) rfl ?_
  repeat' (refine g_pv rfl rfl ?_)
  refine g_case (t := 7) rfl (fun h1 => ?_) (fun h1 => ?_)
  · repeat' (first | refine g_pv rfl rfl ?_ | refine g_nil ?_ | refine gq_then ?_ | refine gc_seq ?_ | refine gc_region ?_ | refine gc_cond_t rfl ?_ | refine gc_ret ?_ | refine gq_then_ret ?_ | refine g_no rfl rfl rfl rfl rfl ?_)
    refine gq_ret1 (.inr rfl) rfl rfl rfl (fun w' H => ⟨false, ?_, rfl, hp_nil H⟩)
    have h2 : (bytesL s).isEmpty = true := by rw [← empT]; exact h1
    unfold lettersB; rw [h2]; rfl
  have h2 : (bytesL s).isEmpty = false := by rw [← empT]; exact h1
  repeat' (first | refine g_pv rfl rfl ?_ | refine g_nil ?_ | refine gq_then ?_ | refine g_yes rfl rfl rfl ?_)
  refine gc_condC rfl (fun h3 => ?_) (fun h3 => ?_)
  · repeat' (first | refine g_pv rfl rfl ?_ | refine g_nil ?_ | refine gq_then ?_ | refine gc_seq ?_ | refine gc_region ?_ | refine gc_ret ?_ | refine gq_then_ret ?_)
    refine gq_ret1 (.inr rfl) rfl rfl rfl (fun w' H => ⟨false, ?_, rfl, hp_nil H⟩)
    have h4 := of_decide_eq_true h3
    have h5 : decide ((bytesL s).length ≤ 63) = false := decide_eq_false (by omega)
    unfold lettersB; rw [h2, h5]; rfl
  have h4 := of_decide_eq_false h3
  have h5 : decide ((bytesL s).length ≤ 63) = true := decide_eq_true (by omega)
  repeat' (first | refine g_pv rfl rfl ?_ | refine g_nil ?_ | refine gq_then ?_ | refine gc_seq ?_ | refine gc_region ?_ | refine gc_block ?_ | refine gc_skip ?_)
  refine gc_loop (Y := Nat) (fun y => y ≤ (bytesL s).length ∧ ∀ i, i < y → badC i (((bytesL s)[i]?).getD 0).toNat = false)
    (fun y => [(0, .string s), (13, .int .i64 s.size), (14, .int .i64 y)]) (fun y => [])
    (fun y => (bytesL s).length - y) 0 ⟨Nat.zero_le _, fun i hi => absurd hi (Nat.not_lt_zero _)⟩ ⟨rfl, rfl, rfl, trivial⟩ (fun w' H => H) ?_
  rintro k ⟨hk, hb⟩
  dsimp only at hk hb ⊢
  repeat' (first | refine g_pv rfl rfl ?_ | refine g_nil ?_ | refine gq_then ?_ | refine gc_seq ?_ | refine gc_region ?_)
  refine gc_condC rfl (fun hc => ?_) (fun hc => ?_)
  · have hlt : k < (bytesL s).length := by have := of_decide_eq_true hc; omega
    have hx : (bytesL s)[k]? = some ((bytesL s)[k]) := List.getElem?_eq_getElem hlt
    generalize (bytesL s)[k] = c at hx
    repeat' (first | refine g_pv rfl rfl ?_ | refine g_nil ?_ | refine gq_then ?_ | refine gc_seq ?_ | refine gc_region ?_ | refine gc_block ?_ | refine gc_skip ?_)
    refine g_p (p_idxT rfl rfl rfl (Int.natCast_nonneg k) hx) rfl ?_
    repeat' (first | refine g_pv rfl rfl ?_ | refine g_nil ?_ | refine gq_then ?_ | refine gc_seq ?_ | refine gc_region ?_)
    have no : ∀ {b : Bool}, badC k c.toNat = b → badC k (((bytesL s)[k]?).getD 0).toNat = b := fun h => by rw [hx]; exact h
    have again : badC k c.toNat = false → ∀ i, i < k + 1 → badC i (((bytesL s)[i]?).getD 0).toNat = false := fun h i hi => by
      rcases Nat.lt_succ_iff_lt_or_eq.1 hi with h6 | h6
      · exact hb i h6
      · subst h6; exact no h
    have stop : badC k c.toNat = true → lettersB s = false := fun h => by
      unfold lettersB
      have : ((List.range (bytesL s).length).all fun i => !badC i (((bytesL s)[i]?).getD 0).toNat) = false := by
        cases hq : ((List.range (bytesL s).length).all fun i => !badC i (((bytesL s)[i]?).getD 0).toNat) with
        | false => rfl
        | true =>
          have := List.all_eq_true.1 hq k (List.mem_range.2 hlt)
          rw [no h] at this; cases this
      rw [this]; simp
    refine g_case (t := 22) rfl (fun g1 => ?_) (fun g1 => ?_)
    rotate_left
    · have g1 : ((c.toNat : Int) != 95) = false := g1
      repeat' (first | refine g_pv rfl rfl ?_ | refine g_nil ?_ | refine gq_then ?_ | refine gc_region ?_ | refine gc_cond_f rfl ?_ | refine gc_skip ?_ | refine gq_block ?_ | refine g_no rfl rfl rfl rfl rfl ?_)
      refine gq_again (k + 1) ⟨hlt, again (by unfold badC; rw [g1]; rfl)⟩ (by omega) ⟨rfl, rfl, inc_eq (by omega), trivial⟩ (fun w' H => H)
    have g1 : ((c.toNat : Int) != 95) = true := g1
    repeat' (first | refine g_pv rfl rfl ?_ | refine g_yes rfl rfl rfl ?_)
    refine g_case (t := 26) rfl (fun g2 => ?_) (fun g2 => ?_)
    rotate_left
    · have g2 : decide (lowI c.toNat < 97) = false := g2
      repeat' (first | refine g_pv rfl rfl ?_ | refine g_yes rfl rfl rfl ?_)
      refine g_case (t := 32) rfl (fun g3 => ?_) (fun g3 => ?_)
      rotate_left
      · have g3 : decide (lowI c.toNat > 122) = false := g3
        repeat' (first | refine g_pv rfl rfl ?_ | refine g_nil ?_ | refine gq_then ?_ | refine gc_region ?_ | refine gc_cond_f rfl ?_ | refine gc_skip ?_ | refine gq_block ?_ | refine g_no rfl rfl rfl rfl rfl ?_)
        refine gq_again (k + 1) ⟨hlt, again (by unfold badC; rw [g1, g2, g3]; rfl)⟩ (by omega) ⟨rfl, rfl, inc_eq (by omega), trivial⟩ (fun w' H => H)
      have g3 : decide (lowI c.toNat > 122) = true := g3
      repeat' (first | refine g_pv rfl rfl ?_ | refine g_yes rfl rfl rfl ?_)
      refine g_case (t := 35) rfl (fun g4 => ?_) (fun g4 => ?_)
      · have g4 : ((k : Int) == 0) = true := g4
        repeat' (first | refine g_pv rfl rfl ?_ | refine g_nil ?_ | refine gq_then ?_ | refine gc_seq ?_ | refine gc_region ?_ | refine gc_cond_t rfl ?_ | refine gc_ret ?_ | refine gq_then_ret ?_ | refine gq_block_ret ?_ | refine g_yes rfl rfl rfl ?_ | refine g_no rfl rfl rfl rfl rfl ?_)
        refine gq_ret1 (.inr rfl) rfl rfl rfl (fun w' H => ⟨false, ?_, rfl, hp_nil H⟩)
        rw [stop (by unfold badC; rw [g1, g2, g3, g4]; rfl)]
      have g4 : ((k : Int) == 0) = false := g4
      repeat' (first | refine g_pv rfl rfl ?_ | refine g_yes rfl rfl rfl ?_)
      refine g_case (t := 39) rfl (fun g5 => ?_) (fun g5 => ?_)
      · have g5 : decide ((c.toNat : Int) < 48) = true := g5
        repeat' (first | refine g_pv rfl rfl ?_ | refine g_nil ?_ | refine gq_then ?_ | refine gc_seq ?_ | refine gc_region ?_ | refine gc_cond_t rfl ?_ | refine gc_ret ?_ | refine gq_then_ret ?_ | refine gq_block_ret ?_ | refine g_yes rfl rfl rfl ?_ | refine g_no rfl rfl rfl rfl rfl ?_)
        refine gq_ret1 (.inr rfl) rfl rfl rfl (fun w' H => ⟨false, ?_, rfl, hp_nil H⟩)
        rw [stop (by unfold badC; rw [g1, g2, g3, g4, g5]; rfl)]
      have g5 : decide ((c.toNat : Int) < 48) = false := g5
      repeat' (first | refine g_pv rfl rfl ?_ | refine g_nil ?_ | refine gq_then ?_ | refine g_yes rfl rfl rfl ?_)
      refine gc_condC rfl (fun g6 => ?_) (fun g6 => ?_)
      · have g6 : decide ((c.toNat : Int) > 57) = true := g6
        repeat' (first | refine g_pv rfl rfl ?_ | refine g_nil ?_ | refine gq_then ?_ | refine gc_seq ?_ | refine gc_region ?_ | refine gc_ret ?_ | refine gq_then_ret ?_ | refine gq_block_ret ?_)
        refine gq_ret1 (.inr rfl) rfl rfl rfl (fun w' H => ⟨false, ?_, rfl, hp_nil H⟩)
        rw [stop (by unfold badC; rw [g1, g2, g3, g4, g5, g6]; rfl)]
      have g6 : decide ((c.toNat : Int) > 57) = false := g6
      repeat' (first | refine g_pv rfl rfl ?_ | refine g_nil ?_ | refine gq_then ?_ | refine gc_region ?_ | refine gc_skip ?_ | refine gq_block ?_)
      refine gq_again (k + 1) ⟨hlt, again (by unfold badC; rw [g1, g2, g3, g4, g5, g6]; rfl)⟩ (by omega) ⟨rfl, rfl, inc_eq (by omega), trivial⟩ (fun w' H => H)
    have g2 : decide (lowI c.toNat < 97) = true := g2
    repeat' (first | refine g_pv rfl rfl ?_ | refine g_yes rfl rfl rfl ?_ | refine g_no rfl rfl rfl rfl rfl ?_)
    repeat' (fail)
    refine g_case (t := 35) rfl (fun g4 => ?_) (fun g4 => ?_)
    · have g4 : ((k : Int) == 0) = true := g4
      repeat' (first | refine g_pv rfl rfl ?_ | refine g_nil ?_ | refine gq_then ?_ | refine gc_seq ?_ | refine gc_region ?_ | refine gc_cond_t rfl ?_ | refine gc_ret ?_ | refine gq_then_ret ?_ | refine gq_block_ret ?_ | refine g_yes rfl rfl rfl ?_ | refine g_no rfl rfl rfl rfl rfl ?_)
      refine gq_ret1 (.inr rfl) rfl rfl rfl (fun w' H => ⟨false, ?_, rfl, hp_nil H⟩)
      rw [stop (by unfold badC; rw [g1, g2, g4]; rfl)]
    have g4 : ((k : Int) == 0) = false := g4
    repeat' (first | refine g_pv rfl rfl ?_ | refine g_yes rfl rfl rfl ?_)
    refine g_case (t := 39) rfl (fun g5 => ?_) (fun g5 => ?_)
    · have g5 : decide ((c.toNat : Int) < 48) = true := g5
      repeat' (first | refine g_pv rfl rfl ?_ | refine g_nil ?_ | refine gq_then ?_ | refine gc_seq ?_ | refine gc_region ?_ | refine gc_cond_t rfl ?_ | refine gc_ret ?_ | refine gq_then_ret ?_ | refine gq_block_ret ?_ | refine g_yes rfl rfl rfl ?_ | refine g_no rfl rfl rfl rfl rfl ?_)
      refine gq_ret1 (.inr rfl) rfl rfl rfl (fun w' H => ⟨false, ?_, rfl, hp_nil H⟩)
      rw [stop (by unfold badC; rw [g1, g2, g4, g5]; rfl)]
    have g5 : decide ((c.toNat : Int) < 48) = false := g5
    repeat' (first | refine g_pv rfl rfl ?_ | refine g_nil ?_ | refine gq_then ?_ | refine g_yes rfl rfl rfl ?_)
    refine gc_condC rfl (fun g6 => ?_) (fun g6 => ?_)
    · have g6 : decide ((c.toNat : Int) > 57) = true := g6
      repeat' (first | refine g_pv rfl rfl ?_ | refine g_nil ?_ | refine gq_then ?_ | refine gc_seq ?_ | refine gc_region ?_ | refine gc_ret ?_ | refine gq_then_ret ?_ | refine gq_block_ret ?_)
      refine gq_ret1 (.inr rfl) rfl rfl rfl (fun w' H => ⟨false, ?_, rfl, hp_nil H⟩)
      rw [stop (by unfold badC; rw [g1, g2, g4, g5, g6]; rfl)]
    have g6 : decide ((c.toNat : Int) > 57) = false := g6
    repeat' (first | refine g_pv rfl rfl ?_ | refine g_nil ?_ | refine gq_then ?_ | refine gc_region ?_ | refine gc_skip ?_ | refine gq_block ?_)
    refine gq_again (k + 1) ⟨hlt, again (by unfold badC; rw [g1, g2, g4, g5, g6]; rfl)⟩ (by omega) ⟨rfl, rfl, inc_eq (by omega), trivial⟩ (fun w' H => H)
  · have hge : k = (bytesL s).length := by have := of_decide_eq_false hc; omega
    repeat' (first | refine g_pv rfl rfl ?_ | refine g_nil ?_ | refine gq_then ?_ | refine gc_seq ?_ | refine gc_region ?_ | refine gc_exit ?_ | refine gc_ret ?_ | refine gq_then_exit ?_ | refine gq_block_exit ?_)
    refine gq_ret1 (.inr rfl) rfl rfl rfl (fun w' H => ⟨true, ?_, rfl, hp_nil H⟩)
    have h6 : ((List.range (bytesL s).length).all fun i => !badC i (((bytesL s)[i]?).getD 0).toNat) = true := List.all_eq_true.2 (fun i hi => by
      rw [hb i (by rw [hge]; exact List.mem_range.1 hi)]; rfl)
    unfold lettersB; rw [h2, h5, h6]; rfl

def digits10 : List UInt8 := [48, 49, 50, 51, 52, 53, 54, 55, 56, 57]
def tagB (s : ByteArray) : Bool := if Lib.hasPrefix (bytesL s) [35] then !(Lib.trimPrefix (bytesL s) [35]).isEmpty && (decide ((Lib.trimPrefix (bytesL s) [35]).length ≤ 9) && (Lib.trimS (Lib.trimPrefix (bytesL s) [35]) digits10).isEmpty) else lettersB s
theorem cutPrefix_sp (s p : ByteArray) (w : World) : Sp Tryz.prog 75 [.string s, .string p] w [] (fun q : ByteArray × Bool => .tuple #[.string q.1, .bool q.2]) (fun _ => []) (fun q => bytesL q.1 = Lib.trimPrefix (bytesL s) (bytesL p) ∧ q.2 = Lib.hasPrefix (bytesL s) (bytesL p)) := by
  refine Calls.mono (Any.strings_CutPrefix Tryz.lays103 s p w) ?_
  rintro e w' ⟨he, rfl⟩
  exact ⟨(⟨(Lib.trimPrefix s.data.toList p.data.toList).toArray⟩, _), ⟨rfl, rfl⟩, he, Eff.refl _⟩
theorem trim_sp (s : ByteArray) (w : World) (hs : s.size ≤ 9223372036854775807) : Sp Tryz.prog 76 [.string s, .string ⟨#[48, 49, 50, 51, 52, 53, 54, 55, 56, 57]⟩] w [] (fun q : ByteArray => .string q) (fun _ => []) (fun q => bytesL q = Lib.trimS (bytesL s) digits10) := by
  refine Calls.mono (Any.strings_Trim_laid Tryz.lays160 (by kernel_rfl) s ⟨#[48, 49, 50, 51, 52, 53, 54, 55, 56, 57]⟩ w hs (by decide) (ascii_of_all (by decide))) ?_
  rintro e w' ⟨he, hB⟩
  exact ⟨_, rfl, he, eff_of_below hB⟩
theorem tag_sp (s : ByteArray) (w : World) : Sp Tryz.prog 43 [.string s] w [] (fun b : Bool => .bool b) (fun _ => []) (fun b => b = tagB s) := by
  refine enter (s := Tryz.sx) [] Tryz.func43 rfl rfl rfl (Eff.refl w) ?_
  repeat' (first | refine g_pv rfl rfl ?_ | refine g_nil ?_ | refine gq_then ?_ | refine gc_seq ?_ | refine gc_region ?_)
  refine g_call rfl (Cl.of Tryz.func75 rfl rfl) rfl rfl (fun w' hE => cutPrefix_sp s ⟨#[35]⟩ w') rfl ?_
  rintro ⟨q, hp⟩ ⟨hq, hh⟩
  dsimp only at hq hh ⊢
  have hh : hp = Lib.hasPrefix (bytesL s) [35] := hh
  have hq : bytesL q = Lib.trimPrefix (bytesL s) [35] := hq
  repeat' (first | refine g_pv rfl rfl ?_ | refine g_nil ?_ | refine gq_then ?_ | refine gc_seq ?_ | refine gc_region ?_)
  cases hp
  · repeat' (first | refine g_pv rfl rfl ?_ | refine gq_then ?_ | refine gc_seq ?_ | refine gc_region ?_ | refine gc_cond_f rfl ?_ | refine gc_skip ?_)
    refine g_call rfl (Cl.of Tryz.func77 rfl rfl) rfl rfl (fun w' hE => letters_sp s w') rfl ?_
    rintro b hb
    repeat' (first | refine g_pv rfl rfl ?_ | refine g_nil ?_ | refine gq_then ?_ | refine gc_ret ?_)
    refine gq_ret1 (.inr rfl) rfl rfl rfl (fun w' H => ⟨b, ?_, rfl, hp_nil H⟩)
    unfold tagB
    rw [← hh, if_neg (by decide)]
    exact hb
  have hd : tagB s = (!(bytesL q).isEmpty && (decide ((bytesL q).length ≤ 9) && (Lib.trimS (bytesL q) digits10).isEmpty)) := by unfold tagB; rw [← hh, if_pos rfl, hq]
  have hsz := size_bytesL q
  repeat' (first | refine g_pv rfl rfl ?_ | refine gc_seq ?_ | refine gc_region ?_ | refine gc_cond_t rfl ?_)
  refine g_p (p_neT rfl rfl rfl) rfl ?_
  repeat' (refine g_pv rfl rfl ?_)
  refine g_case (t := 13) rfl (fun h1 => ?_) (fun h1 => ?_)
  rotate_left
  · have h1 : (!(q.toList == (⟨#[]⟩ : ByteArray).toList)) = false := h1
    rw [empT] at h1
    repeat' (first | refine g_pv rfl rfl ?_ | refine g_nil ?_ | refine gq_then ?_ | refine gc_ret ?_ | refine gq_then_ret ?_ | refine g_no rfl rfl rfl rfl rfl ?_)
    refine gq_ret1 (.inr rfl) rfl rfl rfl (fun w' H => ⟨false, ?_, rfl, hp_nil H⟩)
    rw [hd, h1]; rfl
  have h1 : (!(q.toList == (⟨#[]⟩ : ByteArray).toList)) = true := h1
  rw [empT] at h1
  repeat' (first | refine g_pv rfl rfl ?_ | refine g_yes rfl rfl rfl ?_)
  refine g_case (t := 18) rfl (fun h2 => ?_) (fun h2 => ?_)
  rotate_left
  · have h3 := of_decide_eq_false h2
    repeat' (first | refine g_pv rfl rfl ?_ | refine g_nil ?_ | refine gq_then ?_ | refine gc_ret ?_ | refine gq_then_ret ?_ | refine g_no rfl rfl rfl rfl rfl ?_)
    refine gq_ret1 (.inr rfl) rfl rfl rfl (fun w' H => ⟨false, ?_, rfl, hp_nil H⟩)
    rw [hd, h1, decide_eq_false (by omega)]; rfl
  have h3 := of_decide_eq_true h2
  repeat' (first | refine g_pv rfl rfl ?_ | refine g_yes rfl rfl rfl ?_)
  refine g_call rfl (Cl.of Tryz.func76 rfl rfl) rfl rfl (fun w' hE => trim_sp q w' (by omega)) rfl ?_
  rintro r hr
  repeat' (refine g_yes rfl rfl rfl ?_)
  refine g_p (p_eqT rfl rfl rfl) rfl ?_
  repeat' (first | refine g_pv rfl rfl ?_ | refine g_nil ?_ | refine gq_then ?_ | refine gc_ret ?_ | refine gq_then_ret ?_)
  refine gq_ret1 (.inr rfl) rfl rfl rfl (fun w' H => ⟨_, ?_, rfl, hp_nil H⟩)
  rw [hd, h1, decide_eq_true (by omega), empT, hr]; rfl
end Go.Proofs.YtpohhfggmaihpaaGreatDoor

/- slices.Max at []byte. -/
namespace Go.Proofs.YtpohhfggmaihpaaGreatDoor
open Go.Wk
set_option linter.unusedVariables false
set_option linter.unusedSimpArgs false
attribute [local irreducible] G GC GQ GA GS Exit.then Exit.inBlock

def maxL : List Int → Int
  | [] => 0
  | x :: r => r.foldl (fun m y => if y > m then y else m) x
theorem maxL_app {l : List Int} (h : l ≠ []) (x : Int) : maxL (l ++ [x]) = if x > maxL l then x else maxL l := by
  cases l with
  | nil => exact absurd rfl h
  | cons a r => simp only [List.cons_append, maxL, List.foldl_append, List.foldl_cons, List.foldl_nil]; rfl
theorem max_sp (l : List Int) (A : Option Addr) (cap : Nat) (w : World) (hr : Rd (hw w) fB 1 A l) (hl : 0 < l.length) (hs : l.length ≤ 4611686018427387904) :
    Sp Tryz.prog 45 [.slice A l.length cap] w [] (fun m : Int => .int .u8 m) (fun _ => []) (fun m => m = maxL l) := by
  refine enter (s := Tryz.sx) [] Tryz.func45 rfl rfl rfl (Eff.refl w) ?_
  repeat' (first | refine g_pv rfl rfl ?_ | refine g_nil ?_ | refine gq_then ?_ | refine gc_seq ?_ | refine gc_region ?_)
  refine gc_condC rfl (fun h1 => ?_) (fun h1 => ?_)
  · have := of_decide_eq_true h1
    exact absurd this (by omega)
  have hx0 : l[0]? = some (l[0]'hl) := List.getElem?_eq_getElem hl
  have ht1 : l.take 1 = [l[0]'hl] := by rw [List.take_succ_eq_append_getElem hl]; rfl
  generalize l[0]'hl = x0 at hx0 ht1
  repeat' (first | refine g_pv rfl rfl ?_ | refine gq_then ?_ | refine gc_seq ?_ | refine gc_region ?_ | refine gc_skip ?_)
  refine g_at (l := l) (f := fB) (u := x0) rfl rfl rfl rfl rfl (Int.le_refl 0) (by omega) (hr.le (old_le0 _ w)) hx0 rfl rfl rfl rfl (fun a => ?_)
  repeat' (first | refine g_pv rfl rfl ?_ | refine g_nil ?_ | refine gq_then ?_ | refine gc_seq ?_ | refine gc_region ?_ | refine gc_block ?_)
  refine gc_loop (Y := Nat) (fun y => 1 ≤ y ∧ y ≤ l.length)
    (fun y => [(0, .slice A l.length cap), (3, .int .u8 (maxL (l.take y))), (4, .int .i64 y)]) (fun y => [])
    (fun y => l.length - y) 1 ⟨Nat.le_refl _, hl⟩ ⟨rfl, by rw [ht1]; rfl, rfl, trivial⟩ (fun w' H => H) ?_
  rintro k ⟨hk1, hk⟩
  dsimp only at hk1 hk ⊢
  repeat' (first | refine g_pv rfl rfl ?_ | refine g_nil ?_ | refine gq_then ?_ | refine gc_seq ?_ | refine gc_region ?_)
  refine gc_condC rfl (fun hc => ?_) (fun hc => ?_)
  · have hlt : k < l.length := by have := of_decide_eq_true hc; omega
    have hx : l[k]? = some l[k] := List.getElem?_eq_getElem hlt
    have hm : maxL (l.take (k + 1)) = if l[k] > maxL (l.take k) then l[k] else maxL (l.take k) := by
      rw [List.take_succ_eq_append_getElem hlt]
      exact maxL_app (by intro h; have h2 : (l.take k).length = 0 := (by rw [h]; rfl); rw [List.length_take] at h2; omega) _
    generalize l[k] = x at hx hm
    repeat' (first | refine g_pv rfl rfl ?_ | refine gq_then ?_ | refine gc_seq ?_ | refine gc_region ?_ | refine gc_block ?_ | refine gc_skip ?_)
    refine g_at (l := l) (f := fB) (u := x) rfl rfl rfl rfl rfl (Int.natCast_nonneg k) (by omega) (hr.le (old_le0 _ w)) hx rfl rfl rfl rfl (fun a => ?_)
    repeat' (first | refine g_pv rfl rfl ?_ | refine g_nil ?_ | refine gq_then ?_ | refine gc_region ?_ | refine gq_block ?_)
    exact gq_again (k + 1) ⟨by omega, hlt⟩ (by omega) ⟨rfl, by rw [hm]; rfl, inc_eq (by omega), trivial⟩ (fun w' H => hp_nil H)
  · have hge : k = l.length := by have := of_decide_eq_false hc; omega
    repeat' (first | refine g_pv rfl rfl ?_ | refine g_nil ?_ | refine gq_then ?_ | refine gc_seq ?_ | refine gc_region ?_ | refine gc_exit ?_ | refine gc_ret ?_ | refine gq_then_exit ?_ | refine gq_block_exit ?_)
    exact gq_ret1 (.inr rfl) rfl rfl rfl (fun w' H => ⟨_, by rw [hge, List.take_length], rfl, hp_nil H⟩)
end Go.Proofs.YtpohhfggmaihpaaGreatDoor

/- tac's judge: object. -/
namespace Go.Proofs.YtpohhfggmaihpaaGreatDoor
open Go.Wk
set_option linter.unusedVariables false
set_option linter.unusedSimpArgs false
attribute [local irreducible] G GC GQ GA GS Exit.then Exit.inBlock

/-- May a relocation be, none of which may lie ahead of fr? -/
def relB (j : Jg) (o : Ob) (fr : Int) (r : Rel) : Bool :=
  o.align == 4 && (!decide (r.off < fr) && (r.off.tmod 4 == 0 && (!decide (r.off > IntKind.i64.wrap (o.size - 4)) && (inB r.gl j.p.obs.length && (!decide (r.add < 0) && ((match j.p.obs[r.gl.toNat]? with | some q => !decide (r.add > q.size) | none => false) && maxL ((o.bytes.drop r.off.toNat).take 4) == 0))))))
def relsB (j : Jg) (o : Ob) : Int → List Rel → Bool
  | _, [] => true
  | fr, r :: t => relB j o fr r && relsB j o (r.off + 4) t
def objB (j : Jg) (o : Ob) : Bool := tagB o.nm && (!decide (o.size < 1) && (!decide (o.size > 16384) && (powB o.align && ((o.bytes.length : Int) == o.size && relsB j o 0 o.rels))))
theorem relsB_no {j : Jg} {o : Ob} {fr : Int} {r : Rel} {t : List Rel} (h : relB j o fr r = false) : relsB j o fr (r :: t) = false := by simp [relsB, h]
theorem relsB_yes {j : Jg} {o : Ob} {fr : Int} {r : Rel} {t : List Rel} (h : relB j o fr r = true) : relsB j o fr (r :: t) = relsB j o (r.off + 4) t := by simp [relsB, h]

set_option maxHeartbeats 16000000 in
theorem object_sp (j : Jg) (o : Ob) (w : World) (hj : JgIn (hw w) j) (ho : ObIn (hw w) o) : Sp Tryz.prog 24 [j.val, o.val] w [] (fun b : Bool => .bool b) (fun _ => []) (fun b => b = objB j o) := by
  refine enter (s := Tryz.sx) [] Tryz.func24 rfl rfl rfl (Eff.refl w) ?_
  repeat' (first | refine g_pv rfl rfl ?_ | refine g_ld 0 rfl rfl rfl rfl rfl rfl ?_ | refine g_nil ?_ | refine gq_then ?_ | refine gc_seq ?_ | refine gc_region ?_ | refine g_box rfl rfl (fun _ => ?_))
  rename_i b2 b3
  refine g_call rfl (Cl.of Tryz.func43 rfl rfl) rfl rfl (fun w' hE => tag_sp o.nm w') rfl ?_
  rintro t1 ht1
  repeat' (refine g_pv rfl rfl ?_)
  cases t1
  · repeat' (first | refine g_pv rfl rfl ?_ | refine g_nil ?_ | refine gq_then ?_ | refine gc_seq ?_ | refine gc_region ?_ | refine gc_cond_t rfl ?_ | refine gc_ret ?_ | refine gq_then_ret ?_ | refine g_no rfl rfl rfl rfl rfl ?_)
    refine gq_ret1 (.inr rfl) rfl rfl rfl (fun w' H => ⟨false, ?_, rfl, hp_nil H⟩)
    unfold objB; rw [← ht1]; rfl
  repeat' (first | refine g_pv rfl rfl ?_ | refine g_ld 0 rfl rfl rfl rfl rfl rfl ?_ | refine g_yes rfl rfl rfl ?_)
  refine g_case (t := 17) rfl (fun h1 => ?_) (fun h1 => ?_)
  · repeat' (first | refine g_pv rfl rfl ?_ | refine g_nil ?_ | refine gq_then ?_ | refine gc_seq ?_ | refine gc_region ?_ | refine gc_cond_t rfl ?_ | refine gc_ret ?_ | refine gq_then_ret ?_ | refine g_no rfl rfl rfl rfl rfl ?_)
    refine gq_ret1 (.inr rfl) rfl rfl rfl (fun w' H => ⟨false, ?_, rfl, hp_nil H⟩)
    unfold objB; rw [← ht1, h1]; rfl
  repeat' (first | refine g_pv rfl rfl ?_ | refine g_ld 0 rfl rfl rfl rfl rfl rfl ?_ | refine g_yes rfl rfl rfl ?_)
  refine g_case (t := 22) rfl (fun h2 => ?_) (fun h2 => ?_)
  · repeat' (first | refine g_pv rfl rfl ?_ | refine g_nil ?_ | refine gq_then ?_ | refine gc_seq ?_ | refine gc_region ?_ | refine gc_cond_t rfl ?_ | refine gc_ret ?_ | refine gq_then_ret ?_ | refine g_no rfl rfl rfl rfl rfl ?_)
    refine gq_ret1 (.inr rfl) rfl rfl rfl (fun w' H => ⟨false, ?_, rfl, hp_nil H⟩)
    unfold objB; rw [← ht1, h1, h2]; rfl
  repeat' (first | refine g_pv rfl rfl ?_ | refine g_ld 0 rfl rfl rfl rfl rfl rfl ?_ | refine g_yes rfl rfl rfl ?_)
  refine g_call rfl (Cl.of Tryz.func44 rfl rfl) rfl rfl (fun w' hE => power_sp o.align w') rfl ?_
  rintro t3 ht3
  have ht3 : t3 = powB o.align := ht3
  repeat' (first | refine g_pv rfl rfl ?_ | refine g_yes rfl rfl rfl ?_)
  cases t3
  · repeat' (first | refine g_pv rfl rfl ?_ | refine g_nil ?_ | refine gq_then ?_ | refine gc_seq ?_ | refine gc_region ?_ | refine gc_cond_t rfl ?_ | refine gc_ret ?_ | refine gq_then_ret ?_ | refine g_no rfl rfl rfl rfl rfl ?_)
    refine gq_ret1 (.inr rfl) rfl rfl rfl (fun w' H => ⟨false, ?_, rfl, hp_nil H⟩)
    unfold objB; rw [← ht1, h1, h2, ← ht3]; rfl
  repeat' (first | refine g_pv rfl rfl ?_ | refine g_ld 0 rfl rfl rfl rfl rfl rfl ?_ | refine g_nil ?_ | refine gq_then ?_ | refine g_yes rfl rfl rfl ?_)
  refine gc_condC rfl (fun h4 => ?_) (fun h4 => ?_)
  · repeat' (first | refine g_pv rfl rfl ?_ | refine g_nil ?_ | refine gq_then ?_ | refine gc_seq ?_ | refine gc_region ?_ | refine gc_ret ?_ | refine gq_then_ret ?_)
    refine gq_ret1 (.inr rfl) rfl rfl rfl (fun w' H => ⟨false, ?_, rfl, hp_nil H⟩)
    have h4' : ((o.bytes.length : Int) == o.size) = false := by simpa using h4
    unfold objB; rw [← ht1, h1, h2, ← ht3, h4']; rfl
  have h4' : ((o.bytes.length : Int) == o.size) = true := by simpa using h4
  have hsz : (o.bytes.length : Int) = o.size := beq_iff_eq.1 h4'
  have hs1 := of_decide_eq_false h1
  have hs2 := of_decide_eq_false h2
  have hO : objB j o = relsB j o 0 o.rels := by unfold objB; rw [← ht1, h1, h2, ← ht3, h4']; rfl
  repeat' (first | refine g_pv rfl rfl ?_ | refine g_ld 0 rfl rfl rfl rfl rfl rfl ?_ | refine g_nil ?_ | refine gq_then ?_ | refine gc_seq ?_ | refine gc_region ?_ | refine gc_block ?_ | refine gc_skip ?_)
  refine gc_loop (Y := Nat × Int) (fun y => y.1 ≤ o.rels.length ∧ 0 ≤ y.2 ∧ y.2 ≤ 16384 ∧ relsB j o 0 o.rels = relsB j o y.2 (o.rels.drop y.1))
    (fun y => [(2, .pointer (some ⟨b2, 0, none⟩)), (3, .pointer (some ⟨b3, 0, none⟩)), (39, .slice o.rA o.rels.length o.rC), (40, .int .i64 o.rels.length), (41, .int .i64 y.1), (5, .int .i64 y.2)])
    (fun y => [[(b3, .cells ⟨o.cells⟩ 66 (0, 0))], [(b2, .cells ⟨j.cells⟩ 59 (0, 0))]])
    (fun y => o.rels.length - y.1) (0, 0) ⟨Nat.zero_le _, Int.le_refl _, by decide, rfl⟩ ⟨rfl, rfl, rfl, rfl, rfl, rfl, trivial⟩ (fun w' H => H) ?_
  rintro ⟨k, fr⟩ ⟨hk, hf0, hf1, hR⟩
  have hrlen := ho.rlen
  dsimp only at hk hf0 hf1 hR ⊢
  repeat' (first | refine g_pv rfl rfl ?_ | refine g_nil ?_ | refine gq_then ?_ | refine gc_seq ?_ | refine gc_region ?_)
  refine gc_condC rfl (fun hc => ?_) (fun hc => ?_)
  rotate_left
  · have hge : k = o.rels.length := by have := of_decide_eq_false hc; omega
    repeat' (first | refine g_pv rfl rfl ?_ | refine g_nil ?_ | refine gq_then ?_ | refine gc_seq ?_ | refine gc_region ?_ | refine gc_exit ?_ | refine gc_ret ?_ | refine gq_then_exit ?_ | refine gq_block_exit ?_)
    refine gq_ret1 (.inr rfl) rfl rfl rfl (fun w' H => ⟨true, ?_, rfl, hp_nil H⟩)
    rw [hO, hR, hge, List.drop_length]; rfl
  have hlt : k < o.rels.length := by have := of_decide_eq_true hc; omega
  have hx : o.rels[k]? = some (o.rels[k]) := List.getElem?_eq_getElem hlt
  have hd : o.rels.drop k = o.rels[k] :: o.rels.drop (k + 1) := List.drop_eq_getElem_cons hlt
  have hr := ho.rs _ (List.getElem_mem hlt)
  generalize o.rels[k] = r at hx hd hr
  rw [hd] at hR
  repeat' (first | refine gq_then ?_ | refine gc_seq ?_ | refine gc_region ?_ | refine gc_block ?_ | refine gc_skip ?_)
  refine g_at (l := o.rels) (f := Rel.cells) (u := r) rfl rfl rfl rfl rfl (Int.natCast_nonneg k) (by omega) (ho.rels.le (old_le0 _ w)) hx rfl rfl rfl rfl (fun a => ?_)
  repeat' (first | refine g_nil ?_ | refine gq_then ?_ | refine g_alloc rfl rfl (fun _ => ?_) | refine g_st 0 rfl rfl rfl rfl rfl rfl rfl ?_)
  rename_i b7
  refine gc_heap (R' := [[(b7, .cells ⟨r.cells⟩ 78 (0, 0))], [(b3, .cells ⟨o.cells⟩ 66 (0, 0))], [(b2, .cells ⟨j.cells⟩ 59 (0, 0))]]) (fun w H => H) ?_
  repeat' (first | refine g_pv rfl rfl ?_ | refine g_ld 1 rfl rfl rfl rfl rfl rfl ?_ | refine gc_seq ?_ | refine gc_region ?_)
  refine g_case (t := 48) rfl (fun g1 => ?_) (fun g1 => ?_)
  · have g1' : (o.align == 4) = false := by simpa using g1
    repeat' (first | refine g_pv rfl rfl ?_ | refine g_nil ?_ | refine gq_then ?_ | refine gc_seq ?_ | refine gc_region ?_ | refine gc_cond_t rfl ?_ | refine gc_ret ?_ | refine gq_then_ret ?_ | refine gq_block_ret ?_ | refine g_no rfl rfl rfl rfl rfl ?_)
    refine gq_ret1 (.inr rfl) rfl rfl rfl (fun w' H => ⟨false, ?_, rfl, hp_nil H⟩)
    rw [hO, hR, relsB_no (by unfold relB; rw [g1']; rfl)]
  have g1' : (o.align == 4) = true := by simpa using g1
  repeat' (first | refine g_pv rfl rfl ?_ | refine g_ld 0 rfl rfl rfl rfl rfl rfl ?_ | refine g_yes rfl rfl rfl ?_)
  refine g_case (t := 54) rfl (fun g2 => ?_) (fun g2 => ?_)
  · have g2 : decide (r.off < fr) = true := g2
    repeat' (first | refine g_pv rfl rfl ?_ | refine g_nil ?_ | refine gq_then ?_ | refine gc_seq ?_ | refine gc_region ?_ | refine gc_cond_t rfl ?_ | refine gc_ret ?_ | refine gq_then_ret ?_ | refine gq_block_ret ?_ | refine g_no rfl rfl rfl rfl rfl ?_)
    refine gq_ret1 (.inr rfl) rfl rfl rfl (fun w' H => ⟨false, ?_, rfl, hp_nil H⟩)
    rw [hO, hR, relsB_no (by unfold relB; rw [g1', g2]; rfl)]
  have g2 : decide (r.off < fr) = false := g2
  repeat' (first | refine g_pv rfl rfl ?_ | refine g_ld 0 rfl rfl rfl rfl rfl rfl ?_ | refine g_yes rfl rfl rfl ?_)
  refine g_p (p_rem rfl rfl (by decide)) rfl ?_
  repeat' (first | refine g_pv rfl rfl ?_ | refine g_yes rfl rfl rfl ?_)
  refine g_case (t := 60) rfl (fun g3 => ?_) (fun g3 => ?_)
  · have g3' : (r.off.tmod 4 == 0) = false := by simpa using g3
    repeat' (first | refine g_pv rfl rfl ?_ | refine g_nil ?_ | refine gq_then ?_ | refine gc_seq ?_ | refine gc_region ?_ | refine gc_cond_t rfl ?_ | refine gc_ret ?_ | refine gq_then_ret ?_ | refine gq_block_ret ?_ | refine g_no rfl rfl rfl rfl rfl ?_)
    refine gq_ret1 (.inr rfl) rfl rfl rfl (fun w' H => ⟨false, ?_, rfl, hp_nil H⟩)
    rw [hO, hR, relsB_no (by unfold relB; rw [g1', g2, g3']; rfl)]
  have g3' : (r.off.tmod 4 == 0) = true := by simpa using g3
  repeat' (first | refine g_pv rfl rfl ?_ | refine g_ld 0 rfl rfl rfl rfl rfl rfl ?_ | refine g_ld 1 rfl rfl rfl rfl rfl rfl ?_ | refine g_yes rfl rfl rfl ?_)
  refine g_case (t := 68) rfl (fun g4 => ?_) (fun g4 => ?_)
  · have g4 : decide (r.off > IntKind.i64.wrap (o.size - 4)) = true := g4
    repeat' (first | refine g_pv rfl rfl ?_ | refine g_nil ?_ | refine gq_then ?_ | refine gc_seq ?_ | refine gc_region ?_ | refine gc_cond_t rfl ?_ | refine gc_ret ?_ | refine gq_then_ret ?_ | refine gq_block_ret ?_ | refine g_no rfl rfl rfl rfl rfl ?_)
    refine gq_ret1 (.inr rfl) rfl rfl rfl (fun w' H => ⟨false, ?_, rfl, hp_nil H⟩)
    rw [hO, hR, relsB_no (by unfold relB; rw [g1', g2, g3', g4]; rfl)]
  have g4 : decide (r.off > IntKind.i64.wrap (o.size - 4)) = false := g4
  repeat' (first | refine g_pv rfl rfl ?_ | refine g_ld 0 rfl rfl rfl rfl rfl rfl ?_ | refine g_ld 2 rfl rfl rfl rfl rfl rfl ?_ | refine g_yes rfl rfl rfl ?_)
  refine g_call rfl (Cl.of Tryz.func23 rfl rfl) rfl rfl (fun w' hE => within_sp r.gl j.p.obs.length w') rfl (fun _ _ => ?_)
  repeat' (first | refine g_pv rfl rfl ?_ | refine g_nil ?_ | refine gq_then ?_ | refine g_yes rfl rfl rfl ?_)
  refine gc_condC rfl (fun g5 => ?_) (fun g5 => ?_)
  · have g5' : inB r.gl j.p.obs.length = false := (Bool.not_eq_true' _).mp g5
    repeat' (first | refine g_pv rfl rfl ?_ | refine g_nil ?_ | refine gq_then ?_ | refine gc_seq ?_ | refine gc_region ?_ | refine gc_ret ?_ | refine gq_then_ret ?_ | refine gq_block_ret ?_)
    refine gq_ret1 (.inr rfl) rfl rfl rfl (fun w' H => ⟨false, ?_, rfl, hp_nil H⟩)
    rw [hO, hR, relsB_no (by unfold relB; rw [g1', g2, g3', g4, g5']; rfl)]
  have g5' : inB r.gl j.p.obs.length = true := by simpa [inB] using g5
  have hb5 : 0 ≤ r.gl ∧ r.gl < j.p.obs.length := by simpa [inB] using g5'
  have hlx : j.p.obs[r.gl.toNat]? = some (j.p.obs[r.gl.toNat]'(by omega)) := List.getElem?_eq_getElem (by omega)
  generalize j.p.obs[r.gl.toNat]'(by omega) = q at hlx
  obtain ⟨bb, oo, hA, hcq⟩ := hj.p.obs r.gl.toNat _ hlx
  have hoff0 : 0 ≤ r.off := by have := of_decide_eq_false g2; omega
  have hoff1 : r.off + 4 ≤ o.bytes.length := by
    have h8 := of_decide_eq_false g4
    rw [show IntKind.i64.wrap (o.size - 4) = o.size - 4 from by rw [IntKind.wrap_i64]; omega] at h8
    omega
  repeat' (first | refine gq_then ?_ | refine gc_seq ?_ | refine gc_skip ?_)
  refine gc_draw [[(b7, .cells ⟨r.cells⟩ 78 (0, 0))], [(b3, .cells ⟨o.cells⟩ 66 (0, 0))], [(b2, .cells ⟨j.cells⟩ 59 (0, 0))]] [] rfl (List.Perm.of_eq rfl) ?_
  (refine aP 0 rfl rfl ?_); (refine aL 1 0 rfl wanted_none rfl rfl rfl rfl rfl ?_); (refine aP 2 rfl rfl ?_); (refine aP 3 rfl rfl ?_)
  refine ga_case (t := 81) rfl (fun g6 => ?_) (fun g6 => ?_)
  · have g6 : decide (r.add < 0) = true := g6
    (refine aN 4 rfl rfl rfl rfl rfl ?_); (refine aN 5 rfl rfl rfl rfl rfl ?_); (refine aN 6 rfl rfl rfl rfl rfl ?_); (refine aN 7 rfl rfl rfl rfl rfl ?_); (refine aN 8 rfl rfl rfl rfl rfl ?_); (refine aN 9 rfl rfl rfl rfl rfl ?_); (refine aN 10 rfl rfl rfl rfl rfl ?_); (refine aN 11 rfl rfl rfl rfl rfl ?_); (refine aN 12 rfl rfl rfl rfl rfl ?_); (refine aN 13 rfl rfl rfl rfl rfl ?_); (refine aN 14 rfl rfl rfl rfl rfl ?_); (refine aP 15 rfl rfl ?_); (refine aP 16 rfl rfl ?_); (refine aN 17 rfl rfl rfl rfl rfl ?_); (refine aN 18 rfl rfl rfl rfl rfl ?_); (refine aN 19 rfl rfl rfl rfl rfl ?_); (refine aN 20 rfl rfl rfl rfl rfl ?_); (refine aN 21 rfl rfl rfl rfl rfl ?_); (refine aN 22 rfl rfl rfl rfl rfl ?_); (refine aN 23 rfl rfl rfl rfl rfl ?_); (refine aN 24 rfl rfl rfl rfl rfl ?_); (refine aN 25 rfl rfl rfl rfl rfl ?_); (refine aN 26 rfl rfl rfl rfl rfl ?_); (refine aN 27 rfl rfl rfl rfl rfl ?_); (refine aP 28 rfl rfl ?_)
    refine ga_nil (by kernel_rfl) ?_
    repeat' (first | refine g_pv rfl rfl ?_ | refine g_nil ?_ | refine gq_then ?_ | refine gc_seq ?_ | refine gc_region ?_ | refine gc_cond_t rfl ?_ | refine gc_ret ?_ | refine gq_then_ret ?_ | refine gq_block_ret ?_)
    refine gq_ret1 (.inr rfl) rfl rfl rfl (fun w' H => ⟨false, ?_, rfl, hp_nil H⟩)
    rw [hO, hR, relsB_no (by unfold relB; rw [g1', g2, g3', g4, g5', g6]; rfl)]
  have g6 : decide (r.add < 0) = false := g6
  (refine aY 4 rfl rfl rfl rfl rfl ?_); (refine aL 5 0 rfl (wanted_yes rfl rfl rfl) rfl rfl rfl rfl rfl ?_); (refine aY 6 rfl rfl rfl rfl rfl ?_); (refine aY 7 rfl rfl rfl rfl rfl ?_); (refine aL 8 2 rfl (wanted_yes rfl rfl rfl) rfl rfl rfl rfl rfl ?_); (refine aY 9 rfl rfl rfl rfl rfl ?_); (refine aL 10 0 rfl (wanted_yes rfl rfl rfl) rfl rfl rfl rfl rfl ?_)
  refine ga_py 11 (by repeat first | exact NoP.sp | apply NoP.then | apply NoP.block) rfl rfl rfl rfl (p_ix (bx := bb) (o := oo) (by show some (Value.slice j.p.oA _ _) = _; rw [hA]) rfl rfl rfl hb5.1 hb5.2) rfl (by kernel_rfl) (by kernel_rfl) (by kernel_rfl) ?_
  (refine aY 12 rfl rfl rfl rfl rfl ?_)
  refine ga_ldO 13 (cs := [.int .i64 q.size]) (by repeat first | exact NoP.sp | apply NoP.then | apply NoP.block) rfl (wanted_yes rfl rfl rfl) rfl rfl rfl rfl (fun k u hk => ?_) rfl (by kernel_rfl) (by kernel_rfl) (by kernel_rfl) ?_
  · have hk0 : k = 0 := by have := (List.getElem?_eq_some_iff.1 hk).1; simp at this; omega
    subst hk0
    simp only [List.getElem?_cons_zero, Option.some.injEq] at hk; subst hk
    exact (old_le0 _ w).cell (hcq 1 _ rfl)
  (refine aY 14 rfl rfl rfl rfl rfl ?_); (refine aP 15 rfl rfl ?_); (refine aP 16 rfl rfl ?_)
  refine ga_case (t := 94) rfl (fun g7 => ?_) (fun g7 => ?_)
  · have g7 : decide (r.add > q.size) = true := g7
    (refine aN 17 rfl rfl rfl rfl rfl ?_); (refine aN 18 rfl rfl rfl rfl rfl ?_); (refine aN 19 rfl rfl rfl rfl rfl ?_); (refine aN 20 rfl rfl rfl rfl rfl ?_); (refine aN 21 rfl rfl rfl rfl rfl ?_); (refine aN 22 rfl rfl rfl rfl rfl ?_); (refine aN 23 rfl rfl rfl rfl rfl ?_); (refine aN 24 rfl rfl rfl rfl rfl ?_); (refine aN 25 rfl rfl rfl rfl rfl ?_); (refine aN 26 rfl rfl rfl rfl rfl ?_); (refine aN 27 rfl rfl rfl rfl rfl ?_); (refine aP 28 rfl rfl ?_)
    refine ga_nil (by kernel_rfl) ?_
    repeat' (first | refine g_pv rfl rfl ?_ | refine g_nil ?_ | refine gq_then ?_ | refine gc_seq ?_ | refine gc_region ?_ | refine gc_cond_t rfl ?_ | refine gc_ret ?_ | refine gq_then_ret ?_ | refine gq_block_ret ?_)
    refine gq_ret1 (.inr rfl) rfl rfl rfl (fun w' H => ⟨false, ?_, rfl, hp_nil H⟩)
    rw [hO, hR, relsB_no (by unfold relB; rw [g1', g2, g3', g4, g5', g6, hlx]; dsimp only; rw [g7]; rfl)]
  have g7 : decide (r.add > q.size) = false := g7
  (refine aY 17 rfl rfl rfl rfl rfl ?_); (refine aY 18 rfl rfl rfl rfl rfl ?_); (refine aL 19 1 rfl (wanted_yes rfl rfl rfl) rfl rfl rfl rfl rfl ?_); (refine aY 20 rfl rfl rfl rfl rfl ?_); (refine aL 21 0 rfl (wanted_yes rfl rfl rfl) rfl rfl rfl rfl rfl ?_); (refine aY 22 rfl rfl rfl rfl rfl ?_); (refine aL 23 0 rfl (wanted_yes rfl rfl rfl) rfl rfl rfl rfl rfl ?_); (refine aY 24 rfl rfl rfl rfl rfl ?_)
  refine ga_eq 99 (u' := .int .i64 (r.off.toNat : Nat)) rfl (by rw [Int.toNat_of_nonneg hoff0]) ?_
  refine ga_eq 102 (u' := .int .i64 ((r.off.toNat + 4 : Nat) : Int)) rfl (by congr 1; rw [IntKind.wrap_i64]; omega) ?_
  have hbl : r.off.toNat < o.bytes.length := by omega
  obtain ⟨bc, oc, hB, hsub⟩ := Rd.sub ho.bytes hbl 4
  have hl4 : ((o.bytes.drop r.off.toNat).take 4).length = 4 := by rw [List.length_take, List.length_drop]; omega
  have hcap : r.off.toNat + 4 ≤ o.bC := by have := ho.bcap; omega
  refine ga_py 25 (by repeat first | exact NoP.sp | apply NoP.then | apply NoP.block) rfl rfl rfl rfl (p_sl (ik := .i64) (ik' := .i64) (lo := r.off.toNat) (hi := r.off.toNat + 4) (A := o.bA) (n := o.bytes.length) (c := o.bC) rfl rfl rfl rfl rfl (Nat.le_add_right _ _) hcap) rfl (by kernel_rfl) (by kernel_rfl) (by kernel_rfl) ?_
  refine ga_eq 103 (u' := .slice (some ⟨bc, oc + r.off.toNat * 1, none⟩) ((o.bytes.drop r.off.toNat).take 4).length (o.bC - r.off.toNat)) rfl (by
    rw [if_neg (by have := ho.bcap; omega), hl4, hB, Option.map_some, addr_add]
    congr 1; omega) ?_
  refine aO 26 rfl (fun K hK => ?_)
  refine g_yes rfl rfl rfl ?_
  refine g_call rfl (Cl.of Tryz.func45 rfl rfl) rfl rfl (fun w' hE => max_sp ((o.bytes.drop r.off.toNat).take 4) _ _ w' (hsub.le (fun b o h => old_le hE b o (old_le0 _ w b o h))) (by omega) (by omega)) rfl ?_
  rintro m hm
  refine g_nil ?_
  refine hK _ _ ⟨[], List.Perm.of_eq rfl⟩ ?_
  (refine aY 27 rfl rfl rfl rfl rfl ?_); (refine aP 28 rfl rfl ?_)
  refine ga_nil (by kernel_rfl) ?_
  repeat' (refine gq_then ?_)
  refine gc_condC rfl (fun g8 => ?_) (fun g8 => ?_)
  · have g8' : (maxL ((o.bytes.drop r.off.toNat).take 4) == 0) = false := by rw [← hm]; simpa using g8
    repeat' (first | refine g_pv rfl rfl ?_ | refine g_nil ?_ | refine gq_then ?_ | refine gc_seq ?_ | refine gc_region ?_ | refine gc_ret ?_ | refine gq_then_ret ?_ | refine gq_block_ret ?_)
    refine gq_ret1 (.inr rfl) rfl rfl rfl (fun w' H => ⟨false, ?_, rfl, hp_nil H⟩)
    rw [hO, hR, relsB_no (by unfold relB; rw [g1', g2, g3', g4, g5', g6, hlx]; dsimp only; rw [g7, g8']; rfl)]
  have g8' : (maxL ((o.bytes.drop r.off.toNat).take 4) == 0) = true := by rw [← hm]; simpa using g8
  repeat' (first | refine g_pv rfl rfl ?_ | refine g_ld 0 rfl rfl rfl rfl rfl rfl ?_ | refine g_nil ?_ | refine gq_then ?_ | refine gc_region ?_ | refine gc_skip ?_ | refine gq_block ?_)
  refine gq_again (k + 1, r.off + 4) ⟨hlt, by dsimp only; omega, by dsimp only; omega, ?_⟩ (by dsimp only; omega) ⟨rfl, rfl, rfl, rfl, inc_eq (by omega), ?_, trivial⟩ (fun w' H => hp_drop 0 H)
  · dsimp only
    rw [hR, relsB_yes (by unfold relB; rw [g1', g2, g3', g4, g5', g6, hlx]; dsimp only; rw [g7, g8']; rfl)]
  · show some (Value.int .i64 (IntKind.i64.wrap (r.off + 4))) = some (Value.int .i64 (r.off + 4))
    rw [IntKind.wrap_i64]; congr 2; omega
end Go.Proofs.YtpohhfggmaihpaaGreatDoor

/- tac's judge: function. -/
namespace Go.Proofs.YtpohhfggmaihpaaGreatDoor
open Go.Wk
set_option linter.unusedVariables false
set_option linter.unusedSimpArgs false
attribute [local irreducible] G GC GQ GA GS Exit.then Exit.inBlock

def slotB (s : Slt) : Bool := !decide (s.size < 1) && (!decide (s.size > 16384) && powB s.align)
def lastB (f : Fn) : Bool := match f.code[f.code.length - 1]? with
  | some x => x.op == 9 || (x.op == 10 || x.op == 14)
  | none => false
def funcB (j : Jg) : Bool := tagB j.f.nm && (!decide (j.f.pa < 0) && (!decide (j.f.pa > 8) && (!decide (j.f.pa > j.f.te) && (!decide (j.f.te > 4096) && (!decide ((j.f.slots.length : Int) > 256) && (!decide ((j.f.code.length : Int) < 1) && (!decide ((j.f.code.length : Int) > 16384) && (j.f.slots.all slotB && (lastB j.f && j.f.code.all (rightB true j))))))))))
theorem function1_sp (j : Jg) (x : Ins) (bx : Nat) (w : World) (hx : InsIn (hw w) x) (hj : JgIn (hw w) j) (hb : ∀ (i : Nat) (u : Value), j.cells[i]? = some u → cellAt (hw w) bx (0 + i) = some u) :
    Sp Tryz.prog 47 [.agg x.cells.toArray, .pointer (some ⟨bx, 0, none⟩)] w [] (fun b : Bool => .bool b) (fun _ => []) (fun b => b = !rightB true j x) := by
  refine enter (s := Tryz.sx) [] Tryz.func47 rfl rfl rfl (Eff.refl w) ?_
  repeat' (first | refine g_pv rfl rfl ?_ | refine g_nil ?_ | refine gq_then ?_ | refine gc_seq ?_ | refine gc_region ?_ | refine g_box rfl rfl (fun _ => ?_))
  refine g_ldO rfl rfl (cs := j.cells) rfl rfl (fun i u hu => (old_le0 _ w).cell (hb i u hu)) rfl ?_
  repeat' (refine g_ld 0 rfl rfl rfl rfl rfl rfl ?_)
  refine g_call rfl (Cl.of Tryz.func48 rfl rfl) rfl rfl (fun w' hE => right_sp j x w' (hx.le (fun b o h => old_le hE b o (old_le0 _ w b o h))) (hj.le (fun b o h => old_le hE b o (old_le0 _ w b o h)))) rfl ?_
  rintro b ⟨nb, hb'⟩
  have hb' : b = rightB true j x := hb'
  repeat' (first | refine g_pv rfl rfl ?_ | refine g_nil ?_ | refine gq_then ?_ | refine gc_ret ?_)
  exact gq_ret1 (.inr rfl) rfl rfl rfl (fun w' H => ⟨!b, by rw [hb'], rfl, hp_nil H⟩)
set_option maxHeartbeats 16000000 in
theorem function_sp (j : Jg) (w : World) (hj : JgIn (hw w) j) : Sp Tryz.prog 25 [j.val] w [] (fun b : Bool => .bool b) (fun _ => []) (fun b => b = funcB j) := by
  have hslen := hj.f.slen
  have hclen := hj.f.code.len
  refine enter (s := Tryz.sx) [] Tryz.func25 rfl rfl rfl (Eff.refl w) ?_
  refine gc_seq ?_
  repeat' (first | refine g_pv rfl rfl ?_ | refine g_nil ?_ | refine gq_then ?_ | refine gc_region ?_ | refine g_box rfl rfl (fun _ => ?_))
  rename_i b1
  refine gc_seq ?_
  repeat' (first | refine g_pv rfl rfl ?_ | refine g_ld 0 rfl rfl rfl rfl rfl rfl ?_ | refine g_nil ?_ | refine gq_then ?_ | refine gc_region ?_ | refine g_alloc rfl rfl (fun _ => ?_) | refine g_st 0 rfl rfl rfl rfl rfl rfl rfl ?_)
  rename_i b3
  refine gc_heap (R' := [[(b3, .cells ⟨j.f.cells⟩ 32 (0, 0))], [(b1, .cells ⟨j.cells⟩ 59 (0, 0))]]) (fun w H => H) ?_
  repeat' (first | refine g_pv rfl rfl ?_ | refine g_ld 0 rfl rfl rfl rfl rfl rfl ?_ | refine g_nil ?_ | refine gq_then ?_ | refine gc_seq ?_ | refine gc_region ?_)
  refine g_call rfl (Cl.of Tryz.func43 rfl rfl) rfl rfl (fun w' hE => tag_sp j.f.nm w') rfl ?_
  rintro t1 ht1
  repeat' (refine g_pv rfl rfl ?_)
  cases t1
  · repeat' (first | refine g_pv rfl rfl ?_ | refine g_nil ?_ | refine gq_then ?_ | refine gc_seq ?_ | refine gc_region ?_ | refine gc_cond_t rfl ?_ | refine gc_ret ?_ | refine gq_then_ret ?_ | refine g_no rfl rfl rfl rfl rfl ?_)
    refine gq_ret1 (.inr rfl) rfl rfl rfl (fun w' H => ⟨false, ?_, rfl, hp_nil H⟩)
    unfold funcB; rw [← ht1]; rfl
  repeat' (first | refine g_pv rfl rfl ?_ | refine g_ld 0 rfl rfl rfl rfl rfl rfl ?_ | refine g_yes rfl rfl rfl ?_)
  refine g_case (t := 21) rfl (fun h0 => ?_) (fun h0 => ?_)
  · have h0 : decide (j.f.pa < 0) = true := h0
    repeat' (first | refine g_pv rfl rfl ?_ | refine g_nil ?_ | refine gq_then ?_ | refine gc_seq ?_ | refine gc_region ?_ | refine gc_cond_t rfl ?_ | refine gc_ret ?_ | refine gq_then_ret ?_ | refine g_no rfl rfl rfl rfl rfl ?_)
    refine gq_ret1 (.inr rfl) rfl rfl rfl (fun w' H => ⟨false, ?_, rfl, hp_nil H⟩)
    unfold funcB; rw [← ht1, h0]; rfl
  have h0 : decide (j.f.pa < 0) = false := h0
  repeat' (first | refine g_pv rfl rfl ?_ | refine g_ld 0 rfl rfl rfl rfl rfl rfl ?_ | refine g_yes rfl rfl rfl ?_)
  refine g_case (t := 26) rfl (fun h1 => ?_) (fun h1 => ?_)
  · have h1 : decide (j.f.pa > 8) = true := h1
    repeat' (first | refine g_pv rfl rfl ?_ | refine g_nil ?_ | refine gq_then ?_ | refine gc_seq ?_ | refine gc_region ?_ | refine gc_cond_t rfl ?_ | refine gc_ret ?_ | refine gq_then_ret ?_ | refine g_no rfl rfl rfl rfl rfl ?_)
    refine gq_ret1 (.inr rfl) rfl rfl rfl (fun w' H => ⟨false, ?_, rfl, hp_nil H⟩)
    unfold funcB; rw [← ht1, h0, h1]; rfl
  have h1 : decide (j.f.pa > 8) = false := h1
  repeat' (first | refine g_pv rfl rfl ?_ | refine g_ld 0 rfl rfl rfl rfl rfl rfl ?_ | refine g_yes rfl rfl rfl ?_)
  refine g_case (t := 33) rfl (fun h2 => ?_) (fun h2 => ?_)
  · have h2 : decide (j.f.pa > j.f.te) = true := h2
    repeat' (first | refine g_pv rfl rfl ?_ | refine g_nil ?_ | refine gq_then ?_ | refine gc_seq ?_ | refine gc_region ?_ | refine gc_cond_t rfl ?_ | refine gc_ret ?_ | refine gq_then_ret ?_ | refine g_no rfl rfl rfl rfl rfl ?_)
    refine gq_ret1 (.inr rfl) rfl rfl rfl (fun w' H => ⟨false, ?_, rfl, hp_nil H⟩)
    unfold funcB; rw [← ht1, h0, h1, h2]; rfl
  have h2 : decide (j.f.pa > j.f.te) = false := h2
  repeat' (first | refine g_pv rfl rfl ?_ | refine g_ld 0 rfl rfl rfl rfl rfl rfl ?_ | refine g_yes rfl rfl rfl ?_)
  refine g_case (t := 38) rfl (fun h3 => ?_) (fun h3 => ?_)
  · have h3 : decide (j.f.te > 4096) = true := h3
    repeat' (first | refine g_pv rfl rfl ?_ | refine g_nil ?_ | refine gq_then ?_ | refine gc_seq ?_ | refine gc_region ?_ | refine gc_cond_t rfl ?_ | refine gc_ret ?_ | refine gq_then_ret ?_ | refine g_no rfl rfl rfl rfl rfl ?_)
    refine gq_ret1 (.inr rfl) rfl rfl rfl (fun w' H => ⟨false, ?_, rfl, hp_nil H⟩)
    unfold funcB; rw [← ht1, h0, h1, h2, h3]; rfl
  have h3 : decide (j.f.te > 4096) = false := h3
  repeat' (first | refine g_pv rfl rfl ?_ | refine g_ld 0 rfl rfl rfl rfl rfl rfl ?_ | refine g_yes rfl rfl rfl ?_)
  refine g_case (t := 44) rfl (fun h4 => ?_) (fun h4 => ?_)
  · have h4 : decide ((j.f.slots.length : Int) > 256) = true := h4
    repeat' (first | refine g_pv rfl rfl ?_ | refine g_nil ?_ | refine gq_then ?_ | refine gc_seq ?_ | refine gc_region ?_ | refine gc_cond_t rfl ?_ | refine gc_ret ?_ | refine gq_then_ret ?_ | refine g_no rfl rfl rfl rfl rfl ?_)
    refine gq_ret1 (.inr rfl) rfl rfl rfl (fun w' H => ⟨false, ?_, rfl, hp_nil H⟩)
    unfold funcB; rw [← ht1, h0, h1, h2, h3, h4]; rfl
  have h4 : decide ((j.f.slots.length : Int) > 256) = false := h4
  repeat' (first | refine g_pv rfl rfl ?_ | refine g_yes rfl rfl rfl ?_)
  refine g_case (t := 48) rfl (fun h5 => ?_) (fun h5 => ?_)
  · have h5 : decide ((j.f.code.length : Int) < 1) = true := h5
    repeat' (first | refine g_pv rfl rfl ?_ | refine g_nil ?_ | refine gq_then ?_ | refine gc_seq ?_ | refine gc_region ?_ | refine gc_cond_t rfl ?_ | refine gc_ret ?_ | refine gq_then_ret ?_ | refine g_no rfl rfl rfl rfl rfl ?_)
    refine gq_ret1 (.inr rfl) rfl rfl rfl (fun w' H => ⟨false, ?_, rfl, hp_nil H⟩)
    unfold funcB; rw [← ht1, h0, h1, h2, h3, h4, h5]; rfl
  have h5 : decide ((j.f.code.length : Int) < 1) = false := h5
  repeat' (first | refine g_pv rfl rfl ?_ | refine g_nil ?_ | refine gq_then ?_ | refine g_yes rfl rfl rfl ?_)
  refine gc_condC rfl (fun h6 => ?_) (fun h6 => ?_)
  · have h6 : decide ((j.f.code.length : Int) > 16384) = true := h6
    repeat' (first | refine g_pv rfl rfl ?_ | refine g_nil ?_ | refine gq_then ?_ | refine gc_seq ?_ | refine gc_region ?_ | refine gc_ret ?_ | refine gq_then_ret ?_)
    refine gq_ret1 (.inr rfl) rfl rfl rfl (fun w' H => ⟨false, ?_, rfl, hp_nil H⟩)
    unfold funcB; rw [← ht1, h0, h1, h2, h3, h4, h5, h6]; rfl
  have h6 : decide ((j.f.code.length : Int) > 16384) = false := h6
  have hF : funcB j = (j.f.slots.all slotB && (lastB j.f && j.f.code.all (rightB true j))) := by unfold funcB; rw [← ht1, h0, h1, h2, h3, h4, h5, h6]; rfl
  have hn1 := of_decide_eq_false h5
  have hn2 := of_decide_eq_false h6
  repeat' (first | refine g_pv rfl rfl ?_ | refine g_ld 0 rfl rfl rfl rfl rfl rfl ?_ | refine g_nil ?_ | refine gq_then ?_ | refine gc_seq ?_ | refine gc_region ?_ | refine gc_block ?_ | refine gc_skip ?_)
  refine gc_loop (Y := Nat) (fun y => y ≤ j.f.slots.length ∧ (j.f.slots.take y).all slotB = true)
    (fun y => [(1, .pointer (some ⟨b1, 0, none⟩)), (3, .pointer (some ⟨b3, 0, none⟩)), (4, .int .i64 j.f.code.length), (53, .slice j.f.sA j.f.slots.length j.f.sC), (54, .int .i64 j.f.slots.length), (55, .int .i64 y)])
    (fun y => [[(b3, .cells ⟨j.f.cells⟩ 32 (0, 0))], [(b1, .cells ⟨j.cells⟩ 59 (0, 0))]])
    (fun y => j.f.slots.length - y) 0 ⟨Nat.zero_le _, rfl⟩ ⟨rfl, rfl, rfl, rfl, rfl, rfl, trivial⟩ (fun w' H => H) ?_
  rintro k ⟨hk, hall⟩
  dsimp only at hk hall ⊢
  repeat' (first | refine g_pv rfl rfl ?_ | refine g_nil ?_ | refine gq_then ?_ | refine gc_seq ?_ | refine gc_region ?_)
  refine gc_condC rfl (fun hc => ?_) (fun hc => ?_)
  · have hlt : k < j.f.slots.length := by have := of_decide_eq_true hc; omega
    have hx : j.f.slots[k]? = some (j.f.slots[k]) := List.getElem?_eq_getElem hlt
    have htk : j.f.slots.take (k + 1) = j.f.slots.take k ++ [j.f.slots[k]] := List.take_succ_eq_append_getElem hlt
    have hmx : j.f.slots[k] ∈ j.f.slots := List.getElem_mem hlt
    generalize j.f.slots[k] = s at hx htk hmx
    have stop : slotB s = false → funcB j = false := fun h => by
      rw [hF]
      have : j.f.slots.all slotB = false := by
        cases hq : j.f.slots.all slotB with
        | false => rfl
        | true => rw [List.all_eq_true.1 hq s hmx] at h; cases h
      rw [this]; rfl
    repeat' (first | refine gq_then ?_ | refine gc_seq ?_ | refine gc_region ?_ | refine gc_block ?_ | refine gc_skip ?_)
    refine g_at (l := j.f.slots) (f := Slt.cells) (u := s) rfl rfl rfl rfl rfl (Int.natCast_nonneg k) (by omega) (hj.f.slots.le (old_le0 _ w)) hx rfl rfl rfl rfl (fun a => ?_)
    repeat' (first | refine g_nil ?_ | refine gq_then ?_ | refine g_alloc rfl rfl (fun _ => ?_) | refine g_st 0 rfl rfl rfl rfl rfl rfl rfl ?_)
    rename_i b6
    refine gc_heap (R' := [[(b6, .cells ⟨s.cells⟩ 90 (0, 0))], [(b3, .cells ⟨j.f.cells⟩ 32 (0, 0))], [(b1, .cells ⟨j.cells⟩ 59 (0, 0))]]) (fun w H => H) ?_
    repeat' (first | refine g_pv rfl rfl ?_ | refine g_ld 0 rfl rfl rfl rfl rfl rfl ?_ | refine gc_seq ?_ | refine gc_region ?_)
    refine g_case (t := 62) rfl (fun g1 => ?_) (fun g1 => ?_)
    · have g1 : decide (s.size < 1) = true := g1
      repeat' (first | refine g_pv rfl rfl ?_ | refine g_nil ?_ | refine gq_then ?_ | refine gc_seq ?_ | refine gc_region ?_ | refine gc_cond_t rfl ?_ | refine gc_ret ?_ | refine gq_then_ret ?_ | refine gq_block_ret ?_ | refine g_no rfl rfl rfl rfl rfl ?_)
      refine gq_ret1 (.inr rfl) rfl rfl rfl (fun w' H => ⟨false, ?_, rfl, hp_nil H⟩)
      rw [stop (by unfold slotB; rw [g1]; rfl)]
    have g1 : decide (s.size < 1) = false := g1
    repeat' (first | refine g_pv rfl rfl ?_ | refine g_ld 0 rfl rfl rfl rfl rfl rfl ?_ | refine g_yes rfl rfl rfl ?_)
    refine g_case (t := 67) rfl (fun g2 => ?_) (fun g2 => ?_)
    · have g2 : decide (s.size > 16384) = true := g2
      repeat' (first | refine g_pv rfl rfl ?_ | refine g_nil ?_ | refine gq_then ?_ | refine gc_seq ?_ | refine gc_region ?_ | refine gc_cond_t rfl ?_ | refine gc_ret ?_ | refine gq_then_ret ?_ | refine gq_block_ret ?_ | refine g_no rfl rfl rfl rfl rfl ?_)
      refine gq_ret1 (.inr rfl) rfl rfl rfl (fun w' H => ⟨false, ?_, rfl, hp_nil H⟩)
      rw [stop (by unfold slotB; rw [g1, g2]; rfl)]
    have g2 : decide (s.size > 16384) = false := g2
    repeat' (first | refine g_pv rfl rfl ?_ | refine g_ld 0 rfl rfl rfl rfl rfl rfl ?_ | refine g_yes rfl rfl rfl ?_)
    refine g_call rfl (Cl.of Tryz.func44 rfl rfl) rfl rfl (fun w' hE => power_sp s.align w') rfl ?_
    rintro t3 ht3
    have ht3 : t3 = powB s.align := ht3
    repeat' (first | refine g_pv rfl rfl ?_ | refine g_nil ?_ | refine gq_then ?_ | refine g_yes rfl rfl rfl ?_)
    cases t3
    · repeat' (first | refine g_pv rfl rfl ?_ | refine g_nil ?_ | refine gq_then ?_ | refine gc_seq ?_ | refine gc_region ?_ | refine gc_cond_t rfl ?_ | refine gc_ret ?_ | refine gq_then_ret ?_ | refine gq_block_ret ?_)
      refine gq_ret1 (.inr rfl) rfl rfl rfl (fun w' H => ⟨false, ?_, rfl, hp_nil H⟩)
      rw [stop (by unfold slotB; rw [g1, g2, ← ht3]; rfl)]
    repeat' (first | refine g_pv rfl rfl ?_ | refine g_nil ?_ | refine gq_then ?_ | refine gc_region ?_ | refine gc_cond_f rfl ?_ | refine gc_skip ?_ | refine gq_block ?_)
    refine gq_again (k + 1) ⟨hlt, ?_⟩ (by omega) ⟨rfl, rfl, rfl, rfl, rfl, inc_eq (by omega), trivial⟩ (fun w' H => hp_drop 0 H)
    have hs : slotB s = true := by unfold slotB; rw [g1, g2, ← ht3]; rfl
    rw [htk, List.all_append, hall]; simp [hs]
  · have hge : k = j.f.slots.length := by have := of_decide_eq_false hc; omega
    rw [hge, List.take_length] at hall
    have hF2 : funcB j = (lastB j.f && j.f.code.all (rightB true j)) := by rw [hF, hall]; rfl
    have hpos : j.f.code.length - 1 < j.f.code.length := by omega
    have hx : j.f.code[j.f.code.length - 1]? = some (j.f.code[j.f.code.length - 1]) := List.getElem?_eq_getElem hpos
    generalize j.f.code[j.f.code.length - 1] = x at hx
    have hlast : lastB j.f = (x.op == 9 || (x.op == 10 || x.op == 14)) := by unfold lastB; rw [hx]
    repeat' (first | refine g_pv rfl rfl ?_ | refine g_ld 0 rfl rfl rfl rfl rfl rfl ?_ | refine gq_then ?_ | refine gc_seq ?_ | refine gc_region ?_ | refine gc_exit ?_ | refine gq_then_exit ?_ | refine gq_block_exit ?_)
    refine g_eq 77 (u' := .int .i64 ((j.f.code.length - 1 : Nat) : Int)) rfl (by congr 1; rw [IntKind.wrap_i64]; omega) ?_
    refine g_atF (l := j.f.code) (f := Ins.cells) (q := x) (cs := [.int .i64 x.op]) (off := 0) rfl rfl rfl rfl rfl rfl rfl rfl (Int.natCast_nonneg _) (by omega) (hj.f.code.row.le (old_le0 _ w)) hx rfl rfl rfl rfl rfl (fun a a2 => ?_)
    repeat' (first | refine g_nil ?_ | refine gq_then ?_ | refine gc_block ?_)
    refine gc_cut (Y := Bool) (fun b => b = lastB j.f) (fun b => [(1, .pointer (some ⟨b1, 0, none⟩)), (3, .pointer (some ⟨b3, 0, none⟩)), (81, .bool b)])
      (fun b => [[(b3, .cells ⟨j.f.cells⟩ 32 (0, 0))], [(b1, .cells ⟨j.cells⟩ 59 (0, 0))]]) ?_ ?_
    · repeat' (first | refine g_pv rfl rfl ?_ | refine g_nil ?_ | refine gq_then ?_ | refine gc_seq ?_ | refine gc_region ?_)
      refine gc_condC rfl (fun c9 => ?_) (fun c9 => ?_)
      · have c9 : (x.op == 9) = true := c9
        repeat' (refine gc_skip ?_)
        exact gq_at true (by rw [hlast, c9]; rfl) ⟨rfl, rfl, rfl, trivial⟩ (fun w' H => H)
      have c9 : (x.op == 9) = false := c9
      repeat' (first | refine g_pv rfl rfl ?_ | refine g_nil ?_ | refine gq_then ?_ | refine gc_seq ?_ | refine gc_region ?_)
      refine gc_condC rfl (fun c10 => ?_) (fun c10 => ?_)
      · have c10 : (x.op == 10) = true := c10
        repeat' (refine gc_skip ?_)
        exact gq_at true (by rw [hlast, c9, c10]; rfl) ⟨rfl, rfl, rfl, trivial⟩ (fun w' H => H)
      have c10 : (x.op == 10) = false := c10
      repeat' (first | refine g_pv rfl rfl ?_ | refine g_nil ?_ | refine gc_region ?_)
      exact gq_at (x.op == 14) (by rw [hlast, c9, c10]; rfl) ⟨rfl, rfl, rfl, trivial⟩ (fun w' H => H)
    · rintro b hb
      dsimp only
      cases b
      · repeat' (first | refine g_pv rfl rfl ?_ | refine g_nil ?_ | refine gq_then ?_ | refine gc_seq ?_ | refine gc_region ?_ | refine gc_cond_f rfl ?_ | refine gc_skip ?_ | refine gc_ret ?_ | refine gq_block ?_)
        refine gq_ret1 (.inr rfl) rfl rfl rfl (fun w' H => ⟨false, ?_, rfl, hp_nil H⟩)
        rw [hF2, ← hb]; rfl
      · repeat' (first | refine g_pv rfl rfl ?_ | refine g_ld 0 rfl rfl rfl rfl rfl rfl ?_ | refine gc_seq ?_ | refine gc_region ?_ | refine gc_cond_t rfl ?_)
        refine g_call (Y := Bool) (vf := fun b => .bool b) (A' := fun _ => []) (post := fun b => (b = false ∧ ∀ a ∈ j.f.code, false = !rightB true j a) ∨ (b = true ∧ ∃ a ∈ j.f.code, true = !rightB true j a)) rfl (Cl.of Tryz.func46 rfl rfl) rfl rfl (fun w' hE => ?_) rfl ?_
        · have hle : Hle (hw w) (hw w') := fun b o h => old_le hE b o (old_le0 _ w b o h)
          exact containsIns_sp j.f.code (fun b a => b = !rightB true j a) j.f.cA j.f.cC w' 47 #[.pointer (some ⟨b1, 0, none⟩)] (by omega) (hj.f.code.row.le hle) ⟨Cl.of Tryz.func47 rfl rfl, fun w2 a ha hh => function1_sp j a b1 w2 ((hj.f.code.all a ha).le (fun b o h => hh b o (hle b o h))) (hj.le (fun b o h => hh b o (hle b o h))) (cells_of (hh _ _ (hp_in hE 1 rfl _ _ List.mem_cons_self)))⟩
        rintro b hb2
        repeat' (first | refine g_pv rfl rfl ?_ | refine g_nil ?_ | refine gq_then ?_ | refine gc_ret ?_ | refine gq_then_ret ?_ | refine gq_block_ret ?_)
        refine gq_ret1 (.inr rfl) rfl rfl rfl (fun w' H => ⟨!b, ?_, rfl, hp_nil H⟩)
        rw [hF2, ← hb]
        rcases hb2 with ⟨rfl, h8⟩ | ⟨rfl, a, ha, h8⟩
        · have : j.f.code.all (rightB true j) = true := List.all_eq_true.2 (fun a ha => by have := h8 a ha; simpa using this)
          rw [this]; rfl
        · have : j.f.code.all (rightB true j) = false := by
            cases hq : j.f.code.all (rightB true j) with
            | false => rfl
            | true => rw [List.all_eq_true.1 hq a ha] at h8; cases h8
          rw [this]; rfl
end Go.Proofs.YtpohhfggmaihpaaGreatDoor

/- tac: Check. -/
namespace Go.Proofs.YtpohhfggmaihpaaGreatDoor
open Go.Wk
set_option linter.unusedVariables false
set_option linter.unusedSimpArgs false
attribute [local irreducible] G GC GQ GA GS Exit.then Exit.inBlock

def fn0 : Fn := ⟨⟨#[]⟩, 0, 0, false, [], none, 0, [], none, 0⟩
theorem fn0_in (h : Nat → Option Obj) : FnIn h fn0 := ⟨⟨(fun i x hx => by simp [fn0] at hx), by decide, (fun x hx => by cases hx)⟩, (fun i x hx => by simp [fn0] at hx), by decide, (by unfold in64 fn0; decide), (by unfold in64 fn0; decide), (fun s hs => by cases hs)⟩
def memT (x : ByteArray) (l : List ByteArray) : Bool := l.any fun y => decide (y = x)
theorem memT_iff {x : ByteArray} {l : List ByteArray} : memT x l = true ↔ x ∈ l := by simp [memT, List.any_eq_true]
theorem memT_no {x : ByteArray} {l : List ByteArray} (h : x ∉ l) : memT x l = false := by
  cases hq : memT x l with
  | false => rfl
  | true => exact absurd (memT_iff.1 hq) h
/-- Each function's name is new, and it may be. -/
def fnsB (p : Pr) : List ByteArray → List Fn → Bool
  | _, [] => true
  | seen, f :: t => !memT f.nm seen && (funcB ⟨p, f⟩ && fnsB p (seen ++ [f.nm]) t)
def mainB (p : Pr) : Bool := match p.fns[p.main.toNat]? with
  | some g => g.pa == 0
  | none => false
def checkB (p : Pr) : Bool := !decide ((p.obs.length : Int) > 256) && (!decide ((p.fns.length : Int) < 1) && (!decide ((p.fns.length : Int) > 64) && (inB p.main p.fns.length && (mainB p && (p.obs.all (objB ⟨p, fn0⟩) && fnsB p [] p.fns)))))
def errB (b : Bool) : Int := if b then 0 else 130
theorem fnsB_cons {p : Pr} {seen : List ByteArray} {f : Fn} {t : List Fn} : fnsB p seen (f :: t) = (!memT f.nm seen && (funcB ⟨p, f⟩ && fnsB p (seen ++ [f.nm]) t)) := rfl
/-- The map of the names that were seen. -/
structure SeenIs (kv : List (ByteArray × Value)) (l : List ByteArray) : Prop where
  one : ∀ k v, ml kv k = some v → v = .int .i64 1
  keys : ∀ k, k ∈ kv.map (·.1) ↔ k ∈ l
set_option maxHeartbeats 16000000 in
theorem check_sp (p : Pr) (w : World) (hp : PrIn (hw w) p) : Sp Tryz.prog 8 [p.val] w [] (fun e : Int => .int .i64 e) (fun _ => []) (fun e => e = errB (checkB p)) := by
  have holen := hp.olen
  have hflen := hp.flen
  have hj0 : JgIn (hw w) ⟨p, fn0⟩ := ⟨hp, fn0_in _⟩
  refine enter (s := Tryz.sx) [] Tryz.func8 rfl rfl rfl (Eff.refl w) ?_
  refine gc_seq ?_
  repeat' (first | refine g_pv rfl rfl ?_ | refine g_nil ?_ | refine gq_then ?_ | refine gc_region ?_ | refine g_box rfl rfl (fun _ => ?_))
  rename_i b1
  refine gc_seq ?_
  repeat' (first | refine g_ld 0 rfl rfl rfl rfl rfl rfl ?_ | refine gc_region ?_)
  refine g_p (p_build rfl rfl rfl rfl) rfl ?_
  repeat' (first | refine g_nil ?_ | refine gq_then ?_ | refine g_alloc rfl rfl (fun _ => ?_) | refine g_st 0 rfl rfl rfl rfl rfl rfl rfl ?_)
  rename_i b3
  refine gc_heap (R' := [[(b3, .cells ⟨(⟨p, fn0⟩ : Jg).cells⟩ 59 (0, 0))], [(b1, .cells ⟨p.cells⟩ 25 (0, 0))]]) (fun w H => H) ?_
  repeat' (first | refine g_pv rfl rfl ?_ | refine g_ld 1 rfl rfl rfl rfl rfl rfl ?_ | refine gc_seq ?_ | refine gc_region ?_)
  refine g_case (t := 15) rfl (fun h0 => ?_) (fun h0 => ?_)
  · have h0 : decide ((p.obs.length : Int) > 256) = true := h0
    repeat' (first | refine g_pv rfl rfl ?_ | refine g_nil ?_ | refine gq_then ?_ | refine gc_seq ?_ | refine gc_region ?_ | refine gc_cond_t rfl ?_ | refine gc_ret ?_ | refine gq_then_ret ?_ | refine g_no rfl rfl rfl rfl rfl ?_)
    refine gq_ret1 (.inr rfl) rfl rfl rfl (fun w' H => ⟨130, ?_, rfl, hp_nil H⟩)
    unfold checkB; rw [h0]; rfl
  have h0 : decide ((p.obs.length : Int) > 256) = false := h0
  repeat' (first | refine g_pv rfl rfl ?_ | refine g_ld 1 rfl rfl rfl rfl rfl rfl ?_ | refine g_yes rfl rfl rfl ?_)
  refine g_case (t := 21) rfl (fun h1 => ?_) (fun h1 => ?_)
  · have h1 : decide ((p.fns.length : Int) < 1) = true := h1
    repeat' (first | refine g_pv rfl rfl ?_ | refine g_nil ?_ | refine gq_then ?_ | refine gc_seq ?_ | refine gc_region ?_ | refine gc_cond_t rfl ?_ | refine gc_ret ?_ | refine gq_then_ret ?_ | refine g_no rfl rfl rfl rfl rfl ?_)
    refine gq_ret1 (.inr rfl) rfl rfl rfl (fun w' H => ⟨130, ?_, rfl, hp_nil H⟩)
    unfold checkB; rw [h0, h1]; rfl
  have h1 : decide ((p.fns.length : Int) < 1) = false := h1
  repeat' (first | refine g_pv rfl rfl ?_ | refine g_ld 1 rfl rfl rfl rfl rfl rfl ?_ | refine g_yes rfl rfl rfl ?_)
  refine g_case (t := 27) rfl (fun h2 => ?_) (fun h2 => ?_)
  · have h2 : decide ((p.fns.length : Int) > 64) = true := h2
    repeat' (first | refine g_pv rfl rfl ?_ | refine g_nil ?_ | refine gq_then ?_ | refine gc_seq ?_ | refine gc_region ?_ | refine gc_cond_t rfl ?_ | refine gc_ret ?_ | refine gq_then_ret ?_ | refine g_no rfl rfl rfl rfl rfl ?_)
    refine gq_ret1 (.inr rfl) rfl rfl rfl (fun w' H => ⟨130, ?_, rfl, hp_nil H⟩)
    unfold checkB; rw [h0, h1, h2]; rfl
  have h2 : decide ((p.fns.length : Int) > 64) = false := h2
  repeat' (first | refine g_pv rfl rfl ?_ | refine g_ld 1 rfl rfl rfl rfl rfl rfl ?_ | refine g_yes rfl rfl rfl ?_)
  refine g_call rfl (Cl.of Tryz.func23 rfl rfl) rfl rfl (fun w' hE => within_sp p.main p.fns.length w') rfl (fun _ _ => ?_)
  repeat' (first | refine g_pv rfl rfl ?_ | refine g_yes rfl rfl rfl ?_)
  refine g_case (t := 36) rfl (fun h3 => ?_) (fun h3 => ?_)
  · have h3 : inB p.main p.fns.length = false := (Bool.not_eq_true' _).mp h3
    repeat' (first | refine g_pv rfl rfl ?_ | refine g_nil ?_ | refine gq_then ?_ | refine gc_seq ?_ | refine gc_region ?_ | refine gc_cond_t rfl ?_ | refine gc_ret ?_ | refine gq_then_ret ?_ | refine g_no rfl rfl rfl rfl rfl ?_)
    refine gq_ret1 (.inr rfl) rfl rfl rfl (fun w' H => ⟨130, ?_, rfl, hp_nil H⟩)
    unfold checkB; rw [h0, h1, h2, h3]; rfl
  have h3 : inB p.main p.fns.length = true := (Bool.not_eq_false' _).mp h3
  have hb3 := inB_iff.1 h3
  have hlx : p.fns[p.main.toNat]? = some (p.fns[p.main.toNat]'(by omega)) := List.getElem?_eq_getElem (by omega)
  generalize p.fns[p.main.toNat]'(by omega) = g at hlx
  obtain ⟨bb, oo, hA, hcq⟩ := hp.fns p.main.toNat _ hlx
  have hm : mainB p = (g.pa == 0) := by unfold mainB; rw [hlx]
  repeat' (first | refine g_pv rfl rfl ?_ | refine g_ld 1 rfl rfl rfl rfl rfl rfl ?_ | refine g_yes rfl rfl rfl ?_)
  refine g_p (p_ix (bx := bb) (o := oo) (by show some (Value.slice p.fA _ _) = _; rw [hA]) rfl rfl rfl hb3.1 hb3.2) rfl ?_
  repeat' (first | refine g_pv rfl rfl ?_ | refine g_yes rfl rfl rfl ?_)
  refine g_ldO rfl rfl (cs := [.int .i64 g.pa]) rfl rfl (fun i u hu => ?_) rfl ?_
  · have hi0 : i = 0 := by have := (List.getElem?_eq_some_iff.1 hu).1; simp at this; omega
    subst hi0
    simp only [List.getElem?_cons_zero, Option.some.injEq] at hu; subst hu
    exact (old_le0 _ w).cell (hcq 1 _ rfl)
  repeat' (first | refine g_pv rfl rfl ?_ | refine g_nil ?_ | refine gq_then ?_ | refine g_yes rfl rfl rfl ?_)
  refine gc_condC rfl (fun h4 => ?_) (fun h4 => ?_)
  · have h4' : (g.pa == 0) = false := by simpa using h4
    repeat' (first | refine g_pv rfl rfl ?_ | refine g_nil ?_ | refine gq_then ?_ | refine gc_seq ?_ | refine gc_region ?_ | refine gc_ret ?_ | refine gq_then_ret ?_)
    refine gq_ret1 (.inr rfl) rfl rfl rfl (fun w' H => ⟨130, ?_, rfl, hp_nil H⟩)
    unfold checkB; rw [h0, h1, h2, h3, hm, h4']; rfl
  have h4' : (g.pa == 0) = true := by simpa using h4
  have hC : checkB p = (p.obs.all (objB ⟨p, fn0⟩) && fnsB p [] p.fns) := by unfold checkB; rw [h0, h1, h2, h3, hm, h4']; rfl
  have hl1 := of_decide_eq_false h0
  have hl2 := of_decide_eq_false h2
  repeat' (first | refine g_pv rfl rfl ?_ | refine g_ld 1 rfl rfl rfl rfl rfl rfl ?_ | refine g_nil ?_ | refine gq_then ?_ | refine gc_seq ?_ | refine gc_region ?_ | refine gc_block ?_ | refine gc_skip ?_)
  refine gc_loop (Y := Nat) (fun y => y ≤ p.obs.length ∧ (p.obs.take y).all (objB ⟨p, fn0⟩) = true)
    (fun y => [(1, .pointer (some ⟨b1, 0, none⟩)), (3, .pointer (some ⟨b3, 0, none⟩)), (47, .slice p.oA p.obs.length p.oC), (48, .int .i64 p.obs.length), (49, .int .i64 y)])
    (fun y => [[(b3, .cells ⟨(⟨p, fn0⟩ : Jg).cells⟩ 59 (0, 0))], [(b1, .cells ⟨p.cells⟩ 25 (0, 0))]])
    (fun y => p.obs.length - y) 0 ⟨Nat.zero_le _, rfl⟩ ⟨rfl, rfl, rfl, rfl, rfl, trivial⟩ (fun w' H => H) ?_
  rintro k ⟨hk, hall⟩
  dsimp only at hk hall ⊢
  repeat' (first | refine g_pv rfl rfl ?_ | refine g_nil ?_ | refine gq_then ?_ | refine gc_seq ?_ | refine gc_region ?_)
  refine gc_condC rfl (fun hc => ?_) (fun hc => ?_)
  · have hlt : k < p.obs.length := by have := of_decide_eq_true hc; omega
    have hx : p.obs[k]? = some (p.obs[k]) := List.getElem?_eq_getElem hlt
    have htk : p.obs.take (k + 1) = p.obs.take k ++ [p.obs[k]] := List.take_succ_eq_append_getElem hlt
    have hmx : p.obs[k] ∈ p.obs := List.getElem_mem hlt
    generalize p.obs[k] = o at hx htk hmx
    repeat' (first | refine gq_then ?_ | refine gc_seq ?_ | refine gc_region ?_ | refine gc_block ?_ | refine gc_skip ?_)
    refine g_at (l := p.obs) (f := Ob.cells) (u := o) rfl rfl rfl rfl rfl (Int.natCast_nonneg k) (by omega) (hp.obs.le (old_le0 _ w)) hx rfl rfl rfl rfl (fun a => ?_)
    repeat' (first | refine g_nil ?_ | refine gq_then ?_ | refine g_alloc rfl rfl (fun _ => ?_) | refine g_st 0 rfl rfl rfl rfl rfl rfl rfl ?_)
    rename_i b5
    refine gc_heap (R' := [[(b5, .cells ⟨o.cells⟩ 66 (0, 0))], [(b3, .cells ⟨(⟨p, fn0⟩ : Jg).cells⟩ 59 (0, 0))], [(b1, .cells ⟨p.cells⟩ 25 (0, 0))]]) (fun w H => H) ?_
    repeat' (first | refine g_ld 0 rfl rfl rfl rfl rfl rfl ?_ | refine g_ld 1 rfl rfl rfl rfl rfl rfl ?_ | refine gc_seq ?_ | refine gc_region ?_)
    refine g_call rfl (Cl.of Tryz.func24 rfl rfl) rfl rfl (fun w' hE => object_sp ⟨p, fn0⟩ o w' (hj0.le (fun b o h => old_le hE b o (old_le0 _ w b o h))) ((hp.ob o hmx).le (fun b o h => old_le hE b o (old_le0 _ w b o h)))) rfl ?_
    rintro t ht
    repeat' (first | refine g_pv rfl rfl ?_ | refine g_nil ?_ | refine gq_then ?_)
    cases t
    · repeat' (first | refine g_pv rfl rfl ?_ | refine g_nil ?_ | refine gq_then ?_ | refine gc_seq ?_ | refine gc_region ?_ | refine gc_cond_t rfl ?_ | refine gc_ret ?_ | refine gq_then_ret ?_ | refine gq_block_ret ?_)
      refine gq_ret1 (.inr rfl) rfl rfl rfl (fun w' H => ⟨130, ?_, rfl, hp_nil H⟩)
      have : p.obs.all (objB ⟨p, fn0⟩) = false := by
        cases hq : p.obs.all (objB ⟨p, fn0⟩) with
        | false => rfl
        | true => rw [List.all_eq_true.1 hq o hmx] at ht; cases ht
      rw [hC, this]; rfl
    · repeat' (first | refine g_pv rfl rfl ?_ | refine g_nil ?_ | refine gq_then ?_ | refine gc_region ?_ | refine gc_cond_f rfl ?_ | refine gc_skip ?_ | refine gq_block ?_)
      refine gq_again (k + 1) ⟨hlt, ?_⟩ (by omega) ⟨rfl, rfl, rfl, rfl, inc_eq (by omega), trivial⟩ (fun w' H => hp_drop 0 H)
      rw [htk, List.all_append, hall]; simp [← ht]
  have hge : k = p.obs.length := by have := of_decide_eq_false hc; omega
  rw [hge, List.take_length] at hall
  have hC2 : checkB p = fnsB p [] p.fns := by rw [hC, hall]; rfl
  repeat' (first | refine gq_then ?_ | refine gc_seq ?_ | refine gc_region ?_ | refine gc_exit ?_ | refine gq_then_exit ?_ | refine gq_block_exit ?_)
  refine g_mkmap rfl (fun br => ?_)
  repeat' (first | refine g_pv rfl rfl ?_ | refine g_ld 2 rfl rfl rfl rfl rfl rfl ?_ | refine g_nil ?_ | refine gq_then ?_ | refine gc_seq ?_ | refine gc_region ?_ | refine gc_block ?_)
  refine gc_loop (Y := Nat × Fn × Array MapEntry × Nat × List (ByteArray × Value)) (fun y => y.1 ≤ p.fns.length ∧ MapIs Value.string y.2.2.2.2 y.2.2.1 y.2.2.2.1 ∧ SeenIs y.2.2.2.2 ((p.fns.take y.1).map Fn.nm) ∧ fnsB p [] p.fns = fnsB p ((p.fns.take y.1).map Fn.nm) (p.fns.drop y.1))
    (fun y => [(1, .pointer (some ⟨b1, 0, none⟩)), (3, .pointer (some ⟨b3, 0, none⟩)), (6, .map (some br)), (60, .slice p.fA p.fns.length p.fC), (61, .int .i64 p.fns.length), (62, .int .i64 y.1)])
    (fun y => [[(br, .map y.2.2.1 y.2.2.2.1)], [(b3, .cells ⟨(⟨p, y.2.1⟩ : Jg).cells⟩ 59 (0, 0))], [(b1, .cells ⟨p.cells⟩ 25 (0, 0))]])
    (fun y => p.fns.length - y.1) (0, fn0, #[], 0, []) ⟨Nat.zero_le _, mapIs_nil _ _, ⟨(fun k v h => by simp [ml] at h), (fun k => by simp)⟩, rfl⟩ ⟨rfl, rfl, rfl, rfl, rfl, rfl, trivial⟩ (fun w' H => H) ?_
  rintro ⟨k, gg, es, clock, kv⟩ ⟨hk, hM, hS, hR⟩
  dsimp only at hk hM hS hR ⊢
  repeat' (first | refine g_pv rfl rfl ?_ | refine g_nil ?_ | refine gq_then ?_ | refine gc_seq ?_ | refine gc_region ?_)
  refine gc_condC rfl (fun hc => ?_) (fun hc => ?_)
  rotate_left
  · have hge : k = p.fns.length := by have := of_decide_eq_false hc; omega
    repeat' (first | refine g_pv rfl rfl ?_ | refine g_nil ?_ | refine gq_then ?_ | refine gc_seq ?_ | refine gc_region ?_ | refine gc_exit ?_ | refine gc_ret ?_ | refine gq_then_exit ?_ | refine gq_block_exit ?_)
    refine gq_ret1 (.inr rfl) rfl rfl rfl (fun w' H => ⟨0, ?_, rfl, hp_nil H⟩)
    rw [hC2, hR, hge, List.drop_length]; rfl
  have hlt : k < p.fns.length := by have := of_decide_eq_true hc; omega
  have hx : p.fns[k]? = some (p.fns[k]) := List.getElem?_eq_getElem hlt
  have htk : p.fns.take (k + 1) = p.fns.take k ++ [p.fns[k]] := List.take_succ_eq_append_getElem hlt
  have hd : p.fns.drop k = p.fns[k] :: p.fns.drop (k + 1) := List.drop_eq_getElem_cons hlt
  have hmx : p.fns[k] ∈ p.fns := List.getElem_mem hlt
  generalize p.fns[k] = f at hx htk hd hmx
  have hjf : JgIn (hw w) ⟨p, f⟩ := ⟨hp, hp.fn f hmx⟩
  rw [hd, fnsB_cons] at hR
  repeat' (first | refine gq_then ?_ | refine gc_seq ?_ | refine gc_region ?_ | refine gc_block ?_ | refine gc_skip ?_)
  refine g_at (l := p.fns) (f := Fn.cells) (u := f) rfl rfl rfl rfl rfl (Int.natCast_nonneg k) (by omega) (hp.fns.le (old_le0 _ w)) hx rfl rfl rfl rfl (fun a => ?_)
  repeat' (first | refine g_nil ?_ | refine gq_then ?_ | refine g_alloc rfl rfl (fun _ => ?_) | refine g_st 0 rfl rfl rfl rfl rfl rfl rfl ?_)
  rename_i b8
  refine gc_heap (R' := [[(b8, .cells ⟨f.cells⟩ 32 (0, 0))], [(br, .map es clock)], [(b3, .cells ⟨(⟨p, gg⟩ : Jg).cells⟩ 59 (0, 0))], [(b1, .cells ⟨p.cells⟩ 25 (0, 0))]]) (fun w H => H) ?_
  refine gc_seq ?_
  repeat' (first | refine g_pv rfl rfl ?_ | refine g_ld 0 rfl rfl rfl rfl rfl rfl ?_ | refine g_nil ?_ | refine gq_then ?_ | refine gc_region ?_ | refine g_st 2 rfl rfl rfl rfl rfl rfl rfl ?_)
  refine gc_heap (R' := [[(b8, .cells ⟨f.cells⟩ 32 (0, 0))], [(br, .map es clock)], [(b3, .cells ⟨(⟨p, f⟩ : Jg).cells⟩ 59 (0, 0))], [(b1, .cells ⟨p.cells⟩ 25 (0, 0))]]) (fun w H => H) ?_
  repeat' (first | refine g_pv rfl rfl ?_ | refine g_ld 0 rfl rfl rfl rfl rfl rfl ?_ | refine gc_seq ?_ | refine gc_region ?_)
  refine g_look 1 (kf := Value.string) (k := f.nm) rfl rfl rfl rfl rfl (kl_string (Tryz.sx.ok.at rfl)) hM rfl ?_
  by_cases hmem : f.nm ∈ (p.fns.take k).map Fn.nm
  · have hex : ∃ v, ml kv f.nm = some v := by
      cases hq : ml kv f.nm with
      | some v => exact ⟨v, rfl⟩
      | none => exact absurd ((hS.keys _).2 hmem) (ml_none.1 hq)
    obtain ⟨v, hv⟩ := hex
    have hv1 := hS.one _ _ hv
    subst hv1
    refine g_eq 71 (u' := .int .i64 1) rfl (by rw [hv]; rfl) ?_
    repeat' (refine g_pv rfl rfl ?_)
    refine g_upd 1 (kf := Value.string) (k := f.nm) rfl rfl rfl rfl rfl (kl_string (Tryz.sx.ok.at rfl)) hM (fun es' clock' M' => ?_)
    repeat' (first | refine g_pv rfl rfl ?_ | refine g_ld 0 rfl rfl rfl rfl rfl rfl ?_ | refine g_nil ?_ | refine gq_then ?_ | refine gc_seq ?_ | refine gc_region ?_)
    refine g_look 1 (kf := Value.string) (k := f.nm) rfl rfl rfl rfl rfl (kl_string (Tryz.sx.ok.at rfl)) M' rfl ?_
    refine g_eq 76 (u' := .int .i64 2) rfl (by rw [ml_mput, if_pos rfl]; rfl) ?_
    repeat' (first | refine g_pv rfl rfl ?_ | refine g_nil ?_ | refine gq_then ?_ | refine gc_seq ?_ | refine gc_region ?_ | refine gc_cond_t rfl ?_ | refine gc_ret ?_ | refine gq_then_ret ?_ | refine gq_block_ret ?_ | refine g_no rfl rfl rfl rfl rfl ?_)
    refine gq_ret1 (.inr rfl) rfl rfl rfl (fun w' H => ⟨130, ?_, rfl, hp_nil H⟩)
    rw [hC2, hR, memT_iff.2 hmem]; rfl
  · have hv : ml kv f.nm = none := ml_none.2 (fun h => hmem ((hS.keys _).1 h))
    refine g_eq 71 (u' := .int .i64 0) rfl (by rw [hv]; rfl) ?_
    repeat' (refine g_pv rfl rfl ?_)
    refine g_upd 1 (kf := Value.string) (k := f.nm) rfl rfl rfl rfl rfl (kl_string (Tryz.sx.ok.at rfl)) hM (fun es' clock' M' => ?_)
    repeat' (first | refine g_pv rfl rfl ?_ | refine g_ld 0 rfl rfl rfl rfl rfl rfl ?_ | refine g_nil ?_ | refine gq_then ?_ | refine gc_seq ?_ | refine gc_region ?_)
    refine g_look 1 (kf := Value.string) (k := f.nm) rfl rfl rfl rfl rfl (kl_string (Tryz.sx.ok.at rfl)) M' rfl ?_
    refine g_eq 76 (u' := .int .i64 1) rfl (by rw [ml_mput, if_pos rfl]; rfl) ?_
    repeat' (first | refine g_pv rfl rfl ?_ | refine g_ld 2 rfl rfl rfl rfl rfl rfl ?_ | refine g_yes rfl rfl rfl ?_)
    refine g_call rfl (Cl.of Tryz.func25 rfl rfl) rfl rfl (fun w' hE => function_sp ⟨p, f⟩ w' (hjf.le (fun b o h => old_le hE b o (old_le0 _ w b o h)))) rfl ?_
    rintro t ht
    repeat' (first | refine g_pv rfl rfl ?_ | refine g_nil ?_ | refine gq_then ?_ | refine g_yes rfl rfl rfl ?_)
    cases t
    · repeat' (first | refine g_pv rfl rfl ?_ | refine g_nil ?_ | refine gq_then ?_ | refine gc_seq ?_ | refine gc_region ?_ | refine gc_cond_t rfl ?_ | refine gc_ret ?_ | refine gq_then_ret ?_ | refine gq_block_ret ?_)
      refine gq_ret1 (.inr rfl) rfl rfl rfl (fun w' H => ⟨130, ?_, rfl, hp_nil H⟩)
      rw [hC2, hR, ← ht]; simp [errB]
    · repeat' (first | refine g_pv rfl rfl ?_ | refine g_nil ?_ | refine gq_then ?_ | refine gc_region ?_ | refine gc_cond_f rfl ?_ | refine gc_skip ?_ | refine gq_block ?_)
      refine gq_again (k + 1, f, es', clock', _) ⟨hlt, M', ?_, ?_⟩ (by dsimp only; omega) ⟨rfl, rfl, rfl, rfl, rfl, inc_eq (by omega), trivial⟩ (fun w' H => hp_drop 0 H)
      · dsimp only
        refine ⟨fun q v h => ?_, fun q => ?_⟩
        · rw [ml_mput] at h
          split at h
          · cases h; rfl
          · exact hS.one q v h
        · rw [mem_keys_mput, htk, List.map_append, List.mem_append, hS.keys q]
          simp [or_comm]
      · dsimp only
        rw [hR, ← ht, memT_no hmem, htk, List.map_append]; rfl
end Go.Proofs.YtpohhfggmaihpaaGreatDoor

/- How a program is written: the words of each line, the document's lines; they are the same text, and how long it may be. -/
namespace Go.Proofs.YtpohhfggmaihpaaGreatDoor
open Go.Wk
set_option linter.unusedVariables false
set_option linter.unusedSimpArgs false
attribute [local irreducible] G GC GQ GA GS Exit.then Exit.inBlock

abbrev Bs := List UInt8
def k_mov : Bs := [109, 111, 118]
def k_addr : Bs := [97, 100, 100, 114]
def k_glob : Bs := [103, 108, 111, 98]
def k_load : Bs := [108, 111, 97, 100]
def k_signed : Bs := [115, 105, 103, 110, 101, 100]
def k_store : Bs := [115, 116, 111, 114, 101]
def k_copy : Bs := [99, 111, 112, 121]
def k_call : Bs := [99, 97, 108, 108]
def k_ret : Bs := [114, 101, 116]
def k_jump : Bs := [106, 117, 109, 112]
def k_branch : Bs := [98, 114, 97, 110, 99, 104]
def k_put : Bs := [112, 117, 116]
def k_get : Bs := [103, 101, 116]
def k_exit : Bs := [101, 120, 105, 116]
def k_object : Bs := [111, 98, 106, 101, 99, 116]
def k_data : Bs := [100, 97, 116, 97]
def k_reloc : Bs := [114, 101, 108, 111, 99]
def k_func : Bs := [102, 117, 110, 99]
def k_gives : Bs := [103, 105, 118, 101, 115]
def k_slot : Bs := [115, 108, 111, 116]
def k_main : Bs := [109, 97, 105, 110]
def argT (a : Arg) : Bs := (if a.k = 1 then 116 else 35) :: Lib.itoa a.n
def tmpT (n : Int) : Bs := 116 :: Lib.itoa n
/-- An instruction's words. -/
def insW (x : Ins) : List Bs :=
  if x.op = 1 then [k_mov, tmpT x.d, argT x.a] else
  if x.op = 2 then [bytesL (nameL x.bin), tmpT x.d, argT x.a, argT x.b] else
  if x.op = 3 then [k_addr, tmpT x.d, Lib.itoa x.n, Lib.itoa x.off] else
  if x.op = 4 then [k_glob, tmpT x.d, Lib.itoa x.n, Lib.itoa x.off] else
  if x.op = 5 then [k_load, tmpT x.d, argT x.a, Lib.itoa x.off, Lib.itoa x.width] ++ (if x.signed then [k_signed] else []) else
  if x.op = 6 then [k_store, argT x.a, Lib.itoa x.off, argT x.b, Lib.itoa x.width] else
  if x.op = 7 then [k_copy, argT x.a, argT x.b, Lib.itoa x.off, Lib.itoa x.width] else
  if x.op = 8 then [k_call, (if x.d < 0 then [45] else tmpT x.d), Lib.itoa x.n] ++ x.args.map argT else
  if x.op = 9 then (if x.a.k = 0 then [k_ret] else [k_ret, argT x.a]) else
  if x.op = 10 then [k_jump, Lib.itoa x.n] else
  if x.op = 11 then [k_branch, argT x.a, Lib.itoa x.n] else
  if x.op = 12 then [k_put, argT x.a] else
  if x.op = 13 then [k_get, tmpT x.d] else [k_exit, argT x.a]
def argK (a : Arg) : Prop := a.k = 1 ∨ a.k = 2
/-- What writing an instruction wants of it. -/
structure PI (x : Ins) : Prop where
  op : 1 ≤ x.op ∧ x.op ≤ 14
  off : in64 x.off
  width : in64 x.width
  d : x.op = 1 ∨ x.op = 2 ∨ x.op = 3 ∨ x.op = 4 ∨ x.op = 5 ∨ x.op = 13 → 0 ≤ x.d
  a : x.op = 1 ∨ x.op = 2 ∨ x.op = 5 ∨ x.op = 6 ∨ x.op = 7 ∨ x.op = 11 ∨ x.op = 12 ∨ x.op = 14 → argK x.a
  a9 : x.op = 9 → argK x.a ∨ (x.a.k = 0 ∧ x.a.n = 0)
  b : x.op = 2 ∨ x.op = 6 ∨ x.op = 7 → argK x.b
  args : x.op = 8 → (∀ a ∈ x.args, argK a) ∧ x.args.length ≤ 8
theorem argB_k {te : Int} {a : Arg} (h : argB te a = true) : argK a := by
  unfold argB at h; unfold argK
  simp only [Bool.or_eq_true, Bool.and_eq_true, beq_iff_eq] at h
  rcases h with h | h
  · exact .inr h
  · exact .inl h.1
theorem join_line (x : Bs) (r : List Bs) : Lib.join (x :: r) [32] = x ++ (r.map (32 :: ·)).flatten := by rw [Lib.join_cons]; rfl
theorem in64_of {a b c : Int} (h : inB a c = true) (hb : in64 c) : in64 a := by
  have := inB_iff.1 h; unfold in64 at *; omega
theorem wrapW_in (n : Int) : in64 (IntKind.i64.wrap n) := by rw [IntKind.wrap_i64]; unfold in64; omega
theorem powB_in {n : Int} (h : powB n = true) : in64 n := by
  unfold powB at h; unfold in64
  simp at h; omega
theorem right_PI {nb : Bool} {j : Jg} {x : Ins} (h : rightB nb j x = true) (hp : ∀ g ∈ j.p.fns, g.pa ≤ 8) : PI x := by
  unfold rightB at h
  simp only [Bool.and_eq_true, beq_iff_eq] at h
  obtain ⟨h1, h2, h3⟩ := h
  have hs : x.off = (shapeI x).off ∧ x.width = (shapeI x).width := by
    unfold alikeB at h3
    simp only [Bool.and_eq_true, beq_iff_eq] at h3
    exact ⟨h3.2.2.2.2.2.2.1, h3.2.2.2.2.2.2.2.1⟩
  have z : in64 (0 : Int) := by unfold in64; omega
  by_cases e1 : x.op = 1
  · rw [shape1 e1] at hs; dsimp only at hs; simp [okI, e1] at h1
    exact ⟨by omega, hs.1 ▸ z, hs.2 ▸ z, fun _ => (inB_iff.1 h1.1).1, fun _ => argB_k h1.2, fun h => by omega, fun h => by omega, fun h => by omega⟩
  by_cases e2 : x.op = 2
  · rw [shape2 e2] at hs; dsimp only at hs; simp [okI, e2] at h1
    exact ⟨by omega, hs.1 ▸ z, hs.2 ▸ z, fun _ => (inB_iff.1 h1.1).1, fun _ => argB_k h1.2.1, fun h => by omega, fun h => argB_k h1.2.2.1, fun h => by omega⟩
  by_cases e3 : x.op = 3
  · rw [shape3 e3] at hs; dsimp only at hs; simp [okI, e3] at h1
    refine ⟨by omega, ?_, hs.2 ▸ z, fun _ => (inB_iff.1 h1.1).1, fun h => by omega, fun h => by omega, fun h => by omega, fun h => by omega⟩
    have h4 := h1.2.2
    split at h4
    · exact in64_of (b := 0) h4 (wrapW_in _)
    · cases h4
  by_cases e4 : x.op = 4
  · rw [shape4 e4] at hs; dsimp only at hs; simp [okI, e4] at h1
    refine ⟨by omega, ?_, hs.2 ▸ z, fun _ => (inB_iff.1 h1.1).1, fun h => by omega, fun h => by omega, fun h => by omega, fun h => by omega⟩
    have h4 := h1.2.2
    split at h4
    · exact in64_of (b := 0) h4 (wrapW_in _)
    · cases h4
  by_cases e5 : x.op = 5
  · rw [shape5 e5] at hs; dsimp only at hs; simp [okI, e5] at h1
    have h4 := h1.2.2.1
    unfold offB at h4
    simp only [Bool.and_eq_true, decide_eq_true_eq] at h4
    exact ⟨by omega, by unfold in64; omega, powB_in h4.1, fun _ => (inB_iff.1 h1.1).1, fun _ => argB_k h1.2.1, fun h => by omega, fun h => by omega, fun h => by omega⟩
  by_cases e6 : x.op = 6
  · rw [shape6 e6] at hs; dsimp only at hs; simp [okI, e6] at h1
    have h4 := h1.2.2
    unfold offB at h4
    simp only [Bool.and_eq_true, decide_eq_true_eq] at h4
    exact ⟨by omega, by unfold in64; omega, powB_in h4.1, fun h => by omega, fun _ => argB_k h1.1, fun h => by omega, fun h => argB_k h1.2.1, fun h => by omega⟩
  by_cases e7 : x.op = 7
  · rw [shape7 e7] at hs; dsimp only at hs; simp [okI, e7] at h1
    exact ⟨by omega, by unfold in64; omega, powB_in h1.2.2.1, fun h => by omega, fun _ => argB_k h1.1, fun h => by omega, fun h => argB_k h1.2.1, fun h => by omega⟩
  by_cases e8 : x.op = 8
  · rw [shape8 e8] at hs; dsimp only at hs; simp [okI, e8] at h1
    refine ⟨by omega, hs.1 ▸ z, hs.2 ▸ z, fun h => by omega, fun h => by omega, fun h => by omega, fun h => by omega, fun _ => ?_⟩
    have h4 := h1.2
    split at h4
    · rename_i g hg
      have hg8 := hp g (List.mem_of_getElem? hg)
      unfold callB at h4
      simp only [Bool.and_eq_true, Bool.not_eq_true', Bool.or_eq_false_iff, bne_eq_false_iff_eq, List.all_eq_true] at h4
      refine ⟨fun a ha => argB_k (h4.2 a ha), ?_⟩
      have := h4.1.2
      omega
    · cases h4
  by_cases e9 : x.op = 9
  · rw [shape9 e9] at hs; dsimp only at hs; simp [okI, e9] at h1
    refine ⟨by omega, hs.1 ▸ z, hs.2 ▸ z, fun h => by omega, fun h => by omega, fun _ => ?_, fun h => by omega, fun h => by omega⟩
    rcases h1 with h | h
    · exact .inl (argB_k h.2)
    · exact .inr h.2
  by_cases e10 : x.op = 10
  · rw [shape10 e10] at hs; dsimp only at hs; simp [okI, e10] at h1
    exact ⟨by omega, hs.1 ▸ z, hs.2 ▸ z, fun h => by omega, fun h => by omega, fun h => by omega, fun h => by omega, fun h => by omega⟩
  by_cases e11 : x.op = 11
  · rw [shape11 e11] at hs; dsimp only at hs; simp [okI, e11] at h1
    exact ⟨by omega, hs.1 ▸ z, hs.2 ▸ z, fun h => by omega, fun _ => argB_k h1.2, fun h => by omega, fun h => by omega, fun h => by omega⟩
  by_cases e12 : x.op = 12
  · rw [shape12 e12] at hs; dsimp only at hs; simp [okI, e12] at h1
    exact ⟨by omega, hs.1 ▸ z, hs.2 ▸ z, fun h => by omega, fun _ => argB_k h1, fun h => by omega, fun h => by omega, fun h => by omega⟩
  by_cases e13 : x.op = 13
  · rw [shape13 e13] at hs; dsimp only at hs; simp [okI, e13] at h1
    exact ⟨by omega, hs.1 ▸ z, hs.2 ▸ z, fun _ => (inB_iff.1 h1).1, fun h => by omega, fun h => by omega, fun h => by omega, fun h => by omega⟩
  by_cases e14 : x.op = 14
  · rw [shape14 e14] at hs; dsimp only at hs; simp [okI, e14] at h1
    exact ⟨by omega, hs.1 ▸ z, hs.2 ▸ z, fun h => by omega, fun _ => argB_k h1, fun h => by omega, fun h => by omega, fun h => by omega⟩
  simp [okI, e1, e2, e3, e4, e5, e6, e7, e8, e9, e10, e11, e12, e13, e14] at h1
end Go.Proofs.YtpohhfggmaihpaaGreatDoor

/- A result that lies in a cell. -/
namespace Go.Wk
set_option linter.unusedVariables false
set_option linter.unusedSimpArgs false
section
variable {X : Cx} {fn : Func} {Rp : Ending → World → Prop} {L : LT} {R : RL}
theorem gq_retC {e : Exit} (he : e = .normal ∨ e = .ret) (hds : X.ds = []) {t : Tmp} {ty : TypeId} (hfn : fn.results = #[.cell t ty]) (i : Nat) {b o : Nat} {ti : Ti} {l cs : List Value} {ee : TypeId} {fz : Nat × Nat} {A : HL} {v : Value}
    (hR : R[i]? = some ((b, .cells ⟨l⟩ ee fz) :: A)) (hp : lk L t = some (.pointer (some ⟨b, o, none⟩))) (ht : tl X.s.tab ty = some ti) (hc : takeC l o ti.sz = some cs) (hv : asV ti.k cs = some v) (k : ∀ w, Hp X w R → Rp (.returned v) w) :
    GQ X (bodyPost X.s.P fn Rp) e L R :=
  gq_ret he hds v (fun a w ha hE => by
    obtain ⟨h1, h2⟩ := takeC_spec _ _ _ _ hc
    have hb := hp_cellA hE hR
    have hl : (Instr.loadAt ty (.pointer (some ⟨b, o, none⟩))).run X.s.P w = .ok v w := run_loadAt (X.s.ok.at ht) h1 hv (fun j u hj => by
      simp only [World.cell?, hb]
      simpa using h2 j u hj)
    have hg : a.tmps.getD t undef = .pointer (some ⟨b, o, none⟩) := ha.kn _ _ hp
    have hr : (results fn a.tmps) = (do loadVar ty (← asAddr (a.tmps.getD t undef))) := by
      simp [results, hfn]
    rw [hr, hg]
    exact hl) k
end
section
variable {X : Cx} {L : LT} {d : Nat} {x y : Operand} {t ty yt : TypeId} {p : String} {af : Array Edge}
theorem p_neA {t1 t2 : TypeId} {k1 k2 : IntKind} {a1 a2 b1 b2 : Int} {z z1 z2 : Value} {s b s1 c1 s2 c2 : Nat} (hx : ev L x = some (.agg #[.int k1 a1, .int k2 a2])) (hy : ev L y = some (.agg #[.int k1 b1, .int k2 b2]))
    (ht : tl X.s.tab t = some ⟨.struct [(0, t1), (1, t2)], z, s, b⟩) (h1 : tl X.s.tab t1 = some ⟨.int k1, z1, s1, c1⟩) (h2 : tl X.s.tab t2 = some ⟨.int k2, z2, s2, c2⟩) (hs : sEq X.s.P t = true) :
    PR X.s.P L (⟨some d, .binOp .neq t x y yt, ty, p, af, none⟩ : Oper) (.bool (!(a1 == b1 && a2 == b2))) := fun ρ w h => by
  simp only [execOp]; rw [h x _ hx, h y _ hy]
  have hg : X.s.P.eqGuardType X.s.P.depth t = false := by
    unfold sEq at hs
    split at hs
    · simp only [Bool.and_eq_true, Bool.not_eq_true'] at hs; exact hs.2
    · cases hs
  have e : (do eqGuard .neq t x y (.agg #[.int k1 a1, .int k2 a2]) (.agg #[.int k1 b1, .int k2 b2]); binOp .neq t (.agg #[.int k1 a1, .int k2 a2]) (.agg #[.int k1 b1, .int k2 b2]) : Sem Value).run X.s.P w = .ok (.bool (!(a1 == b1 && a2 == b2))) w := by
    rw [Sem.run_bind, run_eqGuard_agg w .neq t x y _ _ hg, Result.andThen_ok, run_neq_struct]
    rw [run_eqA (X.s.ok.at ht) (X.s.ok.at h1) (X.s.ok.at h2) hs x y w 9998]
    rfl
  rw [Sem.run_bind, e]; rfl
end
end Go.Wk

/- A struct of three numbers held against another. -/
namespace Go.Wk
open Op
set_option linter.unusedVariables false
set_option linter.unusedSimpArgs false
theorem run_eqA3 {P : Program} {t t1 t2 t3 : TypeId} {k1 k2 k3 : IntKind} {a1 a2 a3 b1 b2 b3 : Int} {z z1 z2 z3 : Value} {s b s1 c1 s2 c2 s3 c3 : Nat} (ht : tiOf P t = some ⟨.struct [(0, t1), (1, t2), (2, t3)], z, s, b⟩) (h1 : tiOf P t1 = some ⟨.int k1, z1, s1, c1⟩) (h2 : tiOf P t2 = some ⟨.int k2, z2, s2, c2⟩) (h3 : tiOf P t3 = some ⟨.int k3, z3, s3, c3⟩) (hs : sEq P t = true) (x y : Operand) (w : World) (d : Nat) :
    (Op.equalIn (d + 2) t (.agg #[.int k1 a1, .int k2 a2, .int k3 a3]) (.agg #[.int k1 b1, .int k2 b2, .int k3 b3])).run P w = .ok (a1 == b1 && (a2 == b2 && a3 == b3)) w := by
  obtain ⟨fl, hu, hfl⟩ := tk_struct ht
  simp only [sEq, hu, Bool.and_eq_true, Bool.not_eq_true'] at hs
  have hf : P.fieldsOf t = fl := by simp [Program.fieldsOf, hu]
  rw [run_equalIn_agg w (d + 1) t _ _ (by rw [hf]; exact hu) hs.1.2, hf]
  obtain ⟨fl⟩ := fl
  dsimp only at hs hfl ⊢
  obtain ⟨f1, r1, rfl, e0, hr1⟩ := List.map_eq_cons_iff.1 hfl
  obtain ⟨f2, r2, rfl, e9, hr2⟩ := List.map_eq_cons_iff.1 hr1
  obtain ⟨f3, r3, rfl, e8, hr3⟩ := List.map_eq_cons_iff.1 hr2
  obtain rfl := List.map_eq_nil_iff.1 hr3
  simp only [Prod.mk.injEq] at e0 e9 e8
  obtain ⟨e1, e2⟩ := e0
  obtain ⟨e3, e4⟩ := e9
  obtain ⟨e5, e6⟩ := e8
  simp only [List.all_cons, List.all_nil, Bool.and_true, Bool.and_eq_true, bne_iff_ne] at hs
  subst e2; subst e4; subst e6
  have q1 : (Op.equalIn (d + 1) f1.type (.int k1 a1) (.int k1 b1)).run P w = .ok (a1 == b1) w := run_equalIn_int w d _ _ _ _ _ (tk_int h1)
  have q2 : (Op.equalIn (d + 1) f2.type (.int k2 a2) (.int k2 b2)).run P w = .ok (a2 == b2) w := run_equalIn_int w d _ _ _ _ _ (tk_int h2)
  have q3 : (Op.equalIn (d + 1) f3.type (.int k3 a3) (.int k3 b3)).run P w = .ok (a3 == b3) w := run_equalIn_int w d _ _ _ _ _ (tk_int h3)
  have p1 : (part f1.type #[.int k1 a1, .int k2 a2, .int k3 a3] 0).run P w = .ok (.int k1 a1) w := run_part1 h1 _ _ _ rfl w
  have p2 : (part f1.type #[.int k1 b1, .int k2 b2, .int k3 b3] 0).run P w = .ok (.int k1 b1) w := run_part1 h1 _ _ _ rfl w
  have p3 : (part f2.type #[.int k1 a1, .int k2 a2, .int k3 a3] 1).run P w = .ok (.int k2 a2) w := run_part1 h2 _ _ _ rfl w
  have p4 : (part f2.type #[.int k1 b1, .int k2 b2, .int k3 b3] 1).run P w = .ok (.int k2 b2) w := run_part1 h2 _ _ _ rfl w
  have p5 : (part f3.type #[.int k1 a1, .int k2 a2, .int k3 a3] 2).run P w = .ok (.int k3 a3) w := run_part1 h3 _ _ _ rfl w
  have p6 : (part f3.type #[.int k1 b1, .int k2 b2, .int k3 b3] 2).run P w = .ok (.int k3 b3) w := run_part1 h3 _ _ _ rfl w
  simp only [Op.eqFields, if_pos hs.1.1.1, if_pos hs.1.1.2.1, if_pos hs.1.1.2.2, Sem.run_bind, e1, e3, e5, p1, p2, q1, Result.andThen_ok]
  cases hq : (a1 == b1) with
  | false => simp
  | true =>
    simp only [Bool.not_true, Bool.false_eq_true, if_false, Sem.run_bind, p3, p4, q2, Result.andThen_ok]
    cases hr : (a2 == b2) with
    | false => simp
    | true =>
      simp only [Bool.not_true, Bool.false_eq_true, if_false, Sem.run_bind, p5, p6, q3, Result.andThen_ok]
      cases hr : (a3 == b3) <;> simp
section
variable {X : Cx} {L : LT} {d : Nat} {x y : Operand} {t ty yt : TypeId} {p : String} {af : Array Edge}
theorem p_neA3 {t1 t2 t3 : TypeId} {k1 k2 k3 : IntKind} {a1 a2 a3 b1 b2 b3 : Int} {z z1 z2 z3 : Value} {s b s1 c1 s2 c2 s3 c3 : Nat} (hx : ev L x = some (.agg #[.int k1 a1, .int k2 a2, .int k3 a3])) (hy : ev L y = some (.agg #[.int k1 b1, .int k2 b2, .int k3 b3]))
    (ht : tl X.s.tab t = some ⟨.struct [(0, t1), (1, t2), (2, t3)], z, s, b⟩) (h1 : tl X.s.tab t1 = some ⟨.int k1, z1, s1, c1⟩) (h2 : tl X.s.tab t2 = some ⟨.int k2, z2, s2, c2⟩) (h3 : tl X.s.tab t3 = some ⟨.int k3, z3, s3, c3⟩) (hs : sEq X.s.P t = true) :
    PR X.s.P L (⟨some d, .binOp .neq t x y yt, ty, p, af, none⟩ : Oper) (.bool (!(a1 == b1 && (a2 == b2 && a3 == b3)))) := fun ρ w h => by
  simp only [execOp]; rw [h x _ hx, h y _ hy]
  have hg : X.s.P.eqGuardType X.s.P.depth t = false := by
    unfold sEq at hs
    split at hs
    · simp only [Bool.and_eq_true, Bool.not_eq_true'] at hs; exact hs.2
    · cases hs
  have e : (do eqGuard .neq t x y (.agg #[.int k1 a1, .int k2 a2, .int k3 a3]) (.agg #[.int k1 b1, .int k2 b2, .int k3 b3]); binOp .neq t (.agg #[.int k1 a1, .int k2 a2, .int k3 a3]) (.agg #[.int k1 b1, .int k2 b2, .int k3 b3]) : Sem Value).run X.s.P w = .ok (.bool (!(a1 == b1 && (a2 == b2 && a3 == b3)))) w := by
    rw [Sem.run_bind, run_eqGuard_agg w .neq t x y _ _ hg, Result.andThen_ok, run_neq_struct]
    rw [run_eqA3 (X.s.ok.at ht) (X.s.ok.at h1) (X.s.ok.at h2) (X.s.ok.at h3) hs x y w 9998]
    rfl
  rw [Sem.run_bind, e]; rfl
end
end Go.Wk
