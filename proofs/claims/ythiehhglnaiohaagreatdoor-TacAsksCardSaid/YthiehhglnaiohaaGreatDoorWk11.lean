/-
  Fields of elements of one's own, by their addresses.
-/
import Derived.Test.YthiehhglnaiohaaGreatDoorWk10
namespace Go.Wk
set_option linter.unusedVariables false
set_option linter.unusedSimpArgs false

theorem putC_fld {α : Type} {f : α → List Value} {sz : Nat} (hf : ∀ x, (f x).length = sz) {l : List α} {i : Nat} {q q' : α} {off : Nat} {vs rest : List Value} (hl : l[i]? = some q) (hlen : off + vs.length ≤ sz) (hq : f q' = putC (f q) off vs) :
    putC (l.flatMap f ++ rest) (i * sz + off) vs = (l.set i q').flatMap f ++ rest := by
  have hi := (List.getElem?_eq_some_iff.1 hl).1
  rw [← putC_flat hf l i q' rest hi]
  have hL := flat_len hf l
  have hb : i * sz + sz ≤ l.length * sz := by
    have : (i + 1) * sz ≤ l.length * sz := Nat.mul_le_mul_right _ hi
    rw [Nat.add_mul] at this; omega
  apply List.ext_getElem?
  intro k
  rw [putC_get _ _ _ _ (by rw [List.length_append, hL]; omega), putC_get _ _ _ _ (by rw [List.length_append, hL, hf]; omega), hf]
  by_cases h1 : i * sz ≤ k ∧ k < i * sz + sz
  · rw [if_pos h1, hq, putC_get _ _ _ _ (by rw [hf]; omega)]
    by_cases h2 : i * sz + off ≤ k ∧ k < i * sz + off + vs.length
    · rw [if_pos h2, if_pos (by omega)]; congr 1; omega
    · rw [if_neg h2, if_neg (by omega)]
      have hk : k - i * sz < (f q).length := by rw [hf]; omega
      have h3 := flat_get hf l i q hl (k - i * sz) _ (List.getElem?_eq_getElem hk)
      rw [show i * sz + (k - i * sz) = k from by omega] at h3
      rw [List.getElem?_append_left (by rw [hL]; omega), h3, List.getElem?_eq_getElem hk]
  · rw [if_neg h1, if_neg (by omega)]

section
variable {X : Cx} {ops : Array Oper} {Q : Post} {rest : List Oper} {L : LT} {R R0 : RL} {d : Nat} {x y : Operand} {v u : Value} {t ty : TypeId} {p : String} {af : Array Edge} {fuel : Nat} {listed : Array Bool}
theorem g_ldF {α : Type} {f : α → List Value} {sz b o o' j off : Nat} {l : List α} {q : α} {ti : Ti} {cs : List Value} (hx : ev L x = some (.pointer (some ⟨b, o, none⟩))) (ht : tl X.s.tab t = some ti)
    (hr : ∀ w, Hp X w R → Rd (hw w) f sz (some ⟨b, o', none⟩) l) (ho : o = o' + j * sz + off) (hl : l[j]? = some q) (hc : takeC (f q) off ti.sz = some cs) (hv : asV ti.k cs = some v) (hN : Nat.blt d X.N = true) (k : G X ops Q rest ((d, v) :: L) R) :
    G X ops Q (⟨some d, .load t x, ty, p, af, none⟩ :: rest) L R := by
  subst ho
  refine g_ldG hx ht (takeC_spec _ _ _ _ hc).1 hv (fun w hE j' u' hj => ?_) hN k
  obtain ⟨b2, o2, hA2, hc2⟩ := (hr w hE).fld hl hc
  cases hA2
  rw [← cellAt_hw]; exact hc2 j' u' hj
theorem ga_ldF (i : Nat) {g : Option (Nat × Bool)} {α : Type} {f : α → List Value} {sz b o o' j off : Nat} {l : List α} {q : α} {ti : Ti} {cs : List Value} (hQ : NoP Q) (hi : ops[i]? = some ⟨some d, .load t x, ty, p, af, g⟩)
    (hg : ∀ a, Ok X a L → Region.wanted ⟨some d, .load t x, ty, p, af, g⟩ (yielded ops a.tmps) = true) (hx : ev L x = some (.pointer (some ⟨b, o, none⟩))) (ht : tl X.s.tab t = some ti)
    (hr : ∀ w, Still X R0 w → Rd (hw w) f sz (some ⟨b, o', none⟩) l) (ho : o = o' + j * sz + off) (hl : l[j]? = some q) (hc : takeC (f q) off ti.sz = some cs) (hv : asV ti.k cs = some v)
    (hN : Nat.blt d X.N = true) (hns : noDS ops = true) (hf : Region.free .any ops listed i = true) (hrd : (Region.ready .any ops listed).contains i = true)
    (k : GA X ops Q R0 fuel (listed.setIfInBounds i true) ((d, v) :: L) R) : GA X ops Q R0 (fuel + 1) listed L R := by
  subst ho
  refine ga_ldG i hQ hi hg hx ht (takeC_spec _ _ _ _ hc).1 hv (fun w hS j' u' hj => ?_) hN hns hf hrd k
  obtain ⟨b2, o2, hA2, hc2⟩ := (hr w hS).fld hl hc
  cases hA2
  rw [← cellAt_hw]; exact hc2 j' u' hj
theorem g_stF (j : Nat) {α : Type} {e : TypeId} {ti : Ti} {sz : Nat} {A : HL} {f : α → List Value} {l : List α} {q : α} (q' : α) {g o n cap i off : Nat}
    (hR : R[j]? = some A) (hx : ev L x = some (.pointer (some ⟨g, o, none⟩))) (hy : ev L y = some u) (ht : tl X.s.tab t = some ti) (ho : OwnL e sz f (.slice (some ⟨g, 0, none⟩) n cap) l A) (hf : ∀ x, (f x).length = sz)
    (hi : o = i * sz + off) (hl : l[i]? = some q) (hsz : u.cells.size = ti.sz) (hlen : off + ti.sz ≤ sz) (hq : f q' = putC (f q) off u.cells.toList) (h1 : (u.cells.toList.all (·.oneCell')) = true)
    (k : ∀ A', OwnL e sz f (.slice (some ⟨g, 0, none⟩) n cap) (l.set i q') A' → G X ops Q rest L (R.set j A')) :
    G X ops Q (⟨none, .store t x y, ty, p, af, none⟩ :: rest) L R := by
  subst hi
  have hlt := (List.getElem?_eq_some_iff.1 hl).1
  obtain ⟨g', cap', rst, hv, rfl, hc1, hc2, hc3⟩ := Own.pos ho (by omega)
  cases hv
  have hb : i * sz + sz ≤ l.length * sz := by
    have : (i + 1) * sz ≤ l.length * sz := Nat.mul_le_mul_right _ hlt
    rw [Nat.add_mul] at this; omega
  refine g_stW j hR hx hy ht hsz ?_ h1 ?_
  · rw [List.length_append, flat_len hf l]; omega
  · have e1 := putC_fld hf (rest := rst) (off := off) (vs := u.cells.toList) hl (by rw [Array.length_toList, hsz]; exact hlen) hq
    rw [e1]
    refine k _ ⟨by rw [flat_len hf, List.length_set], .inr ⟨g, cap, rst, by rw [List.length_set], rfl, by rw [List.length_set]; exact hc1, hc2, ?_⟩⟩
    rw [List.length_append, flat_len hf, List.length_set, ← flat_len hf l, ← List.length_append]; exact hc3
end
end Go.Wk
