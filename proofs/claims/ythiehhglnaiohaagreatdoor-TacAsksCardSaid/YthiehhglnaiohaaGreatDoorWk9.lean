/-
  A field of an element.
-/
import Derived.Test.YthiehhglnaiohaaGreatDoorWk6
namespace Go.Wk
set_option linter.unusedVariables false
set_option linter.unusedSimpArgs false
section
variable {X : Cx} {ops : Array Oper} {Q : Post} {rest : List Oper} {L : LT} {R : RL} {d d1 d2 : Nat} {x y : Operand} {v u : Value} {t t2 st ty ty1 ty2 : TypeId} {p p1 p2 : String} {af af1 af2 : Array Edge}
theorem Rd.fld {α : Type} {H : Nat → Option Obj} {f : α → List Value} {sz : Nat} {A : Option Addr} {l : List α} {i : Nat} {q : α} {off n : Nat} {cs : List Value} (hr : Rd H f sz A l) (hl : l[i]? = some q) (hc : takeC (f q) off n = some cs) :
    ∃ b o, A = some ⟨b, o, none⟩ ∧ ∀ j u, cs[j]? = some u → cellAt H b (o + i * sz + off + j) = some u := by
  obtain ⟨b, o, hA, h⟩ := hr i q hl
  obtain ⟨_, h2⟩ := takeC_spec _ _ _ _ hc
  refine ⟨b, o, hA, fun j u hj => ?_⟩
  have := h (off + j) u (h2 j u hj)
  rw [← Nat.add_assoc] at this; exact this
/-- x[y].f, x of old memory. -/
theorem g_atF {α : Type} {e : TypeId} {z z' : Value} {s b off ff : Nat} {te tf : Ti} {ik : IntKind} {i : Int} {A : Option Addr} {n c : Nat} {f : α → List Value} {l : List α} {q : α} {fs : List (Nat × TypeId)} {sz' by' : Nat} {cs : List Value}
    (hx : ev L x = some (.slice A n c)) (hy : ev L y = some (.int ik i)) (ht : tl X.s.tab t = some ⟨.slice e, z, s, b⟩) (hte : tl X.s.tab e = some te) (hst : tl X.s.tab st = some ⟨.struct fs, z', sz', by'⟩)
    (hff : fs[ff]? = some (off, t2)) (htf : tl X.s.tab t2 = some tf) (hsz : Nat.beq tf.sz 0 = false)
    (h0 : 0 ≤ i) (h1 : i < n) (hr : Rd (Oldh X) f te.sz A l) (hl : l[i.toNat]? = some q) (hc : takeC (f q) off tf.sz = some cs) (hv : asV tf.k cs = some u) (hN1 : Nat.blt d1 X.N = true) (hN2 : Nat.blt d2 X.N = true) (hN : Nat.blt d X.N = true)
    (k : ∀ a a2, G X ops Q rest ((d, u) :: (d2, .pointer (some a2)) :: (d1, .pointer (some a)) :: L) R) :
    G X ops Q (⟨some d1, .indexAddr t x y, ty1, p1, af1, none⟩ :: ⟨some d2, .fieldAddr st (.tmp d1) ff, ty2, p2, af2, none⟩ :: ⟨some d, .load t2 (.tmp d2), ty, p, af, none⟩ :: rest) L R := by
  obtain ⟨bx, o, rfl, hcc⟩ := hr.fld hl hc
  refine g_ix hx hy ht hte h0 h1 hN1 ?_
  refine g_fld (lk_hd d1 _ L) hst hff htf hsz hN2 ?_
  exact g_ldO (lk_hd d2 _ _) htf (takeC_spec _ _ _ _ hc).1 hv hcc hN (k _ _)
/-- x[y].f, x number j of what one owns. -/
theorem g_atFL (j : Nat) {α : Type} {e e' : TypeId} {z z' : Value} {s b off ff : Nat} {te tf : Ti} {ik : IntKind} {i : Int} {A : HL} {f : α → List Value} {l : List α} {q : α} {fs : List (Nat × TypeId)} {sz' by' : Nat} {cs : List Value}
    (hR : R[j]? = some A) (hx : ev L x = some v) (ho : OwnL e' te.sz f v l A) (hf : ∀ x, (f x).length = te.sz) (hy : ev L y = some (.int ik i)) (ht : tl X.s.tab t = some ⟨.slice e, z, s, b⟩) (hte : tl X.s.tab e = some te) (hst : tl X.s.tab st = some ⟨.struct fs, z', sz', by'⟩)
    (hff : fs[ff]? = some (off, t2)) (htf : tl X.s.tab t2 = some tf) (hsz : Nat.beq tf.sz 0 = false)
    (h0 : 0 ≤ i) (hl : l[i.toNat]? = some q) (hc : takeC (f q) off tf.sz = some cs) (hv : asV tf.k cs = some u) (hN1 : Nat.blt d1 X.N = true) (hN2 : Nat.blt d2 X.N = true) (hN : Nat.blt d X.N = true)
    (k : ∀ a a2, G X ops Q rest ((d, u) :: (d2, .pointer (some a2)) :: (d1, .pointer (some a)) :: L) R) :
    G X ops Q (⟨some d1, .indexAddr t x y, ty1, p1, af1, none⟩ :: ⟨some d2, .fieldAddr st (.tmp d1) ff, ty2, p2, af2, none⟩ :: ⟨some d, .load t2 (.tmp d2), ty, p, af, none⟩ :: rest) L R := by
  have hlt := (List.getElem?_eq_some_iff.1 hl).1
  obtain ⟨ad, cap, rfl, _⟩ := Own.shape ho
  have hrd : ∀ w, Hp X w R → Rd (hw w) f te.sz ad l := fun w hE => by
    obtain ⟨ad', cap', he, hr⟩ := OwnL.rd hf ho (H := hw w) (fun b o hb => hE.holds b o (List.mem_flatten.2 ⟨_, List.mem_of_getElem? hR, hb⟩))
    cases he; exact hr
  have hA : ∃ g, ad = some ⟨g, 0, none⟩ := by
    rcases ho.2 with ⟨h1, h2, _⟩ | ⟨g, cap', rst, h1, _⟩
    · omega
    · cases h1; exact ⟨g, rfl⟩
  obtain ⟨g, rfl⟩ := hA
  refine g_ix hx hy ht hte h0 (by omega) hN1 ?_
  refine g_fld (lk_hd d1 _ L) hst hff htf hsz hN2 ?_
  refine g_ldG (lk_hd d2 _ _) htf (takeC_spec _ _ _ _ hc).1 hv (fun w hE j' u' hj => ?_) hN (k _ _)
  obtain ⟨b2, o2, hA2, hc2⟩ := (hrd w hE).fld hl hc
  cases hA2
  rw [← cellAt_hw]; exact hc2 j' u' hj
end
end Go.Wk
