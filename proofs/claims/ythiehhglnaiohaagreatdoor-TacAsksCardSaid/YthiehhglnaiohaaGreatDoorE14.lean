/-
  A statement's operations in whatever order.
-/
import Derived.Test.YthiehhglnaiohaaGreatDoorE13
namespace Go.Ev
open Go.Wk
set_option linter.unusedVariables false
set_option linter.unusedSimpArgs false

section
variable {ro : Option Nat} {n : Nat} {P : Program} {ops : Array Oper} {Q : Post} {S : World → Prop}

/-- Does j wait, by its own word, for all that were taken first? -/
def waitsAll (ops : Array Oper) (rec : List Nat) (j : Nat) : Bool := match ops[j]? with
  | some o => rec.all fun k => Nat.beq k j || o.after.any fun e => Region.binds .any e && Nat.beq e.on k
  | none => false
theorem waitsAll_not {rec : List Nat} {i j : Nat} {oj : Oper} (hj : ops[j]? = some oj) (hij : i ≠ j) (hnot : ∀ e ∈ oj.after, Region.binds .any e = true → e.on ≠ i) (hi : i ∈ rec) : waitsAll ops rec j = false := by
  cases h : waitsAll ops rec j with
  | false => rfl
  | true =>
    unfold waitsAll at h
    simp only [hj, List.all_eq_true, Bool.or_eq_true] at h
    rcases h i hi with h1 | h1
    · exact absurd (Nat.eq_of_beq_eq_true h1) hij
    · obtain ⟨e, he, hb⟩ := Array.any_eq_true'.1 h1
      simp only [Bool.and_eq_true] at hb
      exact absurd (Nat.eq_of_beq_eq_true hb.2) (hnot e he hb.1)
theorem waitsAll_sub {rec rec' : List Nat} (hs : ∀ i ∈ rec, i ∈ rec') {j : Nat} (h : waitsAll ops rec j = false) : waitsAll ops rec' j = false := by
  cases h' : waitsAll ops rec' j with
  | false => rfl
  | true =>
    unfold waitsAll at h h'
    split at h'
    · rename_i o ho
      rw [ho] at h
      simp only [List.all_eq_true] at h'
      have : (rec.all fun k => Nat.beq k j || o.after.any fun e => Region.binds .any e && Nat.beq e.on k) = true := List.all_eq_true.2 (fun k hk => h' k (hs k hk))
      simp only at h
      rw [this] at h; cases h
    · cases h'

/-- Whatever order is drawn from here on; what was taken first stays as it was (al), till one comes that waits for all of those. -/
def AnyR (ro : Option Nat) (n : Nat) (P : Program) (ops : Array Oper) (Q : Post) (S : World → Prop) (rec : List Nat) : Nat → Bool → Array Bool → Act → World → Prop
  | 0, al, listed, a, w => Region.ready .any ops listed = [] ∧ Q .normal a w
  | fuel + 1, al, listed, a, w =>
    (Region.ready .any ops listed = [] → Q .normal a w) ∧
    ∀ i ∈ Region.ready .any ops listed, wpOpIn (Wk.Fr ro) n P ops Q i (fun a' w' => ((al && !waitsAll ops rec i) = true → S w') ∧ AnyR ro n P ops Q S rec fuel (al && !waitsAll ops rec i) (listed.setIfInBounds i true) a' w') a w

theorem AnyR.sound {rec : List Nat} : ∀ (fuel : Nat) (al : Bool) (listed : Array Bool) (a : Act) (w : World), AnyR ro n P ops Q S rec fuel al listed a w → wpAnyIn (Wk.Fr ro) n P .any ops Q fuel listed a w
  | 0, _, _, _, _, h => h
  | fuel + 1, _, _, _, _, h => ⟨h.1, fun i hi => wpOpIn_mono (fun a' w' h' => AnyR.sound fuel _ _ a' w' h'.2) (h.2 i hi)⟩
theorem AnyR.weaken {S' : World → Prop} {rec rec' : List Nat} (hs : ∀ i ∈ rec', i ∈ rec) : ∀ (fuel : Nat) (al al' : Bool) (listed : Array Bool) (a : Act) (w : World), (al' = true → al = true ∧ ∀ w, S w → S' w) → AnyR ro n P ops Q S rec fuel al listed a w → AnyR ro n P ops Q S' rec' fuel al' listed a w
  | 0, _, _, _, _, _, _, h => h
  | fuel + 1, al, al', _, _, _, ha, h => ⟨h.1, fun i hi => wpOpIn_mono (fun a' w' h' => by
      have key : (al' && !waitsAll ops rec' i) = true → (al && !waitsAll ops rec i) = true ∧ ∀ w, S w → S' w := fun hw => by
        simp only [Bool.and_eq_true, Bool.not_eq_true'] at hw ⊢
        exact ⟨⟨(ha hw.1).1, waitsAll_sub hs hw.2⟩, (ha hw.1).2⟩
      exact ⟨fun hw => (key hw).2 _ (h'.1 (key hw).1), AnyR.weaken hs fuel _ _ _ a' w' key h'.2⟩) (h.2 i hi)⟩
theorem wpOpIn_monoQ {Q' : Post} (hq : ∀ e a w, Q e a w → Q' e a w) (hl : LetsOut Q → LetsOut Q') {i : Nat} {K : Act → World → Prop} {a : Act} {w : World} (h : wpOpIn (Wk.Fr ro) n P ops Q i K a w) : wpOpIn (Wk.Fr ro) n P ops Q' i K a w := by
  unfold wpOpIn at h ⊢
  cases ho : ops[i]? with
  | none => rw [ho] at h; exact h
  | some o =>
    rw [ho] at h
    simp only at h ⊢
    split
    · rename_i hw
      rw [if_pos hw] at h
      refine ⟨h.1, ?_⟩
      have h2 := h.2
      generalize (o.semAt (Wk.Fr ro).round a.eval).run P w = r at h2 ⊢
      cases r with
      | ok x w' =>
        cases x <;> simp only [Oper.uponIn] at h2 ⊢ <;>
          first
            | exact h2
            | exact ⟨h2.1, CallsIn.mono h2.2 (fun e w'' he => by cases e <;> first | exact he | exact hq _ _ _ he | exact hl he)⟩
            | exact ⟨h2.1, RoundIn.mono h2.2 (fun e w'' he => by cases e <;> first | exact he | exact hq _ _ _ he | exact hl he)⟩
      | halt x w' => cases x <;> simp only [Oper.uponIn] at h2 ⊢ <;> first | exact hq _ _ _ h2 | exact h2
    · rename_i hw
      rw [if_neg hw] at h
      exact h
theorem AnyR.monoQ {Q' : Post} {rec : List Nat} (hq : ∀ e a w, Q e a w → Q' e a w) (hl : LetsOut Q → LetsOut Q') : ∀ (fuel : Nat) (al : Bool) (listed : Array Bool) (a : Act) (w : World), AnyR ro n P ops Q S rec fuel al listed a w → AnyR ro n P ops Q' S rec fuel al listed a w
  | 0, _, _, _, _, h => ⟨h.1, hq _ _ _ h.2⟩
  | fuel + 1, _, _, _, _, h => ⟨fun h0 => hq _ _ _ (h.1 h0), fun i hi => wpOpIn_monoQ hq hl (wpOpIn_mono (fun a' w' h' => ⟨h'.1, AnyR.monoQ hq hl fuel _ _ a' w' h'.2⟩) (h.2 i hi))⟩

/-- A panic does not care for what d holds. -/
def Blind (Q : Post) (d : Option Nat) : Prop := ∀ c v a w, Q (.panic c) (a.put d v) w → Q (.panic c) a w

theorem opIn_putB {T : World → Prop} {i j : Nat} {oi oj : Oper} {v : Value} (hj : ops[j]? = some oj) (hap : oi.apart ops oj = true) (hsi : ∀ cs b, oi.op ≠ .select cs b) (hsj : ∀ cs b, oj.op ≠ .select cs b) (hdj : ∀ c, oj.op ≠ .defer c)
    (hQ : Blind Q oi.dst) {K : Act → World → Prop} {a : Act} {w : World} (hy : YieldsIf P ops T oi v a) (h : wpOpIn (Wk.Fr ro) n P ops Q j K (a.put oi.dst v) w) :
    wpOpIn (Wk.Fr ro) n P ops Q j (fun a' w' => YieldsIf P ops T oi v a' ∧ K (a'.put oi.dst v) w') a w := by
  obtain ⟨h1, h2, h3⟩ := Oper.apart_spec hap
  have keep : ∀ u, YieldsIf P ops T oi v (a.put oj.dst u) := fun u => hy.of_same (execOp_put oi hsi a oj.dst u h3) (wanted_put oi a oj.dst u h3)
  have comm : ∀ u, (a.put oi.dst v).put oj.dst u = (a.put oj.dst u).put oi.dst v := fun u => Act.put_comm a v u h2
  unfold wpOpIn at h ⊢
  simp only [hj] at h ⊢
  rw [wanted_put oj a oi.dst v h1] at h
  split
  · rename_i hw
    rw [if_pos hw] at h
    refine ⟨fun _ _ => trivial, ?_⟩
    have h' := h.2
    rw [Oper.semAt_eq _ _ _ hdj] at h' ⊢
    rw [execOp_put oj hsj a oi.dst v h1] at h'
    generalize (execOp a.eval oj).run P w = r at h' ⊢
    cases r with
    | halt x w' => cases x <;> simp only [Oper.uponIn] at h' ⊢; exact hQ _ _ _ _ h'
    | ok x w' =>
      cases x <;> simp only [Oper.uponIn] at h' ⊢
      case value u => exact ⟨keep u, by rw [← comm]; exact h'⟩
      case skip => exact ⟨keep _, by rw [← comm]; exact h'⟩
      case defer d =>
        refine ⟨?_, ?_⟩
        · have hd : YieldsIf P ops T oi v { a with defers := d :: a.defers } := hy.of_same rfl rfl
          exact hd.of_same (execOp_put oi hsi _ oj.dst undef h3) (wanted_put oi _ oj.dst undef h3)
        · rw [← Act.put_comm _ v undef h2, ← Act.put_defers]; exact h'
      case enter f args =>
        refine ⟨h'.1, CallsIn.mono h'.2 fun e w'' he => ?_⟩
        cases e with
        | returned u => exact ⟨keep u, by rw [← comm]; exact he⟩
        | panicked c => exact hQ _ _ _ _ he
        | outgrown => exact he
      case row row args => exact ⟨h'.1, RowsIn.mono h'.2 fun u w'' he => ⟨keep u, by rw [← comm]; exact he⟩⟩
      case round l f tmps av body =>
        refine ⟨h'.1, RoundIn.mono h'.2 fun e w'' he => ?_⟩
        cases e with
        | returned u => exact ⟨keep u, by rw [← comm]; exact he⟩
        | panicked c => exact hQ _ _ _ _ he
        | outgrown => exact he
  · rename_i hw
    rw [if_neg hw] at h
    exact ⟨fun _ _ => trivial, keep _, by rw [← comm]; exact h.2⟩
theorem yieldsIf_stepB {T : World → Prop} {i : Nat} {oi : Oper} {v : Value} {a : Act} {w : World} (hi : ops[i]? = some oi) (hd : ∀ c, oi.op ≠ .defer c) (hy : YieldsIf P ops T oi v a) (hT : T w) {K : Act → World → Prop} (h : K (a.put oi.dst v) w) :
    wpOpIn (Wk.Fr ro) n P ops Q i K a w := by
  unfold wpOpIn
  simp only [hi]
  rcases hy with ⟨hw, hv⟩ | ⟨hw, rfl⟩
  · rw [if_pos hw]
    refine ⟨fun _ _ => trivial, ?_⟩
    rw [Oper.semAt_eq _ _ _ hd, hv w hT]
    exact h
  · rw [if_neg (by simp [hw])]
    exact ⟨fun _ _ => trivial, h⟩

theorem AnyR.first {T : World → Prop} {rec : List Nat} {i : Nat} {oi : Oper} {v : Value} (hi : ops[i]? = some oi) (hns : noDS ops = true) (hQ : Blind Q oi.dst) :
    ∀ (fuel : Nat) (al : Bool) (listed : Array Bool) (a : Act) (w : World),
      ((∀ w, T w) ∨ (i ∈ rec ∧ al = true ∧ ∀ w, S w → T w)) →
      (∀ j oj, ops[j]? = some oj → j ≠ i → listed.getD j true = false → (∀ e ∈ oj.after, Region.binds .any e = true → e.on ≠ i) → oi.apart ops oj = true) →
      i ∈ Region.ready .any ops listed → YieldsIf P ops T oi v a → T w → (al = true → S w) →
      AnyR ro n P ops Q S rec fuel al (listed.setIfInBounds i true) (a.put oi.dst v) w → AnyR ro n P ops Q S rec (fuel + 1) al listed a w := by
  have hdi := (noDS_spec hns i oi hi).2
  intro fuel
  induction fuel with
  | zero =>
    intro al listed a w hT hfree hr hy hTw hSw H
    refine ⟨fun h => (by rw [h] at hr; cases hr), fun j hj => ?_⟩
    by_cases hji : j = i
    · subst hji
      refine yieldsIf_stepB hi hdi hy hTw ⟨fun hal => hSw (by simp only [Bool.and_eq_true] at hal; exact hal.1), H⟩
    · have := ready_mono hj hji
      rw [H.1] at this
      cases this
  | succ fuel ih =>
    intro al listed a w hT hfree hr hy hTw hSw H
    refine ⟨fun h => (by rw [h] at hr; cases hr), fun j hj => ?_⟩
    by_cases hji : j = i
    · subst hji
      refine yieldsIf_stepB hi hdi hy hTw ⟨fun hal => hSw (by simp only [Bool.and_eq_true] at hal; exact hal.1), ?_⟩
      exact AnyR.weaken (fun i hi => hi) _ _ _ _ _ _ (fun hal => ⟨by simp only [Bool.and_eq_true] at hal; exact hal.1, fun _ h => h⟩) H
    · have h1 := H.2 j (ready_mono hj hji)
      obtain ⟨hjun, oj, hoj, hall⟩ := mem_ready.1 hj
      have hnot : ∀ e ∈ oj.after, Region.binds .any e = true → e.on ≠ i := fun e he hb heq => by
        have h1 := hall e he hb
        have h0 := (mem_ready.1 hr).1
        rw [heq] at h1
        rcases Nat.lt_or_ge i listed.size with h' | h'
        · simp [h'] at h0 h1; rw [h0] at h1; cases h1
        · simp [Array.getElem?_eq_none h'] at h1
      obtain ⟨hs1, hd1⟩ := noDS_spec hns j oj hoj
      have h2 := opIn_putB (i := i) hoj (hfree j oj hoj hji hjun hnot) (noDS_spec hns i oi hi).1 hs1 hd1 hQ hy h1
      have hfree' : ∀ k ok, ops[k]? = some ok → k ≠ i → (listed.setIfInBounds j true).getD k true = false →
          (∀ e ∈ ok.after, Region.binds .any e = true → e.on ≠ i) → oi.apart ops ok = true := fun k ok hk hki hun hno => by
        refine hfree k ok hk hki ?_ hno
        by_cases hjk : j = k
        · subst hjk; exact hjun
        · rw [getD_set_ne true hjk] at hun; exact hun
      refine wpOpIn_mono (fun a' w' h3 => ⟨h3.2.1, ?_⟩) h2
      have hT' : (∀ w, T w) ∨ (i ∈ rec ∧ (al && !waitsAll ops rec j) = true ∧ ∀ w, S w → T w) := by
        rcases hT with h | ⟨h4, h5, h6⟩
        · exact .inl h
        · refine .inr ⟨h4, ?_, h6⟩
          rw [h5, waitsAll_not hoj (Ne.symm hji) hnot h4]; rfl
      refine ih _ (listed.setIfInBounds j true) a' w' hT' hfree' (ready_mono hr (Ne.symm hji)) h3.1 ?_ h3.2.1 ?_
      · rcases hT' with h | ⟨_, h5, h6⟩
        · exact h w'
        · exact h6 w' (h3.2.1 h5)
      · rw [Array.setIfInBounds_comm _ _ hji]
        exact h3.2.2
end
end Go.Ev
