/-
  Regions that draw their order: what only reads is taken first; the rest in every order.
-/
import Derived.Test.YthiehhglnaiohaaGreatDoorWk8
import Derived.OrdersIn
import Derived.OrdersHeld
namespace Go.Wk
set_option linter.unusedVariables false
set_option linter.unusedSimpArgs false

section
variable {ro : Option Nat} {n : Nat} {P : Program} {ops : Array Oper} {Q : Post} {S : World → Prop}

def noDS (ops : Array Oper) : Bool := ops.all fun o => match o.op with | .select .. => false | .defer _ => false | _ => true
theorem noDS_spec (h : noDS ops = true) (j : Nat) (o : Oper) (ho : ops[j]? = some o) : (∀ cs b, o.op ≠ .select cs b) ∧ (∀ c, o.op ≠ .defer c) := by
  have hm : o ∈ ops := Array.mem_of_getElem? ho
  have := Array.all_eq_true'.1 h o hm
  constructor
  · intro cs b he; rw [he] at this; simp at this
  · intro c he; rw [he] at this; simp at this

theorem opIn_put {i j : Nat} {oi oj : Oper} {v : Value} (hj : ops[j]? = some oj) (hap : oi.apart ops oj = true) (hsi : ∀ cs b, oi.op ≠ .select cs b) (hsj : ∀ cs b, oj.op ≠ .select cs b) (hdj : ∀ c, oj.op ≠ .defer c)
    (hQ : ∀ c a w, ¬ Q (.panic c) a w) {K : Act → World → Prop} {a : Act} {w : World} (hy : YieldsIf P ops S oi v a) (h : wpOpIn (Fr ro) n P ops Q j K (a.put oi.dst v) w) :
    wpOpIn (Fr ro) n P ops Q j (fun a' w' => YieldsIf P ops S oi v a' ∧ K (a'.put oi.dst v) w') a w := by
  obtain ⟨h1, h2, h3⟩ := Oper.apart_spec hap
  have keep : ∀ u, YieldsIf P ops S oi v (a.put oj.dst u) := fun u => hy.of_same (execOp_put oi hsi a oj.dst u h3) (wanted_put oi a oj.dst u h3)
  have comm : ∀ u, (a.put oi.dst v).put oj.dst u = (a.put oj.dst u).put oi.dst v := fun u => Act.put_comm a v u h2
  unfold wpOpIn at h ⊢
  simp only [hj] at h ⊢
  rw [wanted_put oj a oi.dst v h1] at h
  split
  · rename_i hw
    rw [if_pos hw] at h
    refine ⟨fun _ _ => trivial, ?_⟩
    have h' := h.2
    rw [Oper.semAt_eq _ _ _ hdj] at h' ⊢
    rw [execOp_put oj hsj a oi.dst v h1] at h'
    generalize (execOp a.eval oj).run P w = r at h' ⊢
    cases r with
    | halt x w' => cases x <;> simp only [Oper.uponIn] at h' ⊢; exact absurd h' (hQ _ _ _)
    | ok x w' =>
      cases x <;> simp only [Oper.uponIn] at h' ⊢
      case value u => exact ⟨keep u, by rw [← comm]; exact h'⟩
      case skip => exact ⟨keep _, by rw [← comm]; exact h'⟩
      case defer d =>
        refine ⟨?_, ?_⟩
        · have hd : YieldsIf P ops S oi v { a with defers := d :: a.defers } := hy.of_same rfl rfl
          exact hd.of_same (execOp_put oi hsi _ oj.dst undef h3) (wanted_put oi _ oj.dst undef h3)
        · rw [← Act.put_comm _ v undef h2, ← Act.put_defers]; exact h'
      case enter f args =>
        refine ⟨h'.1, CallsIn.mono h'.2 fun e w'' he => ?_⟩
        cases e with
        | returned u => exact ⟨keep u, by rw [← comm]; exact he⟩
        | panicked c => exact absurd he (hQ _ _ _)
        | outgrown => exact he
      case row row args => exact ⟨h'.1, RowsIn.mono h'.2 fun u w'' he => ⟨keep u, by rw [← comm]; exact he⟩⟩
      case round l f tmps av body =>
        refine ⟨h'.1, RoundIn.mono h'.2 fun e w'' he => ?_⟩
        cases e with
        | returned u => exact ⟨keep u, by rw [← comm]; exact he⟩
        | panicked c => exact absurd he (hQ _ _ _)
        | outgrown => exact he
  · rename_i hw
    rw [if_neg hw] at h
    exact ⟨fun _ _ => trivial, keep _, by rw [← comm]; exact h.2⟩

/-- An operation that waits for all others by its own word. -/
def lastOp (ops : Array Oper) (j : Nat) : Bool := match ops[j]? with
  | some o => (List.range ops.size).all fun k => k == j || o.after.any fun e => Region.binds .any e && e.on == k
  | none => false
theorem lastOp_not {i j : Nat} {oi oj : Oper} (hj : ops[j]? = some oj) (hij : i ≠ j) (hnot : ∀ e ∈ oj.after, Region.binds .any e = true → e.on ≠ i) (hi : ops[i]? = some oi) : lastOp ops j = false := by
  cases h : lastOp ops j with
  | false => rfl
  | true =>
    unfold lastOp at h
    simp only [hj, List.all_eq_true, List.mem_range, Bool.or_eq_true, beq_iff_eq] at h
    have hlt : i < ops.size := (Array.getElem?_eq_some_iff.1 hi).1
    rcases h i hlt with h1 | h1
    · exact absurd h1 hij
    · obtain ⟨e, he, hb⟩ := Array.any_eq_true'.1 h1
      simp only [Bool.and_eq_true, beq_iff_eq] at hb
      exact absurd hb.2 (hnot e he hb.1)
/-- Whatever order is drawn from here on; S holds behind each step. -/
def AnyS (ro : Option Nat) (n : Nat) (P : Program) (ops : Array Oper) (Q : Post) (S : World → Prop) : Nat → Array Bool → Act → World → Prop
  | 0, listed, a, w => Region.ready .any ops listed = [] ∧ Q .normal a w
  | fuel + 1, listed, a, w =>
    (Region.ready .any ops listed = [] → Q .normal a w) ∧
    ∀ i ∈ Region.ready .any ops listed, wpOpIn (Fr ro) n P ops Q i (fun a' w' => (lastOp ops i = false → S w') ∧ AnyS ro n P ops Q S fuel (listed.setIfInBounds i true) a' w') a w

theorem AnyS.sound : ∀ (fuel : Nat) (listed : Array Bool) (a : Act) (w : World), AnyS ro n P ops Q S fuel listed a w → wpAnyIn (Fr ro) n P .any ops Q fuel listed a w
  | 0, _, _, _, h => h
  | fuel + 1, _, _, _, h => ⟨h.1, fun i hi => wpOpIn_mono (fun a' w' h' => AnyS.sound fuel _ a' w' h'.2) (h.2 i hi)⟩

theorem yieldsIf_step {i : Nat} {oi : Oper} {v : Value} {a : Act} {w : World} (hi : ops[i]? = some oi) (hd : ∀ c, oi.op ≠ .defer c) (hy : YieldsIf P ops S oi v a) (hS : S w) {K : Act → World → Prop} (h : K (a.put oi.dst v) w) :
    wpOpIn (Fr ro) n P ops Q i K a w := by
  unfold wpOpIn
  simp only [hi]
  rcases hy with ⟨hw, hv⟩ | ⟨hw, rfl⟩
  · rw [if_pos hw]
    refine ⟨fun _ _ => trivial, ?_⟩
    rw [Oper.semAt_eq _ _ _ hd, hv w hS]
    exact h
  · rw [if_neg (by simp [hw])]
    exact ⟨fun _ _ => trivial, h⟩

theorem AnyS.first {i : Nat} {oi : Oper} {v : Value} (hi : ops[i]? = some oi) (hns : noDS ops = true) (hQ : ∀ c a w, ¬ Q (.panic c) a w) :
    ∀ (fuel : Nat) (listed : Array Bool) (a : Act) (w : World),
      (∀ j oj, ops[j]? = some oj → j ≠ i → listed.getD j true = false → (∀ e ∈ oj.after, Region.binds .any e = true → e.on ≠ i) → oi.apart ops oj = true) →
      i ∈ Region.ready .any ops listed → YieldsIf P ops S oi v a → S w →
      AnyS ro n P ops Q S fuel (listed.setIfInBounds i true) (a.put oi.dst v) w → AnyS ro n P ops Q S (fuel + 1) listed a w := by
  have hdi := (noDS_spec hns i oi hi).2
  intro fuel
  induction fuel with
  | zero =>
    intro listed a w _ hr hy hS H
    refine ⟨fun h => (by rw [h] at hr; cases hr), fun j hj => ?_⟩
    by_cases hji : j = i
    · subst hji; exact yieldsIf_step hi hdi hy hS ⟨fun _ => hS, H⟩
    · have := ready_mono hj hji
      rw [H.1] at this
      cases this
  | succ fuel ih =>
    intro listed a w hfree hr hy hS H
    refine ⟨fun h => (by rw [h] at hr; cases hr), fun j hj => ?_⟩
    by_cases hji : j = i
    · subst hji; exact yieldsIf_step hi hdi hy hS ⟨fun _ => hS, H⟩
    · have h1 := H.2 j (ready_mono hj hji)
      obtain ⟨hjun, oj, hoj, hall⟩ := mem_ready.1 hj
      have hnot : ∀ e ∈ oj.after, Region.binds .any e = true → e.on ≠ i := fun e he hb heq => by
        have h1 := hall e he hb
        have h0 := (mem_ready.1 hr).1
        rw [heq] at h1
        rcases Nat.lt_or_ge i listed.size with h' | h'
        · simp [h'] at h0 h1; rw [h0] at h1; cases h1
        · simp [Array.getElem?_eq_none h'] at h1
      obtain ⟨hs1, hd1⟩ := noDS_spec hns j oj hoj
      have h2 := opIn_put (i := i) hoj (hfree j oj hoj hji hjun hnot) (noDS_spec hns i oi hi).1 hs1 hd1 hQ hy h1
      have hfree' : ∀ k ok, ops[k]? = some ok → k ≠ i → (listed.setIfInBounds j true).getD k true = false →
          (∀ e ∈ ok.after, Region.binds .any e = true → e.on ≠ i) → oi.apart ops ok = true := fun k ok hk hki hun hno => by
        refine hfree k ok hk hki ?_ hno
        by_cases hjk : j = k
        · subst hjk; exact hjun
        · rw [getD_set_ne true hjk] at hun; exact hun
      refine wpOpIn_mono (fun a' w' h3 => ⟨h3.2.1, ih (listed.setIfInBounds j true) a' w' hfree' (ready_mono hr (Ne.symm hji)) h3.1 (h3.2.1 (lastOp_not hoj (Ne.symm hji) hnot hi)) ?_⟩) h2
      rw [Array.setIfInBounds_comm _ _ hji]
      exact h3.2.2
end

/-- What stays as it is all through a region: the first part of what one owned when it began. -/
def Still (X : Cx) (R0 : RL) (w : World) : Prop := ∃ F, Eff X.w0 X.A0 w (R0.flatten ++ F)
/-- Of a region that draws: what is left to be done (listed: what has been). -/
def GA (X : Cx) (ops : Array Oper) (Q : Post) (R0 : RL) (fuel : Nat) (listed : Array Bool) (L : LT) (R : RL) : Prop :=
  ∀ a w, Ok X a L → Hp X w R → Still X R0 w → AnyS X.ro X.n X.s.P ops Q (Still X R0) fuel listed a w
def NoP (Q : Post) : Prop := ∀ c a w, ¬ Q (.panic c) a w
theorem NoP.then {K : Act → World → Prop} {Q : Post} (h : NoP Q) : NoP (Exit.then K Q) := fun c a w hq => h c a w hq
theorem NoP.block {id : Nat} {Q : Post} (h : NoP Q) : NoP (Exit.inBlock id Q) := fun c a w hq => h c a w hq
theorem NoP.fn {P : Program} {fn : Func} {R : Ending → World → Prop} (h : ∀ c w, ¬ R (.panicked c) w) : NoP (bodyPost P fn R) := fun c a w hq => h c w hq.2
theorem NoP.sp {P : Program} {fn : Func} {Y : Type} {v : Y → Value} {T : Y → World → Prop} {post : Y → Prop} : NoP (bodyPost P fn (fun e w' => ∃ y, post y ∧ e = .returned (v y) ∧ T y w')) :=
  NoP.fn (fun c w ⟨y, _, h, _⟩ => by cases h)

section
variable {X : Cx} {ops : Array Oper} {Q : Post} {L : LT} {R R0 : RL} {fuel : Nat} {listed : Array Bool}

theorem Still.of {X : Cx} {w : World} {R R0 B : RL} (h : (R0 ++ B).Perm R) (H : Hp X w R) : Still X R0 w :=
  ⟨B.flatten, Eff.sel H [] (by rw [List.append_nil, ← List.flatten_append]; exact h.flatten)⟩

theorem gc_draw {id : Nat} {l : List Oper} (R0 B : RL) (hm : X.s.P.follows .mixedOrders = true) (hB : (R0 ++ B).Perm R) (h : GA X l.toArray Q R0 l.length (Array.replicate l.length false) L R) :
    GC X (.region id l.toArray true) Q L R := by
  intro a w ha hE
  have hE' : Hp X { w with drawn := w.drawn + 1 } R := Eff.seq0 hE (Eff.drew w)
  refine wpIn_region_any hm ?_
  have := AnyS.sound _ _ _ _ (h a _ ha hE' (Still.of hB hE'))
  simpa using this

/-- What gives its value whatever memory holds is taken first. -/
theorem ga_p (i : Nat) {d : Nat} {op : Op} {ty : TypeId} {p : String} {af : Array Edge} {v : Value} (hQ : NoP Q) (hi : ops[i]? = some ⟨some d, op, ty, p, af, none⟩) (h : PR X.s.P L ⟨some d, op, ty, p, af, none⟩ v) (hN : Nat.blt d X.N = true)
    (hns : noDS ops = true) (hf : Region.free .any ops listed i = true) (hr : (Region.ready .any ops listed).contains i = true)
    (k : GA X ops Q R0 fuel (listed.setIfInBounds i true) ((d, v) :: L) R) : GA X ops Q R0 (fuel + 1) listed L R := by
  intro a w ha hE hS
  refine AnyS.first hi hns hQ fuel listed a w (Region.free_spec hi hf) (by simpa using hr) (.inl ⟨rfl, fun w' _ => h _ w' (fun x u hx => ha.kn.ev hx)⟩) hS ?_
  exact k _ w (ha.put hN v) hE hS

/-- The same behind a guard that says yes. -/
theorem ga_py (i : Nat) {d j t : Nat} {want : Bool} {op : Op} {ty : TypeId} {p : String} {af : Array Edge} {v : Value} (hQ : NoP Q) (hi : ops[i]? = some ⟨some d, op, ty, p, af, some (j, want)⟩) (hj : (ops[j]?).bind (·.dst) = some t) (hNt : Nat.blt t X.N = true) (hb : lk L t = some (.bool want))
    (h : PR X.s.P L ⟨some d, op, ty, p, af, none⟩ v) (hN : Nat.blt d X.N = true)
    (hns : noDS ops = true) (hf : Region.free .any ops listed i = true) (hr : (Region.ready .any ops listed).contains i = true)
    (k : GA X ops Q R0 fuel (listed.setIfInBounds i true) ((d, v) :: L) R) : GA X ops Q R0 (fuel + 1) listed L R := by
  intro a w ha hE hS
  have hlt : t < a.tmps.size := by rw [ha.size]; exact Nat.lt_of_lt_of_le (Nat.lt_succ_self t) (Nat.le_of_ble_eq_true hNt)
  have hv : a.tmps[t]? = some (.bool want) := by
    have := ha.kn _ _ hb
    rw [Array.getD_eq_getD_getElem?, Array.getElem?_eq_getElem hlt, Option.getD_some] at this
    rw [Array.getElem?_eq_getElem hlt, this]
  have hw : Region.wanted ⟨some d, op, ty, p, af, some (j, want)⟩ (yielded ops a.tmps) = true := by simp [Region.wanted, yielded, hj, hv]
  refine AnyS.first hi hns hQ fuel listed a w (Region.free_spec hi hf) (by simpa using hr) (.inl ⟨hw, fun w' _ => h _ w' (fun x u hx => ha.kn.ev hx)⟩) hS ?_
  exact k _ w (ha.put hN v) hE hS

/-- Behind a guard that says no. -/
theorem ga_n (i : Nat) {d j t : Nat} {want : Bool} {u : Value} {op : Op} {ty : TypeId} {p : String} {af : Array Edge} (hQ : NoP Q) (hi : ops[i]? = some ⟨some d, op, ty, p, af, some (j, want)⟩) (hj : (ops[j]?).bind (·.dst) = some t) (hNt : Nat.blt t X.N = true) (hb : lk L t = some u) (hne : (match u with | .bool b => b == want | _ => false) = false)
    (hN : Nat.blt d X.N = true) (hns : noDS ops = true) (hf : Region.free .any ops listed i = true) (hr : (Region.ready .any ops listed).contains i = true)
    (k : GA X ops Q R0 fuel (listed.setIfInBounds i true) ((d, undef) :: L) R) : GA X ops Q R0 (fuel + 1) listed L R := by
  intro a w ha hE hS
  have hlt : t < a.tmps.size := by rw [ha.size]; exact Nat.lt_of_lt_of_le (Nat.lt_succ_self t) (Nat.le_of_ble_eq_true hNt)
  have hv : a.tmps[t]? = some u := by
    have := ha.kn _ _ hb
    rw [Array.getD_eq_getD_getElem?, Array.getElem?_eq_getElem hlt, Option.getD_some] at this
    rw [Array.getElem?_eq_getElem hlt, this]
  have hw : Region.wanted ⟨some d, op, ty, p, af, some (j, want)⟩ (yielded ops a.tmps) = false := by
    simp only [Region.wanted, yielded, hj, hv, Option.bind_some]
    cases u with
    | bool b => have : b ≠ want := fun h => by subst h; simp at hne
                simp [this]
    | _ => rfl
  refine AnyS.first hi hns hQ fuel listed a w (Region.free_spec hi hf) (by simpa using hr) (.inr ⟨hw, rfl⟩) hS ?_
  exact k _ w (ha.put hN undef) hE hS

/-- A load of what stays as it is. -/
theorem ga_ldG (i : Nat) {d : Nat} {t : TypeId} {x : Operand} {ty : TypeId} {p : String} {af : Array Edge} {g : Option (Nat × Bool)} {v : Value} {ti : Ti} {b o : Nat} {cs : List Value} (hQ : NoP Q) (hi : ops[i]? = some ⟨some d, .load t x, ty, p, af, g⟩)
    (hg : ∀ a, Ok X a L → Region.wanted ⟨some d, .load t x, ty, p, af, g⟩ (yielded ops a.tmps) = true) (hx : ev L x = some (.pointer (some ⟨b, o, none⟩))) (ht : tl X.s.tab t = some ti) (hl : cs.length = ti.sz) (hv : asV ti.k cs = some v)
    (hc : ∀ w, Still X R0 w → ∀ j u, cs[j]? = some u → w.cell? ⟨b, o + j, none⟩ = some u)
    (hN : Nat.blt d X.N = true) (hns : noDS ops = true) (hf : Region.free .any ops listed i = true) (hr : (Region.ready .any ops listed).contains i = true)
    (k : GA X ops Q R0 fuel (listed.setIfInBounds i true) ((d, v) :: L) R) : GA X ops Q R0 (fuel + 1) listed L R := by
  intro a w ha hE hS
  refine AnyS.first (v := v) hi hns hQ fuel listed a w (Region.free_spec hi hf) (by simpa using hr) (.inl ⟨hg a ha, fun w' hS' => ?_⟩) hS ?_
  · simp only [execOp]
    rw [ha.kn.ev hx]
    simp [run_loadAt (X.s.ok.at ht) hl hv (hc w' hS')]
  · exact k _ w (ha.put hN v) hE hS

theorem wanted_none {ops : Array Oper} {d : Option Tmp} {op : Op} {ty : TypeId} {p : String} {af : Array Edge} {X : Cx} {L : LT} : ∀ a, Ok X a L → Region.wanted ⟨d, op, ty, p, af, none⟩ (yielded ops a.tmps) = true := fun _ _ => rfl
theorem wanted_yes {d : Option Tmp} {op : Op} {ty : TypeId} {p : String} {af : Array Edge} {j t : Nat} {want : Bool} (hj : (ops[j]?).bind (·.dst) = some t) (hNt : Nat.blt t X.N = true) (hb : lk L t = some (.bool want)) :
    ∀ a, Ok X a L → Region.wanted ⟨d, op, ty, p, af, some (j, want)⟩ (yielded ops a.tmps) = true := fun a ha => by
  have hlt : t < a.tmps.size := by rw [ha.size]; exact Nat.lt_of_lt_of_le (Nat.lt_succ_self t) (Nat.le_of_ble_eq_true hNt)
  have hv : a.tmps[t]? = some (.bool want) := by
    have := ha.kn _ _ hb
    rw [Array.getD_eq_getD_getElem?, Array.getElem?_eq_getElem hlt, Option.getD_some] at this
    rw [Array.getElem?_eq_getElem hlt, this]
  simp [Region.wanted, yielded, hj, hv]

theorem still_cell {X : Cx} {w : World} {R0 : RL} (H : Still X R0 w) {i b : Nat} {o : Obj} {A : HL} (hR : R0[i]? = some ((b, o) :: A)) : w.heap[b]? = some o := by
  obtain ⟨F, E⟩ := H
  exact E.holds b o (List.mem_append_left _ (List.mem_flatten.2 ⟨_, List.mem_of_getElem? hR, List.mem_cons_self⟩))
theorem still_old {X : Cx} {w : World} {R0 : RL} (H : Still X R0 w) : Hle (Oldh X) (hw w) := fun _ _ h => by
  obtain ⟨F, E⟩ := H
  exact old_hw E h

/-- Own block number q (of what stays) is read. -/
theorem ga_ld (i q : Nat) {d : Nat} {t : TypeId} {x : Operand} {ty : TypeId} {p : String} {af : Array Edge} {g : Option (Nat × Bool)} {v : Value} {ti : Ti} {b o : Nat} {l cs : List Value} {e : TypeId} {fz : Nat × Nat} {A : HL} (hQ : NoP Q) (hi : ops[i]? = some ⟨some d, .load t x, ty, p, af, g⟩)
    (hg : ∀ a, Ok X a L → Region.wanted ⟨some d, .load t x, ty, p, af, g⟩ (yielded ops a.tmps) = true) (hR : R0[q]? = some ((b, .cells ⟨l⟩ e fz) :: A)) (hx : ev L x = some (.pointer (some ⟨b, o, none⟩))) (ht : tl X.s.tab t = some ti)
    (hc : takeC l o ti.sz = some cs) (hv : asV ti.k cs = some v)
    (hN : Nat.blt d X.N = true) (hns : noDS ops = true) (hf : Region.free .any ops listed i = true) (hr : (Region.ready .any ops listed).contains i = true)
    (k : GA X ops Q R0 fuel (listed.setIfInBounds i true) ((d, v) :: L) R) : GA X ops Q R0 (fuel + 1) listed L R := by
  obtain ⟨h1, h2⟩ := takeC_spec _ _ _ _ hc
  refine ga_ldG i hQ hi hg hx ht h1 hv (fun w hS j u hj => ?_) hN hns hf hr k
  have hb := still_cell hS hR
  simp only [World.cell?, hb]
  simpa using h2 j u hj

/-- Old memory is read. -/
theorem ga_ldO (i : Nat) {d : Nat} {t : TypeId} {x : Operand} {ty : TypeId} {p : String} {af : Array Edge} {g : Option (Nat × Bool)} {v : Value} {ti : Ti} {b o : Nat} {cs : List Value} (hQ : NoP Q) (hi : ops[i]? = some ⟨some d, .load t x, ty, p, af, g⟩)
    (hg : ∀ a, Ok X a L → Region.wanted ⟨some d, .load t x, ty, p, af, g⟩ (yielded ops a.tmps) = true) (hx : ev L x = some (.pointer (some ⟨b, o, none⟩))) (ht : tl X.s.tab t = some ti) (hl : cs.length = ti.sz) (hv : asV ti.k cs = some v)
    (hc : ∀ j u, cs[j]? = some u → cellAt (Oldh X) b (o + j) = some u)
    (hN : Nat.blt d X.N = true) (hns : noDS ops = true) (hf : Region.free .any ops listed i = true) (hr : (Region.ready .any ops listed).contains i = true)
    (k : GA X ops Q R0 fuel (listed.setIfInBounds i true) ((d, v) :: L) R) : GA X ops Q R0 (fuel + 1) listed L R :=
  ga_ldG i hQ hi hg hx ht hl hv (fun w hS j u hj => by rw [← cellAt_hw]; exact (still_old hS).cell (hc j u hj)) hN hns hf hr k

theorem p_pickT {d : Nat} {x y c : Operand} {t : TypeId} {p : String} {af : Array Edge} {u : Value} (hc : ev L c = some (.bool true)) (hv : ev L x = some u) : PR X.s.P L (⟨some d, .pick c x y, t, p, af, none⟩ : Oper) u := p_pick hc (fun _ => hv) (fun h => by cases h)
theorem p_pickF {d : Nat} {x y c : Operand} {t : TypeId} {p : String} {af : Array Edge} {u : Value} (hc : ev L c = some (.bool false)) (hv : ev L y = some u) : PR X.s.P L (⟨some d, .pick c x y, t, p, af, none⟩ : Oper) u := p_pick hc (fun h => by cases h) (fun _ => hv)
theorem ga_eq (t : Nat) {u u' : Value} (h : lk L t = some u) (e : u = u') (k : GA X ops Q R0 fuel listed ((t, u') :: L) R) : GA X ops Q R0 fuel listed L R := by
  subst e
  intro a w ha hE hS
  exact k a w (ok_put ha h) hE hS
theorem ga_case {t : Nat} {b : Bool} (hb : lk L t = some (.bool b)) (ht : b = true → GA X ops Q R0 fuel listed ((t, .bool true) :: L) R) (hf : b = false → GA X ops Q R0 fuel listed ((t, .bool false) :: L) R) : GA X ops Q R0 fuel listed L R := by
  intro a w ha hE hS
  cases b with
  | true => exact ht rfl a w (ok_put ha hb) hE hS
  | false => exact hf rfl a w (ok_put ha hb) hE hS
/-- An element's address, of old memory. -/
theorem ga_at (i i2 : Nat) {α : Type} {d d1 : Nat} {t t2 ty ty1 : TypeId} {p p1 : String} {af af1 : Array Edge} {gd gd1 : Option (Nat × Bool)} {x y : Operand} {e : TypeId} {z v : Value} {s b : Nat} {te : Ti} {ik : IntKind} {iv : Int} {A : Option Addr} {n c : Nat} {f : α → List Value} {l : List α} {u : α}
    (hQ : NoP Q) (hi : ops[i]? = some ⟨some d1, .indexAddr t x y, ty1, p1, af1, gd1⟩) (hg1 : ∀ a, Ok X a L → Region.wanted ⟨some d1, .indexAddr t x y, ty1, p1, af1, gd1⟩ (yielded ops a.tmps) = true)
    (hi2 : ops[i2]? = some ⟨some d, .load t2 (.tmp d1), ty, p, af, gd⟩)
    (hg : ∀ a v, Ok X a ((d1, v) :: L) → Region.wanted ⟨some d, .load t2 (.tmp d1), ty, p, af, gd⟩ (yielded ops a.tmps) = true)
    (hx : ev L x = some (.slice A n c)) (hy : ev L y = some (.int ik iv)) (ht : tl X.s.tab t = some ⟨.slice e, z, s, b⟩) (hte : tl X.s.tab e = some te) (he : Nat.beq t2 e = true)
    (h0 : 0 ≤ iv) (h1 : iv < n) (hr : ∀ w, Still X R0 w → Rd (hw w) f te.sz A l) (hl : l[iv.toNat]? = some u) (hs : (f u).length = te.sz) (hv : asV te.k (f u) = some v) (hN1 : Nat.blt d1 X.N = true) (hN : Nat.blt d X.N = true)
    (hns : noDS ops = true) (hf : Region.free .any ops listed i = true) (hrd : (Region.ready .any ops listed).contains i = true)
    (hf2 : Region.free .any ops (listed.setIfInBounds i true) i2 = true) (hrd2 : (Region.ready .any ops (listed.setIfInBounds i true)).contains i2 = true)
    (k : ∀ a, GA X ops Q R0 fuel ((listed.setIfInBounds i true).setIfInBounds i2 true) ((d, v) :: (d1, .pointer (some a)) :: L) R) : GA X ops Q R0 (fuel + 1 + 1) listed L R := by
  obtain rfl := Nat.eq_of_beq_eq_true he
  intro a w ha hE hS
  obtain ⟨bx, o, rfl, hc⟩ := hr w hS _ _ hl
  have hp : PR X.s.P L ⟨some d1, .indexAddr t x y, ty1, p1, af1, none⟩ (.pointer (some ⟨bx, o + iv.toNat * te.sz, none⟩)) := p_ix hx hy ht hte h0 h1
  refine AnyS.first hi hns hQ _ listed a w (Region.free_spec hi hf) (by simpa using hrd) (.inl ⟨hg1 a ha, fun w' _ => hp _ w' (fun x u hx => ha.kn.ev hx)⟩) hS ?_
  exact ga_ldG (R := R) i2 hQ hi2 (fun a' ha' => hg a' _ ha') (lk_hd d1 _ L) hte hs hv (fun w' hS' j u' hj => by
    obtain ⟨b2, o2, hA2, hc2⟩ := hr w' hS' _ _ hl
    cases hA2
    rw [← cellAt_hw]; exact hc2 j u' hj) hN hns hf2 hrd2 (k _) _ w (ha.put hN1 _) hE hS

/-- What is owned and stays, as a row. -/
theorem still_rd {X : Cx} {R0 : RL} {α : Type} {e : TypeId} {sz : Nat} {f : α → List Value} {v : Value} {l : List α} {A : HL} {ad : Option Addr} {n cap : Nat} (i : Nat) (hR : R0[i]? = some A) (hf : ∀ x, (f x).length = sz) (ho : OwnL e sz f v l A) (hv : v = .slice ad n cap) :
    ∀ w, Still X R0 w → Rd (hw w) f sz ad l := by
  intro w ⟨F, E⟩
  rcases ho.2 with ⟨rfl, h2, h3⟩ | ⟨g, cap', rest, rfl, rfl, h3, h4, h5⟩
  · have := List.eq_nil_of_length_eq_zero h2
    subst this
    exact fun i x hx => by simp at hx
  · cases hv
    have hg : w.heap[g]? = _ := E.holds g _ (List.mem_append_left _ (List.mem_flatten.2 ⟨_, List.mem_of_getElem? hR, List.mem_cons_self⟩))
    refine fun i x hx => ⟨g, 0, rfl, fun j u hj => ?_⟩
    simp only [cellAt, hw, hg]
    have h6 := flat_get hf l i x hx j u hj
    have : (l.flatMap f ++ rest)[0 + i * sz + j]? = some u := by
      rw [Nat.zero_add, List.getElem?_append_left (List.getElem?_eq_some_iff.1 h6).1]; exact h6
    simpa using this
theorem still_rdO {X : Cx} {R0 : RL} {α : Type} {sz : Nat} {f : α → List Value} {l : List α} {ad : Option Addr} (hr : Rd (Oldh X) f sz ad l) : ∀ w, Still X R0 w → Rd (hw w) f sz ad l := fun w hS => hr.le (still_old hS)

/-- Nothing is left. -/
theorem ga_nil (hr : Region.ready .any ops listed = []) (k : GQ X Q .normal L R) : GA X ops Q R0 fuel listed L R := by
  intro a w ha hE hS
  cases fuel with
  | zero => exact ⟨hr, k a w ha hE⟩
  | succ n => exact ⟨fun _ => k a w ha hE, fun i hi => by rw [hr] at hi; cases hi⟩

/-- One step of operation i, whatever its rule G. -/
def GS (X : Cx) (ops : Array Oper) (Q : Post) (R0 : RL) (fuel : Nat) (listed : Array Bool) (i : Nat) (L : LT) (R : RL) : Prop :=
  ∀ a w, Ok X a L → Hp X w R → wpOpIn (Fr X.ro) X.n X.s.P ops Q i (fun a' w' => (lastOp ops i = false → Still X R0 w') ∧ AnyS X.ro X.n X.s.P ops Q (Still X R0) fuel (listed.setIfInBounds i true) a' w') a w
theorem ga_all {rs : List Nat} (hr : Region.ready .any ops listed = rs) (hne : rs ≠ []) (k : ∀ i, i ∈ rs → GS X ops Q R0 fuel listed i L R) : GA X ops Q R0 (fuel + 1) listed L R := by
  intro a w ha hE hS
  refine ⟨fun h => absurd (hr ▸ h) hne, fun q hq => ?_⟩
  rw [hr] at hq
  exact k q hq a w ha hE
theorem ga_one {i : Nat} (hr : Region.ready .any ops listed = [i]) (k : GS X ops Q R0 fuel listed i L R) : GA X ops Q R0 (fuel + 1) listed L R :=
  ga_all hr (by simp) (fun j hj => by
    have : j = i := by simpa using hj
    subst this; exact k)
theorem ga_two {i j : Nat} (hr : Region.ready .any ops listed = [i, j]) (k1 : GS X ops Q R0 fuel listed i L R) (k2 : GS X ops Q R0 fuel listed j L R) : GA X ops Q R0 (fuel + 1) listed L R :=
  ga_all hr (by simp) (fun q hq => by
    have : q = i ∨ q = j := by simpa using hq
    rcases this with h | h
    · rw [h]; exact k1
    · rw [h]; exact k2)

theorem op_of {i : Nat} {o : Oper} {K : Act → World → Prop} {a : Act} {w : World} (hi : ops[i]? = some o) (h1 : wpListIn (Fr X.ro) X.n X.s.P ops (Exit.then K Q) [o] a w) : wpOpIn (Fr X.ro) X.n X.s.P ops Q i K a w := by
  unfold wpOpIn
  simp only [hi]
  simp only [wpListIn] at h1
  split
  · rename_i hw
    rw [if_pos hw] at h1
    refine ⟨h1.1, ?_⟩
    have h2 := h1.2
    generalize ((o.semAt (Fr X.ro).round a.eval).run X.s.P w) = r at h2 ⊢
    cases r with
    | ok x w' => cases x <;> simp only [Oper.uponIn] at h2 ⊢ <;> first | exact h2 | exact ⟨h2.1, CallsIn.mono h2.2 (fun e w'' he => by cases e <;> exact he)⟩ | exact ⟨h2.1, RoundIn.mono h2.2 (fun e w'' he => by cases e <;> exact he)⟩
    | halt x w' => cases x <;> simp only [Oper.uponIn] at h2 ⊢ <;> exact h2
  · rename_i hw
    rw [if_neg hw] at h1
    exact h1
/-- An operation's own rule serves for a step of a region that draws: give it the region as what is left behind it. -/
theorem gs_of {i : Nat} {o : Oper} (hi : ops[i]? = some o)
    (h : ∀ K : Act → World → Prop, (∀ L' R', (∃ B : RL, (R0 ++ B).Perm R') → GA X ops Q R0 fuel (listed.setIfInBounds i true) L' R' → GQ X (Exit.then K Q) .normal L' R') → G X ops (Exit.then K Q) [o] L R) : GS X ops Q R0 fuel listed i L R := by
  intro a w ha hE
  have h1 := h (fun a' w' => (lastOp ops i = false → Still X R0 w') ∧ AnyS X.ro X.n X.s.P ops Q (Still X R0) fuel (listed.setIfInBounds i true) a' w') (fun L' R' ⟨B, hB⟩ hk a' w' ha' hE' => ⟨fun _ => Still.of hB hE', hk a' w' ha' hE' (Still.of hB hE')⟩) a w ha hE
  exact op_of hi h1
/-- The last operation: what stays need not stay any more. -/
theorem gs_last {i : Nat} {o : Oper} (hi : ops[i]? = some o) (hl : lastOp ops i = true) (hr : Region.ready .any ops (listed.setIfInBounds i true) = []) (h : ∀ K : Act → World → Prop, (∀ L' R', GQ X Q .normal L' R' → GQ X (Exit.then K Q) .normal L' R') → G X ops (Exit.then K Q) [o] L R) : GS X ops Q R0 fuel listed i L R := by
  intro a w ha hE
  have h1 := h (fun a' w' => (lastOp ops i = false → Still X R0 w') ∧ AnyS X.ro X.n X.s.P ops Q (Still X R0) fuel (listed.setIfInBounds i true) a' w') (fun L' R' hk a' w' ha' hE' => ⟨fun h => (by rw [hl] at h; cases h), by
    cases fuel with
    | zero => exact ⟨hr, hk a' w' ha' hE'⟩
    | succ n => exact ⟨fun _ => hk a' w' ha' hE', fun i hi => by rw [hr] at hi; cases hi⟩⟩) a w ha hE
  exact op_of hi h1
end
end Go.Wk
