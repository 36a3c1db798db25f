/-
  Operations whose value needs no memory, told by one function.
  Regions that draw their order: what only reads is taken first; the rest in every order.
  tac: within, Writes, Reads.
  The library's IndexFunc, DeleteFunc at []int; tac.Next.
-/
import Derived.Test.YtpmkkmahimdjkaaZ4
import Derived.OrdersIn
import Derived.OrdersHeld

/- Operations whose value needs no memory, told by one function. -/
namespace Go.Wk
set_option linter.unusedVariables false
set_option linter.unusedSimpArgs false

def pcall (X : Cx) (L : LT) : Builtin → List Operand → List TypeId → Option Value
  | .len, [x], [t] => match ev L x, tl X.s.tab t with
    | some (.slice A n c), some ⟨.slice e, z, s, b⟩ => some (.int .i64 n)
    | some (.string A), some ⟨.string, z, s, b⟩ => some (.int .i64 A.size)
    | _, _ => none
  | .max, [x, y], _ => match ev L x, ev L y with
    | some (.int ik a), some (.int ik' b) => if ik = ik' then some (.int ik (if b > a then b else a)) else none
    | _, _ => none
  | .min, [x, y], _ => match ev L x, ev L y with
    | some (.int ik a), some (.int ik' b) => if ik = ik' then some (.int ik (if b < a then b else a)) else none
    | _, _ => none
  | _, _, _ => none

def pfld (X : Cx) (b o : Nat) (fs : List (Nat × TypeId)) (i : Nat) : Option Value := match fs[i]? with
  | some (off, ft) => match tl X.s.tab ft with
    | some tf => match Nat.beq tf.sz 0 with
      | false => some (.pointer (some ⟨b, o + off, none⟩))
      | true => none
    | none => none
  | none => none

def pv (X : Cx) (L : LT) : Op → Option Value
  | .move x => ev L x
  | .assign x => ev L x
  | .nilCheck x => match ev L x with
    | some (.pointer (some a)) => some (.pointer (some a))
    | _ => none
  | .pick c x y => match ev L c with
    | some (.bool true) => ev L x
    | some (.bool false) => ev L y
    | _ => none
  | .binOp op t x y yt => match ev L x, ev L y with
    | some (.int ik a), some (.int ik' b) => if ik = ik' then ibin op ik a b else none
    | _, _ => none
  | .unOp .not xt x => match ev L x with
    | some (.bool b) => some (.bool !b)
    | _ => none
  | .unOp .neg xt x => match ev L x with
    | some (.int ik a) => some (.int ik (ik.wrap (0 - a)))
    | _ => none
  | .extract x i => match ev L x with
    | some (.tuple vs) => vs[i]?
    | _ => none
  | .convert src dst x => match ev L x, tl X.s.tab dst, tl X.s.tab src with
    | some (.int k1 a), some ⟨.int k2, z, s, b⟩, some ⟨.int k1', z', s', b'⟩ => if k1 = k1' then some (.int k2 (k2.wrap a)) else none
    | _, _, _ => none
  | .makeFunc fn f1 cp => match evs L f1.toList, evs L cp.toList with
    | some vs, some us => some (.func fn vs.toArray us.toArray)
    | _, _ => none
  | .fieldAddr st x i => match ev L x, tl X.s.tab st with
    | some (.pointer (some ⟨b, o, none⟩)), some ⟨.struct fs, z, sz, by'⟩ => pfld X b o fs i
    | _, _ => none
  | .call ⟨.builtin f, xs, ts⟩ => pcall X L f xs.toList ts.toList
  | _ => none

section
variable {X : Cx} {ops : Array Oper} {Q : Post} {rest : List Oper} {L : LT} {R : RL} {d : Nat} {op : Op} {ty : TypeId} {p : String} {af : Array Edge} {v : Value}
theorem pv_spec (h : pv X L op = some v) : PR X.s.P L ⟨some d, op, ty, p, af, none⟩ v := by
  unfold pv at h
  split at h
  · exact p_move h
  · exact p_assign h
  · split at h
    · cases h; exact p_nil? (by assumption)
    · cases h
  · split at h
    · exact p_pick (by assumption) (fun _ => h) (fun h => by cases h)
    · exact p_pick (by assumption) (fun h => by cases h) (fun _ => h)
    · cases h
  · split at h
    · split at h
      · rename_i e; subst e; exact p_bin (by assumption) (by assumption) h
      · cases h
    · cases h
  · split at h
    · cases h; exact p_unot (by assumption)
    · cases h
  · split at h
    · cases h; exact p_uneg (by assumption)
    · cases h
  · split at h
    · exact p_ext (by assumption) h
    · cases h
  · split at h
    · split at h
      · rename_i e; subst e; cases h; exact p_conv (by assumption) (by assumption) (by assumption)
      · cases h
    · cases h
  · split at h
    · cases h; exact p_mkfn (by assumption) (by assumption)
    · cases h
  · split at h
    · unfold pfld at h
      split at h
      · split at h
        · split at h
          · cases h; exact p_fld (by assumption) (by assumption) (by assumption) (by assumption) (by assumption)
          · cases h
        · cases h
      · cases h
    · cases h
  · rename_i f xs ts
    obtain ⟨xs⟩ := xs
    obtain ⟨ts⟩ := ts
    dsimp only at h
    unfold pcall at h
    split at h
    · split at h
      · cases h; exact p_lenS (by assumption) (by assumption)
      · cases h; exact p_lenT (by assumption) (by assumption)
      · cases h
    · split at h
      · split at h
        · rename_i e; subst e; cases h; exact p_max (by assumption) (by assumption)
        · cases h
      · cases h
    · split at h
      · split at h
        · rename_i e; subst e; cases h; exact p_min (by assumption) (by assumption)
        · cases h
      · cases h
    · cases h
  · cases h

theorem g_pv (h : pv X L op = some v) (hN : Nat.blt d X.N = true) (k : G X ops Q rest ((d, v) :: L) R) : G X ops Q (⟨some d, op, ty, p, af, none⟩ :: rest) L R :=
  g_p (pv_spec h) hN k (by intro c hc; subst hc; simp [pv] at h)
end
end Go.Wk

/- Regions that draw their order: what only reads is taken first; the rest in every order. -/
namespace Go.Wk
set_option linter.unusedVariables false
set_option linter.unusedSimpArgs false

section
variable {ro : Option Nat} {n : Nat} {P : Program} {ops : Array Oper} {Q : Post} {S : World → Prop}

def noDS (ops : Array Oper) : Bool := ops.all fun o => match o.op with | .select .. => false | .defer _ => false | _ => true
theorem noDS_spec (h : noDS ops = true) (j : Nat) (o : Oper) (ho : ops[j]? = some o) : (∀ cs b, o.op ≠ .select cs b) ∧ (∀ c, o.op ≠ .defer c) := by
  have hm : o ∈ ops := Array.mem_of_getElem? ho
  have := Array.all_eq_true'.1 h o hm
  constructor
  · intro cs b he; rw [he] at this; simp at this
  · intro c he; rw [he] at this; simp at this

theorem opIn_put {i j : Nat} {oi oj : Oper} {v : Value} (hj : ops[j]? = some oj) (hap : oi.apart ops oj = true) (hsi : ∀ cs b, oi.op ≠ .select cs b) (hsj : ∀ cs b, oj.op ≠ .select cs b) (hdj : ∀ c, oj.op ≠ .defer c)
    (hQ : ∀ c a w, ¬ Q (.panic c) a w) {K : Act → World → Prop} {a : Act} {w : World} (hy : YieldsIf P ops S oi v a) (h : wpOpIn (Fr ro) n P ops Q j K (a.put oi.dst v) w) :
    wpOpIn (Fr ro) n P ops Q j (fun a' w' => YieldsIf P ops S oi v a' ∧ K (a'.put oi.dst v) w') a w := by
  obtain ⟨h1, h2, h3⟩ := Oper.apart_spec hap
  have keep : ∀ u, YieldsIf P ops S oi v (a.put oj.dst u) := fun u => hy.of_same (execOp_put oi hsi a oj.dst u h3) (wanted_put oi a oj.dst u h3)
  have comm : ∀ u, (a.put oi.dst v).put oj.dst u = (a.put oj.dst u).put oi.dst v := fun u => Act.put_comm a v u h2
  unfold wpOpIn at h ⊢
  simp only [hj] at h ⊢
  rw [wanted_put oj a oi.dst v h1] at h
  split
  · rename_i hw
    rw [if_pos hw] at h
    refine ⟨fun _ _ => trivial, ?_⟩
    have h' := h.2
    rw [Oper.semAt_eq _ _ _ hdj] at h' ⊢
    rw [execOp_put oj hsj a oi.dst v h1] at h'
    generalize (execOp a.eval oj).run P w = r at h' ⊢
    cases r with
    | halt x w' => cases x <;> simp only [Oper.uponIn] at h' ⊢; exact absurd h' (hQ _ _ _)
    | ok x w' =>
      cases x <;> simp only [Oper.uponIn] at h' ⊢
      case value u => exact ⟨keep u, by rw [← comm]; exact h'⟩
      case skip => exact ⟨keep _, by rw [← comm]; exact h'⟩
      case defer d =>
        refine ⟨?_, ?_⟩
        · have hd : YieldsIf P ops S oi v { a with defers := d :: a.defers } := hy.of_same rfl rfl
          exact hd.of_same (execOp_put oi hsi _ oj.dst undef h3) (wanted_put oi _ oj.dst undef h3)
        · rw [← Act.put_comm _ v undef h2, ← Act.put_defers]; exact h'
      case enter f args =>
        refine ⟨h'.1, CallsIn.mono h'.2 fun e w'' he => ?_⟩
        cases e with
        | returned u => exact ⟨keep u, by rw [← comm]; exact he⟩
        | panicked c => exact absurd he (hQ _ _ _)
        | outgrown => exact he
      case row row args => exact ⟨h'.1, RowsIn.mono h'.2 fun u w'' he => ⟨keep u, by rw [← comm]; exact he⟩⟩
      case round l f tmps av body =>
        refine ⟨h'.1, RoundIn.mono h'.2 fun e w'' he => ?_⟩
        cases e with
        | returned u => exact ⟨keep u, by rw [← comm]; exact he⟩
        | panicked c => exact absurd he (hQ _ _ _)
        | outgrown => exact he
  · rename_i hw
    rw [if_neg hw] at h
    exact ⟨fun _ _ => trivial, keep _, by rw [← comm]; exact h.2⟩

/-- An operation that waits for all others by its own word. -/
def lastOp (ops : Array Oper) (j : Nat) : Bool := match ops[j]? with
  | some o => (List.range ops.size).all fun k => k == j || o.after.any fun e => Region.binds .any e && e.on == k
  | none => false
theorem lastOp_not {i j : Nat} {oi oj : Oper} (hj : ops[j]? = some oj) (hij : i ≠ j) (hnot : ∀ e ∈ oj.after, Region.binds .any e = true → e.on ≠ i) (hi : ops[i]? = some oi) : lastOp ops j = false := by
  cases h : lastOp ops j with
  | false => rfl
  | true =>
    unfold lastOp at h
    simp only [hj, List.all_eq_true, List.mem_range, Bool.or_eq_true, beq_iff_eq] at h
    have hlt : i < ops.size := (Array.getElem?_eq_some_iff.1 hi).1
    rcases h i hlt with h1 | h1
    · exact absurd h1 hij
    · obtain ⟨e, he, hb⟩ := Array.any_eq_true'.1 h1
      simp only [Bool.and_eq_true, beq_iff_eq] at hb
      exact absurd hb.2 (hnot e he hb.1)
/-- Whatever order is drawn from here on; S holds behind each step. -/
def AnyS (ro : Option Nat) (n : Nat) (P : Program) (ops : Array Oper) (Q : Post) (S : World → Prop) : Nat → Array Bool → Act → World → Prop
  | 0, listed, a, w => Region.ready .any ops listed = [] ∧ Q .normal a w
  | fuel + 1, listed, a, w =>
    (Region.ready .any ops listed = [] → Q .normal a w) ∧
    ∀ i ∈ Region.ready .any ops listed, wpOpIn (Fr ro) n P ops Q i (fun a' w' => (lastOp ops i = false → S w') ∧ AnyS ro n P ops Q S fuel (listed.setIfInBounds i true) a' w') a w

theorem AnyS.sound : ∀ (fuel : Nat) (listed : Array Bool) (a : Act) (w : World), AnyS ro n P ops Q S fuel listed a w → wpAnyIn (Fr ro) n P .any ops Q fuel listed a w
  | 0, _, _, _, h => h
  | fuel + 1, _, _, _, h => ⟨h.1, fun i hi => wpOpIn_mono (fun a' w' h' => AnyS.sound fuel _ a' w' h'.2) (h.2 i hi)⟩

theorem yieldsIf_step {i : Nat} {oi : Oper} {v : Value} {a : Act} {w : World} (hi : ops[i]? = some oi) (hd : ∀ c, oi.op ≠ .defer c) (hy : YieldsIf P ops S oi v a) (hS : S w) {K : Act → World → Prop} (h : K (a.put oi.dst v) w) :
    wpOpIn (Fr ro) n P ops Q i K a w := by
  unfold wpOpIn
  simp only [hi]
  rcases hy with ⟨hw, hv⟩ | ⟨hw, rfl⟩
  · rw [if_pos hw]
    refine ⟨fun _ _ => trivial, ?_⟩
    rw [Oper.semAt_eq _ _ _ hd, hv w hS]
    exact h
  · rw [if_neg (by simp [hw])]
    exact ⟨fun _ _ => trivial, h⟩

theorem AnyS.first {i : Nat} {oi : Oper} {v : Value} (hi : ops[i]? = some oi) (hns : noDS ops = true) (hQ : ∀ c a w, ¬ Q (.panic c) a w) :
    ∀ (fuel : Nat) (listed : Array Bool) (a : Act) (w : World),
      (∀ j oj, ops[j]? = some oj → j ≠ i → listed.getD j true = false → (∀ e ∈ oj.after, Region.binds .any e = true → e.on ≠ i) → oi.apart ops oj = true) →
      i ∈ Region.ready .any ops listed → YieldsIf P ops S oi v a → S w →
      AnyS ro n P ops Q S fuel (listed.setIfInBounds i true) (a.put oi.dst v) w → AnyS ro n P ops Q S (fuel + 1) listed a w := by
  have hdi := (noDS_spec hns i oi hi).2
  intro fuel
  induction fuel with
  | zero =>
    intro listed a w _ hr hy hS H
    refine ⟨fun h => (by rw [h] at hr; cases hr), fun j hj => ?_⟩
    by_cases hji : j = i
    · subst hji; exact yieldsIf_step hi hdi hy hS ⟨fun _ => hS, H⟩
    · have := ready_mono hj hji
      rw [H.1] at this
      cases this
  | succ fuel ih =>
    intro listed a w hfree hr hy hS H
    refine ⟨fun h => (by rw [h] at hr; cases hr), fun j hj => ?_⟩
    by_cases hji : j = i
    · subst hji; exact yieldsIf_step hi hdi hy hS ⟨fun _ => hS, H⟩
    · have h1 := H.2 j (ready_mono hj hji)
      obtain ⟨hjun, oj, hoj, hall⟩ := mem_ready.1 hj
      have hnot : ∀ e ∈ oj.after, Region.binds .any e = true → e.on ≠ i := fun e he hb heq => by
        have h1 := hall e he hb
        have h0 := (mem_ready.1 hr).1
        rw [heq] at h1
        rcases Nat.lt_or_ge i listed.size with h' | h'
        · simp [h'] at h0 h1; rw [h0] at h1; cases h1
        · simp [Array.getElem?_eq_none h'] at h1
      obtain ⟨hs1, hd1⟩ := noDS_spec hns j oj hoj
      have h2 := opIn_put (i := i) hoj (hfree j oj hoj hji hjun hnot) (noDS_spec hns i oi hi).1 hs1 hd1 hQ hy h1
      have hfree' : ∀ k ok, ops[k]? = some ok → k ≠ i → (listed.setIfInBounds j true).getD k true = false →
          (∀ e ∈ ok.after, Region.binds .any e = true → e.on ≠ i) → oi.apart ops ok = true := fun k ok hk hki hun hno => by
        refine hfree k ok hk hki ?_ hno
        by_cases hjk : j = k
        · subst hjk; exact hjun
        · rw [getD_set_ne true hjk] at hun; exact hun
      refine wpOpIn_mono (fun a' w' h3 => ⟨h3.2.1, ih (listed.setIfInBounds j true) a' w' hfree' (ready_mono hr (Ne.symm hji)) h3.1 (h3.2.1 (lastOp_not hoj (Ne.symm hji) hnot hi)) ?_⟩) h2
      rw [Array.setIfInBounds_comm _ _ hji]
      exact h3.2.2
end

/-- What stays as it is all through a region: the first part of what one owned when it began. -/
def Still (X : Cx) (R0 : RL) (w : World) : Prop := ∃ F, Eff X.w0 X.A0 w (R0.flatten ++ F)
/-- Of a region that draws: what is left to be done (listed: what has been). -/
def GA (X : Cx) (ops : Array Oper) (Q : Post) (R0 : RL) (fuel : Nat) (listed : Array Bool) (L : LT) (R : RL) : Prop :=
  ∀ a w, Ok X a L → Hp X w R → Still X R0 w → AnyS X.ro X.n X.s.P ops Q (Still X R0) fuel listed a w
def NoP (Q : Post) : Prop := ∀ c a w, ¬ Q (.panic c) a w
theorem NoP.then {K : Act → World → Prop} {Q : Post} (h : NoP Q) : NoP (Exit.then K Q) := fun c a w hq => h c a w hq
theorem NoP.block {id : Nat} {Q : Post} (h : NoP Q) : NoP (Exit.inBlock id Q) := fun c a w hq => h c a w hq
theorem NoP.fn {P : Program} {fn : Func} {R : Ending → World → Prop} (h : ∀ c w, ¬ R (.panicked c) w) : NoP (bodyPost P fn R) := fun c a w hq => h c w hq.2
theorem NoP.sp {P : Program} {fn : Func} {Y : Type} {v : Y → Value} {T : Y → World → Prop} {post : Y → Prop} : NoP (bodyPost P fn (fun e w' => ∃ y, post y ∧ e = .returned (v y) ∧ T y w')) :=
  NoP.fn (fun c w ⟨y, _, h, _⟩ => by cases h)

section
variable {X : Cx} {ops : Array Oper} {Q : Post} {L : LT} {R R0 : RL} {fuel : Nat} {listed : Array Bool}

theorem Still.of {X : Cx} {w : World} {R R0 B : RL} (h : (R0 ++ B).Perm R) (H : Hp X w R) : Still X R0 w :=
  ⟨B.flatten, Eff.sel H [] (by rw [List.append_nil, ← List.flatten_append]; exact h.flatten)⟩

theorem gc_draw {id : Nat} {l : List Oper} (R0 B : RL) (hm : X.s.P.follows .mixedOrders = true) (hB : (R0 ++ B).Perm R) (h : GA X l.toArray Q R0 l.length (Array.replicate l.length false) L R) :
    GC X (.region id l.toArray true) Q L R := by
  intro a w ha hE
  have hE' : Hp X { w with drawn := w.drawn + 1 } R := Eff.seq0 hE (Eff.drew w)
  refine wpIn_region_any hm ?_
  have := AnyS.sound _ _ _ _ (h a _ ha hE' (Still.of hB hE'))
  simpa using this

/-- What gives its value whatever memory holds is taken first. -/
theorem ga_p (i : Nat) {d : Nat} {op : Op} {ty : TypeId} {p : String} {af : Array Edge} {v : Value} (hQ : NoP Q) (hi : ops[i]? = some ⟨some d, op, ty, p, af, none⟩) (h : PR X.s.P L ⟨some d, op, ty, p, af, none⟩ v) (hN : Nat.blt d X.N = true)
    (hns : noDS ops = true) (hf : Region.free .any ops listed i = true) (hr : (Region.ready .any ops listed).contains i = true)
    (k : GA X ops Q R0 fuel (listed.setIfInBounds i true) ((d, v) :: L) R) : GA X ops Q R0 (fuel + 1) listed L R := by
  intro a w ha hE hS
  refine AnyS.first hi hns hQ fuel listed a w (Region.free_spec hi hf) (by simpa using hr) (.inl ⟨rfl, fun w' _ => h _ w' (fun x u hx => ha.kn.ev hx)⟩) hS ?_
  exact k _ w (ha.put hN v) hE hS

/-- The same behind a guard that says yes. -/
theorem ga_py (i : Nat) {d j t : Nat} {want : Bool} {op : Op} {ty : TypeId} {p : String} {af : Array Edge} {v : Value} (hQ : NoP Q) (hi : ops[i]? = some ⟨some d, op, ty, p, af, some (j, want)⟩) (hj : (ops[j]?).bind (·.dst) = some t) (hNt : Nat.blt t X.N = true) (hb : lk L t = some (.bool want))
    (h : PR X.s.P L ⟨some d, op, ty, p, af, none⟩ v) (hN : Nat.blt d X.N = true)
    (hns : noDS ops = true) (hf : Region.free .any ops listed i = true) (hr : (Region.ready .any ops listed).contains i = true)
    (k : GA X ops Q R0 fuel (listed.setIfInBounds i true) ((d, v) :: L) R) : GA X ops Q R0 (fuel + 1) listed L R := by
  intro a w ha hE hS
  have hlt : t < a.tmps.size := by rw [ha.size]; exact Nat.lt_of_lt_of_le (Nat.lt_succ_self t) (Nat.le_of_ble_eq_true hNt)
  have hv : a.tmps[t]? = some (.bool want) := by
    have := ha.kn _ _ hb
    rw [Array.getD_eq_getD_getElem?, Array.getElem?_eq_getElem hlt, Option.getD_some] at this
    rw [Array.getElem?_eq_getElem hlt, this]
  have hw : Region.wanted ⟨some d, op, ty, p, af, some (j, want)⟩ (yielded ops a.tmps) = true := by simp [Region.wanted, yielded, hj, hv]
  refine AnyS.first hi hns hQ fuel listed a w (Region.free_spec hi hf) (by simpa using hr) (.inl ⟨hw, fun w' _ => h _ w' (fun x u hx => ha.kn.ev hx)⟩) hS ?_
  exact k _ w (ha.put hN v) hE hS

/-- Behind a guard that says no. -/
theorem ga_n (i : Nat) {d j t : Nat} {want : Bool} {u : Value} {op : Op} {ty : TypeId} {p : String} {af : Array Edge} (hQ : NoP Q) (hi : ops[i]? = some ⟨some d, op, ty, p, af, some (j, want)⟩) (hj : (ops[j]?).bind (·.dst) = some t) (hNt : Nat.blt t X.N = true) (hb : lk L t = some u) (hne : (match u with | .bool b => b == want | _ => false) = false)
    (hN : Nat.blt d X.N = true) (hns : noDS ops = true) (hf : Region.free .any ops listed i = true) (hr : (Region.ready .any ops listed).contains i = true)
    (k : GA X ops Q R0 fuel (listed.setIfInBounds i true) ((d, undef) :: L) R) : GA X ops Q R0 (fuel + 1) listed L R := by
  intro a w ha hE hS
  have hlt : t < a.tmps.size := by rw [ha.size]; exact Nat.lt_of_lt_of_le (Nat.lt_succ_self t) (Nat.le_of_ble_eq_true hNt)
  have hv : a.tmps[t]? = some u := by
    have := ha.kn _ _ hb
    rw [Array.getD_eq_getD_getElem?, Array.getElem?_eq_getElem hlt, Option.getD_some] at this
    rw [Array.getElem?_eq_getElem hlt, this]
  have hw : Region.wanted ⟨some d, op, ty, p, af, some (j, want)⟩ (yielded ops a.tmps) = false := by
    simp only [Region.wanted, yielded, hj, hv, Option.bind_some]
    cases u with
    | bool b => have : b ≠ want := fun h => by subst h; simp at hne
                simp [this]
    | _ => rfl
  refine AnyS.first hi hns hQ fuel listed a w (Region.free_spec hi hf) (by simpa using hr) (.inr ⟨hw, rfl⟩) hS ?_
  exact k _ w (ha.put hN undef) hE hS

/-- A load of what stays as it is. -/
theorem ga_ldG (i : Nat) {d : Nat} {t : TypeId} {x : Operand} {ty : TypeId} {p : String} {af : Array Edge} {g : Option (Nat × Bool)} {v : Value} {ti : Ti} {b o : Nat} {cs : List Value} (hQ : NoP Q) (hi : ops[i]? = some ⟨some d, .load t x, ty, p, af, g⟩)
    (hg : ∀ a, Ok X a L → Region.wanted ⟨some d, .load t x, ty, p, af, g⟩ (yielded ops a.tmps) = true) (hx : ev L x = some (.pointer (some ⟨b, o, none⟩))) (ht : tl X.s.tab t = some ti) (hl : cs.length = ti.sz) (hv : asV ti.k cs = some v)
    (hc : ∀ w, Still X R0 w → ∀ j u, cs[j]? = some u → w.cell? ⟨b, o + j, none⟩ = some u)
    (hN : Nat.blt d X.N = true) (hns : noDS ops = true) (hf : Region.free .any ops listed i = true) (hr : (Region.ready .any ops listed).contains i = true)
    (k : GA X ops Q R0 fuel (listed.setIfInBounds i true) ((d, v) :: L) R) : GA X ops Q R0 (fuel + 1) listed L R := by
  intro a w ha hE hS
  refine AnyS.first (v := v) hi hns hQ fuel listed a w (Region.free_spec hi hf) (by simpa using hr) (.inl ⟨hg a ha, fun w' hS' => ?_⟩) hS ?_
  · simp only [execOp]
    rw [ha.kn.ev hx]
    simp [run_loadAt (X.s.ok.at ht) hl hv (hc w' hS')]
  · exact k _ w (ha.put hN v) hE hS

theorem wanted_none {ops : Array Oper} {d : Option Tmp} {op : Op} {ty : TypeId} {p : String} {af : Array Edge} {X : Cx} {L : LT} : ∀ a, Ok X a L → Region.wanted ⟨d, op, ty, p, af, none⟩ (yielded ops a.tmps) = true := fun _ _ => rfl
theorem wanted_yes {d : Option Tmp} {op : Op} {ty : TypeId} {p : String} {af : Array Edge} {j t : Nat} {want : Bool} (hj : (ops[j]?).bind (·.dst) = some t) (hNt : Nat.blt t X.N = true) (hb : lk L t = some (.bool want)) :
    ∀ a, Ok X a L → Region.wanted ⟨d, op, ty, p, af, some (j, want)⟩ (yielded ops a.tmps) = true := fun a ha => by
  have hlt : t < a.tmps.size := by rw [ha.size]; exact Nat.lt_of_lt_of_le (Nat.lt_succ_self t) (Nat.le_of_ble_eq_true hNt)
  have hv : a.tmps[t]? = some (.bool want) := by
    have := ha.kn _ _ hb
    rw [Array.getD_eq_getD_getElem?, Array.getElem?_eq_getElem hlt, Option.getD_some] at this
    rw [Array.getElem?_eq_getElem hlt, this]
  simp [Region.wanted, yielded, hj, hv]

theorem still_cell {X : Cx} {w : World} {R0 : RL} (H : Still X R0 w) {i b : Nat} {o : Obj} {A : HL} (hR : R0[i]? = some ((b, o) :: A)) : w.heap[b]? = some o := by
  obtain ⟨F, E⟩ := H
  exact E.holds b o (List.mem_append_left _ (List.mem_flatten.2 ⟨_, List.mem_of_getElem? hR, List.mem_cons_self⟩))
theorem still_old {X : Cx} {w : World} {R0 : RL} (H : Still X R0 w) : Hle (Oldh X) (hw w) := fun _ _ h => by
  obtain ⟨F, E⟩ := H
  exact old_hw E h

/-- Own block number q (of what stays) is read. -/
theorem ga_ld (i q : Nat) {d : Nat} {t : TypeId} {x : Operand} {ty : TypeId} {p : String} {af : Array Edge} {g : Option (Nat × Bool)} {v : Value} {ti : Ti} {b o : Nat} {l cs : List Value} {e : TypeId} {fz : Nat × Nat} {A : HL} (hQ : NoP Q) (hi : ops[i]? = some ⟨some d, .load t x, ty, p, af, g⟩)
    (hg : ∀ a, Ok X a L → Region.wanted ⟨some d, .load t x, ty, p, af, g⟩ (yielded ops a.tmps) = true) (hR : R0[q]? = some ((b, .cells ⟨l⟩ e fz) :: A)) (hx : ev L x = some (.pointer (some ⟨b, o, none⟩))) (ht : tl X.s.tab t = some ti)
    (hc : takeC l o ti.sz = some cs) (hv : asV ti.k cs = some v)
    (hN : Nat.blt d X.N = true) (hns : noDS ops = true) (hf : Region.free .any ops listed i = true) (hr : (Region.ready .any ops listed).contains i = true)
    (k : GA X ops Q R0 fuel (listed.setIfInBounds i true) ((d, v) :: L) R) : GA X ops Q R0 (fuel + 1) listed L R := by
  obtain ⟨h1, h2⟩ := takeC_spec _ _ _ _ hc
  refine ga_ldG i hQ hi hg hx ht h1 hv (fun w hS j u hj => ?_) hN hns hf hr k
  have hb := still_cell hS hR
  simp only [World.cell?, hb]
  simpa using h2 j u hj

/-- Old memory is read. -/
theorem ga_ldO (i : Nat) {d : Nat} {t : TypeId} {x : Operand} {ty : TypeId} {p : String} {af : Array Edge} {g : Option (Nat × Bool)} {v : Value} {ti : Ti} {b o : Nat} {cs : List Value} (hQ : NoP Q) (hi : ops[i]? = some ⟨some d, .load t x, ty, p, af, g⟩)
    (hg : ∀ a, Ok X a L → Region.wanted ⟨some d, .load t x, ty, p, af, g⟩ (yielded ops a.tmps) = true) (hx : ev L x = some (.pointer (some ⟨b, o, none⟩))) (ht : tl X.s.tab t = some ti) (hl : cs.length = ti.sz) (hv : asV ti.k cs = some v)
    (hc : ∀ j u, cs[j]? = some u → cellAt (Oldh X) b (o + j) = some u)
    (hN : Nat.blt d X.N = true) (hns : noDS ops = true) (hf : Region.free .any ops listed i = true) (hr : (Region.ready .any ops listed).contains i = true)
    (k : GA X ops Q R0 fuel (listed.setIfInBounds i true) ((d, v) :: L) R) : GA X ops Q R0 (fuel + 1) listed L R :=
  ga_ldG i hQ hi hg hx ht hl hv (fun w hS j u hj => by rw [← cellAt_hw]; exact (still_old hS).cell (hc j u hj)) hN hns hf hr k

theorem p_pickT {d : Nat} {x y c : Operand} {t : TypeId} {p : String} {af : Array Edge} {u : Value} (hc : ev L c = some (.bool true)) (hv : ev L x = some u) : PR X.s.P L (⟨some d, .pick c x y, t, p, af, none⟩ : Oper) u := p_pick hc (fun _ => hv) (fun h => by cases h)
theorem p_pickF {d : Nat} {x y c : Operand} {t : TypeId} {p : String} {af : Array Edge} {u : Value} (hc : ev L c = some (.bool false)) (hv : ev L y = some u) : PR X.s.P L (⟨some d, .pick c x y, t, p, af, none⟩ : Oper) u := p_pick hc (fun h => by cases h) (fun _ => hv)
theorem ga_eq (t : Nat) {u u' : Value} (h : lk L t = some u) (e : u = u') (k : GA X ops Q R0 fuel listed ((t, u') :: L) R) : GA X ops Q R0 fuel listed L R := by
  subst e
  intro a w ha hE hS
  exact k a w (ok_put ha h) hE hS
theorem ga_case {t : Nat} {b : Bool} (hb : lk L t = some (.bool b)) (ht : b = true → GA X ops Q R0 fuel listed ((t, .bool true) :: L) R) (hf : b = false → GA X ops Q R0 fuel listed ((t, .bool false) :: L) R) : GA X ops Q R0 fuel listed L R := by
  intro a w ha hE hS
  cases b with
  | true => exact ht rfl a w (ok_put ha hb) hE hS
  | false => exact hf rfl a w (ok_put ha hb) hE hS
/-- An element's address, of old memory. -/
theorem ga_at (i i2 : Nat) {α : Type} {d d1 : Nat} {t t2 ty ty1 : TypeId} {p p1 : String} {af af1 : Array Edge} {gd gd1 : Option (Nat × Bool)} {x y : Operand} {e : TypeId} {z v : Value} {s b : Nat} {te : Ti} {ik : IntKind} {iv : Int} {A : Option Addr} {n c : Nat} {f : α → List Value} {l : List α} {u : α}
    (hQ : NoP Q) (hi : ops[i]? = some ⟨some d1, .indexAddr t x y, ty1, p1, af1, gd1⟩) (hg1 : ∀ a, Ok X a L → Region.wanted ⟨some d1, .indexAddr t x y, ty1, p1, af1, gd1⟩ (yielded ops a.tmps) = true)
    (hi2 : ops[i2]? = some ⟨some d, .load t2 (.tmp d1), ty, p, af, gd⟩)
    (hg : ∀ a v, Ok X a ((d1, v) :: L) → Region.wanted ⟨some d, .load t2 (.tmp d1), ty, p, af, gd⟩ (yielded ops a.tmps) = true)
    (hx : ev L x = some (.slice A n c)) (hy : ev L y = some (.int ik iv)) (ht : tl X.s.tab t = some ⟨.slice e, z, s, b⟩) (hte : tl X.s.tab e = some te) (he : Nat.beq t2 e = true)
    (h0 : 0 ≤ iv) (h1 : iv < n) (hr : ∀ w, Still X R0 w → Rd (hw w) f te.sz A l) (hl : l[iv.toNat]? = some u) (hs : (f u).length = te.sz) (hv : asV te.k (f u) = some v) (hN1 : Nat.blt d1 X.N = true) (hN : Nat.blt d X.N = true)
    (hns : noDS ops = true) (hf : Region.free .any ops listed i = true) (hrd : (Region.ready .any ops listed).contains i = true)
    (hf2 : Region.free .any ops (listed.setIfInBounds i true) i2 = true) (hrd2 : (Region.ready .any ops (listed.setIfInBounds i true)).contains i2 = true)
    (k : ∀ a, GA X ops Q R0 fuel ((listed.setIfInBounds i true).setIfInBounds i2 true) ((d, v) :: (d1, .pointer (some a)) :: L) R) : GA X ops Q R0 (fuel + 1 + 1) listed L R := by
  obtain rfl := Nat.eq_of_beq_eq_true he
  intro a w ha hE hS
  obtain ⟨bx, o, rfl, hc⟩ := hr w hS _ _ hl
  have hp : PR X.s.P L ⟨some d1, .indexAddr t x y, ty1, p1, af1, none⟩ (.pointer (some ⟨bx, o + iv.toNat * te.sz, none⟩)) := p_ix hx hy ht hte h0 h1
  refine AnyS.first hi hns hQ _ listed a w (Region.free_spec hi hf) (by simpa using hrd) (.inl ⟨hg1 a ha, fun w' _ => hp _ w' (fun x u hx => ha.kn.ev hx)⟩) hS ?_
  exact ga_ldG (R := R) i2 hQ hi2 (fun a' ha' => hg a' _ ha') (lk_hd d1 _ L) hte hs hv (fun w' hS' j u' hj => by
    obtain ⟨b2, o2, hA2, hc2⟩ := hr w' hS' _ _ hl
    cases hA2
    rw [← cellAt_hw]; exact hc2 j u' hj) hN hns hf2 hrd2 (k _) _ w (ha.put hN1 _) hE hS

/-- What is owned and stays, as a row. -/
theorem still_rd {X : Cx} {R0 : RL} {α : Type} {e : TypeId} {sz : Nat} {f : α → List Value} {v : Value} {l : List α} {A : HL} {ad : Option Addr} {n cap : Nat} (i : Nat) (hR : R0[i]? = some A) (hf : ∀ x, (f x).length = sz) (ho : OwnL e sz f v l A) (hv : v = .slice ad n cap) :
    ∀ w, Still X R0 w → Rd (hw w) f sz ad l := by
  intro w ⟨F, E⟩
  rcases ho.2 with ⟨rfl, h2, h3⟩ | ⟨g, cap', rest, rfl, rfl, h3, h4, h5⟩
  · have := List.eq_nil_of_length_eq_zero h2
    subst this
    exact fun i x hx => by simp at hx
  · cases hv
    have hg : w.heap[g]? = _ := E.holds g _ (List.mem_append_left _ (List.mem_flatten.2 ⟨_, List.mem_of_getElem? hR, List.mem_cons_self⟩))
    refine fun i x hx => ⟨g, 0, rfl, fun j u hj => ?_⟩
    simp only [cellAt, hw, hg]
    have h6 := flat_get hf l i x hx j u hj
    have : (l.flatMap f ++ rest)[0 + i * sz + j]? = some u := by
      rw [Nat.zero_add, List.getElem?_append_left (List.getElem?_eq_some_iff.1 h6).1]; exact h6
    simpa using this
theorem still_rdO {X : Cx} {R0 : RL} {α : Type} {sz : Nat} {f : α → List Value} {l : List α} {ad : Option Addr} (hr : Rd (Oldh X) f sz ad l) : ∀ w, Still X R0 w → Rd (hw w) f sz ad l := fun w hS => hr.le (still_old hS)

/-- Nothing is left. -/
theorem ga_nil (hr : Region.ready .any ops listed = []) (k : GQ X Q .normal L R) : GA X ops Q R0 fuel listed L R := by
  intro a w ha hE hS
  cases fuel with
  | zero => exact ⟨hr, k a w ha hE⟩
  | succ n => exact ⟨fun _ => k a w ha hE, fun i hi => by rw [hr] at hi; cases hi⟩

/-- One step of operation i, whatever its rule G. -/
def GS (X : Cx) (ops : Array Oper) (Q : Post) (R0 : RL) (fuel : Nat) (listed : Array Bool) (i : Nat) (L : LT) (R : RL) : Prop :=
  ∀ a w, Ok X a L → Hp X w R → wpOpIn (Fr X.ro) X.n X.s.P ops Q i (fun a' w' => (lastOp ops i = false → Still X R0 w') ∧ AnyS X.ro X.n X.s.P ops Q (Still X R0) fuel (listed.setIfInBounds i true) a' w') a w
theorem ga_all {rs : List Nat} (hr : Region.ready .any ops listed = rs) (hne : rs ≠ []) (k : ∀ i, i ∈ rs → GS X ops Q R0 fuel listed i L R) : GA X ops Q R0 (fuel + 1) listed L R := by
  intro a w ha hE hS
  refine ⟨fun h => absurd (hr ▸ h) hne, fun q hq => ?_⟩
  rw [hr] at hq
  exact k q hq a w ha hE
theorem ga_one {i : Nat} (hr : Region.ready .any ops listed = [i]) (k : GS X ops Q R0 fuel listed i L R) : GA X ops Q R0 (fuel + 1) listed L R :=
  ga_all hr (by simp) (fun j hj => by
    have : j = i := by simpa using hj
    subst this; exact k)
theorem ga_two {i j : Nat} (hr : Region.ready .any ops listed = [i, j]) (k1 : GS X ops Q R0 fuel listed i L R) (k2 : GS X ops Q R0 fuel listed j L R) : GA X ops Q R0 (fuel + 1) listed L R :=
  ga_all hr (by simp) (fun q hq => by
    have : q = i ∨ q = j := by simpa using hq
    rcases this with h | h
    · rw [h]; exact k1
    · rw [h]; exact k2)

theorem op_of {i : Nat} {o : Oper} {K : Act → World → Prop} {a : Act} {w : World} (hi : ops[i]? = some o) (h1 : wpListIn (Fr X.ro) X.n X.s.P ops (Exit.then K Q) [o] a w) : wpOpIn (Fr X.ro) X.n X.s.P ops Q i K a w := by
  unfold wpOpIn
  simp only [hi]
  simp only [wpListIn] at h1
  split
  · rename_i hw
    rw [if_pos hw] at h1
    refine ⟨h1.1, ?_⟩
    have h2 := h1.2
    generalize ((o.semAt (Fr X.ro).round a.eval).run X.s.P w) = r at h2 ⊢
    cases r with
    | ok x w' => cases x <;> simp only [Oper.uponIn] at h2 ⊢ <;> first | exact h2 | exact ⟨h2.1, CallsIn.mono h2.2 (fun e w'' he => by cases e <;> exact he)⟩ | exact ⟨h2.1, RoundIn.mono h2.2 (fun e w'' he => by cases e <;> exact he)⟩
    | halt x w' => cases x <;> simp only [Oper.uponIn] at h2 ⊢ <;> exact h2
  · rename_i hw
    rw [if_neg hw] at h1
    exact h1
/-- An operation's own rule serves for a step of a region that draws: give it the region as what is left behind it. -/
theorem gs_of {i : Nat} {o : Oper} (hi : ops[i]? = some o)
    (h : ∀ K : Act → World → Prop, (∀ L' R', (∃ B : RL, (R0 ++ B).Perm R') → GA X ops Q R0 fuel (listed.setIfInBounds i true) L' R' → GQ X (Exit.then K Q) .normal L' R') → G X ops (Exit.then K Q) [o] L R) : GS X ops Q R0 fuel listed i L R := by
  intro a w ha hE
  have h1 := h (fun a' w' => (lastOp ops i = false → Still X R0 w') ∧ AnyS X.ro X.n X.s.P ops Q (Still X R0) fuel (listed.setIfInBounds i true) a' w') (fun L' R' ⟨B, hB⟩ hk a' w' ha' hE' => ⟨fun _ => Still.of hB hE', hk a' w' ha' hE' (Still.of hB hE')⟩) a w ha hE
  exact op_of hi h1
/-- The last operation: what stays need not stay any more. -/
theorem gs_last {i : Nat} {o : Oper} (hi : ops[i]? = some o) (hl : lastOp ops i = true) (hr : Region.ready .any ops (listed.setIfInBounds i true) = []) (h : ∀ K : Act → World → Prop, (∀ L' R', GQ X Q .normal L' R' → GQ X (Exit.then K Q) .normal L' R') → G X ops (Exit.then K Q) [o] L R) : GS X ops Q R0 fuel listed i L R := by
  intro a w ha hE
  have h1 := h (fun a' w' => (lastOp ops i = false → Still X R0 w') ∧ AnyS X.ro X.n X.s.P ops Q (Still X R0) fuel (listed.setIfInBounds i true) a' w') (fun L' R' hk a' w' ha' hE' => ⟨fun h => (by rw [hl] at h; cases h), by
    cases fuel with
    | zero => exact ⟨hr, hk a' w' ha' hE'⟩
    | succ n => exact ⟨fun _ => hk a' w' ha' hE', fun i hi => by rw [hr] at hi; cases hi⟩⟩) a w ha hE
  exact op_of hi h1
end
end Go.Wk

/- tac: within, Writes, Reads. -/
namespace Go.Proofs.Ytpmkkmahimdjkaa
open Go.Wk
set_option linter.unusedVariables false
set_option linter.unusedSimpArgs false
attribute [local irreducible] G GC GQ GA GS Exit.then Exit.inBlock

theorem within_sp (a b : Int) (w : World) : Sp Try.prog 55 [.int .i64 a, .int .i64 b] w [] (fun _ : Unit => .bool (decide (0 ≤ a) && decide (a < b))) (fun _ => []) (fun _ => True) := by
  refine enter (s := Try.sx) [] Try.func55 rfl rfl rfl (Eff.refl w) ?_
  repeat' (first | refine g_pv rfl rfl ?_ | refine g_nil ?_ | refine gq_then ?_ | refine gc_seq ?_ | refine gc_region ?_)
  refine g_case (t := 7) rfl (fun h => ?_) (fun h => ?_)
  all_goals (repeat' (first | refine g_pv rfl rfl ?_ | refine g_nil ?_ | refine gq_then ?_ | refine gc_ret ?_ | refine g_yes rfl rfl rfl ?_ | refine g_no rfl rfl rfl rfl rfl ?_))
  · refine gq_ret1 (.inr rfl) rfl rfl rfl (fun w' H => ⟨(), trivial, ?_, H⟩)
    have h' : 0 ≤ a := of_decide_eq_true h
    simp [h']
  · refine gq_ret1 (.inr rfl) rfl rfl rfl (fun w' H => ⟨(), trivial, ?_, H⟩)
    have h' : ¬ 0 ≤ a := of_decide_eq_false h
    simp [h']

theorem writes_sp (x : Ins) (w : World) : Sp Try.prog 35 [x.val] w [] (fun _ : Unit => .int .i64 x.writes) (fun _ => []) (fun _ => True) := by
  refine enter (s := Try.sx) [] Try.func35 rfl rfl rfl (Eff.refl w) ?_
  repeat' (first | refine g_pv rfl rfl ?_ | refine g_ld 0 rfl rfl rfl rfl rfl rfl ?_ | refine g_nil ?_ | refine gq_then ?_ | refine gc_seq ?_ | refine gc_region ?_ | refine gc_block ?_ | refine gc_cond_t rfl ?_ | refine gc_skip ?_ | refine gc_ret ?_ | refine gq_then_ret ?_ | refine gq_block ?_ | refine gq_block_ret ?_ | refine g_box rfl rfl (fun _ => ?_) | refine gc_condC rfl (fun hc => ?_) (fun hc => ?_))
  all_goals refine gq_ret1 (.inr rfl) rfl rfl rfl (fun w' H => ⟨(), trivial, ?_, hp_nil H⟩)
  all_goals simp only [beq_iff_eq, beq_eq_false_iff_ne, ne_eq] at *
  all_goals simp [Ins.writes, writesOp, *]
  all_goals omega

theorem wrap_in {n : Int} (h : -9223372036854775808 ≤ n) (h2 : n ≤ 9223372036854775807) : IntKind.i64.wrap n = n := by rw [IntKind.wrap_i64]; omega

theorem reads_sp (x : Ins) (w : World) (hx : InsIn (hw w) x) : Sp Try.prog 33 [x.val] w [] (fun y : Value × HL => y.1) (fun y => [y.2]) (fun y => OwnI y.1 x.reads y.2) := by
  refine enter (s := Try.sx) [] Try.func33 rfl rfl rfl (Eff.refl w) ?_
  repeat' (first | refine g_pv rfl rfl ?_ | refine g_ld 0 rfl rfl rfl rfl rfl rfl ?_ | refine g_nil ?_ | refine gq_then ?_ | refine gc_seq ?_ | refine gc_region ?_ | refine g_box rfl rfl (fun _ => ?_))
  refine g_litL rfl rfl rfl rfl rfl rfl rfl rfl rfl rfl (fun g => ?_)
  repeat' (first | refine g_pv rfl rfl ?_ | refine g_ld 1 rfl rfl rfl rfl rfl rfl ?_)
  have hlen := hx.len
  have ho : OwnL 59 2 Arg.cells (.slice (some ⟨g, 0, none⟩) 2 2) [x.a, x.b] [(g, .cells ⟨x.a.cells ++ x.b.cells⟩ 59 (0, 0))] := ⟨rfl, .inr ⟨g, 2, [], rfl, rfl, Nat.le_refl _, by decide, rfl⟩⟩
  refine g_appL 0 (m := x.args) rfl rfl rfl rfl rfl rfl rfl ho (fun _ => rfl) (fun w' hE => hx.args.le (fun b o h => old_le hE b o (old_le0 _ w b o h))) (fun _ => rfl) (by unfold maxLen; simp; omega) (by simp; omega) rfl (fun v' A' ho' => ?_)
  refine g_lenL rfl ho' rfl rfl ?_
  repeat' (first | refine g_pv rfl rfl ?_ | refine g_nil ?_ | refine gq_then ?_ | refine gc_block ?_)
  refine gc_loop (Y := Nat × Value × HL) (fun y => y.1 ≤ ([x.a, x.b] ++ x.args).length ∧ OwnI y.2.1 (readsF (([x.a, x.b] ++ x.args).take y.1)) y.2.2)
    (fun y => [(3, y.2.1), (13, v'), (14, .int .i64 ([x.a, x.b] ++ x.args).length), (15, .int .i64 y.1)]) (fun y => [y.2.2, A'])
    (fun y => ([x.a, x.b] ++ x.args).length - y.1) (0, .slice none 0 0, []) ⟨Nat.zero_le _, OwnL.nil _ _ _⟩ ⟨rfl, rfl, rfl, rfl, trivial⟩ (fun w' H => ?_) ?_
  · exact hp_perm (hp_take 0 rfl (fun H => hp_nil H) H) (by simp)
  rintro ⟨k, v3, A3⟩ ⟨hk, ho3⟩
  generalize hal : [x.a, x.b] ++ x.args = al at *
  have hall : al.length ≤ 8796093022002 := by rw [← hal]; simp; omega
  dsimp only at hk ho3 ⊢
  repeat' (first | refine g_pv rfl rfl ?_ | refine g_nil ?_ | refine gq_then ?_ | refine gc_seq ?_ | refine gc_region ?_)
  refine gc_condC rfl (fun hc => ?_) (fun hc => ?_)
  · have hlt : k < al.length := by have := of_decide_eq_true hc; omega
    have hak : al[k]? = some al[k] := List.getElem?_eq_getElem hlt
    have haok := hx.ok al[k] (by rw [hal]; exact List.getElem_mem hlt)
    have hle := readsF_le (al.take k)
    have htl : (al.take k).length ≤ k := List.length_take_le _ _
    repeat' (first | refine gq_then ?_ | refine gc_seq ?_ | refine gc_region ?_ | refine gc_block ?_ | refine gc_skip ?_)
    refine g_atL 1 rfl rfl ho' (fun _ => rfl) rfl rfl rfl rfl (Int.natCast_nonneg k) hak rfl rfl rfl (fun a => ?_)
    repeat' (first | refine g_pv rfl rfl ?_ | refine g_ld 0 rfl rfl rfl rfl rfl rfl ?_ | refine g_nil ?_ | refine gq_then ?_ | refine gc_seq ?_ | refine gc_region ?_ | refine g_alloc rfl rfl (fun _ => ?_) | refine g_st 0 rfl rfl rfl rfl rfl rfl rfl ?_)
    refine gc_condC rfl (fun hq => ?_) (fun hq => ?_)
    · repeat' (first | refine g_pv rfl rfl ?_ | refine g_ld 0 rfl rfl rfl rfl rfl rfl ?_ | refine gc_region ?_)
      refine g_eq 25 (u' := .int .i64 al[k].n) rfl (by rw [wrap_in (by have := haok.1; omega) (by have := haok.2; omega)]) ?_
      refine g_app1L 1 (f := fI) (q := al[k].n) rfl rfl rfl rfl rfl rfl rfl rfl rfl rfl rfl rfl ho3 (by unfold maxLen; omega) (by show _ * 8 ≤ _; omega) rfl rfl (fun v4 A4 g4 ho4 => ?_)
      repeat' (first | refine g_pv rfl rfl ?_ | refine g_nil ?_ | refine gq_then ?_ | refine gc_region ?_ | refine gq_block ?_)
      refine gq_again (k + 1, v4, A4) ⟨hlt, ?_⟩ (by simp only; omega) ⟨rfl, rfl, rfl, ?_, trivial⟩ (fun w' H => ?_)
      · rw [List.take_succ_eq_append_getElem hlt, readsF_app]
        have : readsF [al[k]] = [al[k].n] := by simp [readsF, (beq_iff_eq.1 hq : al[k].k = 1)]
        rw [this]; exact ho4
      · show some (Value.int .i64 (IntKind.i64.wrap ((k : Int) + 1))) = some (Value.int .i64 ((k + 1 : Nat) : Int)); rw [wrap_in (by omega) (by omega)]; rfl
      · exact hp_take 1 rfl (fun H => hp_take 1 rfl (fun H => hp_nil H) H) H
    · repeat' (first | refine g_pv rfl rfl ?_ | refine g_nil ?_ | refine gq_then ?_ | refine gc_region ?_ | refine gc_skip ?_ | refine gq_block ?_)
      refine gq_again (k + 1, v3, A3) ⟨hlt, ?_⟩ (by simp only; omega) ⟨rfl, rfl, rfl, ?_, trivial⟩ (fun w' H => ?_)
      · rw [List.take_succ_eq_append_getElem hlt, readsF_app]
        have : readsF [al[k]] = [] := by simp [readsF, (beq_eq_false_iff_ne.1 hq : al[k].k ≠ 1)]
        rw [this, List.append_nil]; exact ho3
      · show some (Value.int .i64 (IntKind.i64.wrap ((k : Int) + 1))) = some (Value.int .i64 ((k + 1 : Nat) : Int)); rw [wrap_in (by omega) (by omega)]; rfl
      · exact hp_take 1 rfl (fun H => hp_take 1 rfl (fun H => hp_nil H) H) H
  · have hge : k = al.length := by have := of_decide_eq_false hc; omega
    repeat' (first | refine g_pv rfl rfl ?_ | refine g_nil ?_ | refine gq_then ?_ | refine gc_seq ?_ | refine gc_region ?_ | refine gc_exit ?_ | refine gc_ret ?_ | refine gq_then_exit ?_ | refine gq_block_exit ?_)
    refine gq_ret1 (.inr rfl) rfl rfl rfl (fun w' H => ⟨(v3, A3), ?_, rfl, hp_take 0 rfl (fun H => hp_nil H) H⟩)
    show OwnI v3 x.reads A3
    rw [hge, List.take_length] at ho3
    unfold Ins.reads; rw [hal]; exact ho3
end Go.Proofs.Ytpmkkmahimdjkaa

/- The library's IndexFunc, DeleteFunc at []int; tac.Next. -/
namespace Go.Proofs.Ytpmkkmahimdjkaa
open Go.Wk
set_option linter.unusedVariables false
set_option linter.unusedSimpArgs false
attribute [local irreducible] G GC GQ GA GS Exit.then Exit.inBlock

theorem next1_sp (n : Int) (bx : Nat) (A : Option Addr) (len cap : Nat) (w : World) (hb : cellAt (hw w) bx 0 = some (.slice A len cap)) :
    Sp Try.prog 57 [.int .i64 n, .pointer (some ⟨bx, 0, none⟩)] w [] (fun _ : Unit => .bool (!(decide (0 ≤ n) && decide (n < (len : Int))))) (fun _ => []) (fun _ => True) := by
  refine enter (s := Try.sx) [] Try.func57 rfl rfl rfl (Eff.refl w) ?_
  repeat' (first | refine g_pv rfl rfl ?_ | refine g_nil ?_ | refine gq_then ?_ | refine gc_seq ?_ | refine gc_region ?_)
  refine g_ldO rfl rfl (cs := [.slice A len cap]) rfl rfl (cell1 ((old_le0 _ w).cell hb)) rfl ?_
  repeat' (refine g_pv rfl rfl ?_)
  refine g_call rfl (Cl.of Try.func55 rfl rfl) rfl rfl (fun w hE => within_sp _ _ w) rfl (fun y hy => ?_)
  repeat' (first | refine g_pv rfl rfl ?_ | refine g_nil ?_ | refine gq_then ?_ | refine gc_ret ?_)
  exact gq_ret1 (.inr rfl) rfl rfl rfl (fun w' H => ⟨(), trivial, rfl, H⟩)

/-- What is asked of a predicate's function. -/
def PredAt (H : Nat → Option Obj) (k : FuncId) (cp : Array Value) (p : Int → Bool) : Prop :=
  Cl Try.prog k ∧ ∀ w n, Hle H (hw w) → Sp Try.prog k (.int .i64 n :: cp.toList) w [] (fun _ : Unit => .bool (p n)) (fun _ => []) (fun _ => True)

def idxF (p : Int → Bool) (l : List Int) : Int := match l.findIdx? p with | some k => k | none => -1
theorem idxF_hit {p : Int → Bool} {l : List Int} {k : Nat} (hk : k < l.length) (h : ∀ x ∈ l.take k, p x = false) (hp : p l[k] = true) : idxF p l = k := by
  have : l.findIdx? p = some k := by
    rw [List.findIdx?_eq_some_iff_getElem]
    refine ⟨hk, hp, fun j hj => ?_⟩
    have := h l[j] (List.mem_take_iff_getElem.2 ⟨j, by omega, rfl⟩)
    simp [this]
  simp [idxF, this]
theorem idxF_miss {p : Int → Bool} {l : List Int} (h : ∀ x ∈ l, p x = false) : idxF p l = -1 := by
  have : l.findIdx? p = none := by rw [List.findIdx?_eq_none_iff]; simpa using h
  simp [idxF, this]

theorem indexF_sp (l : List Int) (p : Int → Bool) (ad : Option Addr) (cap : Nat) (w : World) (k : FuncId) (cp : Array Value) (hl : l.length ≤ 4611686018427387904) (hr : Rd (hw w) fI 1 ad l) (hp : PredAt (hw w) k cp p) :
    Sp Try.prog 63 [.slice ad l.length cap, .func (.func k) #[] cp] w [] (fun _ : Unit => .int .i64 (idxF p l)) (fun _ => []) (fun _ => True) := by
  refine enter (s := Try.sx) [] Try.func63 rfl rfl rfl (Eff.refl w) ?_
  repeat' (first | refine g_pv rfl rfl ?_ | refine g_nil ?_ | refine gq_then ?_ | refine gc_seq ?_ | refine gc_region ?_ | refine gc_block ?_)
  refine gc_loop (Y := Nat) (fun y => y ≤ l.length ∧ ∀ x ∈ l.take y, p x = false)
    (fun y => [(0, .slice ad l.length cap), (1, .func (.func k) #[] cp), (6, .slice ad l.length cap), (7, .int .i64 l.length), (8, .int .i64 y)]) (fun y => [])
    (fun y => l.length - y) 0 ⟨Nat.zero_le _, by simp⟩ ⟨rfl, rfl, rfl, rfl, rfl, trivial⟩ (fun w' H => H) ?_
  rintro j ⟨hj, hpj⟩
  dsimp only at hj hpj ⊢
  repeat' (first | refine g_pv rfl rfl ?_ | refine g_nil ?_ | refine gq_then ?_ | refine gc_seq ?_ | refine gc_region ?_)
  refine gc_condC rfl (fun hc => ?_) (fun hc => ?_)
  · have hlt : j < l.length := by have := of_decide_eq_true hc; omega
    repeat' (first | refine g_pv rfl rfl ?_ | refine g_nil ?_ | refine gq_then ?_ | refine gc_seq ?_ | refine gc_region ?_ | refine gc_block ?_ | refine gc_skip ?_)
    refine g_at (l := l) (f := fI) (u := l[j]) rfl rfl rfl rfl rfl (Int.natCast_nonneg j) (by omega) (hr.le (old_le0 _ w)) (List.getElem?_eq_getElem hlt) rfl rfl rfl rfl (fun a => ?_)
    refine g_call (gs := .int .i64 l[j] :: cp.toList) (Y := Unit) (vf := fun _ => .bool (p l[j])) (A' := fun _ => []) (post := fun _ => True) rfl hp.1 rfl rfl (fun w' hE => hp.2 w' l[j] (fun b o hh => old_le hE b o (old_le0 _ w b o hh))) rfl (fun y hy => ?_)
    repeat' (first | refine g_nil ?_ | refine gq_then ?_)
    refine gc_condC rfl (fun hq => ?_) (fun hq => ?_)
    · repeat' (first | refine g_pv rfl rfl ?_ | refine g_nil ?_ | refine gq_then ?_ | refine gc_seq ?_ | refine gc_region ?_ | refine gc_ret ?_ | refine gq_then_ret ?_ | refine gq_block_ret ?_)
      exact gq_ret1 (.inr rfl) rfl rfl rfl (fun w' H => ⟨(), trivial, by rw [idxF_hit hlt hpj hq], H⟩)
    · repeat' (first | refine g_pv rfl rfl ?_ | refine g_nil ?_ | refine gq_then ?_ | refine gc_region ?_ | refine gc_skip ?_ | refine gq_block ?_)
      refine gq_again (j + 1) ⟨hlt, ?_⟩ (by omega) ⟨rfl, rfl, rfl, rfl, inc_eq (by omega), trivial⟩ (fun w' H => H)
      intro x hx
      rw [List.take_succ_eq_append_getElem hlt] at hx
      rcases List.mem_append.1 hx with h | h
      · exact hpj x h
      · simp at h; subst h; exact hq
  · have hge : j = l.length := by have := of_decide_eq_false hc; omega
    repeat' (first | refine g_pv rfl rfl ?_ | refine g_nil ?_ | refine gq_then ?_ | refine gc_seq ?_ | refine gc_region ?_ | refine gc_exit ?_ | refine gc_ret ?_ | refine gq_then_exit ?_ | refine gq_block_exit ?_)
    refine gq_ret1 (.inr rfl) rfl rfl rfl (fun w' H => ⟨(), trivial, ?_, H⟩)
    rw [idxF_miss (by rw [hge, List.take_length] at hpj; exact hpj)]

theorem idxF_cases (p : Int → Bool) (l : List Int) : (idxF p l = -1 ∧ ∀ x ∈ l, p x = false) ∨ ∃ k : Nat, idxF p l = k ∧ k < l.length ∧ (∀ x ∈ l.take k, p x = false) ∧ ∀ x, l[k]? = some x → p x = true := by
  unfold idxF
  cases h : l.findIdx? p with
  | none => left; rw [List.findIdx?_eq_none_iff] at h; exact ⟨rfl, by simpa using h⟩
  | some k =>
    right
    rw [List.findIdx?_eq_some_iff_getElem] at h
    obtain ⟨hk, h1, h2⟩ := h
    refine ⟨k, rfl, hk, fun x hx => ?_, fun x hx => ?_⟩
    · obtain ⟨j, hj, rfl⟩ := List.mem_take_iff_getElem.1 hx
      simpa using h2 j (by omega)
    · rw [List.getElem?_eq_getElem hk] at hx; cases hx; exact h1

/-- The state of DeleteFunc's loop: i are kept, j are looked at. -/
structure DelS (p : Int → Bool) (l m : List Int) (i j : Nat) : Prop where
  len : m.length = l.length
  ij : i < j
  jl : j ≤ l.length
  kept : m.take i = (l.take j).filter (fun x => !p x)
  rest : m.drop j = l.drop j

theorem deleteF_sp {v : Value} (l : List Int) (p : Int → Bool) {A : HL} (w : World) (k : FuncId) (cp : Array Value) (ho : OwnI v l A) (hA : Eff w A w A) (hl : l.length ≤ 4611686018427387904) (hp : PredAt (exc w A) k cp p) :
    Sp Try.prog 56 [v, .func (.func k) #[] cp] w A (fun y : Value × HL => y.1) (fun y => [y.2]) (fun y => OwnI y.1 (l.filter fun x => !p x) y.2) := by
  have hm : ∀ {s ro n N ds}, Oldh ⟨s, ro, n, N, ds, w, A⟩ = exc w A := rfl
  obtain ⟨ad, cap, rfl, hsh⟩ := Own.shape ho
  have hk : ∀ w', Hle (exc w A) (hw w') → ∀ m, Sp Try.prog k (.int .i64 m :: cp.toList) w' [] (fun _ : Unit => .bool (p m)) (fun _ => []) (fun _ => True) := fun w' hh m => hp.2 w' m hh
  refine enterA (s := Try.sx) [A] (by simp) Try.func56 rfl rfl rfl hA ?_
  repeat' (first | refine g_pv rfl rfl ?_ | refine g_nil ?_ | refine gq_then ?_ | refine gc_seq ?_ | refine gc_region ?_)
  refine g_call (Y := Unit) (vf := fun _ => .int .i64 (idxF p l)) (A' := fun _ => []) (post := fun _ => True) rfl (Cl.of Try.func63 rfl rfl) rfl rfl (fun w' hE => ?_) rfl (fun y hy => ?_)
  · obtain ⟨ad', cap', he, hr⟩ := OwnL.rd (f := fI) (fun _ => rfl) ho (H := hw w') (fun b o hb => hE.holds b o (by simpa using hb))
    cases he
    exact indexF_sp l p ad cap w' k cp hl hr ⟨hp.1, fun w2 n2 hh => hk w2 (fun b o hb => hh b o (old_le hE b o hb)) n2⟩
  repeat' (first | refine g_pv rfl rfl ?_ | refine g_nil ?_ | refine gq_then ?_ | refine gc_seq ?_ | refine gc_region ?_)
  rcases idxF_cases p l with ⟨he, hall⟩ | ⟨q, he, hq, hpre, hat⟩
  · rw [he]
    repeat' (first | refine g_pv rfl rfl ?_ | refine g_nil ?_ | refine gq_then ?_ | refine gc_seq ?_ | refine gc_region ?_ | refine gc_cond_t rfl ?_ | refine gc_ret ?_ | refine gq_then_ret ?_)
    refine gq_ret1 (.inr rfl) rfl rfl rfl (fun w' H => ⟨(_, A), ?_, rfl, hp_take 0 rfl (fun H => hp_nil H) H⟩)
    have : l.filter (fun x => !p x) = l := List.filter_eq_self.2 (fun x hx => by simp [hall x hx])
    rw [this]; exact ho
  · rw [he]
    have hql : q < l.length := hq
    repeat' (first | refine g_pv rfl rfl ?_ | refine g_nil ?_ | refine gq_then ?_ | refine gc_seq ?_ | refine gc_region ?_ | refine gc_block ?_ | refine gc_cond_f rfl ?_ | refine gc_skip ?_)
    rw [show IntKind.i64.wrap ((q : Int) + 1) = ((q + 1 : Nat) : Int) from by rw [IntKind.wrap_i64]; omega]
    refine gc_loop (Y := List Int × Nat × Nat × HL) (fun y => DelS p l y.1 y.2.1 y.2.2.1 ∧ OwnI (.slice ad l.length cap) y.1 y.2.2.2)
      (fun y => [(0, .slice ad l.length cap), (1, .func (.func k) #[] cp), (5, .int .i64 y.2.1), (6, .int .i64 y.2.2.1)]) (fun y => [y.2.2.2])
      (fun y => l.length - y.2.2.1) (l, q, q + 1, A) ⟨⟨rfl, Nat.lt_succ_self q, hql, ?_, rfl⟩, ho⟩ ⟨rfl, rfl, rfl, rfl, trivial⟩ (fun w' H => H) ?_
    · rw [List.take_succ_eq_append_getElem hql, List.filter_append, List.filter_eq_self.2 (fun x hx => by simp [hpre x hx])]
      simp [hat _ (List.getElem?_eq_getElem hql)]
    rintro ⟨m, i, j, Am⟩ ⟨⟨hlen, hij, hjl, hkept, hrest⟩, hom⟩
    dsimp only at hlen hij hjl hkept hrest hom ⊢
    repeat' (first | refine g_pv rfl rfl ?_ | refine g_nil ?_ | refine gq_then ?_ | refine gc_seq ?_ | refine gc_region ?_)
    refine gc_condC rfl (fun hc => ?_) (fun hc => ?_)
    · have hlt : j < l.length := by have := of_decide_eq_true hc; omega
      have hmj : m[j]? = some l[j] := by
        have : (m.drop j)[0]? = (l.drop j)[0]? := by rw [hrest]
        simpa [List.getElem?_eq_getElem hlt] using this
      have hrest' : m.drop (j + 1) = l.drop (j + 1) := by
        have : (m.drop j).drop 1 = (l.drop j).drop 1 := by rw [hrest]
        simpa using this
      repeat' (first | refine g_pv rfl rfl ?_ | refine gq_then ?_ | refine gc_seq ?_ | refine gc_region ?_ | refine gc_block ?_ | refine gc_skip ?_)
      refine g_atL 0 rfl rfl hom (fun _ => rfl) rfl rfl rfl rfl (Int.natCast_nonneg j) hmj rfl rfl rfl (fun a => ?_)
      repeat' (first | refine g_pv rfl rfl ?_ | refine g_nil ?_ | refine gq_then ?_ | refine gc_seq ?_ | refine gc_region ?_)
      refine g_call (gs := .int .i64 l[j] :: cp.toList) (Y := Unit) (vf := fun _ => .bool (p l[j])) (A' := fun _ => []) (post := fun _ => True) rfl hp.1 rfl rfl (fun w' hE => hk w' (fun b o hh => old_le hE b o hh) l[j]) rfl (fun y hy => ?_)
      repeat' (first | refine g_pv rfl rfl ?_ | refine g_nil ?_ | refine gq_then ?_)
      refine gc_condC rfl (fun hq2 => ?_) (fun hq2 => ?_)
      · have hpj : p l[j] = false := by simpa using hq2
        repeat' (first | refine g_pv rfl rfl ?_ | refine gc_seq ?_ | refine gc_region ?_)
        refine g_setL 0 (f := fI) (q := l[j]) rfl rfl hom (fun _ => rfl) rfl rfl rfl rfl (Int.natCast_nonneg i) (by omega) rfl rfl rfl rfl rfl (fun a A2 ho2 => ?_)
        repeat' (first | refine g_pv rfl rfl ?_ | refine g_nil ?_ | refine gq_then ?_ | refine gc_region ?_ | refine gq_block ?_)
        refine gq_again (m.set i l[j], i + 1, j + 1, A2) ⟨⟨by simpa using hlen, by dsimp only; omega, hlt, ?_, ?_⟩, by simpa using ho2⟩ (by simp only; omega) ⟨rfl, rfl, inc_eq (by omega), inc_eq (by omega), trivial⟩ (fun w' H => H)
        · rw [List.take_succ_eq_append_getElem hlt, List.filter_append, ← hkept]
          dsimp only
          rw [List.take_succ_eq_append_getElem (by simp; omega)]
          simp [hpj, List.take_set_of_le]
        · dsimp only
          rw [← hrest', List.drop_set_of_lt (by omega)]
      · have hpj : p l[j] = true := by simpa using hq2
        repeat' (first | refine g_pv rfl rfl ?_ | refine g_nil ?_ | refine gq_then ?_ | refine gc_region ?_ | refine gc_skip ?_ | refine gq_block ?_)
        refine gq_again (m, i, j + 1, Am) ⟨⟨hlen, by dsimp only; omega, hlt, ?_, hrest'⟩, hom⟩ (by simp only; omega) ⟨rfl, rfl, rfl, inc_eq (by omega), trivial⟩ (fun w' H => H)
        rw [List.take_succ_eq_append_getElem hlt, List.filter_append, ← hkept]
        simp [hpj]
    · have hge : j = l.length := by have := of_decide_eq_false hc; omega
      rw [hge, List.take_length] at hkept
      have hdone : m.take i = l.filter (fun x => !p x) := hkept
      repeat' (first | refine g_pv rfl rfl ?_ | refine gq_then ?_ | refine gc_seq ?_ | refine gc_region ?_ | refine gc_exit ?_ | refine gq_then_exit ?_ | refine gq_block_exit ?_)
      obtain ⟨g, cap', rst, hv, rfl, h3, h4, h5⟩ := Own.pos hom (by omega)
      injection hv with hv1 hv2 hv3
      subst hv1; subst hv3
      have hfm : m.flatMap fI = m.map (Value.int .i64) := flat_one _ m
      rw [hfm] at h5 ⊢
      refine g_lo rfl rfl rfl rfl (by omega) rfl ?_
      refine g_clear1 0 (o := i) (l := m.map (Value.int .i64) ++ rst) rfl rfl rfl rfl rfl rfl (fun hpos => ?_) (by simp; omega) ?_
      · rw [if_neg (by omega)]; simp [Addr.add]; try (intro _; omega)
      repeat' (first | refine g_pv rfl rfl ?_ | refine g_nil ?_ | refine gq_then ?_ | refine gc_seq ?_ | refine gc_region ?_)
      refine g_hi rfl rfl rfl rfl (by omega) rfl ?_
      repeat' (first | refine g_pv rfl rfl ?_ | refine g_nil ?_ | refine gq_then ?_ | refine gc_ret ?_)
      refine gq_ret1 (.inr rfl) rfl rfl rfl (fun w' H => ⟨(_, _), ?_, rfl, hp_take 0 rfl (fun H => hp_nil H) H⟩)
      have hlen2 : (l.filter (fun x => !p x)).length = i := by rw [← hdone, List.length_take]; omega
      have e1 : m.map (Value.int .i64) = (l.filter (fun x => !p x)).map (Value.int .i64) ++ (m.drop i).map (Value.int .i64) := by
        rw [← hdone, ← List.map_append, List.take_append_drop]
      have e2 := putC_tail ((l.filter (fun x => !p x)).map (Value.int .i64)) ((m.drop i).map (Value.int .i64)) (List.replicate (l.length - i) (.int .i64 0)) (by simp; omega) rst
      rw [List.length_map, hlen2, ← List.append_assoc, ← e1] at e2
      show OwnI (.slice (some ⟨g, 0, none⟩) i cap) _ [(g, .cells ⟨putC (m.map (Value.int .i64) ++ rst) i (List.replicate (l.length - i) (.int .i64 0))⟩ 3 (0, 0))]
      rw [e2, List.append_assoc]
      have := OwnI.mk (g := g) (cap := cap) (l := l.filter (fun x => !p x)) (rest := List.replicate (l.length - i) (.int .i64 0) ++ rst) (by omega) h4 (by simp at h5 ⊢; omega)
      rw [hlen2] at this
      exact this
end Go.Proofs.Ytpmkkmahimdjkaa
