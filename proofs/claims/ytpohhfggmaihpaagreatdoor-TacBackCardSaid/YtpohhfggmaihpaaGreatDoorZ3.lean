/-
  Operations whose value needs no memory, told by one function.
  Regions that draw their order: what only reads is taken first; the rest in every order.
  tac: within, Writes, Reads.
  The library's IndexFunc, DeleteFunc at []int; tac.Next.
  tac.Next.
  The document's answer (layer 13): within, Writes, Reads, Next.
  A field of an element.
  The document's answer (layer 16): Ints, Lists, told; layer 13: Reads; flow: rising.
  The argument, read: what a reading of the function's argument says of memory.
  What the rows ask of a walk: the frame's last word, turned into a row's.
  Next where there is no instruction.
  Struct literals; elements of one's own by their addresses.
  Fields of elements of one's own, by their addresses.
  Maps of old memory.
  Range over a function: rounds, marks.
-/
import Derived.Test.YtpohhfggmaihpaaGreatDoorZ2
import Derived.OrdersIn
import Derived.OrdersHeld
import Derived.Test.YtpohhfggmaihpaaGreatDoorRows
import Derived.ProofKit
import Derived.SizedLaws
import Derived.Laws.Tables
import Derived.Lib.SliceRun
import Derived.RangeFuncLeaves

/- Operations whose value needs no memory, told by one function. -/
namespace Go.Wk
set_option linter.unusedVariables false
set_option linter.unusedSimpArgs false

def pcall (X : Cx) (L : LT) : Builtin → List Operand → List TypeId → Option Value
  | .len, [x], [t] => match ev L x, tl X.s.tab t with
    | some (.slice A n c), some ⟨.slice e, z, s, b⟩ => some (.int .i64 n)
    | some (.string A), some ⟨.string, z, s, b⟩ => some (.int .i64 A.size)
    | _, _ => none
  | .max, [x, y], _ => match ev L x, ev L y with
    | some (.int ik a), some (.int ik' b) => if ik = ik' then some (.int ik (if b > a then b else a)) else none
    | _, _ => none
  | .min, [x, y], _ => match ev L x, ev L y with
    | some (.int ik a), some (.int ik' b) => if ik = ik' then some (.int ik (if b < a then b else a)) else none
    | _, _ => none
  | _, _, _ => none

def pfld (X : Cx) (b o : Nat) (fs : List (Nat × TypeId)) (i : Nat) : Option Value := match fs[i]? with
  | some (off, ft) => match tl X.s.tab ft with
    | some tf => match Nat.beq tf.sz 0 with
      | false => some (.pointer (some ⟨b, o + off, none⟩))
      | true => none
    | none => none
  | none => none

def pv (X : Cx) (L : LT) : Op → Option Value
  | .move x => ev L x
  | .assign x => ev L x
  | .nilCheck x => match ev L x with
    | some (.pointer (some a)) => some (.pointer (some a))
    | _ => none
  | .pick c x y => match ev L c with
    | some (.bool true) => ev L x
    | some (.bool false) => ev L y
    | _ => none
  | .binOp op t x y yt => match ev L x, ev L y with
    | some (.int ik a), some (.int ik' b) => if ik = ik' then ibin op ik a b else none
    | _, _ => none
  | .unOp .not xt x => match ev L x with
    | some (.bool b) => some (.bool !b)
    | _ => none
  | .unOp .neg xt x => match ev L x with
    | some (.int ik a) => some (.int ik (ik.wrap (0 - a)))
    | _ => none
  | .extract x i => match ev L x with
    | some (.tuple vs) => vs[i]?
    | _ => none
  | .convert src dst x => match ev L x, tl X.s.tab dst, tl X.s.tab src with
    | some (.int k1 a), some ⟨.int k2, z, s, b⟩, some ⟨.int k1', z', s', b'⟩ => if k1 = k1' then some (.int k2 (k2.wrap a)) else none
    | _, _, _ => none
  | .makeFunc fn f1 cp => match evs L f1.toList, evs L cp.toList with
    | some vs, some us => some (.func fn vs.toArray us.toArray)
    | _, _ => none
  | .fieldAddr st x i => match ev L x, tl X.s.tab st with
    | some (.pointer (some ⟨b, o, none⟩)), some ⟨.struct fs, z, sz, by'⟩ => pfld X b o fs i
    | _, _ => none
  | .call ⟨.builtin f, xs, ts⟩ => pcall X L f xs.toList ts.toList
  | _ => none

section
variable {X : Cx} {ops : Array Oper} {Q : Post} {rest : List Oper} {L : LT} {R : RL} {d : Nat} {op : Op} {ty : TypeId} {p : String} {af : Array Edge} {v : Value}
theorem pv_spec (h : pv X L op = some v) : PR X.s.P L ⟨some d, op, ty, p, af, none⟩ v := by
  unfold pv at h
  split at h
  · exact p_move h
  · exact p_assign h
  · split at h
    · cases h; exact p_nil? (by assumption)
    · cases h
  · split at h
    · exact p_pick (by assumption) (fun _ => h) (fun h => by cases h)
    · exact p_pick (by assumption) (fun h => by cases h) (fun _ => h)
    · cases h
  · split at h
    · split at h
      · rename_i e; subst e; exact p_bin (by assumption) (by assumption) h
      · cases h
    · cases h
  · split at h
    · cases h; exact p_unot (by assumption)
    · cases h
  · split at h
    · cases h; exact p_uneg (by assumption)
    · cases h
  · split at h
    · exact p_ext (by assumption) h
    · cases h
  · split at h
    · split at h
      · rename_i e; subst e; cases h; exact p_conv (by assumption) (by assumption) (by assumption)
      · cases h
    · cases h
  · split at h
    · cases h; exact p_mkfn (by assumption) (by assumption)
    · cases h
  · split at h
    · unfold pfld at h
      split at h
      · split at h
        · split at h
          · cases h; exact p_fld (by assumption) (by assumption) (by assumption) (by assumption) (by assumption)
          · cases h
        · cases h
      · cases h
    · cases h
  · rename_i f xs ts
    obtain ⟨xs⟩ := xs
    obtain ⟨ts⟩ := ts
    dsimp only at h
    unfold pcall at h
    split at h
    · split at h
      · cases h; exact p_lenS (by assumption) (by assumption)
      · cases h; exact p_lenT (by assumption) (by assumption)
      · cases h
    · split at h
      · split at h
        · rename_i e; subst e; cases h; exact p_max (by assumption) (by assumption)
        · cases h
      · cases h
    · split at h
      · split at h
        · rename_i e; subst e; cases h; exact p_min (by assumption) (by assumption)
        · cases h
      · cases h
    · cases h
  · cases h

theorem g_pv (h : pv X L op = some v) (hN : Nat.blt d X.N = true) (k : G X ops Q rest ((d, v) :: L) R) : G X ops Q (⟨some d, op, ty, p, af, none⟩ :: rest) L R :=
  g_p (pv_spec h) hN k (by intro c hc; subst hc; simp [pv] at h)
end
end Go.Wk

/- Regions that draw their order: what only reads is taken first; the rest in every order. -/
namespace Go.Wk
set_option linter.unusedVariables false
set_option linter.unusedSimpArgs false

section
variable {ro : Option Nat} {n : Nat} {P : Program} {ops : Array Oper} {Q : Post} {S : World → Prop}

def noDS (ops : Array Oper) : Bool := ops.all fun o => match o.op with | .select .. => false | .defer _ => false | _ => true
theorem noDS_spec (h : noDS ops = true) (j : Nat) (o : Oper) (ho : ops[j]? = some o) : (∀ cs b, o.op ≠ .select cs b) ∧ (∀ c, o.op ≠ .defer c) := by
  have hm : o ∈ ops := Array.mem_of_getElem? ho
  have := Array.all_eq_true'.1 h o hm
  constructor
  · intro cs b he; rw [he] at this; simp at this
  · intro c he; rw [he] at this; simp at this

theorem opIn_put {i j : Nat} {oi oj : Oper} {v : Value} (hj : ops[j]? = some oj) (hap : oi.apart ops oj = true) (hsi : ∀ cs b, oi.op ≠ .select cs b) (hsj : ∀ cs b, oj.op ≠ .select cs b) (hdj : ∀ c, oj.op ≠ .defer c)
    (hQ : ∀ c a w, ¬ Q (.panic c) a w) {K : Act → World → Prop} {a : Act} {w : World} (hy : YieldsIf P ops S oi v a) (h : wpOpIn (Fr ro) n P ops Q j K (a.put oi.dst v) w) :
    wpOpIn (Fr ro) n P ops Q j (fun a' w' => YieldsIf P ops S oi v a' ∧ K (a'.put oi.dst v) w') a w := by
  obtain ⟨h1, h2, h3⟩ := Oper.apart_spec hap
  have keep : ∀ u, YieldsIf P ops S oi v (a.put oj.dst u) := fun u => hy.of_same (execOp_put oi hsi a oj.dst u h3) (wanted_put oi a oj.dst u h3)
  have comm : ∀ u, (a.put oi.dst v).put oj.dst u = (a.put oj.dst u).put oi.dst v := fun u => Act.put_comm a v u h2
  unfold wpOpIn at h ⊢
  simp only [hj] at h ⊢
  rw [wanted_put oj a oi.dst v h1] at h
  split
  · rename_i hw
    rw [if_pos hw] at h
    refine ⟨fun _ _ => trivial, ?_⟩
    have h' := h.2
    rw [Oper.semAt_eq _ _ _ hdj] at h' ⊢
    rw [execOp_put oj hsj a oi.dst v h1] at h'
    generalize (execOp a.eval oj).run P w = r at h' ⊢
    cases r with
    | halt x w' => cases x <;> simp only [Oper.uponIn] at h' ⊢; exact absurd h' (hQ _ _ _)
    | ok x w' =>
      cases x <;> simp only [Oper.uponIn] at h' ⊢
      case value u => exact ⟨keep u, by rw [← comm]; exact h'⟩
      case skip => exact ⟨keep _, by rw [← comm]; exact h'⟩
      case defer d =>
        refine ⟨?_, ?_⟩
        · have hd : YieldsIf P ops S oi v { a with defers := d :: a.defers } := hy.of_same rfl rfl
          exact hd.of_same (execOp_put oi hsi _ oj.dst undef h3) (wanted_put oi _ oj.dst undef h3)
        · rw [← Act.put_comm _ v undef h2, ← Act.put_defers]; exact h'
      case enter f args =>
        refine ⟨h'.1, CallsIn.mono h'.2 fun e w'' he => ?_⟩
        cases e with
        | returned u => exact ⟨keep u, by rw [← comm]; exact he⟩
        | panicked c => exact absurd he (hQ _ _ _)
        | outgrown => exact he
      case row row args => exact ⟨h'.1, RowsIn.mono h'.2 fun u w'' he => ⟨keep u, by rw [← comm]; exact he⟩⟩
      case round l f tmps av body =>
        refine ⟨h'.1, RoundIn.mono h'.2 fun e w'' he => ?_⟩
        cases e with
        | returned u => exact ⟨keep u, by rw [← comm]; exact he⟩
        | panicked c => exact absurd he (hQ _ _ _)
        | outgrown => exact he
  · rename_i hw
    rw [if_neg hw] at h
    exact ⟨fun _ _ => trivial, keep _, by rw [← comm]; exact h.2⟩

/-- An operation that waits for all others: by its own word, or by the word of one that it waits for. -/
def lastOp (ops : Array Oper) (j : Nat) : Bool := match ops[j]? with
  | some o => (List.range ops.size).all fun k => k == j || o.after.any fun e => Region.binds .any e && (e.on == k || match ops[e.on]? with
    | some o2 => o2.after.any fun e2 => Region.binds .any e2 && e2.on == k
    | none => false)
  | none => false
/-- What has been waited for is done. -/
def Clo (ops : Array Oper) (listed : Array Bool) : Prop := ∀ m om, ops[m]? = some om → listed.getD m false = true → ∀ e ∈ om.after, Region.binds .any e = true → listed.getD e.on false = true
theorem Clo.init (n : Nat) : Clo ops (Array.replicate n false) := fun m om _ h => by
  exfalso
  rw [Array.getD_eq_getD_getElem?] at h
  by_cases hm : m < n
  · simp [hm] at h
  · simp [hm] at h
theorem Clo.step {listed : Array Bool} {i : Nat} (h : Clo ops listed) (hr : i ∈ Region.ready .any ops listed) : Clo ops (listed.setIfInBounds i true) := fun m om hm hl e he hb => by
  obtain ⟨h0, o, ho, hall⟩ := mem_ready.1 hr
  by_cases hmi : i = m
  · subst hmi
    rw [hm] at ho; cases ho
    exact getD_set_true (hall e he hb)
  · rw [getD_set_ne false hmi] at hl
    exact getD_set_true (h m om hm hl e he hb)
theorem lastOp_not {i j : Nat} {oi oj : Oper} {listed : Array Bool} (hC : Clo ops listed) (hr : j ∈ Region.ready .any ops listed) (hu : listed.getD i true = false) (hj : ops[j]? = some oj) (hij : i ≠ j) (hnot : ∀ e ∈ oj.after, Region.binds .any e = true → e.on ≠ i) (hi : ops[i]? = some oi) : lastOp ops j = false := by
  cases h : lastOp ops j with
  | false => rfl
  | true =>
    unfold lastOp at h
    simp only [hj, List.all_eq_true, List.mem_range, Bool.or_eq_true, beq_iff_eq] at h
    have hlt : i < ops.size := (Array.getElem?_eq_some_iff.1 hi).1
    rcases h i hlt with h1 | h1
    · exact absurd h1 hij
    · obtain ⟨e, he, hb⟩ := Array.any_eq_true'.1 h1
      simp only [Bool.and_eq_true, Bool.or_eq_true, beq_iff_eq] at hb
      rcases hb.2 with h2 | h2
      · exact absurd h2 (hnot e he hb.1)
      · obtain ⟨_, o, ho, hall⟩ := mem_ready.1 hr
        rw [hj] at ho; cases ho
        have hl := hall e he hb.1
        split at h2
        · rename_i o2 ho2
          obtain ⟨e2, he2, hb2⟩ := Array.any_eq_true'.1 h2
          simp only [Bool.and_eq_true, beq_iff_eq] at hb2
          have h3 := hC _ _ ho2 hl e2 he2 hb2.1
          rw [hb2.2] at h3
          rcases Nat.lt_or_ge i listed.size with h' | h'
          · simp [h'] at h3 hu; rw [h3] at hu; cases hu
          · simp [Array.getElem?_eq_none h'] at hu
        · cases h2
/-- Whatever order is drawn from here on; S holds behind each step. -/
def AnyS (ro : Option Nat) (n : Nat) (P : Program) (ops : Array Oper) (Q : Post) (S : World → Prop) : Nat → Array Bool → Act → World → Prop
  | 0, listed, a, w => Region.ready .any ops listed = [] ∧ Q .normal a w
  | fuel + 1, listed, a, w =>
    (Region.ready .any ops listed = [] → Q .normal a w) ∧
    ∀ i ∈ Region.ready .any ops listed, wpOpIn (Fr ro) n P ops Q i (fun a' w' => (lastOp ops i = false → S w') ∧ AnyS ro n P ops Q S fuel (listed.setIfInBounds i true) a' w') a w

theorem AnyS.sound : ∀ (fuel : Nat) (listed : Array Bool) (a : Act) (w : World), AnyS ro n P ops Q S fuel listed a w → wpAnyIn (Fr ro) n P .any ops Q fuel listed a w
  | 0, _, _, _, h => h
  | fuel + 1, _, _, _, h => ⟨h.1, fun i hi => wpOpIn_mono (fun a' w' h' => AnyS.sound fuel _ a' w' h'.2) (h.2 i hi)⟩

theorem yieldsIf_step {i : Nat} {oi : Oper} {v : Value} {a : Act} {w : World} (hi : ops[i]? = some oi) (hd : ∀ c, oi.op ≠ .defer c) (hy : YieldsIf P ops S oi v a) (hS : S w) {K : Act → World → Prop} (h : K (a.put oi.dst v) w) :
    wpOpIn (Fr ro) n P ops Q i K a w := by
  unfold wpOpIn
  simp only [hi]
  rcases hy with ⟨hw, hv⟩ | ⟨hw, rfl⟩
  · rw [if_pos hw]
    refine ⟨fun _ _ => trivial, ?_⟩
    rw [Oper.semAt_eq _ _ _ hd, hv w hS]
    exact h
  · rw [if_neg (by simp [hw])]
    exact ⟨fun _ _ => trivial, h⟩

theorem AnyS.first {i : Nat} {oi : Oper} {v : Value} (hi : ops[i]? = some oi) (hns : noDS ops = true) (hQ : ∀ c a w, ¬ Q (.panic c) a w) :
    ∀ (fuel : Nat) (listed : Array Bool) (a : Act) (w : World),
      (∀ j oj, ops[j]? = some oj → j ≠ i → listed.getD j true = false → (∀ e ∈ oj.after, Region.binds .any e = true → e.on ≠ i) → oi.apart ops oj = true) →
      i ∈ Region.ready .any ops listed → YieldsIf P ops S oi v a → S w → Clo ops listed →
      AnyS ro n P ops Q S fuel (listed.setIfInBounds i true) (a.put oi.dst v) w → AnyS ro n P ops Q S (fuel + 1) listed a w := by
  have hdi := (noDS_spec hns i oi hi).2
  intro fuel
  induction fuel with
  | zero =>
    intro listed a w _ hr hy hS hC H
    refine ⟨fun h => (by rw [h] at hr; cases hr), fun j hj => ?_⟩
    by_cases hji : j = i
    · subst hji; exact yieldsIf_step hi hdi hy hS ⟨fun _ => hS, H⟩
    · have := ready_mono hj hji
      rw [H.1] at this
      cases this
  | succ fuel ih =>
    intro listed a w hfree hr hy hS hC H
    refine ⟨fun h => (by rw [h] at hr; cases hr), fun j hj => ?_⟩
    by_cases hji : j = i
    · subst hji; exact yieldsIf_step hi hdi hy hS ⟨fun _ => hS, H⟩
    · have h1 := H.2 j (ready_mono hj hji)
      obtain ⟨hjun, oj, hoj, hall⟩ := mem_ready.1 hj
      have hnot : ∀ e ∈ oj.after, Region.binds .any e = true → e.on ≠ i := fun e he hb heq => by
        have h1 := hall e he hb
        have h0 := (mem_ready.1 hr).1
        rw [heq] at h1
        rcases Nat.lt_or_ge i listed.size with h' | h'
        · simp [h'] at h0 h1; rw [h0] at h1; cases h1
        · simp [Array.getElem?_eq_none h'] at h1
      obtain ⟨hs1, hd1⟩ := noDS_spec hns j oj hoj
      have h2 := opIn_put (i := i) hoj (hfree j oj hoj hji hjun hnot) (noDS_spec hns i oi hi).1 hs1 hd1 hQ hy h1
      have hfree' : ∀ k ok, ops[k]? = some ok → k ≠ i → (listed.setIfInBounds j true).getD k true = false →
          (∀ e ∈ ok.after, Region.binds .any e = true → e.on ≠ i) → oi.apart ops ok = true := fun k ok hk hki hun hno => by
        refine hfree k ok hk hki ?_ hno
        by_cases hjk : j = k
        · subst hjk; exact hjun
        · rw [getD_set_ne true hjk] at hun; exact hun
      refine wpOpIn_mono (fun a' w' h3 => ⟨h3.2.1, ih (listed.setIfInBounds j true) a' w' hfree' (ready_mono hr (Ne.symm hji)) h3.1 (h3.2.1 (lastOp_not hC hj (mem_ready.1 hr).1 hoj (Ne.symm hji) hnot hi)) (hC.step hj) ?_⟩) h2
      rw [Array.setIfInBounds_comm _ _ hji]
      exact h3.2.2
end

/-- What stays as it is all through a region: the first part of what one owned when it began. -/
def Still (X : Cx) (R0 : RL) (w : World) : Prop := ∃ F, Eff X.w0 X.A0 w (R0.flatten ++ F)
/-- Of a region that draws: what is left to be done (listed: what has been). -/
def GA (X : Cx) (ops : Array Oper) (Q : Post) (R0 : RL) (fuel : Nat) (listed : Array Bool) (L : LT) (R : RL) : Prop :=
  ∀ a w, Ok X a L → Hp X w R → Still X R0 w → Clo ops listed → AnyS X.ro X.n X.s.P ops Q (Still X R0) fuel listed a w
def NoP (Q : Post) : Prop := ∀ c a w, ¬ Q (.panic c) a w
theorem NoP.then {K : Act → World → Prop} {Q : Post} (h : NoP Q) : NoP (Exit.then K Q) := fun c a w hq => h c a w hq
theorem NoP.block {id : Nat} {Q : Post} (h : NoP Q) : NoP (Exit.inBlock id Q) := fun c a w hq => h c a w hq
theorem NoP.fn {P : Program} {fn : Func} {R : Ending → World → Prop} (h : ∀ c w, ¬ R (.panicked c) w) : NoP (bodyPost P fn R) := fun c a w hq => h c w hq.2
theorem NoP.sp {P : Program} {fn : Func} {Y : Type} {v : Y → Value} {T : Y → World → Prop} {post : Y → Prop} : NoP (bodyPost P fn (fun e w' => ∃ y, post y ∧ e = .returned (v y) ∧ T y w')) :=
  NoP.fn (fun c w ⟨y, _, h, _⟩ => by cases h)

section
variable {X : Cx} {ops : Array Oper} {Q : Post} {L : LT} {R R0 : RL} {fuel : Nat} {listed : Array Bool}

theorem Still.of {X : Cx} {w : World} {R R0 B : RL} (h : (R0 ++ B).Perm R) (H : Hp X w R) : Still X R0 w :=
  ⟨B.flatten, Eff.sel H [] (by rw [List.append_nil, ← List.flatten_append]; exact h.flatten)⟩

theorem gc_draw {id : Nat} {l : List Oper} (R0 B : RL) (hm : X.s.P.follows .mixedOrders = true) (hB : (R0 ++ B).Perm R) (h : GA X l.toArray Q R0 l.length (Array.replicate l.length false) L R) :
    GC X (.region id l.toArray true) Q L R := by
  intro a w ha hE
  have hE' : Hp X { w with drawn := w.drawn + 1 } R := Eff.seq0 hE (Eff.drew w)
  refine wpIn_region_any hm ?_
  have := AnyS.sound _ _ _ _ (h a _ ha hE' (Still.of hB hE') (Clo.init _))
  simpa using this

/-- What gives its value whatever memory holds is taken first. -/
theorem ga_p (i : Nat) {d : Nat} {op : Op} {ty : TypeId} {p : String} {af : Array Edge} {v : Value} (hQ : NoP Q) (hi : ops[i]? = some ⟨some d, op, ty, p, af, none⟩) (h : PR X.s.P L ⟨some d, op, ty, p, af, none⟩ v) (hN : Nat.blt d X.N = true)
    (hns : noDS ops = true) (hf : Region.free .any ops listed i = true) (hr : (Region.ready .any ops listed).contains i = true)
    (k : GA X ops Q R0 fuel (listed.setIfInBounds i true) ((d, v) :: L) R) : GA X ops Q R0 (fuel + 1) listed L R := by
  intro a w ha hE hS hC
  refine AnyS.first hi hns hQ fuel listed a w (Region.free_spec hi hf) (by simpa using hr) (.inl ⟨rfl, fun w' _ => h _ w' (fun x u hx => ha.kn.ev hx)⟩) hS hC ?_
  exact k _ w (ha.put hN v) hE hS (hC.step (by simpa using hr))

/-- The same behind a guard that says yes. -/
theorem ga_py (i : Nat) {d j t : Nat} {want : Bool} {op : Op} {ty : TypeId} {p : String} {af : Array Edge} {v : Value} (hQ : NoP Q) (hi : ops[i]? = some ⟨some d, op, ty, p, af, some (j, want)⟩) (hj : (ops[j]?).bind (·.dst) = some t) (hNt : Nat.blt t X.N = true) (hb : lk L t = some (.bool want))
    (h : PR X.s.P L ⟨some d, op, ty, p, af, none⟩ v) (hN : Nat.blt d X.N = true)
    (hns : noDS ops = true) (hf : Region.free .any ops listed i = true) (hr : (Region.ready .any ops listed).contains i = true)
    (k : GA X ops Q R0 fuel (listed.setIfInBounds i true) ((d, v) :: L) R) : GA X ops Q R0 (fuel + 1) listed L R := by
  intro a w ha hE hS hC
  have hlt : t < a.tmps.size := by rw [ha.size]; exact Nat.lt_of_lt_of_le (Nat.lt_succ_self t) (Nat.le_of_ble_eq_true hNt)
  have hv : a.tmps[t]? = some (.bool want) := by
    have := ha.kn _ _ hb
    rw [Array.getD_eq_getD_getElem?, Array.getElem?_eq_getElem hlt, Option.getD_some] at this
    rw [Array.getElem?_eq_getElem hlt, this]
  have hw : Region.wanted ⟨some d, op, ty, p, af, some (j, want)⟩ (yielded ops a.tmps) = true := by simp [Region.wanted, yielded, hj, hv]
  refine AnyS.first hi hns hQ fuel listed a w (Region.free_spec hi hf) (by simpa using hr) (.inl ⟨hw, fun w' _ => h _ w' (fun x u hx => ha.kn.ev hx)⟩) hS hC ?_
  exact k _ w (ha.put hN v) hE hS (hC.step (by simpa using hr))

/-- Behind a guard that says no. -/
theorem ga_n (i : Nat) {d j t : Nat} {want : Bool} {u : Value} {op : Op} {ty : TypeId} {p : String} {af : Array Edge} (hQ : NoP Q) (hi : ops[i]? = some ⟨some d, op, ty, p, af, some (j, want)⟩) (hj : (ops[j]?).bind (·.dst) = some t) (hNt : Nat.blt t X.N = true) (hb : lk L t = some u) (hne : (match u with | .bool b => b == want | _ => false) = false)
    (hN : Nat.blt d X.N = true) (hns : noDS ops = true) (hf : Region.free .any ops listed i = true) (hr : (Region.ready .any ops listed).contains i = true)
    (k : GA X ops Q R0 fuel (listed.setIfInBounds i true) ((d, undef) :: L) R) : GA X ops Q R0 (fuel + 1) listed L R := by
  intro a w ha hE hS hC
  have hlt : t < a.tmps.size := by rw [ha.size]; exact Nat.lt_of_lt_of_le (Nat.lt_succ_self t) (Nat.le_of_ble_eq_true hNt)
  have hv : a.tmps[t]? = some u := by
    have := ha.kn _ _ hb
    rw [Array.getD_eq_getD_getElem?, Array.getElem?_eq_getElem hlt, Option.getD_some] at this
    rw [Array.getElem?_eq_getElem hlt, this]
  have hw : Region.wanted ⟨some d, op, ty, p, af, some (j, want)⟩ (yielded ops a.tmps) = false := by
    simp only [Region.wanted, yielded, hj, hv, Option.bind_some]
    cases u with
    | bool b => have : b ≠ want := fun h => by subst h; simp at hne
                simp [this]
    | _ => rfl
  refine AnyS.first hi hns hQ fuel listed a w (Region.free_spec hi hf) (by simpa using hr) (.inr ⟨hw, rfl⟩) hS hC ?_
  exact k _ w (ha.put hN undef) hE hS (hC.step (by simpa using hr))

/-- A load of what stays as it is. -/
theorem ga_ldG (i : Nat) {d : Nat} {t : TypeId} {x : Operand} {ty : TypeId} {p : String} {af : Array Edge} {g : Option (Nat × Bool)} {v : Value} {ti : Ti} {b o : Nat} {cs : List Value} (hQ : NoP Q) (hi : ops[i]? = some ⟨some d, .load t x, ty, p, af, g⟩)
    (hg : ∀ a, Ok X a L → Region.wanted ⟨some d, .load t x, ty, p, af, g⟩ (yielded ops a.tmps) = true) (hx : ev L x = some (.pointer (some ⟨b, o, none⟩))) (ht : tl X.s.tab t = some ti) (hl : cs.length = ti.sz) (hv : asV ti.k cs = some v)
    (hc : ∀ w, Still X R0 w → ∀ j u, cs[j]? = some u → w.cell? ⟨b, o + j, none⟩ = some u)
    (hN : Nat.blt d X.N = true) (hns : noDS ops = true) (hf : Region.free .any ops listed i = true) (hr : (Region.ready .any ops listed).contains i = true)
    (k : GA X ops Q R0 fuel (listed.setIfInBounds i true) ((d, v) :: L) R) : GA X ops Q R0 (fuel + 1) listed L R := by
  intro a w ha hE hS hC
  refine AnyS.first (v := v) hi hns hQ fuel listed a w (Region.free_spec hi hf) (by simpa using hr) (.inl ⟨hg a ha, fun w' hS' => ?_⟩) hS hC ?_
  · simp only [execOp]
    rw [ha.kn.ev hx]
    simp [run_loadAt (X.s.ok.at ht) hl hv (hc w' hS')]
  · exact k _ w (ha.put hN v) hE hS (hC.step (by simpa using hr))

theorem wanted_none {ops : Array Oper} {d : Option Tmp} {op : Op} {ty : TypeId} {p : String} {af : Array Edge} {X : Cx} {L : LT} : ∀ a, Ok X a L → Region.wanted ⟨d, op, ty, p, af, none⟩ (yielded ops a.tmps) = true := fun _ _ => rfl
theorem wanted_yes {d : Option Tmp} {op : Op} {ty : TypeId} {p : String} {af : Array Edge} {j t : Nat} {want : Bool} (hj : (ops[j]?).bind (·.dst) = some t) (hNt : Nat.blt t X.N = true) (hb : lk L t = some (.bool want)) :
    ∀ a, Ok X a L → Region.wanted ⟨d, op, ty, p, af, some (j, want)⟩ (yielded ops a.tmps) = true := fun a ha => by
  have hlt : t < a.tmps.size := by rw [ha.size]; exact Nat.lt_of_lt_of_le (Nat.lt_succ_self t) (Nat.le_of_ble_eq_true hNt)
  have hv : a.tmps[t]? = some (.bool want) := by
    have := ha.kn _ _ hb
    rw [Array.getD_eq_getD_getElem?, Array.getElem?_eq_getElem hlt, Option.getD_some] at this
    rw [Array.getElem?_eq_getElem hlt, this]
  simp [Region.wanted, yielded, hj, hv]

theorem still_cell {X : Cx} {w : World} {R0 : RL} (H : Still X R0 w) {i b : Nat} {o : Obj} {A : HL} (hR : R0[i]? = some ((b, o) :: A)) : w.heap[b]? = some o := by
  obtain ⟨F, E⟩ := H
  exact E.holds b o (List.mem_append_left _ (List.mem_flatten.2 ⟨_, List.mem_of_getElem? hR, List.mem_cons_self⟩))
theorem still_old {X : Cx} {w : World} {R0 : RL} (H : Still X R0 w) : Hle (Oldh X) (hw w) := fun _ _ h => by
  obtain ⟨F, E⟩ := H
  exact old_hw E h

/-- Own block number q (of what stays) is read. -/
theorem ga_ld (i q : Nat) {d : Nat} {t : TypeId} {x : Operand} {ty : TypeId} {p : String} {af : Array Edge} {g : Option (Nat × Bool)} {v : Value} {ti : Ti} {b o : Nat} {l cs : List Value} {e : TypeId} {fz : Nat × Nat} {A : HL} (hQ : NoP Q) (hi : ops[i]? = some ⟨some d, .load t x, ty, p, af, g⟩)
    (hg : ∀ a, Ok X a L → Region.wanted ⟨some d, .load t x, ty, p, af, g⟩ (yielded ops a.tmps) = true) (hR : R0[q]? = some ((b, .cells ⟨l⟩ e fz) :: A)) (hx : ev L x = some (.pointer (some ⟨b, o, none⟩))) (ht : tl X.s.tab t = some ti)
    (hc : takeC l o ti.sz = some cs) (hv : asV ti.k cs = some v)
    (hN : Nat.blt d X.N = true) (hns : noDS ops = true) (hf : Region.free .any ops listed i = true) (hr : (Region.ready .any ops listed).contains i = true)
    (k : GA X ops Q R0 fuel (listed.setIfInBounds i true) ((d, v) :: L) R) : GA X ops Q R0 (fuel + 1) listed L R := by
  obtain ⟨h1, h2⟩ := takeC_spec _ _ _ _ hc
  refine ga_ldG i hQ hi hg hx ht h1 hv (fun w hS j u hj => ?_) hN hns hf hr k
  have hb := still_cell hS hR
  simp only [World.cell?, hb]
  simpa using h2 j u hj

/-- Old memory is read. -/
theorem ga_ldO (i : Nat) {d : Nat} {t : TypeId} {x : Operand} {ty : TypeId} {p : String} {af : Array Edge} {g : Option (Nat × Bool)} {v : Value} {ti : Ti} {b o : Nat} {cs : List Value} (hQ : NoP Q) (hi : ops[i]? = some ⟨some d, .load t x, ty, p, af, g⟩)
    (hg : ∀ a, Ok X a L → Region.wanted ⟨some d, .load t x, ty, p, af, g⟩ (yielded ops a.tmps) = true) (hx : ev L x = some (.pointer (some ⟨b, o, none⟩))) (ht : tl X.s.tab t = some ti) (hl : cs.length = ti.sz) (hv : asV ti.k cs = some v)
    (hc : ∀ j u, cs[j]? = some u → cellAt (Oldh X) b (o + j) = some u)
    (hN : Nat.blt d X.N = true) (hns : noDS ops = true) (hf : Region.free .any ops listed i = true) (hr : (Region.ready .any ops listed).contains i = true)
    (k : GA X ops Q R0 fuel (listed.setIfInBounds i true) ((d, v) :: L) R) : GA X ops Q R0 (fuel + 1) listed L R :=
  ga_ldG i hQ hi hg hx ht hl hv (fun w hS j u hj => by rw [← cellAt_hw]; exact (still_old hS).cell (hc j u hj)) hN hns hf hr k

theorem ga_eq (t : Nat) {u u' : Value} (h : lk L t = some u) (e : u = u') (k : GA X ops Q R0 fuel listed ((t, u') :: L) R) : GA X ops Q R0 fuel listed L R := by
  subst e
  intro a w ha hE hS hC
  exact k a w (ok_put ha h) hE hS hC
theorem ga_case {t : Nat} {b : Bool} (hb : lk L t = some (.bool b)) (ht : b = true → GA X ops Q R0 fuel listed ((t, .bool true) :: L) R) (hf : b = false → GA X ops Q R0 fuel listed ((t, .bool false) :: L) R) : GA X ops Q R0 fuel listed L R := by
  intro a w ha hE hS hC
  cases b with
  | true => exact ht rfl a w (ok_put ha hb) hE hS hC
  | false => exact hf rfl a w (ok_put ha hb) hE hS hC
/-- An element's address, of old memory. -/
theorem ga_at (i i2 : Nat) {α : Type} {d d1 : Nat} {t t2 ty ty1 : TypeId} {p p1 : String} {af af1 : Array Edge} {gd gd1 : Option (Nat × Bool)} {x y : Operand} {e : TypeId} {z v : Value} {s b : Nat} {te : Ti} {ik : IntKind} {iv : Int} {A : Option Addr} {n c : Nat} {f : α → List Value} {l : List α} {u : α}
    (hQ : NoP Q) (hi : ops[i]? = some ⟨some d1, .indexAddr t x y, ty1, p1, af1, gd1⟩) (hg1 : ∀ a, Ok X a L → Region.wanted ⟨some d1, .indexAddr t x y, ty1, p1, af1, gd1⟩ (yielded ops a.tmps) = true)
    (hi2 : ops[i2]? = some ⟨some d, .load t2 (.tmp d1), ty, p, af, gd⟩)
    (hg : ∀ a v, Ok X a ((d1, v) :: L) → Region.wanted ⟨some d, .load t2 (.tmp d1), ty, p, af, gd⟩ (yielded ops a.tmps) = true)
    (hx : ev L x = some (.slice A n c)) (hy : ev L y = some (.int ik iv)) (ht : tl X.s.tab t = some ⟨.slice e, z, s, b⟩) (hte : tl X.s.tab e = some te) (he : Nat.beq t2 e = true)
    (h0 : 0 ≤ iv) (h1 : iv < n) (hr : ∀ w, Still X R0 w → Rd (hw w) f te.sz A l) (hl : l[iv.toNat]? = some u) (hs : (f u).length = te.sz) (hv : asV te.k (f u) = some v) (hN1 : Nat.blt d1 X.N = true) (hN : Nat.blt d X.N = true)
    (hns : noDS ops = true) (hf : Region.free .any ops listed i = true) (hrd : (Region.ready .any ops listed).contains i = true)
    (hf2 : Region.free .any ops (listed.setIfInBounds i true) i2 = true) (hrd2 : (Region.ready .any ops (listed.setIfInBounds i true)).contains i2 = true)
    (k : ∀ a, GA X ops Q R0 fuel ((listed.setIfInBounds i true).setIfInBounds i2 true) ((d, v) :: (d1, .pointer (some a)) :: L) R) : GA X ops Q R0 (fuel + 1 + 1) listed L R := by
  obtain rfl := Nat.eq_of_beq_eq_true he
  intro a w ha hE hS hC
  obtain ⟨bx, o, rfl, hc⟩ := hr w hS _ _ hl
  have hp : PR X.s.P L ⟨some d1, .indexAddr t x y, ty1, p1, af1, none⟩ (.pointer (some ⟨bx, o + iv.toNat * te.sz, none⟩)) := p_ix hx hy ht hte h0 h1
  refine AnyS.first hi hns hQ _ listed a w (Region.free_spec hi hf) (by simpa using hrd) (.inl ⟨hg1 a ha, fun w' _ => hp _ w' (fun x u hx => ha.kn.ev hx)⟩) hS hC ?_
  exact ga_ldG (R := R) i2 hQ hi2 (fun a' ha' => hg a' _ ha') (lk_hd d1 _ L) hte hs hv (fun w' hS' j u' hj => by
    obtain ⟨b2, o2, hA2, hc2⟩ := hr w' hS' _ _ hl
    cases hA2
    rw [← cellAt_hw]; exact hc2 j u' hj) hN hns hf2 hrd2 (k _) _ w (ha.put hN1 _) hE hS (hC.step (by simpa using hrd))

/-- What is owned and stays, as a row. -/
theorem still_rd {X : Cx} {R0 : RL} {α : Type} {e : TypeId} {sz : Nat} {f : α → List Value} {v : Value} {l : List α} {A : HL} {ad : Option Addr} {n cap : Nat} (i : Nat) (hR : R0[i]? = some A) (hf : ∀ x, (f x).length = sz) (ho : OwnL e sz f v l A) (hv : v = .slice ad n cap) :
    ∀ w, Still X R0 w → Rd (hw w) f sz ad l := by
  intro w ⟨F, E⟩
  rcases ho.2 with ⟨rfl, h2, h3⟩ | ⟨g, cap', rest, rfl, rfl, h3, h4, h5⟩
  · have := List.eq_nil_of_length_eq_zero h2
    subst this
    exact fun i x hx => by simp at hx
  · cases hv
    have hg : w.heap[g]? = _ := E.holds g _ (List.mem_append_left _ (List.mem_flatten.2 ⟨_, List.mem_of_getElem? hR, List.mem_cons_self⟩))
    refine fun i x hx => ⟨g, 0, rfl, fun j u hj => ?_⟩
    simp only [cellAt, hw, hg]
    have h6 := flat_get hf l i x hx j u hj
    have : (l.flatMap f ++ rest)[0 + i * sz + j]? = some u := by
      rw [Nat.zero_add, List.getElem?_append_left (List.getElem?_eq_some_iff.1 h6).1]; exact h6
    simpa using this
theorem still_rdO {X : Cx} {R0 : RL} {α : Type} {sz : Nat} {f : α → List Value} {l : List α} {ad : Option Addr} (hr : Rd (Oldh X) f sz ad l) : ∀ w, Still X R0 w → Rd (hw w) f sz ad l := fun w hS => hr.le (still_old hS)

/-- Nothing is left. -/
theorem ga_nil (hr : Region.ready .any ops listed = []) (k : GQ X Q .normal L R) : GA X ops Q R0 fuel listed L R := by
  intro a w ha hE hS hC
  cases fuel with
  | zero => exact ⟨hr, k a w ha hE⟩
  | succ n => exact ⟨fun _ => k a w ha hE, fun i hi => by rw [hr] at hi; cases hi⟩

/-- One step of operation i, whatever its rule G. -/
def GS (X : Cx) (ops : Array Oper) (Q : Post) (R0 : RL) (fuel : Nat) (listed : Array Bool) (i : Nat) (L : LT) (R : RL) : Prop :=
  Clo ops (listed.setIfInBounds i true) → ∀ a w, Ok X a L → Hp X w R → wpOpIn (Fr X.ro) X.n X.s.P ops Q i (fun a' w' => (lastOp ops i = false → Still X R0 w') ∧ AnyS X.ro X.n X.s.P ops Q (Still X R0) fuel (listed.setIfInBounds i true) a' w') a w
theorem ga_all {rs : List Nat} (hr : Region.ready .any ops listed = rs) (hne : rs ≠ []) (k : ∀ i, i ∈ rs → GS X ops Q R0 fuel listed i L R) : GA X ops Q R0 (fuel + 1) listed L R := by
  intro a w ha hE hS hC
  refine ⟨fun h => absurd (hr ▸ h) hne, fun q hq => ?_⟩
  have hq' := hq
  rw [hr] at hq
  exact k q hq (hC.step hq') a w ha hE
theorem ga_one {i : Nat} (hr : Region.ready .any ops listed = [i]) (k : GS X ops Q R0 fuel listed i L R) : GA X ops Q R0 (fuel + 1) listed L R :=
  ga_all hr (by simp) (fun j hj => by
    have : j = i := by simpa using hj
    subst this; exact k)
theorem ga_two {i j : Nat} (hr : Region.ready .any ops listed = [i, j]) (k1 : GS X ops Q R0 fuel listed i L R) (k2 : GS X ops Q R0 fuel listed j L R) : GA X ops Q R0 (fuel + 1) listed L R :=
  ga_all hr (by simp) (fun q hq => by
    have : q = i ∨ q = j := by simpa using hq
    rcases this with h | h
    · rw [h]; exact k1
    · rw [h]; exact k2)

theorem op_of {i : Nat} {o : Oper} {K : Act → World → Prop} {a : Act} {w : World} (hi : ops[i]? = some o) (h1 : wpListIn (Fr X.ro) X.n X.s.P ops (Exit.then K Q) [o] a w) : wpOpIn (Fr X.ro) X.n X.s.P ops Q i K a w := by
  unfold wpOpIn
  simp only [hi]
  simp only [wpListIn] at h1
  split
  · rename_i hw
    rw [if_pos hw] at h1
    refine ⟨h1.1, ?_⟩
    have h2 := h1.2
    generalize ((o.semAt (Fr X.ro).round a.eval).run X.s.P w) = r at h2 ⊢
    cases r with
    | ok x w' => cases x <;> simp only [Oper.uponIn] at h2 ⊢ <;> first | exact h2 | exact ⟨h2.1, CallsIn.mono h2.2 (fun e w'' he => by cases e <;> exact he)⟩ | exact ⟨h2.1, RoundIn.mono h2.2 (fun e w'' he => by cases e <;> exact he)⟩
    | halt x w' => cases x <;> simp only [Oper.uponIn] at h2 ⊢ <;> exact h2
  · rename_i hw
    rw [if_neg hw] at h1
    exact h1
/-- An operation's own rule serves for a step of a region that draws: give it the region as what is left behind it. -/
theorem gs_of {i : Nat} {o : Oper} (hi : ops[i]? = some o)
    (h : ∀ K : Act → World → Prop, (∀ L' R', (∃ B : RL, (R0 ++ B).Perm R') → GA X ops Q R0 fuel (listed.setIfInBounds i true) L' R' → GQ X (Exit.then K Q) .normal L' R') → G X ops (Exit.then K Q) [o] L R) : GS X ops Q R0 fuel listed i L R := by
  intro hC a w ha hE
  have h1 := h (fun a' w' => (lastOp ops i = false → Still X R0 w') ∧ AnyS X.ro X.n X.s.P ops Q (Still X R0) fuel (listed.setIfInBounds i true) a' w') (fun L' R' ⟨B, hB⟩ hk a' w' ha' hE' => ⟨fun _ => Still.of hB hE', hk a' w' ha' hE' (Still.of hB hE') hC⟩) a w ha hE
  exact op_of hi h1
/-- The last operation: what stays need not stay any more. -/
theorem gs_last {i : Nat} {o : Oper} (hi : ops[i]? = some o) (hl : lastOp ops i = true) (hr : Region.ready .any ops (listed.setIfInBounds i true) = []) (h : ∀ K : Act → World → Prop, (∀ L' R', GQ X Q .normal L' R' → GQ X (Exit.then K Q) .normal L' R') → G X ops (Exit.then K Q) [o] L R) : GS X ops Q R0 fuel listed i L R := by
  intro hC a w ha hE
  have h1 := h (fun a' w' => (lastOp ops i = false → Still X R0 w') ∧ AnyS X.ro X.n X.s.P ops Q (Still X R0) fuel (listed.setIfInBounds i true) a' w') (fun L' R' hk a' w' ha' hE' => ⟨fun h => (by rw [hl] at h; cases h), by
    cases fuel with
    | zero => exact ⟨hr, hk a' w' ha' hE'⟩
    | succ n => exact ⟨fun _ => hk a' w' ha' hE', fun i hi => by rw [hr] at hi; cases hi⟩⟩) a w ha hE
  exact op_of hi h1
end
/-! ### The same, said shortly -/
section
variable {X : Cx} {ops : Array Oper} {Q : Post} {R0 : RL} {fuel : Nat} {listed : Array Bool} {L : LT} {R : RL}
theorem aQ (i : Nat) {d : Nat} {op : Op} {ty : TypeId} {p : String} {af : Array Edge} {v : Value} (hi : ops[i]? = some ⟨some d, op, ty, p, af, none⟩) (h : PR X.s.P L ⟨some d, op, ty, p, af, none⟩ v)
    (k : GA X ops Q R0 fuel (listed.setIfInBounds i true) ((d, v) :: L) R) (hN : Nat.blt d X.N = true := by exact rfl) (hQ : NoP Q := by repeat first | exact NoP.sp | apply NoP.then | apply NoP.block | assumption)
    (hns : noDS ops = true := by kernel_rfl) (hf : Region.free .any ops listed i = true := by kernel_rfl) (hr : (Region.ready .any ops listed).contains i = true := by kernel_rfl) : GA X ops Q R0 (fuel + 1) listed L R := ga_p i hQ hi h hN hns hf hr k
theorem aP (i : Nat) {d : Nat} {op : Op} {ty : TypeId} {p : String} {af : Array Edge} {v : Value} (hi : ops[i]? = some ⟨some d, op, ty, p, af, none⟩) (h : pv X L op = some v)
    (k : GA X ops Q R0 fuel (listed.setIfInBounds i true) ((d, v) :: L) R) (hN : Nat.blt d X.N = true := by exact rfl) (hQ : NoP Q := by repeat first | exact NoP.sp | apply NoP.then | apply NoP.block | assumption)
    (hns : noDS ops = true := by kernel_rfl) (hf : Region.free .any ops listed i = true := by kernel_rfl) (hr : (Region.ready .any ops listed).contains i = true := by kernel_rfl) : GA X ops Q R0 (fuel + 1) listed L R := ga_p i hQ hi (pv_spec h) hN hns hf hr k
theorem aY (i : Nat) {d j t : Nat} {want : Bool} {op : Op} {ty : TypeId} {p : String} {af : Array Edge} {v : Value} (hi : ops[i]? = some ⟨some d, op, ty, p, af, some (j, want)⟩) (hj : (ops[j]?).bind (·.dst) = some t) (hNt : Nat.blt t X.N = true) (hb : lk L t = some (.bool want)) (h : pv X L op = some v)
    (k : GA X ops Q R0 fuel (listed.setIfInBounds i true) ((d, v) :: L) R) (hN : Nat.blt d X.N = true := by exact rfl) (hQ : NoP Q := by repeat first | exact NoP.sp | apply NoP.then | apply NoP.block | assumption)
    (hns : noDS ops = true := by kernel_rfl) (hf : Region.free .any ops listed i = true := by kernel_rfl) (hr : (Region.ready .any ops listed).contains i = true := by kernel_rfl) : GA X ops Q R0 (fuel + 1) listed L R := ga_py i hQ hi hj hNt hb (pv_spec h) hN hns hf hr k
theorem aN (i : Nat) {d j t : Nat} {want : Bool} {u : Value} {op : Op} {ty : TypeId} {p : String} {af : Array Edge} (hi : ops[i]? = some ⟨some d, op, ty, p, af, some (j, want)⟩) (hj : (ops[j]?).bind (·.dst) = some t) (hNt : Nat.blt t X.N = true) (hb : lk L t = some u) (hne : (match u with | .bool b => b == want | _ => false) = false)
    (k : GA X ops Q R0 fuel (listed.setIfInBounds i true) ((d, undef) :: L) R) (hN : Nat.blt d X.N = true := by exact rfl) (hQ : NoP Q := by repeat first | exact NoP.sp | apply NoP.then | apply NoP.block | assumption)
    (hns : noDS ops = true := by kernel_rfl) (hf : Region.free .any ops listed i = true := by kernel_rfl) (hr : (Region.ready .any ops listed).contains i = true := by kernel_rfl) : GA X ops Q R0 (fuel + 1) listed L R := ga_n i hQ hi hj hNt hb hne hN hns hf hr k
theorem aL (i q : Nat) {d : Nat} {t : TypeId} {x : Operand} {ty : TypeId} {p : String} {af : Array Edge} {g : Option (Nat × Bool)} {v : Value} {ti : Ti} {b o : Nat} {l cs : List Value} {e : TypeId} {fz : Nat × Nat} {A : HL} (hi : ops[i]? = some ⟨some d, .load t x, ty, p, af, g⟩)
    (hg : ∀ a, Ok X a L → Region.wanted ⟨some d, .load t x, ty, p, af, g⟩ (yielded ops a.tmps) = true) (hR : R0[q]? = some ((b, .cells ⟨l⟩ e fz) :: A)) (hx : ev L x = some (.pointer (some ⟨b, o, none⟩))) (ht : tl X.s.tab t = some ti)
    (hc : takeC l o ti.sz = some cs) (hv : asV ti.k cs = some v)
    (k : GA X ops Q R0 fuel (listed.setIfInBounds i true) ((d, v) :: L) R) (hN : Nat.blt d X.N = true := by exact rfl) (hQ : NoP Q := by repeat first | exact NoP.sp | apply NoP.then | apply NoP.block | assumption)
    (hns : noDS ops = true := by kernel_rfl) (hf : Region.free .any ops listed i = true := by kernel_rfl) (hr : (Region.ready .any ops listed).contains i = true := by kernel_rfl) : GA X ops Q R0 (fuel + 1) listed L R := ga_ld i q hQ hi hg hR hx ht hc hv hN hns hf hr k
theorem aO (i : Nat) {o : Oper} (hi : ops[i]? = some o)
    (h : ∀ K : Act → World → Prop, (∀ L' R', (∃ B : RL, (R0 ++ B).Perm R') → GA X ops Q R0 fuel (listed.setIfInBounds i true) L' R' → GQ X (Exit.then K Q) .normal L' R') → G X ops (Exit.then K Q) [o] L R)
    (hr : Region.ready .any ops listed = [i] := by kernel_rfl) : GA X ops Q R0 (fuel + 1) listed L R := ga_one hr (gs_of hi h)
end
end Go.Wk

/- tac: within, Writes, Reads. -/
namespace Go.Proofs.YtpohhfggmaihpaaGreatDoor
open Go.Wk
set_option linter.unusedVariables false
set_option linter.unusedSimpArgs false
attribute [local irreducible] G GC GQ GA GS Exit.then Exit.inBlock

theorem within_sp (a b : Int) (w : World) : Sp Tryz.prog 23 [.int .i64 a, .int .i64 b] w [] (fun _ : Unit => .bool (decide (0 ≤ a) && decide (a < b))) (fun _ => []) (fun _ => True) := by
  refine enter (s := Tryz.sx) [] Tryz.func23 rfl rfl rfl (Eff.refl w) ?_
  repeat' (first | refine g_pv rfl rfl ?_ | refine g_nil ?_ | refine gq_then ?_ | refine gc_seq ?_ | refine gc_region ?_)
  refine g_case (t := 7) rfl (fun h => ?_) (fun h => ?_)
  all_goals (repeat' (first | refine g_pv rfl rfl ?_ | refine g_nil ?_ | refine gq_then ?_ | refine gc_ret ?_ | refine g_yes rfl rfl rfl ?_ | refine g_no rfl rfl rfl rfl rfl ?_))
  · refine gq_ret1 (.inr rfl) rfl rfl rfl (fun w' H => ⟨(), trivial, ?_, H⟩)
    have h' : 0 ≤ a := of_decide_eq_true h
    simp [h']
  · refine gq_ret1 (.inr rfl) rfl rfl rfl (fun w' H => ⟨(), trivial, ?_, H⟩)
    have h' : ¬ 0 ≤ a := of_decide_eq_false h
    simp [h']

end Go.Proofs.YtpohhfggmaihpaaGreatDoor

/- The library's IndexFunc, DeleteFunc at []int; tac.Next. -/
namespace Go.Proofs.YtpohhfggmaihpaaGreatDoor
open Go.Wk
set_option linter.unusedVariables false
set_option linter.unusedSimpArgs false
attribute [local irreducible] G GC GQ GA GS Exit.then Exit.inBlock

/-- The state of DeleteFunc's loop: i are kept, j are looked at. -/
structure DelS (p : Int → Bool) (l m : List Int) (i j : Nat) : Prop where
  len : m.length = l.length
  ij : i < j
  jl : j ≤ l.length
  kept : m.take i = (l.take j).filter (fun x => !p x)
  rest : m.drop j = l.drop j

end Go.Proofs.YtpohhfggmaihpaaGreatDoor

/- tac.Next. -/
namespace Go.Proofs.YtpohhfggmaihpaaGreatDoor
open Go.Wk
set_option linter.unusedVariables false
set_option linter.unusedSimpArgs false
attribute [local irreducible] G GC GQ GA GS Exit.then Exit.inBlock

end Go.Proofs.YtpohhfggmaihpaaGreatDoor

/- The document's answer (layer 13): within, Writes, Reads, Next. -/
namespace Go.Proofs.YtpohhfggmaihpaaGreatDoor
open Go.Wk
set_option linter.unusedVariables false
set_option linter.unusedSimpArgs false
attribute [local irreducible] G GC GQ GA GS Exit.then Exit.inBlock

end Go.Proofs.YtpohhfggmaihpaaGreatDoor

/- A field of an element. -/
namespace Go.Wk
set_option linter.unusedVariables false
set_option linter.unusedSimpArgs false
section
variable {X : Cx} {ops : Array Oper} {Q : Post} {rest : List Oper} {L : LT} {R : RL} {d d1 d2 : Nat} {x y : Operand} {v u : Value} {t t2 st ty ty1 ty2 : TypeId} {p p1 p2 : String} {af af1 af2 : Array Edge}
theorem Rd.fld {α : Type} {H : Nat → Option Obj} {f : α → List Value} {sz : Nat} {A : Option Addr} {l : List α} {i : Nat} {q : α} {off n : Nat} {cs : List Value} (hr : Rd H f sz A l) (hl : l[i]? = some q) (hc : takeC (f q) off n = some cs) :
    ∃ b o, A = some ⟨b, o, none⟩ ∧ ∀ j u, cs[j]? = some u → cellAt H b (o + i * sz + off + j) = some u := by
  obtain ⟨b, o, hA, h⟩ := hr i q hl
  obtain ⟨_, h2⟩ := takeC_spec _ _ _ _ hc
  refine ⟨b, o, hA, fun j u hj => ?_⟩
  have := h (off + j) u (h2 j u hj)
  rw [← Nat.add_assoc] at this; exact this
/-- x[y].f, x of old memory. -/
theorem g_atF {α : Type} {e : TypeId} {z z' : Value} {s b off ff : Nat} {te tf : Ti} {ik : IntKind} {i : Int} {A : Option Addr} {n c : Nat} {f : α → List Value} {l : List α} {q : α} {fs : List (Nat × TypeId)} {sz' by' : Nat} {cs : List Value}
    (hx : ev L x = some (.slice A n c)) (hy : ev L y = some (.int ik i)) (ht : tl X.s.tab t = some ⟨.slice e, z, s, b⟩) (hte : tl X.s.tab e = some te) (hst : tl X.s.tab st = some ⟨.struct fs, z', sz', by'⟩)
    (hff : fs[ff]? = some (off, t2)) (htf : tl X.s.tab t2 = some tf) (hsz : Nat.beq tf.sz 0 = false)
    (h0 : 0 ≤ i) (h1 : i < n) (hr : Rd (Oldh X) f te.sz A l) (hl : l[i.toNat]? = some q) (hc : takeC (f q) off tf.sz = some cs) (hv : asV tf.k cs = some u) (hN1 : Nat.blt d1 X.N = true) (hN2 : Nat.blt d2 X.N = true) (hN : Nat.blt d X.N = true)
    (k : ∀ a a2, G X ops Q rest ((d, u) :: (d2, .pointer (some a2)) :: (d1, .pointer (some a)) :: L) R) :
    G X ops Q (⟨some d1, .indexAddr t x y, ty1, p1, af1, none⟩ :: ⟨some d2, .fieldAddr st (.tmp d1) ff, ty2, p2, af2, none⟩ :: ⟨some d, .load t2 (.tmp d2), ty, p, af, none⟩ :: rest) L R := by
  obtain ⟨bx, o, rfl, hcc⟩ := hr.fld hl hc
  refine g_ix hx hy ht hte h0 h1 hN1 ?_
  refine g_fld (lk_hd d1 _ L) hst hff htf hsz hN2 ?_
  exact g_ldO (lk_hd d2 _ _) htf (takeC_spec _ _ _ _ hc).1 hv hcc hN (k _ _)
end
end Go.Wk

/- The document's answer (layer 16): Ints, Lists, told; layer 13: Reads; flow: rising. -/
namespace Go.Proofs.YtpohhfggmaihpaaGreatDoor
open Go.Wk
set_option linter.unusedVariables false
set_option linter.unusedSimpArgs false
attribute [local irreducible] G GC GQ GA GS Exit.then Exit.inBlock

/-- A list of numbers, as memory H holds it. -/
def RdI (H : Nat → Option Obj) (v : Value) (l : List Int) : Prop := ∃ ad cap, v = .slice ad l.length cap ∧ Rd H fI 1 ad l
theorem RdI.le {H1 H2 : Nat → Option Obj} (h : Hle H1 H2) {v : Value} {l : List Int} (hr : RdI H1 v l) : RdI H2 v l := by
  obtain ⟨ad, cap, rfl, h1⟩ := hr; exact ⟨ad, cap, rfl, h1.le h⟩
theorem OwnI.rd {v : Value} {l : List Int} {A : HL} (ho : OwnI v l A) {H : Nat → Option Obj} (hA : ∀ b o, (b, o) ∈ A → H b = some o) : RdI H v l := OwnL.rd (f := fI) (fun _ => rfl) ho hA
abbrev fV (v : Value) : List Value := [v]
/-- A list of lists. -/
def RdLL (H : Nat → Option Obj) (v : Value) (ll : List (List Int)) : Prop := ∃ (ad : Option Addr) (cap : Nat) (vals : List Value), v = .slice ad ll.length cap ∧ vals.length = ll.length ∧ Rd H fV 1 ad vals ∧ ∀ (i : Nat) (u : Value) (l : List Int), vals[i]? = some u → ll[i]? = some l → RdI H u l
theorem RdLL.le {H1 H2 : Nat → Option Obj} (h : Hle H1 H2) {v : Value} {l : List (List Int)} (hr : RdLL H1 v l) : RdLL H2 v l := by
  obtain ⟨ad, cap, vals, rfl, h1, h2, h3⟩ := hr; exact ⟨ad, cap, vals, rfl, h1, h2.le h, fun i u l hu hl => (h3 i u l hu hl).le h⟩

end Go.Proofs.YtpohhfggmaihpaaGreatDoor

/- The argument, read: what a reading of the function's argument says of memory. -/
namespace Go.Proofs.YtpohhfggmaihpaaGreatDoor
open Go.Wk Go.ChangeShapes Go.WideShapes Go.ChangeAt Go.RowKit
set_option linter.unusedVariables false
set_option linter.unusedSimpArgs false

theorem list_of {α : Type} {p : Nat → α → Prop} : ∀ (n : Nat), (∀ i, i < n → ∃ x, p i x) → ∃ l : List α, l.length = n ∧ ∀ i x, l[i]? = some x → p i x
  | 0, _ => ⟨[], rfl, fun i x h => by simp at h⟩
  | n + 1, h => by
    obtain ⟨l, hl, hp⟩ := list_of n (fun i hi => h i (by omega))
    obtain ⟨x, hx⟩ := h n (by omega)
    refine ⟨l ++ [x], by simp [hl], fun i y hy => ?_⟩
    by_cases hi : i < l.length
    · rw [List.getElem?_append_left hi] at hy; exact hp i y hy
    · rw [List.getElem?_append_right (by omega)] at hy
      have h0 : i - l.length = 0 := by
        cases hk : i - l.length with
        | zero => rfl
        | succ k => rw [hk] at hy; simp at hy
      rw [h0] at hy
      cases hy
      have : i = n := by omega
      subst this; exact hx

theorem weights_all {H : Type} {P : Program} {e : TypeId} {l : List (DataW H)} {d : DataW H} (hd : d ∈ l) {n : Nat} (hn : n ∈ d.weights P e) : n ∈ DataW.weightsAll P e l := by
  induction l with
  | nil => cases hd
  | cons x l ih =>
    simp only [DataW.weightsAll, List.mem_append]
    rcases List.mem_cons.1 hd with rfl | h
    · exact .inl hn
    · exact .inr (ih h)

theorem bulk_one {H : Type} (d : DataW H) : 1 ≤ Rows.uptoBulk d := by
  cases d with
  | lit l => cases l <;> simp [Rows.uptoBulk]
  | nil => simp [Rows.uptoBulk]
  | ptr d => simp [Rows.uptoBulk]
  | slice elems spare => simp [Rows.uptoBulk]
  | agg parts => simp [Rows.uptoBulk]
  | iface t d => simp [Rows.uptoBulk]
  | map entries => simp [Rows.uptoBulk]
  | held h => simp [Rows.uptoBulk]
theorem bulk_part {H : Type} {d : DataW H} {l : List (DataW H)} (h : d ∈ l) : Rows.uptoBulk d ≤ Rows.uptoBulkAll l := by
  induction l with
  | nil => cases h
  | cons x r ih =>
    simp only [Rows.uptoBulkAll]
    rcases List.mem_cons.1 h with rfl | e
    · omega
    · have := ih e; omega
theorem bulk_len {H : Type} (l : List (DataW H)) : l.length ≤ Rows.uptoBulkAll l := by
  induction l with
  | nil => simp [Rows.uptoBulkAll]
  | cons x r ih => have := bulk_one x; simp only [Rows.uptoBulkAll, List.length_cons]; omega

section
variable {H : Type} {enc : TypeId × Value → H} {W : World} {sp : Nat → Bool} {fuel : Nat}

theorem add_at (a : Addr) (i : Nat) : (a.add i).block = a.block ∧ (a.add i).off = a.off + i := by
  unfold Addr.add
  split
  · rename_i h; subst h; exact ⟨rfl, rfl⟩
  · exact ⟨rfl, rfl⟩
theorem cell_at {a : Addr} {j : Nat} {u : Value} (h : W.cell? (a.add j) = some u) : cellAt (hw W) a.block (a.off + j) = some u := by
  have hs := World.cell?_spot h
  obtain ⟨h1, h2⟩ := add_at a j
  rw [cellAt_hw, ← h1, ← h2]
  generalize a.add j = c at hs h
  obtain ⟨b, o, s⟩ := c
  simp only at hs
  subst hs
  exact h
/-- The cells of an element, as memory holds them. -/
theorem cells_at {a : Addr} {n : Nat} {cs : List Value} (h : W.cells? 0 a n = some cs) {j : Nat} {u : Value} (hj : cs[j]? = some u) : cellAt (hw W) a.block (a.off + j) = some u := by
  obtain ⟨-, hl, hc⟩ := World.cells?_some h
  have hjl := (List.getElem?_eq_some_iff.1 hj).1
  have h1 := hc j (by omega)
  rw [hj] at h1
  exact cell_at h1
theorem spot_none {a : Addr} {n sz : Nat} {cs : List Value} (h : W.cells? 0 (a.add (0 * sz)) (n + 1) = some cs) : a = ⟨a.block, a.off, none⟩ := by
  obtain ⟨-, hl, hc⟩ := World.cells?_some h
  have h1 := hc 0 (by omega)
  rw [List.getElem?_eq_getElem (by omega)] at h1
  have hs : a.spot = none := by
    have h2 := World.cell?_spot h1
    simpa [Addr.add] using h2
  obtain ⟨b, o, s⟩ := a
  simp only at hs
  subst hs
  rfl
theorem rd_of {α : Type} {f : α → List Value} {sz : Nat} {a : Addr} {l : List α} (h : ∀ i y, l[i]? = some y → W.cells? 0 (a.add (i * (sz + 1))) (sz + 1) = some (f y)) : Rd (hw W) f (sz + 1) (some a) l := by
  intro i y hy
  have hi := (List.getElem?_eq_some_iff.1 hy).1
  have h0 := spot_none (h 0 _ (List.getElem?_eq_getElem (by omega)))
  refine ⟨a.block, a.off, by rw [h0], fun j u hj => ?_⟩
  have := cells_at (h i y hy) hj
  obtain ⟨h1, h2⟩ := add_at a (i * (sz + 1))
  rw [h1, h2] at this
  exact this

set_option maxRecDepth 100000
theorem arg_read {cs : List Value} {x : DataW H × List MemPlace} (h : DataW.trod enc Tryz.prog W 0 sp true fuel 40 cs = some x) : ∃ a : Arg, cs = a.cells ∧ a.ok := by
  obtain ⟨xs, n, rfl, rfl, hl, hxl, hf⟩ := DataW.trod_struct Tryz.underlying40 h
  have e : Tryz.prog.cellsOf 40 = 2 := by kernel_rfl
  rw [e] at hl
  match xs, hxl, cs, hl with
  | [y0, y1], _, [v0, v1], _ =>
    have c0 : Tryz.prog.cellsOf 37 = 1 := by kernel_rfl
    have c1 : Tryz.prog.cellsOf 38 = 1 := by kernel_rfl
    have h0 := hf 0 _ rfl
    have h1 := hf 1 _ rfl
    simp only [c0, c1, List.drop_zero, List.drop_succ_cons, List.take_succ_cons, List.take_zero, List.getElem?_cons_zero, List.getElem?_cons_succ] at h0 h1
    obtain ⟨k, e0, -, w0⟩ := DataW.trod_int Tryz.underlying37 h0
    obtain ⟨m, e1, -, w1⟩ := DataW.trod_int Tryz.underlying38 h1
    cases e0; cases e1
    refine ⟨⟨k, m⟩, rfl, ?_⟩
    simpa [Arg.ok, Lit.wf, IntKind.min, IntKind.max, IntKind.signed, IntKind.bits] using w1

theorem args_read {v : Value} {x : DataW H × List MemPlace} (h : DataW.trod enc Tryz.prog W 0 sp true fuel 41 [v] = some x) (hs : ∀ n ∈ x.1.weights Tryz.prog 41, n ≤ reachBytes) :
    ∃ (A : Option Addr) (c : Nat) (l : List Arg), v = .slice A l.length c ∧ Rd (hw W) Arg.cells 2 A l ∧ l.length ≤ 8796093022000 ∧ (∀ a ∈ l, a.ok) ∧ l.length ≤ Rows.uptoBulk x.1 := by
  rcases DataW.trod_slice Tryz.underlying41 h with ⟨e, -⟩ | ⟨a, len, cap, elems, rest, n, rfl, e, rfl, -, hlc, -, hel, hat, -⟩
  · cases e
    exact ⟨none, 0, [], rfl, fun i x hx => by simp at hx, by decide, (fun a ha => by cases ha), Nat.zero_le _⟩
  · cases e
    have c : Tryz.prog.cellsOf 40 = 2 := by kernel_rfl
    rw [c] at hat
    obtain ⟨l, hl, hp⟩ := list_of (α := Arg) (p := fun i y => (W.cells? 0 (a.add (i * 2)) 2 = some y.cells) ∧ y.ok) len (fun i hi => by
      have h1 := hat i hi
      rw [List.getElem?_eq_getElem (by omega : i < elems.length)] at h1
      obtain ⟨cs, h2, h3⟩ := Option.bind_eq_some_iff.1 h1
      obtain ⟨y, rfl, hy⟩ := arg_read h3
      exact ⟨y, h2, hy⟩)
    refine ⟨some a, cap, l, by rw [hl], rd_of (fun i y hy => (hp i y hy).1), ?_, fun y hy => ?_, ?_⟩
    · have := hs ((elems.length + rest.length) * Tryz.prog.bytesOf 40) (by simp [DataW.weights, Tryz.underlying41])
      have b : Tryz.prog.bytesOf 40 = 16 := by kernel_rfl
      rw [b] at this
      unfold reachBytes at this
      omega
    · obtain ⟨i, hi, rfl⟩ := List.mem_iff_getElem.1 hy
      exact (hp i _ (List.getElem?_eq_getElem hi)).2
    · simp only [Rows.uptoBulk]
      have := bulk_len (elems.map (·.1))
      rw [List.length_map] at this
      omega

theorem in64_wf {n : Int} (h : (Lit.int .i64 n).wf = true) : in64 n := by
  simpa [in64, Lit.wf, IntKind.min, IntKind.max, IntKind.signed, IntKind.bits] using h

theorem ins_read {cs : List Value} {x : DataW H × List MemPlace} (h : DataW.trod enc Tryz.prog W 0 sp true fuel 43 cs = some x) (hs : ∀ n ∈ x.1.weights Tryz.prog 43, n ≤ reachBytes) : ∃ i : Ins, cs = i.cells ∧ InsIn (hw W) i ∧ i.args.length ≤ Rows.uptoBulk x.1 := by
  obtain ⟨xs, n, rfl, rfl, hl, hxl, hf⟩ := DataW.trod_struct Tryz.underlying43 h
  have e : Tryz.prog.cellsOf 43 = 12 := by kernel_rfl
  rw [e] at hl
  match xs, hxl, cs, hl with
  | [y0, y1, y2, y3, y4, y5, y6, y7, y8, y9], _, [v0, v1, v2, v3, v4, v5, v6, v7, v8, v9, v10, v11], _ =>
    have c0 : Tryz.prog.cellsOf 35 = 1 := by kernel_rfl
    have c1 : Tryz.prog.cellsOf 36 = 1 := by kernel_rfl
    have c2 : Tryz.prog.cellsOf 3 = 1 := by kernel_rfl
    have c3 : Tryz.prog.cellsOf 40 = 2 := by kernel_rfl
    have c4 : Tryz.prog.cellsOf 4 = 1 := by kernel_rfl
    have c5 : Tryz.prog.cellsOf 41 = 1 := by kernel_rfl
    have h0 := hf 0 _ rfl
    have h1 := hf 1 _ rfl
    have h2 := hf 2 _ rfl
    have h3 := hf 3 _ rfl
    have h4 := hf 4 _ rfl
    have h5 := hf 5 _ rfl
    have h6 := hf 6 _ rfl
    have h7 := hf 7 _ rfl
    have h8 := hf 8 _ rfl
    have h9 := hf 9 _ rfl
    simp only [c0, c1, c2, c3, c4, c5, List.drop_zero, List.drop_succ_cons, List.take_succ_cons, List.take_zero, List.getElem?_cons_zero, List.getElem?_cons_succ] at h0 h1 h2 h3 h4 h5 h6 h7 h8 h9
    obtain ⟨op, e0, -, w0⟩ := DataW.trod_int Tryz.underlying35 h0
    obtain ⟨bin, e1, -, -⟩ := DataW.trod_int Tryz.underlying36 h1
    obtain ⟨d, e2, -, w2⟩ := DataW.trod_int Tryz.underlying3 h2
    obtain ⟨a, e3, w3⟩ := arg_read h3
    obtain ⟨b, e4, w4⟩ := arg_read h4
    obtain ⟨nn, e5, -, w5⟩ := DataW.trod_int Tryz.underlying3 h5
    obtain ⟨off, e6, -, -⟩ := DataW.trod_int Tryz.underlying3 h6
    obtain ⟨wi, e7, -, -⟩ := DataW.trod_int Tryz.underlying3 h7
    obtain ⟨si, e8, -⟩ := DataW.trod_bool Tryz.underlying4 h8
    obtain ⟨aA, aC, args, e9, r1, r2, r3, r4⟩ := args_read h9 (fun n hn => hs n (by
      simp [DataW.weights, Tryz.underlying43, DataW.weightsEach, hn]))
    cases e0; cases e1; cases e2; cases e3; cases e4; cases e5; cases e6; cases e7; cases e8; subst e9
    refine ⟨⟨op, bin, d, a, b, nn, off, wi, si, args, aA, aC⟩, rfl, ⟨r1, r2, fun z hz => ?_, in64_wf w0, in64_wf w2, in64_wf w5⟩, ?_⟩
    rotate_left
    · refine Nat.le_trans r4 (Nat.le_trans (bulk_part (l := [y0, y1, y2, y3, y4, y5, y6, y7, y8, y9].map (·.1)) (by simp)) ?_)
      simp only [Rows.uptoBulk]; omega
    simp only [List.mem_append, List.mem_cons, List.not_mem_nil, or_false] at hz
    rcases hz with (rfl | rfl) | hz
    · exact w3
    · exact w4
    · exact r3 z hz

theorem code_read {v : Value} {x : DataW H × List MemPlace} (h : DataW.trod enc Tryz.prog W 0 sp true fuel 30 [v] = some x) (hs : ∀ n ∈ x.1.weights Tryz.prog 30, n ≤ reachBytes) :
    ∃ (A : Option Addr) (c : Nat) (l : List Ins), v = .slice A l.length c ∧ CodeIn (hw W) A l ∧ ∀ i ∈ l, i.args.length ≤ Rows.uptoBulk x.1 := by
  rcases DataW.trod_slice Tryz.underlying30 h with ⟨e, -⟩ | ⟨a, len, cap, elems, rest, n, rfl, e, rfl, -, hlc, -, hel, hat, -⟩
  · cases e
    exact ⟨none, 0, [], rfl, ⟨fun i x hx => by simp at hx, by decide, fun a ha => by cases ha⟩, fun i hi => by cases hi⟩
  · cases e
    have c : Tryz.prog.cellsOf 43 = 12 := by kernel_rfl
    rw [c] at hat
    obtain ⟨l, hl, hp⟩ := list_of (α := Ins) (p := fun i y => (W.cells? 0 (a.add (i * 12)) 12 = some y.cells) ∧ InsIn (hw W) y ∧ y.args.length ≤ Rows.uptoBulkAll (elems.map (·.1))) len (fun i hi => by
      have hie : i < elems.length := by omega
      have h1 := hat i hi
      rw [List.getElem?_eq_getElem hie] at h1
      obtain ⟨cs, h2, h3⟩ := Option.bind_eq_some_iff.1 h1
      obtain ⟨y, rfl, hy, hb⟩ := ins_read h3 (fun n hn => hs n (by
        simp only [DataW.weights, Tryz.underlying30, List.mem_cons, List.mem_append]
        exact .inr (.inl (weights_all (List.mem_map.2 ⟨_, List.getElem_mem hie, rfl⟩) hn))))
      exact ⟨y, h2, hy, Nat.le_trans hb (bulk_part (List.mem_map.2 ⟨_, List.getElem_mem hie, rfl⟩))⟩)
    refine ⟨some a, cap, l, by rw [hl], ⟨rd_of (fun i y hy => (hp i y hy).1), ?_, fun y hy => ?_⟩, fun y hy => ?_⟩
    · have := hs ((elems.length + rest.length) * Tryz.prog.bytesOf 43) (by simp [DataW.weights, Tryz.underlying30])
      have b : Tryz.prog.bytesOf 43 = 112 := by kernel_rfl
      rw [b] at this
      unfold reachBytes at this
      omega
    · obtain ⟨i, hi, rfl⟩ := List.mem_iff_getElem.1 hy
      exact (hp i _ (List.getElem?_eq_getElem hi)).2.1
    · obtain ⟨i, hi, rfl⟩ := List.mem_iff_getElem.1 hy
      have := (hp i _ (List.getElem?_eq_getElem hi)).2.2
      simp only [Rows.uptoBulk]
      omega
end
end Go.Proofs.YtpohhfggmaihpaaGreatDoor

/- What the rows ask of a walk: the frame's last word, turned into a row's. -/
namespace Go.Proofs.YtpohhfggmaihpaaGreatDoor
open Go.Wk Go.ChangeShapes Go.WideShapes Go.ChangeAt Go.RowKit
set_option linter.unusedVariables false
theorem own_knob : ownKnob Tryz.prog.godebug = none := by kernel_rfl
theorem laid_out : laidOutB Tryz.prog = true := by kernel_rfl
theorem eff_below {W w' : World} (h : Eff W [] w' []) : Below W.heap.size W w' := ⟨h.os, h.tape, h.output, h.size, fun k hk => h.keep k hk (by simp [ids])⟩
end Go.Proofs.YtpohhfggmaihpaaGreatDoor

/- Next where there is no instruction. -/
namespace Go.Proofs.YtpohhfggmaihpaaGreatDoor
open Go.Wk
set_option linter.unusedVariables false
set_option linter.unusedSimpArgs false
attribute [local irreducible] G GC GQ GA GS Exit.then Exit.inBlock

end Go.Proofs.YtpohhfggmaihpaaGreatDoor

/- Struct literals; elements of one's own by their addresses. -/
namespace Go.Wk
set_option linter.unusedVariables false
set_option linter.unusedSimpArgs false

def plc (tab : List (Nat × Ti)) : List (Nat × TypeId) → Option (List (Nat × Nat))
  | [] => some []
  | (off, ft) :: r => match tl tab ft, plc tab r with
    | some tf, some ps => some ((off, tf.sz) :: ps)
    | _, _ => none
def fillC (places : List (Nat × Nat)) : List Value → List (Nat × Value) → Option (List Value)
  | cs, [] => some cs
  | cs, (i, v) :: r => match places[i]? with
    | some (off, sz) => bif Nat.beq v.cells.size sz && Nat.ble (off + sz) cs.length then fillC places (putC cs off v.cells.toList) r else none
    | none => none

theorem fill_C (places : List (Nat × Nat)) : ∀ (parts : List (Nat × Value)) (cs cs' : List Value), fillC places cs parts = some cs' → Instr.fill (fun i => places[i]?) ⟨cs⟩ parts = some ⟨cs'⟩
  | [], cs, cs', h => by simp only [fillC, Option.some.injEq] at h; subst h; rfl
  | (i, v) :: r, cs, cs', h => by
    simp only [fillC] at h
    simp only [Instr.fill]
    cases hp : places[i]? with
    | none => simp [hp] at h
    | some q =>
      obtain ⟨off, sz⟩ := q
      simp only [hp] at h
      cases hb : (Nat.beq v.cells.size sz && Nat.ble (off + sz) cs.length) with
      | false => rw [hb] at h; simp at h
      | true =>
        rw [hb] at h
        simp only [cond_true] at h
        simp only [Bool.and_eq_true] at hb
        have h1 := Nat.eq_of_beq_eq_true hb.1
        have h2 := Nat.le_of_ble_eq_true hb.2
        dsimp only
        rw [if_neg (by
          simp only [Bool.or_eq_true, decide_eq_true_eq, not_or]
          refine ⟨by simp [h1], ?_⟩
          show ¬ (off + v.cells.size > cs.length)
          rw [h1]; omega)]
        have e1 : v.cells.zipIdx.foldl (fun cs (x : Value × Nat) => match x with | (c, j) => cs.setIfInBounds (off + j) c) (⟨cs⟩ : Array Value) = ⟨putC cs off v.cells.toList⟩ := by
          have h5 : v.cells.zipIdx.foldl (fun cs (x : Value × Nat) => cs.setIfInBounds (off + x.2) x.1) (⟨cs⟩ : Array Value) = (v.cells.toList.zipIdx 0).foldl (fun cs (x : Value × Nat) => cs.setIfInBounds (off + x.2) x.1) (⟨cs⟩ : Array Value) := by
            rw [← Array.foldl_toList]; simp
          rw [foldl_put] at h5
          simpa using h5
        rw [e1]
        exact fill_C places r _ cs' h

theorem plc_spec {P : Program} {tab : List (Nat × Ti)} (ok : TbOk P tab) : ∀ (fl : List Field) (ps : List (Nat × Nat)), plc tab (fl.map fun f => (f.offset, f.type)) = some ps → fl.mapM (fun f => (P.info? f.type).map fun i => (f.offset, i.size)) = some ps
  | [], ps, h => by simpa [plc] using h
  | f :: fl, ps, h => by
    simp only [List.map_cons, plc] at h
    split at h
    · rename_i tf ps' h1 h2
      cases h
      obtain ⟨d, i, _, hi, _, _, hs, _⟩ := tiOf_spec (ok.at h1)
      have ih := plc_spec ok fl ps' h2
      simp [List.mapM_cons, hi, ih, hs]
    · cases h

section
variable {X : Cx} {ops : Array Oper} {Q : Post} {rest : List Oper} {L : LT} {R : RL} {d : Nat} {x y : Operand} {v u : Value} {t ty : TypeId} {p : String} {af : Array Edge}
theorem p_build {parts : Array (Nat × Operand)} {fs : List (Nat × TypeId)} {z : Value} {s b : Nat} {ps : List (Nat × Nat)} {vs cs : List Value} (ht : tl X.s.tab t = some ⟨.struct fs, z, s, b⟩) (hp : plc X.s.tab fs = some ps)
    (hv : evs L (parts.toList.map (·.2)) = some vs) (hf : fillC ps z.cells.toList ((parts.toList.map (·.1)).zip vs) = some cs) :
    PR X.s.P L (⟨some d, .build t parts, ty, p, af, none⟩ : Oper) (.agg ⟨cs⟩) := fun ρ w h => by
  obtain ⟨dd, i, hu, hi, hk, hz, _, _⟩ := tiOf_spec (X.s.ok.at ht)
  cases dd <;> simp [tkOf] at hk
  rename_i fl
  have hpl := plc_spec X.s.ok fl.toList ps (by rw [hk]; exact hp)
  have hm := evs_map h hv
  have hparts : (parts.map fun (i, x) => (i, ρ x)).toList = (parts.toList.map (·.1)).zip vs := by
    rw [← hm]
    simp only [Array.toList_map, List.map_map]
    generalize parts.toList = l
    induction l with
    | nil => rfl
    | cons q l ih => simp only [List.map_cons, List.zip_cons_cons, ih]; rfl
  have hfill := fill_C ps _ _ _ hf
  have hr := run_build (P := X.s.P) w t (parts.map fun (i, x) => (i, ρ x)) ⟨cs⟩ (by
    rw [hparts]
    simp only [Program.built, hi, hu, hz, hpl]
    have e : (⟨z.cells.toList⟩ : Array Value) = z.cells := rfl
    rw [e] at hfill
    simpa using hfill)
  simp only [execOp]
  rw [Sem.run_bind]
  have e2 : (parts.map fun (x : Nat × Operand) => (x.1, ρ x.2)) = (parts.map fun (i, x) => (i, ρ x)) := rfl
  rw [hr]; rfl
/-- make, as a list. -/
theorem own_make {α : Type} {e : TypeId} {te : Ti} {f : α → List Value} (z : α) (hz : te.z.cells.toList = f z) (hf : (f z).length = te.sz) (g n : Nat) (hn : n ≤ maxLen) : OwnL e te.sz f (.slice (some ⟨g, 0, none⟩) n n) (List.replicate n z) [(g, .cells ⟨rep n te.z.cells.toList⟩ e (0, 0))] := by
  have h1 : (List.replicate n z).flatMap f = rep n te.z.cells.toList := by
    rw [hz]; unfold rep
    induction n with
    | zero => rfl
    | succ n ih => simp only [List.replicate_succ, List.flatMap_cons, List.flatten_cons]; rw [ih (by omega)]
  have h2 : (rep n te.z.cells.toList).length = n * te.sz := by
    unfold rep; rw [hz]; simp [hf]
  refine ⟨by rw [h1, List.length_replicate, h2], .inr ⟨g, n, [], by rw [List.length_replicate], by rw [h1, List.append_nil], by simp, hn, by rw [h1, List.append_nil, h2]⟩⟩
end
theorem hp_permL {X : Cx} {w : World} {R R' : RL} (H : Hp X w R) (h : R'.Perm R) : Hp X w R' := hp_perm H h.flatten
theorem hp_sel {X : Cx} {w : World} {R R' : RL} (B : HL) (H : Hp X w R) (h : (R'.flatten ++ B).Perm R.flatten) : Hp X w R' := Eff.sel H B h
/-- Rearranged: each block as often as before. -/
theorem hp_cnt {X : Cx} {w : World} {R R' : RL} (B : HL) (H : Hp X w R) (h : ∀ [BEq (Nat × Obj)] [LawfulBEq (Nat × Obj)] (a : Nat × Obj), R'.flatten.count a + B.count a = R.flatten.count a) : Hp X w R' := by
  haveI : DecidableEq (Nat × Obj) := fun _ _ => Classical.propDecidable _
  refine hp_sel B H (List.perm_iff_count.2 fun a => ?_)
  rw [List.count_append]; exact h a
theorem hp_in {X : Cx} {w : World} {R : RL} (H : Hp X w R) {A : HL} (i : Nat) (h : R[i]? = some A) : ∀ b o, (b, o) ∈ A → hw w b = some o := fun b o hb => H.holds b o (List.mem_flatten.2 ⟨A, List.mem_of_getElem? h, hb⟩)
end Go.Wk

/- Fields of elements of one's own, by their addresses. -/
namespace Go.Wk
set_option linter.unusedVariables false
set_option linter.unusedSimpArgs false

theorem putC_fld {α : Type} {f : α → List Value} {sz : Nat} (hf : ∀ x, (f x).length = sz) {l : List α} {i : Nat} {q q' : α} {off : Nat} {vs rest : List Value} (hl : l[i]? = some q) (hlen : off + vs.length ≤ sz) (hq : f q' = putC (f q) off vs) :
    putC (l.flatMap f ++ rest) (i * sz + off) vs = (l.set i q').flatMap f ++ rest := by
  have hi := (List.getElem?_eq_some_iff.1 hl).1
  rw [← putC_flat hf l i q' rest hi]
  have hL := flat_len hf l
  have hb : i * sz + sz ≤ l.length * sz := by
    have : (i + 1) * sz ≤ l.length * sz := Nat.mul_le_mul_right _ hi
    rw [Nat.add_mul] at this; omega
  apply List.ext_getElem?
  intro k
  rw [putC_get _ _ _ _ (by rw [List.length_append, hL]; omega), putC_get _ _ _ _ (by rw [List.length_append, hL, hf]; omega), hf]
  by_cases h1 : i * sz ≤ k ∧ k < i * sz + sz
  · rw [if_pos h1, hq, putC_get _ _ _ _ (by rw [hf]; omega)]
    by_cases h2 : i * sz + off ≤ k ∧ k < i * sz + off + vs.length
    · rw [if_pos h2, if_pos (by omega)]; congr 1; omega
    · rw [if_neg h2, if_neg (by omega)]
      have hk : k - i * sz < (f q).length := by rw [hf]; omega
      have h3 := flat_get hf l i q hl (k - i * sz) _ (List.getElem?_eq_getElem hk)
      rw [show i * sz + (k - i * sz) = k from by omega] at h3
      rw [List.getElem?_append_left (by rw [hL]; omega), h3, List.getElem?_eq_getElem hk]
  · rw [if_neg h1, if_neg (by omega)]

section
variable {X : Cx} {ops : Array Oper} {Q : Post} {rest : List Oper} {L : LT} {R R0 : RL} {d : Nat} {x y : Operand} {v u : Value} {t ty : TypeId} {p : String} {af : Array Edge} {fuel : Nat} {listed : Array Bool}
theorem ga_ldF (i : Nat) {g : Option (Nat × Bool)} {α : Type} {f : α → List Value} {sz b o o' j off : Nat} {l : List α} {q : α} {ti : Ti} {cs : List Value} (hQ : NoP Q) (hi : ops[i]? = some ⟨some d, .load t x, ty, p, af, g⟩)
    (hg : ∀ a, Ok X a L → Region.wanted ⟨some d, .load t x, ty, p, af, g⟩ (yielded ops a.tmps) = true) (hx : ev L x = some (.pointer (some ⟨b, o, none⟩))) (ht : tl X.s.tab t = some ti)
    (hr : ∀ w, Still X R0 w → Rd (hw w) f sz (some ⟨b, o', none⟩) l) (ho : o = o' + j * sz + off) (hl : l[j]? = some q) (hc : takeC (f q) off ti.sz = some cs) (hv : asV ti.k cs = some v)
    (hN : Nat.blt d X.N = true) (hns : noDS ops = true) (hf : Region.free .any ops listed i = true) (hrd : (Region.ready .any ops listed).contains i = true)
    (k : GA X ops Q R0 fuel (listed.setIfInBounds i true) ((d, v) :: L) R) : GA X ops Q R0 (fuel + 1) listed L R := by
  subst ho
  refine ga_ldG i hQ hi hg hx ht (takeC_spec _ _ _ _ hc).1 hv (fun w hS j' u' hj => ?_) hN hns hf hrd k
  obtain ⟨b2, o2, hA2, hc2⟩ := (hr w hS).fld hl hc
  cases hA2
  rw [← cellAt_hw]; exact hc2 j' u' hj
theorem g_stF (j : Nat) {α : Type} {e : TypeId} {ti : Ti} {sz : Nat} {A : HL} {f : α → List Value} {l : List α} {q : α} (q' : α) {g o n cap i off : Nat}
    (hR : R[j]? = some A) (hx : ev L x = some (.pointer (some ⟨g, o, none⟩))) (hy : ev L y = some u) (ht : tl X.s.tab t = some ti) (ho : OwnL e sz f (.slice (some ⟨g, 0, none⟩) n cap) l A) (hf : ∀ x, (f x).length = sz)
    (hi : o = i * sz + off) (hl : l[i]? = some q) (hsz : u.cells.size = ti.sz) (hlen : off + ti.sz ≤ sz) (hq : f q' = putC (f q) off u.cells.toList) (h1 : (u.cells.toList.all (·.oneCell')) = true)
    (k : ∀ A', OwnL e sz f (.slice (some ⟨g, 0, none⟩) n cap) (l.set i q') A' → G X ops Q rest L (R.set j A')) :
    G X ops Q (⟨none, .store t x y, ty, p, af, none⟩ :: rest) L R := by
  subst hi
  have hlt := (List.getElem?_eq_some_iff.1 hl).1
  obtain ⟨g', cap', rst, hv, rfl, hc1, hc2, hc3⟩ := Own.pos ho (by omega)
  cases hv
  have hb : i * sz + sz ≤ l.length * sz := by
    have : (i + 1) * sz ≤ l.length * sz := Nat.mul_le_mul_right _ hlt
    rw [Nat.add_mul] at this; omega
  refine g_stW j hR hx hy ht hsz ?_ h1 ?_
  · rw [List.length_append, flat_len hf l]; omega
  · have e1 := putC_fld hf (rest := rst) (off := off) (vs := u.cells.toList) hl (by rw [Array.length_toList, hsz]; exact hlen) hq
    rw [e1]
    refine k _ ⟨by rw [flat_len hf, List.length_set], .inr ⟨g, cap, rst, by rw [List.length_set], rfl, by rw [List.length_set]; exact hc1, hc2, ?_⟩⟩
    rw [List.length_append, flat_len hf, List.length_set, ← flat_len hf l, ← List.length_append]; exact hc3
end
end Go.Wk

/- Maps of old memory. -/
namespace Go.Wk
set_option linter.unusedVariables false
end Go.Wk

/- Range over a function: rounds, marks. -/
namespace Go.Wk
set_option linter.unusedVariables false
set_option linter.unusedSimpArgs false

/-- The same, with other deferred calls. -/
abbrev wd (X : Cx) (ds : List Deferred) : Cx := { X with ds := ds }
section
variable {X : Cx} {Q : Post} {L : LT} {R : RL}
/-- A round of the loop l, as a call: of own memory A. -/
def Yp {Y : Type} (P : Program) (l : Nat) (args : List Value) (w : World) (A : HL) (v : Y → Value) (A' : Y → RL) (post : Y → Prop) : Prop :=
  ∃ f tmps assign body, (Instr.yield l args.toArray).run P w = .ok (.round l f tmps assign body) w ∧
    RoundIn (Fr none) 0 P l f tmps assign body w (fun e w' => ∃ y, post y ∧ e = .returned (v y) ∧ Eff w A w' (A' y).flatten)
/-- yield(..): a round, handed the part of R that is ahead. -/
theorem g_yield {ops : Array Oper} {rest : List Oper} {d : Nat} {ty : TypeId} {p : String} {af : Array Edge} {l : Nat} {f : Operand} {xs : Array Operand} {ats : Array TypeId} {vs : List Value} {Y : Type} {vf : Y → Value} {post : Y → Prop} {A' : Y → RL} {A : HL} {F : RL}
    (hro : X.ro = none) (hn : X.n = 0) (hR : R = A :: F) (hf : ev L f = some (.func (.yield l) #[] #[])) (hxs : evs L xs.toList = some vs)
    (hc : ∀ w, Hp X w (A :: F) → Yp X.s.P l vs w A vf A' post)
    (hN : Nat.blt d X.N = true) (k : ∀ y, post y → G X ops Q rest ((d, vf y) :: L) (A' y ++ F)) :
    G X ops Q (⟨some d, .call ⟨.value f, xs, ats⟩, ty, p, af, none⟩ :: rest) L R := by
  intro a w ha hE
  refine wpListIn_plain rfl (fun K hK => ?_)
  refine ⟨fun _ _ => trivial, ?_⟩
  rw [Oper.semAt_eq _ _ _ (by intro c h; cases h)]
  have hmap : xs.map a.eval = vs.toArray := by
    have := evs_map (fun x u h => ha.kn.ev h) hxs
    apply Array.ext'; simpa using this
  have hE' : Hp X w (A :: F) := hR ▸ hE
  obtain ⟨g, tmps, asg, body, hy, hround⟩ := hc w hE'
  have hrun : (execOp a.eval ⟨some d, .call ⟨.value f, xs, ats⟩, ty, p, af, none⟩).run X.s.P w = .ok (.round l g tmps asg body) w := by
    simp only [execOp, resolve, hmap, ha.kn.ev hf, Deferred.ofValue, Sem.run_bind, run_pure', Result.andThen_ok, invoke]
    simpa using hy
  rw [hrun, Oper.uponIn_round]
  refine ⟨fun h => by simp [Fence.wide] at h, ?_⟩
  rw [hro, hn]
  refine RoundIn.mono hround ?_
  rintro e w' ⟨y, hp, rfl, E⟩
  refine hK _ _ (k y hp _ _ (ha.put hN _) ?_)
  unfold Hp at hE' ⊢
  rw [List.flatten_cons] at hE'
  have := Eff.seq hE' E
  rw [List.flatten_append]; exact this
/-- The record of a loop. -/
abbrev rec (fn : FuncId) (tm : Array Value) (ps : Array Tmp) (assign body : Code) (D : Nat) (st : LoopState) (pe : Option Code) : Obj := .loop { state := st, pending := pe, fn, tmps := tm, params := ps, assign, body, defers := D }

/-- A round, out of the walk of its assignment and its body. -/
theorem round_sp {s : Sx} {Y : Type} {l D : Nat} {fn : FuncId} {tm : Array Value} {ps : Array Tmp} {asg body : Code} {N : Nat} {args : List Value} {w : World} {A B : HL} {A' : Y → HL} {post : Y → Prop} {L1 : LT}
    (hE : Eff w ((l, rec fn tm ps asg body D .ready none) :: A) w ((l, rec fn tm ps asg body D .ready none) :: A)) (hsz : args.length = ps.size) (htm : tm.size = N)
    (hL : Kn { tmps := (ps.zip args.toArray).foldl (fun t (q : Tmp × Value) => t.setIfInBounds q.1 q.2) tm, defers := [] } L1)
    (h : GC ⟨s, some l, 0, N, [], w, (l, rec fn tm ps asg body D .ready none) :: A⟩ asg
      (Exit.then (fun a1 w1 => ∃ w2, (Instr.beginRound l).run s.P w1 = .ok () w2 ∧ body.wpIn (Fr (some l)) 0 s.P (roundPost s.P l (fun e w' => ∃ y, post y ∧ e = .returned (.bool true) ∧ Eff w ((l, rec fn tm ps asg body D .ready none) :: A) w' ((l, rec fn tm ps asg body D .ready none) :: A' y))) a1 w2) (fun _ _ _ => False))
      L1 [[(l, rec fn tm ps asg body D .ready none)], A]) :
    Yp s.P l args w ((l, rec fn tm ps asg body D .ready none) :: A) (fun _ : Y => .bool true) (fun y => [(l, rec fn tm ps asg body D .ready none) :: A' y]) post := by
  have hl := hE.holds l _ List.mem_cons_self
  have hg := run_getObj (P := s.P) hl (by intro c e f h; cases h)
  refine ⟨fn, (ps.zip args.toArray).foldl (fun t (q : Tmp × Value) => t.setIfInBounds q.1 q.2) tm, asg, body, ?_, ?_⟩
  · simp only [Instr.yield, Instr.getLoop, Sem.run_bind, hg, Result.andThen_ok, run_pure']
    simp [hsz]
  · have hz : ∀ (zs : List (Tmp × Value)) (t : Array Value), (zs.foldl (fun t (q : Tmp × Value) => t.setIfInBounds q.1 q.2) t).size = t.size := fun zs => by
      induction zs with
      | nil => intro t; rfl
      | cons q zs ih => intro t; rw [List.foldl_cons, ih]; simp
    have hsize : ((ps.zip args.toArray).foldl (fun t (q : Tmp × Value) => t.setIfInBounds q.1 q.2) tm).size = N := by
      rw [← htm, ← Array.foldl_toList]; exact hz _ _
    have h1 := h _ w ⟨hsize, rfl, hL⟩ (by simpa [Hp] using hE)
    exact RoundIn.mono (roundIn_of_wpIn (F := Fr none) (n := 0) (by simp [Fence.wide]) h1) (fun e w' ⟨y, hp, he, E⟩ => ⟨y, hp, he, by simpa using E⟩)
abbrev mark (D : Nat) : Deferred := { target := .collected D, args := #[] }
abbrev mks (Ds : List Nat) : List Deferred := Ds.map mark
abbrev mkb (Ds : List Nat) : HL := Ds.map fun D => (D, .deferred (some []))
/-- for .. := range g { .. }. -/
theorem gc_range {g : Operand} {ps : Array Tmp} {asg body : Code} {gf : FuncId} {cp : Array Value} {Y : Type} {post : Y → Prop} {A' : Y → HL} {A : HL} {F : RL} (hro : X.ro = none) (hn : X.n = 0) (hR : R = A :: F)
    (hg : ev L g = some (.func (.func gf) #[] cp)) (hcl : Cl X.s.P gf)
    (hit : ∀ l D fn tm w, tm.size = X.N → Kn { tmps := tm, defers := [] } L → Hp X w (((l, rec fn tm ps asg body D .ready none) :: A) :: [(D, .deferred (some []))] :: F) →
      Sp X.s.P gf (.func (.yield l) #[] #[] :: cp.toList) w ((l, rec fn tm ps asg body D .ready none) :: A) (fun _ : Y => .tuple #[]) (fun y => [(l, rec fn tm ps asg body D .ready none) :: A' y]) post)
    (k : ∀ D y, post y → GQ (wd X (mark D :: X.ds)) Q .normal L (A' y :: [(D, .deferred (some []))] :: F)) : GC X (.rangeFunc g ps asg body) Q L R := by
  intro a w ha hE
  rw [hR] at hE
  refine wpIn_rangeFunc (fun fn hfn => ?_)
  let D := w.heap.size
  let w1 := w.alloc (.deferred (some []))
  let l := w1.heap.size
  let r := rec fn a.tmps ps asg body D .ready none
  let w2 := w1.alloc r
  have hE1 : Hp X w1 ([(D, .deferred (some []))] :: A :: F) := by
    have := Eff.seq0 hE (Eff.alloc w (.deferred (some [])))
    unfold Hp; simpa using this
  have hE2 : Hp X w2 ([(l, r)] :: [(D, .deferred (some []))] :: A :: F) := by
    have := Eff.seq0 hE1 (Eff.alloc w1 r)
    unfold Hp; simpa using this
  have hE3 : Hp X w2 (((l, r) :: A) :: [(D, .deferred (some []))] :: F) := hp_cnt [] hE2 (fun x => by
    simp only [List.flatten_cons, List.flatten_nil, List.count_append, List.count_cons, List.count_nil, List.append_nil]; omega)
  have hkn : Kn { tmps := a.tmps, defers := [] } L := fun i v h => ha.kn i v h
  have hsp := hit l D fn a.tmps w2 ha.size hkn hE3
  refine ⟨l, [mark D], w2, ⟨.fn (.func gf) cp, #[.func (.yield l) #[] #[]]⟩, w2, gf, (.func (.yield l) #[] #[] :: cp.toList).toArray, w2, ?_, ?_, ?_, ?_, ?_, ?_⟩
  · show (Instr.enterLoop fn a.tmps ps asg body X.ro).run X.s.P w = _
    rw [hro]
    simp only [Instr.enterLoop, Sem.run_bind, run_newObj_alloc, Result.andThen_ok, run_pure']
    rfl
  · simp only [resolve, rangeCall, ha.kn.ev hg, Deferred.ofValue, run_pure']
    simp [Act.eval]
  · intro f' _; trivial
  · show (callFunc gf (#[Value.func (.yield l) #[] #[]] ++ cp)).run X.s.P w2 = _
    have e : (#[Value.func (.yield l) #[] #[]] ++ cp) = (Value.func (.yield l) #[] #[] :: cp.toList).toArray := by apply Array.ext'; simp
    rw [e]; exact hcl _ _
  · intro h; simp [Fence.wide] at h
  · have h1 : CallsIn Fence.wide (X.n - 1) X.s.P gf (.func (.yield l) #[] #[] :: cp.toList).toArray w2 (fun e w' => ∃ y, post y ∧ e = .returned (.tuple #[]) ∧ Eff w2 ((l, r) :: A) w' [(l, r) :: A' y].flatten) := callsIn_wide.2 hsp
    have h2 : CallsIn (Fr X.ro) (X.n - 1) X.s.P gf (.func (.yield l) #[] #[] :: cp.toList).toArray w2 (fun e w' => ∃ y, post y ∧ e = .returned (.tuple #[]) ∧ Eff w2 ((l, r) :: A) w' [(l, r) :: A' y].flatten) := by rw [hro]; exact h1
    refine CallsIn.mono h2 ?_
    rintro e w3 ⟨y, hp, rfl, E⟩
    have hE4 : Hp X w3 (((l, r) :: A' y) :: [(D, .deferred (some []))] :: F) := by
      unfold Hp at hE3 ⊢
      rw [List.flatten_cons] at hE3
      have := Eff.seq hE3 E
      simpa using this
    have hl : w3.heap[l]? = some (rec fn a.tmps ps asg body D .ready none) := hE4.holds l r (by simp)
    have hE5 := Eff.setObj (o' := rec fn a.tmps ps asg body D .exhausted none) hl
    have hE6 : Hp X w3 ([(l, r)] :: A' y :: [(D, .deferred (some []))] :: F) := hp_cnt [] hE4 (fun x => by
      simp only [List.flatten_cons, List.flatten_nil, List.count_append, List.count_cons, List.count_nil, List.append_nil]; omega)
    have hE7 : Hp X { w3 with heap := w3.heap.setIfInBounds l (rec fn a.tmps ps asg body D .exhausted none) } (A' y :: [(D, .deferred (some []))] :: F) := by
      unfold Hp at hE6
      rw [List.flatten_cons] at hE6
      exact hp_tail (A := [(l, rec fn a.tmps ps asg body D .exhausted none)]) (by unfold Hp; rw [List.flatten_cons]; exact Eff.seq hE6 hE5)
    refine ⟨none, _, ?_, k D y hp { a with defers := [mark D] ++ a.defers } _ ⟨ha.size, by show [mark D] ++ a.defers = _; rw [ha.defers]; rfl, ha.kn⟩ hE7⟩
    have hg' := run_getObj (P := X.s.P) hl (by intro c e f h; cases h)
    have hs' := run_setObj (P := X.s.P) hl (by intro c e f h; cases h) (rec fn a.tmps ps asg body D .exhausted none)
    simp only [Instr.endLoop, Instr.getLoop, Sem.run_bind, hg', Result.andThen_ok, run_pure']
    simp only [beq_iff_eq, reduceCtorEq, if_false, Sem.run_bind, run_pure', Result.andThen_ok, hs']
/-- The beginning of a round. -/
theorem gq_begin {l D : Nat} {fn : FuncId} {tm : Array Value} {ps : Array Tmp} {asg body : Code} {Q' : Post} {F : RL} (hR : R = [(l, rec fn tm ps asg body D .ready none)] :: F)
    (h : GC X body Q' L ([(l, rec fn tm ps asg body D .busy none)] :: F)) :
    GQ X (Exit.then (fun a1 w1 => ∃ w2, (Instr.beginRound l).run X.s.P w1 = .ok () w2 ∧ body.wpIn (Fr X.ro) X.n X.s.P Q' a1 w2) Q) .normal L R := by
  intro a w ha hE
  rw [hR] at hE
  have hl : w.heap[l]? = some (rec fn tm ps asg body D .ready none) := hE.holds l _ (by simp)
  have hg' := run_getObj (P := X.s.P) hl (by intro c e f h; cases h)
  have hs' := run_setObj (P := X.s.P) hl (by intro c e f h; cases h) (rec fn tm ps asg body D .busy none)
  refine ⟨{ w with heap := w.heap.setIfInBounds l (rec fn tm ps asg body D .busy none) }, ?_, h a _ ha ?_⟩
  · simp only [Instr.beginRound, Instr.getLoop, Sem.run_bind, hg', Result.andThen_ok, run_pure', hs']
  · unfold Hp at hE ⊢
    rw [List.flatten_cons] at hE ⊢
    exact Eff.seq hE (Eff.setObj hl)
/-- The end of a round. -/
theorem gq_endRound {l D : Nat} {fn : FuncId} {tm : Array Value} {ps : Array Tmp} {asg body : Code} {F : RL} {Y : Type} {post : Y → Prop} {A' : Y → HL} (hR : R = [(l, rec fn tm ps asg body D .busy none)] :: F) (y : Y) (hp : post y)
    (hF : ∀ w, Hp X w ([(l, rec fn tm ps asg body D .ready none)] :: F) → Hp X w [(l, rec fn tm ps asg body D .ready none) :: A' y]) :
    GQ X (roundPost X.s.P l (fun e w' => ∃ y, post y ∧ e = .returned (.bool true) ∧ Eff X.w0 X.A0 w' ((l, rec fn tm ps asg body D .ready none) :: A' y))) .normal L R := by
  intro a w ha hE
  rw [hR] at hE
  have hl : w.heap[l]? = some (rec fn tm ps asg body D .busy none) := hE.holds l _ (by simp)
  have hg' := run_getObj (P := X.s.P) hl (by intro c e f h; cases h)
  have hs' := run_setObj (P := X.s.P) hl (by intro c e f h; cases h) (rec fn tm ps asg body D .ready none)
  refine ⟨.bool true, { w with heap := w.heap.setIfInBounds l (rec fn tm ps asg body D .ready none) }, ?_, y, hp, rfl, ?_⟩
  · simp only [Instr.endRound, Instr.getLoop, Sem.run_bind, hg', Result.andThen_ok, run_pure', Option.isNone_none, if_true, hs']
  · have : Hp X { w with heap := w.heap.setIfInBounds l (rec fn tm ps asg body D .ready none) } ([(l, rec fn tm ps asg body D .ready none)] :: F) := by
      unfold Hp at hE ⊢
      rw [List.flatten_cons] at hE ⊢
      exact Eff.seq hE (Eff.setObj hl)
    simpa [Hp] using hF _ this
theorem enterM {s : Sx} {f : FuncId} {fn : Func} {c : Code} {args : List Value} {w : World} {Rp : Ending → World → Prop} (A0 : RL) {A : HL} {N : Nat} (hA : A0.flatten = A)
    (hf : s.P.funcs[f]? = some fn) (hb : fn.body = some c) (hN : fn.ntmps = N) (hlen : Nat.ble args.length N = true)
    (hE : Eff w A w A)
    (h : GC ⟨s, none, 0, N, [], w, A⟩ c (bodyPostM Fence.wide 0 s.P fn Rp) (zipL 0 args) A0) : Calls s.P f args.toArray w Rp := by
  subst hA
  have hle := Nat.le_of_ble_eq_true hlen
  refine callsIn_wide.1 (callsIn_of_wp_marks (F := Fence.wide) (n := 0) hf hb trivial ?_)
  refine h _ w ⟨?_, rfl, ?_⟩ hE
  · simp [hN]; omega
  · intro i v hi
    obtain ⟨j, rfl, hj⟩ := lk_zipL args 0 i v hi
    have hlt : j < args.length := (List.getElem?_eq_some_iff.1 hj).1
    simp only [Nat.zero_add, Array.getD_eq_getD_getElem?]
    rw [Array.getElem?_append_left (by simpa using hlt)]
    simp [hj]
end
end Go.Wk
