/-
  What needs no memory, told by one function.
-/
import Derived.Test.YthiehhglnaiohaaGreatDoorE3
namespace Go.Ev
open Go.Wk
set_option linter.unusedVariables false
set_option linter.unusedSimpArgs false

/-! ### The slots at hand, as a list -/
def slotsOf (a : Act) (xs : List Operand) : LT := xs.filterMap fun | .tmp i => some (i, a.tmps.getD i undef) | _ => none
theorem lk_slots {a : Act} : ∀ {xs : List Operand} {i : Nat} {u : Value}, lk (slotsOf a xs) i = some u → a.tmps.getD i undef = u
  | [], i, u, h => by simp [slotsOf, lk] at h
  | x :: r, i, u, h => by
    cases x with
    | tmp j =>
      have : slotsOf a (.tmp j :: r) = (j, a.tmps.getD j undef) :: slotsOf a r := rfl
      rw [this] at h
      simp only [lk] at h
      by_cases hj : Nat.beq j i = true
      · rw [hj] at h; cases Nat.eq_of_beq_eq_true hj; simpa using h
      · simp only [Bool.not_eq_true] at hj; rw [hj] at h; exact lk_slots h
    | const _ => exact lk_slots (xs := r) h
    | global _ => exact lk_slots (xs := r) h
    | func _ => exact lk_slots (xs := r) h
theorem ev_slots {a : Act} {xs : List Operand} {x : Operand} {u : Value} (h : ev (slotsOf a xs) x = some u) : a.eval x = u := by
  cases x with
  | tmp i => exact lk_slots h
  | const c => simpa [ev, Act.eval] using h
  | global g => simpa [ev, Act.eval] using h
  | func f => simpa [ev, Act.eval] using h
theorem ev_mem {a : Act} : ∀ {xs : List Operand} {x : Operand}, x ∈ xs → ev (slotsOf a xs) x = some (a.eval x)
  | y :: r, x, h => by
    cases x with
    | tmp i =>
      show lk (slotsOf a (y :: r)) i = some (a.tmps.getD i undef)
      have key : ∀ {l : List Operand}, Operand.tmp i ∈ l → lk (slotsOf a l) i = some (a.tmps.getD i undef) := by
        intro l
        induction l with
        | nil => intro h; cases h
        | cons z l ih =>
          intro h
          cases z with
          | tmp j =>
            have e : slotsOf a (.tmp j :: l) = (j, a.tmps.getD j undef) :: slotsOf a l := rfl
            rw [e]
            simp only [lk]
            by_cases hj : Nat.beq j i = true
            · rw [hj]; cases Nat.eq_of_beq_eq_true hj; rfl
            · simp only [Bool.not_eq_true] at hj; rw [hj]
              rcases List.mem_cons.1 h with h | h
              · cases h; rw [Nat.beq_refl] at hj; cases hj
              · exact ih h
          | const _ => rcases List.mem_cons.1 h with h | h
                       · cases h
                       · exact ih h
          | global _ => rcases List.mem_cons.1 h with h | h
                        · cases h
                        · exact ih h
          | func _ => rcases List.mem_cons.1 h with h | h
                      · cases h
                      · exact ih h
      exact key h
    | const c => rfl
    | global g => rfl
    | func f => rfl
theorem Gv.of {C : Ct} {ρ : Env} {a : Act} {d : Nat} {op : Op} {ty : TypeId} {p : String} {af : Array Edge} {dst : Option Tmp} {g : Option (Nat × Bool)} {v u : Value} {xs : List Operand} (hu : conc ρ v = some u)
    (h : PR C.P (slotsOf a xs) ⟨some d, op, ty, p, af, none⟩ u) : Gv C ρ a ⟨dst, op, ty, p, af, g⟩ v :=
  ⟨u, hu, fun w => h a.eval w (fun x u hx => ev_slots hx)⟩
theorem evs_map' {a : Act} {ys : List Operand} : ∀ {xs : List Operand}, (∀ x ∈ xs, x ∈ ys) → evs (slotsOf a ys) xs = some (xs.map a.eval)
  | [], _ => rfl
  | x :: r, h => by
    simp only [evs, ev_mem (a := a) (h x List.mem_cons_self), evs_map' (fun z hz => h z (List.mem_cons_of_mem _ hz))]
    rfl

/-! ### Binary operations -/
def binE (C : Ct) (op : BinOp) (ty : TypeId) (x y : Operand) : Value → Value → Option Value
  | .int k a, .int k' b => numE op k a k' b
  | .string a, .string b => strE op a b
  | v, w => match op with
    | .eql => (eqNil C ty x y v w).map .bool
    | .neq => (eqNil C ty x y v w).map fun b => .bool !b
    | _ => none
theorem binE_run {C : Ct} {ρ : Env} {op : BinOp} {ty : TypeId} {x y : Operand} {v w v' w' r : Value} (hv : conc ρ v = some v') (hw : conc ρ w = some w') (h : binE C op ty x y v w = some r) :
    conc ρ r = some r ∧ ∀ W, (do eqGuard op ty x y v' w'; binOp op ty v' w' : Sem Value).run C.P W = .ok r W := by
  have hb : ∀ {r : Value}, (∃ b, r = .bool b) → conc ρ r = some r := by rintro r ⟨b, rfl⟩; simp [conc]
  have hn : ∀ {r : Value}, (∃ k n, r = .int k n) → conc ρ r = some r := by rintro r ⟨k, n, rfl⟩; simp [conc]
  have hs : ∀ {r : Value}, (∃ s, r = .string s) → conc ρ r = some r := by rintro r ⟨s, rfl⟩; simp [conc]
  unfold binE at h
  split at h
  · simp only [conc, Option.some.injEq] at hv hw
    subst hv; subst hw
    refine ⟨?_, fun W => numE_run h ty x y W⟩
    unfold numE at h
    rename_i k a k' b
    split at h
    · cases hb' : decide (b < 0) <;> rw [hb'] at h <;> cases h; exact hn ⟨_, _, rfl⟩
    · cases hb' : decide (b < 0) <;> rw [hb'] at h <;> cases h; exact hn ⟨_, _, rfl⟩
    · cases hk : decide (k = k') <;> rw [hk] at h
      · cases h
      · cases hb' : decide (b = 0) <;> rw [hb'] at h <;> cases h; exact hn ⟨_, _, rfl⟩
    · cases hk : decide (k = k') <;> rw [hk] at h
      · cases h
      · cases hb' : decide (b = 0) <;> rw [hb'] at h <;> cases h; exact hn ⟨_, _, rfl⟩
    · cases hk : decide (k = k') <;> rw [hk] at h
      · cases h
      · simp only [cond_true] at h
        cases op <;> simp only [ibin, Option.some.injEq, reduceCtorEq] at h <;> subst h <;> first | exact hn ⟨_, _, rfl⟩ | exact hb ⟨_, rfl⟩
  · simp only [conc, Option.some.injEq] at hv hw
    subst hv; subst hw
    refine ⟨?_, fun W => strE_run h ty x y W⟩
    unfold strE at h
    split at h
    · rename_i a b _
      cases hb' : Nat.blt (a.data.toList.length + b.data.toList.length) 1073741824 <;> rw [hb'] at h <;> cases h; exact hs ⟨_, rfl⟩
    all_goals first | (cases h; exact hb ⟨_, rfl⟩) | cases h
  · split at h
    · simp only [Option.map_eq_some_iff] at h
      obtain ⟨b, h, rfl⟩ := h
      refine ⟨hb ⟨_, rfl⟩, fun W => ?_⟩
      obtain ⟨h1, h2, h3, h4⟩ := eqNil_run (eqNil_conc hv hw h) W
      rw [Sem.run_bind, h1, Result.andThen_ok, h3]
      simp [h2]
    · simp only [Option.map_eq_some_iff] at h
      obtain ⟨b, h, rfl⟩ := h
      refine ⟨hb ⟨_, rfl⟩, fun W => ?_⟩
      obtain ⟨h1, h2, h3, h4⟩ := eqNil_run (eqNil_conc hv hw h) W
      rw [Sem.run_bind, h1, Result.andThen_ok, h4]
      simp [h2]
    · cases h

/-! ### Parts -/
def partE (C : Ct) (ft : TypeId) (cs : List Value) (off : Nat) : Option Value := match C.tt.get ft with
  | some tf => bif isA tf.k then some (.agg ⟨(cs.drop off).take tf.sz⟩) else cs[off]?
  | none => none
theorem partE_run {C : Ct} {ρ : Env} {ft : TypeId} {cs cs' : List Value} {off : Nat} {v : Value} (hc : concs ρ cs = some cs') (h : partE C ft cs off = some v) :
    ∃ u, conc ρ v = some u ∧ ∀ w, (part ft ⟨cs'⟩ off).run C.P w = .ok u w := by
  unfold partE at h
  cases ht : C.tt.get ft with
  | none => rw [ht] at h; cases h
  | some tf =>
    rw [ht] at h
    have hti := C.okT ft tf ht
    simp only at h
    cases hA : isA tf.k with
    | true =>
      rw [hA] at h
      simp only [cond_true, Option.some.injEq] at h
      subst h
      have h1 := concs_take tf.sz (concs_drop off hc)
      refine ⟨.agg ⟨(cs'.drop off).take tf.sz⟩, conc_agg h1, fun w => ?_⟩
      simp only [part, Sem.run_bind, Wk.run_isAgg hti, hA, Result.andThen_ok, if_true, Wk.run_sizeOf hti]
      have e : (⟨cs'⟩ : Array Value).extract off (off + tf.sz) = ⟨(cs'.drop off).take tf.sz⟩ := by
        apply Array.ext'
        simp [List.drop_take]
      rw [e]; rfl
    | false =>
      rw [hA] at h
      simp only [cond_false] at h
      obtain ⟨u, h1, h2⟩ := concs_get hc h
      refine ⟨u, h2, fun w => ?_⟩
      simp only [part, Sem.run_bind, Wk.run_isAgg hti, hA, Result.andThen_ok]
      have e : (⟨cs'⟩ : Array Value)[off]? = some u := by simpa using h1
      simp [e]

/-! ### Bounds -/
def bndE (v : Option Value) (dflt top : Nat) : Option Nat := match v with
  | none => some dflt
  | some (.int k i) => bif decide (0 ≤ i) && decide (i ≤ top) then some i.toNat else none
  | _ => none
theorem bndE_int {k : IntKind} {i : Int} {dflt top r : Nat} (h : bndE (some (.int k i)) dflt top = some r) : 0 ≤ i ∧ i ≤ top ∧ r = i.toNat := by
  simp only [bndE] at h
  cases hb : (decide (0 ≤ i) && decide (i ≤ top)) with
  | false => rw [hb] at h; cases h
  | true => rw [hb] at h; cases h; simp at hb; exact ⟨hb.1, hb.2, rfl⟩
/-- An operand that may be missing. -/
def evO (t : Tr Value) : Option Operand → Option (Option Value)
  | none => some none
  | some x => match evE t x with
    | some (.int k i) => some (some (.int k i))
    | _ => none
theorem evO_spec {ρ : Env} {N : Nat} {fm : Fm} {a : Act} (h : Fr ρ N fm a) {x : Option Operand} {v : Option Value} (hx : evO fm.t x = some v) : x.map a.eval = v ∧ ∀ u, v = some u → ∃ k i, u = .int k i := by
  cases x with
  | none => simp only [evO] at hx; cases hx; exact ⟨rfl, fun u hu => by cases hu⟩
  | some x =>
    simp only [evO] at hx
    split at hx
    · rename_i k i he
      cases hx
      obtain ⟨u, hu, hau⟩ := evE_spec h he
      simp [conc] at hu; subst hu
      exact ⟨by simp [hau], fun u hu => ⟨k, i, by cases hu; rfl⟩⟩
    · cases hx
theorem run_bounds {P : Program} {sl : Bool} {len cap l h : Nat} {lo hi : Option Value} (hh : bndE hi len cap = some h) (hl : bndE lo 0 h = some l) (w : World) :
    (Instr.sliceBounds sl len cap lo hi none).run P w = .ok (l, h, cap) w := by
  have one : ∀ {v : Option Value} {d top r : Nat}, bndE v d top = some r → (v = none ∧ r = d) ∨ ∃ k i, v = some (.int k i) ∧ 0 ≤ i ∧ i ≤ top ∧ r = i.toNat := by
    intro v d top r hv
    cases v with
    | none => simp only [bndE] at hv; cases hv; exact .inl ⟨rfl, rfl⟩
    | some v => cases v with
      | int k i => obtain ⟨h1, h2, h3⟩ := bndE_int hv; exact .inr ⟨k, i, rfl, h1, h2, h3⟩
      | _ => simp [bndE] at hv
  rcases one hh with ⟨rfl, rfl⟩ | ⟨k, i, rfl, h1, h2, rfl⟩ <;> rcases one hl with ⟨rfl, rfl⟩ | ⟨k', i', rfl, h1', h2', rfl⟩
  · simp [Instr.sliceBounds]
  · simp [Instr.sliceBounds, Instr.sliceBound, asIntOf, h1', h2']
  · simp [Instr.sliceBounds, Instr.sliceBound, asIntOf, h1, h2]
  · have h3 : i' ≤ i := by omega
    simp [Instr.sliceBounds, Instr.sliceBound, asIntOf, h1, h2, h1', h3, Int.toNat_of_nonneg h1]
end Go.Ev
