/-
  Operations whose value needs no memory.
  What needs no memory, told by one function.
  What needs no memory, told by one function: the function.
  What needs no memory: slices cut, types asked, structs built; all of them.
-/
import Derived.Test.YtpohhfggmaihpaaGreatDoorZ5
import Derived.Laws.StructEq
import Derived.Laws.Strings
import Derived.Orders

/- Operations whose value needs no memory. -/
namespace Go.Ev
open Go.Wk
set_option linter.unusedVariables false
set_option linter.unusedSimpArgs false

/-- The model's own text, run where it asks for no memory. -/
def pval {α : Type} (P : Program) : Sem α → Option α
  | .pure a => some a
  | .program k => pval P (k P)
  | .mark _ k => pval P k
  | _ => none
theorem pval_run {α : Type} {P : Program} : ∀ {s : Sem α} {x : α}, pval P s = some x → ∀ w, s.run P w = .ok x w
  | .pure a, x, h, w => by simp only [pval] at h; cases h; rfl
  | .program k, x, h, w => by simp only [pval] at h; simp only [Sem.run]; exact pval_run h w
  | .mark m k, x, h, w => by simp only [pval] at h; simp only [Sem.run]; exact pval_run h w

def opnds (t : Tr Value) (x : Operand) : Value := (evE t x).getD undef
def closed (t : Tr Value) (x : Operand) : Bool := match evE t x with
  | some v => cst 8 v
  | none => false
def fbE (C : Ct) (t : Tr Value) (o : Oper) : Option Value := match o.op with
  | .select .. => none
  | .alloc _ | .load .. | .store .. => none
  | op => bif op.operands.toList.all (closed t) then (match pval C.P (execOp (opnds t) o) with
    | some (.value v) => bif cst 8 v then some v else none
    | _ => none) else none

/-- The operation gives what v stands for, whatever memory holds. -/
def Gv (C : Ct) (ρ : Env) (a : Act) (o : Oper) (v : Value) : Prop := ∃ u, conc ρ v = some u ∧ ∀ w, (execOp a.eval o).run C.P w = .ok (.value u) w

theorem fbE_spec {C : Ct} {ρ : Env} {N : Nat} {fm : Fm} {a : Act} (h : Fr ρ N fm a) {o : Oper} {v : Value} (hv : fbE C fm.t o = some v) : Gv C ρ a o v := by
  have key : ∀ (hs : ∀ cs b, o.op ≠ .select cs b), o.op.operands.toList.all (closed fm.t) = true → (match pval C.P (execOp (opnds fm.t) o) with
    | some (.value v) => bif cst 8 v then some v else none
    | _ => none) = some v → Gv C ρ a o v := by
    intro hs hc hm
    have he : execOp a.eval o = execOp (opnds fm.t) o := execOp_congr o hs (fun x hx => by
      have h1 := List.all_eq_true.1 hc x (by simpa using hx)
      unfold closed at h1
      split at h1
      · rename_i c hc'
        obtain ⟨u, hu, hxu⟩ := evE_spec h hc'
        rw [cst_conc h1] at hu
        cases hu
        simp [opnds, hc', hxu]
      · cases h1)
    split at hm
    · rename_i v' hp
      cases hcv : cst 8 v' with
      | false => rw [hcv] at hm; cases hm
      | true =>
        rw [hcv] at hm; cases hm
        exact ⟨v, cst_conc hcv, fun w => by rw [he]; exact pval_run hp w⟩
    · cases hm
  unfold fbE at hv
  split at hv
  · cases hv
  · cases hv
  · cases hv
  · cases hv
  · rename_i op ho1 ho2 ho3 ho4
    cases hc : o.op.operands.toList.all (closed fm.t) with
    | false => rw [hc] at hv; cases hv
    | true => rw [hc] at hv; exact key (fun cs b he => ho1 cs b he) hc hv

/-! ### Bytes -/
theorem bytes_eq {a : ByteArray} {l : List UInt8} (h : a.data.toList = l) : a = ⟨⟨l⟩⟩ := by
  obtain ⟨⟨x⟩⟩ := a; simp at h; subst h; rfl
def eqB : List UInt8 → List UInt8 → Bool
  | [], [] => true
  | a :: r, b :: t => bif Nat.beq a.toNat b.toNat then eqB r t else false
  | _, _ => false
theorem eqB_spec : ∀ (a b : List UInt8), eqB a b = (a == b)
  | [], [] => rfl
  | [], b :: t => rfl
  | a :: r, [] => rfl
  | a :: r, b :: t => by
    simp only [eqB]
    by_cases h : a = b
    · subst h
      rw [show Nat.beq a.toNat a.toNat = true from Nat.beq_refl _]
      simp [eqB_spec r t]
    · have : Nat.beq a.toNat b.toNat = false := by
        cases hk : Nat.beq a.toNat b.toNat with
        | false => rfl
        | true => exact absurd (UInt8.toNat_inj.1 (Nat.eq_of_beq_eq_true hk)) h
      rw [this]
      simp [h]

def strE (op : BinOp) (a b : ByteArray) : Option Value := match op with
  | .add => bif Nat.blt (a.data.toList.length + b.data.toList.length) 1073741824 then some (.string ⟨⟨a.data.toList ++ b.data.toList⟩⟩) else none
  | .eql => some (.bool (eqB a.data.toList b.data.toList))
  | .neq => some (.bool (!(eqB a.data.toList b.data.toList)))
  | .lss => some (.bool (Op.bytesLess a.data.toList b.data.toList))
  | _ => none
theorem strE_run {P : Program} {op : BinOp} {a b : ByteArray} {v : Value} (h : strE op a b = some v) (t : TypeId) (x y : Operand) (w : World) :
    (do eqGuard op t x y (.string a) (.string b); binOp op t (.string a) (.string b) : Sem Value).run P w = .ok v w := by
  cases op <;> simp only [strE, Option.some.injEq, reduceCtorEq] at h
  · cases hb : Nat.blt (a.data.toList.length + b.data.toList.length) 1073741824 with
    | false => rw [hb] at h; cases h
    | true =>
      rw [hb] at h; cases h
      have h1 : a.data.toList.length + b.data.toList.length < 1073741824 := Nat.lt_of_lt_of_le (Nat.lt_succ_self _) (Nat.le_of_ble_eq_true hb)
      have h2 : a.size + b.size < 1073741824 := h1
      have e : a ++ b = ⟨⟨a.data.toList ++ b.data.toList⟩⟩ := bytes_eq (by simp)
      have h3 : ¬ ((a.size + b.size : Nat) : Int) > IntKind.i64.max := by
        have : IntKind.i64.max = 9223372036854775807 := by decide
        rw [this]; omega
      rw [← e]
      simp only [eqGuard, binOp, Op.stringOp]
      rw [if_neg h3]; rfl
  all_goals subst h; simp [eqGuard, binOp, Op.stringOp, ByteArray.toList_eq, eqB_spec]

/-! ### Whole numbers, '/' and shifts -/
def numE (op : BinOp) (k : IntKind) (a : Int) (k' : IntKind) (b : Int) : Option Value := match op with
  | .shl => bif decide (b < 0) then none else some (.int k (k.wrap (a * 2 ^ (min b.toNat k.bits))))
  | .shr => bif decide (b < 0) then none else some (.int k (a.fdiv (2 ^ (min b.toNat k.bits))))
  | .quo => bif decide (k = k') then (bif decide (b = 0) then none else some (.int k (k.wrap (a.tdiv b)))) else none
  | .rem => bif decide (k = k') then (bif decide (b = 0) then none else some (.int k (a.tmod b))) else none
  | op => bif decide (k = k') then ibin op k a b else none
theorem numE_run {P : Program} {op : BinOp} {k k' : IntKind} {a b : Int} {v : Value} (h : numE op k a k' b = some v) (t : TypeId) (x y : Operand) (w : World) :
    (do eqGuard op t x y (.int k a) (.int k' b); binOp op t (.int k a) (.int k' b) : Sem Value).run P w = .ok v w := by
  unfold numE at h
  split at h
  · cases hb : decide (b < 0) with
    | true => rw [hb] at h; cases h
    | false => rw [hb] at h; cases h; simp at hb; simp [eqGuard, binOp, Op.shift, Int.not_lt.2 hb]
  · cases hb : decide (b < 0) with
    | true => rw [hb] at h; cases h
    | false => rw [hb] at h; cases h; simp at hb; simp [eqGuard, binOp, Op.shift, Int.not_lt.2 hb]
  · cases hk : decide (k = k') with
    | false => rw [hk] at h; cases h
    | true =>
      rw [hk] at h
      simp only [decide_eq_true_eq] at hk
      subst hk
      cases hb : decide (b = 0) with
      | true => rw [hb] at h; cases h
      | false => rw [hb] at h; cases h; simp at hb; simp [eqGuard, binOp, Op.intDiv, hb]
  · cases hk : decide (k = k') with
    | false => rw [hk] at h; cases h
    | true =>
      rw [hk] at h
      simp only [decide_eq_true_eq] at hk
      subst hk
      cases hb : decide (b = 0) with
      | true => rw [hb] at h; cases h
      | false => rw [hb] at h; cases h; simp at hb; simp [eqGuard, binOp, Op.intDiv, hb]
  · cases hk : decide (k = k') with
    | false => rw [hk] at h; cases h
    | true =>
      rw [hk] at h
      simp only [decide_eq_true_eq] at hk
      subst hk
      exact run_bin_int h t x y w

/-! ### Comparison with nil -/
def isNil : Value → Option Bool
  | .pointer a => some a.isNone
  | .slice a _ _ => some a.isNone
  | .map a => some a.isNone
  | .nilFunc => some true
  | .func _ _ _ => some false
  | _ => none
def nilOf : Value → Bool
  | .pointer none => true
  | .slice none _ _ => true
  | .map none => true
  | .nilFunc => true
  | _ => false
/-- Both of one kind, of which type k is; one of them nil. -/
def kin : Tk → Value → Value → Bool
  | .pointer _, .pointer _, .pointer _ => true
  | .slice _, .slice _ _ _, .slice _ _ _ => true
  | .map _ _, .map _, .map _ => true
  | .func, .nilFunc, .nilFunc => true
  | .func, .func _ _ _, .nilFunc => true
  | .func, .nilFunc, .func _ _ _ => true
  | _, _, _ => false
def isC : Operand → Bool
  | .const _ => true
  | _ => false
def ifE (x y : Operand) : Value → Value → Option Bool
  | .nilIface, .nilIface => bif isC x || isC y then some true else none
  | .nilIface, .iface _ _ => some false
  | .iface _ _, .nilIface => some false
  | .iface t v, .iface u w => bif decide (t = u) then none else some false
  | _, _ => none
def eqNil (C : Ct) (t : TypeId) (x y : Operand) (v w : Value) : Option Bool := match C.tt.get t with
  | none => none
  | some ti => match ti.k with
    | .iface => ifE x y v w
    | .bool => (match v, w with | .bool a, .bool b => some (a == b) | _, _ => none)
    | k => bif kin k v w then (bif nilOf w then isNil v else bif nilOf v then isNil w else none) else none

theorem tk_pointer {P : Program} {t e : TypeId} {z : Value} {s b : Nat} (h : tiOf P t = some ⟨.pointer e, z, s, b⟩) : P.underlying t = some (.pointer e) := by
  obtain ⟨d, i, hd, _, hk, _⟩ := tiOf_spec h
  cases d <;> simp [tkOf] at hk
  subst hk; exact hd
theorem tk_func {P : Program} {t : TypeId} {z : Value} {s b : Nat} (h : tiOf P t = some ⟨.func, z, s, b⟩) : ∃ x y v, P.underlying t = some (.func x y v) := by
  obtain ⟨d, i, hd, _, hk, _⟩ := tiOf_spec h
  cases d <;> simp [tkOf] at hk
  exact ⟨_, _, _, hd⟩
theorem tk_iface {P : Program} {t : TypeId} {z : Value} {s b : Nat} (h : tiOf P t = some ⟨.iface, z, s, b⟩) : ∃ ms, P.underlying t = some (.interface ms) := by
  obtain ⟨d, i, hd, _, hk, _⟩ := tiOf_spec h
  cases d <;> simp [tkOf] at hk
  exact ⟨_, hd⟩

/-- What is compared, as it stands in the world. -/
theorem conc_nilOf {ρ : Env} {v u : Value} (h : conc ρ v = some u) : nilOf u = nilOf v ∧ isNil u = isNil v := by
  cases v with
  | pointer a => cases a with
    | none => simp [conc] at h; subst h; exact ⟨rfl, rfl⟩
    | some a => simp only [conc, Option.map_eq_some_iff] at h; obtain ⟨b, _, rfl⟩ := h; exact ⟨rfl, rfl⟩
  | slice a n c => cases a with
    | none => simp [conc] at h; subst h; exact ⟨rfl, rfl⟩
    | some a => obtain ⟨_, _, _, _, _, rfl⟩ := conc_slice.1 h; exact ⟨rfl, rfl⟩
  | map a => cases a with
    | none => simp [conc] at h; subst h; exact ⟨rfl, rfl⟩
    | some a => simp only [conc, Option.map_eq_some_iff] at h; obtain ⟨b, _, rfl⟩ := h; exact ⟨rfl, rfl⟩
  | chan a => cases a with
    | none => simp [conc] at h; subst h; exact ⟨rfl, rfl⟩
    | some a => simp [conc] at h
  | func f l m =>
    simp only [conc] at h
    split at h
    · cases h; exact ⟨rfl, rfl⟩
    · cases h
  | iface t x => simp only [conc, Option.map_eq_some_iff] at h; obtain ⟨b, _, rfl⟩ := h; exact ⟨rfl, rfl⟩
  | agg l => simp only [conc, Option.map_eq_some_iff] at h; obtain ⟨b, _, rfl⟩ := h; exact ⟨rfl, rfl⟩
  | tuple l => simp only [conc, Option.map_eq_some_iff] at h; obtain ⟨b, _, rfl⟩ := h; exact ⟨rfl, rfl⟩
  | _ => simp [conc] at h; subst h; exact ⟨rfl, rfl⟩
theorem conc_kin {ρ : Env} {k : Tk} {v u v' u' : Value} (h : conc ρ v = some u) (h' : conc ρ v' = some u') : kin k u u' = kin k v v' := by
  have key : ∀ {v u : Value}, conc ρ v = some u → (∃ a b, v = .pointer a ∧ u = .pointer b) ∨ (∃ a n c a' c', v = .slice a n c ∧ u = .slice a' n c') ∨ (∃ a b, v = .map a ∧ u = .map b) ∨ (v = .nilFunc ∧ u = .nilFunc) ∨ (∃ f l m f' l' m', v = .func f l m ∧ u = .func f' l' m') ∨
      ((∀ k x, kin k v x = false ∧ kin k x v = false) ∧ ∀ k x, kin k u x = false ∧ kin k x u = false) := by
    intro v u h
    cases v with
    | pointer a => cases a with
      | none => simp [conc] at h; subst h; exact .inl ⟨_, _, rfl, rfl⟩
      | some a => simp only [conc, Option.map_eq_some_iff] at h; obtain ⟨b, _, rfl⟩ := h; exact .inl ⟨_, _, rfl, rfl⟩
    | slice a n c => cases a with
      | none => simp [conc] at h; subst h; exact .inr (.inl ⟨_, _, _, _, _, rfl, rfl⟩)
      | some a => obtain ⟨_, _, _, _, _, rfl⟩ := conc_slice.1 h; exact .inr (.inl ⟨_, _, _, _, _, rfl, rfl⟩)
    | map a => cases a with
      | none => simp [conc] at h; subst h; exact .inr (.inr (.inl ⟨_, _, rfl, rfl⟩))
      | some a => simp only [conc, Option.map_eq_some_iff] at h; obtain ⟨b, _, rfl⟩ := h; exact .inr (.inr (.inl ⟨_, _, rfl, rfl⟩))
    | nilFunc => simp [conc] at h; subst h; exact .inr (.inr (.inr (.inl ⟨rfl, rfl⟩)))
    | func f l m =>
      simp only [conc] at h
      split at h
      · cases h; exact .inr (.inr (.inr (.inr (.inl ⟨_, _, _, _, _, _, rfl, rfl⟩))))
      · cases h
    | chan a => cases a with
      | none => simp [conc] at h; subst h; exact .inr (.inr (.inr (.inr (.inr ⟨fun k x => by cases k <;> cases x <;> exact ⟨rfl, rfl⟩, fun k x => by cases k <;> cases x <;> exact ⟨rfl, rfl⟩⟩))))
      | some a => simp [conc] at h
    | iface t y => simp only [conc, Option.map_eq_some_iff] at h; obtain ⟨b, _, rfl⟩ := h; exact .inr (.inr (.inr (.inr (.inr ⟨fun k x => by cases k <;> cases x <;> exact ⟨rfl, rfl⟩, fun k x => by cases k <;> cases x <;> exact ⟨rfl, rfl⟩⟩))))
    | agg l => simp only [conc, Option.map_eq_some_iff] at h; obtain ⟨b, _, rfl⟩ := h; exact .inr (.inr (.inr (.inr (.inr ⟨fun k x => by cases k <;> cases x <;> exact ⟨rfl, rfl⟩, fun k x => by cases k <;> cases x <;> exact ⟨rfl, rfl⟩⟩))))
    | tuple l => simp only [conc, Option.map_eq_some_iff] at h; obtain ⟨b, _, rfl⟩ := h; exact .inr (.inr (.inr (.inr (.inr ⟨fun k x => by cases k <;> cases x <;> exact ⟨rfl, rfl⟩, fun k x => by cases k <;> cases x <;> exact ⟨rfl, rfl⟩⟩))))
    | _ => simp [conc] at h; subst h; exact .inr (.inr (.inr (.inr (.inr ⟨fun k x => by cases k <;> cases x <;> exact ⟨rfl, rfl⟩, fun k x => by cases k <;> cases x <;> exact ⟨rfl, rfl⟩⟩))))
  rcases key h with ⟨a, b, rfl, rfl⟩ | ⟨a, n, c, a', c', rfl, rfl⟩ | ⟨a, b, rfl, rfl⟩ | ⟨rfl, rfl⟩ | ⟨f, l, m, f', l', m', rfl, rfl⟩ | ⟨h1, h2⟩
  · rcases key h' with ⟨a, b, rfl, rfl⟩ | ⟨a, n, c, a', c', rfl, rfl⟩ | ⟨a, b, rfl, rfl⟩ | ⟨rfl, rfl⟩ | ⟨f, l, m, f', l', m', rfl, rfl⟩ | ⟨h1, h2⟩ <;> first | (cases k <;> rfl) | rw [(h1 k _).2, (h2 k _).2]
  · rcases key h' with ⟨a, b, rfl, rfl⟩ | ⟨a, n, c, a', c', rfl, rfl⟩ | ⟨a, b, rfl, rfl⟩ | ⟨rfl, rfl⟩ | ⟨f, l, m, f', l', m', rfl, rfl⟩ | ⟨h1, h2⟩ <;> first | (cases k <;> rfl) | rw [(h1 k _).2, (h2 k _).2]
  · rcases key h' with ⟨a, b, rfl, rfl⟩ | ⟨a, n, c, a', c', rfl, rfl⟩ | ⟨a, b, rfl, rfl⟩ | ⟨rfl, rfl⟩ | ⟨f, l, m, f', l', m', rfl, rfl⟩ | ⟨h1, h2⟩ <;> first | (cases k <;> rfl) | rw [(h1 k _).2, (h2 k _).2]
  · rcases key h' with ⟨a, b, rfl, rfl⟩ | ⟨a, n, c, a', c', rfl, rfl⟩ | ⟨a, b, rfl, rfl⟩ | ⟨rfl, rfl⟩ | ⟨f, l, m, f', l', m', rfl, rfl⟩ | ⟨h1, h2⟩ <;> first | (cases k <;> rfl) | rw [(h1 k _).2, (h2 k _).2]
  · rcases key h' with ⟨a, b, rfl, rfl⟩ | ⟨a, n, c, a', c', rfl, rfl⟩ | ⟨a, b, rfl, rfl⟩ | ⟨rfl, rfl⟩ | ⟨f, l, m, f', l', m', rfl, rfl⟩ | ⟨h1, h2⟩ <;> first | (cases k <;> rfl) | rw [(h1 k _).2, (h2 k _).2]
  · rw [(h1 k _).1, (h2 k _).1]

theorem eqNil_conc {C : Ct} {ρ : Env} {t : TypeId} {x y : Operand} {v w v' w' : Value} {b : Bool} (hv : conc ρ v = some v') (hw : conc ρ w = some w') (h : eqNil C t x y v w = some b) : eqNil C t x y v' w' = some b := by
  unfold eqNil at h ⊢
  cases ht : C.tt.get t with
  | none => rw [ht] at h; cases h
  | some ti =>
    rw [ht] at h
    obtain ⟨k, z, sz, by'⟩ := ti
    have rest : (bif kin k v w then (bif nilOf w then isNil v else bif nilOf v then isNil w else none) else none) = some b →
        (bif kin k v' w' then (bif nilOf w' then isNil v' else bif nilOf v' then isNil w' else none) else none) = some b := by
      rw [conc_kin hv hw, (conc_nilOf hv).1, (conc_nilOf hv).2, (conc_nilOf hw).1, (conc_nilOf hw).2]; exact id
    cases k with
    | iface =>
      simp only at h ⊢
      unfold ifE at h
      split at h
      · simp [conc] at hv hw; subst hv; subst hw; exact h
      · simp only [conc, Option.some.injEq, Option.map_eq_some_iff] at hv hw; obtain ⟨c, _, rfl⟩ := hw; subst hv; exact h
      · simp only [conc, Option.some.injEq, Option.map_eq_some_iff] at hv hw; obtain ⟨c, _, rfl⟩ := hv; subst hw; exact h
      · simp only [conc, Option.map_eq_some_iff] at hv hw; obtain ⟨c, _, rfl⟩ := hw; obtain ⟨c', _, rfl⟩ := hv; exact h
      · cases h
    | bool =>
      simp only at h ⊢
      split at h
      · simp [conc] at hv hw; subst hv; subst hw; exact h
      · cases h
    | _ => exact rest h

theorem guard_nn {P : Program} {op : BinOp} {t : TypeId} {x y : Operand} (hc : (isC x || isC y) = true) (W : World) : (eqGuard op t x y .nilIface .nilIface).run P W = .ok () W := by
  unfold eqGuard
  cases x <;> cases y <;> simp [isC] at hc <;> cases op <;> rfl

section
variable {P : Program} {t : TypeId} (d : Nat) (W : World)
theorem eqI_nn {ms : Array (String × TypeId)} (hu : P.underlying t = some (.interface ms)) : (Op.equalIn (d + 1) t .nilIface .nilIface).run P W = .ok true W := by simp [Op.equalIn, run_underlying hu]
theorem eqI_ni {ms : Array (String × TypeId)} (hu : P.underlying t = some (.interface ms)) (u : TypeId) (v : Value) : (Op.equalIn (d + 1) t .nilIface (.iface u v)).run P W = .ok false W := by simp [Op.equalIn, run_underlying hu]
theorem eqI_in {ms : Array (String × TypeId)} (hu : P.underlying t = some (.interface ms)) (u : TypeId) (v : Value) : (Op.equalIn (d + 1) t (.iface u v) .nilIface).run P W = .ok false W := by simp [Op.equalIn, run_underlying hu]
theorem eqI_ii {ms : Array (String × TypeId)} (hu : P.underlying t = some (.interface ms)) (u u' : TypeId) (v v' : Value) (h : ¬ u = u') : (Op.equalIn (d + 1) t (.iface u v) (.iface u' v')).run P W = .ok false W := by simp [Op.equalIn, run_underlying hu, h]
theorem eqI_b (hu : P.underlying t = some .bool) (a b : Bool) : (Op.equalIn (d + 1) t (.bool a) (.bool b)).run P W = .ok (a == b) W := by simp [Op.equalIn, run_underlying hu]
theorem eqI_p {e : TypeId} (hu : P.underlying t = some (.pointer e)) (a b : Option Addr) {r : Bool} (h : (if nilOf (.pointer b) then isNil (.pointer a) else if nilOf (.pointer a) then isNil (.pointer b) else none) = some r) : (Op.equalIn (d + 1) t (.pointer a) (.pointer b)).run P W = .ok r W := by
  cases a <;> cases b <;> simp [nilOf, isNil] at h <;> subst h <;> simp [Op.equalIn, run_underlying hu]
theorem eqI_s {e : TypeId} (hu : P.underlying t = some (.slice e)) (a b : Option Addr) (n c n' c' : Nat) {r : Bool} (h : (if nilOf (.slice b n' c') then isNil (.slice a n c) else if nilOf (.slice a n c) then isNil (.slice b n' c') else none) = some r) : (Op.equalIn (d + 1) t (.slice a n c) (.slice b n' c')).run P W = .ok r W := by
  cases a <;> cases b <;> simp [nilOf, isNil] at h <;> subst h <;> simp [Op.equalIn, run_underlying hu]
theorem eqI_m {k e : TypeId} (hu : P.underlying t = some (.map k e)) (a b : Option Nat) {r : Bool} (h : (if nilOf (.map b) then isNil (.map a) else if nilOf (.map a) then isNil (.map b) else none) = some r) : (Op.equalIn (d + 1) t (.map a) (.map b)).run P W = .ok r W := by
  cases a <;> cases b <;> simp [nilOf, isNil] at h <;> subst h <;> simp [Op.equalIn, run_underlying hu]
theorem eqI_f0 {p1 p2 p3} (hu : P.underlying t = some (.func p1 p2 p3)) : (Op.equalIn (d + 1) t .nilFunc .nilFunc).run P W = .ok true W := by simp [Op.equalIn, run_underlying hu]
theorem eqI_f1 {p1 p2 p3} (hu : P.underlying t = some (.func p1 p2 p3)) (f : Fn) (l m : Array Value) : (Op.equalIn (d + 1) t (.func f l m) .nilFunc).run P W = .ok false W := by simp [Op.equalIn, run_underlying hu]
theorem eqI_f2 {p1 p2 p3} (hu : P.underlying t = some (.func p1 p2 p3)) (f : Fn) (l m : Array Value) : (Op.equalIn (d + 1) t .nilFunc (.func f l m)).run P W = .ok false W := by simp [Op.equalIn, run_underlying hu]
end

def EqR (C : Ct) (t : TypeId) (x y : Operand) (v w : Value) (b : Bool) (W : World) : Prop :=
  (∀ op, (eqGuard op t x y v w).run C.P W = .ok () W) ∧ (Op.equal t v w).run C.P W = .ok b W ∧ binOp .eql t v w = (do pure (.bool (← Op.equal t v w))) ∧ binOp .neq t v w = (do pure (.bool (!(← Op.equal t v w))))
theorem eqNil_run {C : Ct} {t : TypeId} {x y : Operand} {v w : Value} {b : Bool} (h : eqNil C t x y v w = some b) (W : World) : EqR C t x y v w b W := by
  unfold eqNil at h
  cases ht : C.tt.get t with
  | none => rw [ht] at h; cases h
  | some ti =>
    rw [ht] at h
    have hti := C.okT t ti ht
    obtain ⟨k, z, sz, by'⟩ := ti
    cases k with
    | iface =>
      obtain ⟨ms, hu⟩ := tk_iface hti
      simp only at h
      unfold ifE at h
      split at h
      · cases hc : (isC x || isC y) with
        | false => rw [hc] at h; cases h
        | true =>
          rw [hc] at h; cases h
          exact ⟨fun op => guard_nn hc W, eqI_nn 9999 W hu, rfl, rfl⟩
      · cases h
        exact ⟨fun op => by cases op <;> rfl, eqI_ni 9999 W hu _ _, rfl, rfl⟩
      · cases h
        exact ⟨fun op => by cases op <;> rfl, eqI_in 9999 W hu _ _, rfl, rfl⟩
      · rename_i t1 v1 t2 v2
        cases hd : decide (t1 = t2) with
        | true => rw [hd] at h; cases h
        | false =>
          rw [hd] at h; cases h
          simp only [decide_eq_false_iff_not] at hd
          exact ⟨fun op => by cases op <;> rfl, eqI_ii 9999 W hu _ _ _ _ hd, rfl, rfl⟩
      · cases h
    | bool =>
      have hu := tk_bool hti
      simp only at h
      split at h
      · cases h
        exact ⟨fun op => by cases op <;> rfl, eqI_b 9999 W hu _ _, rfl, rfl⟩
      · cases h
    | pointer e =>
      have hu := tk_pointer hti
      simp only at h
      cases v with
      | pointer a => cases w with
        | pointer a' =>
          simp only [kin, cond_true] at h
          exact ⟨fun op => by cases op <;> rfl, eqI_p 9999 W hu a a' (by simpa [Bool.cond_eq_ite] using h), rfl, rfl⟩
        | _ => simp [kin] at h
      | _ => simp [kin] at h
    | slice e =>
      have hu := tk_slice hti
      simp only at h
      cases v with
      | slice a n c => cases w with
        | slice a' n' c' =>
          simp only [kin, cond_true] at h
          exact ⟨fun op => by cases op <;> rfl, eqI_s 9999 W hu a a' n c n' c' (by simpa [Bool.cond_eq_ite] using h), rfl, rfl⟩
        | _ => simp [kin] at h
      | _ => simp [kin] at h
    | map k e =>
      have hu := tk_map hti
      simp only at h
      cases v with
      | map a => cases w with
        | map a' =>
          simp only [kin, cond_true] at h
          exact ⟨fun op => by cases op <;> rfl, eqI_m 9999 W hu a a' (by simpa [Bool.cond_eq_ite] using h), rfl, rfl⟩
        | _ => simp [kin] at h
      | _ => simp [kin] at h
    | func =>
      obtain ⟨p1, p2, p3, hu⟩ := tk_func hti
      simp only at h
      cases v with
      | func f l m => cases w with
        | nilFunc =>
          simp [kin, nilOf, isNil] at h; subst h
          exact ⟨fun op => by cases op <;> rfl, eqI_f1 9999 W hu _ _ _, rfl, rfl⟩
        | _ => simp [kin] at h
      | nilFunc => cases w with
        | nilFunc =>
          simp [kin, nilOf, isNil] at h; subst h
          exact ⟨fun op => by cases op <;> rfl, eqI_f0 9999 W hu, rfl, rfl⟩
        | func f l m =>
          simp [kin, nilOf, isNil] at h; subst h
          exact ⟨fun op => by cases op <;> rfl, eqI_f2 9999 W hu _ _ _, rfl, rfl⟩
        | _ => simp [kin] at h
      | _ => simp [kin] at h
    | _ => cases v <;> simp [kin] at h
end Go.Ev

/- What needs no memory, told by one function. -/
namespace Go.Ev
open Go.Wk
set_option linter.unusedVariables false
set_option linter.unusedSimpArgs false

/-! ### The slots at hand, as a list -/
def slotsOf (a : Act) (xs : List Operand) : LT := xs.filterMap fun | .tmp i => some (i, a.tmps.getD i undef) | _ => none
theorem lk_slots {a : Act} : ∀ {xs : List Operand} {i : Nat} {u : Value}, lk (slotsOf a xs) i = some u → a.tmps.getD i undef = u
  | [], i, u, h => by simp [slotsOf, lk] at h
  | x :: r, i, u, h => by
    cases x with
    | tmp j =>
      have : slotsOf a (.tmp j :: r) = (j, a.tmps.getD j undef) :: slotsOf a r := rfl
      rw [this] at h
      simp only [lk] at h
      by_cases hj : Nat.beq j i = true
      · rw [hj] at h; cases Nat.eq_of_beq_eq_true hj; simpa using h
      · simp only [Bool.not_eq_true] at hj; rw [hj] at h; exact lk_slots h
    | const _ => exact lk_slots (xs := r) h
    | global _ => exact lk_slots (xs := r) h
    | func _ => exact lk_slots (xs := r) h
theorem ev_slots {a : Act} {xs : List Operand} {x : Operand} {u : Value} (h : ev (slotsOf a xs) x = some u) : a.eval x = u := by
  cases x with
  | tmp i => exact lk_slots h
  | const c => simpa [ev, Act.eval] using h
  | global g => simpa [ev, Act.eval] using h
  | func f => simpa [ev, Act.eval] using h
theorem ev_mem {a : Act} : ∀ {xs : List Operand} {x : Operand}, x ∈ xs → ev (slotsOf a xs) x = some (a.eval x)
  | y :: r, x, h => by
    cases x with
    | tmp i =>
      show lk (slotsOf a (y :: r)) i = some (a.tmps.getD i undef)
      have key : ∀ {l : List Operand}, Operand.tmp i ∈ l → lk (slotsOf a l) i = some (a.tmps.getD i undef) := by
        intro l
        induction l with
        | nil => intro h; cases h
        | cons z l ih =>
          intro h
          cases z with
          | tmp j =>
            have e : slotsOf a (.tmp j :: l) = (j, a.tmps.getD j undef) :: slotsOf a l := rfl
            rw [e]
            simp only [lk]
            by_cases hj : Nat.beq j i = true
            · rw [hj]; cases Nat.eq_of_beq_eq_true hj; rfl
            · simp only [Bool.not_eq_true] at hj; rw [hj]
              rcases List.mem_cons.1 h with h | h
              · cases h; rw [Nat.beq_refl] at hj; cases hj
              · exact ih h
          | const _ => rcases List.mem_cons.1 h with h | h
                       · cases h
                       · exact ih h
          | global _ => rcases List.mem_cons.1 h with h | h
                        · cases h
                        · exact ih h
          | func _ => rcases List.mem_cons.1 h with h | h
                      · cases h
                      · exact ih h
      exact key h
    | const c => rfl
    | global g => rfl
    | func f => rfl
theorem Gv.of {C : Ct} {ρ : Env} {a : Act} {d : Nat} {op : Op} {ty : TypeId} {p : String} {af : Array Edge} {dst : Option Tmp} {g : Option (Nat × Bool)} {v u : Value} {xs : List Operand} (hu : conc ρ v = some u)
    (h : PR C.P (slotsOf a xs) ⟨some d, op, ty, p, af, none⟩ u) : Gv C ρ a ⟨dst, op, ty, p, af, g⟩ v :=
  ⟨u, hu, fun w => h a.eval w (fun x u hx => ev_slots hx)⟩
theorem evs_map' {a : Act} {ys : List Operand} : ∀ {xs : List Operand}, (∀ x ∈ xs, x ∈ ys) → evs (slotsOf a ys) xs = some (xs.map a.eval)
  | [], _ => rfl
  | x :: r, h => by
    simp only [evs, ev_mem (a := a) (h x List.mem_cons_self), evs_map' (fun z hz => h z (List.mem_cons_of_mem _ hz))]
    rfl

/-! ### Binary operations -/
def binE (C : Ct) (op : BinOp) (ty : TypeId) (x y : Operand) : Value → Value → Option Value
  | .int k a, .int k' b => numE op k a k' b
  | .string a, .string b => strE op a b
  | v, w => match op with
    | .eql => (eqNil C ty x y v w).map .bool
    | .neq => (eqNil C ty x y v w).map fun b => .bool !b
    | _ => none
theorem binE_run {C : Ct} {ρ : Env} {op : BinOp} {ty : TypeId} {x y : Operand} {v w v' w' r : Value} (hv : conc ρ v = some v') (hw : conc ρ w = some w') (h : binE C op ty x y v w = some r) :
    conc ρ r = some r ∧ ∀ W, (do eqGuard op ty x y v' w'; binOp op ty v' w' : Sem Value).run C.P W = .ok r W := by
  have hb : ∀ {r : Value}, (∃ b, r = .bool b) → conc ρ r = some r := by rintro r ⟨b, rfl⟩; simp [conc]
  have hn : ∀ {r : Value}, (∃ k n, r = .int k n) → conc ρ r = some r := by rintro r ⟨k, n, rfl⟩; simp [conc]
  have hs : ∀ {r : Value}, (∃ s, r = .string s) → conc ρ r = some r := by rintro r ⟨s, rfl⟩; simp [conc]
  unfold binE at h
  split at h
  · simp only [conc, Option.some.injEq] at hv hw
    subst hv; subst hw
    refine ⟨?_, fun W => numE_run h ty x y W⟩
    unfold numE at h
    rename_i k a k' b
    split at h
    · cases hb' : decide (b < 0) <;> rw [hb'] at h <;> cases h; exact hn ⟨_, _, rfl⟩
    · cases hb' : decide (b < 0) <;> rw [hb'] at h <;> cases h; exact hn ⟨_, _, rfl⟩
    · cases hk : decide (k = k') <;> rw [hk] at h
      · cases h
      · cases hb' : decide (b = 0) <;> rw [hb'] at h <;> cases h; exact hn ⟨_, _, rfl⟩
    · cases hk : decide (k = k') <;> rw [hk] at h
      · cases h
      · cases hb' : decide (b = 0) <;> rw [hb'] at h <;> cases h; exact hn ⟨_, _, rfl⟩
    · cases hk : decide (k = k') <;> rw [hk] at h
      · cases h
      · simp only [cond_true] at h
        cases op <;> simp only [ibin, Option.some.injEq, reduceCtorEq] at h <;> subst h <;> first | exact hn ⟨_, _, rfl⟩ | exact hb ⟨_, rfl⟩
  · simp only [conc, Option.some.injEq] at hv hw
    subst hv; subst hw
    refine ⟨?_, fun W => strE_run h ty x y W⟩
    unfold strE at h
    split at h
    · rename_i a b _
      cases hb' : Nat.blt (a.data.toList.length + b.data.toList.length) 1073741824 <;> rw [hb'] at h <;> cases h; exact hs ⟨_, rfl⟩
    all_goals first | (cases h; exact hb ⟨_, rfl⟩) | cases h
  · split at h
    · simp only [Option.map_eq_some_iff] at h
      obtain ⟨b, h, rfl⟩ := h
      refine ⟨hb ⟨_, rfl⟩, fun W => ?_⟩
      obtain ⟨h1, h2, h3, h4⟩ := eqNil_run (eqNil_conc hv hw h) W
      rw [Sem.run_bind, h1, Result.andThen_ok, h3]
      simp [h2]
    · simp only [Option.map_eq_some_iff] at h
      obtain ⟨b, h, rfl⟩ := h
      refine ⟨hb ⟨_, rfl⟩, fun W => ?_⟩
      obtain ⟨h1, h2, h3, h4⟩ := eqNil_run (eqNil_conc hv hw h) W
      rw [Sem.run_bind, h1, Result.andThen_ok, h4]
      simp [h2]
    · cases h

/-! ### Parts -/
def partE (C : Ct) (ft : TypeId) (cs : List Value) (off : Nat) : Option Value := match C.tt.get ft with
  | some tf => bif isA tf.k then some (.agg ⟨(cs.drop off).take tf.sz⟩) else cs[off]?
  | none => none
theorem partE_run {C : Ct} {ρ : Env} {ft : TypeId} {cs cs' : List Value} {off : Nat} {v : Value} (hc : concs ρ cs = some cs') (h : partE C ft cs off = some v) :
    ∃ u, conc ρ v = some u ∧ ∀ w, (part ft ⟨cs'⟩ off).run C.P w = .ok u w := by
  unfold partE at h
  cases ht : C.tt.get ft with
  | none => rw [ht] at h; cases h
  | some tf =>
    rw [ht] at h
    have hti := C.okT ft tf ht
    simp only at h
    cases hA : isA tf.k with
    | true =>
      rw [hA] at h
      simp only [cond_true, Option.some.injEq] at h
      subst h
      have h1 := concs_take tf.sz (concs_drop off hc)
      refine ⟨.agg ⟨(cs'.drop off).take tf.sz⟩, conc_agg h1, fun w => ?_⟩
      simp only [part, Sem.run_bind, Wk.run_isAgg hti, hA, Result.andThen_ok, if_true, Wk.run_sizeOf hti]
      have e : (⟨cs'⟩ : Array Value).extract off (off + tf.sz) = ⟨(cs'.drop off).take tf.sz⟩ := by
        apply Array.ext'
        simp [List.drop_take]
      rw [e]; rfl
    | false =>
      rw [hA] at h
      simp only [cond_false] at h
      obtain ⟨u, h1, h2⟩ := concs_get hc h
      refine ⟨u, h2, fun w => ?_⟩
      simp only [part, Sem.run_bind, Wk.run_isAgg hti, hA, Result.andThen_ok]
      have e : (⟨cs'⟩ : Array Value)[off]? = some u := by simpa using h1
      simp [e]

/-! ### Bounds -/
def bndE (v : Option Value) (dflt top : Nat) : Option Nat := match v with
  | none => some dflt
  | some (.int k i) => bif decide (0 ≤ i) && decide (i ≤ top) then some i.toNat else none
  | _ => none
theorem bndE_int {k : IntKind} {i : Int} {dflt top r : Nat} (h : bndE (some (.int k i)) dflt top = some r) : 0 ≤ i ∧ i ≤ top ∧ r = i.toNat := by
  simp only [bndE] at h
  cases hb : (decide (0 ≤ i) && decide (i ≤ top)) with
  | false => rw [hb] at h; cases h
  | true => rw [hb] at h; cases h; simp at hb; exact ⟨hb.1, hb.2, rfl⟩
/-- An operand that may be missing. -/
def evO (t : Tr Value) : Option Operand → Option (Option Value)
  | none => some none
  | some x => match evE t x with
    | some (.int k i) => some (some (.int k i))
    | _ => none
theorem evO_spec {ρ : Env} {N : Nat} {fm : Fm} {a : Act} (h : Fr ρ N fm a) {x : Option Operand} {v : Option Value} (hx : evO fm.t x = some v) : x.map a.eval = v ∧ ∀ u, v = some u → ∃ k i, u = .int k i := by
  cases x with
  | none => simp only [evO] at hx; cases hx; exact ⟨rfl, fun u hu => by cases hu⟩
  | some x =>
    simp only [evO] at hx
    split at hx
    · rename_i k i he
      cases hx
      obtain ⟨u, hu, hau⟩ := evE_spec h he
      simp [conc] at hu; subst hu
      exact ⟨by simp [hau], fun u hu => ⟨k, i, by cases hu; rfl⟩⟩
    · cases hx
theorem run_bounds {P : Program} {sl : Bool} {len cap l h : Nat} {lo hi : Option Value} (hh : bndE hi len cap = some h) (hl : bndE lo 0 h = some l) (w : World) :
    (Instr.sliceBounds sl len cap lo hi none).run P w = .ok (l, h, cap) w := by
  have one : ∀ {v : Option Value} {d top r : Nat}, bndE v d top = some r → (v = none ∧ r = d) ∨ ∃ k i, v = some (.int k i) ∧ 0 ≤ i ∧ i ≤ top ∧ r = i.toNat := by
    intro v d top r hv
    cases v with
    | none => simp only [bndE] at hv; cases hv; exact .inl ⟨rfl, rfl⟩
    | some v => cases v with
      | int k i => obtain ⟨h1, h2, h3⟩ := bndE_int hv; exact .inr ⟨k, i, rfl, h1, h2, h3⟩
      | _ => simp [bndE] at hv
  rcases one hh with ⟨rfl, rfl⟩ | ⟨k, i, rfl, h1, h2, rfl⟩ <;> rcases one hl with ⟨rfl, rfl⟩ | ⟨k', i', rfl, h1', h2', rfl⟩
  · simp [Instr.sliceBounds]
  · simp [Instr.sliceBounds, Instr.sliceBound, asIntOf, h1', h2']
  · simp [Instr.sliceBounds, Instr.sliceBound, asIntOf, h1, h2]
  · have h3 : i' ≤ i := by omega
    simp [Instr.sliceBounds, Instr.sliceBound, asIntOf, h1, h2, h1', h3, Int.toNat_of_nonneg h1]
end Go.Ev

/- What needs no memory, told by one function: the function. -/
namespace Go.Ev
open Go.Wk
set_option linter.unusedVariables false
set_option linter.unusedSimpArgs false

section
variable {C : Ct} {ρ : Env} {N : Nat} {fm : Fm} {a : Act} {dst : Option Tmp} {ty : TypeId} {p : String} {af : Array Edge} {g : Option (Nat × Bool)}

theorem gv_move {x : Operand} {v : Value} (h : Fr ρ N fm a) (hx : evE fm.t x = some v) : Gv C ρ a ⟨dst, .move x, ty, p, af, g⟩ v := by
  obtain ⟨u, hu, he⟩ := evE_spec h hx
  exact ⟨u, hu, fun w => by show Result.ok (Next.value (a.eval x)) w = _; rw [he]⟩
theorem gv_assign {x : Operand} {v : Value} (h : Fr ρ N fm a) (hx : evE fm.t x = some v) : Gv C ρ a ⟨dst, .assign x, ty, p, af, g⟩ v := by
  obtain ⟨u, hu, he⟩ := evE_spec h hx
  exact ⟨u, hu, fun w => by show Result.ok (Next.value (a.eval x)) w = _; rw [he]⟩

def nilE : Value → Option Value
  | .pointer (some b) => some (.pointer (some b))
  | .func (.func f) l m => some (.func (.func f) l m)
  | .func (.yield f) l m => some (.func (.yield f) l m)
  | .iface u v => some (.iface u v)
  | .map r => some (.map r)
  | _ => none
theorem gv_nil {x : Operand} {v v' : Value} (h : Fr ρ N fm a) (hx : evE fm.t x = some v) (hn : nilE v = some v') : Gv C ρ a ⟨dst, .nilCheck x, ty, p, af, g⟩ v' := by
  obtain ⟨u, hu, he⟩ := evE_spec h hx
  unfold nilE at hn
  split at hn <;> cases hn
  · refine ⟨u, hu, fun w => ?_⟩
    simp only [conc, Option.map_eq_some_iff] at hu
    obtain ⟨b, _, rfl⟩ := hu
    simp only [execOp, he]; rfl
  · refine ⟨u, hu, fun w => ?_⟩
    simp only [conc, cfn] at hu
    split at hu
    · rename_i h1 _ _; cases h1; cases hu; simp only [execOp, he]; rfl
    · cases hu
  · refine ⟨u, hu, fun w => ?_⟩
    simp only [conc, cfn] at hu
    split at hu
    · rename_i h1 _ _
      simp only [Option.map_eq_some_iff] at h1
      obtain ⟨q, _, rfl⟩ := h1
      cases hu; simp only [execOp, he]; rfl
    · cases hu
  · refine ⟨u, hu, fun w => ?_⟩
    simp only [conc, Option.map_eq_some_iff] at hu
    obtain ⟨b, _, rfl⟩ := hu
    simp only [execOp, he]; rfl
  · refine ⟨u, hu, fun w => ?_⟩
    rename_i r
    cases r with
    | none => simp only [conc, Option.some.injEq] at hu; subst hu; simp only [execOp, he]; rfl
    | some r =>
      simp only [conc, Option.map_eq_some_iff] at hu
      obtain ⟨b, _, rfl⟩ := hu
      simp only [execOp, he]; rfl

def pickE (t : Tr Value) (x y : Operand) : Value → Option Value
  | .bool true => evE t x
  | .bool false => evE t y
  | _ => none
theorem gv_pick {c x y : Operand} {b v : Value} (h : Fr ρ N fm a) (hc : evE fm.t c = some b) (hp : pickE fm.t x y b = some v) : Gv C ρ a ⟨dst, .pick c x y, ty, p, af, g⟩ v := by
  obtain ⟨u, hu, he⟩ := evE_spec h hc
  unfold pickE at hp
  split at hp
  · simp [conc] at hu; subst hu
    obtain ⟨u, hu, he'⟩ := evE_spec h hp
    exact ⟨u, hu, fun w => by simp only [execOp, he, asBool]; show Result.ok (Next.value (a.eval x)) w = _; rw [he']⟩
  · simp [conc] at hu; subst hu
    obtain ⟨u, hu, he'⟩ := evE_spec h hp
    exact ⟨u, hu, fun w => by simp only [execOp, he, asBool]; show Result.ok (Next.value (a.eval y)) w = _; rw [he']⟩
  · cases hp

theorem gv_bin {op : BinOp} {t yt : TypeId} {x y : Operand} {v w r : Value} (h : Fr ρ N fm a) (hx : evE fm.t x = some v) (hy : evE fm.t y = some w) (hb : binE C op t x y v w = some r) :
    Gv C ρ a ⟨dst, .binOp op t x y yt, ty, p, af, g⟩ r := by
  obtain ⟨v', hv, he⟩ := evE_spec h hx
  obtain ⟨w', hw, he'⟩ := evE_spec h hy
  obtain ⟨h1, h2⟩ := binE_run hv hw hb
  refine ⟨r, h1, fun W => ?_⟩
  simp only [execOp, he, he']
  have := h2 W
  rw [Sem.run_bind, this]; rfl

def notE : Value → Option Value
  | .bool b => some (.bool !b)
  | _ => none
theorem gv_not {xt : TypeId} {x : Operand} {v r : Value} (h : Fr ρ N fm a) (hx : evE fm.t x = some v) (hb : notE v = some r) : Gv C ρ a ⟨dst, .unOp .not xt x, ty, p, af, g⟩ r := by
  obtain ⟨v', hv, he⟩ := evE_spec h hx
  unfold notE at hb
  split at hb <;> cases hb
  simp [conc] at hv; subst hv
  exact ⟨_, by first | exact conc_int _ _ _ | exact conc_str _ _ | exact conc_bool _ _, fun w => by simp only [execOp, he]; rfl⟩

def extE : Value → Nat → Option Value
  | .tuple vs, i => vs.toList[i]?
  | _, _ => none
theorem gv_ext {x : Operand} {i : Nat} {v r : Value} (h : Fr ρ N fm a) (hx : evE fm.t x = some v) (hb : extE v i = some r) : Gv C ρ a ⟨dst, .extract x i, ty, p, af, g⟩ r := by
  obtain ⟨v', hv, he⟩ := evE_spec h hx
  unfold extE at hb
  split at hb
  · simp only [conc, Option.map_eq_some_iff] at hv
    obtain ⟨us, h1, rfl⟩ := hv
    obtain ⟨u, h2, h3⟩ := concs_get (concA_iff.1 h1) hb
    refine ⟨u, h3, fun w => ?_⟩
    have e : us[i]? = some u := by simpa using h2
    simp [execOp, he, Instr.extract, e]
  · cases hb

def convE (C : Ct) (src dst : TypeId) : Value → Option Value
  | .int k n => match C.tt.get dst with
    | some ti => match ti.k with
      | .int k' => (match C.tt.get src with | some _ => some (.int k' (k'.wrap n)) | none => none)
      | _ => none
    | none => none
  | _ => none
theorem gv_conv {src dst' : TypeId} {x : Operand} {v r : Value} (h : Fr ρ N fm a) (hx : evE fm.t x = some v) (hb : convE C src dst' v = some r) : Gv C ρ a ⟨dst, .convert src dst' x, ty, p, af, g⟩ r := by
  obtain ⟨v', hv, he⟩ := evE_spec h hx
  unfold convE at hb
  split at hb
  · cases ht : C.tt.get dst' with
    | none => rw [ht] at hb; cases hb
    | some ti =>
      rw [ht] at hb
      have hti := C.okT _ _ ht
      obtain ⟨k, z, sz, by'⟩ := ti
      cases k with
      | int k' =>
        simp only at hb
        cases hs : C.tt.get src with
        | none => rw [hs] at hb; cases hb
        | some si =>
          rw [hs] at hb
          cases hb
          have hu := tk_int hti
          obtain ⟨sd, _, hu', _⟩ := tiOf_spec (C.okT _ _ hs)
          simp only [conc, Option.some.injEq] at hv; subst hv
          refine ⟨_, by first | exact conc_int _ _ _ | exact conc_str _ _ | exact conc_bool _ _ | exact conc_sn _ _ _ | exact conc_pn _, fun w => ?_⟩
          simp only [execOp, he]
          simp [convert, run_underlying hu, run_underlying hu', Conv.intToInt]
      | _ => cases hb
  · cases hb

def mkifE (C : Ct) (t : TypeId) (v : Value) : Option Value := match C.tt.get t with
  | some ti => match ti.k with
    | .iface => none
    | _ => some (.iface t v)
  | none => none
theorem gv_mkif {t : TypeId} {x : Operand} {v r : Value} (h : Fr ρ N fm a) (hx : evE fm.t x = some v) (hb : mkifE C t v = some r) : Gv C ρ a ⟨dst, .makeInterface t x, ty, p, af, g⟩ r := by
  obtain ⟨v', hv, he⟩ := evE_spec h hx
  unfold mkifE at hb
  cases ht : C.tt.get t with
  | none => rw [ht] at hb; cases hb
  | some ti =>
    rw [ht] at hb
    obtain ⟨d, i, hd, _, hk, _⟩ := tiOf_spec (C.okT _ _ ht)
    obtain ⟨k, z, sz, by'⟩ := ti
    simp only at hk
    have hne : ∀ ms, d ≠ .interface ms := by
      rintro ms rfl
      simp [tkOf] at hk; subst hk; simp at hb
    have hr : r = .iface t v := by cases k <;> first | (cases hb; rfl) | cases hb
    subst hr
    refine ⟨.iface t v', by simp [conc, hv], fun w => ?_⟩
    simp only [execOp, he, Instr.makeInterface]
    cases d <;> first | exact absurd rfl (hne _) | simp [run_underlying hd]

def mkfnE (t : Tr Value) (fn : Fn) (xs ys : Array Operand) : Option Value := match fn with
  | .yield _ => none
  | _ => match evEs t xs.toList, evEs t ys.toList with
    | some vs, some us => some (.func fn ⟨vs⟩ ⟨us⟩)
    | _, _ => none
theorem gv_mkfn {fn : Fn} {xs ys : Array Operand} {r : Value} (h : Fr ρ N fm a) (hb : mkfnE fm.t fn xs ys = some r) : Gv C ρ a ⟨dst, .makeFunc fn xs ys, ty, p, af, g⟩ r := by
  have key : (match evEs fm.t xs.toList, evEs fm.t ys.toList with | some vs, some us => some (Value.func fn ⟨vs⟩ ⟨us⟩) | _, _ => none) = some r → cfn ρ fn = some fn → Gv C ρ a ⟨dst, .makeFunc fn xs ys, ty, p, af, g⟩ r := by
    intro hb hf
    split at hb
    · rename_i vs us h1 h2
      cases hb
      have e1 := evEs_spec h h1
      have e2 := evEs_spec h h2
      refine ⟨.func fn ⟨xs.toList.map a.eval⟩ ⟨ys.toList.map a.eval⟩, conc_func hf e1 e2, fun w => ?_⟩
      simp only [execOp, Instr.makeFunc]
      have e3 : xs.map a.eval = ⟨xs.toList.map a.eval⟩ := by apply Array.ext'; simp
      have e4 : ys.map a.eval = ⟨ys.toList.map a.eval⟩ := by apply Array.ext'; simp
      rw [e3, e4]; rfl
    · cases hb
  cases fn <;> simp only [mkfnE] at hb <;> first | cases hb | exact key hb rfl

def fldE (C : Ct) (st : TypeId) (i : Nat) : Value → Option Value
  | .pointer (some ⟨b, o, none⟩) => match C.tt.get st with
    | some ti => match ti.k with
      | .struct fs => (match fs[i]? with
        | some (off, ft) => (match C.tt.get ft with
          | some tf => bif Nat.beq tf.sz 0 then none else some (.pointer (some ⟨b, o + off, none⟩))
          | none => none)
        | none => none)
      | _ => none
    | none => none
  | _ => none
theorem gv_fld {st : TypeId} {x : Operand} {i : Nat} {v r : Value} (h : Fr ρ N fm a) (hx : evE fm.t x = some v) (hb : fldE C st i v = some r) : Gv C ρ a ⟨dst, .fieldAddr st x i, ty, p, af, g⟩ r := by
  obtain ⟨v', hv, he⟩ := evE_spec h hx
  unfold fldE at hb
  split at hb
  · rename_i b o
    cases ht : C.tt.get st with
    | none => rw [ht] at hb; cases hb
    | some ti =>
      rw [ht] at hb
      obtain ⟨k, z, sz, by'⟩ := ti
      cases k with
      | struct fs =>
        simp only at hb
        cases hf : fs[i]? with
        | none => rw [hf] at hb; cases hb
        | some q =>
          obtain ⟨off, ft⟩ := q
          rw [hf] at hb
          simp only at hb
          cases htf : C.tt.get ft with
          | none => rw [htf] at hb; cases hb
          | some tf =>
            rw [htf] at hb
            simp only at hb
            cases hz : Nat.beq tf.sz 0 with
            | true => rw [hz] at hb; cases hb
            | false =>
              rw [hz] at hb; cases hb
              simp only [conc, cA, Option.map_eq_some_iff] at hv
              obtain ⟨_, ⟨b', h1, rfl⟩, rfl⟩ := hv
              refine Gv.of (d := 0) (u := .pointer (some ⟨b', o + off, none⟩)) (xs := [x]) (by simp [conc, cA, h1]) ?_
              exact p_fld (X := C.X) (b := b') (o := o) (by rw [ev_mem (List.mem_singleton_self x), he]) (C.okL _ _ ht) hf (C.okL _ _ htf) hz
      | _ => cases hb
  · cases hb

def fieldE (C : Ct) (st : TypeId) (i : Nat) : Value → Option Value
  | .agg cs => match C.tt.get st with
    | some ti => match ti.k with
      | .struct fs => (match fs[i]? with
        | some (off, ft) => partE C ft cs.toList off
        | none => none)
      | _ => none
    | none => none
  | _ => none
theorem gv_field {st : TypeId} {x : Operand} {i : Nat} {v r : Value} (h : Fr ρ N fm a) (hx : evE fm.t x = some v) (hb : fieldE C st i v = some r) : Gv C ρ a ⟨dst, .field st x i, ty, p, af, g⟩ r := by
  obtain ⟨v', hv, he⟩ := evE_spec h hx
  unfold fieldE at hb
  split at hb
  · cases ht : C.tt.get st with
    | none => rw [ht] at hb; cases hb
    | some ti =>
      rw [ht] at hb
      have hti := C.okT _ _ ht
      obtain ⟨k, z, sz, by'⟩ := ti
      cases k with
      | struct fs =>
        simp only at hb
        obtain ⟨fl, hu, hfl⟩ := tk_struct hti
        cases hf : fs[i]? with
        | none => rw [hf] at hb; cases hb
        | some q =>
          obtain ⟨off, ft⟩ := q
          rw [hf] at hb
          simp only at hb
          simp only [conc, Option.map_eq_some_iff] at hv
          obtain ⟨us, h1, rfl⟩ := hv
          obtain ⟨u, h2, h3⟩ := partE_run (concA_iff.1 h1) hb
          have hfi : ∃ f, fl[i]? = some f ∧ f.offset = off ∧ f.type = ft := by
            rw [← hfl] at hf
            simp only [List.getElem?_map, Option.map_eq_some_iff, Prod.mk.injEq] at hf
            obtain ⟨f, hf1, hf2, hf3⟩ := hf
            exact ⟨f, by simpa using hf1, hf2, hf3⟩
          obtain ⟨f, hf1, rfl, rfl⟩ := hfi
          refine ⟨u, h2, fun w => ?_⟩
          have h4 := h3 w
          simp only [execOp, he]
          simp only [Instr.field, Sem.run_bind, run_underlying hu, Result.andThen_ok, hf1, asAgg, Sem.run_pure]
          rw [h4]; rfl
      | _ => cases hb
  · cases hb

def ixaE (C : Ct) (t : TypeId) : Value → Value → Option Value
  | .slice (some ⟨b, o, none⟩) n c, .int k i => match C.tt.get t with
    | some ti => match ti.k with
      | .slice e => (match C.tt.get e with
        | some te => bif decide (0 ≤ i) && decide (i < n) then some (.pointer (some ⟨b, o + i.toNat * te.sz, none⟩)) else none
        | none => none)
      | _ => none
    | none => none
  | .pointer (some ⟨b, o, none⟩), .int k i => match C.tt.get t with
    | some ti => match ti.k with
      | .array n e => (match C.tt.get e with
        | some te => bif decide (0 ≤ i) && decide (i < n) then some (.pointer (some ⟨b, o + i.toNat * te.sz, none⟩)) else none
        | none => none)
      | _ => none
    | none => none
  | _, _ => none
theorem tk_array {P : Program} {t e : TypeId} {n : Nat} {z : Value} {s b : Nat} (h : tiOf P t = some ⟨.array n e, z, s, b⟩) : P.underlying t = some (.array n e) := by
  obtain ⟨d, i, hd, _, hk, _⟩ := tiOf_spec h
  cases d <;> simp [tkOf] at hk
  obtain ⟨rfl, rfl⟩ := hk; exact hd
theorem gv_ixa {t : TypeId} {x y : Operand} {v i r : Value} (h : Fr ρ N fm a) (hx : evE fm.t x = some v) (hy : evE fm.t y = some i) (hb : ixaE C t v i = some r) : Gv C ρ a ⟨dst, .indexAddr t x y, ty, p, af, g⟩ r := by
  obtain ⟨v', hv, he⟩ := evE_spec h hx
  obtain ⟨i', hi, he'⟩ := evE_spec h hy
  unfold ixaE at hb
  split at hb
  · rename_i b o n c k i
    simp only [conc, Option.some.injEq] at hi; subst hi
    obtain ⟨a', c', h1, h2, h3, rfl⟩ := conc_slice.1 hv
    simp only [cA, Option.map_eq_some_iff] at h1
    obtain ⟨b', h1, rfl⟩ := h1
    cases ht : C.tt.get t with
    | none => rw [ht] at hb; cases hb
    | some ti =>
      rw [ht] at hb
      obtain ⟨kk, z, sz, by'⟩ := ti
      cases kk with
      | slice e =>
        simp only at hb
        cases hte : C.tt.get e with
        | none => rw [hte] at hb; cases hb
        | some te =>
          rw [hte] at hb
          simp only at hb
          cases hbd : (decide (0 ≤ i) && decide (i < n)) with
          | false => rw [hbd] at hb; cases hb
          | true =>
            rw [hbd] at hb; cases hb
            simp at hbd
            refine Gv.of (d := 0) (u := .pointer (some ⟨b', o + i.toNat * te.sz, none⟩)) (xs := [x, y]) (by simp [conc, cA, h1]) ?_
            exact p_ix (X := C.X) (by rw [ev_mem (x := x) (by simp), he]) (by rw [ev_mem (x := y) (by simp), he']) (C.okL _ _ ht) (C.okL _ _ hte) hbd.1 hbd.2
      | _ => cases hb
  · rename_i b o k i
    simp only [conc, Option.some.injEq] at hi; subst hi
    simp only [conc, cA, Option.map_eq_some_iff] at hv
    obtain ⟨_, ⟨b', h1, rfl⟩, rfl⟩ := hv
    cases ht : C.tt.get t with
    | none => rw [ht] at hb; cases hb
    | some ti =>
      rw [ht] at hb
      have hti := C.okT _ _ ht
      obtain ⟨kk, z, sz, by'⟩ := ti
      cases kk with
      | array n e =>
        simp only at hb
        cases hte : C.tt.get e with
        | none => rw [hte] at hb; cases hb
        | some te =>
          rw [hte] at hb
          simp only at hb
          cases hbd : (decide (0 ≤ i) && decide (i < n)) with
          | false => rw [hbd] at hb; cases hb
          | true =>
            rw [hbd] at hb; cases hb
            simp at hbd
            refine ⟨.pointer (some ⟨b', o + i.toNat * te.sz, none⟩), by simp [conc, cA, h1], fun w => ?_⟩
            simp only [execOp, he, he']
            have hu := tk_array hti
            simp [Instr.indexAt, asIntOf, run_underlying hu, Instr.sureAddr, Wk.run_sizeOf (C.okT _ _ hte), hbd.1, hbd.2, addr_add]
      | _ => cases hb
  · cases hb

def indE (C : Ct) (t : TypeId) : Value → Value → Option Value
  | .string s, .int k i => match C.tt.get t with
    | some ti => match ti.k with
      | .string => bif decide (0 ≤ i) then (match s.data.toList[i.toNat]? with | some b => some (.int .u8 b.toNat) | none => none) else none
      | _ => none
    | none => none
  | .agg cs, .int k i => match C.tt.get t with
    | some ti => match ti.k with
      | .array n e => (match C.tt.get e with
        | some te => bif decide (0 ≤ i) && decide (i < n) then partE C e cs.toList (i.toNat * te.sz) else none
        | none => none)
      | _ => none
    | none => none
  | _, _ => none
theorem gv_ind {t : TypeId} {x y : Operand} {v i r : Value} (h : Fr ρ N fm a) (hx : evE fm.t x = some v) (hy : evE fm.t y = some i) (hb : indE C t v i = some r) : Gv C ρ a ⟨dst, .index t x y, ty, p, af, g⟩ r := by
  obtain ⟨v', hv, he⟩ := evE_spec h hx
  obtain ⟨i', hi, he'⟩ := evE_spec h hy
  unfold indE at hb
  split at hb
  · rename_i s k i
    simp only [conc, Option.some.injEq] at hi hv; subst hi; subst hv
    cases ht : C.tt.get t with
    | none => rw [ht] at hb; cases hb
    | some ti =>
      rw [ht] at hb
      have hti := C.okT _ _ ht
      obtain ⟨kk, z, sz, by'⟩ := ti
      cases kk with
      | string =>
        simp only at hb
        have hu := tk_string hti
        cases h0 : decide (0 ≤ i) with
        | false => rw [h0] at hb; cases hb
        | true =>
          rw [h0] at hb
          simp only [cond_true] at hb
          simp only [decide_eq_true_eq] at h0
          cases hs : s.data.toList[i.toNat]? with
          | none => rw [hs] at hb; cases hb
          | some b =>
            rw [hs] at hb; cases hb
            refine ⟨_, by first | exact conc_int _ _ _ | exact conc_str _ _ | exact conc_bool _ _ | exact conc_sn _ _ _ | exact conc_pn _, fun w => ?_⟩
            have hlt : i.toNat < s.size := by have := (List.getElem?_eq_some_iff.1 hs).1; simpa using this
            have e : s[i.toNat]? = some b := by
              rw [ByteArray.getElem?_lt' s _ hlt]
              have := (List.getElem?_eq_some_iff.1 hs).2
              rw [← this]; rfl
            simp only [execOp, he, he']
            simp [Instr.index, asIntOf, run_underlying hu, h0, e]
      | _ => cases hb
  · rename_i cs k i
    simp only [conc, Option.some.injEq] at hi; subst hi
    simp only [conc, Option.map_eq_some_iff] at hv
    obtain ⟨us, h1, rfl⟩ := hv
    cases ht : C.tt.get t with
    | none => rw [ht] at hb; cases hb
    | some ti =>
      rw [ht] at hb
      have hti := C.okT _ _ ht
      obtain ⟨kk, z, sz, by'⟩ := ti
      cases kk with
      | array n e =>
        simp only at hb
        have hu := tk_array hti
        cases hte : C.tt.get e with
        | none => rw [hte] at hb; cases hb
        | some te =>
          rw [hte] at hb
          simp only at hb
          cases hbd : (decide (0 ≤ i) && decide (i < n)) with
          | false => rw [hbd] at hb; cases hb
          | true =>
            rw [hbd] at hb
            simp only [cond_true] at hb
            simp at hbd
            obtain ⟨u, h2, h3⟩ := partE_run (concA_iff.1 h1) hb
            refine ⟨u, h2, fun w => ?_⟩
            have h4 := h3 w
            simp only [execOp, he, he']
            have e5 : (⟨us.toList⟩ : Array Value) = us := rfl
            rw [e5] at h4
            simp only [Instr.index, Sem.run_bind, asIntOf, Sem.run_pure, Result.andThen_ok, run_underlying hu, hbd.1, hbd.2, and_self, if_true, Wk.run_sizeOf (C.okT _ _ hte)]
            rw [h4]; rfl
      | _ => cases hb
  · cases hb

def lenE (C : Ct) (t : TypeId) : Value → Option Value
  | .slice _ n _ => match C.tt.get t with
    | some ti => (match ti.k with | .slice _ => some (.int .i64 n) | _ => none)
    | none => none
  | .string s => match C.tt.get t with
    | some ti => (match ti.k with | .string => some (.int .i64 s.data.toList.length) | _ => none)
    | none => none
  | .map none => match C.tt.get t with
    | some ti => (match ti.k with | .map _ _ => some (.int .i64 0) | _ => none)
    | none => none
  | _ => none
theorem gv_len {t : TypeId} {x : Operand} {v r : Value} (h : Fr ρ N fm a) (hx : evE fm.t x = some v) (hb : lenE C t v = some r) : Gv C ρ a ⟨dst, .call ⟨.builtin .len, #[x], #[t]⟩, ty, p, af, g⟩ r := by
  obtain ⟨v', hv, he⟩ := evE_spec h hx
  unfold lenE at hb
  split at hb
  · rename_i ad n c
    cases ht : C.tt.get t with
    | none => rw [ht] at hb; cases hb
    | some ti =>
      rw [ht] at hb
      have hti := C.okT _ _ ht
      obtain ⟨kk, z, sz, by'⟩ := ti
      cases kk with
      | slice e =>
        cases hb
        have hu := tk_slice hti
        have : ∃ A c', v' = .slice A n c' := by
          cases ad with
          | none => simp [conc] at hv; exact ⟨_, _, hv.symm⟩
          | some ad => obtain ⟨a', c', _, _, _, rfl⟩ := conc_slice.1 hv; exact ⟨_, _, rfl⟩
        obtain ⟨A, c', rfl⟩ := this
        refine ⟨_, by first | exact conc_int _ _ _ | exact conc_str _ _ | exact conc_bool _ _ | exact conc_sn _ _ _ | exact conc_pn _, fun w => ?_⟩
        simp only [execOp]
        simp [resolve, invoke, builtin, Builtin.len_, he, run_underlying hu, goInt]
      | _ => cases hb
  · rename_i s
    cases ht : C.tt.get t with
    | none => rw [ht] at hb; cases hb
    | some ti =>
      rw [ht] at hb
      have hti := C.okT _ _ ht
      obtain ⟨kk, z, sz, by'⟩ := ti
      cases kk with
      | string =>
        cases hb
        have hu := tk_string hti
        simp only [conc, Option.some.injEq] at hv; subst hv
        refine ⟨_, by first | exact conc_int _ _ _ | exact conc_str _ _ | exact conc_bool _ _ | exact conc_sn _ _ _ | exact conc_pn _, fun w => ?_⟩
        simp only [execOp]
        have e : (s.size : Int) = (s.data.toList.length : Int) := by simp
        simp [resolve, invoke, builtin, Builtin.len_, he, run_underlying hu, goInt, e]
      | _ => cases hb
  · cases ht : C.tt.get t with
    | none => rw [ht] at hb; cases hb
    | some ti =>
      rw [ht] at hb
      have hti := C.okT _ _ ht
      obtain ⟨kk, z, sz, by'⟩ := ti
      cases kk with
      | map k e =>
        cases hb
        have hu := tk_map hti
        simp only [conc, Option.some.injEq] at hv; subst hv
        refine ⟨_, by first | exact conc_int _ _ _ | exact conc_str _ _ | exact conc_bool _ _ | exact conc_sn _ _ _ | exact conc_pn _, fun w => ?_⟩
        simp only [execOp]
        simp [resolve, invoke, builtin, Builtin.len_, he, run_underlying hu, goInt]
      | _ => cases hb
  · cases hb
end
end Go.Ev

/- What needs no memory: slices cut, types asked, structs built; all of them. -/
namespace Go.Ev
open Go.Wk
set_option linter.unusedVariables false
set_option linter.unusedSimpArgs false

def slE (C : Ct) (t : TypeId) (lo hi : Option Value) : Value → Option Value
  | .string s => match C.tt.get t with
    | some ti => (match ti.k with
      | .string => (match bndE hi s.data.toList.length s.data.toList.length with
        | some h => (match bndE lo 0 h with
          | some l => some (.string ⟨⟨(s.data.toList.drop l).take (h - l)⟩⟩)
          | none => none)
        | none => none)
      | _ => none)
    | none => none
  | .slice none n c => match C.tt.get t with
    | some ti => (match ti.k with
      | .slice e => (match C.tt.get e with
        | some te => (match bndE hi n c with
          | some h => (match bndE lo 0 h with
            | some l => some (.slice none (h - l) (c - l))
            | none => none)
          | none => none)
        | none => none)
      | _ => none)
    | none => none
  | .slice (some ⟨b, o, none⟩) n c => match C.tt.get t with
    | some ti => (match ti.k with
      | .slice e => (match C.tt.get e with
        | some te => (match bndE hi n (bif Nat.ble CC c then n else c) with
          | some h => (match bndE lo 0 h with
            | some l => bif Nat.beq l 0 then some (.slice (some ⟨b, o, none⟩) h c) else bif Nat.ble CC c then (bif Nat.blt l n then some (.slice (some ⟨b, o + l * te.sz, none⟩) (h - l) (c + l)) else none)
                else some (.slice (some ⟨b, bif Nat.beq c l then o else o + l * te.sz, none⟩) (h - l) (c - l))
            | none => none)
          | none => none)
        | none => none)
      | _ => none)
    | none => none
  | .pointer (some ⟨b, o, none⟩) => match C.tt.get t with
    | some ti => (match ti.k with
      | .array n e => (match C.tt.get e with
        | some te => (match bndE hi n n with
          | some h => (match bndE lo 0 h with
            | some l => bif Nat.blt n CC then some (.slice (some ⟨b, bif Nat.beq n l then o else o + l * te.sz, none⟩) (h - l) (n - l)) else none
            | none => none)
          | none => none)
        | none => none)
      | _ => none)
    | none => none
  | _ => none
theorem bnd_le {v : Option Value} {d top r : Nat} (hd : d ≤ top) (h : bndE v d top = some r) : r ≤ top := by
  cases v with
  | none => simp only [bndE] at h; cases h; exact hd
  | some v => cases v with
    | int k i => obtain ⟨h1, h2, rfl⟩ := bndE_int h; omega
    | _ => simp [bndE] at h
/-- The same bound, over a higher top. -/
theorem bnd_up {v : Option Value} {d top top' r : Nat} (ht : top ≤ top') (h : bndE v d top = some r) : bndE v d top' = some r := by
  cases v with
  | none => exact h
  | some v => cases v with
    | int k i =>
      obtain ⟨h1, h2, rfl⟩ := bndE_int h
      have h3 : i ≤ top' := by omega
      simp [bndE, h1, h3]
    | _ => simp [bndE] at h
theorem gv_slice {C : Ct} {ρ : Env} {N : Nat} {fm : Fm} {a : Act} {dst : Option Tmp} {ty : TypeId} {p : String} {af : Array Edge} {g : Option (Nat × Bool)} {t : TypeId} {x : Operand} {lo hi : Option Operand} {l h : Option Value} {v r : Value}
    (hf : Fr ρ N fm a) (hx : evE fm.t x = some v) (hlo : evO fm.t lo = some l) (hhi : evO fm.t hi = some h) (hb : slE C t l h v = some r) : Gv C ρ a ⟨dst, .slice t x lo hi none, ty, p, af, g⟩ r := by
  obtain ⟨v', hv, he⟩ := evE_spec hf hx
  obtain ⟨hl, _⟩ := evO_spec hf hlo
  obtain ⟨hh, _⟩ := evO_spec hf hhi
  have hop : execOp a.eval ⟨dst, .slice t x lo hi none, ty, p, af, g⟩ = (do pure (.value (← Instr.sliceAt t v' l h none))) := by
    simp only [execOp, he, hl, hh]; rfl
  unfold slE at hb
  split at hb
  · rename_i s
    simp only [conc, Option.some.injEq] at hv; subst hv
    cases ht : C.tt.get t with
    | none => rw [ht] at hb; cases hb
    | some ti =>
      rw [ht] at hb
      have hti := C.okT _ _ ht
      obtain ⟨kk, z, sz, by'⟩ := ti
      cases kk with
      | string =>
        have hu := tk_string hti
        simp only at hb
        cases h1 : bndE h s.data.toList.length s.data.toList.length with
        | none => rw [h1] at hb; cases hb
        | some q =>
          rw [h1] at hb; simp only at hb
          cases h2 : bndE l 0 q with
          | none => rw [h2] at hb; cases hb
          | some m =>
            rw [h2] at hb; cases hb
            refine ⟨_, by first | exact conc_int _ _ _ | exact conc_str _ _ | exact conc_bool _ _ | exact conc_sn _ _ _ | exact conc_pn _, fun w => ?_⟩
            rw [hop]
            have hs : s.size = s.data.toList.length := by simp
            have hbd := run_bounds (P := C.P) (sl := false) (len := s.size) (cap := s.size) (by rw [hs]; exact h1) h2 w
            have e : s.extract m q = ⟨⟨(s.data.toList.drop m).take (q - m)⟩⟩ := bytes_eq (by simp [List.drop_take])
            simp [Instr.sliceAt, run_underlying hu, Instr.slice, hbd, e]
      | _ => cases hb
  · rename_i n c
    simp only [conc, Option.some.injEq] at hv; subst hv
    cases ht : C.tt.get t with
    | none => rw [ht] at hb; cases hb
    | some ti =>
      rw [ht] at hb
      have hti := C.okT _ _ ht
      obtain ⟨kk, z, sz, by'⟩ := ti
      cases kk with
      | slice e =>
        have hu := tk_slice hti
        simp only at hb
        cases hte : C.tt.get e with
        | none => rw [hte] at hb; cases hb
        | some te =>
          rw [hte] at hb; simp only at hb
          cases h1 : bndE h n c with
          | none => rw [h1] at hb; cases hb
          | some q =>
            rw [h1] at hb; simp only at hb
            cases h2 : bndE l 0 q with
            | none => rw [h2] at hb; cases hb
            | some m =>
              rw [h2] at hb; cases hb
              refine ⟨_, by first | exact conc_int _ _ _ | exact conc_str _ _ | exact conc_bool _ _ | exact conc_sn _ _ _ | exact conc_pn _, fun w => ?_⟩
              rw [hop]
              have hbd := run_bounds (P := C.P) (sl := true) (len := n) (cap := c) h1 h2 w
              simp [Instr.sliceAt, run_underlying hu, Instr.slice, hbd, Wk.run_sizeOf (C.okT _ _ hte)]
      | _ => cases hb
  · rename_i b o n c
    obtain ⟨a', c', ha, hc, hn, rfl⟩ := conc_slice.1 hv
    simp only [cA, Option.map_eq_some_iff] at ha
    obtain ⟨b', ha, rfl⟩ := ha
    cases ht : C.tt.get t with
    | none => rw [ht] at hb; cases hb
    | some ti =>
      rw [ht] at hb
      have hti := C.okT _ _ ht
      obtain ⟨kk, z, sz, by'⟩ := ti
      cases kk with
      | slice e =>
        have hu := tk_slice hti
        simp only at hb
        cases hte : C.tt.get e with
        | none => rw [hte] at hb; cases hb
        | some te =>
          rw [hte] at hb; simp only at hb
          cases h1 : bndE h n (bif Nat.ble CC c then n else c) with
          | none => rw [h1] at hb; cases hb
          | some q =>
            rw [h1] at hb; simp only at hb
            cases h2 : bndE l 0 q with
            | none => rw [h2] at hb; cases hb
            | some m =>
              rw [h2] at hb; simp only at hb
              have htop : (bif Nat.ble CC c then n else c) ≤ c' := by
                cases hcc : Nat.ble CC c with
                | true => exact hn
                | false => simp [ccap, hcc] at hc; subst hc; exact Nat.le_refl _
              have hntop : n ≤ (bif Nat.ble CC c then n else c) := by
                cases hcc : Nat.ble CC c with
                | true => exact Nat.le_refl _
                | false => simp [ccap, hcc] at hc; subst hc; exact hn
              have hq := bnd_le hntop h1
              have hm := bnd_le (Nat.zero_le q) h2
              have h1' := bnd_up htop h1
              have hr : ∀ w, (Instr.sliceAt t (.slice (some ⟨b', o, none⟩) n c') l h none).run C.P w = .ok (.slice (some (if c' = m then ⟨b', o, none⟩ else ⟨b', o + m * te.sz, none⟩)) (q - m) (c' - m)) w := fun w => by
                have hbd := run_bounds (P := C.P) (sl := true) (len := n) (cap := c') h1' h2 w
                simp [Instr.sliceAt, run_underlying hu, Instr.slice, hbd, Wk.run_sizeOf (C.okT _ _ hte), addr_add]
                by_cases hcm : c' = m <;> simp [hcm]
              cases hm0 : Nat.beq m 0 with
              | true =>
                rw [hm0] at hb; cases hb
                obtain rfl := Nat.eq_of_beq_eq_true hm0
                refine ⟨.slice (some ⟨b', o, none⟩) q c', conc_slice.2 ⟨_, c', by simp [cA, ha], hc, by omega, rfl⟩, fun w => ?_⟩
                rw [hop, Sem.run_bind, hr w]
                simp
              | false =>
                rw [hm0] at hb
                have hm1 := Nat.ne_of_beq_eq_false hm0
                cases hcc : Nat.ble CC c with
                | true =>
                  rw [hcc] at hb
                  simp only [cond_false, cond_true] at hb
                  cases hlt : Nat.blt m n with
                  | false => rw [hlt] at hb; cases hb
                  | true =>
                    rw [hlt] at hb; cases hb
                    have hlt' : m < n := Nat.lt_of_lt_of_le (Nat.lt_succ_self _) (Nat.le_of_ble_eq_true hlt)
                    refine ⟨.slice (some ⟨b', o + m * te.sz, none⟩) (q - m) (c' - m), conc_slice.2 ⟨_, c' - m, by simp [cA, ha], ?_, by omega, rfl⟩, fun w => ?_⟩
                    · unfold ccap at hc ⊢
                      have hcc2 : Nat.ble CC (c + m) = true := Nat.ble_eq_true_of_le (Nat.le_trans (Nat.le_of_ble_eq_true hcc) (Nat.le_add_right _ _))
                      rw [hcc] at hc
                      rw [hcc2]
                      simp only [cond_true] at hc ⊢
                      cases hbb : Nat.ble BB b with
                      | false => rw [hbb] at hc; cases hc
                      | true =>
                        rw [hbb] at hc
                        simp only [cond_true, Option.map_eq_some_iff] at hc ⊢
                        obtain ⟨L, hL, rfl⟩ := hc
                        refine ⟨L, hL, ?_⟩
                        have := Nat.le_of_ble_eq_true hcc
                        omega
                    · rw [hop, Sem.run_bind, hr w]
                      simp [show ¬ c' = m from by omega]
                | false =>
                  rw [hcc] at hb; cases hb
                  have hcc' : c' = c := by simp [ccap, hcc] at hc; exact hc.symm
                  subst hcc'
                  have hq' : q ≤ c' := by simpa [hcc] using hq
                  refine ⟨.slice (some (if c' = m then ⟨b', o, none⟩ else ⟨b', o + m * te.sz, none⟩)) (q - m) (c' - m), conc_slice.2 ⟨_, c' - m, ?_, ?_, by omega, rfl⟩, fun w => ?_⟩
                  · by_cases hcm : c' = m
                    · subst hcm; simp [cA, ha]
                    · have : Nat.beq c' m = false := by
                        cases hk : Nat.beq c' m with
                        | false => rfl
                        | true => exact absurd (Nat.eq_of_beq_eq_true hk) hcm
                      simp [cA, ha, hcm, this]
                  · have : Nat.ble CC (c' - m) = false := by
                      cases hk : Nat.ble CC (c' - m) with
                      | false => rfl
                      | true =>
                        have h5 := Nat.le_of_ble_eq_true hk
                        have : Nat.ble CC c' = true := Nat.ble_eq_true_of_le (by omega)
                        rw [hcc] at this; cases this
                    simp [ccap, this]
                  · rw [hop, Sem.run_bind, hr w]; rfl
      | _ => cases hb
  · rename_i b o
    simp only [conc, cA, Option.map_eq_some_iff] at hv
    obtain ⟨_, ⟨b', ha, rfl⟩, rfl⟩ := hv
    cases ht : C.tt.get t with
    | none => rw [ht] at hb; cases hb
    | some ti =>
      rw [ht] at hb
      have hti := C.okT _ _ ht
      obtain ⟨kk, z, sz, by'⟩ := ti
      cases kk with
      | array n e =>
        have hu := tk_array hti
        simp only at hb
        cases hte : C.tt.get e with
        | none => rw [hte] at hb; cases hb
        | some te =>
          rw [hte] at hb; simp only at hb
          cases h1 : bndE h n n with
          | none => rw [h1] at hb; cases hb
          | some q =>
            rw [h1] at hb; simp only at hb
            cases h2 : bndE l 0 q with
            | none => rw [h2] at hb; cases hb
            | some m =>
              rw [h2] at hb; simp only at hb
              cases hcc : Nat.blt n CC with
              | false => rw [hcc] at hb; cases hb
              | true =>
                rw [hcc] at hb; cases hb
                have hq := bnd_le (Nat.le_refl n) h1
                have hm := bnd_le (Nat.zero_le q) h2
                have hn' : n < CC := Nat.lt_of_lt_of_le (Nat.lt_succ_self _) (Nat.le_of_ble_eq_true hcc)
                refine ⟨.slice (some (if n = m then ⟨b', o, none⟩ else ⟨b', o + m * te.sz, none⟩)) (q - m) (n - m), conc_slice.2 ⟨_, n - m, ?_, ?_, by omega, rfl⟩, fun w => ?_⟩
                · by_cases hcm : n = m
                  · subst hcm; simp [cA, ha]
                  · have : Nat.beq n m = false := by
                      cases hk : Nat.beq n m with
                      | false => rfl
                      | true => exact absurd (Nat.eq_of_beq_eq_true hk) hcm
                    simp [cA, ha, hcm, this]
                · have : Nat.ble CC (n - m) = false := by
                    cases hk : Nat.ble CC (n - m) with
                    | false => rfl
                    | true => have h5 := Nat.le_of_ble_eq_true hk; omega
                  simp [ccap, this]
                · have hbd := run_bounds (P := C.P) (sl := false) (len := n) (cap := n) h1 h2 w
                  rw [hop]
                  simp [Instr.sliceAt, run_underlying hu, Instr.sureAddr, hbd, Wk.run_sizeOf (C.okT _ _ hte), addr_add]
      | _ => cases hb
  · cases hb

/-! ### Which type -/
def tasE (C : Ct) (asserted : TypeId) (ok : Bool) : Value → Option Value
  | .iface u v => match C.tt.get asserted with
    | some ti => (match ti.k with
      | .iface => none
      | _ => bif Nat.beq u asserted then some (bif ok then .tuple ⟨[v, .bool true]⟩ else v) else bif ok && cst 8 ti.z then some (.tuple ⟨[ti.z, .bool false]⟩) else none)
    | none => none
  | .nilIface => match C.tt.get asserted with
    | some ti => (match ti.k with
      | .iface => none
      | _ => bif ok && cst 8 ti.z then some (.tuple ⟨[ti.z, .bool false]⟩) else none)
    | none => none
  | _ => none
theorem gv_tas {C : Ct} {ρ : Env} {N : Nat} {fm : Fm} {a : Act} {dst : Option Tmp} {ty : TypeId} {p : String} {af : Array Edge} {g : Option (Nat × Bool)} {xt asserted : TypeId} {ok : Bool} {x : Operand} {v r : Value} (h : Fr ρ N fm a) (hx : evE fm.t x = some v)
    (hb : tasE C asserted ok v = some r) : Gv C ρ a ⟨dst, .typeAssert x xt asserted ok, ty, p, af, g⟩ r := by
  obtain ⟨v', hv, he⟩ := evE_spec h hx
  unfold tasE at hb
  split at hb
  · rename_i u v0
    simp only [conc, Option.map_eq_some_iff] at hv
    obtain ⟨v1, hv1, rfl⟩ := hv
    cases ht : C.tt.get asserted with
    | none => rw [ht] at hb; cases hb
    | some ti =>
      rw [ht] at hb
      have hti := C.okT _ _ ht
      have hz := fun w => Wk.run_zeroValue hti w
      obtain ⟨d, i, hd, _, hk, _⟩ := tiOf_spec hti
      obtain ⟨kk, z, sz, by'⟩ := ti
      simp only at hk hb
      have hne : kk ≠ .iface := by rintro rfl; simp at hb
      have hb' : (bif Nat.beq u asserted then some (bif ok then Value.tuple ⟨[v0, .bool true]⟩ else v0) else bif ok && cst 8 z then some (.tuple ⟨[z, .bool false]⟩) else none) = some r := by
        cases kk <;> first | exact hb | exact absurd rfl hne
      have hi : ∀ ms, d ≠ .interface ms := by rintro ms rfl; simp [tkOf] at hk; exact hne hk.symm
      cases hq : Nat.beq u asserted with
      | true =>
        rw [hq] at hb'
        obtain rfl := Nat.eq_of_beq_eq_true hq
        cases ok with
        | true =>
          cases hb'
          refine ⟨.tuple ⟨[v1, .bool true]⟩, by simp [conc, concA, concs, hv1], fun w => ?_⟩
          simp only [execOp, he]
          cases d <;> first | exact absurd rfl (hi _) | simp [Instr.typeAssert, run_underlying hd]
        | false =>
          cases hb'
          refine ⟨v1, hv1, fun w => ?_⟩
          simp only [execOp, he]
          cases d <;> first | exact absurd rfl (hi _) | simp [Instr.typeAssert, run_underlying hd]
      | false =>
        rw [hq] at hb'
        have hna := Nat.ne_of_beq_eq_false hq
        cases hc : (ok && cst 8 z) with
        | false => rw [hc] at hb'; cases hb'
        | true =>
          rw [hc] at hb'; cases hb'
          simp only [Bool.and_eq_true] at hc
          obtain ⟨rfl, hcz⟩ := hc
          refine ⟨.tuple ⟨[z, .bool false]⟩, by simp [conc, concA, concs, cst_conc hcz], fun w => ?_⟩
          simp only [execOp, he]
          have hz' := hz w
          cases d <;> first | exact absurd rfl (hi _) | simp [Instr.typeAssert, run_underlying hd, hna, hz']
  · simp only [conc, Option.some.injEq] at hv; subst hv
    cases ht : C.tt.get asserted with
    | none => rw [ht] at hb; cases hb
    | some ti =>
      rw [ht] at hb
      have hti := C.okT _ _ ht
      have hz := fun w => Wk.run_zeroValue hti w
      obtain ⟨d, i, hd, _, hk, _⟩ := tiOf_spec hti
      obtain ⟨kk, z, sz, by'⟩ := ti
      simp only at hk hb
      have hne : kk ≠ .iface := by rintro rfl; simp at hb
      have hb' : (bif ok && cst 8 z then some (Value.tuple ⟨[z, .bool false]⟩) else none) = some r := by
        cases kk <;> first | exact hb | exact absurd rfl hne
      have hi : ∀ ms, d ≠ .interface ms := by rintro ms rfl; simp [tkOf] at hk; exact hne hk.symm
      cases hc : (ok && cst 8 z) with
      | false => rw [hc] at hb'; cases hb'
      | true =>
        rw [hc] at hb'; cases hb'
        simp only [Bool.and_eq_true] at hc
        obtain ⟨rfl, hcz⟩ := hc
        refine ⟨.tuple ⟨[z, .bool false]⟩, by simp [conc, concA, concs, cst_conc hcz], fun w => ?_⟩
        simp only [execOp, he]
        have hz' := hz w
        cases d <;> first | exact absurd rfl (hi _) | simp [Instr.typeAssert, run_underlying hd, hz']
  · cases hb

/-! ### Structs and arrays put together -/
theorem conc_cells {ρ : Env} {v u : Value} (h : conc ρ v = some u) : concs ρ v.cells.toList = some u.cells.toList ∧ u.cells.size = v.cells.size := by
  have key : concs ρ v.cells.toList = some u.cells.toList := by
    cases v with
    | agg l => simp only [conc, Option.map_eq_some_iff] at h; obtain ⟨us, h1, rfl⟩ := h; exact concA_iff.1 h1
    | pointer x => cases x with
      | none => simp only [conc, Option.some.injEq] at h; subst h; exact concs_one (by simp [conc])
      | some x => have h' := h; simp only [conc, Option.map_eq_some_iff] at h; obtain ⟨us, h1, rfl⟩ := h; exact concs_one h'
    | slice x n c => cases x with
      | none => simp only [conc, Option.some.injEq] at h; subst h; exact concs_one (by simp [conc])
      | some x => have h' := h; obtain ⟨_, _, _, _, _, rfl⟩ := conc_slice.1 h; exact concs_one h'
    | map x => cases x with
      | none => simp only [conc, Option.some.injEq] at h; subst h; exact concs_one (by simp [conc])
      | some x => have h' := h; simp only [conc, Option.map_eq_some_iff] at h; obtain ⟨us, h1, rfl⟩ := h; exact concs_one h'
    | chan x => cases x with
      | none => simp only [conc, Option.some.injEq] at h; subst h; exact concs_one (by simp [conc])
      | some x => simp [conc] at h
    | func f l m =>
      have h' := h
      simp only [conc] at h
      split at h
      · cases h; exact concs_one h'
      · cases h
    | iface t x => have h' := h; simp only [conc, Option.map_eq_some_iff] at h; obtain ⟨us, h1, rfl⟩ := h; exact concs_one h'
    | tuple l => have h' := h; simp only [conc, Option.map_eq_some_iff] at h; obtain ⟨us, h1, rfl⟩ := h; exact concs_one h'
    | _ => simp only [conc, Option.some.injEq] at h; subst h; exact concs_one (by simp [conc])
  refine ⟨key, ?_⟩
  have := concs_len key
  simpa using this
theorem concs_put {ρ : Env} : ∀ {vs us l l' : List Value} (o : Nat), concs ρ vs = some us → concs ρ l = some l' → concs ρ (putC l o vs) = some (putC l' o us)
  | [], us, l, l', o, h, h' => by rw [concs_nil] at h; cases h; exact h'
  | v :: r, us, l, l', o, h, h' => by
    obtain ⟨u, t, h1, h2, rfl⟩ := concs_cons.1 h
    simp only [putC]
    exact concs_put (o + 1) h2 (concs_set h1 o h')
theorem concs_fill {ρ : Env} {ps : List (Nat × Nat)} : ∀ {is : List Nat} {vs us l l' cs : List Value}, concs ρ vs = some us → concs ρ l = some l' → fillC ps l (is.zip vs) = some cs → ∃ cs', concs ρ cs = some cs' ∧ fillC ps l' (is.zip us) = some cs'
  | [], vs, us, l, l', cs, h, h', hf => by simp [fillC] at hf; subst hf; exact ⟨l', h', by simp [fillC]⟩
  | i :: is, [], us, l, l', cs, h, h', hf => by rw [concs_nil] at h; cases h; simp [fillC] at hf; subst hf; exact ⟨l', h', by simp [fillC]⟩
  | i :: is, v :: r, us, l, l', cs, h, h', hf => by
    obtain ⟨u, t, h1, h2, rfl⟩ := concs_cons.1 h
    simp only [List.zip_cons_cons, fillC] at hf ⊢
    cases hp : ps[i]? with
    | none => rw [hp] at hf; cases hf
    | some q =>
      obtain ⟨off, sz⟩ := q
      rw [hp] at hf
      simp only at hf ⊢
      obtain ⟨hc1, hc2⟩ := conc_cells h1
      rw [hc2, concs_len h']
      cases hb : (Nat.beq v.cells.size sz && Nat.ble (off + sz) l.length) with
      | false => rw [hb] at hf; cases hf
      | true =>
        rw [hb] at hf
        simp only [cond_true] at hf ⊢
        exact concs_fill h2 (concs_put off hc1 h') hf
def plcE (C : Ct) : List (Nat × TypeId) → Option (List (Nat × Nat))
  | [] => some []
  | (off, ft) :: r => match C.tt.get ft, plcE C r with
    | some tf, some ps => some ((off, tf.sz) :: ps)
    | _, _ => none
theorem plcE_spec {C : Ct} : ∀ {fs : List (Nat × TypeId)} {ps : List (Nat × Nat)}, plcE C fs = some ps → plc C.s.tab fs = some ps
  | [], ps, h => h
  | (off, ft) :: r, ps, h => by
    simp only [plcE] at h
    split at h
    · rename_i tf ps' h1 h2
      cases h
      simp only [plc, C.okL _ _ h1, plcE_spec h2]
    · cases h
def bldE (C : Ct) (t : Tr Value) (ty : TypeId) (parts : Array (Nat × Operand)) : Option Value := match C.tt.get ty with
  | some ti => (match ti.k with
    | .struct fs => (match plcE C fs, evEs t (parts.toList.map (·.2)) with
      | some ps, some vs => bif cst 8 ti.z then (match fillC ps ti.z.cells.toList ((parts.toList.map (·.1)).zip vs) with
        | some cs => some (.agg ⟨cs⟩)
        | none => none) else none
      | _, _ => none)
    | _ => none)
  | none => none
theorem gv_bld {C : Ct} {ρ : Env} {N : Nat} {fm : Fm} {a : Act} {dst : Option Tmp} {ty : TypeId} {p : String} {af : Array Edge} {g : Option (Nat × Bool)} {t : TypeId} {parts : Array (Nat × Operand)} {r : Value} (h : Fr ρ N fm a)
    (hb : bldE C fm.t t parts = some r) : Gv C ρ a ⟨dst, .build t parts, ty, p, af, g⟩ r := by
  unfold bldE at hb
  cases ht : C.tt.get t with
  | none => rw [ht] at hb; cases hb
  | some ti =>
    rw [ht] at hb
    obtain ⟨kk, z, sz, by'⟩ := ti
    cases kk with
    | struct fs =>
      simp only at hb
      split at hb
      · rename_i ps vs h1 h2
        cases hc : cst 8 z with
        | false => rw [hc] at hb; cases hb
        | true =>
          rw [hc] at hb
          simp only [cond_true] at hb
          split at hb
          · rename_i cs hf
            cases hb
            have e1 := evEs_spec h h2
            have e2 := (conc_cells (ρ := ρ) (cst_conc hc)).1
            obtain ⟨cs', hcs, hf'⟩ := concs_fill e1 e2 hf
            refine Gv.of (d := 0) (u := .agg ⟨cs'⟩) (xs := parts.toList.map (·.2)) (conc_agg hcs) ?_
            exact p_build (X := C.X) (C.okL _ _ ht) (plcE_spec h1) (evs_map' (fun x hx => hx)) hf'
          · cases hb
      · cases hb
    | _ => cases hb

/-! ### cap, the data of a slice -/
def capE (C : Ct) (t : TypeId) : Value → Option Value
  | .slice _ _ c => match C.tt.get t with
    | some ti => (match ti.k with | .slice _ => bif Nat.ble CC c then none else some (.int .i64 c) | _ => none)
    | none => none
  | _ => none
theorem gv_cap {C : Ct} {ρ : Env} {N : Nat} {fm : Fm} {a : Act} {dst : Option Tmp} {ty : TypeId} {p : String} {af : Array Edge} {g : Option (Nat × Bool)} {t : TypeId} {x : Operand} {v r : Value} (h : Fr ρ N fm a) (hx : evE fm.t x = some v) (hb : capE C t v = some r) :
    Gv C ρ a ⟨dst, .call ⟨.builtin .cap, #[x], #[t]⟩, ty, p, af, g⟩ r := by
  obtain ⟨v', hv, he⟩ := evE_spec h hx
  unfold capE at hb
  split at hb
  · rename_i ad n c
    cases ht : C.tt.get t with
    | none => rw [ht] at hb; cases hb
    | some ti =>
      rw [ht] at hb
      have hti := C.okT _ _ ht
      obtain ⟨kk, z, sz, by'⟩ := ti
      cases kk with
      | slice e =>
        simp only at hb
        cases hcc : Nat.ble CC c with
        | true => rw [hcc] at hb; cases hb
        | false =>
          rw [hcc] at hb; cases hb
          have hu := tk_slice hti
          have : ∃ A, v' = .slice A n c := by
            cases ad with
            | none => simp [conc] at hv; exact ⟨_, hv.symm⟩
            | some ad =>
              obtain ⟨a', c', _, h2, _, rfl⟩ := conc_slice.1 hv
              simp [ccap, hcc] at h2; subst h2; exact ⟨_, rfl⟩
          obtain ⟨A, rfl⟩ := this
          refine ⟨_, by first | exact conc_int _ _ _ | exact conc_str _ _ | exact conc_bool _ _ | exact conc_sn _ _ _ | exact conc_pn _, fun w => ?_⟩
          simp only [execOp]
          simp [resolve, invoke, builtin, Builtin.cap_, he, run_underlying hu, goInt]
      | _ => cases hb
  · cases hb
def sdtE : Value → Option Value
  | .slice none _ _ => some (.pointer none)
  | .slice (some ad) n c => bif Nat.blt 0 n then some (.pointer (some ad)) else none
  | _ => none
theorem gv_sdt {C : Ct} {ρ : Env} {N : Nat} {fm : Fm} {a : Act} {dst : Option Tmp} {ty : TypeId} {p : String} {af : Array Edge} {g : Option (Nat × Bool)} {ts : Array TypeId} {x : Operand} {v r : Value} (h : Fr ρ N fm a) (hx : evE fm.t x = some v) (hb : sdtE v = some r) :
    Gv C ρ a ⟨dst, .call ⟨.builtin .unsafeSliceData, #[x], ts⟩, ty, p, af, g⟩ r := by
  obtain ⟨v', hv, he⟩ := evE_spec h hx
  unfold sdtE at hb
  split at hb
  · cases hb
    simp only [conc, Option.some.injEq] at hv; subst hv
    refine ⟨_, by first | exact conc_int _ _ _ | exact conc_str _ _ | exact conc_bool _ _ | exact conc_sn _ _ _ | exact conc_pn _, fun w => ?_⟩
    simp only [execOp]
    rename_i n c
    have e : Builtin.unsafeSliceData_ ts ty #[.slice none n c] = pure (.pointer none) := rfl
    simp [resolve, invoke, builtin, e, he]
  · rename_i ad n c
    cases hn : Nat.blt 0 n with
    | false => rw [hn] at hb; cases hb
    | true =>
      rw [hn] at hb; cases hb
      have hn' : 0 < n := Nat.lt_of_lt_of_le (Nat.lt_succ_self _) (Nat.le_of_ble_eq_true hn)
      obtain ⟨a', c', h1, h2, h3, rfl⟩ := conc_slice.1 hv
      refine ⟨.pointer (some a'), by simp [conc, h1], fun w => ?_⟩
      have : ¬ c' = 0 := by omega
      simp only [execOp]
      have e : Builtin.unsafeSliceData_ ts ty #[.slice (some a') n c'] = (if c' ≠ 0 then pure (.pointer (some a')) else do
        if (← viewAt a'.block).isSome then pure (.pointer (some a'))
        else pure (.pointer (some ⟨← newObj (.view a' (← elemOf ty)), 0, none⟩))) := rfl
      rw [if_pos this] at e
      simp [resolve, invoke, builtin, e, he]
  · cases hb

/-! ### All of them -/
def orE (x y : Option Value) : Option Value := match x with
  | some v => some v
  | none => y
theorem orE_some {x y : Option Value} {v : Value} (h : orE x y = some v) : x = some v ∨ y = some v := by
  cases x with
  | none => exact .inr h
  | some u => exact .inl h
def fstE (C : Ct) (t : Tr Value) : Op → Option Value
  | .move x => evE t x
  | .assign x => evE t x
  | .nilCheck x => (evE t x).bind nilE
  | .pick c x y => (evE t c).bind (pickE t x y)
  | .binOp op ty x y _ => (evE t x).bind fun v => (evE t y).bind fun w => binE C op ty x y v w
  | .unOp .not _ x => (evE t x).bind notE
  | .extract x i => (evE t x).bind fun v => extE v i
  | .convert s d x => (evE t x).bind (convE C s d)
  | .makeInterface ty x => (evE t x).bind (mkifE C ty)
  | .makeFunc fn xs ys => mkfnE t fn xs ys
  | .fieldAddr st x i => (evE t x).bind (fldE C st i)
  | .field st x i => (evE t x).bind (fieldE C st i)
  | .indexAddr ty x y => (evE t x).bind fun v => (evE t y).bind (ixaE C ty v)
  | .index ty x y => (evE t x).bind fun v => (evE t y).bind (indE C ty v)
  | .slice ty x lo hi none => (evE t x).bind fun v => (evO t lo).bind fun l => (evO t hi).bind fun h => slE C ty l h v
  | .typeAssert x _ asserted ok => (evE t x).bind (tasE C asserted ok)
  | .build ty parts => bldE C t ty parts
  | .call ⟨.builtin .len, ⟨[x]⟩, ⟨[ty]⟩⟩ => (evE t x).bind (lenE C ty)
  | .call ⟨.builtin .cap, ⟨[x]⟩, ⟨[ty]⟩⟩ => (evE t x).bind (capE C ty)
  | .call ⟨.builtin .unsafeSliceData, ⟨[x]⟩, _⟩ => (evE t x).bind sdtE
  | _ => none
/-- What o gives, where it asks for no memory. -/
def pvE (C : Ct) (t : Tr Value) (o : Oper) : Option Value := orE (fstE C t o.op) (fbE C t o)
theorem fstE_spec {C : Ct} {ρ : Env} {N : Nat} {fm : Fm} {a : Act} {dst : Option Tmp} {op : Op} {ty : TypeId} {p : String} {af : Array Edge} {g : Option (Nat × Bool)} {v : Value} (h : Fr ρ N fm a) (hv : fstE C fm.t op = some v) : Gv C ρ a ⟨dst, op, ty, p, af, g⟩ v := by
  unfold fstE at hv
  split at hv
  · exact gv_move h hv
  · exact gv_assign h hv
  · obtain ⟨u, h1, h2⟩ := Option.bind_eq_some_iff.1 hv; exact gv_nil h h1 h2
  · obtain ⟨u, h1, h2⟩ := Option.bind_eq_some_iff.1 hv; exact gv_pick h h1 h2
  · obtain ⟨u, h1, h2⟩ := Option.bind_eq_some_iff.1 hv
    obtain ⟨u', h3, h4⟩ := Option.bind_eq_some_iff.1 h2; exact gv_bin h h1 h3 h4
  · obtain ⟨u, h1, h2⟩ := Option.bind_eq_some_iff.1 hv; exact gv_not h h1 h2
  · obtain ⟨u, h1, h2⟩ := Option.bind_eq_some_iff.1 hv; exact gv_ext h h1 h2
  · obtain ⟨u, h1, h2⟩ := Option.bind_eq_some_iff.1 hv; exact gv_conv h h1 h2
  · obtain ⟨u, h1, h2⟩ := Option.bind_eq_some_iff.1 hv; exact gv_mkif h h1 h2
  · exact gv_mkfn h hv
  · obtain ⟨u, h1, h2⟩ := Option.bind_eq_some_iff.1 hv; exact gv_fld h h1 h2
  · obtain ⟨u, h1, h2⟩ := Option.bind_eq_some_iff.1 hv; exact gv_field h h1 h2
  · obtain ⟨u, h1, h2⟩ := Option.bind_eq_some_iff.1 hv
    obtain ⟨u', h3, h4⟩ := Option.bind_eq_some_iff.1 h2; exact gv_ixa h h1 h3 h4
  · obtain ⟨u, h1, h2⟩ := Option.bind_eq_some_iff.1 hv
    obtain ⟨u', h3, h4⟩ := Option.bind_eq_some_iff.1 h2; exact gv_ind h h1 h3 h4
  · obtain ⟨u, h1, h2⟩ := Option.bind_eq_some_iff.1 hv
    obtain ⟨l, h3, h4⟩ := Option.bind_eq_some_iff.1 h2
    obtain ⟨m, h5, h6⟩ := Option.bind_eq_some_iff.1 h4; exact gv_slice h h1 h3 h5 h6
  · obtain ⟨u, h1, h2⟩ := Option.bind_eq_some_iff.1 hv; exact gv_tas h h1 h2
  · exact gv_bld h hv
  · obtain ⟨u, h1, h2⟩ := Option.bind_eq_some_iff.1 hv; exact gv_len h h1 h2
  · obtain ⟨u, h1, h2⟩ := Option.bind_eq_some_iff.1 hv; exact gv_cap h h1 h2
  · obtain ⟨u, h1, h2⟩ := Option.bind_eq_some_iff.1 hv; exact gv_sdt h h1 h2
  · cases hv
theorem pvE_spec {C : Ct} {ρ : Env} {N : Nat} {fm : Fm} {a : Act} {o : Oper} {v : Value} (h : Fr ρ N fm a) (hv : pvE C fm.t o = some v) : Gv C ρ a o v := by
  rcases orE_some hv with h1 | h1
  · obtain ⟨dst, op, ty, p, af, g⟩ := o; exact fstE_spec h h1
  · exact fbE_spec h h1
end Go.Ev
