/-
  Operations whose value needs no memory.
-/
import Derived.Test.YthiehhglnaiohaaGreatDoorE2
import Derived.Laws.StructEq
import Derived.Laws.Strings
import Derived.Orders
namespace Go.Ev
open Go.Wk
set_option linter.unusedVariables false
set_option linter.unusedSimpArgs false

/-- The model's own text, run where it asks for no memory. -/
def pval {α : Type} (P : Program) : Sem α → Option α
  | .pure a => some a
  | .program k => pval P (k P)
  | .mark _ k => pval P k
  | _ => none
theorem pval_run {α : Type} {P : Program} : ∀ {s : Sem α} {x : α}, pval P s = some x → ∀ w, s.run P w = .ok x w
  | .pure a, x, h, w => by simp only [pval] at h; cases h; rfl
  | .program k, x, h, w => by simp only [pval] at h; simp only [Sem.run]; exact pval_run h w
  | .mark m k, x, h, w => by simp only [pval] at h; simp only [Sem.run]; exact pval_run h w

def opnds (t : Tr Value) (x : Operand) : Value := (evE t x).getD undef
def closed (t : Tr Value) (x : Operand) : Bool := match evE t x with
  | some v => cst 8 v
  | none => false
def fbE (C : Ct) (t : Tr Value) (o : Oper) : Option Value := match o.op with
  | .select .. => none
  | .alloc _ | .load .. | .store .. => none
  | op => bif op.operands.toList.all (closed t) then (match pval C.P (execOp (opnds t) o) with
    | some (.value v) => bif cst 8 v then some v else none
    | _ => none) else none

/-- The operation gives what v stands for, whatever memory holds. -/
def Gv (C : Ct) (ρ : Env) (a : Act) (o : Oper) (v : Value) : Prop := ∃ u, conc ρ v = some u ∧ ∀ w, (execOp a.eval o).run C.P w = .ok (.value u) w

theorem fbE_spec {C : Ct} {ρ : Env} {N : Nat} {fm : Fm} {a : Act} (h : Fr ρ N fm a) {o : Oper} {v : Value} (hv : fbE C fm.t o = some v) : Gv C ρ a o v := by
  have key : ∀ (hs : ∀ cs b, o.op ≠ .select cs b), o.op.operands.toList.all (closed fm.t) = true → (match pval C.P (execOp (opnds fm.t) o) with
    | some (.value v) => bif cst 8 v then some v else none
    | _ => none) = some v → Gv C ρ a o v := by
    intro hs hc hm
    have he : execOp a.eval o = execOp (opnds fm.t) o := execOp_congr o hs (fun x hx => by
      have h1 := List.all_eq_true.1 hc x (by simpa using hx)
      unfold closed at h1
      split at h1
      · rename_i c hc'
        obtain ⟨u, hu, hxu⟩ := evE_spec h hc'
        rw [cst_conc h1] at hu
        cases hu
        simp [opnds, hc', hxu]
      · cases h1)
    split at hm
    · rename_i v' hp
      cases hcv : cst 8 v' with
      | false => rw [hcv] at hm; cases hm
      | true =>
        rw [hcv] at hm; cases hm
        exact ⟨v, cst_conc hcv, fun w => by rw [he]; exact pval_run hp w⟩
    · cases hm
  unfold fbE at hv
  split at hv
  · cases hv
  · cases hv
  · cases hv
  · cases hv
  · rename_i op ho1 ho2 ho3 ho4
    cases hc : o.op.operands.toList.all (closed fm.t) with
    | false => rw [hc] at hv; cases hv
    | true => rw [hc] at hv; exact key (fun cs b he => ho1 cs b he) hc hv

/-! ### Bytes -/
theorem bytes_eq {a : ByteArray} {l : List UInt8} (h : a.data.toList = l) : a = ⟨⟨l⟩⟩ := by
  obtain ⟨⟨x⟩⟩ := a; simp at h; subst h; rfl
def eqB : List UInt8 → List UInt8 → Bool
  | [], [] => true
  | a :: r, b :: t => bif Nat.beq a.toNat b.toNat then eqB r t else false
  | _, _ => false
theorem eqB_spec : ∀ (a b : List UInt8), eqB a b = (a == b)
  | [], [] => rfl
  | [], b :: t => rfl
  | a :: r, [] => rfl
  | a :: r, b :: t => by
    simp only [eqB]
    by_cases h : a = b
    · subst h
      rw [show Nat.beq a.toNat a.toNat = true from Nat.beq_refl _]
      simp [eqB_spec r t]
    · have : Nat.beq a.toNat b.toNat = false := by
        cases hk : Nat.beq a.toNat b.toNat with
        | false => rfl
        | true => exact absurd (UInt8.toNat_inj.1 (Nat.eq_of_beq_eq_true hk)) h
      rw [this]
      simp [h]

def strE (op : BinOp) (a b : ByteArray) : Option Value := match op with
  | .add => bif Nat.blt (a.data.toList.length + b.data.toList.length) 1073741824 then some (.string ⟨⟨a.data.toList ++ b.data.toList⟩⟩) else none
  | .eql => some (.bool (eqB a.data.toList b.data.toList))
  | .neq => some (.bool (!(eqB a.data.toList b.data.toList)))
  | .lss => some (.bool (Op.bytesLess a.data.toList b.data.toList))
  | _ => none
theorem strE_run {P : Program} {op : BinOp} {a b : ByteArray} {v : Value} (h : strE op a b = some v) (t : TypeId) (x y : Operand) (w : World) :
    (do eqGuard op t x y (.string a) (.string b); binOp op t (.string a) (.string b) : Sem Value).run P w = .ok v w := by
  cases op <;> simp only [strE, Option.some.injEq, reduceCtorEq] at h
  · cases hb : Nat.blt (a.data.toList.length + b.data.toList.length) 1073741824 with
    | false => rw [hb] at h; cases h
    | true =>
      rw [hb] at h; cases h
      have h1 : a.data.toList.length + b.data.toList.length < 1073741824 := Nat.lt_of_lt_of_le (Nat.lt_succ_self _) (Nat.le_of_ble_eq_true hb)
      have h2 : a.size + b.size < 1073741824 := h1
      have e : a ++ b = ⟨⟨a.data.toList ++ b.data.toList⟩⟩ := bytes_eq (by simp)
      have h3 : ¬ ((a.size + b.size : Nat) : Int) > IntKind.i64.max := by
        have : IntKind.i64.max = 9223372036854775807 := by decide
        rw [this]; omega
      rw [← e]
      simp only [eqGuard, binOp, Op.stringOp]
      rw [if_neg h3]; rfl
  all_goals subst h; simp [eqGuard, binOp, Op.stringOp, ByteArray.toList_eq, eqB_spec]

/-! ### Whole numbers, '/' and shifts -/
def numE (op : BinOp) (k : IntKind) (a : Int) (k' : IntKind) (b : Int) : Option Value := match op with
  | .shl => bif decide (b < 0) then none else some (.int k (k.wrap (a * 2 ^ (min b.toNat k.bits))))
  | .shr => bif decide (b < 0) then none else some (.int k (a.fdiv (2 ^ (min b.toNat k.bits))))
  | .quo => bif decide (k = k') then (bif decide (b = 0) then none else some (.int k (k.wrap (a.tdiv b)))) else none
  | .rem => bif decide (k = k') then (bif decide (b = 0) then none else some (.int k (a.tmod b))) else none
  | op => bif decide (k = k') then ibin op k a b else none
theorem numE_run {P : Program} {op : BinOp} {k k' : IntKind} {a b : Int} {v : Value} (h : numE op k a k' b = some v) (t : TypeId) (x y : Operand) (w : World) :
    (do eqGuard op t x y (.int k a) (.int k' b); binOp op t (.int k a) (.int k' b) : Sem Value).run P w = .ok v w := by
  unfold numE at h
  split at h
  · cases hb : decide (b < 0) with
    | true => rw [hb] at h; cases h
    | false => rw [hb] at h; cases h; simp at hb; simp [eqGuard, binOp, Op.shift, Int.not_lt.2 hb]
  · cases hb : decide (b < 0) with
    | true => rw [hb] at h; cases h
    | false => rw [hb] at h; cases h; simp at hb; simp [eqGuard, binOp, Op.shift, Int.not_lt.2 hb]
  · cases hk : decide (k = k') with
    | false => rw [hk] at h; cases h
    | true =>
      rw [hk] at h
      simp only [decide_eq_true_eq] at hk
      subst hk
      cases hb : decide (b = 0) with
      | true => rw [hb] at h; cases h
      | false => rw [hb] at h; cases h; simp at hb; simp [eqGuard, binOp, Op.intDiv, hb]
  · cases hk : decide (k = k') with
    | false => rw [hk] at h; cases h
    | true =>
      rw [hk] at h
      simp only [decide_eq_true_eq] at hk
      subst hk
      cases hb : decide (b = 0) with
      | true => rw [hb] at h; cases h
      | false => rw [hb] at h; cases h; simp at hb; simp [eqGuard, binOp, Op.intDiv, hb]
  · cases hk : decide (k = k') with
    | false => rw [hk] at h; cases h
    | true =>
      rw [hk] at h
      simp only [decide_eq_true_eq] at hk
      subst hk
      exact run_bin_int h t x y w

/-! ### Comparison with nil -/
def isNil : Value → Option Bool
  | .pointer a => some a.isNone
  | .slice a _ _ => some a.isNone
  | .map a => some a.isNone
  | .nilFunc => some true
  | .func _ _ _ => some false
  | _ => none
def nilOf : Value → Bool
  | .pointer none => true
  | .slice none _ _ => true
  | .map none => true
  | .nilFunc => true
  | _ => false
/-- Both of one kind, of which type k is; one of them nil. -/
def kin : Tk → Value → Value → Bool
  | .pointer _, .pointer _, .pointer _ => true
  | .slice _, .slice _ _ _, .slice _ _ _ => true
  | .map _ _, .map _, .map _ => true
  | .func, .nilFunc, .nilFunc => true
  | .func, .func _ _ _, .nilFunc => true
  | .func, .nilFunc, .func _ _ _ => true
  | _, _, _ => false
def isC : Operand → Bool
  | .const _ => true
  | _ => false
def ifE (x y : Operand) : Value → Value → Option Bool
  | .nilIface, .nilIface => bif isC x || isC y then some true else none
  | .nilIface, .iface _ _ => some false
  | .iface _ _, .nilIface => some false
  | .iface t v, .iface u w => bif decide (t = u) then none else some false
  | _, _ => none
def eqNil (C : Ct) (t : TypeId) (x y : Operand) (v w : Value) : Option Bool := match C.tt.get t with
  | none => none
  | some ti => match ti.k with
    | .iface => ifE x y v w
    | .bool => (match v, w with | .bool a, .bool b => some (a == b) | _, _ => none)
    | k => bif kin k v w then (bif nilOf w then isNil v else bif nilOf v then isNil w else none) else none

theorem tk_pointer {P : Program} {t e : TypeId} {z : Value} {s b : Nat} (h : tiOf P t = some ⟨.pointer e, z, s, b⟩) : P.underlying t = some (.pointer e) := by
  obtain ⟨d, i, hd, _, hk, _⟩ := tiOf_spec h
  cases d <;> simp [tkOf] at hk
  subst hk; exact hd
theorem tk_func {P : Program} {t : TypeId} {z : Value} {s b : Nat} (h : tiOf P t = some ⟨.func, z, s, b⟩) : ∃ x y v, P.underlying t = some (.func x y v) := by
  obtain ⟨d, i, hd, _, hk, _⟩ := tiOf_spec h
  cases d <;> simp [tkOf] at hk
  exact ⟨_, _, _, hd⟩
theorem tk_iface {P : Program} {t : TypeId} {z : Value} {s b : Nat} (h : tiOf P t = some ⟨.iface, z, s, b⟩) : ∃ ms, P.underlying t = some (.interface ms) := by
  obtain ⟨d, i, hd, _, hk, _⟩ := tiOf_spec h
  cases d <;> simp [tkOf] at hk
  exact ⟨_, hd⟩

/-- What is compared, as it stands in the world. -/
theorem conc_nilOf {ρ : Env} {v u : Value} (h : conc ρ v = some u) : nilOf u = nilOf v ∧ isNil u = isNil v := by
  cases v with
  | pointer a => cases a with
    | none => simp [conc] at h; subst h; exact ⟨rfl, rfl⟩
    | some a => simp only [conc, Option.map_eq_some_iff] at h; obtain ⟨b, _, rfl⟩ := h; exact ⟨rfl, rfl⟩
  | slice a n c => cases a with
    | none => simp [conc] at h; subst h; exact ⟨rfl, rfl⟩
    | some a => obtain ⟨_, _, _, _, _, rfl⟩ := conc_slice.1 h; exact ⟨rfl, rfl⟩
  | map a => cases a with
    | none => simp [conc] at h; subst h; exact ⟨rfl, rfl⟩
    | some a => simp only [conc, Option.map_eq_some_iff] at h; obtain ⟨b, _, rfl⟩ := h; exact ⟨rfl, rfl⟩
  | chan a => cases a with
    | none => simp [conc] at h; subst h; exact ⟨rfl, rfl⟩
    | some a => simp [conc] at h
  | func f l m =>
    simp only [conc] at h
    split at h
    · cases h; exact ⟨rfl, rfl⟩
    · cases h
  | iface t x => simp only [conc, Option.map_eq_some_iff] at h; obtain ⟨b, _, rfl⟩ := h; exact ⟨rfl, rfl⟩
  | agg l => simp only [conc, Option.map_eq_some_iff] at h; obtain ⟨b, _, rfl⟩ := h; exact ⟨rfl, rfl⟩
  | tuple l => simp only [conc, Option.map_eq_some_iff] at h; obtain ⟨b, _, rfl⟩ := h; exact ⟨rfl, rfl⟩
  | _ => simp [conc] at h; subst h; exact ⟨rfl, rfl⟩
theorem conc_kin {ρ : Env} {k : Tk} {v u v' u' : Value} (h : conc ρ v = some u) (h' : conc ρ v' = some u') : kin k u u' = kin k v v' := by
  have key : ∀ {v u : Value}, conc ρ v = some u → (∃ a b, v = .pointer a ∧ u = .pointer b) ∨ (∃ a n c a' c', v = .slice a n c ∧ u = .slice a' n c') ∨ (∃ a b, v = .map a ∧ u = .map b) ∨ (v = .nilFunc ∧ u = .nilFunc) ∨ (∃ f l m f' l' m', v = .func f l m ∧ u = .func f' l' m') ∨
      ((∀ k x, kin k v x = false ∧ kin k x v = false) ∧ ∀ k x, kin k u x = false ∧ kin k x u = false) := by
    intro v u h
    cases v with
    | pointer a => cases a with
      | none => simp [conc] at h; subst h; exact .inl ⟨_, _, rfl, rfl⟩
      | some a => simp only [conc, Option.map_eq_some_iff] at h; obtain ⟨b, _, rfl⟩ := h; exact .inl ⟨_, _, rfl, rfl⟩
    | slice a n c => cases a with
      | none => simp [conc] at h; subst h; exact .inr (.inl ⟨_, _, _, _, _, rfl, rfl⟩)
      | some a => obtain ⟨_, _, _, _, _, rfl⟩ := conc_slice.1 h; exact .inr (.inl ⟨_, _, _, _, _, rfl, rfl⟩)
    | map a => cases a with
      | none => simp [conc] at h; subst h; exact .inr (.inr (.inl ⟨_, _, rfl, rfl⟩))
      | some a => simp only [conc, Option.map_eq_some_iff] at h; obtain ⟨b, _, rfl⟩ := h; exact .inr (.inr (.inl ⟨_, _, rfl, rfl⟩))
    | nilFunc => simp [conc] at h; subst h; exact .inr (.inr (.inr (.inl ⟨rfl, rfl⟩)))
    | func f l m =>
      simp only [conc] at h
      split at h
      · cases h; exact .inr (.inr (.inr (.inr (.inl ⟨_, _, _, _, _, _, rfl, rfl⟩))))
      · cases h
    | chan a => cases a with
      | none => simp [conc] at h; subst h; exact .inr (.inr (.inr (.inr (.inr ⟨fun k x => by cases k <;> cases x <;> exact ⟨rfl, rfl⟩, fun k x => by cases k <;> cases x <;> exact ⟨rfl, rfl⟩⟩))))
      | some a => simp [conc] at h
    | iface t y => simp only [conc, Option.map_eq_some_iff] at h; obtain ⟨b, _, rfl⟩ := h; exact .inr (.inr (.inr (.inr (.inr ⟨fun k x => by cases k <;> cases x <;> exact ⟨rfl, rfl⟩, fun k x => by cases k <;> cases x <;> exact ⟨rfl, rfl⟩⟩))))
    | agg l => simp only [conc, Option.map_eq_some_iff] at h; obtain ⟨b, _, rfl⟩ := h; exact .inr (.inr (.inr (.inr (.inr ⟨fun k x => by cases k <;> cases x <;> exact ⟨rfl, rfl⟩, fun k x => by cases k <;> cases x <;> exact ⟨rfl, rfl⟩⟩))))
    | tuple l => simp only [conc, Option.map_eq_some_iff] at h; obtain ⟨b, _, rfl⟩ := h; exact .inr (.inr (.inr (.inr (.inr ⟨fun k x => by cases k <;> cases x <;> exact ⟨rfl, rfl⟩, fun k x => by cases k <;> cases x <;> exact ⟨rfl, rfl⟩⟩))))
    | _ => simp [conc] at h; subst h; exact .inr (.inr (.inr (.inr (.inr ⟨fun k x => by cases k <;> cases x <;> exact ⟨rfl, rfl⟩, fun k x => by cases k <;> cases x <;> exact ⟨rfl, rfl⟩⟩))))
  rcases key h with ⟨a, b, rfl, rfl⟩ | ⟨a, n, c, a', c', rfl, rfl⟩ | ⟨a, b, rfl, rfl⟩ | ⟨rfl, rfl⟩ | ⟨f, l, m, f', l', m', rfl, rfl⟩ | ⟨h1, h2⟩
  · rcases key h' with ⟨a, b, rfl, rfl⟩ | ⟨a, n, c, a', c', rfl, rfl⟩ | ⟨a, b, rfl, rfl⟩ | ⟨rfl, rfl⟩ | ⟨f, l, m, f', l', m', rfl, rfl⟩ | ⟨h1, h2⟩ <;> first | (cases k <;> rfl) | rw [(h1 k _).2, (h2 k _).2]
  · rcases key h' with ⟨a, b, rfl, rfl⟩ | ⟨a, n, c, a', c', rfl, rfl⟩ | ⟨a, b, rfl, rfl⟩ | ⟨rfl, rfl⟩ | ⟨f, l, m, f', l', m', rfl, rfl⟩ | ⟨h1, h2⟩ <;> first | (cases k <;> rfl) | rw [(h1 k _).2, (h2 k _).2]
  · rcases key h' with ⟨a, b, rfl, rfl⟩ | ⟨a, n, c, a', c', rfl, rfl⟩ | ⟨a, b, rfl, rfl⟩ | ⟨rfl, rfl⟩ | ⟨f, l, m, f', l', m', rfl, rfl⟩ | ⟨h1, h2⟩ <;> first | (cases k <;> rfl) | rw [(h1 k _).2, (h2 k _).2]
  · rcases key h' with ⟨a, b, rfl, rfl⟩ | ⟨a, n, c, a', c', rfl, rfl⟩ | ⟨a, b, rfl, rfl⟩ | ⟨rfl, rfl⟩ | ⟨f, l, m, f', l', m', rfl, rfl⟩ | ⟨h1, h2⟩ <;> first | (cases k <;> rfl) | rw [(h1 k _).2, (h2 k _).2]
  · rcases key h' with ⟨a, b, rfl, rfl⟩ | ⟨a, n, c, a', c', rfl, rfl⟩ | ⟨a, b, rfl, rfl⟩ | ⟨rfl, rfl⟩ | ⟨f, l, m, f', l', m', rfl, rfl⟩ | ⟨h1, h2⟩ <;> first | (cases k <;> rfl) | rw [(h1 k _).2, (h2 k _).2]
  · rw [(h1 k _).1, (h2 k _).1]

theorem eqNil_conc {C : Ct} {ρ : Env} {t : TypeId} {x y : Operand} {v w v' w' : Value} {b : Bool} (hv : conc ρ v = some v') (hw : conc ρ w = some w') (h : eqNil C t x y v w = some b) : eqNil C t x y v' w' = some b := by
  unfold eqNil at h ⊢
  cases ht : C.tt.get t with
  | none => rw [ht] at h; cases h
  | some ti =>
    rw [ht] at h
    obtain ⟨k, z, sz, by'⟩ := ti
    have rest : (bif kin k v w then (bif nilOf w then isNil v else bif nilOf v then isNil w else none) else none) = some b →
        (bif kin k v' w' then (bif nilOf w' then isNil v' else bif nilOf v' then isNil w' else none) else none) = some b := by
      rw [conc_kin hv hw, (conc_nilOf hv).1, (conc_nilOf hv).2, (conc_nilOf hw).1, (conc_nilOf hw).2]; exact id
    cases k with
    | iface =>
      simp only at h ⊢
      unfold ifE at h
      split at h
      · simp [conc] at hv hw; subst hv; subst hw; exact h
      · simp only [conc, Option.some.injEq, Option.map_eq_some_iff] at hv hw; obtain ⟨c, _, rfl⟩ := hw; subst hv; exact h
      · simp only [conc, Option.some.injEq, Option.map_eq_some_iff] at hv hw; obtain ⟨c, _, rfl⟩ := hv; subst hw; exact h
      · simp only [conc, Option.map_eq_some_iff] at hv hw; obtain ⟨c, _, rfl⟩ := hw; obtain ⟨c', _, rfl⟩ := hv; exact h
      · cases h
    | bool =>
      simp only at h ⊢
      split at h
      · simp [conc] at hv hw; subst hv; subst hw; exact h
      · cases h
    | _ => exact rest h

theorem guard_nn {P : Program} {op : BinOp} {t : TypeId} {x y : Operand} (hc : (isC x || isC y) = true) (W : World) : (eqGuard op t x y .nilIface .nilIface).run P W = .ok () W := by
  unfold eqGuard
  cases x <;> cases y <;> simp [isC] at hc <;> cases op <;> rfl

section
variable {P : Program} {t : TypeId} (d : Nat) (W : World)
theorem eqI_nn {ms : Array (String × TypeId)} (hu : P.underlying t = some (.interface ms)) : (Op.equalIn (d + 1) t .nilIface .nilIface).run P W = .ok true W := by simp [Op.equalIn, run_underlying hu]
theorem eqI_ni {ms : Array (String × TypeId)} (hu : P.underlying t = some (.interface ms)) (u : TypeId) (v : Value) : (Op.equalIn (d + 1) t .nilIface (.iface u v)).run P W = .ok false W := by simp [Op.equalIn, run_underlying hu]
theorem eqI_in {ms : Array (String × TypeId)} (hu : P.underlying t = some (.interface ms)) (u : TypeId) (v : Value) : (Op.equalIn (d + 1) t (.iface u v) .nilIface).run P W = .ok false W := by simp [Op.equalIn, run_underlying hu]
theorem eqI_ii {ms : Array (String × TypeId)} (hu : P.underlying t = some (.interface ms)) (u u' : TypeId) (v v' : Value) (h : ¬ u = u') : (Op.equalIn (d + 1) t (.iface u v) (.iface u' v')).run P W = .ok false W := by simp [Op.equalIn, run_underlying hu, h]
theorem eqI_b (hu : P.underlying t = some .bool) (a b : Bool) : (Op.equalIn (d + 1) t (.bool a) (.bool b)).run P W = .ok (a == b) W := by simp [Op.equalIn, run_underlying hu]
theorem eqI_p {e : TypeId} (hu : P.underlying t = some (.pointer e)) (a b : Option Addr) {r : Bool} (h : (if nilOf (.pointer b) then isNil (.pointer a) else if nilOf (.pointer a) then isNil (.pointer b) else none) = some r) : (Op.equalIn (d + 1) t (.pointer a) (.pointer b)).run P W = .ok r W := by
  cases a <;> cases b <;> simp [nilOf, isNil] at h <;> subst h <;> simp [Op.equalIn, run_underlying hu]
theorem eqI_s {e : TypeId} (hu : P.underlying t = some (.slice e)) (a b : Option Addr) (n c n' c' : Nat) {r : Bool} (h : (if nilOf (.slice b n' c') then isNil (.slice a n c) else if nilOf (.slice a n c) then isNil (.slice b n' c') else none) = some r) : (Op.equalIn (d + 1) t (.slice a n c) (.slice b n' c')).run P W = .ok r W := by
  cases a <;> cases b <;> simp [nilOf, isNil] at h <;> subst h <;> simp [Op.equalIn, run_underlying hu]
theorem eqI_m {k e : TypeId} (hu : P.underlying t = some (.map k e)) (a b : Option Nat) {r : Bool} (h : (if nilOf (.map b) then isNil (.map a) else if nilOf (.map a) then isNil (.map b) else none) = some r) : (Op.equalIn (d + 1) t (.map a) (.map b)).run P W = .ok r W := by
  cases a <;> cases b <;> simp [nilOf, isNil] at h <;> subst h <;> simp [Op.equalIn, run_underlying hu]
theorem eqI_f0 {p1 p2 p3} (hu : P.underlying t = some (.func p1 p2 p3)) : (Op.equalIn (d + 1) t .nilFunc .nilFunc).run P W = .ok true W := by simp [Op.equalIn, run_underlying hu]
theorem eqI_f1 {p1 p2 p3} (hu : P.underlying t = some (.func p1 p2 p3)) (f : Fn) (l m : Array Value) : (Op.equalIn (d + 1) t (.func f l m) .nilFunc).run P W = .ok false W := by simp [Op.equalIn, run_underlying hu]
theorem eqI_f2 {p1 p2 p3} (hu : P.underlying t = some (.func p1 p2 p3)) (f : Fn) (l m : Array Value) : (Op.equalIn (d + 1) t .nilFunc (.func f l m)).run P W = .ok false W := by simp [Op.equalIn, run_underlying hu]
end

def EqR (C : Ct) (t : TypeId) (x y : Operand) (v w : Value) (b : Bool) (W : World) : Prop :=
  (∀ op, (eqGuard op t x y v w).run C.P W = .ok () W) ∧ (Op.equal t v w).run C.P W = .ok b W ∧ binOp .eql t v w = (do pure (.bool (← Op.equal t v w))) ∧ binOp .neq t v w = (do pure (.bool (!(← Op.equal t v w))))
theorem eqNil_run {C : Ct} {t : TypeId} {x y : Operand} {v w : Value} {b : Bool} (h : eqNil C t x y v w = some b) (W : World) : EqR C t x y v w b W := by
  unfold eqNil at h
  cases ht : C.tt.get t with
  | none => rw [ht] at h; cases h
  | some ti =>
    rw [ht] at h
    have hti := C.okT t ti ht
    obtain ⟨k, z, sz, by'⟩ := ti
    cases k with
    | iface =>
      obtain ⟨ms, hu⟩ := tk_iface hti
      simp only at h
      unfold ifE at h
      split at h
      · cases hc : (isC x || isC y) with
        | false => rw [hc] at h; cases h
        | true =>
          rw [hc] at h; cases h
          exact ⟨fun op => guard_nn hc W, eqI_nn 9999 W hu, rfl, rfl⟩
      · cases h
        exact ⟨fun op => by cases op <;> rfl, eqI_ni 9999 W hu _ _, rfl, rfl⟩
      · cases h
        exact ⟨fun op => by cases op <;> rfl, eqI_in 9999 W hu _ _, rfl, rfl⟩
      · rename_i t1 v1 t2 v2
        cases hd : decide (t1 = t2) with
        | true => rw [hd] at h; cases h
        | false =>
          rw [hd] at h; cases h
          simp only [decide_eq_false_iff_not] at hd
          exact ⟨fun op => by cases op <;> rfl, eqI_ii 9999 W hu _ _ _ _ hd, rfl, rfl⟩
      · cases h
    | bool =>
      have hu := tk_bool hti
      simp only at h
      split at h
      · cases h
        exact ⟨fun op => by cases op <;> rfl, eqI_b 9999 W hu _ _, rfl, rfl⟩
      · cases h
    | pointer e =>
      have hu := tk_pointer hti
      simp only at h
      cases v with
      | pointer a => cases w with
        | pointer a' =>
          simp only [kin, cond_true] at h
          exact ⟨fun op => by cases op <;> rfl, eqI_p 9999 W hu a a' (by simpa [Bool.cond_eq_ite] using h), rfl, rfl⟩
        | _ => simp [kin] at h
      | _ => simp [kin] at h
    | slice e =>
      have hu := tk_slice hti
      simp only at h
      cases v with
      | slice a n c => cases w with
        | slice a' n' c' =>
          simp only [kin, cond_true] at h
          exact ⟨fun op => by cases op <;> rfl, eqI_s 9999 W hu a a' n c n' c' (by simpa [Bool.cond_eq_ite] using h), rfl, rfl⟩
        | _ => simp [kin] at h
      | _ => simp [kin] at h
    | map k e =>
      have hu := tk_map hti
      simp only at h
      cases v with
      | map a => cases w with
        | map a' =>
          simp only [kin, cond_true] at h
          exact ⟨fun op => by cases op <;> rfl, eqI_m 9999 W hu a a' (by simpa [Bool.cond_eq_ite] using h), rfl, rfl⟩
        | _ => simp [kin] at h
      | _ => simp [kin] at h
    | func =>
      obtain ⟨p1, p2, p3, hu⟩ := tk_func hti
      simp only at h
      cases v with
      | func f l m => cases w with
        | nilFunc =>
          simp [kin, nilOf, isNil] at h; subst h
          exact ⟨fun op => by cases op <;> rfl, eqI_f1 9999 W hu _ _ _, rfl, rfl⟩
        | _ => simp [kin] at h
      | nilFunc => cases w with
        | nilFunc =>
          simp [kin, nilOf, isNil] at h; subst h
          exact ⟨fun op => by cases op <;> rfl, eqI_f0 9999 W hu, rfl, rfl⟩
        | func f l m =>
          simp [kin, nilOf, isNil] at h; subst h
          exact ⟨fun op => by cases op <;> rfl, eqI_f2 9999 W hu _ _ _, rfl, rfl⟩
        | _ => simp [kin] at h
      | _ => simp [kin] at h
    | _ => cases v <;> simp [kin] at h
end Go.Ev
