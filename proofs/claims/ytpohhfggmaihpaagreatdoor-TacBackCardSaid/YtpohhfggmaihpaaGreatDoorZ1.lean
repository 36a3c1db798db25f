/-
  A small calculus for walking Go code, over any program: what the own memory holds is a list of blocks; what the slots hold is a list of pairs.
  The operations, one rule each: those that need no memory, loads and stores, new blocks, calls.
-/
import Derived.WalkKit
import Derived.CallsIn
import Derived.TacticsIn
import Derived.OrdersHeld
import Derived.Deep.LoopGhost
import Derived.Deep.Draws
import Derived.KernelRfl

/- A small calculus for walking Go code, over any program: what the own memory holds is a list of blocks; what the slots hold is a list of pairs. -/
namespace Go.Wk
set_option linter.unusedVariables false
set_option linter.unusedSimpArgs false

abbrev HL := List (Nat × Obj)
abbrev LT := List (Nat × Value)
abbrev Fr (ro : Option Nat) : Fence := { Fence.wide with round := ro }
def ids (A : HL) : List Nat := A.map (·.1)

@[simp] theorem ids_nil : ids [] = [] := rfl
@[simp] theorem ids_cons (p : Nat × Obj) (A : HL) : ids (p :: A) = p.1 :: ids A := rfl
@[simp] theorem ids_append (A B : HL) : ids (A ++ B) = ids A ++ ids B := by simp [ids]
theorem mem_ids {A : HL} {b : Nat} : b ∈ ids A ↔ ∃ o, (b, o) ∈ A := by
  simp only [ids, List.mem_map]
  constructor
  · rintro ⟨⟨b', o⟩, h, rfl⟩; exact ⟨o, h⟩
  · rintro ⟨o, h⟩; exact ⟨(b, o), h, rfl⟩

/-- From w0 on, of which the blocks A0 were handed over: now the world is w, the blocks A are one's own, and nothing else of w0 has turned. -/
structure Eff (w0 : World) (A0 : HL) (w : World) (A : HL) : Prop where
  holds : ∀ b o, (b, o) ∈ A → w.heap[b]? = some o
  nodup : (ids A).Nodup
  fresh : ∀ b, b ∈ ids A → b ∈ ids A0 ∨ w0.heap.size ≤ b
  keep : ∀ b, b < w0.heap.size → b ∉ ids A0 → w.heap[b]? = w0.heap[b]?
  size : w0.heap.size ≤ w.heap.size
  os : w.os = w0.os
  tape : w.tape = w0.tape
  output : w.output = w0.output

theorem Eff.start (w : World) (A : HL) (h : ∀ b o, (b, o) ∈ A → w.heap[b]? = some o) (hn : (ids A).Nodup) : Eff w A w A :=
  ⟨h, hn, fun _ hb => .inl hb, fun _ _ _ => rfl, Nat.le_refl _, rfl, rfl, rfl⟩

theorem Eff.refl (w : World) : Eff w [] w [] := .start w [] (fun _ _ h => by cases h) List.nodup_nil

theorem Eff.lt {w0 w : World} {A0 A : HL} (E : Eff w0 A0 w A) {b : Nat} (h : b ∈ ids A) : b < w.heap.size := by
  obtain ⟨o, ho⟩ := mem_ids.1 h
  exact (Array.getElem?_eq_some_iff.1 (E.holds b o ho)).1

theorem Eff.sel {w0 w : World} {A0 A A' : HL} (E : Eff w0 A0 w A) (B : HL) (h : (A' ++ B).Perm A) : Eff w0 A0 w A' := by
  have hm : ∀ p, p ∈ A' → p ∈ A := fun p hp => h.mem_iff.1 (List.mem_append_left _ hp)
  refine ⟨fun b o hb => E.holds b o (hm _ hb), ?_, fun b hb => ?_, E.keep, E.size, E.os, E.tape, E.output⟩
  · have : ((ids A') ++ ids B).Nodup := by
      rw [← ids_append]
      exact (List.Perm.nodup_iff (List.Perm.map _ h)).2 E.nodup
    exact (List.nodup_append.1 this).1
  · obtain ⟨o, ho⟩ := mem_ids.1 hb
    exact E.fresh b (mem_ids.2 ⟨o, hm _ ho⟩)

/-- What a step or a call does to its own part, it does beside whatever else is there. -/
theorem Eff.seq {w0 w w' : World} {A0 X X' F : HL} (E : Eff w0 A0 w (X ++ F)) (E' : Eff w X w' X') : Eff w0 A0 w' (X' ++ F) := by
  have hXF : (ids X ++ ids F).Nodup := by rw [← ids_append]; exact E.nodup
  have hd := (List.nodup_append.1 hXF).2.2
  have hF : ∀ b, b ∈ ids F → b < w.heap.size ∧ b ∉ ids X := fun b hb =>
    ⟨E.lt (by rw [ids_append]; exact List.mem_append_right _ hb), fun hx => hd b hx b hb rfl⟩
  refine ⟨fun b o hb => ?_, ?_, fun b hb => ?_, fun b hb hn => ?_, Nat.le_trans E.size E'.size, E'.os.trans E.os, E'.tape.trans E.tape, E'.output.trans E.output⟩
  · rcases List.mem_append.1 hb with hb | hb
    · exact E'.holds b o hb
    · obtain ⟨h1, h2⟩ := hF b (mem_ids.2 ⟨o, hb⟩)
      rw [E'.keep b h1 h2]
      exact E.holds b o (List.mem_append_right _ hb)
  · rw [ids_append, List.nodup_append]
    refine ⟨E'.nodup, (List.nodup_append.1 hXF).2.1, fun a ha b hb hab => ?_⟩
    subst hab
    obtain ⟨h1, h2⟩ := hF a hb
    rcases E'.fresh a ha with h | h
    · exact h2 h
    · omega
  · rw [ids_append] at hb
    rcases List.mem_append.1 hb with hb | hb
    · rcases E'.fresh b hb with h | h
      · exact E.fresh b (by rw [ids_append]; exact List.mem_append_left _ h)
      · exact .inr (Nat.le_trans E.size h)
    · exact E.fresh b (by rw [ids_append]; exact List.mem_append_right _ hb)
  · rw [E'.keep b (Nat.lt_of_lt_of_le hb E.size) ?_]
    · exact E.keep b hb hn
    · intro hx
      rcases E.fresh b (by rw [ids_append]; exact List.mem_append_left _ hx) with h | h
      · exact hn h
      · omega

theorem Eff.seq0 {w0 w w' : World} {A0 X' F : HL} (E : Eff w0 A0 w F) (E' : Eff w [] w' X') : Eff w0 A0 w' (X' ++ F) := Eff.seq (X := []) E E'

theorem Eff.drew (w : World) : Eff w [] w.drew [] where
  holds := fun _ _ h => by cases h
  nodup := List.nodup_nil
  fresh := fun _ h => by cases h
  keep := fun _ _ _ => rfl
  size := Nat.le_refl _
  os := rfl
  tape := rfl
  output := rfl

theorem Eff.alloc (w : World) (o : Obj) : Eff w [] (w.alloc o) [(w.heap.size, o)] := by
  refine ⟨fun b o' h => ?_, by simp [ids], fun b h => ?_, fun b hb _ => ?_, by show w.heap.size ≤ (w.heap.push o).size; simp, rfl, rfl, rfl⟩
  · simp only [List.mem_singleton, Prod.mk.injEq] at h
    obtain ⟨rfl, rfl⟩ := h
    show (w.heap.push o')[w.heap.size]? = _
    simp
  · simp [ids] at h
    exact .inr (by omega)
  · show (w.heap.push o)[b]? = _
    rw [Array.getElem?_push, if_neg (by omega)]

/-- One block is put in another one's place. -/
theorem Eff.put {w w' : World} {b : Nat} {o o' : Obj} (h : w.heap[b]? = some o) (hb : w'.heap[b]? = some o') (hk : ∀ k, k ≠ b → w'.heap[k]? = w.heap[k]?)
    (hs : w'.heap.size = w.heap.size) (hos : w'.os = w.os) (ht : w'.tape = w.tape) (ho : w'.output = w.output) : Eff w [(b, o)] w' [(b, o')] := by
  refine ⟨fun k x hx => ?_, by simp [ids], fun k hx => .inl hx, fun k _ hn => ?_, by omega, hos, ht, ho⟩
  · simp only [List.mem_singleton, Prod.mk.injEq] at hx
    obtain ⟨rfl, rfl⟩ := hx
    exact hb
  · exact hk k (by simpa [ids] using hn)

theorem Eff.setCell {w : World} {b off : Nat} {c : Array Value} {t : TypeId} {fz : Nat × Nat} (h : w.heap[b]? = some (.cells c t fz)) (v : Value) :
    Eff w [(b, .cells c t fz)] (w.setCell ⟨b, off, none⟩ v) [(b, .cells (c.setIfInBounds off v) t fz)] := by
  refine Eff.put h ?_ (fun k hk => ?_) (by simp [World.setCell]) rfl rfl rfl
  · simp only [World.setCell, Array.getElem?_modify, if_true, h, Option.map_some]
    simp
  · simp only [World.setCell, Array.getElem?_modify]
    rw [if_neg (by omega)]

theorem Eff.setObj {w : World} {b : Nat} {o o' : Obj} (h : w.heap[b]? = some o) : Eff w [(b, o)] { w with heap := w.heap.setIfInBounds b o' } [(b, o')] := by
  have hlt := (Array.getElem?_eq_some_iff.1 h).1
  refine Eff.put h ?_ (fun k hk => ?_) (by simp) rfl rfl rfl
  · simp [hlt]
  · simp [Array.getElem?_setIfInBounds_ne (Ne.symm hk)]

/-! ### Types -/
inductive Tk where
  | int (k : IntKind) | bool | string | slice (e : TypeId) | map (k e : TypeId) | pointer (e : TypeId) | struct (fs : List (Nat × TypeId)) | array (n : Nat) (e : TypeId) | func | iface | other

def tkOf : TypeDesc → Tk
  | .int k => .int k
  | .bool => .bool
  | .string => .string
  | .slice e => .slice e
  | .map k e => .map k e
  | .pointer e => .pointer e
  | .struct fs => .struct (fs.toList.map fun f => (f.offset, f.type))
  | .array n e => .array n e
  | .func .. => .func
  | .interface _ => .iface
  | _ => .other

structure Ti where
  k : Tk
  z : Value
  sz : Nat
  by' : Nat

def tiOf (P : Program) (t : TypeId) : Option Ti :=
  match P.underlying t, P.info? t with
  | some d, some i => match i.zero with
    | some z => some ⟨tkOf d, z, i.size, i.bytes⟩
    | none => none
  | _, _ => none

def tl : List (Nat × Ti) → Nat → Option Ti
  | [], _ => none
  | (j, v) :: r, i => bif Nat.beq j i then some v else tl r i

def TbOk (P : Program) (tab : List (Nat × Ti)) : Prop := tab.map (fun p => tiOf P p.1) = tab.map (fun p => some p.2)

theorem TbOk.at {P : Program} : ∀ {tab : List (Nat × Ti)}, TbOk P tab → ∀ {t : Nat} {i : Ti}, tl tab t = some i → tiOf P t = some i
  | [], _, _, _, h => by simp [tl] at h
  | (j, v) :: r, ok, t, i, h => by
    simp only [TbOk, List.map_cons, List.cons.injEq] at ok
    simp only [tl] at h
    by_cases hj : Nat.beq j t = true
    · rw [hj] at h
      have hjt := Nat.eq_of_beq_eq_true hj
      subst hjt
      rw [ok.1]; exact h
    · simp only [Bool.not_eq_true] at hj
      rw [hj] at h
      exact TbOk.at (show TbOk P r from ok.2) h

theorem tiOf_spec {P : Program} {t : TypeId} {x : Ti} (h : tiOf P t = some x) : ∃ d i, P.underlying t = some d ∧ P.info? t = some i ∧ tkOf d = x.k ∧ i.zero = some x.z ∧ i.size = x.sz ∧ i.bytes = x.by' := by
  unfold tiOf at h
  split at h
  · rename_i d i hd hi
    split at h
    · rename_i z hz
      obtain rfl := Option.some.inj h
      exact ⟨d, i, hd, hi, rfl, hz, rfl, rfl⟩
    · cases h
  · cases h

/-! ### Slots -/
def lk : LT → Nat → Option Value
  | [], _ => none
  | (j, v) :: r, i => bif Nat.beq j i then some v else lk r i

def Kn (a : Act) (L : LT) : Prop := ∀ i v, lk L i = some v → a.tmps.getD i undef = v

def ev (L : LT) : Operand → Option Value
  | .tmp t => lk L t
  | .const v => some v
  | .global g => some (.pointer (some ⟨g, 0, none⟩))
  | .func f => some (.func (.func f) #[] #[])

theorem Kn.ev {a : Act} {L : LT} (h : Kn a L) {x : Operand} {v : Value} (hx : ev L x = some v) : a.eval x = v := by
  cases x with
  | tmp t => exact h t v hx
  | const u => simpa [Wk.ev, Act.eval] using hx
  | global g => simpa [Wk.ev, Act.eval] using hx
  | func f => simpa [Wk.ev, Act.eval] using hx

theorem Kn.put {a : Act} {L : LT} (h : Kn a L) {d : Nat} (hd : d < a.tmps.size) (v : Value) : Kn (a.put (some d) v) ((d, v) :: L) := by
  intro i u hu
  simp only [lk] at hu
  simp only [Act.put]
  by_cases hi : Nat.beq d i = true
  · rw [hi] at hu
    have := Nat.eq_of_beq_eq_true hi
    subst this
    simp only [cond_true, Option.some.injEq] at hu
    subst hu
    simp [hd]
  · simp only [Bool.not_eq_true] at hi
    rw [hi] at hu
    have hne := Nat.ne_of_beq_eq_false hi
    simp only [cond_false] at hu
    rw [← h i u hu]
    simp only [Array.getD_eq_getD_getElem?]
    rw [Array.getElem?_setIfInBounds_ne hne]

def subL (L : LT) : LT → Prop
  | [] => True
  | (i, v) :: r => lk L i = some v ∧ subL L r

theorem subL.kn {L : LT} {a : Act} (h : Kn a L) : ∀ {L' : LT}, subL L L' → Kn a L'
  | [], _ => fun i v hi => by simp [lk] at hi
  | (j, u) :: r, hs => by
    intro i v hi
    simp only [lk] at hi
    by_cases hj : Nat.beq j i = true
    · rw [hj] at hi
      have := Nat.eq_of_beq_eq_true hj
      subst this
      simp only [cond_true, Option.some.injEq] at hi
      subst hi
      exact h _ _ hs.1
    · simp only [Bool.not_eq_true] at hj
      rw [hj] at hi
      exact subL.kn h hs.2 i v hi

/-! ### The frame of a walk -/
structure Sx where
  P : Program
  tab : List (Nat × Ti)
  ok : TbOk P tab

structure Cx where
  s : Sx
  ro : Option Nat
  n : Nat
  N : Nat
  ds : List Deferred
  w0 : World
  A0 : HL

structure Ok (X : Cx) (a : Act) (L : LT) : Prop where
  size : a.tmps.size = X.N
  defers : a.defers = X.ds
  kn : Kn a L

abbrev Post := Exit → Act → World → Prop
abbrev RL := List HL
def Hp (X : Cx) (w : World) (R : RL) : Prop := Eff X.w0 X.A0 w R.flatten
/-- Of the operations left in a region. -/
def G (X : Cx) (ops : Array Oper) (Q : Post) (rest : List Oper) (L : LT) (R : RL) : Prop :=
  ∀ a w, Ok X a L → Hp X w R → wpListIn (Fr X.ro) X.n X.s.P ops Q rest a w
/-- Of code. -/
def GC (X : Cx) (c : Code) (Q : Post) (L : LT) (R : RL) : Prop :=
  ∀ a w, Ok X a L → Hp X w R → c.wpIn (Fr X.ro) X.n X.s.P Q a w
/-- Of an end. -/
def GQ (X : Cx) (Q : Post) (e : Exit) (L : LT) (R : RL) : Prop := ∀ a w, Ok X a L → Hp X w R → Q e a w
/-- What holds at some place. -/
def At (X : Cx) {Y : Type} (post : Y → Prop) (L : Y → LT) (R : Y → RL) : Act → World → Prop := fun a w => ∃ y, post y ∧ Ok X a (L y) ∧ Hp X w (R y)

theorem Ok.put {X : Cx} {a : Act} {L : LT} (h : Ok X a L) {d : Nat} (hd : Nat.blt d X.N = true) (v : Value) : Ok X (a.put (some d) v) ((d, v) :: L) := by
  have hlt : d < a.tmps.size := by rw [h.size]; exact Nat.lt_of_lt_of_le (Nat.lt_succ_self d) (Nat.le_of_ble_eq_true hd)
  exact ⟨by simp [Act.put, h.size], by simpa [Act.put] using h.defers, h.kn.put hlt v⟩

theorem Ok.none {X : Cx} {a : Act} {L : LT} (h : Ok X a L) (v : Value) : Ok X (a.put .none v) L := h

/-! ### One operation -/
section
variable {X : Cx} {ops : Array Oper} {Q : Post} {rest : List Oper} {L : LT} {R : RL} {o : Oper}

theorem g_run {Y : Type} {d : Nat} (v : Y → Value) (R' : Y → RL) (post : Y → Prop)
    (hd : o.dst = some d) (hg : o.guard = none) (hN : Nat.blt d X.N = true) (hop : ∀ c, o.op ≠ .defer c)
    (hrun : ∀ a w, Ok X a L → Hp X w R → ∃ y w', (execOp a.eval o).run X.s.P w = .ok (.value (v y)) w' ∧ Hp X w' (R' y) ∧ post y)
    (k : ∀ y, post y → G X ops Q rest ((d, v y) :: L) (R' y)) : G X ops Q (o :: rest) L R := by
  intro a w ha hE
  obtain ⟨y, w', hr, hE', hp⟩ := hrun a w ha hE
  refine wpListIn_plain hg (fun K hK => ?_)
  refine ⟨fun _ _ => trivial, ?_⟩
  rw [Oper.semAt_eq _ _ _ hop, hr]
  refine hK _ _ ?_
  rw [hd]
  exact k y hp _ _ (ha.put hN _) hE'

theorem g_runU {Y : Type} (R' : Y → RL) (post : Y → Prop)
    (hd : o.dst = none) (hg : o.guard = none) (hop : ∀ c, o.op ≠ .defer c)
    (hrun : ∀ a w, Ok X a L → Hp X w R → ∃ y w', ((execOp a.eval o).run X.s.P w = .ok .skip w' ∨ ∃ v, (execOp a.eval o).run X.s.P w = .ok (.value v) w') ∧ Hp X w' (R' y) ∧ post y)
    (k : ∀ y, post y → G X ops Q rest L (R' y)) : G X ops Q (o :: rest) L R := by
  intro a w ha hE
  obtain ⟨y, w', hr, hE', hp⟩ := hrun a w ha hE
  refine wpListIn_plain hg (fun K hK => ?_)
  refine ⟨fun _ _ => trivial, ?_⟩
  rw [Oper.semAt_eq _ _ _ hop]
  rcases hr with hr | ⟨v, hr⟩
  · rw [hr]
    refine hK _ _ ?_
    rw [hd]
    exact k y hp _ _ (ha.none _) hE'
  · rw [hr]
    refine hK _ _ ?_
    rw [hd]
    exact k y hp _ _ (ha.none _) hE'

/-- An operation whose value needs no memory. -/
theorem g_pure {d : Nat} (v : Value) (hd : o.dst = some d) (hg : o.guard = none) (hN : Nat.blt d X.N = true) (hop : ∀ c, o.op ≠ .defer c)
    (hrun : ∀ (ρ : Operand → Value) (w : World), (∀ x u, ev L x = some u → ρ x = u) → (execOp ρ o).run X.s.P w = .ok (.value v) w)
    (k : G X ops Q rest ((d, v) :: L) R) : G X ops Q (o :: rest) L R :=
  g_run (Y := Unit) (fun _ => v) (fun _ => R) (fun _ => True) hd hg hN hop (fun a w ha hE => ⟨(), w, hrun _ w (fun _ _ h => ha.kn.ev h), hE, trivial⟩) (fun _ _ => k)

theorem g_nil (h : GQ X Q .normal L R) : G X ops Q [] L R := fun a w ha hE => h a w ha hE

theorem g_case {t : Nat} {b : Bool} (hb : lk L t = some (.bool b)) (ht : b = true → G X ops Q rest ((t, .bool true) :: L) R) (hf : b = false → G X ops Q rest ((t, .bool false) :: L) R) : G X ops Q rest L R := by
  intro a w ha hE
  have key : ∀ c, b = c → Ok X a ((t, .bool c) :: L) := by
    rintro c rfl
    refine ⟨ha.size, ha.defers, fun i v hi => ?_⟩
    simp only [lk] at hi
    by_cases hj : Nat.beq t i = true
    · rw [hj] at hi
      have := Nat.eq_of_beq_eq_true hj
      subst this
      exact ha.kn _ _ (by rw [hb]; exact hi)
    · simp only [Bool.not_eq_true] at hj
      rw [hj] at hi
      exact ha.kn _ _ hi
  cases hbb : b with
  | true => exact ht hbb a w (key _ hbb) hE
  | false => exact hf hbb a w (key _ hbb) hE

/-- A guard that says yes. -/
theorem g_yes {j : Nat} {want : Bool} {t : Nat} {d : Option Tmp} {op : Op} {ty : TypeId} {p : String} {af : Array Edge}
    (hj : (ops[j]?).bind (·.dst) = some t) (hN : Nat.blt t X.N = true) (hb : lk L t = some (.bool want))
    (k : G X ops Q (⟨d, op, ty, p, af, none⟩ :: rest) L R) (hop : ∀ c, op ≠ .defer c := by intro c h; cases h) : G X ops Q (⟨d, op, ty, p, af, some (j, want)⟩ :: rest) L R := by
  intro a w ha hE
  have h := k a w ha hE
  have hlt : t < a.tmps.size := by rw [ha.size]; exact Nat.lt_of_lt_of_le (Nat.lt_succ_self t) (Nat.le_of_ble_eq_true hN)
  have hv : a.tmps[t]? = some (.bool want) := by
    have := ha.kn _ _ hb
    rw [Array.getD_eq_getD_getElem?, Array.getElem?_eq_getElem hlt, Option.getD_some] at this
    rw [Array.getElem?_eq_getElem hlt, this]
  have hw : Region.wanted ⟨d, op, ty, p, af, some (j, want)⟩ (yielded ops a.tmps) = true := by
    simp [Region.wanted, yielded, hj, hv]
  simp only [wpListIn, hw, if_true]
  simp only [wpListIn, Region.wanted, if_true] at h
  refine ⟨fun _ _ => trivial, ?_⟩
  have h2 := h.2
  rw [Oper.semAt_eq _ _ _ hop] at h2 ⊢
  exact h2

/-- A guard that says no. -/
theorem g_no {j : Nat} {want : Bool} {u : Value} {t d : Nat} {op : Op} {ty : TypeId} {p : String} {af : Array Edge}
    (hj : (ops[j]?).bind (·.dst) = some t) (hN : Nat.blt t X.N = true) (hb : lk L t = some u) (hne : (match u with | .bool b => b == want | _ => false) = false) (hd : Nat.blt d X.N = true)
    (k : G X ops Q rest ((d, undef) :: L) R) : G X ops Q (⟨some d, op, ty, p, af, some (j, want)⟩ :: rest) L R := by
  intro a w ha hE
  have hlt : t < a.tmps.size := by rw [ha.size]; exact Nat.lt_of_lt_of_le (Nat.lt_succ_self t) (Nat.le_of_ble_eq_true hN)
  have hv : a.tmps[t]? = some u := by
    have := ha.kn _ _ hb
    rw [Array.getD_eq_getD_getElem?, Array.getElem?_eq_getElem hlt, Option.getD_some] at this
    rw [Array.getElem?_eq_getElem hlt, this]
  have hw : Region.wanted ⟨some d, op, ty, p, af, some (j, want)⟩ (yielded ops a.tmps) = false := by
    simp only [Region.wanted, yielded, hj, hv, Option.bind_some]
    cases u with
    | bool b => have : b ≠ want := fun h => by subst h; simp at hne
                simp [this]
    | _ => rfl
  simp only [wpListIn, hw]
  exact ⟨fun _ _ => trivial, k _ _ (ha.put hd _) hE⟩

end

/-! ### Code -/
section
variable {X : Cx} {Q : Post} {L : LT} {R : RL}

theorem gc_seq {x y : Code} (h : GC X x (Exit.then (y.wpIn (Fr X.ro) X.n X.s.P Q) Q) L R) : GC X (.seq x y) Q L R :=
  fun a w ha hE => wpIn_seq (h a w ha hE)
/-- A halt between two: what holds there. -/
theorem gc_cut {x y : Code} {Y : Type} (post : Y → Prop) (L' : Y → LT) (R' : Y → RL) (h1 : GC X x (Exit.then (At X post L' R') Q) L R)
    (h2 : ∀ z, post z → GC X y Q (L' z) (R' z)) : GC X (.seq x y) Q L R :=
  fun a w ha hE => wpIn_seq (wpIn_mono (h1 a w ha hE) (fun e a w hq => by
    cases e with
    | normal => obtain ⟨z, hp, hok, hh⟩ := hq; exact h2 z hp a w hok hh
    | _ => exact hq))
theorem gc_region {id : Nat} {l : List Oper} (h : G X l.toArray Q l L R) : GC X (.region id l.toArray false) Q L R :=
  fun a w ha hE => wpIn_region_lit (h a w ha hE)
theorem gc_cond {c : Operand} {x y : Code} {b : Bool} (hc : ev L c = some (.bool b)) (ht : b = true → GC X x Q L R) (hf : b = false → GC X y Q L R) : GC X (.cond c x y) Q L R :=
  fun a w ha hE => wpIn_cond_split (ha.kn.ev hc) (fun h => ht h a w ha hE) (fun h => hf h a w ha hE)
theorem gc_block {id : Nat} {c : Code} (h : GC X c (Exit.inBlock id Q) L R) : GC X (.block id c) Q L R :=
  fun a w ha hE => wpIn_block (h a w ha hE)
theorem gc_skip (h : GQ X Q .normal L R) : GC X .skip Q L R := fun a w ha hE => wpIn_skip (h a w ha hE)
theorem gc_exit {id : Nat} (h : GQ X Q (.exit id) L R) : GC X (.exit id) Q L R := fun a w ha hE => wpIn_exit (h a w ha hE)
theorem gc_ret (h : GQ X Q .ret L R) : GC X .ret Q L R := fun a w ha hE => wpIn_ret (h a w ha hE)
theorem gq_then {c : Code} (h : GC X c Q L R) : GQ X (Exit.then (c.wpIn (Fr X.ro) X.n X.s.P Q) Q) .normal L R := fun a w ha hE => h a w ha hE
theorem gq_then_exit {K : Act → World → Prop} {id : Nat} (h : GQ X Q (.exit id) L R) : GQ X (Exit.then K Q) (.exit id) L R := fun a w ha hE => h a w ha hE
theorem gq_then_ret {K : Act → World → Prop} (h : GQ X Q .ret L R) : GQ X (Exit.then K Q) .ret L R := fun a w ha hE => h a w ha hE
theorem gq_block {id : Nat} (h : GQ X Q .normal L R) : GQ X (Exit.inBlock id Q) .normal L R := fun a w ha hE => h a w ha hE
theorem gq_block_ret {id : Nat} (h : GQ X Q .ret L R) : GQ X (Exit.inBlock id Q) .ret L R := fun a w ha hE => h a w ha hE
theorem gq_block_exit {id : Nat} (h : GQ X Q .normal L R) : GQ X (Exit.inBlock id Q) (.exit id) L R := fun a w ha hE => by
  show (if id = id then Q .normal a w else _)
  rw [if_pos rfl]; exact h a w ha hE
theorem gq_at {Y : Type} {post : Y → Prop} {L' : Y → LT} {R' : Y → RL} (y : Y) (hp : post y) (hL : subL L (L' y)) (hR : ∀ w, Hp X w R → Hp X w (R' y)) :
    GQ X (Exit.then (At X post L' R') Q) .normal L R := fun _ w ha hE => ⟨y, hp, ⟨ha.size, ha.defers, subL.kn ha.kn hL⟩, hR w hE⟩

theorem gc_sub {c : Code} {L' : LT} (h : subL L L') (k : GC X c Q L' R) : GC X c Q L R :=
  fun a w ha hE => k a w ⟨ha.size, ha.defers, subL.kn ha.kn h⟩ hE

/-- What a round hands on. -/
def Again (X : Cx) {Y : Type} (post : Y → Prop) (L : Y → LT) (R : Y → RL) (μ : Y → Nat) (m : Nat) : Act → World → Prop := fun a w => ∃ y, post y ∧ μ y < m ∧ Ok X a (L y) ∧ Hp X w (R y)

theorem gc_loop {c : Code} {Y : Type} (post : Y → Prop) (Lf : Y → LT) (Rf : Y → RL) (μ : Y → Nat) (y0 : Y) (hp : post y0) (hL : subL L (Lf y0)) (hR : ∀ w, Hp X w R → Hp X w (Rf y0))
    (round : ∀ y, post y → GC X c (Exit.then (Again X post Lf Rf μ (μ y)) Q) (Lf y) (Rf y)) : GC X (.loop c) Q L R := by
  intro a w ha hE
  refine wpIn_loop (fun a w => ∃ n, ∃ y, μ y = n ∧ post y ∧ Ok X a (Lf y) ∧ Hp X w (Rf y)) (fun a w => leastOf (fun n => ∃ y, μ y = n ∧ post y ∧ Ok X a (Lf y) ∧ Hp X w (Rf y)))
    ⟨μ y0, y0, rfl, hp, ⟨ha.size, ha.defers, subL.kn ha.kn hL⟩, hR w hE⟩ ?_
  intro a w hI
  obtain ⟨⟨y, hy, hpy, hok, hh⟩, _⟩ := leastOf_spec hI
  refine wpIn_mono (round y hpy a w hok hh) ?_
  intro e a' w' hq
  cases e with
  | normal =>
    obtain ⟨y', hp', hlt, hok', hh'⟩ := hq
    refine ⟨⟨μ y', y', rfl, hp', hok', hh'⟩, ?_⟩
    have hI' : ∃ n, ∃ y, μ y = n ∧ post y ∧ Ok X a' (Lf y) ∧ Hp X w' (Rf y) := ⟨μ y', y', rfl, hp', hok', hh'⟩
    refine Nat.lt_of_le_of_lt ((leastOf_spec hI').2 (μ y') ⟨y', rfl, hp', hok', hh'⟩) ?_
    rw [← hy]; exact hlt
  | exit id => exact hq
  | goto l => exact hq
  | ret => exact hq
  | panic ch => exact hq
  | outgrown => exact hq

theorem gq_again {Y : Type} {post : Y → Prop} {Lf : Y → LT} {Rf : Y → RL} {μ : Y → Nat} {m : Nat} (y : Y) (hp : post y) (hμ : μ y < m) (hL : subL L (Lf y)) (hR : ∀ w, Hp X w R → Hp X w (Rf y)) :
    GQ X (Exit.then (Again X post Lf Rf μ m) Q) .normal L R := fun _ w ha hE => ⟨y, hp, hμ, ⟨ha.size, ha.defers, subL.kn ha.kn hL⟩, hR w hE⟩
end

/-! ### Choosing among one's blocks -/
theorem perm_pick : ∀ (R : RL) (i : Nat) (A : HL), R[i]? = some A → (A ++ (R.eraseIdx i).flatten).Perm R.flatten
  | [], i, A, h => by simp at h
  | B :: R, 0, A, h => by simp at h; subst h; simp
  | B :: R, i + 1, A, h => by
    simp only [List.getElem?_cons_succ] at h
    have ih := perm_pick R i A h
    simp only [List.eraseIdx_cons_succ, List.flatten_cons]
    refine List.Perm.trans ?_ (List.Perm.append_left B ih)
    rw [← List.append_assoc, ← List.append_assoc]
    exact List.Perm.append_right _ List.perm_append_comm

theorem hp_pick {X : Cx} {w : World} {R : RL} {A : HL} (i : Nat) (h : R[i]? = some A) (H : Hp X w R) : Hp X w (A :: R.eraseIdx i) :=
  Eff.sel H [] (by simpa using perm_pick R i A h)
theorem hp_perm {X : Cx} {w : World} {R R' : RL} (H : Hp X w R) (h : R'.flatten.Perm R.flatten) : Hp X w R' := Eff.sel H [] (by simpa using h)
theorem hp_tail {X : Cx} {w : World} {R : RL} {A : HL} (H : Hp X w (A :: R)) : Hp X w R :=
  Eff.sel H A (by simpa using List.perm_append_comm)
theorem hp_drop {X : Cx} {w : World} {R : RL} (i : Nat) (H : Hp X w R) : Hp X w (R.eraseIdx i) := by
  by_cases h : i < R.length
  · exact hp_tail (hp_pick i (List.getElem?_eq_getElem h) H)
  · rw [List.eraseIdx_of_length_le (by omega)]; exact H
theorem hp_nil {X : Cx} {w : World} {R : RL} (H : Hp X w R) : Hp X w [] := Eff.sel H R.flatten (by simp)
section
variable {X : Cx} {ops : Array Oper} {Q : Post} {rest : List Oper} {L : LT} {R R' : RL}
theorem g_heap (h : ∀ w, Hp X w R → Hp X w R') (k : G X ops Q rest L R') : G X ops Q rest L R := fun a w ha hE => k a w ha (h w hE)
theorem gc_heap {c : Code} (h : ∀ w, Hp X w R → Hp X w R') (k : GC X c Q L R') : GC X c Q L R := fun a w ha hE => k a w ha (h w hE)
end

/-! ### In and out of a function -/
def zipL : Nat → List Value → LT
  | _, [] => []
  | i, v :: r => (i, v) :: zipL (i + 1) r

theorem lk_zipL (args : List Value) : ∀ (i k : Nat) (v : Value), lk (zipL i args) k = some v → ∃ j, k = i + j ∧ args[j]? = some v := by
  induction args with
  | nil => intro i k v h; simp [zipL, lk] at h
  | cons u r ih =>
    intro i k v h
    simp only [zipL, lk] at h
    by_cases hi : Nat.beq i k = true
    · rw [hi] at h
      have := Nat.eq_of_beq_eq_true hi
      subst this
      exact ⟨0, rfl, by simpa using h⟩
    · simp only [Bool.not_eq_true] at hi
      rw [hi] at h
      obtain ⟨j, rfl, hj⟩ := ih (i + 1) k v h
      exact ⟨j + 1, by omega, by simpa using hj⟩

theorem enter {s : Sx} {f : FuncId} {fn : Func} {c : Code} {args : List Value} {w : World} {Rp : Ending → World → Prop} (A0 : RL) {N : Nat}
    (hf : s.P.funcs[f]? = some fn) (hb : fn.body = some c) (hN : fn.ntmps = N) (hlen : Nat.ble args.length N = true)
    (hE : Eff w A0.flatten w A0.flatten)
    (h : GC ⟨s, none, 0, N, [], w, A0.flatten⟩ c (bodyPost s.P fn Rp) (zipL 0 args) A0) : Calls s.P f args.toArray w Rp := by
  have hle := Nat.le_of_ble_eq_true hlen
  refine calls_of_wp hf hb ?_
  refine (wpIn_wide (n := 0)).1 ?_
  refine h _ w ⟨?_, rfl, ?_⟩ hE
  · simp [hN]; omega
  · intro i v hi
    obtain ⟨j, rfl, hj⟩ := lk_zipL args 0 i v hi
    have hlt : j < args.length := (List.getElem?_eq_some_iff.1 hj).1
    simp only [Nat.zero_add, Array.getD_eq_getD_getElem?]
    rw [Array.getElem?_append_left (by simpa using hlt)]
    simp [hj]

section
variable {X : Cx} {fn : Func} {Rp : Ending → World → Prop} {L : LT} {R : RL}
theorem gq_ret {e : Exit} (he : e = .normal ∨ e = .ret) (hds : X.ds = []) (v : Value) (hr : ∀ a w, Ok X a L → Hp X w R → (results fn a.tmps).run X.s.P w = .ok v w)
    (k : ∀ w, Hp X w R → Rp (.returned v) w) : GQ X (bodyPost X.s.P fn Rp) e L R := by
  intro a w ha hE
  rcases he with rfl | rfl <;> exact ⟨ha.defers.trans hds, v, hr a w ha hE, k w hE⟩
theorem gq_ret0 {e : Exit} (he : e = .normal ∨ e = .ret) (hds : X.ds = []) (hfn : fn.results = #[]) (k : ∀ w, Hp X w R → Rp (.returned (.tuple #[])) w) : GQ X (bodyPost X.s.P fn Rp) e L R :=
  gq_ret he hds _ (fun a w _ _ => results_none hfn a.tmps X.s.P w) k
theorem gq_ret1 {e : Exit} (he : e = .normal ∨ e = .ret) (hds : X.ds = []) {t : Tmp} (hfn : fn.results = #[.tmp t]) {v : Value} (hv : lk L t = some v) (k : ∀ w, Hp X w R → Rp (.returned v) w) : GQ X (bodyPost X.s.P fn Rp) e L R :=
  gq_ret he hds v (fun a w ha _ => by rw [results_tmp hfn, ha.kn _ _ hv]) k
theorem gq_ret2 {e : Exit} (he : e = .normal ∨ e = .ret) (hds : X.ds = []) {t u : Tmp} (hfn : fn.results = #[.tmp t, .tmp u]) {v v' : Value} (hv : lk L t = some v) (hv' : lk L u = some v') (k : ∀ w, Hp X w R → Rp (.returned (.tuple #[v, v'])) w) : GQ X (bodyPost X.s.P fn Rp) e L R :=
  gq_ret he hds _ (fun a w ha _ => by rw [results_tmp2 hfn, ha.kn _ _ hv, ha.kn _ _ hv']) k
end

end Go.Wk

/- The operations, one rule each: those that need no memory, loads and stores, new blocks, calls. -/
namespace Go.Wk
set_option linter.unusedVariables false
set_option linter.unusedSimpArgs false

/-- Old memory, but for what was handed over. -/
def Oldh (X : Cx) : Nat → Option Obj := fun b => if b ∈ ids X.A0 then none else X.w0.heap[b]?
def hw (w : World) : Nat → Option Obj := fun b => w.heap[b]?
def cellAt (h : Nat → Option Obj) (b o : Nat) : Option Value := match h b with
  | some (.cells c _ _) => c[o]?
  | _ => none

theorem cellAt_hw (w : World) (b o : Nat) : cellAt (hw w) b o = w.cell? ⟨b, o, none⟩ := by
  unfold cellAt hw World.cell?
  cases w.heap[b]? with
  | none => rfl
  | some x => cases x <;> rfl

theorem old_hw {X : Cx} {w : World} {A : HL} (E : Eff X.w0 X.A0 w A) {b : Nat} {o : Obj} (h : Oldh X b = some o) : hw w b = some o := by
  unfold Oldh at h
  split at h
  · cases h
  · rename_i hn
    unfold hw
    rw [E.keep b (Array.getElem?_eq_some_iff.1 h).1 hn]
    exact h

/-- Whatever is so in h1 is so in h2. -/
def Hle (h1 h2 : Nat → Option Obj) : Prop := ∀ b o, h1 b = some o → h2 b = some o
theorem Hle.cell {h1 h2 : Nat → Option Obj} (H : Hle h1 h2) {b o : Nat} {v : Value} (h : cellAt h1 b o = some v) : cellAt h2 b o = some v := by
  unfold cellAt at h ⊢
  split at h
  · rename_i c t f hb; rw [H _ _ hb]; exact h
  · cases h
theorem old_le {X : Cx} {w : World} {R : RL} (H : Hp X w R) : Hle (Oldh X) (hw w) := fun _ _ h => old_hw H h
theorem old_le0 (s : Sx) (w : World) {ro : Option Nat} {n N : Nat} {ds : List Deferred} : Hle (hw w) (Oldh ⟨s, ro, n, N, ds, w, []⟩) := fun b o h => by
  simpa [Oldh, hw] using h

/-- An operation gives v, whatever memory holds. -/
def PR (P : Program) (L : LT) (o : Oper) (v : Value) : Prop := ∀ (ρ : Operand → Value) (w : World), (∀ x u, ev L x = some u → ρ x = u) → (execOp ρ o).run P w = .ok (.value v) w
theorem g_p {X : Cx} {ops : Array Oper} {Q : Post} {rest : List Oper} {L : LT} {R : RL} {d : Nat} {op : Op} {ty : TypeId} {p : String} {af : Array Edge} {v : Value} (h : PR X.s.P L ⟨some d, op, ty, p, af, none⟩ v) (hN : Nat.blt d X.N = true)
    (k : G X ops Q rest ((d, v) :: L) R) (hop : ∀ c, op ≠ .defer c := by intro c h; cases h) : G X ops Q (⟨some d, op, ty, p, af, none⟩ :: rest) L R :=
  g_pure v rfl rfl hN hop h k

theorem run_pure' {α : Type} (P : Program) (a : α) (w : World) : (pure a : Sem α).run P w = .ok a w := rfl

def isA : Tk → Bool
  | .struct _ | .array _ _ => true
  | _ => false

theorem run_isAgg {P : Program} {t : TypeId} {x : Ti} (h : tiOf P t = some x) (w : World) : (isAgg t).run P w = .ok (isA x.k) w := by
  obtain ⟨d, i, hd, _, hk, _⟩ := tiOf_spec h
  rw [← hk]
  unfold isAgg
  cases d <;> simp [run_underlying hd, tkOf, isA]

theorem run_sizeOf {P : Program} {t : TypeId} {x : Ti} (h : tiOf P t = some x) (w : World) : (sizeOf t).run P w = .ok x.sz w := by
  obtain ⟨d, i, _, hi, _, _, hs, _⟩ := tiOf_spec h
  simp [sizeOf, typeInfo, hi, hs]

theorem run_zeroValue {P : Program} {t : TypeId} {x : Ti} (h : tiOf P t = some x) (w : World) : (zeroValue t).run P w = .ok x.z w := by
  obtain ⟨d, i, _, hi, _, hz, _⟩ := tiOf_spec h
  simp [zeroValue, typeInfo, hi, hz]

def evs (L : LT) : List Operand → Option (List Value)
  | [] => some []
  | x :: r => match ev L x, evs L r with
    | some v, some vs => some (v :: vs)
    | _, _ => none

theorem evs_map {L : LT} {ρ : Operand → Value} (h : ∀ x u, ev L x = some u → ρ x = u) : ∀ {xs : List Operand} {vs : List Value}, evs L xs = some vs → xs.map ρ = vs
  | [], vs, he => by simpa [evs] using he
  | x :: r, vs, he => by
    simp only [evs] at he
    split at he
    · rename_i v us hv hus
      obtain rfl := Option.some.inj he
      rw [List.map_cons, h x v hv, evs_map h hus]
    · cases he

section
variable {X : Cx} {ops : Array Oper} {Q : Post} {rest : List Oper} {L : LT} {R : RL} {d : Nat} {x y : Operand} {t : TypeId} {p : String} {af : Array Edge} {v : Value} {ty : TypeId}

theorem p_move (hv : ev L x = some v) : PR X.s.P L (⟨some d, .move x, t, p, af, none⟩ : Oper) (v) :=
  fun ρ w h => by show Result.ok (Next.value (ρ x)) w = _; rw [h x v hv]
theorem p_assign (hv : ev L x = some v) : PR X.s.P L (⟨some d, .assign x, t, p, af, none⟩ : Oper) (v) :=
  fun ρ w h => by show Result.ok (Next.value (ρ x)) w = _; rw [h x v hv]
theorem p_nil? {a : Addr} (hv : ev L x = some (.pointer (some a))) : PR X.s.P L (⟨some d, .nilCheck x, t, p, af, none⟩ : Oper) (.pointer (some a)) :=
  fun ρ w h => by simp only [execOp]; rw [h x _ hv]; rfl
theorem p_pick {c : Operand} {b : Bool} {u : Value} (hc : ev L c = some (.bool b)) (hv : b = true → ev L x = some u) (hv' : b = false → ev L y = some u) : PR X.s.P L (⟨some d, .pick c x y, t, p, af, none⟩ : Oper) (u) :=
  fun ρ w h => by
    simp only [execOp]; rw [h c _ hc]
    cases b with
    | true => show Result.ok (Next.value (ρ x)) w = _; rw [h x _ (hv rfl)]
    | false => show Result.ok (Next.value (ρ y)) w = _; rw [h y _ (hv' rfl)]
def ibin : BinOp → IntKind → Int → Int → Option Value
  | .add, k, a, b => some (.int k (k.wrap (a + b)))
  | .sub, k, a, b => some (.int k (k.wrap (a - b)))
  | .mul, k, a, b => some (.int k (k.wrap (a * b)))
  | .eql, _, a, b => some (.bool (a == b))
  | .neq, _, a, b => some (.bool (a != b))
  | .lss, _, a, b => some (.bool (decide (a < b)))
  | .leq, _, a, b => some (.bool (decide (a ≤ b)))
  | .gtr, _, a, b => some (.bool (decide (a > b)))
  | .geq, _, a, b => some (.bool (decide (a ≥ b)))
  | .and, k, a, b => some (.int k (k.wrap (BitVec.ofInt k.bits a &&& BitVec.ofInt k.bits b).toNat))
  | .or, k, a, b => some (.int k (k.wrap (BitVec.ofInt k.bits a ||| BitVec.ofInt k.bits b).toNat))
  | .xor, k, a, b => some (.int k (k.wrap (BitVec.ofInt k.bits a ^^^ BitVec.ofInt k.bits b).toNat))
  | _, _, _, _ => none

theorem run_bin_int {P : Program} {op : BinOp} {k : IntKind} {a b : Int} {v : Value} (h : ibin op k a b = some v) (t : TypeId) (x y : Operand) (w : World) :
    (do eqGuard op t x y (.int k a) (.int k b); binOp op t (.int k a) (.int k b) : Sem Value).run P w = .ok v w := by
  cases op <;> simp only [ibin, Option.some.injEq, reduceCtorEq] at h <;> subst h <;> simp [eqGuard, binOp, Op.intArith, Op.intCmp, Op.intBits]

theorem p_bin {op : BinOp} {ik : IntKind} {a b : Int} {yt : TypeId} (hx : ev L x = some (.int ik a)) (hy : ev L y = some (.int ik b)) (hv : ibin op ik a b = some v) : PR X.s.P L (⟨some d, .binOp op t x y yt, ty, p, af, none⟩ : Oper) (v) :=
  fun ρ w h => by
    simp only [execOp]; rw [h x _ hx, h y _ hy]
    have h1 := run_bin_int (P := X.s.P) hv t x y w
    rw [Sem.run_bind, h1]; rfl
theorem p_unot {b : Bool} {xt : TypeId} (hx : ev L x = some (.bool b)) : PR X.s.P L (⟨some d, .unOp .not xt x, ty, p, af, none⟩ : Oper) (.bool !b) :=
  fun ρ w h => by simp only [execOp]; rw [h x _ hx]; rfl
theorem p_uneg {ik : IntKind} {a : Int} {xt : TypeId} (hx : ev L x = some (.int ik a)) : PR X.s.P L (⟨some d, .unOp .neg xt x, ty, p, af, none⟩ : Oper) (.int ik (ik.wrap (0 - a))) :=
  fun ρ w h => by simp only [execOp]; rw [h x _ hx]; rfl
theorem p_ext {i : Nat} {vs : Array Value} (hx : ev L x = some (.tuple vs)) (hi : vs[i]? = some v) : PR X.s.P L (⟨some d, .extract x i, ty, p, af, none⟩ : Oper) (v) :=
  fun ρ w h => by simp only [execOp]; rw [h x _ hx]; simp [Instr.extract, hi]
/-- '/' and '%'. -/
theorem p_quo {ik : IntKind} {a b : Int} {yt : TypeId} (hx : ev L x = some (.int ik a)) (hy : ev L y = some (.int ik b)) (hb : b ≠ 0) : PR X.s.P L (⟨some d, .binOp .quo t x y yt, ty, p, af, none⟩ : Oper) (.int ik (ik.wrap (a.tdiv b))) :=
  fun ρ w h => by
    simp only [execOp]; rw [h x _ hx, h y _ hy]; simp [eqGuard, binOp, Op.intDiv, hb]
theorem g_quo {ik : IntKind} {a b : Int} {yt : TypeId} (hx : ev L x = some (.int ik a)) (hy : ev L y = some (.int ik b)) (hb : b ≠ 0) (hN : Nat.blt d X.N = true) (k : G X ops Q rest ((d, .int ik (ik.wrap (a.tdiv b))) :: L) R) : G X ops Q (⟨some d, .binOp .quo t x y yt, ty, p, af, none⟩ :: rest) L R :=
  g_p (p_quo hx hy hb) hN k
theorem p_rem {ik : IntKind} {a b : Int} {yt : TypeId} (hx : ev L x = some (.int ik a)) (hy : ev L y = some (.int ik b)) (hb : b ≠ 0) : PR X.s.P L (⟨some d, .binOp .rem t x y yt, ty, p, af, none⟩ : Oper) (.int ik (a.tmod b)) :=
  fun ρ w h => by
    simp only [execOp]; rw [h x _ hx, h y _ hy]; simp [eqGuard, binOp, Op.intDiv, hb]
theorem g_rem {ik : IntKind} {a b : Int} {yt : TypeId} (hx : ev L x = some (.int ik a)) (hy : ev L y = some (.int ik b)) (hb : b ≠ 0) (hN : Nat.blt d X.N = true) (k : G X ops Q rest ((d, .int ik (a.tmod b)) :: L) R) : G X ops Q (⟨some d, .binOp .rem t x y yt, ty, p, af, none⟩ :: rest) L R :=
  g_p (p_rem hx hy hb) hN k

theorem tk_slice {P : Program} {t e : TypeId} {z : Value} {s b : Nat} (h : tiOf P t = some ⟨.slice e, z, s, b⟩) : P.underlying t = some (.slice e) := by
  obtain ⟨d, i, hd, _, hk, _⟩ := tiOf_spec h
  cases d <;> simp [tkOf] at hk
  subst hk; exact hd
theorem tk_string {P : Program} {t : TypeId} {z : Value} {s b : Nat} (h : tiOf P t = some ⟨.string, z, s, b⟩) : P.underlying t = some .string := by
  obtain ⟨d, i, hd, _, hk, _⟩ := tiOf_spec h
  cases d <;> first | exact hd | (simp [tkOf] at hk)
theorem tk_bool {P : Program} {t : TypeId} {z : Value} {s b : Nat} (h : tiOf P t = some ⟨.bool, z, s, b⟩) : P.underlying t = some .bool := by
  obtain ⟨d, i, hd, _, hk, _⟩ := tiOf_spec h
  cases d <;> first | exact hd | (simp [tkOf] at hk)
theorem tk_int {P : Program} {t : TypeId} {ik : IntKind} {z : Value} {s b : Nat} (h : tiOf P t = some ⟨.int ik, z, s, b⟩) : P.underlying t = some (.int ik) := by
  obtain ⟨d, i, hd, _, hk, _⟩ := tiOf_spec h
  cases d <;> simp [tkOf] at hk
  subst hk; exact hd
theorem tk_map {P : Program} {t e f : TypeId} {z : Value} {s b : Nat} (h : tiOf P t = some ⟨.map e f, z, s, b⟩) : P.underlying t = some (.map e f) := by
  obtain ⟨d, i, hd, _, hk, _⟩ := tiOf_spec h
  cases d <;> simp [tkOf] at hk
  obtain ⟨rfl, rfl⟩ := hk; exact hd
theorem tk_struct {P : Program} {t : TypeId} {fs : List (Nat × TypeId)} {z : Value} {s b : Nat} (h : tiOf P t = some ⟨.struct fs, z, s, b⟩) : ∃ fl : Array Field, P.underlying t = some (.struct fl) ∧ fl.toList.map (fun f => (f.offset, f.type)) = fs := by
  obtain ⟨d, i, hd, _, hk, _⟩ := tiOf_spec h
  cases d <;> simp [tkOf] at hk
  exact ⟨_, hd, hk⟩

theorem p_lenS {A : Option Addr} {n c : Nat} {e : TypeId} {z : Value} {s b : Nat} (hx : ev L x = some (.slice A n c)) (ht : tl X.s.tab t = some ⟨.slice e, z, s, b⟩) : PR X.s.P L (⟨some d, .call ⟨.builtin .len, #[x], #[t]⟩, ty, p, af, none⟩ : Oper) (.int .i64 n) :=
  fun ρ w h => by
    have hu := tk_slice (X.s.ok.at ht)
    simp only [execOp]
    simp [resolve, invoke, builtin, Builtin.len_, h x _ hx, run_underlying hu, goInt]
theorem p_lenT {A : ByteArray} {z : Value} {s b : Nat} (hx : ev L x = some (.string A)) (ht : tl X.s.tab t = some ⟨.string, z, s, b⟩) : PR X.s.P L (⟨some d, .call ⟨.builtin .len, #[x], #[t]⟩, ty, p, af, none⟩ : Oper) (.int .i64 A.size) :=
  fun ρ w h => by
    have hu := tk_string (X.s.ok.at ht)
    simp only [execOp]
    simp [resolve, invoke, builtin, Builtin.len_, h x _ hx, run_underlying hu, goInt]
/-- A conversion between whole numbers. -/
theorem p_conv {src dst : TypeId} {k1 k2 : IntKind} {a : Int} {z z' : Value} {s b s' b' : Nat} (hx : ev L x = some (.int k1 a)) (ht : tl X.s.tab dst = some ⟨.int k2, z, s, b⟩) (ht' : tl X.s.tab src = some ⟨.int k1, z', s', b'⟩) : PR X.s.P L (⟨some d, .convert src dst x, ty, p, af, none⟩ : Oper) (.int k2 (k2.wrap a)) :=
  fun ρ w h => by
    have hu := tk_int (X.s.ok.at ht)
    have hu' := tk_int (X.s.ok.at ht')
    simp only [execOp]
    simp [convert, h x _ hx, run_underlying hu, run_underlying hu', Conv.intToInt]
theorem p_mkfn {fn : Fn} {f1 cp : Array Operand} {vs us : List Value} (hf : evs L f1.toList = some vs) (hc : evs L cp.toList = some us) : PR X.s.P L (⟨some d, .makeFunc fn f1 cp, ty, p, af, none⟩ : Oper) (.func fn vs.toArray us.toArray) :=
  fun ρ w h => by
    have h1 : f1.map ρ = vs.toArray := by
      have := evs_map h hf
      apply Array.ext'; simpa using this
    have h2 : cp.map ρ = us.toArray := by
      have := evs_map h hc
      apply Array.ext'; simpa using this
    simp [execOp, Instr.makeFunc, h1, h2]
theorem p_max {ik : IntKind} {a b : Int} {ats : Array TypeId} (hx : ev L x = some (.int ik a)) (hy : ev L y = some (.int ik b)) : PR X.s.P L (⟨some d, .call ⟨.builtin .max, #[x, y], ats⟩, ty, p, af, none⟩ : Oper) (.int ik (if b > a then b else a)) :=
  fun ρ w h => by
    simp only [execOp]
    simp [resolve, invoke, builtin, Builtin.max_, Builtin.max2, h x _ hx, h y _ hy]
theorem p_min {ik : IntKind} {a b : Int} {ats : Array TypeId} (hx : ev L x = some (.int ik a)) (hy : ev L y = some (.int ik b)) : PR X.s.P L (⟨some d, .call ⟨.builtin .min, #[x, y], ats⟩, ty, p, af, none⟩ : Oper) (.int ik (if b < a then b else a)) :=
  fun ρ w h => by
    simp only [execOp]
    simp [resolve, invoke, builtin, Builtin.min_, Builtin.min2, h x _ hx, h y _ hy]
/-! ### New blocks of cells -/
theorem run_newVar {P : Program} (t : TypeId) (v : Value) (w : World) : (newVar t v).run P w = .ok ⟨w.heap.size, 0, none⟩ (w.alloc (.cells v.cells t)) := by
  simp only [newVar, newRow, newObj, Sem.run_bind, Sem.run, Result.andThen_ok]
  rfl

theorem hp_alloc {X : Cx} {w : World} {R : RL} (H : Hp X w R) (o : Obj) : Hp X (w.alloc o) ([(w.heap.size, o)] :: R) := Eff.seq0 H (Eff.alloc w o)

theorem g_box {e : TypeId} (hx : ev L x = some v) (hN : Nat.blt d X.N = true) (k : ∀ b, G X ops Q rest ((d, .pointer (some ⟨b, 0, none⟩)) :: L) ([(b, .cells v.cells e (0, 0))] :: R)) :
    G X ops Q (⟨some d, .box e x, ty, p, af, none⟩ :: rest) L R :=
  g_run (Y := Nat) (fun b => .pointer (some ⟨b, 0, none⟩)) (fun b => [(b, .cells v.cells e (0, 0))] :: R) (fun _ => True) rfl rfl hN (by intro c h; cases h)
    (fun a w ha hE => ⟨w.heap.size, w.alloc (.cells v.cells e), by
      simp only [execOp]
      simp [Instr.box, ha.kn.ev hx, run_newVar], hp_alloc hE _, trivial⟩) (fun b _ => k b)

theorem g_alloc {e : TypeId} {ti : Ti} (ht : tl X.s.tab e = some ti) (hN : Nat.blt d X.N = true) (k : ∀ b, G X ops Q rest ((d, .pointer (some ⟨b, 0, none⟩)) :: L) ([(b, .cells ti.z.cells e (0, 0))] :: R)) :
    G X ops Q (⟨some d, .alloc e, ty, p, af, none⟩ :: rest) L R :=
  g_run (Y := Nat) (fun b => .pointer (some ⟨b, 0, none⟩)) (fun b => [(b, .cells ti.z.cells e (0, 0))] :: R) (fun _ => True) rfl rfl hN (by intro c h; cases h)
    (fun a w ha hE => ⟨w.heap.size, w.alloc (.cells ti.z.cells e), by
      simp only [execOp]
      simp [Instr.alloc, run_zeroValue (X.s.ok.at ht), run_newVar], hp_alloc hE _, trivial⟩) (fun b _ => k b)

/-! ### Addresses -/
theorem run_fieldPlace {P : Program} {f : Field} {x : Ti} (h : tiOf P f.type = some x) (hz : x.sz ≠ 0) (a : Addr) (w : World) : (fieldPlace a f).run P w = .ok (a.add f.offset) w := by
  simp [fieldPlace, run_sizeOf h, hz]

theorem addr_add (b o n : Nat) : (⟨b, o, none⟩ : Addr).add n = ⟨b, o + n, none⟩ := by
  unfold Addr.add
  split
  · rename_i h; subst h; rfl
  · rfl

theorem p_fld {st : TypeId} {i : Nat} {b o off : Nat} {ft : TypeId} {fs : List (Nat × TypeId)} {z : Value} {sz by' : Nat} {tf : Ti} (hx : ev L x = some (.pointer (some ⟨b, o, none⟩))) (ht : tl X.s.tab st = some ⟨.struct fs, z, sz, by'⟩)
    (hf : fs[i]? = some (off, ft)) (htf : tl X.s.tab ft = some tf) (hsz : Nat.beq tf.sz 0 = false) : PR X.s.P L (⟨some d, .fieldAddr st x i, ty, p, af, none⟩ : Oper) (.pointer (some ⟨b, o + off, none⟩)) :=
  fun ρ w h => by
    obtain ⟨fl, hu, hfl⟩ := tk_struct (X.s.ok.at ht)
    have hfi : ∃ f, fl[i]? = some f ∧ f.offset = off ∧ f.type = ft := by
      rw [← hfl] at hf
      simp only [List.getElem?_map, Option.map_eq_some_iff, Prod.mk.injEq] at hf
      obtain ⟨f, hf, h1, h2⟩ := hf
      exact ⟨f, by simpa using hf, h1, h2⟩
    obtain ⟨f, hfi, rfl, rfl⟩ := hfi
    have hp := run_fieldPlace (X.s.ok.at htf) (Nat.ne_of_beq_eq_false hsz) ⟨b, o, none⟩ w
    rw [addr_add] at hp
    simp only [execOp]
    simp [Instr.fieldAt, h x _ hx, run_underlying hu, hfi, Instr.sureAddr, hp]
theorem g_fld {st : TypeId} {i : Nat} {b o off : Nat} {ft : TypeId} {fs : List (Nat × TypeId)} {z : Value} {sz by' : Nat} {tf : Ti} (hx : ev L x = some (.pointer (some ⟨b, o, none⟩))) (ht : tl X.s.tab st = some ⟨.struct fs, z, sz, by'⟩)
    (hf : fs[i]? = some (off, ft)) (htf : tl X.s.tab ft = some tf) (hsz : Nat.beq tf.sz 0 = false) (hN : Nat.blt d X.N = true) (k : G X ops Q rest ((d, .pointer (some ⟨b, o + off, none⟩)) :: L) R) : G X ops Q (⟨some d, .fieldAddr st x i, ty, p, af, none⟩ :: rest) L R :=
  g_p (p_fld hx ht hf htf hsz) hN k

theorem run_indexAt {P : Program} {t e : TypeId} {z : Value} {s b : Nat} {te : Ti} (ht : tiOf P t = some ⟨.slice e, z, s, b⟩) (hte : tiOf P e = some te) (a : Addr) (n c : Nat) (ik : IntKind) (i : Int) (h0 : 0 ≤ i) (h1 : i < n) (w : World) :
    (Instr.indexAt t (.slice (some a) n c) (.int ik i)).run P w = .ok (.pointer (some (a.add (i.toNat * te.sz)))) w := by
  simp [Instr.indexAt, asIntOf, run_underlying (tk_slice ht), run_sizeOf hte, h0, h1]

/-- An element's address. -/
theorem p_ix {bx o n c : Nat} {e : TypeId} {z : Value} {s b : Nat} {te : Ti} {ik : IntKind} {i : Int} (hx : ev L x = some (.slice (some ⟨bx, o, none⟩) n c)) (hy : ev L y = some (.int ik i)) (ht : tl X.s.tab t = some ⟨.slice e, z, s, b⟩) (hte : tl X.s.tab e = some te)
    (h0 : 0 ≤ i) (h1 : i < n) : PR X.s.P L (⟨some d, .indexAddr t x y, ty, p, af, none⟩ : Oper) (.pointer (some ⟨bx, o + i.toNat * te.sz, none⟩)) :=
  fun ρ w h => by
    have hr := run_indexAt (X.s.ok.at ht) (X.s.ok.at hte) ⟨bx, o, none⟩ n c ik i h0 h1 w
    rw [addr_add] at hr
    simp only [execOp]
    rw [h x _ hx, h y _ hy]
    simp [hr]
theorem g_ix {bx o n c : Nat} {e : TypeId} {z : Value} {s b : Nat} {te : Ti} {ik : IntKind} {i : Int} (hx : ev L x = some (.slice (some ⟨bx, o, none⟩) n c)) (hy : ev L y = some (.int ik i)) (ht : tl X.s.tab t = some ⟨.slice e, z, s, b⟩) (hte : tl X.s.tab e = some te)
    (h0 : 0 ≤ i) (h1 : i < n) (hN : Nat.blt d X.N = true) (k : G X ops Q rest ((d, .pointer (some ⟨bx, o + i.toNat * te.sz, none⟩)) :: L) R) : G X ops Q (⟨some d, .indexAddr t x y, ty, p, af, none⟩ :: rest) L R :=
  g_p (p_ix hx hy ht hte h0 h1) hN k

/-! ### Reading -/
theorem run_load {P : Program} {w : World} {a : Addr} {v : Value} (h : w.cell? a = some v) : (load a).run P w = .ok v w := by
  simp [load, Sem.run, h]

theorem run_loadCells {P : Program} {w : World} {b : Nat} : ∀ (vs : List Value) (o i : Nat) (acc : Array Value), (∀ j u, vs[j]? = some u → w.cell? ⟨b, o + i + j, none⟩ = some u) →
    (loadCellsFrom ⟨b, o, none⟩ i vs.length acc).run P w = .ok (acc ++ vs.toArray) w
  | [], o, i, acc, _ => by simp [loadCellsFrom]
  | v :: vs, o, i, acc, h => by
    have h0 := h 0 v rfl
    simp only [Nat.add_zero] at h0
    have ih := run_loadCells (P := P) vs o (i + 1) (acc.push v) (fun j u hj => by
      have := h (j + 1) u (by simpa using hj)
      rw [show o + (i + 1) + j = o + i + (j + 1) from by omega]; exact this)
    simp only [List.length_cons, loadCellsFrom, Sem.run_bind, addr_add, run_load h0, Result.andThen_ok, ih]
    simp

/-- What a variable of such a type with these cells reads as. -/
def asV (k : Tk) (cs : List Value) : Option Value := match isA k, cs with
  | true, cs => some (.agg cs.toArray)
  | false, [c] => some c
  | false, _ => none

theorem run_loadAt {P : Program} {w : World} {t : TypeId} {x : Ti} {b o : Nat} {cs : List Value} {v : Value} (ht : tiOf P t = some x) (hl : cs.length = x.sz) (hv : asV x.k cs = some v)
    (hc : ∀ j u, cs[j]? = some u → w.cell? ⟨b, o + j, none⟩ = some u) : (Instr.loadAt t (.pointer (some ⟨b, o, none⟩))).run P w = .ok v w := by
  simp only [Instr.loadAt, Instr.sureAddr, loadVar, Sem.run_bind, run_pure', Result.andThen_ok, run_isAgg ht]
  cases hA : isA x.k with
  | true =>
    simp only [asV, hA] at hv
    obtain rfl := Option.some.inj hv
    have h1 := run_loadCells (P := P) (w := w) (b := b) cs o 0 #[] (by simpa using hc)
    simp only [if_true, loadCells, Sem.run_bind, run_sizeOf ht, Result.andThen_ok, ← hl, h1, run_pure']
    simp
  | false =>
    match cs, hc, hv with
    | [], _, hv => simp [asV, hA] at hv
    | [c], hc, hv =>
      simp only [asV, hA] at hv
      obtain rfl := Option.some.inj hv
      have h0 : w.cell? ⟨b, o, none⟩ = some c := hc 0 c rfl
      simp only [Bool.false_eq_true, if_false]
      exact run_load h0
    | _ :: _ :: _, _, hv => simp [asV, hA] at hv

/-- Memory read by whatever is known of it. -/
theorem g_ldG {ti : Ti} {b o : Nat} {cs : List Value} (hx : ev L x = some (.pointer (some ⟨b, o, none⟩))) (ht : tl X.s.tab t = some ti) (hl : cs.length = ti.sz) (hv : asV ti.k cs = some v)
    (hc : ∀ w, Hp X w R → ∀ j u, cs[j]? = some u → w.cell? ⟨b, o + j, none⟩ = some u) (hN : Nat.blt d X.N = true) (k : G X ops Q rest ((d, v) :: L) R) :
    G X ops Q (⟨some d, .load t x, ty, p, af, none⟩ :: rest) L R :=
  g_run (Y := Unit) (fun _ => v) (fun _ => R) (fun _ => True) rfl rfl hN (by intro c h; cases h)
    (fun a w ha hE => ⟨(), w, by
      simp only [execOp]
      rw [ha.kn.ev hx]
      simp [run_loadAt (X.s.ok.at ht) hl hv (hc w hE)], hE, trivial⟩) (fun _ _ => k)

def takeC : List Value → Nat → Nat → Option (List Value)
  | _, _, 0 => some []
  | [], _, _ + 1 => none
  | _ :: r, o + 1, n + 1 => takeC r o (n + 1)
  | c :: r, 0, n + 1 => (takeC r 0 n).map (c :: ·)

theorem takeC_spec : ∀ (l : List Value) (o n : Nat) (cs : List Value), takeC l o n = some cs → cs.length = n ∧ ∀ j u, cs[j]? = some u → l[o + j]? = some u
  | l, o, 0, cs, h => by
    unfold takeC at h
    have : cs = [] := by cases l <;> cases o <;> simp_all
    subst this; simp
  | [], o, n + 1, cs, h => by simp [takeC] at h
  | c :: r, o + 1, n + 1, cs, h => by
    simp only [takeC] at h
    obtain ⟨h1, h2⟩ := takeC_spec r o (n + 1) cs h
    exact ⟨h1, fun j u hj => by rw [show o + 1 + j = (o + j) + 1 from by omega]; simpa using h2 j u hj⟩
  | c :: r, 0, n + 1, cs, h => by
    simp only [takeC, Option.map_eq_some_iff] at h
    obtain ⟨cs', h', rfl⟩ := h
    obtain ⟨h1, h2⟩ := takeC_spec r 0 n cs' h'
    refine ⟨by simp [h1], fun j u hj => ?_⟩
    cases j with
    | zero => simpa using hj
    | succ j => have := h2 j u (by simpa using hj); simpa using this

theorem hp_cell {X : Cx} {w : World} {R : RL} (H : Hp X w R) {i b : Nat} {l : List Value} {e : TypeId} {fz : Nat × Nat} {A : HL} (hR : R[i]? = some ((b, .cells l.toArray e fz) :: A)) : w.heap[b]? = some (.cells l.toArray e fz) := by
  refine H.holds b _ ?_
  exact List.mem_flatten.2 ⟨_, List.mem_of_getElem? hR, List.mem_cons_self⟩
theorem hp_cellA {X : Cx} {w : World} {R : RL} (H : Hp X w R) {i b : Nat} {o : Obj} {A : HL} (hR : R[i]? = some ((b, o) :: A)) : w.heap[b]? = some o := by
  refine H.holds b _ ?_
  exact List.mem_flatten.2 ⟨_, List.mem_of_getElem? hR, List.mem_cons_self⟩

/-- Own block number i is read. -/
theorem g_ld (i : Nat) {ti : Ti} {b o : Nat} {l cs : List Value} {e : TypeId} {fz : Nat × Nat} {A : HL} (hR : R[i]? = some ((b, .cells ⟨l⟩ e fz) :: A)) (hx : ev L x = some (.pointer (some ⟨b, o, none⟩))) (ht : tl X.s.tab t = some ti)
    (hc : takeC l o ti.sz = some cs) (hv : asV ti.k cs = some v) (hN : Nat.blt d X.N = true) (k : G X ops Q rest ((d, v) :: L) R) :
    G X ops Q (⟨some d, .load t x, ty, p, af, none⟩ :: rest) L R := by
  obtain ⟨h1, h2⟩ := takeC_spec _ _ _ _ hc
  refine g_ldG hx ht h1 hv (fun w hE j u hj => ?_) hN k
  have hb := hp_cell hE hR
  simp only [World.cell?, hb]
  simpa using h2 j u hj

/-- Old memory is read. -/
theorem g_ldO {ti : Ti} {b o : Nat} {cs : List Value} (hx : ev L x = some (.pointer (some ⟨b, o, none⟩))) (ht : tl X.s.tab t = some ti) (hl : cs.length = ti.sz) (hv : asV ti.k cs = some v)
    (hc : ∀ j u, cs[j]? = some u → cellAt (Oldh X) b (o + j) = some u) (hN : Nat.blt d X.N = true) (k : G X ops Q rest ((d, v) :: L) R) :
    G X ops Q (⟨some d, .load t x, ty, p, af, none⟩ :: rest) L R :=
  g_ldG hx ht hl hv (fun w hE j u hj => by rw [← cellAt_hw]; exact (old_le hE).cell (hc j u hj)) hN k

/-! ### Writing -/
theorem run_store {P : Program} {w : World} {b o : Nat} {c : Array Value} {e : TypeId} (v : Value) (hb : w.heap[b]? = some (.cells c e (0, 0))) (ho : o < c.size) (hv : v.oneCell' = true) :
    (store ⟨b, o, none⟩ v).run P w = .ok () (w.setCell ⟨b, o, none⟩ v) := by
  have hc : w.cell? ⟨b, o, none⟩ = some c[o] := by simp [World.cell?, hb, ho]
  have hf : w.frozen? ⟨b, o, none⟩ = false := by simp [World.frozen?, hb]
  cases v <;> simp [Value.oneCell'] at hv <;> simp [store, Sem.run, hc, hf]

def putC : List Value → Nat → List Value → List Value
  | l, _, [] => l
  | l, o, v :: vs => putC (l.set o v) (o + 1) vs

theorem run_storeCells {P : Program} {b : Nat} {e : TypeId} : ∀ (vs : List Value) (l : List Value) (o i : Nat) (w : World), w.heap[b]? = some (.cells l.toArray e (0, 0)) → o + i + vs.length ≤ l.length → (∀ v ∈ vs, v.oneCell' = true) →
    ∃ w', (storeCells ⟨b, o, none⟩ vs i).run P w = .ok () w' ∧ Eff w [(b, .cells l.toArray e (0, 0))] w' [(b, .cells (putC l (o + i) vs).toArray e (0, 0))]
  | [], l, o, i, w, hb, _, _ => ⟨w, by simp [storeCells], by simp only [putC]; exact Eff.put hb hb (fun _ _ => rfl) rfl rfl rfl rfl⟩
  | v :: vs, l, o, i, w, hb, hlen, hv => by
    simp only [List.length_cons] at hlen
    have h1 := run_store (P := P) (o := o + i) v hb (by simp; omega) (hv v List.mem_cons_self)
    have E1 := Eff.setCell (off := o + i) hb v
    have e1 : l.toArray.setIfInBounds (o + i) v = (l.set (o + i) v).toArray := by simp
    rw [e1] at E1
    obtain ⟨w', h2, E2⟩ := run_storeCells (P := P) vs (l.set (o + i) v) o (i + 1) (w.setCell ⟨b, o + i, none⟩ v) (E1.holds _ _ List.mem_cons_self) (by simp; omega) (fun u hu => hv u (List.mem_cons_of_mem _ hu))
    refine ⟨w', ?_, ?_⟩
    · simp only [storeCells, Sem.run_bind, addr_add, h1, Result.andThen_ok, h2]
    · have E3 := Eff.seq (F := []) (by simpa using E1) E2
      simp only [List.append_nil] at E3
      exact E3

theorem run_storeAt {P : Program} {w : World} {t : TypeId} {x : Ti} {b o : Nat} {l : List Value} {e : TypeId} {v : Value} (ht : tiOf P t = some x) (hl : v.cells.size = x.sz) (hb : w.heap[b]? = some (.cells l.toArray e (0, 0)))
    (hlen : o + x.sz ≤ l.length) (hv : ∀ u ∈ v.cells.toList, u.oneCell' = true) :
    ∃ w', (Instr.storeAt t (.pointer (some ⟨b, o, none⟩)) v).run P w = .ok () w' ∧ Eff w [(b, .cells l.toArray e (0, 0))] w' [(b, .cells (putC l o v.cells.toList).toArray e (0, 0))] := by
  obtain ⟨w', h, E⟩ := run_storeCells (P := P) (e := e) v.cells.toList l o 0 w hb (by simp [hl]; omega) hv
  refine ⟨w', ?_, by simpa using E⟩
  simp only [Instr.storeAt, Instr.sureAddr, storeVar, Sem.run_bind, run_pure', Result.andThen_ok, run_sizeOf ht, hl]
  simpa using h

/-- A step that takes the front part of what one owns for its own. -/
theorem hp_front {X : Cx} {w w' : World} {R : RL} {A A' : HL} (i : Nat) (hR : R[i]? = some A) (H : Hp X w R) (E : Eff w A w' A') : Hp X w' (R.set i A') := by
  have H1 := hp_pick i hR H
  have H2 : Eff X.w0 X.A0 w' (A' ++ (R.eraseIdx i).flatten) := Eff.seq H1 E
  refine Eff.sel H2 [] ?_
  have hlt : i < R.length := (List.getElem?_eq_some_iff.1 hR).1
  have := perm_pick (R.set i A') i A' (by simp [hlt])
  rw [List.eraseIdx_set_eq] at this
  simpa using this.symm

/-- Own block number i is written. -/
theorem g_st (i : Nat) {ti : Ti} {b o : Nat} {l : List Value} {e : TypeId} (hR : R[i]? = some [(b, .cells ⟨l⟩ e (0, 0))]) (hx : ev L x = some (.pointer (some ⟨b, o, none⟩))) (hy : ev L y = some v) (ht : tl X.s.tab t = some ti)
    (hl : v.cells.size = ti.sz) (hlen : Nat.ble (o + ti.sz) l.length = true) (hv : (v.cells.toList.all (·.oneCell')) = true)
    (k : G X ops Q rest L (R.set i [(b, .cells ⟨putC l o v.cells.toList⟩ e (0, 0))])) :
    G X ops Q (⟨none, .store t x y, ty, p, af, none⟩ :: rest) L R :=
  g_runU (Y := Unit) (fun _ => R.set i [(b, .cells ⟨putC l o v.cells.toList⟩ e (0, 0))]) (fun _ => True) rfl rfl (by intro c h; cases h)
    (fun a w ha hE => by
      have hb := hp_cellA hE hR
      obtain ⟨w', h, E⟩ := run_storeAt (X.s.ok.at ht) hl hb (Nat.le_of_ble_eq_true hlen) (List.all_eq_true.1 hv)
      refine ⟨(), w', .inl ?_, hp_front i hR hE E, trivial⟩
      simp only [execOp]
      rw [ha.kn.ev hx, ha.kn.ev hy]
      simp [h]) (fun _ _ => k)

/-! ### Calls -/
def Cl (P : Program) (g : FuncId) : Prop := ∀ args w, (callFunc g args).run P w = .ok (.enter g args) w
theorem Cl.of {P : Program} {g : FuncId} {fn : Func} (hf : P.funcs[g]? = some fn) (hn : (fn.name == "runtime.NumGoroutine") = false) (hb : fn.body.isNone = false) : Cl P g := fun args w => by
  simp only [callFunc, program, Sem.run_bind, Sem.run, Result.andThen_ok, hf, hn, hb, Bool.false_eq_true, if_false]
  rfl

/-- A contract: of own memory A; what comes of it is told by y. -/
def Sp {Y : Type} (P : Program) (g : FuncId) (args : List Value) (w : World) (A : HL) (v : Y → Value) (A' : Y → RL) (post : Y → Prop) : Prop :=
  Calls P g args.toArray w (fun e w' => ∃ y, post y ∧ e = .returned (v y) ∧ Eff w A w' (A' y).flatten)

theorem g_callG {g : FuncId} {f : Operand} {f1 cp : Array Value} {xs : Array Operand} {ats : Array TypeId} {vs gs : List Value} {Y : Type} {vf : Y → Value} {post : Y → Prop} {R' : Y → RL}
    (hf : ev L f = some (.func (.func g) f1 cp)) (hg : Cl X.s.P g) (hxs : evs L xs.toList = some vs) (has : f1.toList ++ vs ++ cp.toList = gs)
    (hc : ∀ w, Hp X w R → Calls X.s.P g gs.toArray w (fun e w' => ∃ y, post y ∧ e = .returned (vf y) ∧ Hp X w' (R' y)))
    (hN : Nat.blt d X.N = true) (k : ∀ y, post y → G X ops Q rest ((d, vf y) :: L) (R' y)) :
    G X ops Q (⟨some d, .call ⟨.value f, xs, ats⟩, ty, p, af, none⟩ :: rest) L R := by
  intro a w ha hE
  refine wpListIn_plain rfl (fun K hK => ?_)
  refine ⟨fun _ _ => trivial, ?_⟩
  rw [Oper.semAt_eq _ _ _ (by intro c h; cases h)]
  have hmap : xs.map a.eval = vs.toArray := by
    have := evs_map (fun x u h => ha.kn.ev h) hxs
    apply Array.ext'; simpa using this
  have hrun : (execOp a.eval ⟨some d, .call ⟨.value f, xs, ats⟩, ty, p, af, none⟩).run X.s.P w = .ok (.enter g gs.toArray) w := by
    have hargs : f1 ++ vs.toArray ++ cp = gs.toArray := by rw [← has]; simp
    simp only [execOp, resolve, hmap, ha.kn.ev hf, Deferred.ofValue, Sem.run_bind, run_pure', Result.andThen_ok, invoke, hargs]
    exact hg _ _
  rw [hrun, Oper.uponIn_enter]
  refine ⟨fun h => by simp [Fence.wide] at h, ?_⟩
  have h1 : CallsIn Fence.wide (X.n - 1) X.s.P g gs.toArray w (fun e w' => ∃ y, post y ∧ e = .returned (vf y) ∧ Hp X w' (R' y)) := callsIn_wide.2 (hc w hE)
  have h2 : CallsIn (Fr X.ro) (X.n - 1) X.s.P g gs.toArray w (fun e w' => ∃ y, post y ∧ e = .returned (vf y) ∧ Hp X w' (R' y)) := h1
  refine CallsIn.mono h2 ?_
  rintro e w' ⟨y, hp, rfl, hh⟩
  exact hK _ _ (k y hp _ _ (ha.put hN _) hh)

/-- A call that only reads and makes. -/
theorem g_call {g : FuncId} {f : Operand} {f1 cp : Array Value} {xs : Array Operand} {ats : Array TypeId} {vs gs : List Value} {Y : Type} {vf : Y → Value} {post : Y → Prop} {A' : Y → RL}
    (hf : ev L f = some (.func (.func g) f1 cp)) (hg : Cl X.s.P g) (hxs : evs L xs.toList = some vs) (has : f1.toList ++ vs ++ cp.toList = gs)
    (hc : ∀ w, Hp X w R → Sp X.s.P g gs w [] vf A' post)
    (hN : Nat.blt d X.N = true) (k : ∀ y, post y → G X ops Q rest ((d, vf y) :: L) (A' y ++ R)) :
    G X ops Q (⟨some d, .call ⟨.value f, xs, ats⟩, ty, p, af, none⟩ :: rest) L R :=
  g_callG hf hg hxs has (fun w hE => (hc w hE).mono (fun e w' ⟨y, hp, he, E⟩ => ⟨y, hp, he, by
    have := Eff.seq0 hE E
    unfold Hp
    rw [List.flatten_append]; exact this⟩)) hN k

/-- A call that is handed what lies ahead in R. -/
theorem g_call1 {g : FuncId} {f : Operand} {f1 cp : Array Value} {xs : Array Operand} {ats : Array TypeId} {vs gs : List Value} {Y : Type} {vf : Y → Value} {post : Y → Prop} {A' : Y → RL} {A F : RL}
    (hR : R = A ++ F)
    (hf : ev L f = some (.func (.func g) f1 cp)) (hg : Cl X.s.P g) (hxs : evs L xs.toList = some vs) (has : f1.toList ++ vs ++ cp.toList = gs)
    (hc : ∀ w, Hp X w R → Sp X.s.P g gs w A.flatten vf A' post)
    (hN : Nat.blt d X.N = true) (k : ∀ y, post y → G X ops Q rest ((d, vf y) :: L) (A' y ++ F)) :
    G X ops Q (⟨some d, .call ⟨.value f, xs, ats⟩, ty, p, af, none⟩ :: rest) L R :=
  g_callG hf hg hxs has (fun w hE => (hc w hE).mono (fun e w' ⟨y, hp, he, E⟩ => ⟨y, hp, he, by
    unfold Hp at hE
    rw [hR, List.flatten_append] at hE
    have := Eff.seq hE E
    unfold Hp
    rw [List.flatten_append]; exact this⟩)) hN k
end
end Go.Wk
