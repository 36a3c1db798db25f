/-
  A small calculus for walking Go code, over any program: what the own memory holds is a list of blocks; what the slots hold is a list of pairs.
  The operations, one rule each: those that need no memory, loads and stores, new blocks, calls.
  Slices: what one owns, appends to, makes, cuts; what one reads of old memory.
  Rows of a library's contracts (Holds, putRow, grow) as memory of one's own.
-/
import Derived.WalkKit
import Derived.CallsIn
import Derived.TacticsIn
import Derived.OrdersHeld
import Derived.Deep.LoopGhost
import Derived.Deep.Draws
import Derived.KernelRfl
import Derived.Laws.AppendOwn
import Derived.Laws.MakeOwn
import Derived.Sort.Grow
import Derived.Lib.SlicesCompact

/- A small calculus for walking Go code, over any program: what the own memory holds is a list of blocks; what the slots hold is a list of pairs. -/
namespace Go.Wk
set_option linter.unusedVariables false
set_option linter.unusedSimpArgs false

abbrev HL := List (Nat × Obj)
abbrev LT := List (Nat × Value)
abbrev Fr (ro : Option Nat) : Fence := { Fence.wide with round := ro }
def ids (A : HL) : List Nat := A.map (·.1)

@[simp] theorem ids_nil : ids [] = [] := rfl
@[simp] theorem ids_cons (p : Nat × Obj) (A : HL) : ids (p :: A) = p.1 :: ids A := rfl
@[simp] theorem ids_append (A B : HL) : ids (A ++ B) = ids A ++ ids B := by simp [ids]
theorem mem_ids {A : HL} {b : Nat} : b ∈ ids A ↔ ∃ o, (b, o) ∈ A := by
  simp only [ids, List.mem_map]
  constructor
  · rintro ⟨⟨b', o⟩, h, rfl⟩; exact ⟨o, h⟩
  · rintro ⟨o, h⟩; exact ⟨(b, o), h, rfl⟩

/-- From w0 on, of which the blocks A0 were handed over: now the world is w, the blocks A are one's own, and nothing else of w0 has turned. -/
structure Eff (w0 : World) (A0 : HL) (w : World) (A : HL) : Prop where
  holds : ∀ b o, (b, o) ∈ A → w.heap[b]? = some o
  nodup : (ids A).Nodup
  fresh : ∀ b, b ∈ ids A → b ∈ ids A0 ∨ w0.heap.size ≤ b
  keep : ∀ b, b < w0.heap.size → b ∉ ids A0 → w.heap[b]? = w0.heap[b]?
  size : w0.heap.size ≤ w.heap.size
  os : w.os = w0.os
  tape : w.tape = w0.tape
  output : w.output = w0.output

theorem Eff.start (w : World) (A : HL) (h : ∀ b o, (b, o) ∈ A → w.heap[b]? = some o) (hn : (ids A).Nodup) : Eff w A w A :=
  ⟨h, hn, fun _ hb => .inl hb, fun _ _ _ => rfl, Nat.le_refl _, rfl, rfl, rfl⟩

theorem Eff.refl (w : World) : Eff w [] w [] := .start w [] (fun _ _ h => by cases h) List.nodup_nil

theorem Eff.lt {w0 w : World} {A0 A : HL} (E : Eff w0 A0 w A) {b : Nat} (h : b ∈ ids A) : b < w.heap.size := by
  obtain ⟨o, ho⟩ := mem_ids.1 h
  exact (Array.getElem?_eq_some_iff.1 (E.holds b o ho)).1

theorem Eff.sel {w0 w : World} {A0 A A' : HL} (E : Eff w0 A0 w A) (B : HL) (h : (A' ++ B).Perm A) : Eff w0 A0 w A' := by
  have hm : ∀ p, p ∈ A' → p ∈ A := fun p hp => h.mem_iff.1 (List.mem_append_left _ hp)
  refine ⟨fun b o hb => E.holds b o (hm _ hb), ?_, fun b hb => ?_, E.keep, E.size, E.os, E.tape, E.output⟩
  · have : ((ids A') ++ ids B).Nodup := by
      rw [← ids_append]
      exact (List.Perm.nodup_iff (List.Perm.map _ h)).2 E.nodup
    exact (List.nodup_append.1 this).1
  · obtain ⟨o, ho⟩ := mem_ids.1 hb
    exact E.fresh b (mem_ids.2 ⟨o, hm _ ho⟩)

/-- What a step or a call does to its own part, it does beside whatever else is there. -/
theorem Eff.seq {w0 w w' : World} {A0 X X' F : HL} (E : Eff w0 A0 w (X ++ F)) (E' : Eff w X w' X') : Eff w0 A0 w' (X' ++ F) := by
  have hXF : (ids X ++ ids F).Nodup := by rw [← ids_append]; exact E.nodup
  have hd := (List.nodup_append.1 hXF).2.2
  have hF : ∀ b, b ∈ ids F → b < w.heap.size ∧ b ∉ ids X := fun b hb =>
    ⟨E.lt (by rw [ids_append]; exact List.mem_append_right _ hb), fun hx => hd b hx b hb rfl⟩
  refine ⟨fun b o hb => ?_, ?_, fun b hb => ?_, fun b hb hn => ?_, Nat.le_trans E.size E'.size, E'.os.trans E.os, E'.tape.trans E.tape, E'.output.trans E.output⟩
  · rcases List.mem_append.1 hb with hb | hb
    · exact E'.holds b o hb
    · obtain ⟨h1, h2⟩ := hF b (mem_ids.2 ⟨o, hb⟩)
      rw [E'.keep b h1 h2]
      exact E.holds b o (List.mem_append_right _ hb)
  · rw [ids_append, List.nodup_append]
    refine ⟨E'.nodup, (List.nodup_append.1 hXF).2.1, fun a ha b hb hab => ?_⟩
    subst hab
    obtain ⟨h1, h2⟩ := hF a hb
    rcases E'.fresh a ha with h | h
    · exact h2 h
    · omega
  · rw [ids_append] at hb
    rcases List.mem_append.1 hb with hb | hb
    · rcases E'.fresh b hb with h | h
      · exact E.fresh b (by rw [ids_append]; exact List.mem_append_left _ h)
      · exact .inr (Nat.le_trans E.size h)
    · exact E.fresh b (by rw [ids_append]; exact List.mem_append_right _ hb)
  · rw [E'.keep b (Nat.lt_of_lt_of_le hb E.size) ?_]
    · exact E.keep b hb hn
    · intro hx
      rcases E.fresh b (by rw [ids_append]; exact List.mem_append_left _ hx) with h | h
      · exact hn h
      · omega

theorem Eff.seq0 {w0 w w' : World} {A0 X' F : HL} (E : Eff w0 A0 w F) (E' : Eff w [] w' X') : Eff w0 A0 w' (X' ++ F) := Eff.seq (X := []) E E'

theorem Eff.drew (w : World) : Eff w [] w.drew [] where
  holds := fun _ _ h => by cases h
  nodup := List.nodup_nil
  fresh := fun _ h => by cases h
  keep := fun _ _ _ => rfl
  size := Nat.le_refl _
  os := rfl
  tape := rfl
  output := rfl

theorem Eff.alloc (w : World) (o : Obj) : Eff w [] (w.alloc o) [(w.heap.size, o)] := by
  refine ⟨fun b o' h => ?_, by simp [ids], fun b h => ?_, fun b hb _ => ?_, by show w.heap.size ≤ (w.heap.push o).size; simp, rfl, rfl, rfl⟩
  · simp only [List.mem_singleton, Prod.mk.injEq] at h
    obtain ⟨rfl, rfl⟩ := h
    show (w.heap.push o')[w.heap.size]? = _
    simp
  · simp [ids] at h
    exact .inr (by omega)
  · show (w.heap.push o)[b]? = _
    rw [Array.getElem?_push, if_neg (by omega)]

/-- One block is put in another one's place. -/
theorem Eff.put {w w' : World} {b : Nat} {o o' : Obj} (h : w.heap[b]? = some o) (hb : w'.heap[b]? = some o') (hk : ∀ k, k ≠ b → w'.heap[k]? = w.heap[k]?)
    (hs : w'.heap.size = w.heap.size) (hos : w'.os = w.os) (ht : w'.tape = w.tape) (ho : w'.output = w.output) : Eff w [(b, o)] w' [(b, o')] := by
  refine ⟨fun k x hx => ?_, by simp [ids], fun k hx => .inl hx, fun k _ hn => ?_, by omega, hos, ht, ho⟩
  · simp only [List.mem_singleton, Prod.mk.injEq] at hx
    obtain ⟨rfl, rfl⟩ := hx
    exact hb
  · exact hk k (by simpa [ids] using hn)

theorem Eff.setCell {w : World} {b off : Nat} {c : Array Value} {t : TypeId} {fz : Nat × Nat} (h : w.heap[b]? = some (.cells c t fz)) (v : Value) :
    Eff w [(b, .cells c t fz)] (w.setCell ⟨b, off, none⟩ v) [(b, .cells (c.setIfInBounds off v) t fz)] := by
  refine Eff.put h ?_ (fun k hk => ?_) (by simp [World.setCell]) rfl rfl rfl
  · simp only [World.setCell, Array.getElem?_modify, if_true, h, Option.map_some]
    simp
  · simp only [World.setCell, Array.getElem?_modify]
    rw [if_neg (by omega)]

theorem Eff.setObj {w : World} {b : Nat} {o o' : Obj} (h : w.heap[b]? = some o) : Eff w [(b, o)] { w with heap := w.heap.setIfInBounds b o' } [(b, o')] := by
  have hlt := (Array.getElem?_eq_some_iff.1 h).1
  refine Eff.put h ?_ (fun k hk => ?_) (by simp) rfl rfl rfl
  · simp [hlt]
  · simp [Array.getElem?_setIfInBounds_ne (Ne.symm hk)]

/-! ### Types -/
inductive Tk where
  | int (k : IntKind) | bool | string | slice (e : TypeId) | map (k e : TypeId) | pointer (e : TypeId) | struct (fs : List (Nat × TypeId)) | array (n : Nat) (e : TypeId) | func | iface | other

def tkOf : TypeDesc → Tk
  | .int k => .int k
  | .bool => .bool
  | .string => .string
  | .slice e => .slice e
  | .map k e => .map k e
  | .pointer e => .pointer e
  | .struct fs => .struct (fs.toList.map fun f => (f.offset, f.type))
  | .array n e => .array n e
  | .func .. => .func
  | .interface _ => .iface
  | _ => .other

structure Ti where
  k : Tk
  z : Value
  sz : Nat
  by' : Nat

def tiOf (P : Program) (t : TypeId) : Option Ti :=
  match P.underlying t, P.info? t with
  | some d, some i => match i.zero with
    | some z => some ⟨tkOf d, z, i.size, i.bytes⟩
    | none => none
  | _, _ => none

def tl : List (Nat × Ti) → Nat → Option Ti
  | [], _ => none
  | (j, v) :: r, i => bif Nat.beq j i then some v else tl r i

def TbOk (P : Program) (tab : List (Nat × Ti)) : Prop := tab.map (fun p => tiOf P p.1) = tab.map (fun p => some p.2)

theorem TbOk.at {P : Program} : ∀ {tab : List (Nat × Ti)}, TbOk P tab → ∀ {t : Nat} {i : Ti}, tl tab t = some i → tiOf P t = some i
  | [], _, _, _, h => by simp [tl] at h
  | (j, v) :: r, ok, t, i, h => by
    simp only [TbOk, List.map_cons, List.cons.injEq] at ok
    simp only [tl] at h
    by_cases hj : Nat.beq j t = true
    · rw [hj] at h
      have hjt := Nat.eq_of_beq_eq_true hj
      subst hjt
      rw [ok.1]; exact h
    · simp only [Bool.not_eq_true] at hj
      rw [hj] at h
      exact TbOk.at (show TbOk P r from ok.2) h

theorem tiOf_spec {P : Program} {t : TypeId} {x : Ti} (h : tiOf P t = some x) : ∃ d i, P.underlying t = some d ∧ P.info? t = some i ∧ tkOf d = x.k ∧ i.zero = some x.z ∧ i.size = x.sz ∧ i.bytes = x.by' := by
  unfold tiOf at h
  split at h
  · rename_i d i hd hi
    split at h
    · rename_i z hz
      obtain rfl := Option.some.inj h
      exact ⟨d, i, hd, hi, rfl, hz, rfl, rfl⟩
    · cases h
  · cases h

/-! ### Slots -/
def lk : LT → Nat → Option Value
  | [], _ => none
  | (j, v) :: r, i => bif Nat.beq j i then some v else lk r i

def Kn (a : Act) (L : LT) : Prop := ∀ i v, lk L i = some v → a.tmps.getD i undef = v

def ev (L : LT) : Operand → Option Value
  | .tmp t => lk L t
  | .const v => some v
  | .global g => some (.pointer (some ⟨g, 0, none⟩))
  | .func f => some (.func (.func f) #[] #[])

theorem Kn.ev {a : Act} {L : LT} (h : Kn a L) {x : Operand} {v : Value} (hx : ev L x = some v) : a.eval x = v := by
  cases x with
  | tmp t => exact h t v hx
  | const u => simpa [Wk.ev, Act.eval] using hx
  | global g => simpa [Wk.ev, Act.eval] using hx
  | func f => simpa [Wk.ev, Act.eval] using hx

theorem Kn.put {a : Act} {L : LT} (h : Kn a L) {d : Nat} (hd : d < a.tmps.size) (v : Value) : Kn (a.put (some d) v) ((d, v) :: L) := by
  intro i u hu
  simp only [lk] at hu
  simp only [Act.put]
  by_cases hi : Nat.beq d i = true
  · rw [hi] at hu
    have := Nat.eq_of_beq_eq_true hi
    subst this
    simp only [cond_true, Option.some.injEq] at hu
    subst hu
    simp [hd]
  · simp only [Bool.not_eq_true] at hi
    rw [hi] at hu
    have hne := Nat.ne_of_beq_eq_false hi
    simp only [cond_false] at hu
    rw [← h i u hu]
    simp only [Array.getD_eq_getD_getElem?]
    rw [Array.getElem?_setIfInBounds_ne hne]

def subL (L : LT) : LT → Prop
  | [] => True
  | (i, v) :: r => lk L i = some v ∧ subL L r

theorem subL.kn {L : LT} {a : Act} (h : Kn a L) : ∀ {L' : LT}, subL L L' → Kn a L'
  | [], _ => fun i v hi => by simp [lk] at hi
  | (j, u) :: r, hs => by
    intro i v hi
    simp only [lk] at hi
    by_cases hj : Nat.beq j i = true
    · rw [hj] at hi
      have := Nat.eq_of_beq_eq_true hj
      subst this
      simp only [cond_true, Option.some.injEq] at hi
      subst hi
      exact h _ _ hs.1
    · simp only [Bool.not_eq_true] at hj
      rw [hj] at hi
      exact subL.kn h hs.2 i v hi

/-! ### The frame of a walk -/
structure Sx where
  P : Program
  tab : List (Nat × Ti)
  ok : TbOk P tab

structure Cx where
  s : Sx
  ro : Option Nat
  n : Nat
  N : Nat
  ds : List Deferred
  w0 : World
  A0 : HL

structure Ok (X : Cx) (a : Act) (L : LT) : Prop where
  size : a.tmps.size = X.N
  defers : a.defers = X.ds
  kn : Kn a L

abbrev Post := Exit → Act → World → Prop
abbrev RL := List HL
def Hp (X : Cx) (w : World) (R : RL) : Prop := Eff X.w0 X.A0 w R.flatten
/-- Of the operations left in a region. -/
def G (X : Cx) (ops : Array Oper) (Q : Post) (rest : List Oper) (L : LT) (R : RL) : Prop :=
  ∀ a w, Ok X a L → Hp X w R → wpListIn (Fr X.ro) X.n X.s.P ops Q rest a w
/-- Of code. -/
def GC (X : Cx) (c : Code) (Q : Post) (L : LT) (R : RL) : Prop :=
  ∀ a w, Ok X a L → Hp X w R → c.wpIn (Fr X.ro) X.n X.s.P Q a w
/-- Of an end. -/
def GQ (X : Cx) (Q : Post) (e : Exit) (L : LT) (R : RL) : Prop := ∀ a w, Ok X a L → Hp X w R → Q e a w
/-- What holds at some place. -/
def At (X : Cx) {Y : Type} (post : Y → Prop) (L : Y → LT) (R : Y → RL) : Act → World → Prop := fun a w => ∃ y, post y ∧ Ok X a (L y) ∧ Hp X w (R y)

theorem Ok.put {X : Cx} {a : Act} {L : LT} (h : Ok X a L) {d : Nat} (hd : Nat.blt d X.N = true) (v : Value) : Ok X (a.put (some d) v) ((d, v) :: L) := by
  have hlt : d < a.tmps.size := by rw [h.size]; exact Nat.lt_of_lt_of_le (Nat.lt_succ_self d) (Nat.le_of_ble_eq_true hd)
  exact ⟨by simp [Act.put, h.size], by simpa [Act.put] using h.defers, h.kn.put hlt v⟩

theorem Ok.none {X : Cx} {a : Act} {L : LT} (h : Ok X a L) (v : Value) : Ok X (a.put .none v) L := h

/-! ### One operation -/
section
variable {X : Cx} {ops : Array Oper} {Q : Post} {rest : List Oper} {L : LT} {R : RL} {o : Oper}

theorem g_run {Y : Type} {d : Nat} (v : Y → Value) (R' : Y → RL) (post : Y → Prop)
    (hd : o.dst = some d) (hg : o.guard = none) (hN : Nat.blt d X.N = true) (hop : ∀ c, o.op ≠ .defer c)
    (hrun : ∀ a w, Ok X a L → Hp X w R → ∃ y w', (execOp a.eval o).run X.s.P w = .ok (.value (v y)) w' ∧ Hp X w' (R' y) ∧ post y)
    (k : ∀ y, post y → G X ops Q rest ((d, v y) :: L) (R' y)) : G X ops Q (o :: rest) L R := by
  intro a w ha hE
  obtain ⟨y, w', hr, hE', hp⟩ := hrun a w ha hE
  refine wpListIn_plain hg (fun K hK => ?_)
  refine ⟨fun _ _ => trivial, ?_⟩
  rw [Oper.semAt_eq _ _ _ hop, hr]
  refine hK _ _ ?_
  rw [hd]
  exact k y hp _ _ (ha.put hN _) hE'

theorem g_runU {Y : Type} (R' : Y → RL) (post : Y → Prop)
    (hd : o.dst = none) (hg : o.guard = none) (hop : ∀ c, o.op ≠ .defer c)
    (hrun : ∀ a w, Ok X a L → Hp X w R → ∃ y w', ((execOp a.eval o).run X.s.P w = .ok .skip w' ∨ ∃ v, (execOp a.eval o).run X.s.P w = .ok (.value v) w') ∧ Hp X w' (R' y) ∧ post y)
    (k : ∀ y, post y → G X ops Q rest L (R' y)) : G X ops Q (o :: rest) L R := by
  intro a w ha hE
  obtain ⟨y, w', hr, hE', hp⟩ := hrun a w ha hE
  refine wpListIn_plain hg (fun K hK => ?_)
  refine ⟨fun _ _ => trivial, ?_⟩
  rw [Oper.semAt_eq _ _ _ hop]
  rcases hr with hr | ⟨v, hr⟩
  · rw [hr]
    refine hK _ _ ?_
    rw [hd]
    exact k y hp _ _ (ha.none _) hE'
  · rw [hr]
    refine hK _ _ ?_
    rw [hd]
    exact k y hp _ _ (ha.none _) hE'

/-- An operation whose value needs no memory. -/
theorem g_pure {d : Nat} (v : Value) (hd : o.dst = some d) (hg : o.guard = none) (hN : Nat.blt d X.N = true) (hop : ∀ c, o.op ≠ .defer c)
    (hrun : ∀ (ρ : Operand → Value) (w : World), (∀ x u, ev L x = some u → ρ x = u) → (execOp ρ o).run X.s.P w = .ok (.value v) w)
    (k : G X ops Q rest ((d, v) :: L) R) : G X ops Q (o :: rest) L R :=
  g_run (Y := Unit) (fun _ => v) (fun _ => R) (fun _ => True) hd hg hN hop (fun a w ha hE => ⟨(), w, hrun _ w (fun _ _ h => ha.kn.ev h), hE, trivial⟩) (fun _ _ => k)

theorem g_nil (h : GQ X Q .normal L R) : G X ops Q [] L R := fun a w ha hE => h a w ha hE

theorem g_case {t : Nat} {b : Bool} (hb : lk L t = some (.bool b)) (ht : b = true → G X ops Q rest ((t, .bool true) :: L) R) (hf : b = false → G X ops Q rest ((t, .bool false) :: L) R) : G X ops Q rest L R := by
  intro a w ha hE
  have key : ∀ c, b = c → Ok X a ((t, .bool c) :: L) := by
    rintro c rfl
    refine ⟨ha.size, ha.defers, fun i v hi => ?_⟩
    simp only [lk] at hi
    by_cases hj : Nat.beq t i = true
    · rw [hj] at hi
      have := Nat.eq_of_beq_eq_true hj
      subst this
      exact ha.kn _ _ (by rw [hb]; exact hi)
    · simp only [Bool.not_eq_true] at hj
      rw [hj] at hi
      exact ha.kn _ _ hi
  cases hbb : b with
  | true => exact ht hbb a w (key _ hbb) hE
  | false => exact hf hbb a w (key _ hbb) hE

/-- A guard that says yes. -/
theorem g_yes {j : Nat} {want : Bool} {t : Nat} {d : Option Tmp} {op : Op} {ty : TypeId} {p : String} {af : Array Edge}
    (hj : (ops[j]?).bind (·.dst) = some t) (hN : Nat.blt t X.N = true) (hb : lk L t = some (.bool want))
    (k : G X ops Q (⟨d, op, ty, p, af, none⟩ :: rest) L R) (hop : ∀ c, op ≠ .defer c := by intro c h; cases h) : G X ops Q (⟨d, op, ty, p, af, some (j, want)⟩ :: rest) L R := by
  intro a w ha hE
  have h := k a w ha hE
  have hlt : t < a.tmps.size := by rw [ha.size]; exact Nat.lt_of_lt_of_le (Nat.lt_succ_self t) (Nat.le_of_ble_eq_true hN)
  have hv : a.tmps[t]? = some (.bool want) := by
    have := ha.kn _ _ hb
    rw [Array.getD_eq_getD_getElem?, Array.getElem?_eq_getElem hlt, Option.getD_some] at this
    rw [Array.getElem?_eq_getElem hlt, this]
  have hw : Region.wanted ⟨d, op, ty, p, af, some (j, want)⟩ (yielded ops a.tmps) = true := by
    simp [Region.wanted, yielded, hj, hv]
  simp only [wpListIn, hw, if_true]
  simp only [wpListIn, Region.wanted, if_true] at h
  refine ⟨fun _ _ => trivial, ?_⟩
  have h2 := h.2
  rw [Oper.semAt_eq _ _ _ hop] at h2 ⊢
  exact h2

/-- A guard that says no. -/
theorem g_no {j : Nat} {want : Bool} {u : Value} {t d : Nat} {op : Op} {ty : TypeId} {p : String} {af : Array Edge}
    (hj : (ops[j]?).bind (·.dst) = some t) (hN : Nat.blt t X.N = true) (hb : lk L t = some u) (hne : (match u with | .bool b => b == want | _ => false) = false) (hd : Nat.blt d X.N = true)
    (k : G X ops Q rest ((d, undef) :: L) R) : G X ops Q (⟨some d, op, ty, p, af, some (j, want)⟩ :: rest) L R := by
  intro a w ha hE
  have hlt : t < a.tmps.size := by rw [ha.size]; exact Nat.lt_of_lt_of_le (Nat.lt_succ_self t) (Nat.le_of_ble_eq_true hN)
  have hv : a.tmps[t]? = some u := by
    have := ha.kn _ _ hb
    rw [Array.getD_eq_getD_getElem?, Array.getElem?_eq_getElem hlt, Option.getD_some] at this
    rw [Array.getElem?_eq_getElem hlt, this]
  have hw : Region.wanted ⟨some d, op, ty, p, af, some (j, want)⟩ (yielded ops a.tmps) = false := by
    simp only [Region.wanted, yielded, hj, hv, Option.bind_some]
    cases u with
    | bool b => have : b ≠ want := fun h => by subst h; simp at hne
                simp [this]
    | _ => rfl
  simp only [wpListIn, hw]
  exact ⟨fun _ _ => trivial, k _ _ (ha.put hd _) hE⟩

end

/-! ### Code -/
section
variable {X : Cx} {Q : Post} {L : LT} {R : RL}

theorem gc_seq {x y : Code} (h : GC X x (Exit.then (y.wpIn (Fr X.ro) X.n X.s.P Q) Q) L R) : GC X (.seq x y) Q L R :=
  fun a w ha hE => wpIn_seq (h a w ha hE)
/-- A halt between two: what holds there. -/
theorem gc_cut {x y : Code} {Y : Type} (post : Y → Prop) (L' : Y → LT) (R' : Y → RL) (h1 : GC X x (Exit.then (At X post L' R') Q) L R)
    (h2 : ∀ z, post z → GC X y Q (L' z) (R' z)) : GC X (.seq x y) Q L R :=
  fun a w ha hE => wpIn_seq (wpIn_mono (h1 a w ha hE) (fun e a w hq => by
    cases e with
    | normal => obtain ⟨z, hp, hok, hh⟩ := hq; exact h2 z hp a w hok hh
    | _ => exact hq))
theorem gc_region {id : Nat} {l : List Oper} (h : G X l.toArray Q l L R) : GC X (.region id l.toArray false) Q L R :=
  fun a w ha hE => wpIn_region_lit (h a w ha hE)
theorem gc_cond {c : Operand} {x y : Code} {b : Bool} (hc : ev L c = some (.bool b)) (ht : b = true → GC X x Q L R) (hf : b = false → GC X y Q L R) : GC X (.cond c x y) Q L R :=
  fun a w ha hE => wpIn_cond_split (ha.kn.ev hc) (fun h => ht h a w ha hE) (fun h => hf h a w ha hE)
theorem gc_block {id : Nat} {c : Code} (h : GC X c (Exit.inBlock id Q) L R) : GC X (.block id c) Q L R :=
  fun a w ha hE => wpIn_block (h a w ha hE)
theorem gc_skip (h : GQ X Q .normal L R) : GC X .skip Q L R := fun a w ha hE => wpIn_skip (h a w ha hE)
theorem gc_exit {id : Nat} (h : GQ X Q (.exit id) L R) : GC X (.exit id) Q L R := fun a w ha hE => wpIn_exit (h a w ha hE)
theorem gc_ret (h : GQ X Q .ret L R) : GC X .ret Q L R := fun a w ha hE => wpIn_ret (h a w ha hE)
theorem gq_then {c : Code} (h : GC X c Q L R) : GQ X (Exit.then (c.wpIn (Fr X.ro) X.n X.s.P Q) Q) .normal L R := fun a w ha hE => h a w ha hE
theorem gq_then_exit {K : Act → World → Prop} {id : Nat} (h : GQ X Q (.exit id) L R) : GQ X (Exit.then K Q) (.exit id) L R := fun a w ha hE => h a w ha hE
theorem gq_then_ret {K : Act → World → Prop} (h : GQ X Q .ret L R) : GQ X (Exit.then K Q) .ret L R := fun a w ha hE => h a w ha hE
theorem gq_block {id : Nat} (h : GQ X Q .normal L R) : GQ X (Exit.inBlock id Q) .normal L R := fun a w ha hE => h a w ha hE
theorem gq_block_ret {id : Nat} (h : GQ X Q .ret L R) : GQ X (Exit.inBlock id Q) .ret L R := fun a w ha hE => h a w ha hE
theorem gq_block_exit {id : Nat} (h : GQ X Q .normal L R) : GQ X (Exit.inBlock id Q) (.exit id) L R := fun a w ha hE => by
  show (if id = id then Q .normal a w else _)
  rw [if_pos rfl]; exact h a w ha hE
theorem gq_at {Y : Type} {post : Y → Prop} {L' : Y → LT} {R' : Y → RL} (y : Y) (hp : post y) (hL : subL L (L' y)) (hR : ∀ w, Hp X w R → Hp X w (R' y)) :
    GQ X (Exit.then (At X post L' R') Q) .normal L R := fun _ w ha hE => ⟨y, hp, ⟨ha.size, ha.defers, subL.kn ha.kn hL⟩, hR w hE⟩

/-- What a round hands on. -/
def Again (X : Cx) {Y : Type} (post : Y → Prop) (L : Y → LT) (R : Y → RL) (μ : Y → Nat) (m : Nat) : Act → World → Prop := fun a w => ∃ y, post y ∧ μ y < m ∧ Ok X a (L y) ∧ Hp X w (R y)

theorem gc_loop {c : Code} {Y : Type} (post : Y → Prop) (Lf : Y → LT) (Rf : Y → RL) (μ : Y → Nat) (y0 : Y) (hp : post y0) (hL : subL L (Lf y0)) (hR : ∀ w, Hp X w R → Hp X w (Rf y0))
    (round : ∀ y, post y → GC X c (Exit.then (Again X post Lf Rf μ (μ y)) Q) (Lf y) (Rf y)) : GC X (.loop c) Q L R := by
  intro a w ha hE
  refine wpIn_loop (fun a w => ∃ n, ∃ y, μ y = n ∧ post y ∧ Ok X a (Lf y) ∧ Hp X w (Rf y)) (fun a w => leastOf (fun n => ∃ y, μ y = n ∧ post y ∧ Ok X a (Lf y) ∧ Hp X w (Rf y)))
    ⟨μ y0, y0, rfl, hp, ⟨ha.size, ha.defers, subL.kn ha.kn hL⟩, hR w hE⟩ ?_
  intro a w hI
  obtain ⟨⟨y, hy, hpy, hok, hh⟩, _⟩ := leastOf_spec hI
  refine wpIn_mono (round y hpy a w hok hh) ?_
  intro e a' w' hq
  cases e with
  | normal =>
    obtain ⟨y', hp', hlt, hok', hh'⟩ := hq
    refine ⟨⟨μ y', y', rfl, hp', hok', hh'⟩, ?_⟩
    have hI' : ∃ n, ∃ y, μ y = n ∧ post y ∧ Ok X a' (Lf y) ∧ Hp X w' (Rf y) := ⟨μ y', y', rfl, hp', hok', hh'⟩
    refine Nat.lt_of_le_of_lt ((leastOf_spec hI').2 (μ y') ⟨y', rfl, hp', hok', hh'⟩) ?_
    rw [← hy]; exact hlt
  | exit id => exact hq
  | goto l => exact hq
  | ret => exact hq
  | panic ch => exact hq
  | outgrown => exact hq

theorem gq_again {Y : Type} {post : Y → Prop} {Lf : Y → LT} {Rf : Y → RL} {μ : Y → Nat} {m : Nat} (y : Y) (hp : post y) (hμ : μ y < m) (hL : subL L (Lf y)) (hR : ∀ w, Hp X w R → Hp X w (Rf y)) :
    GQ X (Exit.then (Again X post Lf Rf μ m) Q) .normal L R := fun _ w ha hE => ⟨y, hp, hμ, ⟨ha.size, ha.defers, subL.kn ha.kn hL⟩, hR w hE⟩
end

/-! ### Choosing among one's blocks -/
theorem perm_pick : ∀ (R : RL) (i : Nat) (A : HL), R[i]? = some A → (A ++ (R.eraseIdx i).flatten).Perm R.flatten
  | [], i, A, h => by simp at h
  | B :: R, 0, A, h => by simp at h; subst h; simp
  | B :: R, i + 1, A, h => by
    simp only [List.getElem?_cons_succ] at h
    have ih := perm_pick R i A h
    simp only [List.eraseIdx_cons_succ, List.flatten_cons]
    refine List.Perm.trans ?_ (List.Perm.append_left B ih)
    rw [← List.append_assoc, ← List.append_assoc]
    exact List.Perm.append_right _ List.perm_append_comm

theorem hp_pick {X : Cx} {w : World} {R : RL} {A : HL} (i : Nat) (h : R[i]? = some A) (H : Hp X w R) : Hp X w (A :: R.eraseIdx i) :=
  Eff.sel H [] (by simpa using perm_pick R i A h)
theorem hp_perm {X : Cx} {w : World} {R R' : RL} (H : Hp X w R) (h : R'.flatten.Perm R.flatten) : Hp X w R' := Eff.sel H [] (by simpa using h)
theorem hp_tail {X : Cx} {w : World} {R : RL} {A : HL} (H : Hp X w (A :: R)) : Hp X w R :=
  Eff.sel H A (by simpa using List.perm_append_comm)
theorem hp_drop {X : Cx} {w : World} {R : RL} (i : Nat) (H : Hp X w R) : Hp X w (R.eraseIdx i) := by
  by_cases h : i < R.length
  · exact hp_tail (hp_pick i (List.getElem?_eq_getElem h) H)
  · rw [List.eraseIdx_of_length_le (by omega)]; exact H
theorem hp_nil {X : Cx} {w : World} {R : RL} (H : Hp X w R) : Hp X w [] := Eff.sel H R.flatten (by simp)
/-- Take number i out of R and put it ahead of what comes of the rest. -/
theorem hp_take {X : Cx} {w : World} {R R' : RL} {A : HL} (i : Nat) (h : R[i]? = some A) (k : ∀ {X : Cx} {w : World}, Hp X w (R.eraseIdx i) → Hp X w R') (H : Hp X w R) : Hp X w (A :: R') := by
  have H1 := hp_pick i h H
  have hE : Eff w A w A := Eff.start w A (fun b o hb => H1.holds b o (List.mem_append_left _ hb)) (by
    have := H1.nodup
    rw [List.flatten_cons, ids_append] at this
    exact (List.nodup_append.1 this).1)
  have hA : Eff w (R.eraseIdx i).flatten w (R.eraseIdx i).flatten := Eff.start w _ (fun b o hb => H1.holds b o (List.mem_append_right _ hb)) (by
    have := H1.nodup
    rw [List.flatten_cons, ids_append] at this
    exact (List.nodup_append.1 this).2.1)
  have H2 : Eff w (R.eraseIdx i).flatten w R'.flatten := k (X := { X with w0 := w, A0 := (R.eraseIdx i).flatten }) hA
  have H3 : Eff X.w0 X.A0 w ((R.eraseIdx i).flatten ++ A) := Eff.sel H1 [] (by simpa using List.perm_append_comm)
  have H4 := Eff.seq H3 H2
  exact Eff.sel H4 [] (by simpa using List.perm_append_comm)

section
variable {X : Cx} {ops : Array Oper} {Q : Post} {rest : List Oper} {L : LT} {R R' : RL}
theorem g_heap (h : ∀ w, Hp X w R → Hp X w R') (k : G X ops Q rest L R') : G X ops Q rest L R := fun a w ha hE => k a w ha (h w hE)
theorem gc_heap {c : Code} (h : ∀ w, Hp X w R → Hp X w R') (k : GC X c Q L R') : GC X c Q L R := fun a w ha hE => k a w ha (h w hE)
end

/-! ### In and out of a function -/
def zipL : Nat → List Value → LT
  | _, [] => []
  | i, v :: r => (i, v) :: zipL (i + 1) r

theorem lk_zipL (args : List Value) : ∀ (i k : Nat) (v : Value), lk (zipL i args) k = some v → ∃ j, k = i + j ∧ args[j]? = some v := by
  induction args with
  | nil => intro i k v h; simp [zipL, lk] at h
  | cons u r ih =>
    intro i k v h
    simp only [zipL, lk] at h
    by_cases hi : Nat.beq i k = true
    · rw [hi] at h
      have := Nat.eq_of_beq_eq_true hi
      subst this
      exact ⟨0, rfl, by simpa using h⟩
    · simp only [Bool.not_eq_true] at hi
      rw [hi] at h
      obtain ⟨j, rfl, hj⟩ := ih (i + 1) k v h
      exact ⟨j + 1, by omega, by simpa using hj⟩

theorem enter {s : Sx} {f : FuncId} {fn : Func} {c : Code} {args : List Value} {w : World} {Rp : Ending → World → Prop} (A0 : RL) {N : Nat}
    (hf : s.P.funcs[f]? = some fn) (hb : fn.body = some c) (hN : fn.ntmps = N) (hlen : Nat.ble args.length N = true)
    (hE : Eff w A0.flatten w A0.flatten)
    (h : GC ⟨s, none, 0, N, [], w, A0.flatten⟩ c (bodyPost s.P fn Rp) (zipL 0 args) A0) : Calls s.P f args.toArray w Rp := by
  have hle := Nat.le_of_ble_eq_true hlen
  refine calls_of_wp hf hb ?_
  refine (wpIn_wide (n := 0)).1 ?_
  refine h _ w ⟨?_, rfl, ?_⟩ hE
  · simp [hN]; omega
  · intro i v hi
    obtain ⟨j, rfl, hj⟩ := lk_zipL args 0 i v hi
    have hlt : j < args.length := (List.getElem?_eq_some_iff.1 hj).1
    simp only [Nat.zero_add, Array.getD_eq_getD_getElem?]
    rw [Array.getElem?_append_left (by simpa using hlt)]
    simp [hj]

section
variable {X : Cx} {fn : Func} {Rp : Ending → World → Prop} {L : LT} {R : RL}
theorem gq_ret {e : Exit} (he : e = .normal ∨ e = .ret) (hds : X.ds = []) (v : Value) (hr : ∀ a w, Ok X a L → Hp X w R → (results fn a.tmps).run X.s.P w = .ok v w)
    (k : ∀ w, Hp X w R → Rp (.returned v) w) : GQ X (bodyPost X.s.P fn Rp) e L R := by
  intro a w ha hE
  rcases he with rfl | rfl <;> exact ⟨ha.defers.trans hds, v, hr a w ha hE, k w hE⟩
theorem gq_ret0 {e : Exit} (he : e = .normal ∨ e = .ret) (hds : X.ds = []) (hfn : fn.results = #[]) (k : ∀ w, Hp X w R → Rp (.returned (.tuple #[])) w) : GQ X (bodyPost X.s.P fn Rp) e L R :=
  gq_ret he hds _ (fun a w _ _ => results_none hfn a.tmps X.s.P w) k
theorem gq_ret1 {e : Exit} (he : e = .normal ∨ e = .ret) (hds : X.ds = []) {t : Tmp} (hfn : fn.results = #[.tmp t]) {v : Value} (hv : lk L t = some v) (k : ∀ w, Hp X w R → Rp (.returned v) w) : GQ X (bodyPost X.s.P fn Rp) e L R :=
  gq_ret he hds v (fun a w ha _ => by rw [results_tmp hfn, ha.kn _ _ hv]) k
theorem gq_ret2 {e : Exit} (he : e = .normal ∨ e = .ret) (hds : X.ds = []) {t u : Tmp} (hfn : fn.results = #[.tmp t, .tmp u]) {v v' : Value} (hv : lk L t = some v) (hv' : lk L u = some v') (k : ∀ w, Hp X w R → Rp (.returned (.tuple #[v, v'])) w) : GQ X (bodyPost X.s.P fn Rp) e L R :=
  gq_ret he hds _ (fun a w ha _ => by rw [results_tmp2 hfn, ha.kn _ _ hv, ha.kn _ _ hv']) k
end

end Go.Wk

/- The operations, one rule each: those that need no memory, loads and stores, new blocks, calls. -/
namespace Go.Wk
set_option linter.unusedVariables false
set_option linter.unusedSimpArgs false

/-- Old memory, but for what was handed over. -/
def Oldh (X : Cx) : Nat → Option Obj := fun b => if b ∈ ids X.A0 then none else X.w0.heap[b]?
def hw (w : World) : Nat → Option Obj := fun b => w.heap[b]?
def cellAt (h : Nat → Option Obj) (b o : Nat) : Option Value := match h b with
  | some (.cells c _ _) => c[o]?
  | _ => none

theorem cellAt_hw (w : World) (b o : Nat) : cellAt (hw w) b o = w.cell? ⟨b, o, none⟩ := by
  unfold cellAt hw World.cell?
  cases w.heap[b]? with
  | none => rfl
  | some x => cases x <;> rfl

theorem old_hw {X : Cx} {w : World} {A : HL} (E : Eff X.w0 X.A0 w A) {b : Nat} {o : Obj} (h : Oldh X b = some o) : hw w b = some o := by
  unfold Oldh at h
  split at h
  · cases h
  · rename_i hn
    unfold hw
    rw [E.keep b (Array.getElem?_eq_some_iff.1 h).1 hn]
    exact h

/-- Whatever is so in h1 is so in h2. -/
def Hle (h1 h2 : Nat → Option Obj) : Prop := ∀ b o, h1 b = some o → h2 b = some o
theorem Hle.cell {h1 h2 : Nat → Option Obj} (H : Hle h1 h2) {b o : Nat} {v : Value} (h : cellAt h1 b o = some v) : cellAt h2 b o = some v := by
  unfold cellAt at h ⊢
  split at h
  · rename_i c t f hb; rw [H _ _ hb]; exact h
  · cases h
theorem old_le {X : Cx} {w : World} {R : RL} (H : Hp X w R) : Hle (Oldh X) (hw w) := fun _ _ h => old_hw H h
theorem old_le0 (s : Sx) (w : World) {ro : Option Nat} {n N : Nat} {ds : List Deferred} : Hle (hw w) (Oldh ⟨s, ro, n, N, ds, w, []⟩) := fun b o h => by
  simpa [Oldh, hw] using h

/-- An operation gives v, whatever memory holds. -/
def PR (P : Program) (L : LT) (o : Oper) (v : Value) : Prop := ∀ (ρ : Operand → Value) (w : World), (∀ x u, ev L x = some u → ρ x = u) → (execOp ρ o).run P w = .ok (.value v) w
theorem g_p {X : Cx} {ops : Array Oper} {Q : Post} {rest : List Oper} {L : LT} {R : RL} {d : Nat} {op : Op} {ty : TypeId} {p : String} {af : Array Edge} {v : Value} (h : PR X.s.P L ⟨some d, op, ty, p, af, none⟩ v) (hN : Nat.blt d X.N = true)
    (k : G X ops Q rest ((d, v) :: L) R) (hop : ∀ c, op ≠ .defer c := by intro c h; cases h) : G X ops Q (⟨some d, op, ty, p, af, none⟩ :: rest) L R :=
  g_pure v rfl rfl hN hop h k

theorem run_pure' {α : Type} (P : Program) (a : α) (w : World) : (pure a : Sem α).run P w = .ok a w := rfl

def isA : Tk → Bool
  | .struct _ | .array _ _ => true
  | _ => false

theorem run_isAgg {P : Program} {t : TypeId} {x : Ti} (h : tiOf P t = some x) (w : World) : (isAgg t).run P w = .ok (isA x.k) w := by
  obtain ⟨d, i, hd, _, hk, _⟩ := tiOf_spec h
  rw [← hk]
  unfold isAgg
  cases d <;> simp [run_underlying hd, tkOf, isA]

theorem run_sizeOf {P : Program} {t : TypeId} {x : Ti} (h : tiOf P t = some x) (w : World) : (sizeOf t).run P w = .ok x.sz w := by
  obtain ⟨d, i, _, hi, _, _, hs, _⟩ := tiOf_spec h
  simp [sizeOf, typeInfo, hi, hs]

theorem run_zeroValue {P : Program} {t : TypeId} {x : Ti} (h : tiOf P t = some x) (w : World) : (zeroValue t).run P w = .ok x.z w := by
  obtain ⟨d, i, _, hi, _, hz, _⟩ := tiOf_spec h
  simp [zeroValue, typeInfo, hi, hz]

def evs (L : LT) : List Operand → Option (List Value)
  | [] => some []
  | x :: r => match ev L x, evs L r with
    | some v, some vs => some (v :: vs)
    | _, _ => none

theorem evs_map {L : LT} {ρ : Operand → Value} (h : ∀ x u, ev L x = some u → ρ x = u) : ∀ {xs : List Operand} {vs : List Value}, evs L xs = some vs → xs.map ρ = vs
  | [], vs, he => by simpa [evs] using he
  | x :: r, vs, he => by
    simp only [evs] at he
    split at he
    · rename_i v us hv hus
      obtain rfl := Option.some.inj he
      rw [List.map_cons, h x v hv, evs_map h hus]
    · cases he

section
variable {X : Cx} {ops : Array Oper} {Q : Post} {rest : List Oper} {L : LT} {R : RL} {d : Nat} {x y : Operand} {t : TypeId} {p : String} {af : Array Edge} {v : Value} {ty : TypeId}

theorem p_move (hv : ev L x = some v) : PR X.s.P L (⟨some d, .move x, t, p, af, none⟩ : Oper) (v) :=
  fun ρ w h => by show Result.ok (Next.value (ρ x)) w = _; rw [h x v hv]
theorem p_assign (hv : ev L x = some v) : PR X.s.P L (⟨some d, .assign x, t, p, af, none⟩ : Oper) (v) :=
  fun ρ w h => by show Result.ok (Next.value (ρ x)) w = _; rw [h x v hv]
theorem p_nil? {a : Addr} (hv : ev L x = some (.pointer (some a))) : PR X.s.P L (⟨some d, .nilCheck x, t, p, af, none⟩ : Oper) (.pointer (some a)) :=
  fun ρ w h => by simp only [execOp]; rw [h x _ hv]; rfl
theorem p_pick {c : Operand} {b : Bool} {u : Value} (hc : ev L c = some (.bool b)) (hv : b = true → ev L x = some u) (hv' : b = false → ev L y = some u) : PR X.s.P L (⟨some d, .pick c x y, t, p, af, none⟩ : Oper) (u) :=
  fun ρ w h => by
    simp only [execOp]; rw [h c _ hc]
    cases b with
    | true => show Result.ok (Next.value (ρ x)) w = _; rw [h x _ (hv rfl)]
    | false => show Result.ok (Next.value (ρ y)) w = _; rw [h y _ (hv' rfl)]
def ibin : BinOp → IntKind → Int → Int → Option Value
  | .add, k, a, b => some (.int k (k.wrap (a + b)))
  | .sub, k, a, b => some (.int k (k.wrap (a - b)))
  | .mul, k, a, b => some (.int k (k.wrap (a * b)))
  | .eql, _, a, b => some (.bool (a == b))
  | .neq, _, a, b => some (.bool (a != b))
  | .lss, _, a, b => some (.bool (decide (a < b)))
  | .leq, _, a, b => some (.bool (decide (a ≤ b)))
  | .gtr, _, a, b => some (.bool (decide (a > b)))
  | .geq, _, a, b => some (.bool (decide (a ≥ b)))
  | .and, k, a, b => some (.int k (k.wrap (BitVec.ofInt k.bits a &&& BitVec.ofInt k.bits b).toNat))
  | .or, k, a, b => some (.int k (k.wrap (BitVec.ofInt k.bits a ||| BitVec.ofInt k.bits b).toNat))
  | .xor, k, a, b => some (.int k (k.wrap (BitVec.ofInt k.bits a ^^^ BitVec.ofInt k.bits b).toNat))
  | _, _, _, _ => none

theorem run_bin_int {P : Program} {op : BinOp} {k : IntKind} {a b : Int} {v : Value} (h : ibin op k a b = some v) (t : TypeId) (x y : Operand) (w : World) :
    (do eqGuard op t x y (.int k a) (.int k b); binOp op t (.int k a) (.int k b) : Sem Value).run P w = .ok v w := by
  cases op <;> simp only [ibin, Option.some.injEq, reduceCtorEq] at h <;> subst h <;> simp [eqGuard, binOp, Op.intArith, Op.intCmp, Op.intBits]

theorem p_bin {op : BinOp} {ik : IntKind} {a b : Int} {yt : TypeId} (hx : ev L x = some (.int ik a)) (hy : ev L y = some (.int ik b)) (hv : ibin op ik a b = some v) : PR X.s.P L (⟨some d, .binOp op t x y yt, ty, p, af, none⟩ : Oper) (v) :=
  fun ρ w h => by
    simp only [execOp]; rw [h x _ hx, h y _ hy]
    have h1 := run_bin_int (P := X.s.P) hv t x y w
    rw [Sem.run_bind, h1]; rfl
theorem p_unot {b : Bool} {xt : TypeId} (hx : ev L x = some (.bool b)) : PR X.s.P L (⟨some d, .unOp .not xt x, ty, p, af, none⟩ : Oper) (.bool !b) :=
  fun ρ w h => by simp only [execOp]; rw [h x _ hx]; rfl
theorem p_uneg {ik : IntKind} {a : Int} {xt : TypeId} (hx : ev L x = some (.int ik a)) : PR X.s.P L (⟨some d, .unOp .neg xt x, ty, p, af, none⟩ : Oper) (.int ik (ik.wrap (0 - a))) :=
  fun ρ w h => by simp only [execOp]; rw [h x _ hx]; rfl
theorem p_ext {i : Nat} {vs : Array Value} (hx : ev L x = some (.tuple vs)) (hi : vs[i]? = some v) : PR X.s.P L (⟨some d, .extract x i, ty, p, af, none⟩ : Oper) (v) :=
  fun ρ w h => by simp only [execOp]; rw [h x _ hx]; simp [Instr.extract, hi]
/-- '/' and '%'. -/
theorem p_quo {ik : IntKind} {a b : Int} {yt : TypeId} (hx : ev L x = some (.int ik a)) (hy : ev L y = some (.int ik b)) (hb : b ≠ 0) : PR X.s.P L (⟨some d, .binOp .quo t x y yt, ty, p, af, none⟩ : Oper) (.int ik (ik.wrap (a.tdiv b))) :=
  fun ρ w h => by
    simp only [execOp]; rw [h x _ hx, h y _ hy]; simp [eqGuard, binOp, Op.intDiv, hb]
theorem g_quo {ik : IntKind} {a b : Int} {yt : TypeId} (hx : ev L x = some (.int ik a)) (hy : ev L y = some (.int ik b)) (hb : b ≠ 0) (hN : Nat.blt d X.N = true) (k : G X ops Q rest ((d, .int ik (ik.wrap (a.tdiv b))) :: L) R) : G X ops Q (⟨some d, .binOp .quo t x y yt, ty, p, af, none⟩ :: rest) L R :=
  g_p (p_quo hx hy hb) hN k
theorem p_rem {ik : IntKind} {a b : Int} {yt : TypeId} (hx : ev L x = some (.int ik a)) (hy : ev L y = some (.int ik b)) (hb : b ≠ 0) : PR X.s.P L (⟨some d, .binOp .rem t x y yt, ty, p, af, none⟩ : Oper) (.int ik (a.tmod b)) :=
  fun ρ w h => by
    simp only [execOp]; rw [h x _ hx, h y _ hy]; simp [eqGuard, binOp, Op.intDiv, hb]
theorem g_rem {ik : IntKind} {a b : Int} {yt : TypeId} (hx : ev L x = some (.int ik a)) (hy : ev L y = some (.int ik b)) (hb : b ≠ 0) (hN : Nat.blt d X.N = true) (k : G X ops Q rest ((d, .int ik (a.tmod b)) :: L) R) : G X ops Q (⟨some d, .binOp .rem t x y yt, ty, p, af, none⟩ :: rest) L R :=
  g_p (p_rem hx hy hb) hN k

theorem tk_slice {P : Program} {t e : TypeId} {z : Value} {s b : Nat} (h : tiOf P t = some ⟨.slice e, z, s, b⟩) : P.underlying t = some (.slice e) := by
  obtain ⟨d, i, hd, _, hk, _⟩ := tiOf_spec h
  cases d <;> simp [tkOf] at hk
  subst hk; exact hd
theorem tk_string {P : Program} {t : TypeId} {z : Value} {s b : Nat} (h : tiOf P t = some ⟨.string, z, s, b⟩) : P.underlying t = some .string := by
  obtain ⟨d, i, hd, _, hk, _⟩ := tiOf_spec h
  cases d <;> first | exact hd | (simp [tkOf] at hk)
theorem tk_bool {P : Program} {t : TypeId} {z : Value} {s b : Nat} (h : tiOf P t = some ⟨.bool, z, s, b⟩) : P.underlying t = some .bool := by
  obtain ⟨d, i, hd, _, hk, _⟩ := tiOf_spec h
  cases d <;> first | exact hd | (simp [tkOf] at hk)
theorem tk_int {P : Program} {t : TypeId} {ik : IntKind} {z : Value} {s b : Nat} (h : tiOf P t = some ⟨.int ik, z, s, b⟩) : P.underlying t = some (.int ik) := by
  obtain ⟨d, i, hd, _, hk, _⟩ := tiOf_spec h
  cases d <;> simp [tkOf] at hk
  subst hk; exact hd
theorem tk_map {P : Program} {t e f : TypeId} {z : Value} {s b : Nat} (h : tiOf P t = some ⟨.map e f, z, s, b⟩) : P.underlying t = some (.map e f) := by
  obtain ⟨d, i, hd, _, hk, _⟩ := tiOf_spec h
  cases d <;> simp [tkOf] at hk
  obtain ⟨rfl, rfl⟩ := hk; exact hd
theorem tk_struct {P : Program} {t : TypeId} {fs : List (Nat × TypeId)} {z : Value} {s b : Nat} (h : tiOf P t = some ⟨.struct fs, z, s, b⟩) : ∃ fl : Array Field, P.underlying t = some (.struct fl) ∧ fl.toList.map (fun f => (f.offset, f.type)) = fs := by
  obtain ⟨d, i, hd, _, hk, _⟩ := tiOf_spec h
  cases d <;> simp [tkOf] at hk
  exact ⟨_, hd, hk⟩

theorem p_lenS {A : Option Addr} {n c : Nat} {e : TypeId} {z : Value} {s b : Nat} (hx : ev L x = some (.slice A n c)) (ht : tl X.s.tab t = some ⟨.slice e, z, s, b⟩) : PR X.s.P L (⟨some d, .call ⟨.builtin .len, #[x], #[t]⟩, ty, p, af, none⟩ : Oper) (.int .i64 n) :=
  fun ρ w h => by
    have hu := tk_slice (X.s.ok.at ht)
    simp only [execOp]
    simp [resolve, invoke, builtin, Builtin.len_, h x _ hx, run_underlying hu, goInt]
theorem p_lenT {A : ByteArray} {z : Value} {s b : Nat} (hx : ev L x = some (.string A)) (ht : tl X.s.tab t = some ⟨.string, z, s, b⟩) : PR X.s.P L (⟨some d, .call ⟨.builtin .len, #[x], #[t]⟩, ty, p, af, none⟩ : Oper) (.int .i64 A.size) :=
  fun ρ w h => by
    have hu := tk_string (X.s.ok.at ht)
    simp only [execOp]
    simp [resolve, invoke, builtin, Builtin.len_, h x _ hx, run_underlying hu, goInt]
/-- A conversion between whole numbers. -/
theorem p_conv {src dst : TypeId} {k1 k2 : IntKind} {a : Int} {z z' : Value} {s b s' b' : Nat} (hx : ev L x = some (.int k1 a)) (ht : tl X.s.tab dst = some ⟨.int k2, z, s, b⟩) (ht' : tl X.s.tab src = some ⟨.int k1, z', s', b'⟩) : PR X.s.P L (⟨some d, .convert src dst x, ty, p, af, none⟩ : Oper) (.int k2 (k2.wrap a)) :=
  fun ρ w h => by
    have hu := tk_int (X.s.ok.at ht)
    have hu' := tk_int (X.s.ok.at ht')
    simp only [execOp]
    simp [convert, h x _ hx, run_underlying hu, run_underlying hu', Conv.intToInt]
theorem p_mkfn {fn : Fn} {f1 cp : Array Operand} {vs us : List Value} (hf : evs L f1.toList = some vs) (hc : evs L cp.toList = some us) : PR X.s.P L (⟨some d, .makeFunc fn f1 cp, ty, p, af, none⟩ : Oper) (.func fn vs.toArray us.toArray) :=
  fun ρ w h => by
    have h1 : f1.map ρ = vs.toArray := by
      have := evs_map h hf
      apply Array.ext'; simpa using this
    have h2 : cp.map ρ = us.toArray := by
      have := evs_map h hc
      apply Array.ext'; simpa using this
    simp [execOp, Instr.makeFunc, h1, h2]
theorem p_max {ik : IntKind} {a b : Int} {ats : Array TypeId} (hx : ev L x = some (.int ik a)) (hy : ev L y = some (.int ik b)) : PR X.s.P L (⟨some d, .call ⟨.builtin .max, #[x, y], ats⟩, ty, p, af, none⟩ : Oper) (.int ik (if b > a then b else a)) :=
  fun ρ w h => by
    simp only [execOp]
    simp [resolve, invoke, builtin, Builtin.max_, Builtin.max2, h x _ hx, h y _ hy]
theorem p_min {ik : IntKind} {a b : Int} {ats : Array TypeId} (hx : ev L x = some (.int ik a)) (hy : ev L y = some (.int ik b)) : PR X.s.P L (⟨some d, .call ⟨.builtin .min, #[x, y], ats⟩, ty, p, af, none⟩ : Oper) (.int ik (if b < a then b else a)) :=
  fun ρ w h => by
    simp only [execOp]
    simp [resolve, invoke, builtin, Builtin.min_, Builtin.min2, h x _ hx, h y _ hy]
/-! ### New blocks of cells -/
theorem run_newVar {P : Program} (t : TypeId) (v : Value) (w : World) : (newVar t v).run P w = .ok ⟨w.heap.size, 0, none⟩ (w.alloc (.cells v.cells t)) := by
  simp only [newVar, newRow, newObj, Sem.run_bind, Sem.run, Result.andThen_ok]
  rfl

theorem hp_alloc {X : Cx} {w : World} {R : RL} (H : Hp X w R) (o : Obj) : Hp X (w.alloc o) ([(w.heap.size, o)] :: R) := Eff.seq0 H (Eff.alloc w o)

theorem g_box {e : TypeId} (hx : ev L x = some v) (hN : Nat.blt d X.N = true) (k : ∀ b, G X ops Q rest ((d, .pointer (some ⟨b, 0, none⟩)) :: L) ([(b, .cells v.cells e (0, 0))] :: R)) :
    G X ops Q (⟨some d, .box e x, ty, p, af, none⟩ :: rest) L R :=
  g_run (Y := Nat) (fun b => .pointer (some ⟨b, 0, none⟩)) (fun b => [(b, .cells v.cells e (0, 0))] :: R) (fun _ => True) rfl rfl hN (by intro c h; cases h)
    (fun a w ha hE => ⟨w.heap.size, w.alloc (.cells v.cells e), by
      simp only [execOp]
      simp [Instr.box, ha.kn.ev hx, run_newVar], hp_alloc hE _, trivial⟩) (fun b _ => k b)

theorem g_alloc {e : TypeId} {ti : Ti} (ht : tl X.s.tab e = some ti) (hN : Nat.blt d X.N = true) (k : ∀ b, G X ops Q rest ((d, .pointer (some ⟨b, 0, none⟩)) :: L) ([(b, .cells ti.z.cells e (0, 0))] :: R)) :
    G X ops Q (⟨some d, .alloc e, ty, p, af, none⟩ :: rest) L R :=
  g_run (Y := Nat) (fun b => .pointer (some ⟨b, 0, none⟩)) (fun b => [(b, .cells ti.z.cells e (0, 0))] :: R) (fun _ => True) rfl rfl hN (by intro c h; cases h)
    (fun a w ha hE => ⟨w.heap.size, w.alloc (.cells ti.z.cells e), by
      simp only [execOp]
      simp [Instr.alloc, run_zeroValue (X.s.ok.at ht), run_newVar], hp_alloc hE _, trivial⟩) (fun b _ => k b)

/-! ### Addresses -/
theorem run_fieldPlace {P : Program} {f : Field} {x : Ti} (h : tiOf P f.type = some x) (hz : x.sz ≠ 0) (a : Addr) (w : World) : (fieldPlace a f).run P w = .ok (a.add f.offset) w := by
  simp [fieldPlace, run_sizeOf h, hz]

theorem addr_add (b o n : Nat) : (⟨b, o, none⟩ : Addr).add n = ⟨b, o + n, none⟩ := by
  unfold Addr.add
  split
  · rename_i h; subst h; rfl
  · rfl

theorem p_fld {st : TypeId} {i : Nat} {b o off : Nat} {ft : TypeId} {fs : List (Nat × TypeId)} {z : Value} {sz by' : Nat} {tf : Ti} (hx : ev L x = some (.pointer (some ⟨b, o, none⟩))) (ht : tl X.s.tab st = some ⟨.struct fs, z, sz, by'⟩)
    (hf : fs[i]? = some (off, ft)) (htf : tl X.s.tab ft = some tf) (hsz : Nat.beq tf.sz 0 = false) : PR X.s.P L (⟨some d, .fieldAddr st x i, ty, p, af, none⟩ : Oper) (.pointer (some ⟨b, o + off, none⟩)) :=
  fun ρ w h => by
    obtain ⟨fl, hu, hfl⟩ := tk_struct (X.s.ok.at ht)
    have hfi : ∃ f, fl[i]? = some f ∧ f.offset = off ∧ f.type = ft := by
      rw [← hfl] at hf
      simp only [List.getElem?_map, Option.map_eq_some_iff, Prod.mk.injEq] at hf
      obtain ⟨f, hf, h1, h2⟩ := hf
      exact ⟨f, by simpa using hf, h1, h2⟩
    obtain ⟨f, hfi, rfl, rfl⟩ := hfi
    have hp := run_fieldPlace (X.s.ok.at htf) (Nat.ne_of_beq_eq_false hsz) ⟨b, o, none⟩ w
    rw [addr_add] at hp
    simp only [execOp]
    simp [Instr.fieldAt, h x _ hx, run_underlying hu, hfi, Instr.sureAddr, hp]
theorem g_fld {st : TypeId} {i : Nat} {b o off : Nat} {ft : TypeId} {fs : List (Nat × TypeId)} {z : Value} {sz by' : Nat} {tf : Ti} (hx : ev L x = some (.pointer (some ⟨b, o, none⟩))) (ht : tl X.s.tab st = some ⟨.struct fs, z, sz, by'⟩)
    (hf : fs[i]? = some (off, ft)) (htf : tl X.s.tab ft = some tf) (hsz : Nat.beq tf.sz 0 = false) (hN : Nat.blt d X.N = true) (k : G X ops Q rest ((d, .pointer (some ⟨b, o + off, none⟩)) :: L) R) : G X ops Q (⟨some d, .fieldAddr st x i, ty, p, af, none⟩ :: rest) L R :=
  g_p (p_fld hx ht hf htf hsz) hN k

theorem run_indexAt {P : Program} {t e : TypeId} {z : Value} {s b : Nat} {te : Ti} (ht : tiOf P t = some ⟨.slice e, z, s, b⟩) (hte : tiOf P e = some te) (a : Addr) (n c : Nat) (ik : IntKind) (i : Int) (h0 : 0 ≤ i) (h1 : i < n) (w : World) :
    (Instr.indexAt t (.slice (some a) n c) (.int ik i)).run P w = .ok (.pointer (some (a.add (i.toNat * te.sz)))) w := by
  simp [Instr.indexAt, asIntOf, run_underlying (tk_slice ht), run_sizeOf hte, h0, h1]

/-- An element's address. -/
theorem p_ix {bx o n c : Nat} {e : TypeId} {z : Value} {s b : Nat} {te : Ti} {ik : IntKind} {i : Int} (hx : ev L x = some (.slice (some ⟨bx, o, none⟩) n c)) (hy : ev L y = some (.int ik i)) (ht : tl X.s.tab t = some ⟨.slice e, z, s, b⟩) (hte : tl X.s.tab e = some te)
    (h0 : 0 ≤ i) (h1 : i < n) : PR X.s.P L (⟨some d, .indexAddr t x y, ty, p, af, none⟩ : Oper) (.pointer (some ⟨bx, o + i.toNat * te.sz, none⟩)) :=
  fun ρ w h => by
    have hr := run_indexAt (X.s.ok.at ht) (X.s.ok.at hte) ⟨bx, o, none⟩ n c ik i h0 h1 w
    rw [addr_add] at hr
    simp only [execOp]
    rw [h x _ hx, h y _ hy]
    simp [hr]
theorem g_ix {bx o n c : Nat} {e : TypeId} {z : Value} {s b : Nat} {te : Ti} {ik : IntKind} {i : Int} (hx : ev L x = some (.slice (some ⟨bx, o, none⟩) n c)) (hy : ev L y = some (.int ik i)) (ht : tl X.s.tab t = some ⟨.slice e, z, s, b⟩) (hte : tl X.s.tab e = some te)
    (h0 : 0 ≤ i) (h1 : i < n) (hN : Nat.blt d X.N = true) (k : G X ops Q rest ((d, .pointer (some ⟨bx, o + i.toNat * te.sz, none⟩)) :: L) R) : G X ops Q (⟨some d, .indexAddr t x y, ty, p, af, none⟩ :: rest) L R :=
  g_p (p_ix hx hy ht hte h0 h1) hN k

/-! ### Reading -/
theorem run_load {P : Program} {w : World} {a : Addr} {v : Value} (h : w.cell? a = some v) : (load a).run P w = .ok v w := by
  simp [load, Sem.run, h]

theorem run_loadCells {P : Program} {w : World} {b : Nat} : ∀ (vs : List Value) (o i : Nat) (acc : Array Value), (∀ j u, vs[j]? = some u → w.cell? ⟨b, o + i + j, none⟩ = some u) →
    (loadCellsFrom ⟨b, o, none⟩ i vs.length acc).run P w = .ok (acc ++ vs.toArray) w
  | [], o, i, acc, _ => by simp [loadCellsFrom]
  | v :: vs, o, i, acc, h => by
    have h0 := h 0 v rfl
    simp only [Nat.add_zero] at h0
    have ih := run_loadCells (P := P) vs o (i + 1) (acc.push v) (fun j u hj => by
      have := h (j + 1) u (by simpa using hj)
      rw [show o + (i + 1) + j = o + i + (j + 1) from by omega]; exact this)
    simp only [List.length_cons, loadCellsFrom, Sem.run_bind, addr_add, run_load h0, Result.andThen_ok, ih]
    simp

/-- What a variable of such a type with these cells reads as. -/
def asV (k : Tk) (cs : List Value) : Option Value := match isA k, cs with
  | true, cs => some (.agg cs.toArray)
  | false, [c] => some c
  | false, _ => none

theorem run_loadAt {P : Program} {w : World} {t : TypeId} {x : Ti} {b o : Nat} {cs : List Value} {v : Value} (ht : tiOf P t = some x) (hl : cs.length = x.sz) (hv : asV x.k cs = some v)
    (hc : ∀ j u, cs[j]? = some u → w.cell? ⟨b, o + j, none⟩ = some u) : (Instr.loadAt t (.pointer (some ⟨b, o, none⟩))).run P w = .ok v w := by
  simp only [Instr.loadAt, Instr.sureAddr, loadVar, Sem.run_bind, run_pure', Result.andThen_ok, run_isAgg ht]
  cases hA : isA x.k with
  | true =>
    simp only [asV, hA] at hv
    obtain rfl := Option.some.inj hv
    have h1 := run_loadCells (P := P) (w := w) (b := b) cs o 0 #[] (by simpa using hc)
    simp only [if_true, loadCells, Sem.run_bind, run_sizeOf ht, Result.andThen_ok, ← hl, h1, run_pure']
    simp
  | false =>
    match cs, hc, hv with
    | [], _, hv => simp [asV, hA] at hv
    | [c], hc, hv =>
      simp only [asV, hA] at hv
      obtain rfl := Option.some.inj hv
      have h0 : w.cell? ⟨b, o, none⟩ = some c := hc 0 c rfl
      simp only [Bool.false_eq_true, if_false]
      exact run_load h0
    | _ :: _ :: _, _, hv => simp [asV, hA] at hv

/-- Memory read by whatever is known of it. -/
theorem g_ldG {ti : Ti} {b o : Nat} {cs : List Value} (hx : ev L x = some (.pointer (some ⟨b, o, none⟩))) (ht : tl X.s.tab t = some ti) (hl : cs.length = ti.sz) (hv : asV ti.k cs = some v)
    (hc : ∀ w, Hp X w R → ∀ j u, cs[j]? = some u → w.cell? ⟨b, o + j, none⟩ = some u) (hN : Nat.blt d X.N = true) (k : G X ops Q rest ((d, v) :: L) R) :
    G X ops Q (⟨some d, .load t x, ty, p, af, none⟩ :: rest) L R :=
  g_run (Y := Unit) (fun _ => v) (fun _ => R) (fun _ => True) rfl rfl hN (by intro c h; cases h)
    (fun a w ha hE => ⟨(), w, by
      simp only [execOp]
      rw [ha.kn.ev hx]
      simp [run_loadAt (X.s.ok.at ht) hl hv (hc w hE)], hE, trivial⟩) (fun _ _ => k)

def takeC : List Value → Nat → Nat → Option (List Value)
  | _, _, 0 => some []
  | [], _, _ + 1 => none
  | _ :: r, o + 1, n + 1 => takeC r o (n + 1)
  | c :: r, 0, n + 1 => (takeC r 0 n).map (c :: ·)

theorem takeC_spec : ∀ (l : List Value) (o n : Nat) (cs : List Value), takeC l o n = some cs → cs.length = n ∧ ∀ j u, cs[j]? = some u → l[o + j]? = some u
  | l, o, 0, cs, h => by
    unfold takeC at h
    have : cs = [] := by cases l <;> cases o <;> simp_all
    subst this; simp
  | [], o, n + 1, cs, h => by simp [takeC] at h
  | c :: r, o + 1, n + 1, cs, h => by
    simp only [takeC] at h
    obtain ⟨h1, h2⟩ := takeC_spec r o (n + 1) cs h
    exact ⟨h1, fun j u hj => by rw [show o + 1 + j = (o + j) + 1 from by omega]; simpa using h2 j u hj⟩
  | c :: r, 0, n + 1, cs, h => by
    simp only [takeC, Option.map_eq_some_iff] at h
    obtain ⟨cs', h', rfl⟩ := h
    obtain ⟨h1, h2⟩ := takeC_spec r 0 n cs' h'
    refine ⟨by simp [h1], fun j u hj => ?_⟩
    cases j with
    | zero => simpa using hj
    | succ j => have := h2 j u (by simpa using hj); simpa using this

theorem hp_cell {X : Cx} {w : World} {R : RL} (H : Hp X w R) {i b : Nat} {l : List Value} {e : TypeId} {fz : Nat × Nat} {A : HL} (hR : R[i]? = some ((b, .cells l.toArray e fz) :: A)) : w.heap[b]? = some (.cells l.toArray e fz) := by
  refine H.holds b _ ?_
  exact List.mem_flatten.2 ⟨_, List.mem_of_getElem? hR, List.mem_cons_self⟩
theorem hp_cellA {X : Cx} {w : World} {R : RL} (H : Hp X w R) {i b : Nat} {o : Obj} {A : HL} (hR : R[i]? = some ((b, o) :: A)) : w.heap[b]? = some o := by
  refine H.holds b _ ?_
  exact List.mem_flatten.2 ⟨_, List.mem_of_getElem? hR, List.mem_cons_self⟩

/-- Own block number i is read. -/
theorem g_ld (i : Nat) {ti : Ti} {b o : Nat} {l cs : List Value} {e : TypeId} {fz : Nat × Nat} {A : HL} (hR : R[i]? = some ((b, .cells ⟨l⟩ e fz) :: A)) (hx : ev L x = some (.pointer (some ⟨b, o, none⟩))) (ht : tl X.s.tab t = some ti)
    (hc : takeC l o ti.sz = some cs) (hv : asV ti.k cs = some v) (hN : Nat.blt d X.N = true) (k : G X ops Q rest ((d, v) :: L) R) :
    G X ops Q (⟨some d, .load t x, ty, p, af, none⟩ :: rest) L R := by
  obtain ⟨h1, h2⟩ := takeC_spec _ _ _ _ hc
  refine g_ldG hx ht h1 hv (fun w hE j u hj => ?_) hN k
  have hb := hp_cell hE hR
  simp only [World.cell?, hb]
  simpa using h2 j u hj

/-- Old memory is read. -/
theorem g_ldO {ti : Ti} {b o : Nat} {cs : List Value} (hx : ev L x = some (.pointer (some ⟨b, o, none⟩))) (ht : tl X.s.tab t = some ti) (hl : cs.length = ti.sz) (hv : asV ti.k cs = some v)
    (hc : ∀ j u, cs[j]? = some u → cellAt (Oldh X) b (o + j) = some u) (hN : Nat.blt d X.N = true) (k : G X ops Q rest ((d, v) :: L) R) :
    G X ops Q (⟨some d, .load t x, ty, p, af, none⟩ :: rest) L R :=
  g_ldG hx ht hl hv (fun w hE j u hj => by rw [← cellAt_hw]; exact (old_le hE).cell (hc j u hj)) hN k

/-! ### Writing -/
theorem run_store {P : Program} {w : World} {b o : Nat} {c : Array Value} {e : TypeId} (v : Value) (hb : w.heap[b]? = some (.cells c e (0, 0))) (ho : o < c.size) (hv : v.oneCell' = true) :
    (store ⟨b, o, none⟩ v).run P w = .ok () (w.setCell ⟨b, o, none⟩ v) := by
  have hc : w.cell? ⟨b, o, none⟩ = some c[o] := by simp [World.cell?, hb, ho]
  have hf : w.frozen? ⟨b, o, none⟩ = false := by simp [World.frozen?, hb]
  cases v <;> simp [Value.oneCell'] at hv <;> simp [store, Sem.run, hc, hf]

def putC : List Value → Nat → List Value → List Value
  | l, _, [] => l
  | l, o, v :: vs => putC (l.set o v) (o + 1) vs

theorem run_storeCells {P : Program} {b : Nat} {e : TypeId} : ∀ (vs : List Value) (l : List Value) (o i : Nat) (w : World), w.heap[b]? = some (.cells l.toArray e (0, 0)) → o + i + vs.length ≤ l.length → (∀ v ∈ vs, v.oneCell' = true) →
    ∃ w', (storeCells ⟨b, o, none⟩ vs i).run P w = .ok () w' ∧ Eff w [(b, .cells l.toArray e (0, 0))] w' [(b, .cells (putC l (o + i) vs).toArray e (0, 0))]
  | [], l, o, i, w, hb, _, _ => ⟨w, by simp [storeCells], by simp only [putC]; exact Eff.put hb hb (fun _ _ => rfl) rfl rfl rfl rfl⟩
  | v :: vs, l, o, i, w, hb, hlen, hv => by
    simp only [List.length_cons] at hlen
    have h1 := run_store (P := P) (o := o + i) v hb (by simp; omega) (hv v List.mem_cons_self)
    have E1 := Eff.setCell (off := o + i) hb v
    have e1 : l.toArray.setIfInBounds (o + i) v = (l.set (o + i) v).toArray := by simp
    rw [e1] at E1
    obtain ⟨w', h2, E2⟩ := run_storeCells (P := P) vs (l.set (o + i) v) o (i + 1) (w.setCell ⟨b, o + i, none⟩ v) (E1.holds _ _ List.mem_cons_self) (by simp; omega) (fun u hu => hv u (List.mem_cons_of_mem _ hu))
    refine ⟨w', ?_, ?_⟩
    · simp only [storeCells, Sem.run_bind, addr_add, h1, Result.andThen_ok, h2]
    · have E3 := Eff.seq (F := []) (by simpa using E1) E2
      simp only [List.append_nil] at E3
      exact E3

theorem run_storeAt {P : Program} {w : World} {t : TypeId} {x : Ti} {b o : Nat} {l : List Value} {e : TypeId} {v : Value} (ht : tiOf P t = some x) (hl : v.cells.size = x.sz) (hb : w.heap[b]? = some (.cells l.toArray e (0, 0)))
    (hlen : o + x.sz ≤ l.length) (hv : ∀ u ∈ v.cells.toList, u.oneCell' = true) :
    ∃ w', (Instr.storeAt t (.pointer (some ⟨b, o, none⟩)) v).run P w = .ok () w' ∧ Eff w [(b, .cells l.toArray e (0, 0))] w' [(b, .cells (putC l o v.cells.toList).toArray e (0, 0))] := by
  obtain ⟨w', h, E⟩ := run_storeCells (P := P) (e := e) v.cells.toList l o 0 w hb (by simp [hl]; omega) hv
  refine ⟨w', ?_, by simpa using E⟩
  simp only [Instr.storeAt, Instr.sureAddr, storeVar, Sem.run_bind, run_pure', Result.andThen_ok, run_sizeOf ht, hl]
  simpa using h

/-- A step that takes the front part of what one owns for its own. -/
theorem hp_front {X : Cx} {w w' : World} {R : RL} {A A' : HL} (i : Nat) (hR : R[i]? = some A) (H : Hp X w R) (E : Eff w A w' A') : Hp X w' (R.set i A') := by
  have H1 := hp_pick i hR H
  have H2 : Eff X.w0 X.A0 w' (A' ++ (R.eraseIdx i).flatten) := Eff.seq H1 E
  refine Eff.sel H2 [] ?_
  have hlt : i < R.length := (List.getElem?_eq_some_iff.1 hR).1
  have := perm_pick (R.set i A') i A' (by simp [hlt])
  rw [List.eraseIdx_set_eq] at this
  simpa using this.symm

/-- Own block number i is written. -/
theorem g_st (i : Nat) {ti : Ti} {b o : Nat} {l : List Value} {e : TypeId} (hR : R[i]? = some [(b, .cells ⟨l⟩ e (0, 0))]) (hx : ev L x = some (.pointer (some ⟨b, o, none⟩))) (hy : ev L y = some v) (ht : tl X.s.tab t = some ti)
    (hl : v.cells.size = ti.sz) (hlen : Nat.ble (o + ti.sz) l.length = true) (hv : (v.cells.toList.all (·.oneCell')) = true)
    (k : G X ops Q rest L (R.set i [(b, .cells ⟨putC l o v.cells.toList⟩ e (0, 0))])) :
    G X ops Q (⟨none, .store t x y, ty, p, af, none⟩ :: rest) L R :=
  g_runU (Y := Unit) (fun _ => R.set i [(b, .cells ⟨putC l o v.cells.toList⟩ e (0, 0))]) (fun _ => True) rfl rfl (by intro c h; cases h)
    (fun a w ha hE => by
      have hb := hp_cellA hE hR
      obtain ⟨w', h, E⟩ := run_storeAt (X.s.ok.at ht) hl hb (Nat.le_of_ble_eq_true hlen) (List.all_eq_true.1 hv)
      refine ⟨(), w', .inl ?_, hp_front i hR hE E, trivial⟩
      simp only [execOp]
      rw [ha.kn.ev hx, ha.kn.ev hy]
      simp [h]) (fun _ _ => k)

/-! ### Calls -/
def Cl (P : Program) (g : FuncId) : Prop := ∀ args w, (callFunc g args).run P w = .ok (.enter g args) w
theorem Cl.of {P : Program} {g : FuncId} {fn : Func} (hf : P.funcs[g]? = some fn) (hn : (fn.name == "runtime.NumGoroutine") = false) (hb : fn.body.isNone = false) : Cl P g := fun args w => by
  simp only [callFunc, program, Sem.run_bind, Sem.run, Result.andThen_ok, hf, hn, hb, Bool.false_eq_true, if_false]
  rfl

/-- A contract: of own memory A; what comes of it is told by y. -/
def Sp {Y : Type} (P : Program) (g : FuncId) (args : List Value) (w : World) (A : HL) (v : Y → Value) (A' : Y → RL) (post : Y → Prop) : Prop :=
  Calls P g args.toArray w (fun e w' => ∃ y, post y ∧ e = .returned (v y) ∧ Eff w A w' (A' y).flatten)

theorem g_callG {g : FuncId} {f : Operand} {f1 cp : Array Value} {xs : Array Operand} {ats : Array TypeId} {vs gs : List Value} {Y : Type} {vf : Y → Value} {post : Y → Prop} {R' : Y → RL}
    (hf : ev L f = some (.func (.func g) f1 cp)) (hg : Cl X.s.P g) (hxs : evs L xs.toList = some vs) (has : f1.toList ++ vs ++ cp.toList = gs)
    (hc : ∀ w, Hp X w R → Calls X.s.P g gs.toArray w (fun e w' => ∃ y, post y ∧ e = .returned (vf y) ∧ Hp X w' (R' y)))
    (hN : Nat.blt d X.N = true) (k : ∀ y, post y → G X ops Q rest ((d, vf y) :: L) (R' y)) :
    G X ops Q (⟨some d, .call ⟨.value f, xs, ats⟩, ty, p, af, none⟩ :: rest) L R := by
  intro a w ha hE
  refine wpListIn_plain rfl (fun K hK => ?_)
  refine ⟨fun _ _ => trivial, ?_⟩
  rw [Oper.semAt_eq _ _ _ (by intro c h; cases h)]
  have hmap : xs.map a.eval = vs.toArray := by
    have := evs_map (fun x u h => ha.kn.ev h) hxs
    apply Array.ext'; simpa using this
  have hrun : (execOp a.eval ⟨some d, .call ⟨.value f, xs, ats⟩, ty, p, af, none⟩).run X.s.P w = .ok (.enter g gs.toArray) w := by
    have hargs : f1 ++ vs.toArray ++ cp = gs.toArray := by rw [← has]; simp
    simp only [execOp, resolve, hmap, ha.kn.ev hf, Deferred.ofValue, Sem.run_bind, run_pure', Result.andThen_ok, invoke, hargs]
    exact hg _ _
  rw [hrun, Oper.uponIn_enter]
  refine ⟨fun h => by simp [Fence.wide] at h, ?_⟩
  have h1 : CallsIn Fence.wide (X.n - 1) X.s.P g gs.toArray w (fun e w' => ∃ y, post y ∧ e = .returned (vf y) ∧ Hp X w' (R' y)) := callsIn_wide.2 (hc w hE)
  have h2 : CallsIn (Fr X.ro) (X.n - 1) X.s.P g gs.toArray w (fun e w' => ∃ y, post y ∧ e = .returned (vf y) ∧ Hp X w' (R' y)) := h1
  refine CallsIn.mono h2 ?_
  rintro e w' ⟨y, hp, rfl, hh⟩
  exact hK _ _ (k y hp _ _ (ha.put hN _) hh)

/-- A call that only reads and makes. -/
theorem g_call {g : FuncId} {f : Operand} {f1 cp : Array Value} {xs : Array Operand} {ats : Array TypeId} {vs gs : List Value} {Y : Type} {vf : Y → Value} {post : Y → Prop} {A' : Y → RL}
    (hf : ev L f = some (.func (.func g) f1 cp)) (hg : Cl X.s.P g) (hxs : evs L xs.toList = some vs) (has : f1.toList ++ vs ++ cp.toList = gs)
    (hc : ∀ w, Hp X w R → Sp X.s.P g gs w [] vf A' post)
    (hN : Nat.blt d X.N = true) (k : ∀ y, post y → G X ops Q rest ((d, vf y) :: L) (A' y ++ R)) :
    G X ops Q (⟨some d, .call ⟨.value f, xs, ats⟩, ty, p, af, none⟩ :: rest) L R :=
  g_callG hf hg hxs has (fun w hE => (hc w hE).mono (fun e w' ⟨y, hp, he, E⟩ => ⟨y, hp, he, by
    have := Eff.seq0 hE E
    unfold Hp
    rw [List.flatten_append]; exact this⟩)) hN k

/-- A call that is handed what lies ahead in R. -/
theorem g_call1 {g : FuncId} {f : Operand} {f1 cp : Array Value} {xs : Array Operand} {ats : Array TypeId} {vs gs : List Value} {Y : Type} {vf : Y → Value} {post : Y → Prop} {A' : Y → RL} {A F : RL}
    (hR : R = A ++ F)
    (hf : ev L f = some (.func (.func g) f1 cp)) (hg : Cl X.s.P g) (hxs : evs L xs.toList = some vs) (has : f1.toList ++ vs ++ cp.toList = gs)
    (hc : ∀ w, Hp X w R → Sp X.s.P g gs w A.flatten vf A' post)
    (hN : Nat.blt d X.N = true) (k : ∀ y, post y → G X ops Q rest ((d, vf y) :: L) (A' y ++ F)) :
    G X ops Q (⟨some d, .call ⟨.value f, xs, ats⟩, ty, p, af, none⟩ :: rest) L R :=
  g_callG hf hg hxs has (fun w hE => (hc w hE).mono (fun e w' ⟨y, hp, he, E⟩ => ⟨y, hp, he, by
    unfold Hp at hE
    rw [hR, List.flatten_append] at hE
    have := Eff.seq hE E
    unfold Hp
    rw [List.flatten_append]; exact this⟩)) hN k
end
end Go.Wk

/- Slices: what one owns, appends to, makes, cuts; what one reads of old memory. -/
namespace Go.Wk
set_option linter.unusedVariables false
set_option linter.unusedSimpArgs false

/-- A slice of one's own: n elements of type e, of sz cells each, all cells xs; A is its memory. -/
def Own (e : TypeId) (sz : Nat) (v : Value) (n : Nat) (xs : List Value) (A : HL) : Prop :=
  xs.length = n * sz ∧ ((v = .slice none 0 0 ∧ n = 0 ∧ A = []) ∨ ∃ g cap rest, v = .slice (some ⟨g, 0, none⟩) n cap ∧ A = [(g, .cells ⟨xs ++ rest⟩ e (0, 0))] ∧ n ≤ cap ∧ cap ≤ maxLen ∧ (xs ++ rest).length = cap * sz)

theorem Own.nil (e : TypeId) (sz : Nat) : Own e sz (.slice none 0 0) 0 [] [] := ⟨by simp, .inl ⟨rfl, rfl, rfl⟩⟩
theorem Own.shape {e : TypeId} {sz : Nat} {v : Value} {n : Nat} {xs : List Value} {A : HL} (h : Own e sz v n xs A) : ∃ ad cap, v = .slice ad n cap ∧ (0 < n → ∃ g, ad = some ⟨g, 0, none⟩) := by
  rcases h.2 with ⟨rfl, rfl, rfl⟩ | ⟨g, cap, rest, rfl, _⟩
  · exact ⟨none, 0, rfl, fun h => by omega⟩
  · exact ⟨_, cap, rfl, fun _ => ⟨g, rfl⟩⟩
theorem Own.pos {e : TypeId} {sz : Nat} {v : Value} {n : Nat} {xs : List Value} {A : HL} (h : Own e sz v n xs A) (hn : 0 < n) :
    ∃ g cap rest, v = .slice (some ⟨g, 0, none⟩) n cap ∧ A = [(g, .cells ⟨xs ++ rest⟩ e (0, 0))] ∧ n ≤ cap ∧ cap ≤ maxLen ∧ (xs ++ rest).length = cap * sz := by
  rcases h.2 with ⟨_, h0, _⟩ | h
  · omega
  · exact h

theorem putC_append : ∀ (vs xs rest : List Value), vs.length ≤ rest.length → putC (xs ++ rest) xs.length vs = xs ++ vs ++ rest.drop vs.length
  | [], xs, rest, _ => by simp [putC]
  | v :: vs, xs, [], h => by simp at h
  | v :: vs, xs, r :: rest, h => by
    simp only [putC]
    rw [List.set_append_right _ _ (Nat.le_refl _)]
    simp only [Nat.sub_self, List.set_cons_zero]
    have ih := putC_append vs (xs ++ [v]) rest (by simpa using h)
    simp only [List.append_assoc, List.singleton_append, List.length_append, List.length_singleton] at ih
    simpa using ih

theorem nextcap_le {n c : Nat} (h : c < n) : Builtin.nextslicecap n c ≤ 2 * n := by
  unfold Builtin.nextslicecap
  split
  · omega
  · split
    · omega
    · have key : ∀ (r c : Nat), c ≤ 2 * n → 256 ≤ n → Builtin.growBy n r c ≤ 2 * n := by
        intro r
        induction r with
        | zero => intro c hc _; simpa [Builtin.growBy] using hc
        | succ r ih =>
          intro c hc hn
          simp only [Builtin.growBy]
          split
          · exact hc
          · exact ih _ (by omega) hn
      exact key _ _ (by omega) (by omega)

theorem run_append {P : Program} {t e : TypeId} {z : Value} {s b : Nat} {te : Ti} (ht : tiOf P t = some ⟨.slice e, z, s, b⟩) (hte : tiOf P e = some te) (hsz : 0 < te.sz) (hz : te.z.cells.size = te.sz)
    {v : Value} {n : Nat} {xs : List Value} {A : HL} {w : World} (hown : Own e te.sz v n xs A) (hA : ∀ g o, (g, o) ∈ A → w.heap[g]? = some o)
    {yA : Option Addr} {m c : Nat} {news : List Value} (hl : news.length = m * te.sz) (hn : ∀ j u, news[j]? = some u → ∃ a, yA = some a ∧ w.cell? (a.add j) = some u) (h1 : ∀ u ∈ news, u.oneCell' = true)
    (hmax : n + m ≤ maxLen) (hbytes : (n + m) * te.by' ≤ 140737488355328) (ty : TypeId) :
    ∃ v' A' w', (Builtin.append_ #[t, t] ty #[v, .slice yA m c]).run P w = .ok v' w' ∧ Own e te.sz v' (n + m) (xs ++ news) A' ∧ Eff w A w' A' := by
  obtain ⟨d, i, hd, hi, hk, hzz, hs, hb⟩ := tiOf_spec hte
  have hu := tk_slice ht
  have hsi : 0 < i.size := by rw [hs]; exact hsz
  have hlx : news.length = m * i.size := by rw [hs]; exact hl
  have hmx : n + m ≤ 9223372036854775807 := by unfold maxLen at hmax; omega
  have hbi : (n + m) * i.bytes ≤ 140737488355328 := by rw [hb]; exact hbytes
  -- nothing appended
  by_cases hm0 : m = 0
  · subst hm0
    have hnews : news = [] := List.eq_nil_of_length_eq_zero (by simpa using hl)
    subst hnews
    refine ⟨v, A, w, ?_, by simpa using hown, Eff.start w A hA ?_⟩
    · rcases hown.2 with ⟨rfl, rfl, rfl⟩ | ⟨g, cap, rest, rfl, rfl, h2, h3, h4⟩
      · cases yA <;> simp [Builtin.append_, run_underlying hu, sizeOf, typeInfo, hi, Builtin.lenOf, Builtin.firstCells, loadCells, loadCellsFrom]
      · cases yA <;> simp [Builtin.append_, run_underlying hu, sizeOf, typeInfo, hi, Builtin.lenOf, h2, Builtin.firstCells, loadCells, loadCellsFrom, storeCells]
    · rcases hown.2 with ⟨rfl, rfl, rfl⟩ | ⟨g, cap, rest, rfl, rfl, h2, h3, h4⟩ <;> simp [ids]
  -- something
  have hpos : 0 < news.length := by rw [hl]; exact Nat.mul_pos (Nat.pos_of_ne_zero hm0) hsz
  obtain ⟨a, ha, _⟩ := hn 0 news[0] (List.getElem?_eq_getElem hpos)
  subst ha
  have hnews : ∀ j u, news[j]? = some u → w.cell? (a.add j) = some u := fun j u hj => by
    obtain ⟨a', ha', h⟩ := hn j u hj
    obtain rfl := Option.some.inj ha'
    exact h
  have hlen : (xs ++ news).length = (n + m) * te.sz := by rw [List.length_append, hown.1, hl, Nat.add_mul]
  have grown : ∀ old, old < n + m → (A' : HL) → (∀ g o, (g, o) ∈ A' → w.heap[g]? = some o) → (ids A').Nodup →
      Own e te.sz (.slice (some ⟨w.heap.size, 0, none⟩) (n + m) (grownCap w (n + m) old e)) (n + m) (xs ++ news) [(w.heap.size, .cells ⟨(xs ++ news) ++ (Builtin.zeroCells te.z.cells (grownCap w (n + m) old e - (n + m))).toList⟩ e (0, 0))] ∧
      Eff w A' (w.drew.alloc (.cells ⟨(xs ++ news) ++ (Builtin.zeroCells te.z.cells (grownCap w (n + m) old e - (n + m))).toList⟩ e)) [(w.heap.size, .cells ⟨(xs ++ news) ++ (Builtin.zeroCells te.z.cells (grownCap w (n + m) old e - (n + m))).toList⟩ e (0, 0))] := by
    intro old ho A' hA' hnd
    have hge := grownCap_ge w (n + m) old e
    have hcm := grownCap_le_maxLen w (n + m) old e hmax
    refine ⟨⟨hlen, .inr ⟨_, _, _, rfl, rfl, hge, hcm, ?_⟩⟩, ?_⟩
    · rw [List.length_append, hlen, Array.length_toList, size_zeroCells, hz, ← Nat.add_mul]
      congr 1; omega
    · have E := Eff.seq0 (Eff.start w A' hA' hnd) (Eff.drew w)
      simp only [List.nil_append] at E
      have E2 := Eff.seq0 E (Eff.alloc w.drew (.cells ⟨(xs ++ news) ++ (Builtin.zeroCells te.z.cells (grownCap w (n + m) old e - (n + m))).toList⟩ e))
      exact Eff.sel E2 A' (List.Perm.refl _)
  rcases hown.2 with ⟨rfl, rfl, rfl⟩ | ⟨g, cap, rest, rfl, rfl, h2, h3, h4⟩
  · have hx : xs = [] := List.eq_nil_of_length_eq_zero (by simpa using hown.1)
    subst hx
    have hr := run_append_nil (P := P) w t ty e i te.z hu hi hzz a m c news hlx hnews (by omega) (by omega) (by simp only [Nat.zero_add] at hbi; omega)
    obtain ⟨g1, g2⟩ := grown 0 (by omega) [] (fun _ _ h => by cases h) (by simp [ids])
    simp only [Nat.zero_add, List.nil_append] at g1 g2 ⊢
    refine ⟨_, _, _, hr, g1, ?_⟩
    have e1 : (news.toArray ++ Builtin.zeroCells te.z.cells (grownCap w m 0 e - m)) = ⟨news ++ (Builtin.zeroCells te.z.cells (grownCap w m 0 e - m)).toList⟩ := by apply Array.ext'; simp
    rw [e1]
    exact g2
  · have hg := hA g _ List.mem_cons_self
    by_cases hroom : n + m ≤ cap
    · -- there is room
      have hrl : news.length ≤ rest.length := by
        have h5 : xs.length + rest.length = cap * te.sz := by simpa using h4
        rw [hown.1] at h5
        have h6 : (n + m) * te.sz ≤ cap * te.sz := Nat.mul_le_mul_right _ hroom
        rw [Nat.add_mul] at h6
        omega
      obtain ⟨w', hst, E⟩ := run_storeCells (P := P) (e := e) news (xs ++ rest) xs.length 0 w hg (by simp; omega) h1
      simp only [Nat.add_zero] at E
      rw [putC_append news xs rest hrl] at E
      refine ⟨.slice (some ⟨g, 0, none⟩) (n + m) cap, _, w', ?_, ⟨hlen, .inr ⟨g, cap, rest.drop news.length, rfl, rfl, hroom, h3, ?_⟩⟩, E⟩
      · have hf := run_firstCells_some (P := P) w i.size m a m c news hlx hnews
        have hxs : xs.length = n * i.size := by rw [hs]; exact hown.1
        rw [hxs] at hst
        simp [Builtin.append_, run_underlying hu, sizeOf, typeInfo, hi, Builtin.lenOf, hroom, hf, addr_add, hst]
      · have h5 : xs.length + rest.length = cap * te.sz := by simpa using h4
        simp only [List.length_append, List.length_drop]
        omega
    · -- it grows
      have hxl : xs.length = n * i.size := by rw [hs]; exact hown.1
      have hcells : ∀ j u, xs[j]? = some u → w.cell? ((⟨g, 0, none⟩ : Addr).add j) = some u := fun j u hj => by
        rw [addr_add]
        have hj' : j < xs.length := (List.getElem?_eq_some_iff.1 hj).1
        simp only [World.cell?, hg, Nat.zero_add]
        simp [List.getElem?_append_left hj', hj]
      have hfit : Builtin.nextslicecap (n + m) cap * i.bytes ≤ 281474976710656 := by
        have h5 := nextcap_le (n := n + m) (c := cap) (by omega)
        have h6 : Builtin.nextslicecap (n + m) cap * i.bytes ≤ 2 * (n + m) * i.bytes := Nat.mul_le_mul_right _ h5
        rw [Nat.mul_assoc] at h6
        omega
      have hr := run_append_grow (P := P) w t ty e i te.z hu hi hzz ⟨g, 0, none⟩ n cap xs hxl hcells a m c news hlx hnews (by omega) (by omega) hfit
      obtain ⟨g1, g2⟩ := grown cap (by omega) [(g, .cells ⟨xs ++ rest⟩ e (0, 0))] hA (by simp [ids])
      refine ⟨_, _, _, hr, g1, ?_⟩
      have e1 : (xs.toArray ++ news.toArray ++ Builtin.zeroCells te.z.cells (grownCap w (n + m) cap e - (n + m))) = ⟨(xs ++ news) ++ (Builtin.zeroCells te.z.cells (grownCap w (n + m) cap e - (n + m))).toList⟩ := by apply Array.ext'; simp
      rw [e1]
      exact g2

section
variable {X : Cx} {ops : Array Oper} {Q : Post} {rest : List Oper} {L : LT} {R : RL} {d : Nat} {x y : Operand} {t ty : TypeId} {p : String} {af : Array Edge} {v : Value}

theorem lk_hd (d : Nat) (v : Value) (L : LT) : lk ((d, v) :: L) d = some v := by simp [lk]

/-- append(s, more...): s is number i of what one owns. -/
theorem g_app (i : Nat) {A : HL} {e : TypeId} {z : Value} {s b : Nat} {te : Ti} {n : Nat} {xs news : List Value} {yA : Option Addr} {m c : Nat}
    (hR : R[i]? = some A) (hx : ev L x = some v) (hy : ev L y = some (.slice yA m c)) (ht : tl X.s.tab t = some ⟨.slice e, z, s, b⟩) (hte : tl X.s.tab e = some te) (hsz : Nat.blt 0 te.sz = true) (hz : te.z.cells.size = te.sz)
    (hown : Own e te.sz v n xs A) (hl : news.length = m * te.sz) (hn : ∀ w, Hp X w R → ∀ j u, news[j]? = some u → ∃ a, yA = some a ∧ w.cell? (a.add j) = some u) (h1 : ∀ u ∈ news, u.oneCell' = true)
    (hmax : n + m ≤ maxLen) (hbytes : (n + m) * te.by' ≤ 140737488355328) (hN : Nat.blt d X.N = true)
    (k : ∀ v' A', Own e te.sz v' (n + m) (xs ++ news) A' → G X ops Q rest ((d, v') :: L) (R.set i A')) :
    G X ops Q (⟨some d, .call ⟨.builtin .append, #[x, y], #[t, t]⟩, ty, p, af, none⟩ :: rest) L R :=
  g_run (Y := Value × HL) (fun q => q.1) (fun q => R.set i q.2) (fun q => Own e te.sz q.1 (n + m) (xs ++ news) q.2) rfl rfl hN (by intro c h; cases h)
    (fun a w ha hE => by
      have H1 := hp_pick i hR hE
      obtain ⟨v', A', w', hr, ho, E⟩ := run_append (X.s.ok.at ht) (X.s.ok.at hte) (show 0 < te.sz from Nat.le_of_ble_eq_true hsz) hz hown (fun g o hg => H1.holds g o (List.mem_append_left _ hg)) hl (c := c) (hn w hE) h1 hmax hbytes ty
      refine ⟨(v', A'), w', ?_, hp_front i hR hE E, ho⟩
      simp only [execOp]
      simp [resolve, invoke, builtin, ha.kn.ev hx, ha.kn.ev hy, hr]) (fun q hq => k q.1 q.2 hq)

/-! ### A slice that is written out -/
def rep (n : Nat) (l : List Value) : List Value := (List.replicate n l).flatten

theorem zeros_rep (z : Array Value) (n : Nat) : ((Array.range (n * z.size)).map (fun i => z[i % z.size]!)).toList = rep n z.toList := by
  induction n with
  | zero => simp [rep]
  | succ n ih =>
    have e1 : rep (n + 1) z.toList = rep n z.toList ++ z.toList := by
      unfold rep
      rw [List.replicate_succ', List.flatten_append]; simp
    rw [e1, ← ih]
    simp only [Array.toList_map, Array.toList_range, Nat.succ_mul]
    rw [List.range_add, List.map_append, List.map_map]
    congr 1
    apply List.ext_getElem
    · simp
    · intro i h1 h2
      simp at h1 h2
      simp [Nat.mod_eq_of_lt h2, h2]

/-- '[]T{..}' of len elements whose cells are cs. -/
theorem run_buildSlice {P : Program} {t e : TypeId} {z : Value} {s b : Nat} {te : Ti} (ht : tiOf P t = some ⟨.slice e, z, s, b⟩) (hte : tiOf P e = some te) (len : Nat) (parts : Array (Nat × Value)) (cs : Array Value)
    (hf : Instr.fill (fun i => some (i * te.sz, te.sz)) ((Array.range (len * te.sz)).map (fun i => te.z.cells[i % te.z.cells.size]!)) parts.toList = some cs) (hsmall : len * te.sz ≤ 2 ^ 24) (hpos : len * te.sz ≠ 0) (w : World) :
    (Instr.buildSlice t len parts).run P w = .ok (.slice (some ⟨w.heap.size, 0, none⟩) len len) (w.alloc (.cells cs e)) := by
  have h1 : ¬ (len * te.sz > 2 ^ 24) := by omega
  simp only [Instr.buildSlice, Sem.run_bind, run_underlying (tk_slice ht), Result.andThen_ok, run_sizeOf hte, h1, if_false, hpos, run_zeroValue hte, run_pure', hf]
  rfl

theorem g_lit {e : TypeId} {z : Value} {s b : Nat} {te : Ti} {len : Nat} {parts : Array (Nat × Operand)} {vs : List Value} {cs : List Value} (ht : tl X.s.tab t = some ⟨.slice e, z, s, b⟩) (hte : tl X.s.tab e = some te)
    (hv : evs L (parts.toList.map (·.2)) = some vs) (hf : Instr.fill (fun i => some (i * te.sz, te.sz)) ((Array.range (len * te.sz)).map (fun i => te.z.cells[i % te.z.cells.size]!)) ((parts.toList.map (·.1)).zip vs) = some ⟨cs⟩)
    (hsmall : Nat.ble (len * te.sz) (2 ^ 24) = true) (hpos : Nat.beq (len * te.sz) 0 = false) (hN : Nat.blt d X.N = true)
    (k : ∀ g, G X ops Q rest ((d, .slice (some ⟨g, 0, none⟩) len len) :: L) ([(g, .cells ⟨cs⟩ e (0, 0))] :: R)) :
    G X ops Q (⟨some d, .buildSlice t len parts, ty, p, af, none⟩ :: rest) L R :=
  g_run (Y := Nat) (fun g => .slice (some ⟨g, 0, none⟩) len len) (fun g => [(g, .cells ⟨cs⟩ e (0, 0))] :: R) (fun _ => True) rfl rfl hN (by intro c h; cases h)
    (fun a w ha hE => by
      have hp : (parts.map fun (i, x) => (i, a.eval x)).toList = (parts.toList.map (·.1)).zip vs := by
        have h1 := evs_map (fun x u h => ha.kn.ev h) hv
        rw [← h1]
        simp only [Array.toList_map, List.map_map]
        generalize parts.toList = l
        induction l with
        | nil => rfl
        | cons q l ih => simp only [List.map_cons, List.zip_cons_cons, ih]; rfl
      have hr := run_buildSlice (P := X.s.P) (X.s.ok.at ht) (X.s.ok.at hte) len (parts.map fun (i, x) => (i, a.eval x)) ⟨cs⟩ (by rw [hp]; exact hf) (Nat.le_of_ble_eq_true hsmall) (Nat.ne_of_beq_eq_false hpos) w
      refine ⟨w.heap.size, _, ?_, hp_alloc hE _, trivial⟩
      simp only [execOp]
      rw [Sem.run_bind]
      have e2 : (parts.map fun (x : Nat × Operand) => (x.1, a.eval x.2)) = (parts.map fun (i, x) => (i, a.eval x)) := rfl
      rw [hr]; rfl) (fun g _ => k g)

theorem foldl_put : ∀ (l : List Value) (k o : Nat) (cs : Array Value), (l.zipIdx k).foldl (fun (cs : Array Value) (x : Value × Nat) => cs.setIfInBounds (o + x.2) x.1) cs = (putC cs.toList (o + k) l).toArray
  | [], k, o, cs => by simp [putC]
  | v :: l, k, o, cs => by
    simp only [List.zipIdx_cons, List.foldl_cons, putC]
    rw [foldl_put l (k + 1) o]
    simp [Nat.add_assoc]

theorem fill_seq {sz : Nat} : ∀ (vs : List Value) (k : Nat) (done rest : List Value), (∀ v ∈ vs, v.cells.size = sz) → done.length = k * sz → vs.length * sz ≤ rest.length →
    Instr.fill (fun i => some (i * sz, sz)) ⟨done ++ rest⟩ ((List.range' k vs.length).zip vs) = some ⟨done ++ (vs.map (·.cells.toList)).flatten ++ rest.drop (vs.length * sz)⟩
  | [], k, done, rest, _, _, _ => by simp [Instr.fill]
  | v :: vs, k, done, rest, hv, hd, hr => by
    have hsv := hv v List.mem_cons_self
    simp only [List.length_cons, Nat.add_mul, Nat.one_mul] at hr
    simp only [List.length_cons, List.range'_succ, List.zip_cons_cons, Instr.fill]
    have hsize : ((⟨done ++ rest⟩ : Array Value)).size = done.length + rest.length := by simp
    have h1 : ¬ (v.cells.size ≠ sz) := by simp [hsv]
    have h2 : ¬ (k * sz + v.cells.size > ((⟨done ++ rest⟩ : Array Value)).size) := by rw [hsize]; omega
    rw [if_neg (by simp only [Bool.or_eq_true, decide_eq_true_eq, not_or]; exact ⟨h1, h2⟩)]
    have e1 : v.cells.zipIdx.foldl (fun cs (x : Value × Nat) => cs.setIfInBounds (k * sz + x.2) x.1) (⟨done ++ rest⟩ : Array Value) = ⟨(done ++ v.cells.toList) ++ rest.drop sz⟩ := by
      have h5 : v.cells.zipIdx.foldl (fun cs (x : Value × Nat) => cs.setIfInBounds (k * sz + x.2) x.1) (⟨done ++ rest⟩ : Array Value) = (v.cells.toList.zipIdx 0).foldl (fun cs (x : Value × Nat) => cs.setIfInBounds (k * sz + x.2) x.1) (⟨done ++ rest⟩ : Array Value) := by
        rw [← Array.foldl_toList]; simp
      rw [h5, foldl_put]
      have h6 : putC (done ++ rest) (k * sz + 0) v.cells.toList = done ++ v.cells.toList ++ rest.drop v.cells.toList.length := by
        rw [Nat.add_zero, ← hd]; exact putC_append _ _ _ (by simp; omega)
      simp only [h6]
      simp [hsv]
    have ih := fill_seq vs (k + 1) (done ++ v.cells.toList) (rest.drop sz) (fun u hu => hv u (List.mem_cons_of_mem _ hu)) (by rw [List.length_append, hd, Array.length_toList, hsv, Nat.add_mul]; omega) (by rw [List.length_drop]; omega)
    have e2 : (v.cells.zipIdx.foldl (fun cs (x : Value × Nat) => match x with | (c, j) => cs.setIfInBounds (k * sz + j) c) (⟨done ++ rest⟩ : Array Value)) = ⟨(done ++ v.cells.toList) ++ rest.drop sz⟩ := e1
    rw [e2, ih]
    simp only [List.map_cons, List.flatten_cons, List.append_assoc, List.drop_drop, Option.some.injEq, Array.mk.injEq, List.append_cancel_left_eq]
    rw [show sz + vs.length * sz = (vs.length + 1) * sz from by rw [Nat.add_mul]; omega]

theorem fill_all {sz : Nat} (z : Array Value) (hz : z.size = sz) (vs : List Value) (hv : ∀ v ∈ vs, v.cells.size = sz) :
    Instr.fill (fun i => some (i * sz, sz)) ((Array.range (vs.length * sz)).map (fun i => z[i % z.size]!)) ((List.range vs.length).zip vs) = some ⟨(vs.map (·.cells.toList)).flatten⟩ := by
  have h := fill_seq (sz := sz) vs 0 [] ((Array.range (vs.length * sz)).map (fun i => z[i % z.size]!)).toList hv (by simp) (by simp)
  have h' : Instr.fill (fun i => some (i * sz, sz)) ((Array.range (vs.length * sz)).map (fun i => z[i % z.size]!)) ((List.range' 0 vs.length).zip vs) = _ := h
  rw [List.range_eq_range', h']
  have : List.drop (vs.length * sz) ((Array.range (vs.length * sz)).map (fun i => z[i % z.size]!)).toList = [] := by
    apply List.drop_eq_nil_of_le; simp
  rw [this]; simp


/-- A literal whose elements are all written. -/
theorem g_litL {X : Cx} {ops : Array Oper} {Q : Post} {rest : List Oper} {L : LT} {R : RL} {d : Nat} {t ty : TypeId} {p : String} {af : Array Edge} {e : TypeId} {z : Value} {s b : Nat} {te : Ti} {len : Nat} {parts : Array (Nat × Operand)} {vs : List Value} (ht : tl X.s.tab t = some ⟨.slice e, z, s, b⟩) (hte : tl X.s.tab e = some te)
    (hv : evs L (parts.toList.map (·.2)) = some vs) (hi : parts.toList.map (·.1) = List.range len) (hz : te.z.cells.size = te.sz) (hc : (vs.all fun v => Nat.beq v.cells.size te.sz) = true) (hlen : vs.length = len)
    (hsmall : Nat.ble (len * te.sz) (2 ^ 24) = true) (hpos : Nat.beq (len * te.sz) 0 = false) (hN : Nat.blt d X.N = true)
    (k : ∀ g, G X ops Q rest ((d, .slice (some ⟨g, 0, none⟩) len len) :: L) ([(g, .cells ⟨(vs.map (·.cells.toList)).flatten⟩ e (0, 0))] :: R)) :
    G X ops Q (⟨some d, .buildSlice t len parts, ty, p, af, none⟩ :: rest) L R := by
  subst hlen
  refine g_lit ht hte hv ?_ hsmall hpos hN k
  rw [hi]
  exact fill_all te.z.cells hz vs (fun v hv' => Nat.eq_of_beq_eq_true (List.all_eq_true.1 hc v hv'))

/-- append(s, x): two operations. -/
theorem g_app1 (i : Nat) {d1 : Nat} {ty1 : TypeId} {p1 : String} {af1 : Array Edge} {A : HL} {e : TypeId} {z : Value} {s b : Nat} {te : Ti} {n : Nat} {xs : List Value} {u : Value} {cs : List Value}
    (hR : R[i]? = some A) (hx : ev L x = some v) (hd : (match x with | .tmp t => Nat.beq d1 t | _ => false) = false) (hy : ev L y = some u) (ht : tl X.s.tab t = some ⟨.slice e, z, s, b⟩) (hte : tl X.s.tab e = some te) (hsz : Nat.blt 0 te.sz = true) (hz : te.z.cells.size = te.sz)
    (hf : u.cells = ⟨cs⟩) (hsmall : Nat.ble (1 * te.sz) (2 ^ 24) = true)
    (hl : cs.length = te.sz) (h1 : ∀ c ∈ cs, c.oneCell' = true)
    (hown : Own e te.sz v n xs A) (hmax : n + 1 ≤ maxLen) (hbytes : (n + 1) * te.by' ≤ 140737488355328) (hN1 : Nat.blt d1 X.N = true) (hN : Nat.blt d X.N = true)
    (k : ∀ v' A' g, Own e te.sz v' (n + 1) (xs ++ cs) A' → G X ops Q rest ((d, v') :: (d1, .slice (some ⟨g, 0, none⟩) 1 1) :: L) (R.set i A')) :
    G X ops Q (⟨some d1, .buildSlice t 1 #[(0, y)], ty1, p1, af1, none⟩ :: ⟨some d, .call ⟨.builtin .append, #[x, .tmp d1], #[t, t]⟩, ty, p, af, none⟩ :: rest) L R := by
  have hpos : Nat.beq (1 * te.sz) 0 = false := by
    have : 0 < te.sz := Nat.le_of_ble_eq_true hsz
    rw [Nat.one_mul]
    cases h : te.sz with
    | zero => omega
    | succ n => rfl
  refine g_lit (vs := [u]) (cs := cs) ht hte (by simp [evs, hy]) ?_ hsmall hpos hN1 (fun g => ?_)
  · have h := fill_all te.z.cells hz [u] (fun v hv => by
      simp only [List.mem_singleton] at hv; subst hv; rw [hf]; exact hl)
    rw [show ([u].map (·.cells.toList)).flatten = cs from by simp [hf]] at h
    exact h
  refine g_app (i + 1) (v := v) (c := 1) (yA := some ⟨g, 0, none⟩) (by simpa using hR) ?_ (lk_hd d1 _ L) ht hte hsz hz hown (m := 1) (news := cs) (by simp [hl]) (fun w hE j c hj => ⟨_, rfl, ?_⟩) h1 hmax hbytes hN (fun v' A' ho => ?_)
  · cases x with
    | tmp t' =>
      show lk ((d1, _) :: L) t' = _
      simp only [lk]
      rw [show Nat.beq d1 t' = false from hd]
      exact hx
    | const _ => exact hx
    | global _ => exact hx
    | func _ => exact hx
  · have hb := hp_cell (i := 0) hE rfl
    rw [addr_add]
    simp only [World.cell?, hb, Nat.zero_add]
    simpa using hj
  · exact g_heap (fun w H => hp_tail (by simpa using H)) (k v' A' g ho)

/-- make([]T, n, c). -/
theorem run_mk {P : Program} {t e : TypeId} {z : Value} {s b : Nat} {te : Ti} (ht : tiOf P t = some ⟨.slice e, z, s, b⟩) (hte : tiOf P e = some te) (k1 k2 : IntKind) (n c : Nat) (hnc : n ≤ c) (hb : te.by' * c ≤ 281474976710656) (hc : c ≤ 9223372036854775807) (w : World) :
    (Instr.makeSlice t (.int k1 n) (.int k2 c)).run P w = .ok (.slice (some ⟨w.heap.size, 0, none⟩) n c) (w.alloc (.cells (madeCells te.z.cells (c * te.sz)) e)) := by
  obtain ⟨d, i, hd, hi, hk, hzz, hs, hb'⟩ := tiOf_spec hte
  have := run_make (P := P) w t e i te.z (tk_slice ht) hi hzz k1 k2 n c (Int.natCast_nonneg n) (Int.ofNat_le.2 hnc) (by rw [hb']; have h := Int.ofNat_le.2 hb; rw [Int.natCast_mul] at h; exact h) (Int.ofNat_le.2 hc)
  rw [hs] at this
  simp only [Int.toNat_natCast] at this
  exact this

/-! ### A test -/
theorem gc_cond_t {c : Operand} {a b : Code} (hc : ev L c = some (.bool true)) (h : GC X a Q L R) : GC X (.cond c a b) Q L R :=
  gc_cond hc (fun _ => h) (fun h => by cases h)
theorem gc_cond_f {c : Operand} {a b : Code} (hc : ev L c = some (.bool false)) (h : GC X b Q L R) : GC X (.cond c a b) Q L R :=
  gc_cond hc (fun h => by cases h) (fun _ => h)
theorem ok_put {X : Cx} {a : Act} {L : LT} (ha : Ok X a L) {t : Nat} {v : Value} (hv : lk L t = some v) : Ok X a ((t, v) :: L) := by
  refine ⟨ha.size, ha.defers, fun i u hi => ?_⟩
  simp only [lk] at hi
  by_cases hj : Nat.beq t i = true
  · rw [hj] at hi
    have := Nat.eq_of_beq_eq_true hj
    subst this
    exact ha.kn _ _ (by rw [hv]; exact hi)
  · simp only [Bool.not_eq_true] at hj
    rw [hj] at hi
    exact ha.kn _ _ hi
/-- It parts; the slot then holds what is known. -/
theorem gc_condC {t : Tmp} {b : Bool} {x y : Code} (hc : lk L t = some (.bool b)) (ht : b = true → GC X x Q ((t, .bool true) :: L) R) (hf : b = false → GC X y Q ((t, .bool false) :: L) R) : GC X (.cond (.tmp t) x y) Q L R :=
  gc_cond hc (fun h a w ha hE => ht h a w (ok_put ha (by rw [hc, h])) hE) (fun h a w ha hE => hf h a w (ok_put ha (by rw [hc, h])) hE)
/-- A slot's value in other words. -/
theorem g_eq (t : Nat) {u u' : Value} (h : lk L t = some u) (e : u = u') (k : G X ops Q rest ((t, u') :: L) R) : G X ops Q rest L R :=
  fun a w ha hE => k a w (ok_put ha (by rw [h, e])) hE
/-! ### Elements -/
/-- Old memory holds a row. -/
def Rd {α : Type} (h : Nat → Option Obj) (f : α → List Value) (sz : Nat) (A : Option Addr) (l : List α) : Prop :=
  ∀ i x, l[i]? = some x → ∃ b o, A = some ⟨b, o, none⟩ ∧ ∀ j u, (f x)[j]? = some u → cellAt h b (o + i * sz + j) = some u
theorem Rd.le {α : Type} {h1 h2 : Nat → Option Obj} (H : Hle h1 h2) {f : α → List Value} {sz : Nat} {A : Option Addr} {l : List α} (h : Rd h1 f sz A l) : Rd h2 f sz A l := fun i x hx => by
  obtain ⟨b, o, hA, hc⟩ := h i x hx
  exact ⟨b, o, hA, fun j u hj => H.cell (hc j u hj)⟩

/-- x[y], x of old memory: two operations. -/
theorem g_at {α : Type} {d1 : Nat} {t2 ty1 : TypeId} {p1 : String} {af1 : Array Edge} {e : TypeId} {z : Value} {s b : Nat} {te : Ti} {ik : IntKind} {i : Int} {A : Option Addr} {n c : Nat} {f : α → List Value} {l : List α} {u : α}
    (hx : ev L x = some (.slice A n c)) (hy : ev L y = some (.int ik i)) (ht : tl X.s.tab t = some ⟨.slice e, z, s, b⟩) (hte : tl X.s.tab e = some te) (he : Nat.beq t2 e = true)
    (h0 : 0 ≤ i) (h1 : i < n) (hr : Rd (Oldh X) f te.sz A l) (hl : l[i.toNat]? = some u) (hs : (f u).length = te.sz) (hv : asV te.k (f u) = some v) (hN1 : Nat.blt d1 X.N = true) (hN : Nat.blt d X.N = true)
    (k : ∀ a, G X ops Q rest ((d, v) :: (d1, .pointer (some a)) :: L) R) :
    G X ops Q (⟨some d1, .indexAddr t x y, ty1, p1, af1, none⟩ :: ⟨some d, .load t2 (.tmp d1), ty, p, af, none⟩ :: rest) L R := by
  obtain rfl := Nat.eq_of_beq_eq_true he
  obtain ⟨bx, o, rfl, hc⟩ := hr _ _ hl
  refine g_ix hx hy ht hte h0 h1 hN1 ?_
  exact g_ldO (lk_hd d1 _ L) hte hs hv hc hN (k _)

/-- x[y], x number j of what one owns (or lying in it). -/
theorem g_atW (j : Nat) {d1 : Nat} {t2 ty1 : TypeId} {p1 : String} {af1 : Array Edge} {e e' : TypeId} {z : Value} {s b : Nat} {te : Ti} {ik : IntKind} {i : Int} {g o n c : Nat} {cs l : List Value} {fz : Nat × Nat} {A : HL}
    (hR : R[j]? = some ((g, .cells ⟨l⟩ e' fz) :: A)) (hx : ev L x = some (.slice (some ⟨g, o, none⟩) n c)) (hy : ev L y = some (.int ik i)) (ht : tl X.s.tab t = some ⟨.slice e, z, s, b⟩) (hte : tl X.s.tab e = some te) (he : Nat.beq t2 e = true)
    (h0 : 0 ≤ i) (h1 : i < n) (hs : cs.length = te.sz) (hc : ∀ k u, cs[k]? = some u → l[o + i.toNat * te.sz + k]? = some u) (hv : asV te.k cs = some v) (hN1 : Nat.blt d1 X.N = true) (hN : Nat.blt d X.N = true)
    (k : G X ops Q rest ((d, v) :: (d1, .pointer (some ⟨g, o + i.toNat * te.sz, none⟩)) :: L) R) :
    G X ops Q (⟨some d1, .indexAddr t x y, ty1, p1, af1, none⟩ :: ⟨some d, .load t2 (.tmp d1), ty, p, af, none⟩ :: rest) L R := by
  obtain rfl := Nat.eq_of_beq_eq_true he
  refine g_ix hx hy ht hte h0 h1 hN1 ?_
  refine g_ldG (lk_hd d1 _ L) hte hs hv (fun w hE q u hq => ?_) hN k
  have hb := hp_cellA hE hR
  simp only [World.cell?, hb]
  simpa using hc q u hq

/-! ### Slices of one's own as lists -/
theorem flat_get {α : Type} {f : α → List Value} {sz : Nat} (hf : ∀ x, (f x).length = sz) : ∀ (l : List α) (i : Nat) (x : α), l[i]? = some x → ∀ j u, (f x)[j]? = some u → (l.flatMap f)[i * sz + j]? = some u
  | [], i, x, h, _, _, _ => by simp at h
  | a :: l, 0, x, h, j, u, hu => by
    simp at h; subst h
    simp only [List.flatMap_cons, Nat.zero_mul, Nat.zero_add]
    rw [List.getElem?_append_left (List.getElem?_eq_some_iff.1 hu).1]; exact hu
  | a :: l, i + 1, x, h, j, u, hu => by
    simp only [List.getElem?_cons_succ] at h
    simp only [List.flatMap_cons]
    rw [List.getElem?_append_right (by rw [hf a, Nat.add_mul]; omega), hf a, show (i + 1) * sz + j - sz = i * sz + j from by rw [Nat.add_mul]; omega]
    exact flat_get hf l i x h j u hu

def OwnL {α : Type} (e : TypeId) (sz : Nat) (f : α → List Value) (v : Value) (l : List α) (A : HL) : Prop := Own e sz v l.length (l.flatMap f) A
theorem OwnL.nil {α : Type} (e : TypeId) (sz : Nat) (f : α → List Value) : OwnL e sz f (.slice none 0 0) [] [] := Own.nil e sz

theorem OwnL.cellAt' {α : Type} {e : TypeId} {sz : Nat} {f : α → List Value} (hf : ∀ x, (f x).length = sz) {v : Value} {l : List α} {A : HL} (h : OwnL e sz f v l A) {i : Nat} {x : α} (hx : l[i]? = some x) :
    ∃ g cap rest, v = .slice (some ⟨g, 0, none⟩) l.length cap ∧ A = [(g, .cells ⟨l.flatMap f ++ rest⟩ e (0, 0))] ∧ ∀ j u, (f x)[j]? = some u → (l.flatMap f ++ rest)[i * sz + j]? = some u := by
  have hlt := (List.getElem?_eq_some_iff.1 hx).1
  obtain ⟨g, cap, rest, hv, hA, _⟩ := Own.pos h (by omega)
  refine ⟨g, cap, rest, hv, hA, fun j u hu => ?_⟩
  have := flat_get hf l i x hx j u hu
  rw [List.getElem?_append_left (List.getElem?_eq_some_iff.1 this).1]; exact this

/-- x[y], x number j of what one owns. -/
theorem g_atL (j : Nat) {α : Type} {d1 : Nat} {t2 ty1 : TypeId} {p1 : String} {af1 : Array Edge} {e e' : TypeId} {z u : Value} {s b : Nat} {te : Ti} {ik : IntKind} {i : Int} {A : HL} {f : α → List Value} {l : List α} {q : α}
    (hR : R[j]? = some A) (hx : ev L x = some v) (ho : OwnL e' te.sz f v l A) (hf : ∀ x, (f x).length = te.sz) (hy : ev L y = some (.int ik i)) (ht : tl X.s.tab t = some ⟨.slice e, z, s, b⟩) (hte : tl X.s.tab e = some te) (he : Nat.beq t2 e = true)
    (h0 : 0 ≤ i) (hl : l[i.toNat]? = some q) (hv : asV te.k (f q) = some u) (hN1 : Nat.blt d1 X.N = true) (hN : Nat.blt d X.N = true)
    (k : ∀ a, G X ops Q rest ((d, u) :: (d1, .pointer (some a)) :: L) R) :
    G X ops Q (⟨some d1, .indexAddr t x y, ty1, p1, af1, none⟩ :: ⟨some d, .load t2 (.tmp d1), ty, p, af, none⟩ :: rest) L R := by
  obtain ⟨g, cap, rst, rfl, rfl, hc⟩ := OwnL.cellAt' hf ho hl
  have hlt := (List.getElem?_eq_some_iff.1 hl).1
  refine g_atW j hR hx hy ht hte he h0 (by omega) (hf q) (fun k u hu => ?_) hv hN1 hN (k _)
  rw [Nat.zero_add]; exact hc k u hu

/-- append(s, x), as lists. -/
theorem g_app1L (i : Nat) {α : Type} {d1 : Nat} {ty1 : TypeId} {p1 : String} {af1 : Array Edge} {A : HL} {e : TypeId} {z : Value} {s b : Nat} {te : Ti} {u : Value} {f : α → List Value} {l : List α} {q : α}
    (hR : R[i]? = some A) (hx : ev L x = some v) (hd : (match x with | .tmp t => Nat.beq d1 t | _ => false) = false) (hy : ev L y = some u) (ht : tl X.s.tab t = some ⟨.slice e, z, s, b⟩) (hte : tl X.s.tab e = some te) (hsz : Nat.blt 0 te.sz = true) (hz : te.z.cells.size = te.sz)
    (hfl : u.cells = ⟨f q⟩) (hsmall : Nat.ble (1 * te.sz) (2 ^ 24) = true)
    (hl : (f q).length = te.sz) (h1 : ((f q).all (·.oneCell')) = true)
    (hown : OwnL e te.sz f v l A) (hmax : l.length + 1 ≤ maxLen) (hbytes : (l.length + 1) * te.by' ≤ 140737488355328) (hN1 : Nat.blt d1 X.N = true) (hN : Nat.blt d X.N = true)
    (k : ∀ v' A' g, OwnL e te.sz f v' (l ++ [q]) A' → G X ops Q rest ((d, v') :: (d1, .slice (some ⟨g, 0, none⟩) 1 1) :: L) (R.set i A')) :
    G X ops Q (⟨some d1, .buildSlice t 1 #[(0, y)], ty1, p1, af1, none⟩ :: ⟨some d, .call ⟨.builtin .append, #[x, .tmp d1], #[t, t]⟩, ty, p, af, none⟩ :: rest) L R :=
  g_app1 i hR hx hd hy ht hte hsz hz hfl hsmall hl (List.all_eq_true.1 h1) hown hmax hbytes hN1 hN (fun v' A' g ho => k v' A' g (by unfold OwnL; simpa using ho))

/-- append(s, more...), more read of memory. -/
theorem g_appL (i : Nat) {α : Type} {A : HL} {e : TypeId} {z : Value} {s b : Nat} {te : Ti} {f : α → List Value} {l m : List α} {yA : Option Addr} {c : Nat}
    (hR : R[i]? = some A) (hx : ev L x = some v) (hy : ev L y = some (.slice yA m.length c)) (ht : tl X.s.tab t = some ⟨.slice e, z, s, b⟩) (hte : tl X.s.tab e = some te) (hsz : Nat.blt 0 te.sz = true) (hz : te.z.cells.size = te.sz)
    (hown : OwnL e te.sz f v l A) (hf : ∀ x, (f x).length = te.sz) (hn : ∀ w, Hp X w R → Rd (hw w) f te.sz yA m) (h1 : ∀ q, ((f q).all (·.oneCell')) = true)
    (hmax : l.length + m.length ≤ maxLen) (hbytes : (l.length + m.length) * te.by' ≤ 140737488355328) (hN : Nat.blt d X.N = true)
    (k : ∀ v' A', OwnL e te.sz f v' (l ++ m) A' → G X ops Q rest ((d, v') :: L) (R.set i A')) :
    G X ops Q (⟨some d, .call ⟨.builtin .append, #[x, y], #[t, t]⟩, ty, p, af, none⟩ :: rest) L R := by
  have hpos : 0 < te.sz := Nat.le_of_ble_eq_true hsz
  have hlen : ∀ m : List α, (m.flatMap f).length = m.length * te.sz := fun m => by
    induction m with
    | nil => simp
    | cons a m ih => simp only [List.flatMap_cons, List.length_append, ih, hf a, List.length_cons, Nat.add_mul]; omega
  refine g_app i hR hx hy ht hte hsz hz hown (news := m.flatMap f) (hlen m) (fun w hE j u hj => ?_) (fun u hu => ?_) hmax hbytes hN (fun v' A' ho => k v' A' (by unfold OwnL; simpa using ho))
  · have hjl := (List.getElem?_eq_some_iff.1 hj).1
    rw [hlen] at hjl
    have hdiv : j / te.sz < m.length := Nat.div_lt_of_lt_mul (by rw [Nat.mul_comm]; exact hjl)
    obtain ⟨bb, o, hA, hc⟩ := hn w hE (j / te.sz) _ (List.getElem?_eq_getElem hdiv)
    refine ⟨_, hA, ?_⟩
    rw [addr_add, ← cellAt_hw]
    have hmod : j % te.sz < (f m[j / te.sz]).length := by rw [hf]; exact Nat.mod_lt _ hpos
    have hj2 := flat_get hf m _ _ (List.getElem?_eq_getElem hdiv) (j % te.sz) _ (List.getElem?_eq_getElem hmod)
    have e1 : j / te.sz * te.sz + j % te.sz = j := by rw [Nat.mul_comm]; exact Nat.div_add_mod j te.sz
    rw [e1, hj] at hj2
    have h3 := hc (j % te.sz) u (by rw [List.getElem?_eq_getElem hmod]; exact hj2.symm)
    rw [show o + j / te.sz * te.sz + j % te.sz = o + j from by omega] at h3
    exact h3
  · obtain ⟨q, hq, hu⟩ := List.mem_flatMap.1 hu
    exact List.all_eq_true.1 (h1 q) u hu

theorem putC_len : ∀ (vs l : List Value) (o : Nat), (putC l o vs).length = l.length
  | [], l, o => rfl
  | v :: vs, l, o => by simp only [putC]; rw [putC_len]; simp

end
end Go.Wk

/- Rows of a library's contracts (Holds, putRow, grow) as memory of one's own. -/
namespace Go.Wk
open Go.Sort Go.RowKit
set_option linter.unusedVariables false
set_option linter.unusedSimpArgs false

theorem Eff.row {w : World} {g q : Nat} {c : Array Value} {e : TypeId} {fz : Nat × Nat} (h : w.heap[g]? = some (.cells c e fz)) (f : Array Value → Array Value) (os : Array Obj) :
    Eff w [(g, .cells c e fz)] (Sort.grow (Sort.mapBlock (Sort.ahead w q) g f) os) [(g, .cells (f c) e fz)] := by
  have hlt := (Array.getElem?_eq_some_iff.1 h).1
  have hs : (w.heap.modify g (Sort.onCells f)).size = w.heap.size := by simp
  refine ⟨fun b o hb => ?_, by simp [ids], fun b hb => .inl hb, fun b hb hn => ?_, ?_, rfl, rfl, rfl⟩
  · simp only [List.mem_singleton, Prod.mk.injEq] at hb
    obtain ⟨rfl, rfl⟩ := hb
    show (w.heap.modify b (Sort.onCells f) ++ os)[b]? = _
    rw [Array.getElem?_append_left (by rw [hs]; exact hlt), Array.getElem?_modify, if_pos rfl, h]; rfl
  · show (w.heap.modify g (Sort.onCells f) ++ os)[b]? = _
    have hne : g ≠ b := by intro hh; apply hn; simp [ids, hh]
    rw [Array.getElem?_append_left (by rw [hs]; exact hb), Array.getElem?_modify, if_neg hne]
  · show w.heap.size ≤ (w.heap.modify g (Sort.onCells f) ++ os).size
    simp

theorem flat_one {α : Type} (f : α → Value) (l : List α) : l.flatMap (fun x => [f x]) = l.map f := by
  induction l with
  | nil => rfl
  | cons a l ih => simp [ih]

section
variable {X : Cx} {ops : Array Oper} {Q : Post} {rest : List Oper} {L : LT} {R : RL} {d : Nat} {x y : Operand} {v : Value} {t ty : TypeId} {p : String} {af : Array Edge}
end
theorem inc_eq {k : Nat} (h : k < 4611686018427387904) : some (Value.int .i64 (IntKind.i64.wrap ((k : Int) + 1))) = some (Value.int .i64 ((k + 1 : Nat) : Int)) :=
  congrArg (fun z => some (Value.int .i64 z)) (by rw [IntKind.wrap_i64]; omega)
/-- What memory outside A holds. -/
def exc (w : World) (A : HL) : Nat → Option Obj := fun b => if b ∈ ids A then none else w.heap[b]?
theorem OwnL.rd {α : Type} {e : TypeId} {sz : Nat} {f : α → List Value} {v : Value} {l : List α} {A : HL} (hf : ∀ x, (f x).length = sz) (ho : OwnL e sz f v l A) {H : Nat → Option Obj} (hA : ∀ b o, (b, o) ∈ A → H b = some o) :
    ∃ ad cap, v = .slice ad l.length cap ∧ Rd H f sz ad l := by
  rcases ho.2 with ⟨rfl, h2, h3⟩ | ⟨g, cap, rest, rfl, rfl, h3, h4, h5⟩
  · have := List.eq_nil_of_length_eq_zero h2
    subst this
    exact ⟨none, 0, rfl, fun i x hx => by simp at hx⟩
  · refine ⟨some ⟨g, 0, none⟩, cap, rfl, fun i x hx => ⟨g, 0, rfl, fun j u hj => ?_⟩⟩
    have hg := hA g _ List.mem_cons_self
    simp only [cellAt, hg]
    have h6 := flat_get hf l i x hx j u hj
    have : (l.flatMap f ++ rest)[0 + i * sz + j]? = some u := by
      rw [Nat.zero_add, List.getElem?_append_left (List.getElem?_eq_some_iff.1 h6).1]; exact h6
    simpa using this
theorem hp_exc {X : Cx} {w : World} {A : HL} {R : RL} (H : Hp X w (A :: R)) {b : Nat} {o : Obj} (h : (b, o) ∈ R.flatten) : exc w A b = some o := by
  unfold exc
  have hn := H.nodup
  rw [List.flatten_cons, ids_append] at hn
  rw [if_neg (fun hb => (List.nodup_append.1 hn).2.2 b hb b (mem_ids.2 ⟨o, h⟩) rfl)]
  exact H.holds b o (List.mem_append_right _ h)
theorem hp_excO {X : Cx} {w : World} {A : HL} {R : RL} (H : Hp X w (A :: R)) {b : Nat} {o : Obj} (h : Oldh X b = some o) : exc w A b = some o := by
  unfold exc
  rw [if_neg, ← old_hw H h]; rfl
  intro hb
  rcases H.fresh b (by rw [List.flatten_cons, ids_append]; exact List.mem_append_left _ hb) with h1 | h1
  · unfold Oldh at h; rw [if_pos h1] at h; cases h
  · unfold Oldh at h
    split at h
    · cases h
    · exact absurd (Array.getElem?_eq_some_iff.1 h).1 (by omega)
end Go.Wk
