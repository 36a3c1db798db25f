/-
  tac's judge: its cells; arg.
  Structs of two whole numbers compared; two bools compared; strings compared.
  tac: alike.
  The library's ContainsFunc at operands and at instructions.
  tac's judge: call.
  Arrays built and indexed through their address; strings compared.
  word: Name.
-/
import Derived.Test.YtpohhfggmaihpaaGreatDoorZ8
import Derived.Test.YtpohhfggmaihpaaGreatDoorZ3
import Derived.Laws.StructEq
import Derived.Test.YtpohhfggmaihpaaGreatDoorZ5

/- tac's judge: its cells; arg. -/
namespace Go.Proofs.YtpohhfggmaihpaaGreatDoor
open Go.Wk
set_option linter.unusedVariables false
set_option linter.unusedSimpArgs false
attribute [local irreducible] G GC GQ GA GS Exit.then Exit.inBlock

/-- A judge: the program and a function. -/
structure Jg where
  p : Pr
  f : Fn
def Jg.cells (j : Jg) : List Value := [.slice j.p.oA j.p.obs.length j.p.oC, .slice j.p.fA j.p.fns.length j.p.fC, .int .i64 j.p.main, .string j.f.nm, .int .i64 j.f.pa, .int .i64 j.f.te, .bool j.f.gi, .slice j.f.sA j.f.slots.length j.f.sC, .slice j.f.cA j.f.code.length j.f.cC]
def Jg.val (j : Jg) : Value := .agg j.cells.toArray
structure JgIn (h : Nat → Option Obj) (j : Jg) : Prop where
  p : PrIn h j.p
  f : FnIn h j.f
theorem JgIn.le {h1 h2 : Nat → Option Obj} (H : Hle h1 h2) {j : Jg} (h : JgIn h1 j) : JgIn h2 j := ⟨h.p.le H, h.f.le H⟩
def argB (te : Int) (a : Arg) : Bool := a.k == 2 || (a.k == 1 && decide (a.n < te))
theorem arg_sp (j : Jg) (a : Arg) (w : World) (ha : a.ok) (hj : in64 j.f.te) : Sp Tryz.prog 79 [j.val, .agg a.cells.toArray] w [] (fun b : Bool => .bool b) (fun _ => []) (fun b => b = argB j.f.te a) := by
  refine enter (s := Tryz.sx) [] Tryz.func79 rfl rfl rfl (Eff.refl w) ?_
  repeat' (first | refine g_pv rfl rfl ?_ | refine g_ld 0 rfl rfl rfl rfl rfl rfl ?_ | refine g_nil ?_ | refine gq_then ?_ | refine gc_seq ?_ | refine gc_region ?_ | refine g_box rfl rfl (fun _ => ?_))
  refine g_case (t := 8) rfl (fun h => ?_) (fun h => ?_)
  · repeat' (first | refine g_pv rfl rfl ?_ | refine g_nil ?_ | refine gq_then ?_ | refine gc_ret ?_ | refine g_no rfl rfl rfl rfl rfl ?_)
    refine gq_ret1 (.inr rfl) rfl rfl rfl (fun w' H => ⟨true, ?_, rfl, hp_nil H⟩)
    unfold argB; rw [h]; rfl
  · repeat' (first | refine g_pv rfl rfl ?_ | refine g_ld 0 rfl rfl rfl rfl rfl rfl ?_ | refine g_yes rfl rfl rfl ?_)
    refine g_case (t := 12) rfl (fun h2 => ?_) (fun h2 => ?_)
    · repeat' (first | refine g_pv rfl rfl ?_ | refine g_ld 0 rfl rfl rfl rfl rfl rfl ?_ | refine g_ld 1 rfl rfl rfl rfl rfl rfl ?_ | refine g_nil ?_ | refine gq_then ?_ | refine gc_ret ?_ | refine g_yes rfl rfl rfl ?_)
      refine gq_ret1 (.inr rfl) rfl rfl rfl (fun w' H => ⟨_, ?_, rfl, hp_nil H⟩)
      have e1 : IntKind.u64.wrap a.n = a.n := by
        have := ha.1; have := ha.2
        simp only [IntKind.wrap, IntKind.signed, IntKind.bits]; simp; omega
      have e2 : IntKind.u64.wrap (if 0 > j.f.te then 0 else j.f.te) = if 0 > j.f.te then 0 else j.f.te := by
        have := hj.1; have := hj.2
        split
        · rfl
        · simp only [IntKind.wrap, IntKind.signed, IntKind.bits]; simp; omega
      unfold argB
      rw [e1, e2, h, h2]
      simp only [Bool.false_or, Bool.true_and]
      have := ha.1
      by_cases hn : a.n < j.f.te
      · rw [decide_eq_true hn, decide_eq_true (by split <;> omega)]
      · rw [decide_eq_false hn, decide_eq_false (by split <;> omega)]
    · repeat' (first | refine g_pv rfl rfl ?_ | refine g_nil ?_ | refine gq_then ?_ | refine gc_ret ?_ | refine g_yes rfl rfl rfl ?_ | refine g_no rfl rfl rfl rfl rfl ?_)
      refine gq_ret1 (.inr rfl) rfl rfl rfl (fun w' H => ⟨false, ?_, rfl, hp_nil H⟩)
      unfold argB; rw [h, h2]; rfl
end Go.Proofs.YtpohhfggmaihpaaGreatDoor

/- Structs of two whole numbers compared; two bools compared; strings compared. -/
namespace Go.Wk
set_option linter.unusedVariables false
set_option linter.unusedSimpArgs false

/-- A struct type whose values may be compared field by field. -/
def sEq (P : Program) (t : TypeId) : Bool := match P.underlying t with
  | some (.struct fl) => fl.toList.all (fun f => f.name != "_") && !P.stoodInHeld t && !P.eqGuardType P.depth t
  | _ => false

section
variable {X : Cx} {L : LT} {t ty yt : TypeId} {x y : Operand} {d : Nat} {p : String} {af : Array Edge}
theorem run_part1 {P : Program} {t : TypeId} {ik : IntKind} {z : Value} {s b : Nat} (h : tiOf P t = some ⟨.int ik, z, s, b⟩) (cs : Array Value) (off : Nat) (v : Value) (hv : cs[off]? = some v) (w : World) : (part t cs off).run P w = .ok v w := by
  unfold part
  rw [Sem.run_bind, run_isAgg h]
  simp [isA, hv]
theorem run_eqA {P : Program} {t t1 t2 : TypeId} {k1 k2 : IntKind} {a1 a2 b1 b2 : Int} {z z1 z2 : Value} {s b s1 c1 s2 c2 : Nat} (ht : tiOf P t = some ⟨.struct [(0, t1), (1, t2)], z, s, b⟩) (h1 : tiOf P t1 = some ⟨.int k1, z1, s1, c1⟩) (h2 : tiOf P t2 = some ⟨.int k2, z2, s2, c2⟩) (hs : sEq P t = true) (x y : Operand) (w : World) (d : Nat) :
    (Op.equalIn (d + 2) t (.agg #[.int k1 a1, .int k2 a2]) (.agg #[.int k1 b1, .int k2 b2])).run P w = .ok (a1 == b1 && a2 == b2) w := by
  obtain ⟨fl, hu, hfl⟩ := tk_struct ht
  simp only [sEq, hu, Bool.and_eq_true, Bool.not_eq_true'] at hs
  have hf : P.fieldsOf t = fl := by simp [Program.fieldsOf, hu]
  rw [run_equalIn_agg w (d + 1) t _ _ (by rw [hf]; exact hu) hs.1.2, hf]
  obtain ⟨fl⟩ := fl
  dsimp only at hs hfl ⊢
  obtain ⟨f1, r1, rfl, e0, hr1⟩ := List.map_eq_cons_iff.1 hfl
  obtain ⟨f2, r2, rfl, e9, hr2⟩ := List.map_eq_cons_iff.1 hr1
  obtain rfl := List.map_eq_nil_iff.1 hr2
  simp only [Prod.mk.injEq] at e0 e9
  obtain ⟨e1, e2⟩ := e0
  obtain ⟨e3, e4⟩ := e9
  simp only [List.all_cons, List.all_nil, Bool.and_true, Bool.and_eq_true, bne_iff_ne] at hs
  subst e2; subst e4
  have q1 : (Op.equalIn (d + 1) f1.type (.int k1 a1) (.int k1 b1)).run P w = .ok (a1 == b1) w := run_equalIn_int w d _ _ _ _ _ (tk_int h1)
  have q2 : (Op.equalIn (d + 1) f2.type (.int k2 a2) (.int k2 b2)).run P w = .ok (a2 == b2) w := run_equalIn_int w d _ _ _ _ _ (tk_int h2)
  have p1 : (part f1.type #[.int k1 a1, .int k2 a2] 0).run P w = .ok (.int k1 a1) w := run_part1 h1 _ _ _ rfl w
  have p2 : (part f1.type #[.int k1 b1, .int k2 b2] 0).run P w = .ok (.int k1 b1) w := run_part1 h1 _ _ _ rfl w
  have p3 : (part f2.type #[.int k1 a1, .int k2 a2] 1).run P w = .ok (.int k2 a2) w := run_part1 h2 _ _ _ rfl w
  have p4 : (part f2.type #[.int k1 b1, .int k2 b2] 1).run P w = .ok (.int k2 b2) w := run_part1 h2 _ _ _ rfl w
  simp only [Op.eqFields, if_pos hs.1.1.1, if_pos hs.1.1.2, Sem.run_bind, e1, e3, p1, p2, q1, Result.andThen_ok]
  cases hq : (a1 == b1) with
  | false => simp
  | true =>
    simp only [Bool.not_true, Bool.false_eq_true, if_false, Sem.run_bind, p3, p4, q2, Result.andThen_ok]
    cases hr : (a2 == b2) <;> simp
theorem p_eqA {t1 t2 : TypeId} {k1 k2 : IntKind} {a1 a2 b1 b2 : Int} {z z1 z2 : Value} {s b s1 c1 s2 c2 : Nat} (hx : ev L x = some (.agg #[.int k1 a1, .int k2 a2])) (hy : ev L y = some (.agg #[.int k1 b1, .int k2 b2]))
    (ht : tl X.s.tab t = some ⟨.struct [(0, t1), (1, t2)], z, s, b⟩) (h1 : tl X.s.tab t1 = some ⟨.int k1, z1, s1, c1⟩) (h2 : tl X.s.tab t2 = some ⟨.int k2, z2, s2, c2⟩) (hs : sEq X.s.P t = true) :
    PR X.s.P L (⟨some d, .binOp .eql t x y yt, ty, p, af, none⟩ : Oper) (.bool (a1 == b1 && a2 == b2)) := fun ρ w h => by
  simp only [execOp]; rw [h x _ hx, h y _ hy]
  have hu := hs
  have hg : X.s.P.eqGuardType X.s.P.depth t = false := by
    unfold sEq at hs
    split at hs
    · simp only [Bool.and_eq_true, Bool.not_eq_true'] at hs; exact hs.2
    · cases hs
  have e : (do eqGuard .eql t x y (.agg #[.int k1 a1, .int k2 a2]) (.agg #[.int k1 b1, .int k2 b2]); binOp .eql t (.agg #[.int k1 a1, .int k2 a2]) (.agg #[.int k1 b1, .int k2 b2]) : Sem Value).run X.s.P w = .ok (.bool (a1 == b1 && a2 == b2)) w := by
    rw [Sem.run_bind, run_eqGuard_agg w .eql t x y _ _ hg, Result.andThen_ok, run_eql_struct]
    rw [run_eqA (X.s.ok.at ht) (X.s.ok.at h1) (X.s.ok.at h2) hs x y w 9998]
    rfl
  rw [Sem.run_bind, e]; rfl
theorem run_eqB {P : Program} {a b : Bool} {t : TypeId} (ht : P.underlying t = some .bool) (x y : Operand) (w : World) :
    (do eqGuard .eql t x y (.bool a) (.bool b); binOp .eql t (.bool a) (.bool b) : Sem Value).run P w = .ok (.bool (a == b)) w := by
  have h : ∀ d : Nat, (Op.equalIn (d + 1) t (.bool a) (.bool b)).run P w = .ok (a == b) w := fun d => run_equalIn_bool' (P := P) (w := w) d t a b ht
  simp only [eqGuard, binOp]
  simp [Op.equal, Op.maxDepth, h 9999]
theorem run_neB {P : Program} {a b : Bool} {t : TypeId} (ht : P.underlying t = some .bool) (x y : Operand) (w : World) :
    (do eqGuard .neq t x y (.bool a) (.bool b); binOp .neq t (.bool a) (.bool b) : Sem Value).run P w = .ok (.bool (a != b)) w := by
  have h : ∀ d : Nat, (Op.equalIn (d + 1) t (.bool a) (.bool b)).run P w = .ok (a == b) w := fun d => run_equalIn_bool' (P := P) (w := w) d t a b ht
  simp only [eqGuard, binOp]
  simp [Op.equal, Op.maxDepth, h 9999, bne]
theorem p_eqB {a b : Bool} {z : Value} {s u : Nat} (hx : ev L x = some (.bool a)) (hy : ev L y = some (.bool b)) (ht : tl X.s.tab t = some ⟨.bool, z, s, u⟩) : PR X.s.P L (⟨some d, .binOp .eql t x y yt, ty, p, af, none⟩ : Oper) (.bool (a == b)) := fun ρ w h => by
  simp only [execOp]; rw [h x _ hx, h y _ hy]
  rw [Sem.run_bind, run_eqB (tk_bool (X.s.ok.at ht)) x y w]; rfl
theorem p_neB {a b : Bool} {z : Value} {s u : Nat} (hx : ev L x = some (.bool a)) (hy : ev L y = some (.bool b)) (ht : tl X.s.tab t = some ⟨.bool, z, s, u⟩) : PR X.s.P L (⟨some d, .binOp .neq t x y yt, ty, p, af, none⟩ : Oper) (.bool (a != b)) := fun ρ w h => by
  simp only [execOp]; rw [h x _ hx, h y _ hy]
  rw [Sem.run_bind, run_neB (tk_bool (X.s.ok.at ht)) x y w]; rfl
end
end Go.Wk

/- tac: alike. -/
namespace Go.Proofs.YtpohhfggmaihpaaGreatDoor
open Go.Wk
set_option linter.unusedVariables false
set_option linter.unusedSimpArgs false
attribute [local irreducible] G GC GQ GA GS Exit.then Exit.inBlock

def alikeB (x y : Ins) : Bool := x.op == y.op && (x.bin == y.bin && (x.d == y.d && ((x.a.k == y.a.k && x.a.n == y.a.n) && ((x.b.k == y.b.k && x.b.n == y.b.n) && (x.n == y.n && (x.off == y.off && (x.width == y.width && x.signed == y.signed)))))))
set_option maxHeartbeats 4000000 in
theorem alike_sp (x y : Ins) (w : World) : Sp Tryz.prog 82 [x.val, y.val] w [] (fun b : Bool => .bool b) (fun _ => []) (fun b => b = alikeB x y) := by
  refine enter (s := Tryz.sx) [] Tryz.func82 rfl rfl rfl (Eff.refl w) ?_
  repeat' (first | refine g_pv rfl rfl ?_ | refine g_ld 0 rfl rfl rfl rfl rfl rfl ?_ | refine g_ld 1 rfl rfl rfl rfl rfl rfl ?_ | refine g_nil ?_ | refine gq_then ?_ | refine gc_seq ?_ | refine gc_region ?_ | refine g_box rfl rfl (fun _ => ?_))
  refine g_case (t := 10) rfl (fun h0 => ?_) (fun h0 => ?_)
  rotate_left
  · repeat' (first | refine g_pv rfl rfl ?_ | refine g_nil ?_ | refine gq_then ?_ | refine gc_ret ?_ | refine g_no rfl rfl rfl rfl rfl ?_)
    refine gq_ret1 (.inr rfl) rfl rfl rfl (fun w' H => ⟨false, ?_, rfl, hp_nil H⟩)
    unfold alikeB; rw [h0]; rfl
  repeat' (first | refine g_pv rfl rfl ?_ | refine g_ld 0 rfl rfl rfl rfl rfl rfl ?_ | refine g_ld 1 rfl rfl rfl rfl rfl rfl ?_ | refine g_yes rfl rfl rfl ?_)
  refine g_case (t := 17) rfl (fun h1 => ?_) (fun h1 => ?_)
  rotate_left
  · repeat' (first | refine g_pv rfl rfl ?_ | refine g_nil ?_ | refine gq_then ?_ | refine gc_ret ?_ | refine g_no rfl rfl rfl rfl rfl ?_)
    refine gq_ret1 (.inr rfl) rfl rfl rfl (fun w' H => ⟨false, ?_, rfl, hp_nil H⟩)
    unfold alikeB; rw [h0, h1]; rfl
  repeat' (first | refine g_pv rfl rfl ?_ | refine g_ld 0 rfl rfl rfl rfl rfl rfl ?_ | refine g_ld 1 rfl rfl rfl rfl rfl rfl ?_ | refine g_yes rfl rfl rfl ?_)
  refine g_case (t := 24) rfl (fun h2 => ?_) (fun h2 => ?_)
  rotate_left
  · repeat' (first | refine g_pv rfl rfl ?_ | refine g_nil ?_ | refine gq_then ?_ | refine gc_ret ?_ | refine g_no rfl rfl rfl rfl rfl ?_)
    refine gq_ret1 (.inr rfl) rfl rfl rfl (fun w' H => ⟨false, ?_, rfl, hp_nil H⟩)
    unfold alikeB; rw [h0, h1, h2]; rfl
  repeat' (first | refine g_pv rfl rfl ?_ | refine g_ld 0 rfl rfl rfl rfl rfl rfl ?_ | refine g_ld 1 rfl rfl rfl rfl rfl rfl ?_ | refine g_yes rfl rfl rfl ?_)
  refine g_p (p_eqA (L := _) rfl rfl rfl rfl rfl (by kernel_rfl)) rfl ?_
  repeat' (refine g_pv rfl rfl ?_)
  refine g_case (t := 31) rfl (fun h3 => ?_) (fun h3 => ?_)
  rotate_left
  · repeat' (first | refine g_pv rfl rfl ?_ | refine g_nil ?_ | refine gq_then ?_ | refine gc_ret ?_ | refine g_no rfl rfl rfl rfl rfl ?_)
    refine gq_ret1 (.inr rfl) rfl rfl rfl (fun w' H => ⟨false, ?_, rfl, hp_nil H⟩)
    unfold alikeB; rw [h0, h1, h2, h3]; rfl
  repeat' (first | refine g_pv rfl rfl ?_ | refine g_ld 0 rfl rfl rfl rfl rfl rfl ?_ | refine g_ld 1 rfl rfl rfl rfl rfl rfl ?_ | refine g_yes rfl rfl rfl ?_)
  refine g_p (p_eqA (L := _) rfl rfl rfl rfl rfl (by kernel_rfl)) rfl ?_
  repeat' (refine g_pv rfl rfl ?_)
  refine g_case (t := 38) rfl (fun h4 => ?_) (fun h4 => ?_)
  rotate_left
  · repeat' (first | refine g_pv rfl rfl ?_ | refine g_nil ?_ | refine gq_then ?_ | refine gc_ret ?_ | refine g_no rfl rfl rfl rfl rfl ?_)
    refine gq_ret1 (.inr rfl) rfl rfl rfl (fun w' H => ⟨false, ?_, rfl, hp_nil H⟩)
    unfold alikeB; rw [h0, h1, h2, h3, h4]; rfl
  repeat' (first | refine g_pv rfl rfl ?_ | refine g_ld 0 rfl rfl rfl rfl rfl rfl ?_ | refine g_ld 1 rfl rfl rfl rfl rfl rfl ?_ | refine g_yes rfl rfl rfl ?_)
  refine g_case (t := 45) rfl (fun h5 => ?_) (fun h5 => ?_)
  rotate_left
  · repeat' (first | refine g_pv rfl rfl ?_ | refine g_nil ?_ | refine gq_then ?_ | refine gc_ret ?_ | refine g_no rfl rfl rfl rfl rfl ?_)
    refine gq_ret1 (.inr rfl) rfl rfl rfl (fun w' H => ⟨false, ?_, rfl, hp_nil H⟩)
    unfold alikeB; rw [h0, h1, h2, h3, h4, h5]; rfl
  repeat' (first | refine g_pv rfl rfl ?_ | refine g_ld 0 rfl rfl rfl rfl rfl rfl ?_ | refine g_ld 1 rfl rfl rfl rfl rfl rfl ?_ | refine g_yes rfl rfl rfl ?_)
  refine g_case (t := 52) rfl (fun h6 => ?_) (fun h6 => ?_)
  rotate_left
  · repeat' (first | refine g_pv rfl rfl ?_ | refine g_nil ?_ | refine gq_then ?_ | refine gc_ret ?_ | refine g_no rfl rfl rfl rfl rfl ?_)
    refine gq_ret1 (.inr rfl) rfl rfl rfl (fun w' H => ⟨false, ?_, rfl, hp_nil H⟩)
    unfold alikeB; rw [h0, h1, h2, h3, h4, h5, h6]; rfl
  repeat' (first | refine g_pv rfl rfl ?_ | refine g_ld 0 rfl rfl rfl rfl rfl rfl ?_ | refine g_ld 1 rfl rfl rfl rfl rfl rfl ?_ | refine g_yes rfl rfl rfl ?_)
  refine g_case (t := 59) rfl (fun h7 => ?_) (fun h7 => ?_)
  rotate_left
  · repeat' (first | refine g_pv rfl rfl ?_ | refine g_nil ?_ | refine gq_then ?_ | refine gc_ret ?_ | refine g_no rfl rfl rfl rfl rfl ?_)
    refine gq_ret1 (.inr rfl) rfl rfl rfl (fun w' H => ⟨false, ?_, rfl, hp_nil H⟩)
    unfold alikeB; rw [h0, h1, h2, h3, h4, h5, h6, h7]; rfl
  repeat' (first | refine g_pv rfl rfl ?_ | refine g_ld 0 rfl rfl rfl rfl rfl rfl ?_ | refine g_ld 1 rfl rfl rfl rfl rfl rfl ?_ | refine g_yes rfl rfl rfl ?_)
  refine g_p (p_eqB rfl rfl rfl) rfl ?_
  repeat' (first | refine g_pv rfl rfl ?_ | refine g_nil ?_ | refine gq_then ?_ | refine gc_ret ?_)
  refine gq_ret1 (.inr rfl) rfl rfl rfl (fun w' H => ⟨x.signed == y.signed, ?_, rfl, hp_nil H⟩)
  unfold alikeB; rw [h0, h1, h2, h3, h4, h5, h6, h7]; rfl
end Go.Proofs.YtpohhfggmaihpaaGreatDoor

/- The library's ContainsFunc at operands and at instructions. -/
namespace Go.Proofs.YtpohhfggmaihpaaGreatDoor
open Go.Wk
set_option linter.unusedVariables false
set_option linter.unusedSimpArgs false
attribute [local irreducible] G GC GQ GA GS Exit.then Exit.inBlock

/-- What is asked of a predicate's function: of every element its answer stands in R. -/
def PredR {α : Type} (H : Nat → Option Obj) (k : FuncId) (cp : Array Value) (f : α → Value) (l : List α) (R : Bool → α → Prop) : Prop :=
  Cl Tryz.prog k ∧ ∀ w x, x ∈ l → Hle H (hw w) → Sp Tryz.prog k (f x :: cp.toList) w [] (fun b : Bool => .bool b) (fun _ => []) (fun b => R b x)
theorem indexArg_sp (l : List Arg) (R : Bool → Arg → Prop) (ad : Option Addr) (cap : Nat) (w : World) (k : FuncId) (cp : Array Value) (hl : l.length ≤ 4611686018427387904) (hr : Rd (hw w) Arg.cells 2 ad l) (hp : PredR (hw w) k cp (fun x : Arg => .agg x.cells.toArray) l R) :
    Sp Tryz.prog 151 [.slice ad l.length cap, .func (.func k) #[] cp] w [] (fun i : Int => .int .i64 i) (fun _ => []) (fun i => (i < 0 ∧ ∀ x ∈ l, R false x) ∨ (0 ≤ i ∧ ∃ x ∈ l, R true x)) := by
  refine enter (s := Tryz.sx) [] Tryz.func151 rfl rfl rfl (Eff.refl w) ?_
  repeat' (first | refine g_pv rfl rfl ?_ | refine g_nil ?_ | refine gq_then ?_ | refine gc_seq ?_ | refine gc_region ?_ | refine gc_block ?_)
  refine gc_loop (Y := Nat) (fun y => y ≤ l.length ∧ ∀ x ∈ l.take y, R false x)
    (fun y => [(0, .slice ad l.length cap), (1, .func (.func k) #[] cp), (6, .slice ad l.length cap), (7, .int .i64 l.length), (8, .int .i64 y)]) (fun y => [])
    (fun y => l.length - y) 0 ⟨Nat.zero_le _, by simp⟩ ⟨rfl, rfl, rfl, rfl, rfl, trivial⟩ (fun w' H => H) ?_
  rintro j ⟨hj, hpj⟩
  dsimp only at hj hpj ⊢
  repeat' (first | refine g_pv rfl rfl ?_ | refine g_nil ?_ | refine gq_then ?_ | refine gc_seq ?_ | refine gc_region ?_)
  refine gc_condC rfl (fun hc => ?_) (fun hc => ?_)
  · have hlt : j < l.length := by have := of_decide_eq_true hc; omega
    have hlx : l[j]? = some l[j] := List.getElem?_eq_getElem hlt
    have htk : l.take (j + 1) = l.take j ++ [l[j]] := List.take_succ_eq_append_getElem hlt
    have hmx : l[j] ∈ l := List.getElem_mem hlt
    generalize l[j] = x at hlx htk hmx
    repeat' (first | refine g_pv rfl rfl ?_ | refine g_nil ?_ | refine gq_then ?_ | refine gc_seq ?_ | refine gc_region ?_ | refine gc_block ?_ | refine gc_skip ?_)
    refine g_at (l := l) (f := Arg.cells) (u := x) rfl rfl rfl rfl rfl (Int.natCast_nonneg j) (by omega) (hr.le (old_le0 _ w)) hlx rfl rfl rfl rfl (fun a => ?_)
    refine g_call (gs := .agg x.cells.toArray :: cp.toList) (Y := Bool) (vf := fun b => .bool b) (A' := fun _ => []) (post := fun b => R b x) rfl hp.1 rfl rfl (fun w' hE => hp.2 w' x hmx (fun b o hh => old_le hE b o (old_le0 _ w b o hh))) rfl ?_
    rintro b hb
    repeat' (first | refine g_nil ?_ | refine gq_then ?_)
    cases b
    · repeat' (first | refine g_pv rfl rfl ?_ | refine g_nil ?_ | refine gq_then ?_ | refine gc_region ?_ | refine gc_cond_f rfl ?_ | refine gc_skip ?_ | refine gq_block ?_)
      refine gq_again (j + 1) ⟨hlt, ?_⟩ (by omega) ⟨rfl, rfl, rfl, rfl, inc_eq (by omega), trivial⟩ (fun w' H => H)
      intro y hy
      rw [htk] at hy
      rcases List.mem_append.1 hy with h | h
      · exact hpj y h
      · simp at h; subst h; exact hb
    · repeat' (first | refine g_pv rfl rfl ?_ | refine g_nil ?_ | refine gq_then ?_ | refine gc_seq ?_ | refine gc_region ?_ | refine gc_cond_t rfl ?_ | refine gc_ret ?_ | refine gq_then_ret ?_ | refine gq_block_ret ?_)
      exact gq_ret1 (.inr rfl) rfl rfl rfl (fun w' H => ⟨_, .inr ⟨Int.natCast_nonneg j, x, hmx, hb⟩, rfl, H⟩)
  · have hge : j = l.length := by have := of_decide_eq_false hc; omega
    repeat' (first | refine g_pv rfl rfl ?_ | refine g_nil ?_ | refine gq_then ?_ | refine gc_seq ?_ | refine gc_region ?_ | refine gc_exit ?_ | refine gc_ret ?_ | refine gq_then_exit ?_ | refine gq_block_exit ?_)
    refine gq_ret1 (.inr rfl) rfl rfl rfl (fun w' H => ⟨_, .inl ⟨by decide, ?_⟩, rfl, H⟩)
    rw [hge, List.take_length] at hpj; exact hpj
theorem containsArg_sp (l : List Arg) (R : Bool → Arg → Prop) (ad : Option Addr) (cap : Nat) (w : World) (k : FuncId) (cp : Array Value) (hl : l.length ≤ 4611686018427387904) (hr : Rd (hw w) Arg.cells 2 ad l) (hp : PredR (hw w) k cp (fun x : Arg => .agg x.cells.toArray) l R) :
    Sp Tryz.prog 125 [.slice ad l.length cap, .func (.func k) #[] cp] w [] (fun b : Bool => .bool b) (fun _ => []) (fun b => (b = false ∧ ∀ x ∈ l, R false x) ∨ (b = true ∧ ∃ x ∈ l, R true x)) := by
  refine enter (s := Tryz.sx) [] Tryz.func125 rfl rfl rfl (Eff.refl w) ?_
  repeat' (first | refine g_pv rfl rfl ?_ | refine g_nil ?_ | refine gq_then ?_ | refine gc_seq ?_ | refine gc_region ?_)
  refine g_call (Y := Int) (vf := fun i => .int .i64 i) (A' := fun _ => []) (post := fun i => (i < 0 ∧ ∀ x ∈ l, R false x) ∨ (0 ≤ i ∧ ∃ x ∈ l, R true x)) rfl (Cl.of Tryz.func151 rfl rfl) rfl rfl (fun w' hE => indexArg_sp l R ad cap w' k cp hl (hr.le (fun b o h => old_le hE b o (old_le0 _ w b o h))) ⟨hp.1, fun w2 x hx hh => hp.2 w2 x hx (fun b o h => hh b o (old_le hE b o (old_le0 _ w b o h)))⟩) rfl ?_
  rintro i hi
  repeat' (first | refine g_pv rfl rfl ?_ | refine g_nil ?_ | refine gq_then ?_ | refine gc_ret ?_)
  refine gq_ret1 (.inr rfl) rfl rfl rfl (fun w' H => ⟨decide (i ≥ 0), ?_, rfl, H⟩)
  rcases hi with ⟨h1, h2⟩ | ⟨h1, h2⟩
  · exact .inl ⟨decide_eq_false (by omega), h2⟩
  · exact .inr ⟨decide_eq_true h1, h2⟩
theorem indexIns_sp (l : List Ins) (R : Bool → Ins → Prop) (ad : Option Addr) (cap : Nat) (w : World) (k : FuncId) (cp : Array Value) (hl : l.length ≤ 4611686018427387904) (hr : Rd (hw w) Ins.cells 12 ad l) (hp : PredR (hw w) k cp (fun x : Ins => .agg x.cells.toArray) l R) :
    Sp Tryz.prog 78 [.slice ad l.length cap, .func (.func k) #[] cp] w [] (fun i : Int => .int .i64 i) (fun _ => []) (fun i => (i < 0 ∧ ∀ x ∈ l, R false x) ∨ (0 ≤ i ∧ ∃ x ∈ l, R true x)) := by
  refine enter (s := Tryz.sx) [] Tryz.func78 rfl rfl rfl (Eff.refl w) ?_
  repeat' (first | refine g_pv rfl rfl ?_ | refine g_nil ?_ | refine gq_then ?_ | refine gc_seq ?_ | refine gc_region ?_ | refine gc_block ?_)
  refine gc_loop (Y := Nat) (fun y => y ≤ l.length ∧ ∀ x ∈ l.take y, R false x)
    (fun y => [(0, .slice ad l.length cap), (1, .func (.func k) #[] cp), (6, .slice ad l.length cap), (7, .int .i64 l.length), (8, .int .i64 y)]) (fun y => [])
    (fun y => l.length - y) 0 ⟨Nat.zero_le _, by simp⟩ ⟨rfl, rfl, rfl, rfl, rfl, trivial⟩ (fun w' H => H) ?_
  rintro j ⟨hj, hpj⟩
  dsimp only at hj hpj ⊢
  repeat' (first | refine g_pv rfl rfl ?_ | refine g_nil ?_ | refine gq_then ?_ | refine gc_seq ?_ | refine gc_region ?_)
  refine gc_condC rfl (fun hc => ?_) (fun hc => ?_)
  · have hlt : j < l.length := by have := of_decide_eq_true hc; omega
    have hlx : l[j]? = some l[j] := List.getElem?_eq_getElem hlt
    have htk : l.take (j + 1) = l.take j ++ [l[j]] := List.take_succ_eq_append_getElem hlt
    have hmx : l[j] ∈ l := List.getElem_mem hlt
    generalize l[j] = x at hlx htk hmx
    repeat' (first | refine g_pv rfl rfl ?_ | refine g_nil ?_ | refine gq_then ?_ | refine gc_seq ?_ | refine gc_region ?_ | refine gc_block ?_ | refine gc_skip ?_)
    refine g_at (l := l) (f := Ins.cells) (u := x) rfl rfl rfl rfl rfl (Int.natCast_nonneg j) (by omega) (hr.le (old_le0 _ w)) hlx rfl rfl rfl rfl (fun a => ?_)
    refine g_call (gs := .agg x.cells.toArray :: cp.toList) (Y := Bool) (vf := fun b => .bool b) (A' := fun _ => []) (post := fun b => R b x) rfl hp.1 rfl rfl (fun w' hE => hp.2 w' x hmx (fun b o hh => old_le hE b o (old_le0 _ w b o hh))) rfl ?_
    rintro b hb
    repeat' (first | refine g_nil ?_ | refine gq_then ?_)
    cases b
    · repeat' (first | refine g_pv rfl rfl ?_ | refine g_nil ?_ | refine gq_then ?_ | refine gc_region ?_ | refine gc_cond_f rfl ?_ | refine gc_skip ?_ | refine gq_block ?_)
      refine gq_again (j + 1) ⟨hlt, ?_⟩ (by omega) ⟨rfl, rfl, rfl, rfl, inc_eq (by omega), trivial⟩ (fun w' H => H)
      intro y hy
      rw [htk] at hy
      rcases List.mem_append.1 hy with h | h
      · exact hpj y h
      · simp at h; subst h; exact hb
    · repeat' (first | refine g_pv rfl rfl ?_ | refine g_nil ?_ | refine gq_then ?_ | refine gc_seq ?_ | refine gc_region ?_ | refine gc_cond_t rfl ?_ | refine gc_ret ?_ | refine gq_then_ret ?_ | refine gq_block_ret ?_)
      exact gq_ret1 (.inr rfl) rfl rfl rfl (fun w' H => ⟨_, .inr ⟨Int.natCast_nonneg j, x, hmx, hb⟩, rfl, H⟩)
  · have hge : j = l.length := by have := of_decide_eq_false hc; omega
    repeat' (first | refine g_pv rfl rfl ?_ | refine g_nil ?_ | refine gq_then ?_ | refine gc_seq ?_ | refine gc_region ?_ | refine gc_exit ?_ | refine gc_ret ?_ | refine gq_then_exit ?_ | refine gq_block_exit ?_)
    refine gq_ret1 (.inr rfl) rfl rfl rfl (fun w' H => ⟨_, .inl ⟨by decide, ?_⟩, rfl, H⟩)
    rw [hge, List.take_length] at hpj; exact hpj
theorem containsIns_sp (l : List Ins) (R : Bool → Ins → Prop) (ad : Option Addr) (cap : Nat) (w : World) (k : FuncId) (cp : Array Value) (hl : l.length ≤ 4611686018427387904) (hr : Rd (hw w) Ins.cells 12 ad l) (hp : PredR (hw w) k cp (fun x : Ins => .agg x.cells.toArray) l R) :
    Sp Tryz.prog 46 [.slice ad l.length cap, .func (.func k) #[] cp] w [] (fun b : Bool => .bool b) (fun _ => []) (fun b => (b = false ∧ ∀ x ∈ l, R false x) ∨ (b = true ∧ ∃ x ∈ l, R true x)) := by
  refine enter (s := Tryz.sx) [] Tryz.func46 rfl rfl rfl (Eff.refl w) ?_
  repeat' (first | refine g_pv rfl rfl ?_ | refine g_nil ?_ | refine gq_then ?_ | refine gc_seq ?_ | refine gc_region ?_)
  refine g_call (Y := Int) (vf := fun i => .int .i64 i) (A' := fun _ => []) (post := fun i => (i < 0 ∧ ∀ x ∈ l, R false x) ∨ (0 ≤ i ∧ ∃ x ∈ l, R true x)) rfl (Cl.of Tryz.func78 rfl rfl) rfl rfl (fun w' hE => indexIns_sp l R ad cap w' k cp hl (hr.le (fun b o h => old_le hE b o (old_le0 _ w b o h))) ⟨hp.1, fun w2 x hx hh => hp.2 w2 x hx (fun b o h => hh b o (old_le hE b o (old_le0 _ w b o h)))⟩) rfl ?_
  rintro i hi
  repeat' (first | refine g_pv rfl rfl ?_ | refine g_nil ?_ | refine gq_then ?_ | refine gc_ret ?_)
  refine gq_ret1 (.inr rfl) rfl rfl rfl (fun w' H => ⟨decide (i ≥ 0), ?_, rfl, H⟩)
  rcases hi with ⟨h1, h2⟩ | ⟨h1, h2⟩
  · exact .inl ⟨decide_eq_false (by omega), h2⟩
  · exact .inr ⟨decide_eq_true h1, h2⟩
end Go.Proofs.YtpohhfggmaihpaaGreatDoor

/- tac's judge: call. -/
namespace Go.Proofs.YtpohhfggmaihpaaGreatDoor
open Go.Wk
set_option linter.unusedVariables false
set_option linter.unusedSimpArgs false
attribute [local irreducible] G GC GQ GA GS Exit.then Exit.inBlock

theorem cells_of {H : Nat → Option Obj} {b : Nat} {l : List Value} {e : TypeId} {fz : Nat × Nat} (h : H b = some (.cells ⟨l⟩ e fz)) : ∀ (i : Nat) (u : Value), l[i]? = some u → cellAt H b (0 + i) = some u := by
  intro i u hu
  simp only [cellAt, h, Nat.zero_add]
  simpa using hu
theorem call1_sp (j : Jg) (a : Arg) (bx : Nat) (w : World) (ha : a.ok) (hj : in64 j.f.te) (hb : ∀ (i : Nat) (u : Value), j.cells[i]? = some u → cellAt (hw w) bx (0 + i) = some u) :
    Sp Tryz.prog 126 [.agg a.cells.toArray, .pointer (some ⟨bx, 0, none⟩)] w [] (fun b : Bool => .bool b) (fun _ => []) (fun b => b = !argB j.f.te a) := by
  refine enter (s := Tryz.sx) [] Tryz.func126 rfl rfl rfl (Eff.refl w) ?_
  repeat' (first | refine g_pv rfl rfl ?_ | refine g_nil ?_ | refine gq_then ?_ | refine gc_seq ?_ | refine gc_region ?_ | refine g_box rfl rfl (fun _ => ?_))
  refine g_ldO rfl rfl (cs := j.cells) rfl rfl (fun i u hu => (old_le0 _ w).cell (hb i u hu)) rfl ?_
  repeat' (refine g_ld 0 rfl rfl rfl rfl rfl rfl ?_)
  refine g_call rfl (Cl.of Tryz.func79 rfl rfl) rfl rfl (fun w' hE => arg_sp j a w' ha hj) rfl ?_
  rintro b hb'
  repeat' (first | refine g_pv rfl rfl ?_ | refine g_nil ?_ | refine gq_then ?_ | refine gc_ret ?_)
  exact gq_ret1 (.inr rfl) rfl rfl rfl (fun w' H => ⟨!b, by rw [hb'], rfl, hp_nil H⟩)

def inB (a b : Int) : Bool := decide (0 ≤ a) && decide (a < b)
def callB (j : Jg) (x : Ins) (g : Fn) : Bool := !((x.d != -1 && (!inB x.d j.f.te || !g.gi)) || ((x.args.length : Int) != g.pa)) && x.args.all (argB j.f.te)
set_option maxHeartbeats 2000000 in
theorem call_sp (j : Jg) (x : Ins) (g : Fn) (w : World) (hx : InsIn (hw w) x) (hj : JgIn (hw w) j) : Sp Tryz.prog 81 [j.val, x.val, g.val] w [] (fun b : Bool => .bool b) (fun _ => []) (fun b => b = callB j x g) := by
  refine enter (s := Tryz.sx) [] Tryz.func81 rfl rfl rfl (Eff.refl w) ?_
  repeat' (first | refine g_pv rfl rfl ?_ | refine g_ld 1 rfl rfl rfl rfl rfl rfl ?_ | refine g_nil ?_ | refine gq_then ?_ | refine gc_seq ?_ | refine gc_region ?_ | refine g_box rfl rfl (fun _ => ?_))
  rename_i b2 b3 b4
  refine g_case (t := 10) rfl (fun h1 => ?_) (fun h1 => ?_)
  · repeat' (first | refine g_pv rfl rfl ?_ | refine g_ld 1 rfl rfl rfl rfl rfl rfl ?_ | refine g_ld 2 rfl rfl rfl rfl rfl rfl ?_ | refine g_yes rfl rfl rfl ?_)
    refine g_call rfl (Cl.of Tryz.func23 rfl rfl) rfl rfl (fun w' hE => within_sp x.d j.f.te w') rfl (fun _ _ => ?_)
    repeat' (first | refine g_pv rfl rfl ?_ | refine g_yes rfl rfl rfl ?_)
    refine g_case (t := 18) rfl (fun h2 => ?_) (fun h2 => ?_)
    · have h2 : (!inB x.d j.f.te) = true := h2
      repeat' (first | refine g_pv rfl rfl ?_ | refine g_nil ?_ | refine gq_then ?_ | refine gc_seq ?_ | refine gc_region ?_ | refine gc_cond_t rfl ?_ | refine gc_ret ?_ | refine gq_then_ret ?_ | refine g_yes rfl rfl rfl ?_ | refine g_no rfl rfl rfl rfl rfl ?_)
      refine gq_ret1 (.inr rfl) rfl rfl rfl (fun w' H => ⟨false, ?_, rfl, hp_nil H⟩)
      unfold callB; rw [h1, h2]; rfl
    · have h2 : (!inB x.d j.f.te) = false := h2
      repeat' (first | refine g_pv rfl rfl ?_ | refine g_ld 0 rfl rfl rfl rfl rfl rfl ?_ | refine g_yes rfl rfl rfl ?_)
      refine g_case (t := 24) rfl (fun h3 => ?_) (fun h3 => ?_)
      · repeat' (first | refine g_pv rfl rfl ?_ | refine g_nil ?_ | refine gq_then ?_ | refine gc_seq ?_ | refine gc_region ?_ | refine gc_cond_t rfl ?_ | refine gc_ret ?_ | refine gq_then_ret ?_ | refine g_no rfl rfl rfl rfl rfl ?_)
        refine gq_ret1 (.inr rfl) rfl rfl rfl (fun w' H => ⟨false, ?_, rfl, hp_nil H⟩)
        unfold callB; rw [h1, h2, h3]; rfl
      · repeat' (first | refine g_pv rfl rfl ?_ | refine g_ld 0 rfl rfl rfl rfl rfl rfl ?_ | refine g_ld 1 rfl rfl rfl rfl rfl rfl ?_ | refine g_nil ?_ | refine gq_then ?_ | refine g_yes rfl rfl rfl ?_)
        refine gc_condC rfl (fun h9 => ?_) (fun h9 => ?_)
        · repeat' (first | refine g_pv rfl rfl ?_ | refine g_nil ?_ | refine gq_then ?_ | refine gc_seq ?_ | refine gc_region ?_ | refine gc_ret ?_ | refine gq_then_ret ?_)
          refine gq_ret1 (.inr rfl) rfl rfl rfl (fun w' H => ⟨false, ?_, rfl, hp_nil H⟩)
          unfold callB; rw [h1, h2, h3, h9]; rfl
        · repeat' (first | refine g_pv rfl rfl ?_ | refine g_ld 1 rfl rfl rfl rfl rfl rfl ?_ | refine gq_then ?_ | refine gc_seq ?_ | refine gc_region ?_ | refine gc_skip ?_)
          refine g_call (Y := Bool) (vf := fun b => .bool b) (A' := fun _ => []) (post := fun b => (b = false ∧ ∀ a ∈ x.args, argB j.f.te a = true) ∨ (b = true ∧ ∃ a ∈ x.args, argB j.f.te a = false)) rfl (Cl.of Tryz.func125 rfl rfl) rfl rfl (fun w' hE => ?_) rfl ?_
          · refine Calls.mono (containsArg_sp x.args (fun b a => b = !argB j.f.te a) x.aA x.aC w' 126 #[.pointer (some ⟨b2, 0, none⟩)] (by have := hx.len; omega) (hx.args.le (fun b o h => old_le hE b o (old_le0 _ w b o h))) ⟨Cl.of Tryz.func126 rfl rfl, fun w2 a ha hh => call1_sp j a b2 w2 (hx.ok a (by simp [ha])) hj.f.te (cells_of (hh _ _ (hp_in hE 2 rfl _ _ List.mem_cons_self)))⟩) ?_
            rintro e w2 ⟨b, hb, he, hE2⟩
            refine ⟨b, ?_, he, hE2⟩
            rcases hb with ⟨h1, h2⟩ | ⟨h1, a, h2, h3⟩
            · exact .inl ⟨h1, fun a ha => by have := h2 a ha; simpa using this.symm⟩
            · exact .inr ⟨h1, a, h2, by simpa using h3.symm⟩
          rintro b hb
          repeat' (first | refine g_pv rfl rfl ?_ | refine g_nil ?_ | refine gq_then ?_ | refine gc_ret ?_)
          refine gq_ret1 (.inr rfl) rfl rfl rfl (fun w' H => ⟨!b, ?_, rfl, hp_nil H⟩)
          unfold callB; rw [h1, h2, h3, h9]
          rcases hb with ⟨rfl, hb⟩ | ⟨rfl, a, ha, hb⟩
          · have : x.args.all (argB j.f.te) = true := List.all_eq_true.2 hb
            rw [this]; rfl
          · have : x.args.all (argB j.f.te) = false := by
              cases hq : x.args.all (argB j.f.te) with
              | false => rfl
              | true => rw [List.all_eq_true.1 hq a ha] at hb; cases hb
            rw [this]; rfl

  · repeat' (first | refine g_pv rfl rfl ?_ | refine g_ld 0 rfl rfl rfl rfl rfl rfl ?_ | refine g_ld 1 rfl rfl rfl rfl rfl rfl ?_ | refine g_nil ?_ | refine gq_then ?_ | refine g_yes rfl rfl rfl ?_ | refine g_no rfl rfl rfl rfl rfl ?_)
    refine gc_condC rfl (fun h9 => ?_) (fun h9 => ?_)
    · repeat' (first | refine g_pv rfl rfl ?_ | refine g_nil ?_ | refine gq_then ?_ | refine gc_seq ?_ | refine gc_region ?_ | refine gc_ret ?_ | refine gq_then_ret ?_)
      refine gq_ret1 (.inr rfl) rfl rfl rfl (fun w' H => ⟨false, ?_, rfl, hp_nil H⟩)
      unfold callB; rw [h1, h9]; rfl
    · repeat' (first | refine g_pv rfl rfl ?_ | refine g_ld 1 rfl rfl rfl rfl rfl rfl ?_ | refine gq_then ?_ | refine gc_seq ?_ | refine gc_region ?_ | refine gc_skip ?_)
      refine g_call (Y := Bool) (vf := fun b => .bool b) (A' := fun _ => []) (post := fun b => (b = false ∧ ∀ a ∈ x.args, argB j.f.te a = true) ∨ (b = true ∧ ∃ a ∈ x.args, argB j.f.te a = false)) rfl (Cl.of Tryz.func125 rfl rfl) rfl rfl (fun w' hE => ?_) rfl ?_
      · refine Calls.mono (containsArg_sp x.args (fun b a => b = !argB j.f.te a) x.aA x.aC w' 126 #[.pointer (some ⟨b2, 0, none⟩)] (by have := hx.len; omega) (hx.args.le (fun b o h => old_le hE b o (old_le0 _ w b o h))) ⟨Cl.of Tryz.func126 rfl rfl, fun w2 a ha hh => call1_sp j a b2 w2 (hx.ok a (by simp [ha])) hj.f.te (cells_of (hh _ _ (hp_in hE 2 rfl _ _ List.mem_cons_self)))⟩) ?_
        rintro e w2 ⟨b, hb, he, hE2⟩
        refine ⟨b, ?_, he, hE2⟩
        rcases hb with ⟨h1, h2⟩ | ⟨h1, a, h2, h3⟩
        · exact .inl ⟨h1, fun a ha => by have := h2 a ha; simpa using this.symm⟩
        · exact .inr ⟨h1, a, h2, by simpa using h3.symm⟩
      rintro b hb
      repeat' (first | refine g_pv rfl rfl ?_ | refine g_nil ?_ | refine gq_then ?_ | refine gc_ret ?_)
      refine gq_ret1 (.inr rfl) rfl rfl rfl (fun w' H => ⟨!b, ?_, rfl, hp_nil H⟩)
      unfold callB; rw [h1, h9]
      rcases hb with ⟨rfl, hb⟩ | ⟨rfl, a, ha, hb⟩
      · have : x.args.all (argB j.f.te) = true := List.all_eq_true.2 hb
        rw [this]; rfl
      · have : x.args.all (argB j.f.te) = false := by
          cases hq : x.args.all (argB j.f.te) with
          | false => rfl
          | true => rw [List.all_eq_true.1 hq a ha] at hb; cases hb
        rw [this]; rfl

end Go.Proofs.YtpohhfggmaihpaaGreatDoor

/- Arrays built and indexed through their address; strings compared. -/
namespace Go.Wk
open Go.Ev
set_option linter.unusedVariables false
set_option linter.unusedSimpArgs false
section
variable {X : Cx} {ops : Array Oper} {Q : Post} {rest : List Oper} {L : LT} {R : RL} {d : Nat} {x y : Operand} {v u : Value} {t ty yt : TypeId} {p : String} {af : Array Edge}
theorem p_buildA {parts : Array (Nat × Operand)} {n e : Nat} {z : Value} {s b : Nat} {te : Ti} {vs cs : List Value} (ht : tl X.s.tab t = some ⟨.array n e, z, s, b⟩) (hte : tl X.s.tab e = some te)
    (hv : evs L (parts.toList.map (·.2)) = some vs) (hf : fillC (gridOf n te.sz) z.cells.toList ((parts.toList.map (·.1)).zip vs) = some cs) :
    PR X.s.P L (⟨some d, .build t parts, ty, p, af, none⟩ : Oper) (.agg ⟨cs⟩) := fun ρ w h => by
  have hm := evs_map h hv
  have hparts : (parts.map fun (i, x) => (i, ρ x)).toList = (parts.toList.map (·.1)).zip vs := by
    rw [← hm]
    simp only [Array.toList_map, List.map_map]
    generalize parts.toList = l
    induction l with
    | nil => rfl
    | cons q l ih => simp only [List.map_cons, List.zip_cons_cons, ih]; rfl
  have hfill := fill_CP (pl := fun i => some (i * te.sz, te.sz)) (gridOf n te.sz) (fun i q hq => gridOf_get hq) _ _ _ hf
  have hr : (Instr.build t (parts.map fun (i, x) => (i, ρ x))).run X.s.P w = .ok (.agg ⟨cs⟩) w := by
    simp only [Instr.build, Sem.run_bind, Wk.run_zeroValue (X.s.ok.at ht), run_underlying (tk_array (X.s.ok.at ht)), Wk.run_sizeOf (X.s.ok.at hte), Result.andThen_ok]
    rw [hparts]
    have e : (⟨z.cells.toList⟩ : Array Value) = z.cells := rfl
    rw [e] at hfill
    rw [hfill]
    simp only [run_pure']
  simp only [execOp]
  rw [Sem.run_bind]
  have e2 : (parts.map fun (x : Nat × Operand) => (x.1, ρ x.2)) = (parts.map fun (i, x) => (i, ρ x)) := rfl
  rw [hr]; rfl
theorem p_ixA {bx o n e : Nat} {z : Value} {s b : Nat} {te : Ti} {ik : IntKind} {i : Int} (hx : ev L x = some (.pointer (some ⟨bx, o, none⟩))) (hy : ev L y = some (.int ik i)) (ht : tl X.s.tab t = some ⟨.array n e, z, s, b⟩) (hte : tl X.s.tab e = some te) (h0 : 0 ≤ i) (h1 : i < n) :
    PR X.s.P L (⟨some d, .indexAddr t x y, ty, p, af, none⟩ : Oper) (.pointer (some ⟨bx, o + i.toNat * te.sz, none⟩)) := fun ρ w h => by
  simp only [execOp]; rw [h x _ hx, h y _ hy]
  simp [Instr.indexAt, asIntOf, run_underlying (tk_array (X.s.ok.at ht)), Instr.sureAddr, Wk.run_sizeOf (X.s.ok.at hte), h0, h1, addr_add]
theorem run_eqT {P : Program} {a b : ByteArray} {t : TypeId} (ht : P.underlying t = some .string) (x y : Operand) (w : World) :
    (do eqGuard .eql t x y (.string a) (.string b); binOp .eql t (.string a) (.string b) : Sem Value).run P w = .ok (.bool (a.toList == b.toList)) w := by
  simp [eqGuard, binOp, Op.stringOp, beq_toListBytes, bne]
theorem run_neT {P : Program} {a b : ByteArray} {t : TypeId} (ht : P.underlying t = some .string) (x y : Operand) (w : World) :
    (do eqGuard .neq t x y (.string a) (.string b); binOp .neq t (.string a) (.string b) : Sem Value).run P w = .ok (.bool (a.toList != b.toList)) w := by
  simp [eqGuard, binOp, Op.stringOp, beq_toListBytes, bne]
theorem p_eqT {a b : ByteArray} {z : Value} {s u : Nat} (hx : ev L x = some (.string a)) (hy : ev L y = some (.string b)) (ht : tl X.s.tab t = some ⟨.string, z, s, u⟩) : PR X.s.P L (⟨some d, .binOp .eql t x y yt, ty, p, af, none⟩ : Oper) (.bool (a.toList == b.toList)) := fun ρ w h => by
  simp only [execOp]; rw [h x _ hx, h y _ hy]
  rw [Sem.run_bind, run_eqT (tk_string (X.s.ok.at ht)) x y w]; rfl
theorem p_neT {a b : ByteArray} {z : Value} {s u : Nat} (hx : ev L x = some (.string a)) (hy : ev L y = some (.string b)) (ht : tl X.s.tab t = some ⟨.string, z, s, u⟩) : PR X.s.P L (⟨some d, .binOp .neq t x y yt, ty, p, af, none⟩ : Oper) (.bool (a.toList != b.toList)) := fun ρ w h => by
  simp only [execOp]; rw [h x _ hx, h y _ hy]
  rw [Sem.run_bind, run_neT (tk_string (X.s.ok.at ht)) x y w]; rfl
end
end Go.Wk

/- word: Name. -/
namespace Go.Proofs.YtpohhfggmaihpaaGreatDoor
open Go.Wk
set_option linter.unusedVariables false
set_option linter.unusedSimpArgs false
attribute [local irreducible] G GC GQ GA GS Exit.then Exit.inBlock

def names19 : List ByteArray := [⟨#[97, 100, 100]⟩, ⟨#[115, 117, 98]⟩, ⟨#[109, 117, 108]⟩, ⟨#[100, 105, 118, 115]⟩, ⟨#[100, 105, 118, 117]⟩, ⟨#[114, 101, 109, 115]⟩, ⟨#[114, 101, 109, 117]⟩, ⟨#[97, 110, 100]⟩, ⟨#[111, 114]⟩, ⟨#[120, 111, 114]⟩, ⟨#[115, 104, 108]⟩, ⟨#[115, 104, 114, 115]⟩, ⟨#[115, 104, 114, 117]⟩, ⟨#[101, 113]⟩, ⟨#[110, 101]⟩, ⟨#[108, 116, 115]⟩, ⟨#[108, 116, 117]⟩, ⟨#[108, 101, 115]⟩, ⟨#[108, 101, 117]⟩]
def nameL (op : Int) : ByteArray := if 1 ≤ op ∧ op ≤ 19 then names19.getD (op - 1).toNat ⟨#[]⟩ else ⟨#[]⟩
set_option maxHeartbeats 2000000 in
theorem name_sp (op : Int) (w : World) : Sp Tryz.prog 61 [.int .i64 op] w [] (fun s : ByteArray => .string s) (fun _ => []) (fun s => s = nameL op) := by
  refine enter (s := Tryz.sx) [] Tryz.func61 rfl rfl rfl (Eff.refl w) ?_
  repeat' (first | refine g_pv rfl rfl ?_ | refine g_nil ?_ | refine gq_then ?_ | refine gc_seq ?_ | refine gc_region ?_)
  refine g_p (p_buildA rfl rfl rfl rfl) rfl ?_
  repeat' (first | refine g_pv rfl rfl ?_ | refine g_nil ?_ | refine gq_then ?_ | refine gc_seq ?_ | refine gc_region ?_ | refine g_alloc rfl rfl (fun _ => ?_) | refine g_st 0 rfl rfl rfl rfl rfl rfl rfl ?_)
  refine g_case (t := 7) rfl (fun h1 => ?_) (fun h1 => ?_)
  · repeat' (first | refine g_pv rfl rfl ?_ | refine g_nil ?_ | refine gq_then ?_ | refine gc_seq ?_ | refine gc_region ?_ | refine gc_cond_t rfl ?_ | refine gc_ret ?_ | refine gq_then_ret ?_ | refine g_no rfl rfl rfl rfl rfl ?_)
    refine gq_ret1 (.inr rfl) rfl rfl rfl (fun w' H => ⟨_, ?_, rfl, hp_nil H⟩)
    have := of_decide_eq_true h1
    unfold nameL; rw [if_neg (by omega)]; try rfl
  · repeat' (first | refine g_pv rfl rfl ?_ | refine g_nil ?_ | refine gq_then ?_ | refine g_yes rfl rfl rfl ?_)
    have h1' := of_decide_eq_false h1
    refine gc_condC rfl (fun h2 => ?_) (fun h2 => ?_)
    · repeat' (first | refine g_pv rfl rfl ?_ | refine g_nil ?_ | refine gq_then ?_ | refine gc_seq ?_ | refine gc_region ?_ | refine gc_ret ?_ | refine gq_then_ret ?_)
      refine gq_ret1 (.inr rfl) rfl rfl rfl (fun w' H => ⟨_, ?_, rfl, hp_nil H⟩)
      have := of_decide_eq_true h2
      unfold nameL; rw [if_neg (by omega)]; try rfl
    · have h2' := of_decide_eq_false h2
      repeat' (first | refine g_pv rfl rfl ?_ | refine gq_then ?_ | refine gc_seq ?_ | refine gc_region ?_ | refine gc_skip ?_)
      refine g_eq 12 (u' := .int .i64 (op - 1)) rfl (by rw [IntKind.wrap_i64]; congr 1; omega) ?_
      refine g_p (p_ixA rfl rfl rfl rfl (by omega) (by omega)) rfl ?_
      have hlt : (op - 1).toNat < names19.length := by show _ < 19; omega
      have hg : nameL op = names19[(op - 1).toNat] := by
        unfold nameL; rw [if_pos (by omega), List.getD_eq_getElem?_getD, List.getElem?_eq_getElem hlt]; rfl
      have hm : (names19.map Value.string)[(op - 1).toNat]? = some (.string names19[(op - 1).toNat]) := by
        rw [List.getElem?_map, List.getElem?_eq_getElem hlt]; rfl
      generalize names19[(op - 1).toNat] = q at hg hm
      refine g_ldG (cs := [.string q]) rfl rfl rfl rfl (fun w' hE j u hj => ?_) rfl ?_
      · have hb := hp_cellA hE (i := 0) rfl
        have hj0 : j = 0 := by have := (List.getElem?_eq_some_iff.1 hj).1; simp at this; omega
        subst hj0
        simp only [List.getElem?_cons_zero, Option.some.injEq] at hj
        subst hj
        rw [← cellAt_hw]
        unfold cellAt hw
        rw [hb]
        show (List.toArray _)[_]? = _
        rw [List.getElem?_toArray]
        rw [Nat.zero_add, Nat.add_zero]
        refine Eq.trans (congrArg (fun l : List Value => l[(op - 1).toNat * 1]?) (show _ = names19.map Value.string from rfl)) ?_
        rw [Nat.mul_one]; exact hm
      repeat' (first | refine g_pv rfl rfl ?_ | refine g_nil ?_ | refine gq_then ?_ | refine gc_ret ?_)
      exact gq_ret1 (.inr rfl) rfl rfl rfl (fun w' H => ⟨q, hg.symm, rfl, hp_nil H⟩)
end Go.Proofs.YtpohhfggmaihpaaGreatDoor
