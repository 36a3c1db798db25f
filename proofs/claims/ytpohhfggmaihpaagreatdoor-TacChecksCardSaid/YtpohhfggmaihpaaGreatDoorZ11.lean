/-
  Arrays built and indexed through their address; strings compared.
  word: Name.
-/
import Derived.Test.YtpohhfggmaihpaaGreatDoorZ10
import Derived.Test.YtpohhfggmaihpaaGreatDoorZ7

/- Arrays built and indexed through their address; strings compared. -/
namespace Go.Wk
open Go.Ev
set_option linter.unusedVariables false
set_option linter.unusedSimpArgs false
section
variable {X : Cx} {ops : Array Oper} {Q : Post} {rest : List Oper} {L : LT} {R : RL} {d : Nat} {x y : Operand} {v u : Value} {t ty yt : TypeId} {p : String} {af : Array Edge}
theorem p_buildA {parts : Array (Nat × Operand)} {n e : Nat} {z : Value} {s b : Nat} {te : Ti} {vs cs : List Value} (ht : tl X.s.tab t = some ⟨.array n e, z, s, b⟩) (hte : tl X.s.tab e = some te)
    (hv : evs L (parts.toList.map (·.2)) = some vs) (hf : fillC (gridOf n te.sz) z.cells.toList ((parts.toList.map (·.1)).zip vs) = some cs) :
    PR X.s.P L (⟨some d, .build t parts, ty, p, af, none⟩ : Oper) (.agg ⟨cs⟩) := fun ρ w h => by
  have hm := evs_map h hv
  have hparts : (parts.map fun (i, x) => (i, ρ x)).toList = (parts.toList.map (·.1)).zip vs := by
    rw [← hm]
    simp only [Array.toList_map, List.map_map]
    generalize parts.toList = l
    induction l with
    | nil => rfl
    | cons q l ih => simp only [List.map_cons, List.zip_cons_cons, ih]; rfl
  have hfill := fill_CP (pl := fun i => some (i * te.sz, te.sz)) (gridOf n te.sz) (fun i q hq => gridOf_get hq) _ _ _ hf
  have hr : (Instr.build t (parts.map fun (i, x) => (i, ρ x))).run X.s.P w = .ok (.agg ⟨cs⟩) w := by
    simp only [Instr.build, Sem.run_bind, Wk.run_zeroValue (X.s.ok.at ht), run_underlying (tk_array (X.s.ok.at ht)), Wk.run_sizeOf (X.s.ok.at hte), Result.andThen_ok]
    rw [hparts]
    have e : (⟨z.cells.toList⟩ : Array Value) = z.cells := rfl
    rw [e] at hfill
    rw [hfill]
    simp only [run_pure']
  simp only [execOp]
  rw [Sem.run_bind]
  have e2 : (parts.map fun (x : Nat × Operand) => (x.1, ρ x.2)) = (parts.map fun (i, x) => (i, ρ x)) := rfl
  rw [hr]; rfl
theorem p_ixA {bx o n e : Nat} {z : Value} {s b : Nat} {te : Ti} {ik : IntKind} {i : Int} (hx : ev L x = some (.pointer (some ⟨bx, o, none⟩))) (hy : ev L y = some (.int ik i)) (ht : tl X.s.tab t = some ⟨.array n e, z, s, b⟩) (hte : tl X.s.tab e = some te) (h0 : 0 ≤ i) (h1 : i < n) :
    PR X.s.P L (⟨some d, .indexAddr t x y, ty, p, af, none⟩ : Oper) (.pointer (some ⟨bx, o + i.toNat * te.sz, none⟩)) := fun ρ w h => by
  simp only [execOp]; rw [h x _ hx, h y _ hy]
  simp [Instr.indexAt, asIntOf, run_underlying (tk_array (X.s.ok.at ht)), Instr.sureAddr, Wk.run_sizeOf (X.s.ok.at hte), h0, h1, addr_add]
theorem run_eqT {P : Program} {a b : ByteArray} {t : TypeId} (ht : P.underlying t = some .string) (x y : Operand) (w : World) :
    (do eqGuard .eql t x y (.string a) (.string b); binOp .eql t (.string a) (.string b) : Sem Value).run P w = .ok (.bool (a.toList == b.toList)) w := by
  simp [eqGuard, binOp, Op.stringOp, beq_toListBytes, bne]
theorem run_neT {P : Program} {a b : ByteArray} {t : TypeId} (ht : P.underlying t = some .string) (x y : Operand) (w : World) :
    (do eqGuard .neq t x y (.string a) (.string b); binOp .neq t (.string a) (.string b) : Sem Value).run P w = .ok (.bool (a.toList != b.toList)) w := by
  simp [eqGuard, binOp, Op.stringOp, beq_toListBytes, bne]
theorem p_eqT {a b : ByteArray} {z : Value} {s u : Nat} (hx : ev L x = some (.string a)) (hy : ev L y = some (.string b)) (ht : tl X.s.tab t = some ⟨.string, z, s, u⟩) : PR X.s.P L (⟨some d, .binOp .eql t x y yt, ty, p, af, none⟩ : Oper) (.bool (a.toList == b.toList)) := fun ρ w h => by
  simp only [execOp]; rw [h x _ hx, h y _ hy]
  rw [Sem.run_bind, run_eqT (tk_string (X.s.ok.at ht)) x y w]; rfl
theorem p_neT {a b : ByteArray} {z : Value} {s u : Nat} (hx : ev L x = some (.string a)) (hy : ev L y = some (.string b)) (ht : tl X.s.tab t = some ⟨.string, z, s, u⟩) : PR X.s.P L (⟨some d, .binOp .neq t x y yt, ty, p, af, none⟩ : Oper) (.bool (a.toList != b.toList)) := fun ρ w h => by
  simp only [execOp]; rw [h x _ hx, h y _ hy]
  rw [Sem.run_bind, run_neT (tk_string (X.s.ok.at ht)) x y w]; rfl
end
end Go.Wk

/- word: Name. -/
namespace Go.Proofs.YtpohhfggmaihpaaGreatDoor
open Go.Wk
set_option linter.unusedVariables false
set_option linter.unusedSimpArgs false
attribute [local irreducible] G GC GQ GA GS Exit.then Exit.inBlock

def names19 : List ByteArray := [⟨#[97, 100, 100]⟩, ⟨#[115, 117, 98]⟩, ⟨#[109, 117, 108]⟩, ⟨#[100, 105, 118, 115]⟩, ⟨#[100, 105, 118, 117]⟩, ⟨#[114, 101, 109, 115]⟩, ⟨#[114, 101, 109, 117]⟩, ⟨#[97, 110, 100]⟩, ⟨#[111, 114]⟩, ⟨#[120, 111, 114]⟩, ⟨#[115, 104, 108]⟩, ⟨#[115, 104, 114, 115]⟩, ⟨#[115, 104, 114, 117]⟩, ⟨#[101, 113]⟩, ⟨#[110, 101]⟩, ⟨#[108, 116, 115]⟩, ⟨#[108, 116, 117]⟩, ⟨#[108, 101, 115]⟩, ⟨#[108, 101, 117]⟩]
def nameL (op : Int) : ByteArray := if 1 ≤ op ∧ op ≤ 19 then names19.getD (op - 1).toNat ⟨#[]⟩ else ⟨#[]⟩
set_option maxHeartbeats 2000000 in
theorem name_sp (op : Int) (w : World) : Sp Tryz.prog 61 [.int .i64 op] w [] (fun s : ByteArray => .string s) (fun _ => []) (fun s => s = nameL op) := by
  refine enter (s := Tryz.sx) [] Tryz.func61 rfl rfl rfl (Eff.refl w) ?_
  repeat' (first | refine g_pv rfl rfl ?_ | refine g_nil ?_ | refine gq_then ?_ | refine gc_seq ?_ | refine gc_region ?_)
  refine g_p (p_buildA rfl rfl rfl rfl) rfl ?_
  repeat' (first | refine g_pv rfl rfl ?_ | refine g_nil ?_ | refine gq_then ?_ | refine gc_seq ?_ | refine gc_region ?_ | refine g_alloc rfl rfl (fun _ => ?_) | refine g_st 0 rfl rfl rfl rfl rfl rfl rfl ?_)
  refine g_case (t := 7) rfl (fun h1 => ?_) (fun h1 => ?_)
  · repeat' (first | refine g_pv rfl rfl ?_ | refine g_nil ?_ | refine gq_then ?_ | refine gc_seq ?_ | refine gc_region ?_ | refine gc_cond_t rfl ?_ | refine gc_ret ?_ | refine gq_then_ret ?_ | refine g_no rfl rfl rfl rfl rfl ?_)
    refine gq_ret1 (.inr rfl) rfl rfl rfl (fun w' H => ⟨_, ?_, rfl, hp_nil H⟩)
    have := of_decide_eq_true h1
    unfold nameL; rw [if_neg (by omega)]; try rfl
  · repeat' (first | refine g_pv rfl rfl ?_ | refine g_nil ?_ | refine gq_then ?_ | refine g_yes rfl rfl rfl ?_)
    have h1' := of_decide_eq_false h1
    refine gc_condC rfl (fun h2 => ?_) (fun h2 => ?_)
    · repeat' (first | refine g_pv rfl rfl ?_ | refine g_nil ?_ | refine gq_then ?_ | refine gc_seq ?_ | refine gc_region ?_ | refine gc_ret ?_ | refine gq_then_ret ?_)
      refine gq_ret1 (.inr rfl) rfl rfl rfl (fun w' H => ⟨_, ?_, rfl, hp_nil H⟩)
      have := of_decide_eq_true h2
      unfold nameL; rw [if_neg (by omega)]; try rfl
    · have h2' := of_decide_eq_false h2
      repeat' (first | refine g_pv rfl rfl ?_ | refine gq_then ?_ | refine gc_seq ?_ | refine gc_region ?_ | refine gc_skip ?_)
      refine g_eq 12 (u' := .int .i64 (op - 1)) rfl (by rw [IntKind.wrap_i64]; congr 1; omega) ?_
      refine g_p (p_ixA rfl rfl rfl rfl (by omega) (by omega)) rfl ?_
      have hlt : (op - 1).toNat < names19.length := by show _ < 19; omega
      have hg : nameL op = names19[(op - 1).toNat] := by
        unfold nameL; rw [if_pos (by omega), List.getD_eq_getElem?_getD, List.getElem?_eq_getElem hlt]; rfl
      have hm : (names19.map Value.string)[(op - 1).toNat]? = some (.string names19[(op - 1).toNat]) := by
        rw [List.getElem?_map, List.getElem?_eq_getElem hlt]; rfl
      generalize names19[(op - 1).toNat] = q at hg hm
      refine g_ldG (cs := [.string q]) rfl rfl rfl rfl (fun w' hE j u hj => ?_) rfl ?_
      · have hb := hp_cellA hE (i := 0) rfl
        have hj0 : j = 0 := by have := (List.getElem?_eq_some_iff.1 hj).1; simp at this; omega
        subst hj0
        simp only [List.getElem?_cons_zero, Option.some.injEq] at hj
        subst hj
        rw [← cellAt_hw]
        unfold cellAt hw
        rw [hb]
        show (List.toArray _)[_]? = _
        rw [List.getElem?_toArray]
        rw [Nat.zero_add, Nat.add_zero]
        refine Eq.trans (congrArg (fun l : List Value => l[(op - 1).toNat * 1]?) (show _ = names19.map Value.string from rfl)) ?_
        rw [Nat.mul_one]; exact hm
      repeat' (first | refine g_pv rfl rfl ?_ | refine g_nil ?_ | refine gq_then ?_ | refine gc_ret ?_)
      exact gq_ret1 (.inr rfl) rfl rfl rfl (fun w' H => ⟨q, hg.symm, rfl, hp_nil H⟩)
end Go.Proofs.YtpohhfggmaihpaaGreatDoor
