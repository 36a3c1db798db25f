/-
  Two bools compared.
-/
import Derived.Test.YtpmkkmahimdjkaaZ22
import Derived.Laws.StructEq
namespace Go.Wk
section
variable {X : Cx} {L : LT} {t ty yt : TypeId} {x y : Operand} {d : Nat} {p : String} {af : Array Edge}
theorem run_eqB {P : Program} {a b : Bool} {t : TypeId} (ht : P.underlying t = some .bool) (x y : Operand) (w : World) :
    (do eqGuard .eql t x y (.bool a) (.bool b); binOp .eql t (.bool a) (.bool b) : Sem Value).run P w = .ok (.bool (a == b)) w := by
  have h : ∀ d : Nat, (Op.equalIn (d + 1) t (.bool a) (.bool b)).run P w = .ok (a == b) w := fun d => run_equalIn_bool' (P := P) (w := w) d t a b ht
  simp only [eqGuard, binOp]
  simp [Op.equal, Op.maxDepth, h 9999]
theorem run_neB {P : Program} {a b : Bool} {t : TypeId} (ht : P.underlying t = some .bool) (x y : Operand) (w : World) :
    (do eqGuard .neq t x y (.bool a) (.bool b); binOp .neq t (.bool a) (.bool b) : Sem Value).run P w = .ok (.bool (a != b)) w := by
  have h : ∀ d : Nat, (Op.equalIn (d + 1) t (.bool a) (.bool b)).run P w = .ok (a == b) w := fun d => run_equalIn_bool' (P := P) (w := w) d t a b ht
  simp only [eqGuard, binOp]
  simp [Op.equal, Op.maxDepth, h 9999, bne]
theorem p_eqB {a b : Bool} {z : Value} {s u : Nat} (hx : ev L x = some (.bool a)) (hy : ev L y = some (.bool b)) (ht : tl X.s.tab t = some ⟨.bool, z, s, u⟩) : PR X.s.P L (⟨some d, .binOp .eql t x y yt, ty, p, af, none⟩ : Oper) (.bool (a == b)) := fun ρ w h => by
  simp only [execOp]; rw [h x _ hx, h y _ hy]
  rw [Sem.run_bind, run_eqB (tk_bool (X.s.ok.at ht)) x y w]; rfl
theorem p_neB {a b : Bool} {z : Value} {s u : Nat} (hx : ev L x = some (.bool a)) (hy : ev L y = some (.bool b)) (ht : tl X.s.tab t = some ⟨.bool, z, s, u⟩) : PR X.s.P L (⟨some d, .binOp .neq t x y yt, ty, p, af, none⟩ : Oper) (.bool (a != b)) := fun ρ w h => by
  simp only [execOp]; rw [h x _ hx, h y _ hy]
  rw [Sem.run_bind, run_neB (tk_bool (X.s.ok.at ht)) x y w]; rfl
end
end Go.Wk
