/-
  Maps of old memory.
-/
import Derived.Test.YthiehhglnaiohaaGreatDoorWk11
namespace Go.Wk
set_option linter.unusedVariables false
theorem g_lookO {X : Cx} {ops : Array Oper} {Q : Post} {rest : List Oper} {L : LT} {R : RL} {d : Nat} {x y : Operand} {t ty : TypeId} {p : String} {af : Array Edge} {κ : Type} [DecidableEq κ] {kf : κ → Value} {kv : List (κ × Value)} {es : Array MapEntry} {clock : Nat}
    {r : Nat} {k : κ} {kt et : TypeId} {z : Value} {s b : Nat} {te : Ti} (hR : Oldh X r = some (.map es clock)) (hx : ev L x = some (.map (some r))) (hy : ev L y = some (kf k)) (ht : tl X.s.tab t = some ⟨.map kt et, z, s, b⟩) (hte : tl X.s.tab et = some te)
    (K : KL X.s.P kt kf) (M : MapIs kf kv es clock) (hN : Nat.blt d X.N = true) (k' : G X ops Q rest ((d, (ml kv k).getD te.z) :: L) R) :
    G X ops Q (⟨some d, .lookup t x y false, ty, p, af, none⟩ :: rest) L R :=
  g_run (Y := Unit) (fun _ => (ml kv k).getD te.z) (fun _ => R) (fun _ => True) rfl rfl hN (by intro c h; cases h)
    (fun a w ha hE => ⟨(), w, by
      have hr := run_lookup (X.s.ok.at ht) (X.s.ok.at hte) K M (show w.heap[r]? = _ from old_hw hE hR) k false
      simp only [execOp]
      rw [ha.kn.ev hx, ha.kn.ev hy, Sem.run_bind, hr]; rfl, hE, trivial⟩) (fun _ _ => k')
end Go.Wk
