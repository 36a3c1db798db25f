/-
  Operations whose value needs no memory, told by one function.
-/
import Derived.Test.YthiehhglnaiohaaGreatDoorWk4
namespace Go.Wk
set_option linter.unusedVariables false
set_option linter.unusedSimpArgs false

def pcall (X : Cx) (L : LT) : Builtin → List Operand → List TypeId → Option Value
  | .len, [x], [t] => match ev L x, tl X.s.tab t with
    | some (.slice A n c), some ⟨.slice e, z, s, b⟩ => some (.int .i64 n)
    | some (.string A), some ⟨.string, z, s, b⟩ => some (.int .i64 A.size)
    | _, _ => none
  | .max, [x, y], _ => match ev L x, ev L y with
    | some (.int ik a), some (.int ik' b) => if ik = ik' then some (.int ik (if b > a then b else a)) else none
    | _, _ => none
  | .min, [x, y], _ => match ev L x, ev L y with
    | some (.int ik a), some (.int ik' b) => if ik = ik' then some (.int ik (if b < a then b else a)) else none
    | _, _ => none
  | _, _, _ => none

def pfld (X : Cx) (b o : Nat) (fs : List (Nat × TypeId)) (i : Nat) : Option Value := match fs[i]? with
  | some (off, ft) => match tl X.s.tab ft with
    | some tf => match Nat.beq tf.sz 0 with
      | false => some (.pointer (some ⟨b, o + off, none⟩))
      | true => none
    | none => none
  | none => none

def pv (X : Cx) (L : LT) : Op → Option Value
  | .move x => ev L x
  | .assign x => ev L x
  | .nilCheck x => match ev L x with
    | some (.pointer (some a)) => some (.pointer (some a))
    | _ => none
  | .pick c x y => match ev L c with
    | some (.bool true) => ev L x
    | some (.bool false) => ev L y
    | _ => none
  | .binOp op t x y yt => match ev L x, ev L y with
    | some (.int ik a), some (.int ik' b) => if ik = ik' then ibin op ik a b else none
    | _, _ => none
  | .unOp .not xt x => match ev L x with
    | some (.bool b) => some (.bool !b)
    | _ => none
  | .unOp .neg xt x => match ev L x with
    | some (.int ik a) => some (.int ik (ik.wrap (0 - a)))
    | _ => none
  | .extract x i => match ev L x with
    | some (.tuple vs) => vs[i]?
    | _ => none
  | .convert src dst x => match ev L x, tl X.s.tab dst, tl X.s.tab src with
    | some (.int k1 a), some ⟨.int k2, z, s, b⟩, some ⟨.int k1', z', s', b'⟩ => if k1 = k1' then some (.int k2 (k2.wrap a)) else none
    | _, _, _ => none
  | .makeFunc fn f1 cp => match evs L f1.toList, evs L cp.toList with
    | some vs, some us => some (.func fn vs.toArray us.toArray)
    | _, _ => none
  | .fieldAddr st x i => match ev L x, tl X.s.tab st with
    | some (.pointer (some ⟨b, o, none⟩)), some ⟨.struct fs, z, sz, by'⟩ => pfld X b o fs i
    | _, _ => none
  | .call ⟨.builtin f, xs, ts⟩ => pcall X L f xs.toList ts.toList
  | _ => none

section
variable {X : Cx} {ops : Array Oper} {Q : Post} {rest : List Oper} {L : LT} {R : RL} {d : Nat} {op : Op} {ty : TypeId} {p : String} {af : Array Edge} {v : Value}
theorem pv_spec (h : pv X L op = some v) : PR X.s.P L ⟨some d, op, ty, p, af, none⟩ v := by
  unfold pv at h
  split at h
  · exact p_move h
  · exact p_assign h
  · split at h
    · cases h; exact p_nil? (by assumption)
    · cases h
  · split at h
    · exact p_pick (by assumption) (fun _ => h) (fun h => by cases h)
    · exact p_pick (by assumption) (fun h => by cases h) (fun _ => h)
    · cases h
  · split at h
    · split at h
      · rename_i e; subst e; exact p_bin (by assumption) (by assumption) h
      · cases h
    · cases h
  · split at h
    · cases h; exact p_unot (by assumption)
    · cases h
  · split at h
    · cases h; exact p_uneg (by assumption)
    · cases h
  · split at h
    · exact p_ext (by assumption) h
    · cases h
  · split at h
    · split at h
      · rename_i e; subst e; cases h; exact p_conv (by assumption) (by assumption) (by assumption)
      · cases h
    · cases h
  · split at h
    · cases h; exact p_mkfn (by assumption) (by assumption)
    · cases h
  · split at h
    · unfold pfld at h
      split at h
      · split at h
        · split at h
          · cases h; exact p_fld (by assumption) (by assumption) (by assumption) (by assumption) (by assumption)
          · cases h
        · cases h
      · cases h
    · cases h
  · rename_i f xs ts
    obtain ⟨xs⟩ := xs
    obtain ⟨ts⟩ := ts
    dsimp only at h
    unfold pcall at h
    split at h
    · split at h
      · cases h; exact p_lenS (by assumption) (by assumption)
      · cases h; exact p_lenT (by assumption) (by assumption)
      · cases h
    · split at h
      · split at h
        · rename_i e; subst e; cases h; exact p_max (by assumption) (by assumption)
        · cases h
      · cases h
    · split at h
      · split at h
        · rename_i e; subst e; cases h; exact p_min (by assumption) (by assumption)
        · cases h
      · cases h
    · cases h
  · cases h

theorem g_pv (h : pv X L op = some v) (hN : Nat.blt d X.N = true) (k : G X ops Q rest ((d, v) :: L) R) : G X ops Q (⟨some d, op, ty, p, af, none⟩ :: rest) L R :=
  g_p (pv_spec h) hN k (by intro c hc; subst hc; simp [pv] at h)
end
end Go.Wk
