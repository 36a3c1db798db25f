/-
  What needs no memory, told by one function: the function.
  What needs no memory: slices cut, types asked, structs built; all of them.
  Memory: read, written, made; slices appended to.
  Memory: new rows and structs, slices that grow, copies.
-/
import Derived.Test.YtpohhfggmaihpaaGreatDoorZ4
import Derived.Test.YtpohhfggmaihpaaGreatDoorZ3
import Derived.Lib.AppendStr

/- What needs no memory, told by one function: the function. -/
namespace Go.Ev
open Go.Wk
set_option linter.unusedVariables false
set_option linter.unusedSimpArgs false

section
variable {C : Ct} {ρ : Env} {N : Nat} {fm : Fm} {a : Act} {dst : Option Tmp} {ty : TypeId} {p : String} {af : Array Edge} {g : Option (Nat × Bool)}

theorem gv_move {x : Operand} {v : Value} (h : Fr ρ N fm a) (hx : evE fm.t x = some v) : Gv C ρ a ⟨dst, .move x, ty, p, af, g⟩ v := by
  obtain ⟨u, hu, he⟩ := evE_spec h hx
  exact ⟨u, hu, fun w => by show Result.ok (Next.value (a.eval x)) w = _; rw [he]⟩
theorem gv_assign {x : Operand} {v : Value} (h : Fr ρ N fm a) (hx : evE fm.t x = some v) : Gv C ρ a ⟨dst, .assign x, ty, p, af, g⟩ v := by
  obtain ⟨u, hu, he⟩ := evE_spec h hx
  exact ⟨u, hu, fun w => by show Result.ok (Next.value (a.eval x)) w = _; rw [he]⟩

def nilE : Value → Option Value
  | .pointer (some b) => some (.pointer (some b))
  | .func (.func f) l m => some (.func (.func f) l m)
  | .func (.yield f) l m => some (.func (.yield f) l m)
  | .iface u v => some (.iface u v)
  | .map r => some (.map r)
  | _ => none
theorem gv_nil {x : Operand} {v v' : Value} (h : Fr ρ N fm a) (hx : evE fm.t x = some v) (hn : nilE v = some v') : Gv C ρ a ⟨dst, .nilCheck x, ty, p, af, g⟩ v' := by
  obtain ⟨u, hu, he⟩ := evE_spec h hx
  unfold nilE at hn
  split at hn <;> cases hn
  · refine ⟨u, hu, fun w => ?_⟩
    simp only [conc, Option.map_eq_some_iff] at hu
    obtain ⟨b, _, rfl⟩ := hu
    simp only [execOp, he]; rfl
  · refine ⟨u, hu, fun w => ?_⟩
    simp only [conc, cfn] at hu
    split at hu
    · rename_i h1 _ _; cases h1; cases hu; simp only [execOp, he]; rfl
    · cases hu
  · refine ⟨u, hu, fun w => ?_⟩
    simp only [conc, cfn] at hu
    split at hu
    · rename_i h1 _ _
      simp only [Option.map_eq_some_iff] at h1
      obtain ⟨q, _, rfl⟩ := h1
      cases hu; simp only [execOp, he]; rfl
    · cases hu
  · refine ⟨u, hu, fun w => ?_⟩
    simp only [conc, Option.map_eq_some_iff] at hu
    obtain ⟨b, _, rfl⟩ := hu
    simp only [execOp, he]; rfl
  · refine ⟨u, hu, fun w => ?_⟩
    rename_i r
    cases r with
    | none => simp only [conc, Option.some.injEq] at hu; subst hu; simp only [execOp, he]; rfl
    | some r =>
      simp only [conc, Option.map_eq_some_iff] at hu
      obtain ⟨b, _, rfl⟩ := hu
      simp only [execOp, he]; rfl

def pickE (t : Tr Value) (x y : Operand) : Value → Option Value
  | .bool true => evE t x
  | .bool false => evE t y
  | _ => none
theorem gv_pick {c x y : Operand} {b v : Value} (h : Fr ρ N fm a) (hc : evE fm.t c = some b) (hp : pickE fm.t x y b = some v) : Gv C ρ a ⟨dst, .pick c x y, ty, p, af, g⟩ v := by
  obtain ⟨u, hu, he⟩ := evE_spec h hc
  unfold pickE at hp
  split at hp
  · simp [conc] at hu; subst hu
    obtain ⟨u, hu, he'⟩ := evE_spec h hp
    exact ⟨u, hu, fun w => by simp only [execOp, he, asBool]; show Result.ok (Next.value (a.eval x)) w = _; rw [he']⟩
  · simp [conc] at hu; subst hu
    obtain ⟨u, hu, he'⟩ := evE_spec h hp
    exact ⟨u, hu, fun w => by simp only [execOp, he, asBool]; show Result.ok (Next.value (a.eval y)) w = _; rw [he']⟩
  · cases hp

theorem gv_bin {op : BinOp} {t yt : TypeId} {x y : Operand} {v w r : Value} (h : Fr ρ N fm a) (hx : evE fm.t x = some v) (hy : evE fm.t y = some w) (hb : binE C op t x y v w = some r) :
    Gv C ρ a ⟨dst, .binOp op t x y yt, ty, p, af, g⟩ r := by
  obtain ⟨v', hv, he⟩ := evE_spec h hx
  obtain ⟨w', hw, he'⟩ := evE_spec h hy
  obtain ⟨h1, h2⟩ := binE_run hv hw hb
  refine ⟨r, h1, fun W => ?_⟩
  simp only [execOp, he, he']
  have := h2 W
  rw [Sem.run_bind, this]; rfl

def notE : Value → Option Value
  | .bool b => some (.bool !b)
  | _ => none
theorem gv_not {xt : TypeId} {x : Operand} {v r : Value} (h : Fr ρ N fm a) (hx : evE fm.t x = some v) (hb : notE v = some r) : Gv C ρ a ⟨dst, .unOp .not xt x, ty, p, af, g⟩ r := by
  obtain ⟨v', hv, he⟩ := evE_spec h hx
  unfold notE at hb
  split at hb <;> cases hb
  simp [conc] at hv; subst hv
  exact ⟨_, by first | exact conc_int _ _ _ | exact conc_str _ _ | exact conc_bool _ _, fun w => by simp only [execOp, he]; rfl⟩

def extE : Value → Nat → Option Value
  | .tuple vs, i => vs.toList[i]?
  | _, _ => none
theorem gv_ext {x : Operand} {i : Nat} {v r : Value} (h : Fr ρ N fm a) (hx : evE fm.t x = some v) (hb : extE v i = some r) : Gv C ρ a ⟨dst, .extract x i, ty, p, af, g⟩ r := by
  obtain ⟨v', hv, he⟩ := evE_spec h hx
  unfold extE at hb
  split at hb
  · simp only [conc, Option.map_eq_some_iff] at hv
    obtain ⟨us, h1, rfl⟩ := hv
    obtain ⟨u, h2, h3⟩ := concs_get (concA_iff.1 h1) hb
    refine ⟨u, h3, fun w => ?_⟩
    have e : us[i]? = some u := by simpa using h2
    simp [execOp, he, Instr.extract, e]
  · cases hb

def convE (C : Ct) (src dst : TypeId) : Value → Option Value
  | .int k n => match C.tt.get dst with
    | some ti => match ti.k with
      | .int k' => (match C.tt.get src with | some _ => some (.int k' (k'.wrap n)) | none => none)
      | _ => none
    | none => none
  | _ => none
theorem gv_conv {src dst' : TypeId} {x : Operand} {v r : Value} (h : Fr ρ N fm a) (hx : evE fm.t x = some v) (hb : convE C src dst' v = some r) : Gv C ρ a ⟨dst, .convert src dst' x, ty, p, af, g⟩ r := by
  obtain ⟨v', hv, he⟩ := evE_spec h hx
  unfold convE at hb
  split at hb
  · cases ht : C.tt.get dst' with
    | none => rw [ht] at hb; cases hb
    | some ti =>
      rw [ht] at hb
      have hti := C.okT _ _ ht
      obtain ⟨k, z, sz, by'⟩ := ti
      cases k with
      | int k' =>
        simp only at hb
        cases hs : C.tt.get src with
        | none => rw [hs] at hb; cases hb
        | some si =>
          rw [hs] at hb
          cases hb
          have hu := tk_int hti
          obtain ⟨sd, _, hu', _⟩ := tiOf_spec (C.okT _ _ hs)
          simp only [conc, Option.some.injEq] at hv; subst hv
          refine ⟨_, by first | exact conc_int _ _ _ | exact conc_str _ _ | exact conc_bool _ _ | exact conc_sn _ _ _ | exact conc_pn _, fun w => ?_⟩
          simp only [execOp, he]
          simp [convert, run_underlying hu, run_underlying hu', Conv.intToInt]
      | _ => cases hb
  · cases hb

def mkifE (C : Ct) (t : TypeId) (v : Value) : Option Value := match C.tt.get t with
  | some ti => match ti.k with
    | .iface => none
    | _ => some (.iface t v)
  | none => none
theorem gv_mkif {t : TypeId} {x : Operand} {v r : Value} (h : Fr ρ N fm a) (hx : evE fm.t x = some v) (hb : mkifE C t v = some r) : Gv C ρ a ⟨dst, .makeInterface t x, ty, p, af, g⟩ r := by
  obtain ⟨v', hv, he⟩ := evE_spec h hx
  unfold mkifE at hb
  cases ht : C.tt.get t with
  | none => rw [ht] at hb; cases hb
  | some ti =>
    rw [ht] at hb
    obtain ⟨d, i, hd, _, hk, _⟩ := tiOf_spec (C.okT _ _ ht)
    obtain ⟨k, z, sz, by'⟩ := ti
    simp only at hk
    have hne : ∀ ms, d ≠ .interface ms := by
      rintro ms rfl
      simp [tkOf] at hk; subst hk; simp at hb
    have hr : r = .iface t v := by cases k <;> first | (cases hb; rfl) | cases hb
    subst hr
    refine ⟨.iface t v', by simp [conc, hv], fun w => ?_⟩
    simp only [execOp, he, Instr.makeInterface]
    cases d <;> first | exact absurd rfl (hne _) | simp [run_underlying hd]

def mkfnE (t : Tr Value) (fn : Fn) (xs ys : Array Operand) : Option Value := match fn with
  | .yield _ => none
  | _ => match evEs t xs.toList, evEs t ys.toList with
    | some vs, some us => some (.func fn ⟨vs⟩ ⟨us⟩)
    | _, _ => none
theorem gv_mkfn {fn : Fn} {xs ys : Array Operand} {r : Value} (h : Fr ρ N fm a) (hb : mkfnE fm.t fn xs ys = some r) : Gv C ρ a ⟨dst, .makeFunc fn xs ys, ty, p, af, g⟩ r := by
  have key : (match evEs fm.t xs.toList, evEs fm.t ys.toList with | some vs, some us => some (Value.func fn ⟨vs⟩ ⟨us⟩) | _, _ => none) = some r → cfn ρ fn = some fn → Gv C ρ a ⟨dst, .makeFunc fn xs ys, ty, p, af, g⟩ r := by
    intro hb hf
    split at hb
    · rename_i vs us h1 h2
      cases hb
      have e1 := evEs_spec h h1
      have e2 := evEs_spec h h2
      refine ⟨.func fn ⟨xs.toList.map a.eval⟩ ⟨ys.toList.map a.eval⟩, conc_func hf e1 e2, fun w => ?_⟩
      simp only [execOp, Instr.makeFunc]
      have e3 : xs.map a.eval = ⟨xs.toList.map a.eval⟩ := by apply Array.ext'; simp
      have e4 : ys.map a.eval = ⟨ys.toList.map a.eval⟩ := by apply Array.ext'; simp
      rw [e3, e4]; rfl
    · cases hb
  cases fn <;> simp only [mkfnE] at hb <;> first | cases hb | exact key hb rfl

def fldE (C : Ct) (st : TypeId) (i : Nat) : Value → Option Value
  | .pointer (some ⟨b, o, none⟩) => match C.tt.get st with
    | some ti => match ti.k with
      | .struct fs => (match fs[i]? with
        | some (off, ft) => (match C.tt.get ft with
          | some tf => bif Nat.beq tf.sz 0 then none else some (.pointer (some ⟨b, o + off, none⟩))
          | none => none)
        | none => none)
      | _ => none
    | none => none
  | _ => none
theorem gv_fld {st : TypeId} {x : Operand} {i : Nat} {v r : Value} (h : Fr ρ N fm a) (hx : evE fm.t x = some v) (hb : fldE C st i v = some r) : Gv C ρ a ⟨dst, .fieldAddr st x i, ty, p, af, g⟩ r := by
  obtain ⟨v', hv, he⟩ := evE_spec h hx
  unfold fldE at hb
  split at hb
  · rename_i b o
    cases ht : C.tt.get st with
    | none => rw [ht] at hb; cases hb
    | some ti =>
      rw [ht] at hb
      obtain ⟨k, z, sz, by'⟩ := ti
      cases k with
      | struct fs =>
        simp only at hb
        cases hf : fs[i]? with
        | none => rw [hf] at hb; cases hb
        | some q =>
          obtain ⟨off, ft⟩ := q
          rw [hf] at hb
          simp only at hb
          cases htf : C.tt.get ft with
          | none => rw [htf] at hb; cases hb
          | some tf =>
            rw [htf] at hb
            simp only at hb
            cases hz : Nat.beq tf.sz 0 with
            | true => rw [hz] at hb; cases hb
            | false =>
              rw [hz] at hb; cases hb
              simp only [conc, cA, Option.map_eq_some_iff] at hv
              obtain ⟨_, ⟨b', h1, rfl⟩, rfl⟩ := hv
              refine Gv.of (d := 0) (u := .pointer (some ⟨b', o + off, none⟩)) (xs := [x]) (by simp [conc, cA, h1]) ?_
              exact p_fld (X := C.X) (b := b') (o := o) (by rw [ev_mem (List.mem_singleton_self x), he]) (C.okL _ _ ht) hf (C.okL _ _ htf) hz
      | _ => cases hb
  · cases hb

def fieldE (C : Ct) (st : TypeId) (i : Nat) : Value → Option Value
  | .agg cs => match C.tt.get st with
    | some ti => match ti.k with
      | .struct fs => (match fs[i]? with
        | some (off, ft) => partE C ft cs.toList off
        | none => none)
      | _ => none
    | none => none
  | _ => none
theorem gv_field {st : TypeId} {x : Operand} {i : Nat} {v r : Value} (h : Fr ρ N fm a) (hx : evE fm.t x = some v) (hb : fieldE C st i v = some r) : Gv C ρ a ⟨dst, .field st x i, ty, p, af, g⟩ r := by
  obtain ⟨v', hv, he⟩ := evE_spec h hx
  unfold fieldE at hb
  split at hb
  · cases ht : C.tt.get st with
    | none => rw [ht] at hb; cases hb
    | some ti =>
      rw [ht] at hb
      have hti := C.okT _ _ ht
      obtain ⟨k, z, sz, by'⟩ := ti
      cases k with
      | struct fs =>
        simp only at hb
        obtain ⟨fl, hu, hfl⟩ := tk_struct hti
        cases hf : fs[i]? with
        | none => rw [hf] at hb; cases hb
        | some q =>
          obtain ⟨off, ft⟩ := q
          rw [hf] at hb
          simp only at hb
          simp only [conc, Option.map_eq_some_iff] at hv
          obtain ⟨us, h1, rfl⟩ := hv
          obtain ⟨u, h2, h3⟩ := partE_run (concA_iff.1 h1) hb
          have hfi : ∃ f, fl[i]? = some f ∧ f.offset = off ∧ f.type = ft := by
            rw [← hfl] at hf
            simp only [List.getElem?_map, Option.map_eq_some_iff, Prod.mk.injEq] at hf
            obtain ⟨f, hf1, hf2, hf3⟩ := hf
            exact ⟨f, by simpa using hf1, hf2, hf3⟩
          obtain ⟨f, hf1, rfl, rfl⟩ := hfi
          refine ⟨u, h2, fun w => ?_⟩
          have h4 := h3 w
          simp only [execOp, he]
          simp only [Instr.field, Sem.run_bind, run_underlying hu, Result.andThen_ok, hf1, asAgg, Sem.run_pure]
          rw [h4]; rfl
      | _ => cases hb
  · cases hb

def ixaE (C : Ct) (t : TypeId) : Value → Value → Option Value
  | .slice (some ⟨b, o, none⟩) n c, .int k i => match C.tt.get t with
    | some ti => match ti.k with
      | .slice e => (match C.tt.get e with
        | some te => bif decide (0 ≤ i) && decide (i < n) then some (.pointer (some ⟨b, o + i.toNat * te.sz, none⟩)) else none
        | none => none)
      | _ => none
    | none => none
  | .pointer (some ⟨b, o, none⟩), .int k i => match C.tt.get t with
    | some ti => match ti.k with
      | .array n e => (match C.tt.get e with
        | some te => bif decide (0 ≤ i) && decide (i < n) then some (.pointer (some ⟨b, o + i.toNat * te.sz, none⟩)) else none
        | none => none)
      | _ => none
    | none => none
  | _, _ => none
theorem tk_array {P : Program} {t e : TypeId} {n : Nat} {z : Value} {s b : Nat} (h : tiOf P t = some ⟨.array n e, z, s, b⟩) : P.underlying t = some (.array n e) := by
  obtain ⟨d, i, hd, _, hk, _⟩ := tiOf_spec h
  cases d <;> simp [tkOf] at hk
  obtain ⟨rfl, rfl⟩ := hk; exact hd
theorem gv_ixa {t : TypeId} {x y : Operand} {v i r : Value} (h : Fr ρ N fm a) (hx : evE fm.t x = some v) (hy : evE fm.t y = some i) (hb : ixaE C t v i = some r) : Gv C ρ a ⟨dst, .indexAddr t x y, ty, p, af, g⟩ r := by
  obtain ⟨v', hv, he⟩ := evE_spec h hx
  obtain ⟨i', hi, he'⟩ := evE_spec h hy
  unfold ixaE at hb
  split at hb
  · rename_i b o n c k i
    simp only [conc, Option.some.injEq] at hi; subst hi
    obtain ⟨a', c', h1, h2, h3, rfl⟩ := conc_slice.1 hv
    simp only [cA, Option.map_eq_some_iff] at h1
    obtain ⟨b', h1, rfl⟩ := h1
    cases ht : C.tt.get t with
    | none => rw [ht] at hb; cases hb
    | some ti =>
      rw [ht] at hb
      obtain ⟨kk, z, sz, by'⟩ := ti
      cases kk with
      | slice e =>
        simp only at hb
        cases hte : C.tt.get e with
        | none => rw [hte] at hb; cases hb
        | some te =>
          rw [hte] at hb
          simp only at hb
          cases hbd : (decide (0 ≤ i) && decide (i < n)) with
          | false => rw [hbd] at hb; cases hb
          | true =>
            rw [hbd] at hb; cases hb
            simp at hbd
            refine Gv.of (d := 0) (u := .pointer (some ⟨b', o + i.toNat * te.sz, none⟩)) (xs := [x, y]) (by simp [conc, cA, h1]) ?_
            exact p_ix (X := C.X) (by rw [ev_mem (x := x) (by simp), he]) (by rw [ev_mem (x := y) (by simp), he']) (C.okL _ _ ht) (C.okL _ _ hte) hbd.1 hbd.2
      | _ => cases hb
  · rename_i b o k i
    simp only [conc, Option.some.injEq] at hi; subst hi
    simp only [conc, cA, Option.map_eq_some_iff] at hv
    obtain ⟨_, ⟨b', h1, rfl⟩, rfl⟩ := hv
    cases ht : C.tt.get t with
    | none => rw [ht] at hb; cases hb
    | some ti =>
      rw [ht] at hb
      have hti := C.okT _ _ ht
      obtain ⟨kk, z, sz, by'⟩ := ti
      cases kk with
      | array n e =>
        simp only at hb
        cases hte : C.tt.get e with
        | none => rw [hte] at hb; cases hb
        | some te =>
          rw [hte] at hb
          simp only at hb
          cases hbd : (decide (0 ≤ i) && decide (i < n)) with
          | false => rw [hbd] at hb; cases hb
          | true =>
            rw [hbd] at hb; cases hb
            simp at hbd
            refine ⟨.pointer (some ⟨b', o + i.toNat * te.sz, none⟩), by simp [conc, cA, h1], fun w => ?_⟩
            simp only [execOp, he, he']
            have hu := tk_array hti
            simp [Instr.indexAt, asIntOf, run_underlying hu, Instr.sureAddr, Wk.run_sizeOf (C.okT _ _ hte), hbd.1, hbd.2, addr_add]
      | _ => cases hb
  · cases hb

def indE (C : Ct) (t : TypeId) : Value → Value → Option Value
  | .string s, .int k i => match C.tt.get t with
    | some ti => match ti.k with
      | .string => bif decide (0 ≤ i) then (match s.data.toList[i.toNat]? with | some b => some (.int .u8 b.toNat) | none => none) else none
      | _ => none
    | none => none
  | .agg cs, .int k i => match C.tt.get t with
    | some ti => match ti.k with
      | .array n e => (match C.tt.get e with
        | some te => bif decide (0 ≤ i) && decide (i < n) then partE C e cs.toList (i.toNat * te.sz) else none
        | none => none)
      | _ => none
    | none => none
  | _, _ => none
theorem gv_ind {t : TypeId} {x y : Operand} {v i r : Value} (h : Fr ρ N fm a) (hx : evE fm.t x = some v) (hy : evE fm.t y = some i) (hb : indE C t v i = some r) : Gv C ρ a ⟨dst, .index t x y, ty, p, af, g⟩ r := by
  obtain ⟨v', hv, he⟩ := evE_spec h hx
  obtain ⟨i', hi, he'⟩ := evE_spec h hy
  unfold indE at hb
  split at hb
  · rename_i s k i
    simp only [conc, Option.some.injEq] at hi hv; subst hi; subst hv
    cases ht : C.tt.get t with
    | none => rw [ht] at hb; cases hb
    | some ti =>
      rw [ht] at hb
      have hti := C.okT _ _ ht
      obtain ⟨kk, z, sz, by'⟩ := ti
      cases kk with
      | string =>
        simp only at hb
        have hu := tk_string hti
        cases h0 : decide (0 ≤ i) with
        | false => rw [h0] at hb; cases hb
        | true =>
          rw [h0] at hb
          simp only [cond_true] at hb
          simp only [decide_eq_true_eq] at h0
          cases hs : s.data.toList[i.toNat]? with
          | none => rw [hs] at hb; cases hb
          | some b =>
            rw [hs] at hb; cases hb
            refine ⟨_, by first | exact conc_int _ _ _ | exact conc_str _ _ | exact conc_bool _ _ | exact conc_sn _ _ _ | exact conc_pn _, fun w => ?_⟩
            have hlt : i.toNat < s.size := by have := (List.getElem?_eq_some_iff.1 hs).1; simpa using this
            have e : s[i.toNat]? = some b := by
              rw [ByteArray.getElem?_lt' s _ hlt]
              have := (List.getElem?_eq_some_iff.1 hs).2
              rw [← this]; rfl
            simp only [execOp, he, he']
            simp [Instr.index, asIntOf, run_underlying hu, h0, e]
      | _ => cases hb
  · rename_i cs k i
    simp only [conc, Option.some.injEq] at hi; subst hi
    simp only [conc, Option.map_eq_some_iff] at hv
    obtain ⟨us, h1, rfl⟩ := hv
    cases ht : C.tt.get t with
    | none => rw [ht] at hb; cases hb
    | some ti =>
      rw [ht] at hb
      have hti := C.okT _ _ ht
      obtain ⟨kk, z, sz, by'⟩ := ti
      cases kk with
      | array n e =>
        simp only at hb
        have hu := tk_array hti
        cases hte : C.tt.get e with
        | none => rw [hte] at hb; cases hb
        | some te =>
          rw [hte] at hb
          simp only at hb
          cases hbd : (decide (0 ≤ i) && decide (i < n)) with
          | false => rw [hbd] at hb; cases hb
          | true =>
            rw [hbd] at hb
            simp only [cond_true] at hb
            simp at hbd
            obtain ⟨u, h2, h3⟩ := partE_run (concA_iff.1 h1) hb
            refine ⟨u, h2, fun w => ?_⟩
            have h4 := h3 w
            simp only [execOp, he, he']
            have e5 : (⟨us.toList⟩ : Array Value) = us := rfl
            rw [e5] at h4
            simp only [Instr.index, Sem.run_bind, asIntOf, Sem.run_pure, Result.andThen_ok, run_underlying hu, hbd.1, hbd.2, and_self, if_true, Wk.run_sizeOf (C.okT _ _ hte)]
            rw [h4]; rfl
      | _ => cases hb
  · cases hb

def lenE (C : Ct) (t : TypeId) : Value → Option Value
  | .slice _ n _ => match C.tt.get t with
    | some ti => (match ti.k with | .slice _ => some (.int .i64 n) | _ => none)
    | none => none
  | .string s => match C.tt.get t with
    | some ti => (match ti.k with | .string => some (.int .i64 s.data.toList.length) | _ => none)
    | none => none
  | .map none => match C.tt.get t with
    | some ti => (match ti.k with | .map _ _ => some (.int .i64 0) | _ => none)
    | none => none
  | _ => none
theorem gv_len {t : TypeId} {x : Operand} {v r : Value} (h : Fr ρ N fm a) (hx : evE fm.t x = some v) (hb : lenE C t v = some r) : Gv C ρ a ⟨dst, .call ⟨.builtin .len, #[x], #[t]⟩, ty, p, af, g⟩ r := by
  obtain ⟨v', hv, he⟩ := evE_spec h hx
  unfold lenE at hb
  split at hb
  · rename_i ad n c
    cases ht : C.tt.get t with
    | none => rw [ht] at hb; cases hb
    | some ti =>
      rw [ht] at hb
      have hti := C.okT _ _ ht
      obtain ⟨kk, z, sz, by'⟩ := ti
      cases kk with
      | slice e =>
        cases hb
        have hu := tk_slice hti
        have : ∃ A c', v' = .slice A n c' := by
          cases ad with
          | none => simp [conc] at hv; exact ⟨_, _, hv.symm⟩
          | some ad => obtain ⟨a', c', _, _, _, rfl⟩ := conc_slice.1 hv; exact ⟨_, _, rfl⟩
        obtain ⟨A, c', rfl⟩ := this
        refine ⟨_, by first | exact conc_int _ _ _ | exact conc_str _ _ | exact conc_bool _ _ | exact conc_sn _ _ _ | exact conc_pn _, fun w => ?_⟩
        simp only [execOp]
        simp [resolve, invoke, builtin, Builtin.len_, he, run_underlying hu, goInt]
      | _ => cases hb
  · rename_i s
    cases ht : C.tt.get t with
    | none => rw [ht] at hb; cases hb
    | some ti =>
      rw [ht] at hb
      have hti := C.okT _ _ ht
      obtain ⟨kk, z, sz, by'⟩ := ti
      cases kk with
      | string =>
        cases hb
        have hu := tk_string hti
        simp only [conc, Option.some.injEq] at hv; subst hv
        refine ⟨_, by first | exact conc_int _ _ _ | exact conc_str _ _ | exact conc_bool _ _ | exact conc_sn _ _ _ | exact conc_pn _, fun w => ?_⟩
        simp only [execOp]
        have e : (s.size : Int) = (s.data.toList.length : Int) := by simp
        simp [resolve, invoke, builtin, Builtin.len_, he, run_underlying hu, goInt, e]
      | _ => cases hb
  · cases ht : C.tt.get t with
    | none => rw [ht] at hb; cases hb
    | some ti =>
      rw [ht] at hb
      have hti := C.okT _ _ ht
      obtain ⟨kk, z, sz, by'⟩ := ti
      cases kk with
      | map k e =>
        cases hb
        have hu := tk_map hti
        simp only [conc, Option.some.injEq] at hv; subst hv
        refine ⟨_, by first | exact conc_int _ _ _ | exact conc_str _ _ | exact conc_bool _ _ | exact conc_sn _ _ _ | exact conc_pn _, fun w => ?_⟩
        simp only [execOp]
        simp [resolve, invoke, builtin, Builtin.len_, he, run_underlying hu, goInt]
      | _ => cases hb
  · cases hb
end
end Go.Ev

/- What needs no memory: slices cut, types asked, structs built; all of them. -/
namespace Go.Ev
open Go.Wk
set_option linter.unusedVariables false
set_option linter.unusedSimpArgs false

def slE (C : Ct) (t : TypeId) (lo hi : Option Value) : Value → Option Value
  | .string s => match C.tt.get t with
    | some ti => (match ti.k with
      | .string => (match bndE hi s.data.toList.length s.data.toList.length with
        | some h => (match bndE lo 0 h with
          | some l => some (.string ⟨⟨(s.data.toList.drop l).take (h - l)⟩⟩)
          | none => none)
        | none => none)
      | _ => none)
    | none => none
  | .slice none n c => match C.tt.get t with
    | some ti => (match ti.k with
      | .slice e => (match C.tt.get e with
        | some te => (match bndE hi n c with
          | some h => (match bndE lo 0 h with
            | some l => some (.slice none (h - l) (c - l))
            | none => none)
          | none => none)
        | none => none)
      | _ => none)
    | none => none
  | .slice (some ⟨b, o, none⟩) n c => match C.tt.get t with
    | some ti => (match ti.k with
      | .slice e => (match C.tt.get e with
        | some te => (match bndE hi n (bif Nat.ble CC c then n else c) with
          | some h => (match bndE lo 0 h with
            | some l => bif Nat.beq l 0 then some (.slice (some ⟨b, o, none⟩) h c) else bif Nat.ble CC c then (bif Nat.blt l n then some (.slice (some ⟨b, o + l * te.sz, none⟩) (h - l) (c + l)) else none)
                else some (.slice (some ⟨b, bif Nat.beq c l then o else o + l * te.sz, none⟩) (h - l) (c - l))
            | none => none)
          | none => none)
        | none => none)
      | _ => none)
    | none => none
  | .pointer (some ⟨b, o, none⟩) => match C.tt.get t with
    | some ti => (match ti.k with
      | .array n e => (match C.tt.get e with
        | some te => (match bndE hi n n with
          | some h => (match bndE lo 0 h with
            | some l => bif Nat.blt n CC then some (.slice (some ⟨b, bif Nat.beq n l then o else o + l * te.sz, none⟩) (h - l) (n - l)) else none
            | none => none)
          | none => none)
        | none => none)
      | _ => none)
    | none => none
  | _ => none
theorem bnd_le {v : Option Value} {d top r : Nat} (hd : d ≤ top) (h : bndE v d top = some r) : r ≤ top := by
  cases v with
  | none => simp only [bndE] at h; cases h; exact hd
  | some v => cases v with
    | int k i => obtain ⟨h1, h2, rfl⟩ := bndE_int h; omega
    | _ => simp [bndE] at h
/-- The same bound, over a higher top. -/
theorem bnd_up {v : Option Value} {d top top' r : Nat} (ht : top ≤ top') (h : bndE v d top = some r) : bndE v d top' = some r := by
  cases v with
  | none => exact h
  | some v => cases v with
    | int k i =>
      obtain ⟨h1, h2, rfl⟩ := bndE_int h
      have h3 : i ≤ top' := by omega
      simp [bndE, h1, h3]
    | _ => simp [bndE] at h
theorem gv_slice {C : Ct} {ρ : Env} {N : Nat} {fm : Fm} {a : Act} {dst : Option Tmp} {ty : TypeId} {p : String} {af : Array Edge} {g : Option (Nat × Bool)} {t : TypeId} {x : Operand} {lo hi : Option Operand} {l h : Option Value} {v r : Value}
    (hf : Fr ρ N fm a) (hx : evE fm.t x = some v) (hlo : evO fm.t lo = some l) (hhi : evO fm.t hi = some h) (hb : slE C t l h v = some r) : Gv C ρ a ⟨dst, .slice t x lo hi none, ty, p, af, g⟩ r := by
  obtain ⟨v', hv, he⟩ := evE_spec hf hx
  obtain ⟨hl, _⟩ := evO_spec hf hlo
  obtain ⟨hh, _⟩ := evO_spec hf hhi
  have hop : execOp a.eval ⟨dst, .slice t x lo hi none, ty, p, af, g⟩ = (do pure (.value (← Instr.sliceAt t v' l h none))) := by
    simp only [execOp, he, hl, hh]; rfl
  unfold slE at hb
  split at hb
  · rename_i s
    simp only [conc, Option.some.injEq] at hv; subst hv
    cases ht : C.tt.get t with
    | none => rw [ht] at hb; cases hb
    | some ti =>
      rw [ht] at hb
      have hti := C.okT _ _ ht
      obtain ⟨kk, z, sz, by'⟩ := ti
      cases kk with
      | string =>
        have hu := tk_string hti
        simp only at hb
        cases h1 : bndE h s.data.toList.length s.data.toList.length with
        | none => rw [h1] at hb; cases hb
        | some q =>
          rw [h1] at hb; simp only at hb
          cases h2 : bndE l 0 q with
          | none => rw [h2] at hb; cases hb
          | some m =>
            rw [h2] at hb; cases hb
            refine ⟨_, by first | exact conc_int _ _ _ | exact conc_str _ _ | exact conc_bool _ _ | exact conc_sn _ _ _ | exact conc_pn _, fun w => ?_⟩
            rw [hop]
            have hs : s.size = s.data.toList.length := by simp
            have hbd := run_bounds (P := C.P) (sl := false) (len := s.size) (cap := s.size) (by rw [hs]; exact h1) h2 w
            have e : s.extract m q = ⟨⟨(s.data.toList.drop m).take (q - m)⟩⟩ := bytes_eq (by simp [List.drop_take])
            simp [Instr.sliceAt, run_underlying hu, Instr.slice, hbd, e]
      | _ => cases hb
  · rename_i n c
    simp only [conc, Option.some.injEq] at hv; subst hv
    cases ht : C.tt.get t with
    | none => rw [ht] at hb; cases hb
    | some ti =>
      rw [ht] at hb
      have hti := C.okT _ _ ht
      obtain ⟨kk, z, sz, by'⟩ := ti
      cases kk with
      | slice e =>
        have hu := tk_slice hti
        simp only at hb
        cases hte : C.tt.get e with
        | none => rw [hte] at hb; cases hb
        | some te =>
          rw [hte] at hb; simp only at hb
          cases h1 : bndE h n c with
          | none => rw [h1] at hb; cases hb
          | some q =>
            rw [h1] at hb; simp only at hb
            cases h2 : bndE l 0 q with
            | none => rw [h2] at hb; cases hb
            | some m =>
              rw [h2] at hb; cases hb
              refine ⟨_, by first | exact conc_int _ _ _ | exact conc_str _ _ | exact conc_bool _ _ | exact conc_sn _ _ _ | exact conc_pn _, fun w => ?_⟩
              rw [hop]
              have hbd := run_bounds (P := C.P) (sl := true) (len := n) (cap := c) h1 h2 w
              simp [Instr.sliceAt, run_underlying hu, Instr.slice, hbd, Wk.run_sizeOf (C.okT _ _ hte)]
      | _ => cases hb
  · rename_i b o n c
    obtain ⟨a', c', ha, hc, hn, rfl⟩ := conc_slice.1 hv
    simp only [cA, Option.map_eq_some_iff] at ha
    obtain ⟨b', ha, rfl⟩ := ha
    cases ht : C.tt.get t with
    | none => rw [ht] at hb; cases hb
    | some ti =>
      rw [ht] at hb
      have hti := C.okT _ _ ht
      obtain ⟨kk, z, sz, by'⟩ := ti
      cases kk with
      | slice e =>
        have hu := tk_slice hti
        simp only at hb
        cases hte : C.tt.get e with
        | none => rw [hte] at hb; cases hb
        | some te =>
          rw [hte] at hb; simp only at hb
          cases h1 : bndE h n (bif Nat.ble CC c then n else c) with
          | none => rw [h1] at hb; cases hb
          | some q =>
            rw [h1] at hb; simp only at hb
            cases h2 : bndE l 0 q with
            | none => rw [h2] at hb; cases hb
            | some m =>
              rw [h2] at hb; simp only at hb
              have htop : (bif Nat.ble CC c then n else c) ≤ c' := by
                cases hcc : Nat.ble CC c with
                | true => exact hn
                | false => simp [ccap, hcc] at hc; subst hc; exact Nat.le_refl _
              have hntop : n ≤ (bif Nat.ble CC c then n else c) := by
                cases hcc : Nat.ble CC c with
                | true => exact Nat.le_refl _
                | false => simp [ccap, hcc] at hc; subst hc; exact hn
              have hq := bnd_le hntop h1
              have hm := bnd_le (Nat.zero_le q) h2
              have h1' := bnd_up htop h1
              have hr : ∀ w, (Instr.sliceAt t (.slice (some ⟨b', o, none⟩) n c') l h none).run C.P w = .ok (.slice (some (if c' = m then ⟨b', o, none⟩ else ⟨b', o + m * te.sz, none⟩)) (q - m) (c' - m)) w := fun w => by
                have hbd := run_bounds (P := C.P) (sl := true) (len := n) (cap := c') h1' h2 w
                simp [Instr.sliceAt, run_underlying hu, Instr.slice, hbd, Wk.run_sizeOf (C.okT _ _ hte), addr_add]
                by_cases hcm : c' = m <;> simp [hcm]
              cases hm0 : Nat.beq m 0 with
              | true =>
                rw [hm0] at hb; cases hb
                obtain rfl := Nat.eq_of_beq_eq_true hm0
                refine ⟨.slice (some ⟨b', o, none⟩) q c', conc_slice.2 ⟨_, c', by simp [cA, ha], hc, by omega, rfl⟩, fun w => ?_⟩
                rw [hop, Sem.run_bind, hr w]
                simp
              | false =>
                rw [hm0] at hb
                have hm1 := Nat.ne_of_beq_eq_false hm0
                cases hcc : Nat.ble CC c with
                | true =>
                  rw [hcc] at hb
                  simp only [cond_false, cond_true] at hb
                  cases hlt : Nat.blt m n with
                  | false => rw [hlt] at hb; cases hb
                  | true =>
                    rw [hlt] at hb; cases hb
                    have hlt' : m < n := Nat.lt_of_lt_of_le (Nat.lt_succ_self _) (Nat.le_of_ble_eq_true hlt)
                    refine ⟨.slice (some ⟨b', o + m * te.sz, none⟩) (q - m) (c' - m), conc_slice.2 ⟨_, c' - m, by simp [cA, ha], ?_, by omega, rfl⟩, fun w => ?_⟩
                    · unfold ccap at hc ⊢
                      have hcc2 : Nat.ble CC (c + m) = true := Nat.ble_eq_true_of_le (Nat.le_trans (Nat.le_of_ble_eq_true hcc) (Nat.le_add_right _ _))
                      rw [hcc] at hc
                      rw [hcc2]
                      simp only [cond_true] at hc ⊢
                      cases hbb : Nat.ble BB b with
                      | false => rw [hbb] at hc; cases hc
                      | true =>
                        rw [hbb] at hc
                        simp only [cond_true, Option.map_eq_some_iff] at hc ⊢
                        obtain ⟨L, hL, rfl⟩ := hc
                        refine ⟨L, hL, ?_⟩
                        have := Nat.le_of_ble_eq_true hcc
                        omega
                    · rw [hop, Sem.run_bind, hr w]
                      simp [show ¬ c' = m from by omega]
                | false =>
                  rw [hcc] at hb; cases hb
                  have hcc' : c' = c := by simp [ccap, hcc] at hc; exact hc.symm
                  subst hcc'
                  have hq' : q ≤ c' := by simpa [hcc] using hq
                  refine ⟨.slice (some (if c' = m then ⟨b', o, none⟩ else ⟨b', o + m * te.sz, none⟩)) (q - m) (c' - m), conc_slice.2 ⟨_, c' - m, ?_, ?_, by omega, rfl⟩, fun w => ?_⟩
                  · by_cases hcm : c' = m
                    · subst hcm; simp [cA, ha]
                    · have : Nat.beq c' m = false := by
                        cases hk : Nat.beq c' m with
                        | false => rfl
                        | true => exact absurd (Nat.eq_of_beq_eq_true hk) hcm
                      simp [cA, ha, hcm, this]
                  · have : Nat.ble CC (c' - m) = false := by
                      cases hk : Nat.ble CC (c' - m) with
                      | false => rfl
                      | true =>
                        have h5 := Nat.le_of_ble_eq_true hk
                        have : Nat.ble CC c' = true := Nat.ble_eq_true_of_le (by omega)
                        rw [hcc] at this; cases this
                    simp [ccap, this]
                  · rw [hop, Sem.run_bind, hr w]; rfl
      | _ => cases hb
  · rename_i b o
    simp only [conc, cA, Option.map_eq_some_iff] at hv
    obtain ⟨_, ⟨b', ha, rfl⟩, rfl⟩ := hv
    cases ht : C.tt.get t with
    | none => rw [ht] at hb; cases hb
    | some ti =>
      rw [ht] at hb
      have hti := C.okT _ _ ht
      obtain ⟨kk, z, sz, by'⟩ := ti
      cases kk with
      | array n e =>
        have hu := tk_array hti
        simp only at hb
        cases hte : C.tt.get e with
        | none => rw [hte] at hb; cases hb
        | some te =>
          rw [hte] at hb; simp only at hb
          cases h1 : bndE h n n with
          | none => rw [h1] at hb; cases hb
          | some q =>
            rw [h1] at hb; simp only at hb
            cases h2 : bndE l 0 q with
            | none => rw [h2] at hb; cases hb
            | some m =>
              rw [h2] at hb; simp only at hb
              cases hcc : Nat.blt n CC with
              | false => rw [hcc] at hb; cases hb
              | true =>
                rw [hcc] at hb; cases hb
                have hq := bnd_le (Nat.le_refl n) h1
                have hm := bnd_le (Nat.zero_le q) h2
                have hn' : n < CC := Nat.lt_of_lt_of_le (Nat.lt_succ_self _) (Nat.le_of_ble_eq_true hcc)
                refine ⟨.slice (some (if n = m then ⟨b', o, none⟩ else ⟨b', o + m * te.sz, none⟩)) (q - m) (n - m), conc_slice.2 ⟨_, n - m, ?_, ?_, by omega, rfl⟩, fun w => ?_⟩
                · by_cases hcm : n = m
                  · subst hcm; simp [cA, ha]
                  · have : Nat.beq n m = false := by
                      cases hk : Nat.beq n m with
                      | false => rfl
                      | true => exact absurd (Nat.eq_of_beq_eq_true hk) hcm
                    simp [cA, ha, hcm, this]
                · have : Nat.ble CC (n - m) = false := by
                    cases hk : Nat.ble CC (n - m) with
                    | false => rfl
                    | true => have h5 := Nat.le_of_ble_eq_true hk; omega
                  simp [ccap, this]
                · have hbd := run_bounds (P := C.P) (sl := false) (len := n) (cap := n) h1 h2 w
                  rw [hop]
                  simp [Instr.sliceAt, run_underlying hu, Instr.sureAddr, hbd, Wk.run_sizeOf (C.okT _ _ hte), addr_add]
      | _ => cases hb
  · cases hb

/-! ### Which type -/
def tasE (C : Ct) (asserted : TypeId) (ok : Bool) : Value → Option Value
  | .iface u v => match C.tt.get asserted with
    | some ti => (match ti.k with
      | .iface => none
      | _ => bif Nat.beq u asserted then some (bif ok then .tuple ⟨[v, .bool true]⟩ else v) else bif ok && cst 8 ti.z then some (.tuple ⟨[ti.z, .bool false]⟩) else none)
    | none => none
  | .nilIface => match C.tt.get asserted with
    | some ti => (match ti.k with
      | .iface => none
      | _ => bif ok && cst 8 ti.z then some (.tuple ⟨[ti.z, .bool false]⟩) else none)
    | none => none
  | _ => none
theorem gv_tas {C : Ct} {ρ : Env} {N : Nat} {fm : Fm} {a : Act} {dst : Option Tmp} {ty : TypeId} {p : String} {af : Array Edge} {g : Option (Nat × Bool)} {xt asserted : TypeId} {ok : Bool} {x : Operand} {v r : Value} (h : Fr ρ N fm a) (hx : evE fm.t x = some v)
    (hb : tasE C asserted ok v = some r) : Gv C ρ a ⟨dst, .typeAssert x xt asserted ok, ty, p, af, g⟩ r := by
  obtain ⟨v', hv, he⟩ := evE_spec h hx
  unfold tasE at hb
  split at hb
  · rename_i u v0
    simp only [conc, Option.map_eq_some_iff] at hv
    obtain ⟨v1, hv1, rfl⟩ := hv
    cases ht : C.tt.get asserted with
    | none => rw [ht] at hb; cases hb
    | some ti =>
      rw [ht] at hb
      have hti := C.okT _ _ ht
      have hz := fun w => Wk.run_zeroValue hti w
      obtain ⟨d, i, hd, _, hk, _⟩ := tiOf_spec hti
      obtain ⟨kk, z, sz, by'⟩ := ti
      simp only at hk hb
      have hne : kk ≠ .iface := by rintro rfl; simp at hb
      have hb' : (bif Nat.beq u asserted then some (bif ok then Value.tuple ⟨[v0, .bool true]⟩ else v0) else bif ok && cst 8 z then some (.tuple ⟨[z, .bool false]⟩) else none) = some r := by
        cases kk <;> first | exact hb | exact absurd rfl hne
      have hi : ∀ ms, d ≠ .interface ms := by rintro ms rfl; simp [tkOf] at hk; exact hne hk.symm
      cases hq : Nat.beq u asserted with
      | true =>
        rw [hq] at hb'
        obtain rfl := Nat.eq_of_beq_eq_true hq
        cases ok with
        | true =>
          cases hb'
          refine ⟨.tuple ⟨[v1, .bool true]⟩, by simp [conc, concA, concs, hv1], fun w => ?_⟩
          simp only [execOp, he]
          cases d <;> first | exact absurd rfl (hi _) | simp [Instr.typeAssert, run_underlying hd]
        | false =>
          cases hb'
          refine ⟨v1, hv1, fun w => ?_⟩
          simp only [execOp, he]
          cases d <;> first | exact absurd rfl (hi _) | simp [Instr.typeAssert, run_underlying hd]
      | false =>
        rw [hq] at hb'
        have hna := Nat.ne_of_beq_eq_false hq
        cases hc : (ok && cst 8 z) with
        | false => rw [hc] at hb'; cases hb'
        | true =>
          rw [hc] at hb'; cases hb'
          simp only [Bool.and_eq_true] at hc
          obtain ⟨rfl, hcz⟩ := hc
          refine ⟨.tuple ⟨[z, .bool false]⟩, by simp [conc, concA, concs, cst_conc hcz], fun w => ?_⟩
          simp only [execOp, he]
          have hz' := hz w
          cases d <;> first | exact absurd rfl (hi _) | simp [Instr.typeAssert, run_underlying hd, hna, hz']
  · simp only [conc, Option.some.injEq] at hv; subst hv
    cases ht : C.tt.get asserted with
    | none => rw [ht] at hb; cases hb
    | some ti =>
      rw [ht] at hb
      have hti := C.okT _ _ ht
      have hz := fun w => Wk.run_zeroValue hti w
      obtain ⟨d, i, hd, _, hk, _⟩ := tiOf_spec hti
      obtain ⟨kk, z, sz, by'⟩ := ti
      simp only at hk hb
      have hne : kk ≠ .iface := by rintro rfl; simp at hb
      have hb' : (bif ok && cst 8 z then some (Value.tuple ⟨[z, .bool false]⟩) else none) = some r := by
        cases kk <;> first | exact hb | exact absurd rfl hne
      have hi : ∀ ms, d ≠ .interface ms := by rintro ms rfl; simp [tkOf] at hk; exact hne hk.symm
      cases hc : (ok && cst 8 z) with
      | false => rw [hc] at hb'; cases hb'
      | true =>
        rw [hc] at hb'; cases hb'
        simp only [Bool.and_eq_true] at hc
        obtain ⟨rfl, hcz⟩ := hc
        refine ⟨.tuple ⟨[z, .bool false]⟩, by simp [conc, concA, concs, cst_conc hcz], fun w => ?_⟩
        simp only [execOp, he]
        have hz' := hz w
        cases d <;> first | exact absurd rfl (hi _) | simp [Instr.typeAssert, run_underlying hd, hz']
  · cases hb

/-! ### Structs and arrays put together -/
theorem conc_cells {ρ : Env} {v u : Value} (h : conc ρ v = some u) : concs ρ v.cells.toList = some u.cells.toList ∧ u.cells.size = v.cells.size := by
  have key : concs ρ v.cells.toList = some u.cells.toList := by
    cases v with
    | agg l => simp only [conc, Option.map_eq_some_iff] at h; obtain ⟨us, h1, rfl⟩ := h; exact concA_iff.1 h1
    | pointer x => cases x with
      | none => simp only [conc, Option.some.injEq] at h; subst h; exact concs_one (by simp [conc])
      | some x => have h' := h; simp only [conc, Option.map_eq_some_iff] at h; obtain ⟨us, h1, rfl⟩ := h; exact concs_one h'
    | slice x n c => cases x with
      | none => simp only [conc, Option.some.injEq] at h; subst h; exact concs_one (by simp [conc])
      | some x => have h' := h; obtain ⟨_, _, _, _, _, rfl⟩ := conc_slice.1 h; exact concs_one h'
    | map x => cases x with
      | none => simp only [conc, Option.some.injEq] at h; subst h; exact concs_one (by simp [conc])
      | some x => have h' := h; simp only [conc, Option.map_eq_some_iff] at h; obtain ⟨us, h1, rfl⟩ := h; exact concs_one h'
    | chan x => cases x with
      | none => simp only [conc, Option.some.injEq] at h; subst h; exact concs_one (by simp [conc])
      | some x => simp [conc] at h
    | func f l m =>
      have h' := h
      simp only [conc] at h
      split at h
      · cases h; exact concs_one h'
      · cases h
    | iface t x => have h' := h; simp only [conc, Option.map_eq_some_iff] at h; obtain ⟨us, h1, rfl⟩ := h; exact concs_one h'
    | tuple l => have h' := h; simp only [conc, Option.map_eq_some_iff] at h; obtain ⟨us, h1, rfl⟩ := h; exact concs_one h'
    | _ => simp only [conc, Option.some.injEq] at h; subst h; exact concs_one (by simp [conc])
  refine ⟨key, ?_⟩
  have := concs_len key
  simpa using this
theorem concs_put {ρ : Env} : ∀ {vs us l l' : List Value} (o : Nat), concs ρ vs = some us → concs ρ l = some l' → concs ρ (putC l o vs) = some (putC l' o us)
  | [], us, l, l', o, h, h' => by rw [concs_nil] at h; cases h; exact h'
  | v :: r, us, l, l', o, h, h' => by
    obtain ⟨u, t, h1, h2, rfl⟩ := concs_cons.1 h
    simp only [putC]
    exact concs_put (o + 1) h2 (concs_set h1 o h')
theorem concs_fill {ρ : Env} {ps : List (Nat × Nat)} : ∀ {is : List Nat} {vs us l l' cs : List Value}, concs ρ vs = some us → concs ρ l = some l' → fillC ps l (is.zip vs) = some cs → ∃ cs', concs ρ cs = some cs' ∧ fillC ps l' (is.zip us) = some cs'
  | [], vs, us, l, l', cs, h, h', hf => by simp [fillC] at hf; subst hf; exact ⟨l', h', by simp [fillC]⟩
  | i :: is, [], us, l, l', cs, h, h', hf => by rw [concs_nil] at h; cases h; simp [fillC] at hf; subst hf; exact ⟨l', h', by simp [fillC]⟩
  | i :: is, v :: r, us, l, l', cs, h, h', hf => by
    obtain ⟨u, t, h1, h2, rfl⟩ := concs_cons.1 h
    simp only [List.zip_cons_cons, fillC] at hf ⊢
    cases hp : ps[i]? with
    | none => rw [hp] at hf; cases hf
    | some q =>
      obtain ⟨off, sz⟩ := q
      rw [hp] at hf
      simp only at hf ⊢
      obtain ⟨hc1, hc2⟩ := conc_cells h1
      rw [hc2, concs_len h']
      cases hb : (Nat.beq v.cells.size sz && Nat.ble (off + sz) l.length) with
      | false => rw [hb] at hf; cases hf
      | true =>
        rw [hb] at hf
        simp only [cond_true] at hf ⊢
        exact concs_fill h2 (concs_put off hc1 h') hf
def plcE (C : Ct) : List (Nat × TypeId) → Option (List (Nat × Nat))
  | [] => some []
  | (off, ft) :: r => match C.tt.get ft, plcE C r with
    | some tf, some ps => some ((off, tf.sz) :: ps)
    | _, _ => none
theorem plcE_spec {C : Ct} : ∀ {fs : List (Nat × TypeId)} {ps : List (Nat × Nat)}, plcE C fs = some ps → plc C.s.tab fs = some ps
  | [], ps, h => h
  | (off, ft) :: r, ps, h => by
    simp only [plcE] at h
    split at h
    · rename_i tf ps' h1 h2
      cases h
      simp only [plc, C.okL _ _ h1, plcE_spec h2]
    · cases h
def bldE (C : Ct) (t : Tr Value) (ty : TypeId) (parts : Array (Nat × Operand)) : Option Value := match C.tt.get ty with
  | some ti => (match ti.k with
    | .struct fs => (match plcE C fs, evEs t (parts.toList.map (·.2)) with
      | some ps, some vs => bif cst 8 ti.z then (match fillC ps ti.z.cells.toList ((parts.toList.map (·.1)).zip vs) with
        | some cs => some (.agg ⟨cs⟩)
        | none => none) else none
      | _, _ => none)
    | _ => none)
  | none => none
theorem gv_bld {C : Ct} {ρ : Env} {N : Nat} {fm : Fm} {a : Act} {dst : Option Tmp} {ty : TypeId} {p : String} {af : Array Edge} {g : Option (Nat × Bool)} {t : TypeId} {parts : Array (Nat × Operand)} {r : Value} (h : Fr ρ N fm a)
    (hb : bldE C fm.t t parts = some r) : Gv C ρ a ⟨dst, .build t parts, ty, p, af, g⟩ r := by
  unfold bldE at hb
  cases ht : C.tt.get t with
  | none => rw [ht] at hb; cases hb
  | some ti =>
    rw [ht] at hb
    obtain ⟨kk, z, sz, by'⟩ := ti
    cases kk with
    | struct fs =>
      simp only at hb
      split at hb
      · rename_i ps vs h1 h2
        cases hc : cst 8 z with
        | false => rw [hc] at hb; cases hb
        | true =>
          rw [hc] at hb
          simp only [cond_true] at hb
          split at hb
          · rename_i cs hf
            cases hb
            have e1 := evEs_spec h h2
            have e2 := (conc_cells (ρ := ρ) (cst_conc hc)).1
            obtain ⟨cs', hcs, hf'⟩ := concs_fill e1 e2 hf
            refine Gv.of (d := 0) (u := .agg ⟨cs'⟩) (xs := parts.toList.map (·.2)) (conc_agg hcs) ?_
            exact p_build (X := C.X) (C.okL _ _ ht) (plcE_spec h1) (evs_map' (fun x hx => hx)) hf'
          · cases hb
      · cases hb
    | _ => cases hb

/-! ### cap, the data of a slice -/
def capE (C : Ct) (t : TypeId) : Value → Option Value
  | .slice _ _ c => match C.tt.get t with
    | some ti => (match ti.k with | .slice _ => bif Nat.ble CC c then none else some (.int .i64 c) | _ => none)
    | none => none
  | _ => none
theorem gv_cap {C : Ct} {ρ : Env} {N : Nat} {fm : Fm} {a : Act} {dst : Option Tmp} {ty : TypeId} {p : String} {af : Array Edge} {g : Option (Nat × Bool)} {t : TypeId} {x : Operand} {v r : Value} (h : Fr ρ N fm a) (hx : evE fm.t x = some v) (hb : capE C t v = some r) :
    Gv C ρ a ⟨dst, .call ⟨.builtin .cap, #[x], #[t]⟩, ty, p, af, g⟩ r := by
  obtain ⟨v', hv, he⟩ := evE_spec h hx
  unfold capE at hb
  split at hb
  · rename_i ad n c
    cases ht : C.tt.get t with
    | none => rw [ht] at hb; cases hb
    | some ti =>
      rw [ht] at hb
      have hti := C.okT _ _ ht
      obtain ⟨kk, z, sz, by'⟩ := ti
      cases kk with
      | slice e =>
        simp only at hb
        cases hcc : Nat.ble CC c with
        | true => rw [hcc] at hb; cases hb
        | false =>
          rw [hcc] at hb; cases hb
          have hu := tk_slice hti
          have : ∃ A, v' = .slice A n c := by
            cases ad with
            | none => simp [conc] at hv; exact ⟨_, hv.symm⟩
            | some ad =>
              obtain ⟨a', c', _, h2, _, rfl⟩ := conc_slice.1 hv
              simp [ccap, hcc] at h2; subst h2; exact ⟨_, rfl⟩
          obtain ⟨A, rfl⟩ := this
          refine ⟨_, by first | exact conc_int _ _ _ | exact conc_str _ _ | exact conc_bool _ _ | exact conc_sn _ _ _ | exact conc_pn _, fun w => ?_⟩
          simp only [execOp]
          simp [resolve, invoke, builtin, Builtin.cap_, he, run_underlying hu, goInt]
      | _ => cases hb
  · cases hb
def sdtE : Value → Option Value
  | .slice none _ _ => some (.pointer none)
  | .slice (some ad) n c => bif Nat.blt 0 n then some (.pointer (some ad)) else none
  | _ => none
theorem gv_sdt {C : Ct} {ρ : Env} {N : Nat} {fm : Fm} {a : Act} {dst : Option Tmp} {ty : TypeId} {p : String} {af : Array Edge} {g : Option (Nat × Bool)} {ts : Array TypeId} {x : Operand} {v r : Value} (h : Fr ρ N fm a) (hx : evE fm.t x = some v) (hb : sdtE v = some r) :
    Gv C ρ a ⟨dst, .call ⟨.builtin .unsafeSliceData, #[x], ts⟩, ty, p, af, g⟩ r := by
  obtain ⟨v', hv, he⟩ := evE_spec h hx
  unfold sdtE at hb
  split at hb
  · cases hb
    simp only [conc, Option.some.injEq] at hv; subst hv
    refine ⟨_, by first | exact conc_int _ _ _ | exact conc_str _ _ | exact conc_bool _ _ | exact conc_sn _ _ _ | exact conc_pn _, fun w => ?_⟩
    simp only [execOp]
    rename_i n c
    have e : Builtin.unsafeSliceData_ ts ty #[.slice none n c] = pure (.pointer none) := rfl
    simp [resolve, invoke, builtin, e, he]
  · rename_i ad n c
    cases hn : Nat.blt 0 n with
    | false => rw [hn] at hb; cases hb
    | true =>
      rw [hn] at hb; cases hb
      have hn' : 0 < n := Nat.lt_of_lt_of_le (Nat.lt_succ_self _) (Nat.le_of_ble_eq_true hn)
      obtain ⟨a', c', h1, h2, h3, rfl⟩ := conc_slice.1 hv
      refine ⟨.pointer (some a'), by simp [conc, h1], fun w => ?_⟩
      have : ¬ c' = 0 := by omega
      simp only [execOp]
      have e : Builtin.unsafeSliceData_ ts ty #[.slice (some a') n c'] = (if c' ≠ 0 then pure (.pointer (some a')) else do
        if (← viewAt a'.block).isSome then pure (.pointer (some a'))
        else pure (.pointer (some ⟨← newObj (.view a' (← elemOf ty)), 0, none⟩))) := rfl
      rw [if_pos this] at e
      simp [resolve, invoke, builtin, e, he]
  · cases hb

/-! ### All of them -/
def orE (x y : Option Value) : Option Value := match x with
  | some v => some v
  | none => y
theorem orE_some {x y : Option Value} {v : Value} (h : orE x y = some v) : x = some v ∨ y = some v := by
  cases x with
  | none => exact .inr h
  | some u => exact .inl h
def fstE (C : Ct) (t : Tr Value) : Op → Option Value
  | .move x => evE t x
  | .assign x => evE t x
  | .nilCheck x => (evE t x).bind nilE
  | .pick c x y => (evE t c).bind (pickE t x y)
  | .binOp op ty x y _ => (evE t x).bind fun v => (evE t y).bind fun w => binE C op ty x y v w
  | .unOp .not _ x => (evE t x).bind notE
  | .extract x i => (evE t x).bind fun v => extE v i
  | .convert s d x => (evE t x).bind (convE C s d)
  | .makeInterface ty x => (evE t x).bind (mkifE C ty)
  | .makeFunc fn xs ys => mkfnE t fn xs ys
  | .fieldAddr st x i => (evE t x).bind (fldE C st i)
  | .field st x i => (evE t x).bind (fieldE C st i)
  | .indexAddr ty x y => (evE t x).bind fun v => (evE t y).bind (ixaE C ty v)
  | .index ty x y => (evE t x).bind fun v => (evE t y).bind (indE C ty v)
  | .slice ty x lo hi none => (evE t x).bind fun v => (evO t lo).bind fun l => (evO t hi).bind fun h => slE C ty l h v
  | .typeAssert x _ asserted ok => (evE t x).bind (tasE C asserted ok)
  | .build ty parts => bldE C t ty parts
  | .call ⟨.builtin .len, ⟨[x]⟩, ⟨[ty]⟩⟩ => (evE t x).bind (lenE C ty)
  | .call ⟨.builtin .cap, ⟨[x]⟩, ⟨[ty]⟩⟩ => (evE t x).bind (capE C ty)
  | .call ⟨.builtin .unsafeSliceData, ⟨[x]⟩, _⟩ => (evE t x).bind sdtE
  | _ => none
theorem fstE_spec {C : Ct} {ρ : Env} {N : Nat} {fm : Fm} {a : Act} {dst : Option Tmp} {op : Op} {ty : TypeId} {p : String} {af : Array Edge} {g : Option (Nat × Bool)} {v : Value} (h : Fr ρ N fm a) (hv : fstE C fm.t op = some v) : Gv C ρ a ⟨dst, op, ty, p, af, g⟩ v := by
  unfold fstE at hv
  split at hv
  · exact gv_move h hv
  · exact gv_assign h hv
  · obtain ⟨u, h1, h2⟩ := Option.bind_eq_some_iff.1 hv; exact gv_nil h h1 h2
  · obtain ⟨u, h1, h2⟩ := Option.bind_eq_some_iff.1 hv; exact gv_pick h h1 h2
  · obtain ⟨u, h1, h2⟩ := Option.bind_eq_some_iff.1 hv
    obtain ⟨u', h3, h4⟩ := Option.bind_eq_some_iff.1 h2; exact gv_bin h h1 h3 h4
  · obtain ⟨u, h1, h2⟩ := Option.bind_eq_some_iff.1 hv; exact gv_not h h1 h2
  · obtain ⟨u, h1, h2⟩ := Option.bind_eq_some_iff.1 hv; exact gv_ext h h1 h2
  · obtain ⟨u, h1, h2⟩ := Option.bind_eq_some_iff.1 hv; exact gv_conv h h1 h2
  · obtain ⟨u, h1, h2⟩ := Option.bind_eq_some_iff.1 hv; exact gv_mkif h h1 h2
  · exact gv_mkfn h hv
  · obtain ⟨u, h1, h2⟩ := Option.bind_eq_some_iff.1 hv; exact gv_fld h h1 h2
  · obtain ⟨u, h1, h2⟩ := Option.bind_eq_some_iff.1 hv; exact gv_field h h1 h2
  · obtain ⟨u, h1, h2⟩ := Option.bind_eq_some_iff.1 hv
    obtain ⟨u', h3, h4⟩ := Option.bind_eq_some_iff.1 h2; exact gv_ixa h h1 h3 h4
  · obtain ⟨u, h1, h2⟩ := Option.bind_eq_some_iff.1 hv
    obtain ⟨u', h3, h4⟩ := Option.bind_eq_some_iff.1 h2; exact gv_ind h h1 h3 h4
  · obtain ⟨u, h1, h2⟩ := Option.bind_eq_some_iff.1 hv
    obtain ⟨l, h3, h4⟩ := Option.bind_eq_some_iff.1 h2
    obtain ⟨m, h5, h6⟩ := Option.bind_eq_some_iff.1 h4; exact gv_slice h h1 h3 h5 h6
  · obtain ⟨u, h1, h2⟩ := Option.bind_eq_some_iff.1 hv; exact gv_tas h h1 h2
  · exact gv_bld h hv
  · obtain ⟨u, h1, h2⟩ := Option.bind_eq_some_iff.1 hv; exact gv_len h h1 h2
  · obtain ⟨u, h1, h2⟩ := Option.bind_eq_some_iff.1 hv; exact gv_cap h h1 h2
  · obtain ⟨u, h1, h2⟩ := Option.bind_eq_some_iff.1 hv; exact gv_sdt h h1 h2
  · cases hv
end Go.Ev

/- Memory: read, written, made; slices appended to. -/
namespace Go.Ev
open Go.Wk
set_option linter.unusedVariables false
set_option linter.unusedSimpArgs false

/-! ### Cells read -/
def takeN (l : List Value) (o n : Nat) : Option (List Value) := bif Nat.beq ((l.drop o).take n).length n then some ((l.drop o).take n) else none
def readC (C : Ct) (s : St) (b o n : Nat) : Option (List Value) :=
  bif Nat.ble BB b then (match s.h.get (b - BB) with
    | some (.cells l _ _) => takeN l.toList o n
    | _ => none)
  else (match C.gl.get b with
    | some (.cells l _ _) => (match takeN l.toList o n with
      | some cs => bif cs.all (cst 8) then some cs else none
      | none => none)
    | _ => none)
theorem takeN_spec {ρ : Env} {l l' cs : List Value} {o n : Nat} (hl : concs ρ l = some l') (h : takeN l o n = some cs) : ∃ cs', concs ρ cs = some cs' ∧ cs.length = n ∧ cs'.length = n ∧ ∀ sp j u, cs'[j]? = some u → (l' ++ sp)[o + j]? = some u := by
  unfold takeN at h
  cases hb : Nat.beq ((l.drop o).take n).length n with
  | false => rw [hb] at h; cases h
  | true =>
    rw [hb] at h; cases h
    have h1 := Nat.eq_of_beq_eq_true hb
    have hc := concs_take n (concs_drop o hl)
    refine ⟨_, hc, h1, by rw [concs_len hc, h1], fun sp j u hj => ?_⟩
    rw [List.getElem?_take] at hj
    split at hj
    · rw [List.getElem?_drop] at hj
      rw [List.getElem?_append_left (List.getElem?_eq_some_iff.1 hj).1]; exact hj
    · cases hj

section
variable {C : Ct} {w0 : World} {D : Nat → Prop} {ρ : Env} {s : St} {w : World}

theorem cad_own {b b' : Nat} (hb : Nat.ble BB b = true) (h : cad ρ b = some b') : ∃ l, lcE ρ (b - BB) = some l ∧ l.ad = b' := by
  unfold cad at h
  rw [hb] at h
  simpa only [cond_true, Option.map_eq_some_iff] using h
theorem cad_old {b b' : Nat} (hb : Nat.ble BB b = false) (h : cad ρ b = some b') : b' = b := by
  unfold cad at h
  rw [hb] at h
  exact (Option.some.inj h).symm

theorem readC_spec (H : Sr C w0 D ρ s w) {b b' o n : Nat} {cs : List Value} (hb' : cad ρ b = some b') (h : readC C s b o n = some cs) :
    ∃ cs', concs ρ cs = some cs' ∧ cs.length = n ∧ cs'.length = n ∧ ∀ j u, cs'[j]? = some u → w.cell? ⟨b', o + j, none⟩ = some u := by
  unfold readC at h
  cases hb : Nat.ble BB b with
  | true =>
    rw [hb, cond_true] at h
    split at h
    · rename_i l e fz hk
      obtain ⟨l1, hl1, rfl⟩ := cad_own hb hb'
      obtain ⟨l2, o', h1, h2, h3⟩ := H.holds _ _ hk
      rw [hl1] at h1; cases h1
      obtain ⟨l', e', h4, rfl, _⟩ := concO_cells h2
      obtain ⟨cs', g1, g2, g3, g4⟩ := takeN_spec h4 h
      refine ⟨cs', g1, g2, g3, fun j u hj => ?_⟩
      simp only [World.cell?, h3]
      simpa using g4 l1.sp j u hj
    · cases h
  | false =>
    rw [hb] at h
    simp only [cond_false] at h
    obtain rfl := cad_old hb hb'
    split at h
    · rename_i l e fz hk
      split at h
      · rename_i cs0 ht
        cases hc : cs0.all (cst 8) with
        | false => rw [hc] at h; cases h
        | true =>
          rw [hc] at h; cases h
          have g1 : concs ρ cs = some cs := concs_all (fun v hv => cst_conc hv) hc
          unfold takeN at ht
          cases hq : Nat.beq ((l.toList.drop o).take n).length n with
          | false => rw [hq] at ht; cases ht
          | true =>
            rw [hq] at ht; cases ht
            have h1 := Nat.eq_of_beq_eq_true hq
            refine ⟨_, g1, h1, h1, fun j u hj => ?_⟩
            have h5 := (H.glob _ _ hk).1
            simp only [World.cell?, h5]
            rw [List.getElem?_take] at hj
            split at hj
            · rw [List.getElem?_drop] at hj; simpa using hj
            · cases hj
      · cases h
    · cases h

theorem asV_conc {k : Tk} {cs cs' : List Value} {v : Value} (hc : concs ρ cs = some cs') (h : asV k cs = some v) : ∃ u, asV k cs' = some u ∧ conc ρ v = some u := by
  unfold asV at h ⊢
  cases hA : isA k with
  | true =>
    rw [hA] at h
    simp only [Option.some.injEq] at h
    subst h
    exact ⟨_, rfl, conc_agg hc⟩
  | false =>
    rw [hA] at h
    cases cs with
    | nil => simp at h
    | cons c r => cases r with
      | nil =>
        simp only [Option.some.injEq] at h; subst h
        obtain ⟨u, t, h1, h2, rfl⟩ := concs_cons.1 hc
        rw [concs_nil] at h2; cases h2
        exact ⟨u, rfl, h1⟩
      | cons _ _ => simp at h

def ldE (C : Ct) (s : St) (t : TypeId) : Value → Option Value
  | .pointer (some ⟨b, o, none⟩) => match C.tt.get t with
    | some ti => (match readC C s b o ti.sz with
      | some cs => asV ti.k cs
      | none => none)
    | none => none
  | _ => none
/-- What a load gives, as memory stands. -/
theorem ldE_run (H : Sr C w0 D ρ s w) {t : TypeId} {v v' r : Value} (hv : conc ρ v = some v') (h : ldE C s t v = some r) : ∃ u, conc ρ r = some u ∧ (Instr.loadAt t v').run C.P w = .ok u w := by
  unfold ldE at h
  split at h
  · rename_i b o
    simp only [conc, cA, Option.map_eq_some_iff] at hv
    obtain ⟨_, ⟨b', hb', rfl⟩, rfl⟩ := hv
    cases ht : C.tt.get t with
    | none => rw [ht] at h; cases h
    | some ti =>
      rw [ht] at h
      simp only at h
      split at h
      · rename_i cs hr
        obtain ⟨cs', g1, g2, g3, g4⟩ := readC_spec H hb' hr
        obtain ⟨u, h1, h2⟩ := asV_conc g1 h
        exact ⟨u, h2, run_loadAt (C.okT _ _ ht) g3 h1 g4⟩
      · cases h
  · cases h

/-! ### Cells written -/
theorem conc_one {v u : Value} (h : conc ρ v = some u) : u.oneCell' = v.oneCell' := by
  cases v with
  | pointer x => cases x with
    | none => simp only [conc, Option.some.injEq] at h; subst h; rfl
    | some x => simp only [conc, Option.map_eq_some_iff] at h; obtain ⟨us, h1, rfl⟩ := h; rfl
  | slice x n c => cases x with
    | none => simp only [conc, Option.some.injEq] at h; subst h; rfl
    | some x => obtain ⟨_, _, _, _, _, rfl⟩ := conc_slice.1 h; rfl
  | map x => cases x with
    | none => simp only [conc, Option.some.injEq] at h; subst h; rfl
    | some x => simp only [conc, Option.map_eq_some_iff] at h; obtain ⟨us, h1, rfl⟩ := h; rfl
  | chan x => cases x with
    | none => simp only [conc, Option.some.injEq] at h; subst h; rfl
    | some x => simp [conc] at h
  | func f l m =>
    simp only [conc] at h
    split at h
    · cases h; rfl
    · cases h
  | agg l => simp only [conc, Option.map_eq_some_iff] at h; obtain ⟨us, h1, rfl⟩ := h; rfl
  | tuple l => simp only [conc, Option.map_eq_some_iff] at h; obtain ⟨us, h1, rfl⟩ := h; rfl
  | iface t x => simp only [conc, Option.map_eq_some_iff] at h; obtain ⟨us, h1, rfl⟩ := h; rfl
  | _ => simp only [conc, Option.some.injEq] at h; subst h; rfl
theorem concs_one' : ∀ {vs us : List Value}, concs ρ vs = some us → vs.all Value.oneCell' = true → ∀ u ∈ us, u.oneCell' = true
  | [], us, h, _, u, hu => by rw [concs_nil] at h; cases h; cases hu
  | v :: r, us, h, ha, u, hu => by
    obtain ⟨x, t, h1, h2, rfl⟩ := concs_cons.1 h
    simp only [List.all_cons, Bool.and_eq_true] at ha
    rcases List.mem_cons.1 hu with rfl | hu
    · rw [conc_one h1]; exact ha.1
    · exact concs_one' h2 ha.2 u hu
theorem putC_left : ∀ (vs l sp : List Value) (o : Nat), o + vs.length ≤ l.length → putC (l ++ sp) o vs = putC l o vs ++ sp
  | [], l, sp, o, _ => rfl
  | v :: vs, l, sp, o, h => by
    simp only [putC]
    rw [List.length_cons] at h
    rw [List.set_append_left _ _ (by omega)]
    exact putC_left vs (l.set o v) sp (o + 1) (by rw [List.length_set]; omega)

theorem putC_len : ∀ (vs l : List Value) (o : Nat), (putC l o vs).length = l.length
  | [], l, o => rfl
  | v :: vs, l, o => by simp only [putC]; rw [putC_len vs]; simp
def writeC (s : St) (b o : Nat) (vs : List Value) : Option St :=
  bif Nat.ble BB b then (match s.h.get (b - BB) with
    | some (.cells l e (0, 0)) => bif Nat.ble (o + vs.length) l.toList.length && vs.all Value.oneCell' then s.upd (b - BB) (some (.cells ⟨putC l.toList o vs⟩ e (0, 0))) else none
    | _ => none)
  else none
theorem writeC_spec {P : Program} (H : Sr C w0 D ρ s w) {b b' o : Nat} {vs vs' : List Value} {s' : St} (hb' : cad ρ b = some b') (hvs : concs ρ vs = some vs') (h : writeC s b o vs = some s') :
    ∃ w', (storeCells ⟨b', o, none⟩ vs' 0).run P w = .ok () w' ∧ Sr C w0 D ρ s' w' := by
  unfold writeC at h
  cases hb : Nat.ble BB b with
  | false => rw [hb] at h; cases h
  | true =>
    rw [hb, cond_true] at h
    obtain ⟨l1, hl1, rfl⟩ := cad_own hb hb'
    generalize b - BB = k at h hl1
    split at h
    · rename_i l e hk
      cases hq : (Nat.ble (o + vs.length) l.toList.length && vs.all Value.oneCell') with
      | false => rw [hq] at h; cases h
      | true =>
        rw [hq, cond_true] at h
        simp only [Bool.and_eq_true] at hq
        have hlen := Nat.le_of_ble_eq_true hq.1
        obtain ⟨l2, o', h1, h2, h3⟩ := H.holds _ _ hk
        rw [hl1] at h1; cases h1
        have hlen2 : vs'.length = vs.length := concs_len hvs
        obtain ⟨l', _, hl', _, _⟩ := concO_cells h2
        obtain ⟨e', hput, l'', hl'', ho⟩ := concO_put (fz' := (0, 0)) (m := putC l.toList o vs) (m' := putC l' o vs') h2 (concs_put o hvs hl') (by rw [putC_len])
        rw [hl'] at hl''
        cases hl''
        subst ho
        have hll := concs_len hl'
        obtain ⟨w', hr, E⟩ := run_storeCells (P := P) (e := e') vs' (l' ++ l1.sp) o 0 w (by simpa using h3) (by rw [List.length_append]; omega) (concs_one' hvs hq.2)
        refine ⟨w', hr, H.write hk hl1 hput h ?_ (fun x hx hne => ?_) ?_ E.os E.tape E.output⟩
        · have := E.holds l1.ad _ List.mem_cons_self
          rw [Nat.add_zero, putC_left vs' l' l1.sp o (by omega)] at this
          exact this
        · exact E.keep x hx (by simpa [ids] using hne)
        · exact E.size
    · cases h

def stE (C : Ct) (s : St) (t : TypeId) (v : Value) : Value → Option St
  | .pointer (some ⟨b, o, none⟩) => match C.tt.get t with
    | some ti => bif Nat.beq v.cells.toList.length ti.sz then writeC s b o v.cells.toList else none
    | none => none
  | _ => none
theorem stE_run (H : Sr C w0 D ρ s w) {t : TypeId} {v v' p p' : Value} {s' : St} (hp : conc ρ p = some p') (hv : conc ρ v = some v') (h : stE C s t v p = some s') :
    ∃ w', (Instr.storeAt t p' v').run C.P w = .ok () w' ∧ Sr C w0 D ρ s' w' := by
  unfold stE at h
  split at h
  · rename_i b o
    simp only [conc, cA, Option.map_eq_some_iff] at hp
    obtain ⟨_, ⟨b', hb', rfl⟩, rfl⟩ := hp
    cases ht : C.tt.get t with
    | none => rw [ht] at h; cases h
    | some ti =>
      rw [ht] at h
      simp only at h
      cases hq : Nat.beq v.cells.toList.length ti.sz with
      | false => rw [hq] at h; cases h
      | true =>
        rw [hq, cond_true] at h
        obtain ⟨hc, hsz⟩ := conc_cells hv
        obtain ⟨w', hr, H'⟩ := writeC_spec (P := C.P) H hb' hc h
        refine ⟨w', ?_, H'⟩
        have h1 : v'.cells.size = ti.sz := by rw [hsz]; exact Nat.eq_of_beq_eq_true hq
        simp only [Instr.storeAt, Instr.sureAddr, storeVar, Sem.run_bind, Sem.run_pure, Result.andThen_ok, Wk.run_sizeOf (C.okT _ _ ht), h1]
        rw [if_neg (by simp)]
        exact hr
  · cases h

/-! ### New rows -/
/-- A new row of cells, all told. -/
def newE (s : St) (e : TypeId) (cs : List Value) : Option (Nat × St) := bif Nat.ble BB e then none else (match s.new (.cells ⟨cs⟩ e (0, 0)) with
  | some s' => some (BB + s.n, s')
  | none => none)
theorem BB_ble (n : Nat) : Nat.ble BB (BB + n) = true := by generalize BB = q; exact Nat.ble_eq_true_of_le (Nat.le_add_right _ _)
theorem BB_sub (n : Nat) : BB + n - BB = n := by generalize BB = q; exact Nat.add_sub_cancel_left _ _
theorem newE_spec (H : Sr C w0 D ρ s w) {e : TypeId} {cs cs' : List Value} {b : Nat} {s' : St} (hc : concs ρ cs = some cs') (h : newE s e cs = some (b, s')) :
    cad (ρ ++ [(s.n, ⟨w.heap.size, 0, []⟩)]) b = some w.heap.size ∧ Sr C w0 D (ρ ++ [(s.n, ⟨w.heap.size, 0, []⟩)]) s' (w.alloc (.cells ⟨cs'⟩ e)) := by
  unfold newE at h
  cases he : Nat.ble BB e with
  | true => rw [he] at h; cases h
  | false =>
    rw [he] at h
    simp only [cond_false] at h
    split at h
    · rename_i s1 hs
      cases h
      refine ⟨?_, H.alloc (concO_mk (concs_mono _ hc) he) hs⟩
      unfold cad
      rw [BB_ble, BB_sub, cond_true, lcE_new _ H.un]; rfl
    · cases h
end
end Go.Ev

/- Memory: new rows and structs, slices that grow, copies. -/
namespace Go.Ev
open Go.Wk
set_option linter.unusedVariables false
set_option linter.unusedSimpArgs false

/-- The operation gives what v stands for and leaves memory as s' says. -/
def Vm (C : Ct) (w0 : World) (D : Nat → Prop) (ρ : Env) (w : World) (a : Act) (o : Oper) (v : Value) (s' : St) : Prop :=
  ∃ τ u w', (execOp a.eval o).run C.P w = .ok (.value u) w' ∧ conc (ρ ++ τ) v = some u ∧ Sr C w0 D (ρ ++ τ) s' w'
/-- .. gives nothing. -/
def Um (C : Ct) (w0 : World) (D : Nat → Prop) (ρ : Env) (w : World) (a : Act) (o : Oper) (s' : St) : Prop :=
  ∃ w', (execOp a.eval o).run C.P w = .ok .skip w' ∧ Sr C w0 D ρ s' w'

section
variable {C : Ct} {w0 : World} {D : Nat → Prop} {ρ : Env} {s s' : St} {w : World} {N : Nat} {fm : Fm} {a : Act} {dst : Option Tmp} {ty : TypeId} {p : String} {af : Array Edge} {g : Option (Nat × Bool)}

theorem vm_load {t : TypeId} {x : Operand} {v r : Value} (h : Fr ρ N fm a) (H : Sr C w0 D ρ s w) (hx : evE fm.t x = some v) (hb : ldE C s t v = some r) : Vm C w0 D ρ w a ⟨dst, .load t x, ty, p, af, g⟩ r s := by
  obtain ⟨v', hv, he⟩ := evE_spec h hx
  obtain ⟨u, h1, h2⟩ := ldE_run H hv hb
  refine ⟨[], u, w, ?_, by rw [List.append_nil]; exact h1, by rw [List.append_nil]; exact H⟩
  simp only [execOp, he]
  rw [Sem.run_bind, h2]; rfl

theorem um_store {t : TypeId} {x y : Operand} {v q : Value} (h : Fr ρ N fm a) (H : Sr C w0 D ρ s w) (hx : evE fm.t x = some q) (hy : evE fm.t y = some v) (hb : stE C s t v q = some s') : Um C w0 D ρ w a ⟨dst, .store t x y, ty, p, af, g⟩ s' := by
  obtain ⟨q', hq, he⟩ := evE_spec h hx
  obtain ⟨v', hv, he'⟩ := evE_spec h hy
  obtain ⟨w', h1, h2⟩ := stE_run H hq hv hb
  refine ⟨w', ?_, h2⟩
  simp only [execOp, he, he']
  rw [Sem.run_bind, h1]; rfl

def ptE : Option (Nat × St) → Option (Value × St)
  | some (b, s') => some (.pointer (some ⟨b, 0, none⟩), s')
  | none => none
theorem ptE_some {q : Option (Nat × St)} {v : Value} {s' : St} (h : ptE q = some (v, s')) : ∃ b, q = some (b, s') ∧ v = .pointer (some ⟨b, 0, none⟩) := by
  unfold ptE at h
  split at h
  · cases h; exact ⟨_, rfl, rfl⟩
  · cases h
theorem conc_pt {b c o : Nat} (h : cad ρ b = some c) : conc ρ (.pointer (some ⟨b, o, none⟩)) = some (.pointer (some ⟨c, o, none⟩)) := by
  simp only [conc, cA, h, Option.map_some]
theorem conc_sl {b c o n q q' : Nat} (h : cad ρ b = some c) (hq : ccap ρ b q = some q') (hn : n ≤ q') : conc ρ (.slice (some ⟨b, o, none⟩) n q) = some (.slice (some ⟨c, o, none⟩) n q') :=
  conc_slice.2 ⟨_, q', by simp only [cA, h, Option.map_some], hq, hn, rfl⟩

def boxE (s : St) (e : TypeId) (v : Value) : Option (Value × St) := ptE (newE s e v.cells.toList)
theorem vm_box {e : TypeId} {x : Operand} {v r : Value} (h : Fr ρ N fm a) (H : Sr C w0 D ρ s w) (hx : evE fm.t x = some v) (hb : boxE s e v = some (r, s')) : Vm C w0 D ρ w a ⟨dst, .box e x, ty, p, af, g⟩ r s' := by
  obtain ⟨v', hv, he⟩ := evE_spec h hx
  obtain ⟨b, h1, rfl⟩ := ptE_some hb
  obtain ⟨hc, H'⟩ := newE_spec H (conc_cells hv).1 h1
  refine ⟨_, _, _, ?_, conc_pt hc, H'⟩
  simp only [execOp, he, Instr.box, Sem.run_bind, run_newVar, Result.andThen_ok]
  rfl

def allE (C : Ct) (s : St) (e : TypeId) : Option (Value × St) := match C.tt.get e with
  | some ti => bif cst 8 ti.z then ptE (newE s e ti.z.cells.toList) else none
  | none => none
theorem vm_alloc {e : TypeId} {r : Value} (H : Sr C w0 D ρ s w) (hb : allE C s e = some (r, s')) : Vm C w0 D ρ w a ⟨dst, .alloc e, ty, p, af, g⟩ r s' := by
  unfold allE at hb
  cases ht : C.tt.get e with
  | none => rw [ht] at hb; cases hb
  | some ti =>
    rw [ht] at hb
    simp only at hb
    cases hc : cst 8 ti.z with
    | false => rw [hc] at hb; cases hb
    | true =>
      rw [hc, cond_true] at hb
      obtain ⟨b, h1, rfl⟩ := ptE_some hb
      obtain ⟨hc', H'⟩ := newE_spec H (conc_cells (ρ := ρ) (cst_conc hc)).1 h1
      refine ⟨_, _, _, ?_, conc_pt hc', H'⟩
      simp only [execOp, Instr.alloc, Sem.run_bind, Wk.run_zeroValue (C.okT _ _ ht), run_newVar, Result.andThen_ok]
      rfl

/-! ### Slices written out, made -/
theorem fill_CP {pl : Nat → Option (Nat × Nat)} (places : List (Nat × Nat)) (hpl : ∀ i q, places[i]? = some q → pl i = some q) : ∀ (parts : List (Nat × Value)) (cs cs' : List Value), fillC places cs parts = some cs' → Instr.fill pl ⟨cs⟩ parts = some ⟨cs'⟩
  | [], cs, cs', h => by simp only [fillC, Option.some.injEq] at h; subst h; rfl
  | (i, v) :: r, cs, cs', h => by
    have h0 := fill_C places [(i, v)] cs
    simp only [fillC] at h h0
    simp only [Instr.fill] at h0 ⊢
    cases hp : places[i]? with
    | none => simp [hp] at h
    | some q =>
      obtain ⟨off, sz⟩ := q
      simp only [hp] at h h0
      rw [hpl i _ hp]
      cases hb : (Nat.beq v.cells.size sz && Nat.ble (off + sz) cs.length) with
      | false => rw [hb] at h; simp at h
      | true =>
        rw [hb] at h h0
        simp only [cond_true] at h h0
        have h1 := h0 _ rfl
        dsimp only at h1 ⊢
        split at h1
        · cases h1
        · rename_i hn
          rw [if_neg hn]
          simp only [Option.some.injEq] at h1
          rw [h1]
          exact fill_CP places hpl r _ cs' h
def gridOf (len sz : Nat) : List (Nat × Nat) := (List.range len).map fun i => (i * sz, sz)
theorem gridOf_get {len sz i : Nat} {q : Nat × Nat} (h : (gridOf len sz)[i]? = some q) : some (i * sz, sz) = some q := by
  unfold gridOf at h
  simp only [List.getElem?_map, Option.map_eq_some_iff] at h
  obtain ⟨j, h1, rfl⟩ := h
  rw [List.getElem?_range] at h1
  · cases h1; rfl
  · exact (by simpa using (List.getElem?_eq_some_iff.1 h1).1)
theorem concs_repl {z z' : List Value} (h : concs ρ z = some z') : ∀ n, concs ρ (rep n z) = some (rep n z')
  | 0 => by simp [rep, concs_nil]
  | n + 1 => by
    have ih := concs_repl h n
    unfold rep at ih ⊢
    rw [List.replicate_succ, List.replicate_succ, List.flatten_cons, List.flatten_cons]
    exact concs_app h ih

def slcE (n c : Nat) : Option (Nat × St) → Option (Value × St)
  | some (b, s') => bif Nat.ble CC c then none else some (.slice (some ⟨b, 0, none⟩) n c, s')
  | none => none
theorem slcE_some {n c : Nat} {q : Option (Nat × St)} {v : Value} {s' : St} (h : slcE n c q = some (v, s')) : ∃ b, q = some (b, s') ∧ v = .slice (some ⟨b, 0, none⟩) n c ∧ ∀ ρ b, ccap ρ b c = some c := by
  unfold slcE at h
  split at h
  · cases hc : Nat.ble CC c with
    | true => rw [hc] at h; cases h
    | false => rw [hc] at h; cases h; exact ⟨_, rfl, rfl, fun ρ b => by simp [ccap, hc]⟩
  · cases h
def litE (C : Ct) (t : Tr Value) (s : St) (ty : TypeId) (len : Nat) (parts : Array (Nat × Operand)) : Option (Value × St) := match C.tt.get ty with
  | some ti => (match ti.k with
    | .slice e => (match C.tt.get e with
      | some te => bif Nat.beq te.z.cells.size te.sz && cst 8 te.z && Nat.ble (len * te.sz) 16777216 && (Nat.beq parts.toList.length 0 || Nat.blt 0 (len * te.sz)) then (match evEs t (parts.toList.map (·.2)) with
        | some vs => (match fillC (gridOf len te.sz) (rep len te.z.cells.toList) ((parts.toList.map (·.1)).zip vs) with
          | some cs => slcE len len (newE s e cs)
          | none => none)
        | none => none) else none
      | none => none)
    | _ => none)
  | none => none
theorem vm_lit {t : TypeId} {len : Nat} {parts : Array (Nat × Operand)} {r : Value} (h : Fr ρ N fm a) (H : Sr C w0 D ρ s w) (hb : litE C fm.t s t len parts = some (r, s')) : Vm C w0 D ρ w a ⟨dst, .buildSlice t len parts, ty, p, af, g⟩ r s' := by
  unfold litE at hb
  cases ht : C.tt.get t with
  | none => rw [ht] at hb; cases hb
  | some ti =>
    rw [ht] at hb
    have hti := C.okT _ _ ht
    obtain ⟨kk, z0, sz0, by0⟩ := ti
    cases kk with
    | slice e =>
      simp only at hb
      cases hte : C.tt.get e with
      | none => rw [hte] at hb; cases hb
      | some te =>
        rw [hte] at hb
        simp only at hb
        cases hq : (Nat.beq te.z.cells.size te.sz && cst 8 te.z && Nat.ble (len * te.sz) 16777216 && (Nat.beq parts.toList.length 0 || Nat.blt 0 (len * te.sz))) with
        | false => rw [hq] at hb; cases hb
        | true =>
          rw [hq, cond_true] at hb
          simp only [Bool.and_eq_true, Bool.or_eq_true] at hq
          obtain ⟨⟨⟨hz, hcz⟩, hsm⟩, hpos⟩ := hq
          have hz' := Nat.eq_of_beq_eq_true hz
          have hsm' := Nat.le_of_ble_eq_true hsm
          split at hb
          · rename_i vs hvs
            split at hb
            · rename_i cs hf
              obtain ⟨b, h1, rfl, hcap⟩ := slcE_some hb
              have e1 := evEs_spec h hvs
              obtain ⟨cs', hcs, hf'⟩ := concs_fill e1 (concs_repl (conc_cells (ρ := ρ) (cst_conc hcz)).1 len) hf
              obtain ⟨hc', H'⟩ := newE_spec H hcs h1
              refine ⟨_, _, _, ?_, conc_sl hc' (hcap _ _) (Nat.le_refl _), H'⟩
              have hp : (parts.map fun (i, x) => (i, a.eval x)).toList = (parts.toList.map (·.1)).zip ((parts.toList.map (·.2)).map a.eval) := by
                simp only [Array.toList_map, List.map_map]
                generalize parts.toList = l
                induction l with
                | nil => rfl
                | cons q l ih => simp only [List.map_cons, List.zip_cons_cons, ih]; rfl
              have hfill := fill_CP (pl := fun i => some (i * te.sz, te.sz)) (gridOf len te.sz) (fun i q hq => gridOf_get hq) _ _ _ hf'
              have hrun : (Instr.buildSlice t len (parts.map fun (i, x) => (i, a.eval x))).run C.P w = .ok (.slice (some ⟨w.heap.size, 0, none⟩) len len) (w.alloc (.cells ⟨cs'⟩ e)) := by
                by_cases h0 : len * te.sz = 0
                · have hp0 : parts.toList = [] := by
                    rcases hpos with h2 | h2
                    · exact List.eq_nil_of_length_eq_zero (Nat.eq_of_beq_eq_true h2)
                    · have : 0 < len * te.sz := Nat.lt_of_lt_of_le (Nat.lt_succ_self _) (Nat.le_of_ble_eq_true h2)
                      omega
                  have hrep : rep len te.z.cells.toList = [] := by
                    apply List.eq_nil_of_length_eq_zero
                    unfold rep
                    rw [List.length_flatten]
                    simp [hz', h0]
                  have hcs0 : cs' = [] := by
                    rw [hp0] at hf'
                    simp only [List.map_nil, List.zip_nil_left, fillC, Option.some.injEq] at hf'
                    rw [← hf', hrep]
                  subst hcs0
                  simp only [Instr.buildSlice, Sem.run_bind, run_underlying (tk_slice hti), Result.andThen_ok, Wk.run_sizeOf (C.okT _ _ hte), h0, run_pure']
                  rw [if_neg (by decide), if_pos trivial]
                  simp only [Sem.run_bind, run_pure', Result.andThen_ok, hp, hp0, List.map_nil, List.zip_nil_left, Instr.fill]
                  have e0 : Array.map (fun x => (#[] : Array Value)[x % (#[] : Array Value).size]!) (Array.range 0) = ⟨[]⟩ := by apply Array.ext'; simp
                  rw [e0]; rfl
                · refine run_buildSlice hti (C.okT _ _ hte) len _ ⟨cs'⟩ ?_ (by simpa using hsm') h0 w
                  rw [hp]
                  have e3 : (Array.range (len * te.sz)).map (fun i => te.z.cells[i % te.z.cells.size]!) = ⟨rep len te.z.cells.toList⟩ := by
                    apply Array.ext'
                    show _ = rep len te.z.cells.toList
                    rw [← zeros_rep, hz']
                  rw [e3]
                  exact hfill
              simp only [execOp]
              rw [Sem.run_bind]
              have e2 : (parts.map fun (x : Nat × Operand) => (x.1, a.eval x.2)) = (parts.map fun (i, x) => (i, a.eval x)) := rfl
              rw [hrun]; rfl
            · cases hb
          · cases hb
    | _ => cases hb

def mksE (C : Ct) (s : St) (ty : TypeId) : Value → Value → Option (Value × St)
  | .int _ n, .int _ c => (match C.tt.get ty with
    | some ti => (match ti.k with
      | .slice e => (match C.tt.get e with
        | some te => bif Nat.beq te.z.cells.size te.sz && cst 8 te.z && decide (0 ≤ n) && decide (n ≤ c) && Nat.ble (te.by' * c.toNat) 281474976710656 && Nat.ble c.toNat 4294967296 then slcE n.toNat c.toNat (newE s e (rep c.toNat te.z.cells.toList)) else none
        | none => none)
      | _ => none)
    | none => none)
  | _, _ => none
theorem vm_mks {t : TypeId} {x y : Operand} {v q r : Value} (h : Fr ρ N fm a) (H : Sr C w0 D ρ s w) (hx : evE fm.t x = some v) (hy : evE fm.t y = some q) (hb : mksE C s t v q = some (r, s')) : Vm C w0 D ρ w a ⟨dst, .makeSlice t x y, ty, p, af, g⟩ r s' := by
  obtain ⟨v', hv, he⟩ := evE_spec h hx
  obtain ⟨q', hq, he'⟩ := evE_spec h hy
  unfold mksE at hb
  split at hb
  · rename_i k1 n k2 c
    simp only [conc, Option.some.injEq] at hv hq; subst hv; subst hq
    cases ht : C.tt.get t with
    | none => rw [ht] at hb; cases hb
    | some ti =>
      rw [ht] at hb
      have hti := C.okT _ _ ht
      obtain ⟨kk, z0, sz0, by0⟩ := ti
      cases kk with
      | slice e =>
        simp only at hb
        cases hte : C.tt.get e with
        | none => rw [hte] at hb; cases hb
        | some te =>
          rw [hte] at hb
          simp only at hb
          cases hq : (Nat.beq te.z.cells.size te.sz && cst 8 te.z && decide (0 ≤ n) && decide (n ≤ c) && Nat.ble (te.by' * c.toNat) 281474976710656 && Nat.ble c.toNat 4294967296) with
          | false => rw [hq] at hb; cases hb
          | true =>
            rw [hq, cond_true] at hb
            simp only [Bool.and_eq_true, decide_eq_true_eq] at hq
            obtain ⟨⟨⟨⟨⟨hz, hcz⟩, h0⟩, hnc⟩, hby⟩, hc32⟩ := hq
            have hz' := Nat.eq_of_beq_eq_true hz
            obtain ⟨b, h1, rfl, hcap⟩ := slcE_some hb
            obtain ⟨hc', H'⟩ := newE_spec H (concs_repl (conc_cells (ρ := ρ) (cst_conc hcz)).1 c.toNat) h1
            refine ⟨_, _, _, ?_, conc_sl hc' (hcap _ _) (by omega), H'⟩
            have hr := run_mk (P := C.P) hti (C.okT _ _ hte) k1 k2 n.toNat c.toNat (by omega) (Nat.le_of_ble_eq_true hby) (by have := Nat.le_of_ble_eq_true hc32; omega) w
            have e1 : madeCells te.z.cells (c.toNat * te.sz) = ⟨rep c.toNat te.z.cells.toList⟩ := by
              apply Array.ext'
              show (madeCells te.z.cells (c.toNat * te.sz)).toList = rep c.toNat te.z.cells.toList
              rw [← zeros_rep, hz']; simp only [madeCells, hz']
            rw [e1, Int.toNat_of_nonneg h0, Int.toNat_of_nonneg (Int.le_trans h0 hnc)] at hr
            simp only [execOp, he, he']
            rw [Sem.run_bind, hr]; rfl
      | _ => cases hb
  · cases hb
/-- An array, out of its parts. -/
def abE (C : Ct) (t : Tr Value) (ty : TypeId) (parts : Array (Nat × Operand)) : Option Value := match C.tt.get ty with
  | some ti => (match ti.k with
    | .array n e => (match C.tt.get e, evEs t (parts.toList.map (·.2)) with
      | some te, some vs => bif cst 8 ti.z then (fillC (gridOf n te.sz) ti.z.cells.toList ((parts.toList.map (·.1)).zip vs)).bind fun cs => some (.agg ⟨cs⟩) else none
      | _, _ => none)
    | _ => none)
  | none => none
theorem gv_ab {C : Ct} {ρ : Env} {N : Nat} {fm : Fm} {a : Act} {dst : Option Tmp} {ty : TypeId} {p : String} {af : Array Edge} {g : Option (Nat × Bool)} {t : TypeId} {parts : Array (Nat × Operand)} {r : Value} (h : Fr ρ N fm a)
    (hb : abE C fm.t t parts = some r) : Gv C ρ a ⟨dst, .build t parts, ty, p, af, g⟩ r := by
  unfold abE at hb
  cases ht : C.tt.get t with
  | none => rw [ht] at hb; cases hb
  | some ti =>
    rw [ht] at hb
    have hti := C.okT _ _ ht
    obtain ⟨kk, z, sz, by'⟩ := ti
    cases kk with
    | array n e =>
      simp only at hb
      split at hb
      · rename_i te vs h1 h2
        cases hc : cst 8 z with
        | false => rw [hc] at hb; cases hb
        | true =>
          rw [hc, cond_true] at hb
          obtain ⟨cs, hf, hb⟩ := Option.bind_eq_some_iff.1 hb
          cases hb
          have e1 := evEs_spec h h2
          have e2 := (conc_cells (ρ := ρ) (cst_conc hc)).1
          obtain ⟨cs', hcs, hf'⟩ := concs_fill e1 e2 hf
          have hfill := fill_CP (pl := fun i => some (i * te.sz, te.sz)) (gridOf n te.sz) (fun i q hq => gridOf_get hq) _ _ _ hf'
          refine ⟨.agg ⟨cs'⟩, conc_agg hcs, fun w => ?_⟩
          have hparts : (parts.map fun (i, x) => (i, a.eval x)).toList = (parts.toList.map (·.1)).zip ((parts.toList.map (·.2)).map a.eval) := by
            simp only [Array.toList_map, List.map_map]
            generalize parts.toList = l
            induction l with
            | nil => rfl
            | cons q l ih => simp only [List.map_cons, List.zip_cons_cons, ih]; rfl
          have hu : C.P.underlying t = some (.array n e) := by
            obtain ⟨dd, i, hd, _, hk, _⟩ := tiOf_spec hti
            cases dd <;> simp [tkOf] at hk
            rw [← hk.1, ← hk.2]; exact hd
          have hr : (Instr.build t (parts.map fun (i, x) => (i, a.eval x))).run C.P w = .ok (.agg ⟨cs'⟩) w := by
            simp only [Instr.build, Sem.run_bind, Wk.run_zeroValue hti, run_underlying hu, Wk.run_sizeOf (C.okT _ _ h1), Result.andThen_ok]
            rw [hparts]
            have e : (⟨z.cells.toList⟩ : Array Value) = z.cells := rfl
            rw [e] at hfill
            rw [hfill]
            simp only [run_pure']
          simp only [execOp]
          rw [Sem.run_bind]
          have e2 : (parts.map fun (x : Nat × Operand) => (x.1, a.eval x.2)) = (parts.map fun (i, x) => (i, a.eval x)) := rfl
          rw [hr]; rfl
      · cases hb
    | _ => cases hb
end
end Go.Ev
