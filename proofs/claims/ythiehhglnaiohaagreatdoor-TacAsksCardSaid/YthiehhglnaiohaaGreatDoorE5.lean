/-
  What needs no memory, told by one function: the function.
-/
import Derived.Test.YthiehhglnaiohaaGreatDoorE4
import Derived.Test.YthiehhglnaiohaaGreatDoorWk10
namespace Go.Ev
open Go.Wk
set_option linter.unusedVariables false
set_option linter.unusedSimpArgs false

section
variable {C : Ct} {ρ : Env} {N : Nat} {fm : Fm} {a : Act} {dst : Option Tmp} {ty : TypeId} {p : String} {af : Array Edge} {g : Option (Nat × Bool)}

theorem gv_move {x : Operand} {v : Value} (h : Fr ρ N fm a) (hx : evE fm.t x = some v) : Gv C ρ a ⟨dst, .move x, ty, p, af, g⟩ v := by
  obtain ⟨u, hu, he⟩ := evE_spec h hx
  exact ⟨u, hu, fun w => by show Result.ok (Next.value (a.eval x)) w = _; rw [he]⟩
theorem gv_assign {x : Operand} {v : Value} (h : Fr ρ N fm a) (hx : evE fm.t x = some v) : Gv C ρ a ⟨dst, .assign x, ty, p, af, g⟩ v := by
  obtain ⟨u, hu, he⟩ := evE_spec h hx
  exact ⟨u, hu, fun w => by show Result.ok (Next.value (a.eval x)) w = _; rw [he]⟩

def nilE : Value → Option Value
  | .pointer (some b) => some (.pointer (some b))
  | .func (.func f) l m => some (.func (.func f) l m)
  | .func (.yield f) l m => some (.func (.yield f) l m)
  | .iface u v => some (.iface u v)
  | .map r => some (.map r)
  | _ => none
theorem gv_nil {x : Operand} {v v' : Value} (h : Fr ρ N fm a) (hx : evE fm.t x = some v) (hn : nilE v = some v') : Gv C ρ a ⟨dst, .nilCheck x, ty, p, af, g⟩ v' := by
  obtain ⟨u, hu, he⟩ := evE_spec h hx
  unfold nilE at hn
  split at hn <;> cases hn
  · refine ⟨u, hu, fun w => ?_⟩
    simp only [conc, Option.map_eq_some_iff] at hu
    obtain ⟨b, _, rfl⟩ := hu
    simp only [execOp, he]; rfl
  · refine ⟨u, hu, fun w => ?_⟩
    simp only [conc, cfn] at hu
    split at hu
    · rename_i h1 _ _; cases h1; cases hu; simp only [execOp, he]; rfl
    · cases hu
  · refine ⟨u, hu, fun w => ?_⟩
    simp only [conc, cfn] at hu
    split at hu
    · rename_i h1 _ _
      simp only [Option.map_eq_some_iff] at h1
      obtain ⟨q, _, rfl⟩ := h1
      cases hu; simp only [execOp, he]; rfl
    · cases hu
  · refine ⟨u, hu, fun w => ?_⟩
    simp only [conc, Option.map_eq_some_iff] at hu
    obtain ⟨b, _, rfl⟩ := hu
    simp only [execOp, he]; rfl
  · refine ⟨u, hu, fun w => ?_⟩
    rename_i r
    cases r with
    | none => simp only [conc, Option.some.injEq] at hu; subst hu; simp only [execOp, he]; rfl
    | some r =>
      simp only [conc, Option.map_eq_some_iff] at hu
      obtain ⟨b, _, rfl⟩ := hu
      simp only [execOp, he]; rfl

def pickE (t : Tr Value) (x y : Operand) : Value → Option Value
  | .bool true => evE t x
  | .bool false => evE t y
  | _ => none
theorem gv_pick {c x y : Operand} {b v : Value} (h : Fr ρ N fm a) (hc : evE fm.t c = some b) (hp : pickE fm.t x y b = some v) : Gv C ρ a ⟨dst, .pick c x y, ty, p, af, g⟩ v := by
  obtain ⟨u, hu, he⟩ := evE_spec h hc
  unfold pickE at hp
  split at hp
  · simp [conc] at hu; subst hu
    obtain ⟨u, hu, he'⟩ := evE_spec h hp
    exact ⟨u, hu, fun w => by simp only [execOp, he, asBool]; show Result.ok (Next.value (a.eval x)) w = _; rw [he']⟩
  · simp [conc] at hu; subst hu
    obtain ⟨u, hu, he'⟩ := evE_spec h hp
    exact ⟨u, hu, fun w => by simp only [execOp, he, asBool]; show Result.ok (Next.value (a.eval y)) w = _; rw [he']⟩
  · cases hp

theorem gv_bin {op : BinOp} {t yt : TypeId} {x y : Operand} {v w r : Value} (h : Fr ρ N fm a) (hx : evE fm.t x = some v) (hy : evE fm.t y = some w) (hb : binE C op t x y v w = some r) :
    Gv C ρ a ⟨dst, .binOp op t x y yt, ty, p, af, g⟩ r := by
  obtain ⟨v', hv, he⟩ := evE_spec h hx
  obtain ⟨w', hw, he'⟩ := evE_spec h hy
  obtain ⟨h1, h2⟩ := binE_run hv hw hb
  refine ⟨r, h1, fun W => ?_⟩
  simp only [execOp, he, he']
  have := h2 W
  rw [Sem.run_bind, this]; rfl

def notE : Value → Option Value
  | .bool b => some (.bool !b)
  | _ => none
theorem gv_not {xt : TypeId} {x : Operand} {v r : Value} (h : Fr ρ N fm a) (hx : evE fm.t x = some v) (hb : notE v = some r) : Gv C ρ a ⟨dst, .unOp .not xt x, ty, p, af, g⟩ r := by
  obtain ⟨v', hv, he⟩ := evE_spec h hx
  unfold notE at hb
  split at hb <;> cases hb
  simp [conc] at hv; subst hv
  exact ⟨_, by first | exact conc_int _ _ _ | exact conc_str _ _ | exact conc_bool _ _, fun w => by simp only [execOp, he]; rfl⟩

def extE : Value → Nat → Option Value
  | .tuple vs, i => vs.toList[i]?
  | _, _ => none
theorem gv_ext {x : Operand} {i : Nat} {v r : Value} (h : Fr ρ N fm a) (hx : evE fm.t x = some v) (hb : extE v i = some r) : Gv C ρ a ⟨dst, .extract x i, ty, p, af, g⟩ r := by
  obtain ⟨v', hv, he⟩ := evE_spec h hx
  unfold extE at hb
  split at hb
  · simp only [conc, Option.map_eq_some_iff] at hv
    obtain ⟨us, h1, rfl⟩ := hv
    obtain ⟨u, h2, h3⟩ := concs_get (concA_iff.1 h1) hb
    refine ⟨u, h3, fun w => ?_⟩
    have e : us[i]? = some u := by simpa using h2
    simp [execOp, he, Instr.extract, e]
  · cases hb

def convE (C : Ct) (src dst : TypeId) : Value → Option Value
  | .int k n => match C.tt.get dst with
    | some ti => match ti.k with
      | .int k' => (match C.tt.get src with | some _ => some (.int k' (k'.wrap n)) | none => none)
      | _ => none
    | none => none
  | _ => none
theorem gv_conv {src dst' : TypeId} {x : Operand} {v r : Value} (h : Fr ρ N fm a) (hx : evE fm.t x = some v) (hb : convE C src dst' v = some r) : Gv C ρ a ⟨dst, .convert src dst' x, ty, p, af, g⟩ r := by
  obtain ⟨v', hv, he⟩ := evE_spec h hx
  unfold convE at hb
  split at hb
  · cases ht : C.tt.get dst' with
    | none => rw [ht] at hb; cases hb
    | some ti =>
      rw [ht] at hb
      have hti := C.okT _ _ ht
      obtain ⟨k, z, sz, by'⟩ := ti
      cases k with
      | int k' =>
        simp only at hb
        cases hs : C.tt.get src with
        | none => rw [hs] at hb; cases hb
        | some si =>
          rw [hs] at hb
          cases hb
          have hu := tk_int hti
          obtain ⟨sd, _, hu', _⟩ := tiOf_spec (C.okT _ _ hs)
          simp only [conc, Option.some.injEq] at hv; subst hv
          refine ⟨_, by first | exact conc_int _ _ _ | exact conc_str _ _ | exact conc_bool _ _ | exact conc_sn _ _ _ | exact conc_pn _, fun w => ?_⟩
          simp only [execOp, he]
          simp [convert, run_underlying hu, run_underlying hu', Conv.intToInt]
      | _ => cases hb
  · cases hb

def mkifE (C : Ct) (t : TypeId) (v : Value) : Option Value := match C.tt.get t with
  | some ti => match ti.k with
    | .iface => none
    | _ => some (.iface t v)
  | none => none
theorem gv_mkif {t : TypeId} {x : Operand} {v r : Value} (h : Fr ρ N fm a) (hx : evE fm.t x = some v) (hb : mkifE C t v = some r) : Gv C ρ a ⟨dst, .makeInterface t x, ty, p, af, g⟩ r := by
  obtain ⟨v', hv, he⟩ := evE_spec h hx
  unfold mkifE at hb
  cases ht : C.tt.get t with
  | none => rw [ht] at hb; cases hb
  | some ti =>
    rw [ht] at hb
    obtain ⟨d, i, hd, _, hk, _⟩ := tiOf_spec (C.okT _ _ ht)
    obtain ⟨k, z, sz, by'⟩ := ti
    simp only at hk
    have hne : ∀ ms, d ≠ .interface ms := by
      rintro ms rfl
      simp [tkOf] at hk; subst hk; simp at hb
    have hr : r = .iface t v := by cases k <;> first | (cases hb; rfl) | cases hb
    subst hr
    refine ⟨.iface t v', by simp [conc, hv], fun w => ?_⟩
    simp only [execOp, he, Instr.makeInterface]
    cases d <;> first | exact absurd rfl (hne _) | simp [run_underlying hd]

def mkfnE (t : Tr Value) (fn : Fn) (xs ys : Array Operand) : Option Value := match fn with
  | .yield _ => none
  | _ => match evEs t xs.toList, evEs t ys.toList with
    | some vs, some us => some (.func fn ⟨vs⟩ ⟨us⟩)
    | _, _ => none
theorem gv_mkfn {fn : Fn} {xs ys : Array Operand} {r : Value} (h : Fr ρ N fm a) (hb : mkfnE fm.t fn xs ys = some r) : Gv C ρ a ⟨dst, .makeFunc fn xs ys, ty, p, af, g⟩ r := by
  have key : (match evEs fm.t xs.toList, evEs fm.t ys.toList with | some vs, some us => some (Value.func fn ⟨vs⟩ ⟨us⟩) | _, _ => none) = some r → cfn ρ fn = some fn → Gv C ρ a ⟨dst, .makeFunc fn xs ys, ty, p, af, g⟩ r := by
    intro hb hf
    split at hb
    · rename_i vs us h1 h2
      cases hb
      have e1 := evEs_spec h h1
      have e2 := evEs_spec h h2
      refine ⟨.func fn ⟨xs.toList.map a.eval⟩ ⟨ys.toList.map a.eval⟩, conc_func hf e1 e2, fun w => ?_⟩
      simp only [execOp, Instr.makeFunc]
      have e3 : xs.map a.eval = ⟨xs.toList.map a.eval⟩ := by apply Array.ext'; simp
      have e4 : ys.map a.eval = ⟨ys.toList.map a.eval⟩ := by apply Array.ext'; simp
      rw [e3, e4]; rfl
    · cases hb
  cases fn <;> simp only [mkfnE] at hb <;> first | cases hb | exact key hb rfl

def fldE (C : Ct) (st : TypeId) (i : Nat) : Value → Option Value
  | .pointer (some ⟨b, o, none⟩) => match C.tt.get st with
    | some ti => match ti.k with
      | .struct fs => (match fs[i]? with
        | some (off, ft) => (match C.tt.get ft with
          | some tf => bif Nat.beq tf.sz 0 then none else some (.pointer (some ⟨b, o + off, none⟩))
          | none => none)
        | none => none)
      | _ => none
    | none => none
  | _ => none
theorem gv_fld {st : TypeId} {x : Operand} {i : Nat} {v r : Value} (h : Fr ρ N fm a) (hx : evE fm.t x = some v) (hb : fldE C st i v = some r) : Gv C ρ a ⟨dst, .fieldAddr st x i, ty, p, af, g⟩ r := by
  obtain ⟨v', hv, he⟩ := evE_spec h hx
  unfold fldE at hb
  split at hb
  · rename_i b o
    cases ht : C.tt.get st with
    | none => rw [ht] at hb; cases hb
    | some ti =>
      rw [ht] at hb
      obtain ⟨k, z, sz, by'⟩ := ti
      cases k with
      | struct fs =>
        simp only at hb
        cases hf : fs[i]? with
        | none => rw [hf] at hb; cases hb
        | some q =>
          obtain ⟨off, ft⟩ := q
          rw [hf] at hb
          simp only at hb
          cases htf : C.tt.get ft with
          | none => rw [htf] at hb; cases hb
          | some tf =>
            rw [htf] at hb
            simp only at hb
            cases hz : Nat.beq tf.sz 0 with
            | true => rw [hz] at hb; cases hb
            | false =>
              rw [hz] at hb; cases hb
              simp only [conc, cA, Option.map_eq_some_iff] at hv
              obtain ⟨_, ⟨b', h1, rfl⟩, rfl⟩ := hv
              refine Gv.of (d := 0) (u := .pointer (some ⟨b', o + off, none⟩)) (xs := [x]) (by simp [conc, cA, h1]) ?_
              exact p_fld (X := C.X) (b := b') (o := o) (by rw [ev_mem (List.mem_singleton_self x), he]) (C.okL _ _ ht) hf (C.okL _ _ htf) hz
      | _ => cases hb
  · cases hb

def fieldE (C : Ct) (st : TypeId) (i : Nat) : Value → Option Value
  | .agg cs => match C.tt.get st with
    | some ti => match ti.k with
      | .struct fs => (match fs[i]? with
        | some (off, ft) => partE C ft cs.toList off
        | none => none)
      | _ => none
    | none => none
  | _ => none
theorem gv_field {st : TypeId} {x : Operand} {i : Nat} {v r : Value} (h : Fr ρ N fm a) (hx : evE fm.t x = some v) (hb : fieldE C st i v = some r) : Gv C ρ a ⟨dst, .field st x i, ty, p, af, g⟩ r := by
  obtain ⟨v', hv, he⟩ := evE_spec h hx
  unfold fieldE at hb
  split at hb
  · cases ht : C.tt.get st with
    | none => rw [ht] at hb; cases hb
    | some ti =>
      rw [ht] at hb
      have hti := C.okT _ _ ht
      obtain ⟨k, z, sz, by'⟩ := ti
      cases k with
      | struct fs =>
        simp only at hb
        obtain ⟨fl, hu, hfl⟩ := tk_struct hti
        cases hf : fs[i]? with
        | none => rw [hf] at hb; cases hb
        | some q =>
          obtain ⟨off, ft⟩ := q
          rw [hf] at hb
          simp only at hb
          simp only [conc, Option.map_eq_some_iff] at hv
          obtain ⟨us, h1, rfl⟩ := hv
          obtain ⟨u, h2, h3⟩ := partE_run (concA_iff.1 h1) hb
          have hfi : ∃ f, fl[i]? = some f ∧ f.offset = off ∧ f.type = ft := by
            rw [← hfl] at hf
            simp only [List.getElem?_map, Option.map_eq_some_iff, Prod.mk.injEq] at hf
            obtain ⟨f, hf1, hf2, hf3⟩ := hf
            exact ⟨f, by simpa using hf1, hf2, hf3⟩
          obtain ⟨f, hf1, rfl, rfl⟩ := hfi
          refine ⟨u, h2, fun w => ?_⟩
          have h4 := h3 w
          simp only [execOp, he]
          simp only [Instr.field, Sem.run_bind, run_underlying hu, Result.andThen_ok, hf1, asAgg, Sem.run_pure]
          rw [h4]; rfl
      | _ => cases hb
  · cases hb

def ixaE (C : Ct) (t : TypeId) : Value → Value → Option Value
  | .slice (some ⟨b, o, none⟩) n c, .int k i => match C.tt.get t with
    | some ti => match ti.k with
      | .slice e => (match C.tt.get e with
        | some te => bif decide (0 ≤ i) && decide (i < n) then some (.pointer (some ⟨b, o + i.toNat * te.sz, none⟩)) else none
        | none => none)
      | _ => none
    | none => none
  | .pointer (some ⟨b, o, none⟩), .int k i => match C.tt.get t with
    | some ti => match ti.k with
      | .array n e => (match C.tt.get e with
        | some te => bif decide (0 ≤ i) && decide (i < n) then some (.pointer (some ⟨b, o + i.toNat * te.sz, none⟩)) else none
        | none => none)
      | _ => none
    | none => none
  | _, _ => none
theorem tk_array {P : Program} {t e : TypeId} {n : Nat} {z : Value} {s b : Nat} (h : tiOf P t = some ⟨.array n e, z, s, b⟩) : P.underlying t = some (.array n e) := by
  obtain ⟨d, i, hd, _, hk, _⟩ := tiOf_spec h
  cases d <;> simp [tkOf] at hk
  obtain ⟨rfl, rfl⟩ := hk; exact hd
theorem gv_ixa {t : TypeId} {x y : Operand} {v i r : Value} (h : Fr ρ N fm a) (hx : evE fm.t x = some v) (hy : evE fm.t y = some i) (hb : ixaE C t v i = some r) : Gv C ρ a ⟨dst, .indexAddr t x y, ty, p, af, g⟩ r := by
  obtain ⟨v', hv, he⟩ := evE_spec h hx
  obtain ⟨i', hi, he'⟩ := evE_spec h hy
  unfold ixaE at hb
  split at hb
  · rename_i b o n c k i
    simp only [conc, Option.some.injEq] at hi; subst hi
    obtain ⟨a', c', h1, h2, h3, rfl⟩ := conc_slice.1 hv
    simp only [cA, Option.map_eq_some_iff] at h1
    obtain ⟨b', h1, rfl⟩ := h1
    cases ht : C.tt.get t with
    | none => rw [ht] at hb; cases hb
    | some ti =>
      rw [ht] at hb
      obtain ⟨kk, z, sz, by'⟩ := ti
      cases kk with
      | slice e =>
        simp only at hb
        cases hte : C.tt.get e with
        | none => rw [hte] at hb; cases hb
        | some te =>
          rw [hte] at hb
          simp only at hb
          cases hbd : (decide (0 ≤ i) && decide (i < n)) with
          | false => rw [hbd] at hb; cases hb
          | true =>
            rw [hbd] at hb; cases hb
            simp at hbd
            refine Gv.of (d := 0) (u := .pointer (some ⟨b', o + i.toNat * te.sz, none⟩)) (xs := [x, y]) (by simp [conc, cA, h1]) ?_
            exact p_ix (X := C.X) (by rw [ev_mem (x := x) (by simp), he]) (by rw [ev_mem (x := y) (by simp), he']) (C.okL _ _ ht) (C.okL _ _ hte) hbd.1 hbd.2
      | _ => cases hb
  · rename_i b o k i
    simp only [conc, Option.some.injEq] at hi; subst hi
    simp only [conc, cA, Option.map_eq_some_iff] at hv
    obtain ⟨_, ⟨b', h1, rfl⟩, rfl⟩ := hv
    cases ht : C.tt.get t with
    | none => rw [ht] at hb; cases hb
    | some ti =>
      rw [ht] at hb
      have hti := C.okT _ _ ht
      obtain ⟨kk, z, sz, by'⟩ := ti
      cases kk with
      | array n e =>
        simp only at hb
        cases hte : C.tt.get e with
        | none => rw [hte] at hb; cases hb
        | some te =>
          rw [hte] at hb
          simp only at hb
          cases hbd : (decide (0 ≤ i) && decide (i < n)) with
          | false => rw [hbd] at hb; cases hb
          | true =>
            rw [hbd] at hb; cases hb
            simp at hbd
            refine ⟨.pointer (some ⟨b', o + i.toNat * te.sz, none⟩), by simp [conc, cA, h1], fun w => ?_⟩
            simp only [execOp, he, he']
            have hu := tk_array hti
            simp [Instr.indexAt, asIntOf, run_underlying hu, Instr.sureAddr, Wk.run_sizeOf (C.okT _ _ hte), hbd.1, hbd.2, addr_add]
      | _ => cases hb
  · cases hb

def indE (C : Ct) (t : TypeId) : Value → Value → Option Value
  | .string s, .int k i => match C.tt.get t with
    | some ti => match ti.k with
      | .string => bif decide (0 ≤ i) then (match s.data.toList[i.toNat]? with | some b => some (.int .u8 b.toNat) | none => none) else none
      | _ => none
    | none => none
  | .agg cs, .int k i => match C.tt.get t with
    | some ti => match ti.k with
      | .array n e => (match C.tt.get e with
        | some te => bif decide (0 ≤ i) && decide (i < n) then partE C e cs.toList (i.toNat * te.sz) else none
        | none => none)
      | _ => none
    | none => none
  | _, _ => none
theorem gv_ind {t : TypeId} {x y : Operand} {v i r : Value} (h : Fr ρ N fm a) (hx : evE fm.t x = some v) (hy : evE fm.t y = some i) (hb : indE C t v i = some r) : Gv C ρ a ⟨dst, .index t x y, ty, p, af, g⟩ r := by
  obtain ⟨v', hv, he⟩ := evE_spec h hx
  obtain ⟨i', hi, he'⟩ := evE_spec h hy
  unfold indE at hb
  split at hb
  · rename_i s k i
    simp only [conc, Option.some.injEq] at hi hv; subst hi; subst hv
    cases ht : C.tt.get t with
    | none => rw [ht] at hb; cases hb
    | some ti =>
      rw [ht] at hb
      have hti := C.okT _ _ ht
      obtain ⟨kk, z, sz, by'⟩ := ti
      cases kk with
      | string =>
        simp only at hb
        have hu := tk_string hti
        cases h0 : decide (0 ≤ i) with
        | false => rw [h0] at hb; cases hb
        | true =>
          rw [h0] at hb
          simp only [cond_true] at hb
          simp only [decide_eq_true_eq] at h0
          cases hs : s.data.toList[i.toNat]? with
          | none => rw [hs] at hb; cases hb
          | some b =>
            rw [hs] at hb; cases hb
            refine ⟨_, by first | exact conc_int _ _ _ | exact conc_str _ _ | exact conc_bool _ _ | exact conc_sn _ _ _ | exact conc_pn _, fun w => ?_⟩
            have hlt : i.toNat < s.size := by have := (List.getElem?_eq_some_iff.1 hs).1; simpa using this
            have e : s[i.toNat]? = some b := by
              rw [ByteArray.getElem?_lt' s _ hlt]
              have := (List.getElem?_eq_some_iff.1 hs).2
              rw [← this]; rfl
            simp only [execOp, he, he']
            simp [Instr.index, asIntOf, run_underlying hu, h0, e]
      | _ => cases hb
  · rename_i cs k i
    simp only [conc, Option.some.injEq] at hi; subst hi
    simp only [conc, Option.map_eq_some_iff] at hv
    obtain ⟨us, h1, rfl⟩ := hv
    cases ht : C.tt.get t with
    | none => rw [ht] at hb; cases hb
    | some ti =>
      rw [ht] at hb
      have hti := C.okT _ _ ht
      obtain ⟨kk, z, sz, by'⟩ := ti
      cases kk with
      | array n e =>
        simp only at hb
        have hu := tk_array hti
        cases hte : C.tt.get e with
        | none => rw [hte] at hb; cases hb
        | some te =>
          rw [hte] at hb
          simp only at hb
          cases hbd : (decide (0 ≤ i) && decide (i < n)) with
          | false => rw [hbd] at hb; cases hb
          | true =>
            rw [hbd] at hb
            simp only [cond_true] at hb
            simp at hbd
            obtain ⟨u, h2, h3⟩ := partE_run (concA_iff.1 h1) hb
            refine ⟨u, h2, fun w => ?_⟩
            have h4 := h3 w
            simp only [execOp, he, he']
            have e5 : (⟨us.toList⟩ : Array Value) = us := rfl
            rw [e5] at h4
            simp only [Instr.index, Sem.run_bind, asIntOf, Sem.run_pure, Result.andThen_ok, run_underlying hu, hbd.1, hbd.2, and_self, if_true, Wk.run_sizeOf (C.okT _ _ hte)]
            rw [h4]; rfl
      | _ => cases hb
  · cases hb

def lenE (C : Ct) (t : TypeId) : Value → Option Value
  | .slice _ n _ => match C.tt.get t with
    | some ti => (match ti.k with | .slice _ => some (.int .i64 n) | _ => none)
    | none => none
  | .string s => match C.tt.get t with
    | some ti => (match ti.k with | .string => some (.int .i64 s.data.toList.length) | _ => none)
    | none => none
  | .map none => match C.tt.get t with
    | some ti => (match ti.k with | .map _ _ => some (.int .i64 0) | _ => none)
    | none => none
  | _ => none
theorem gv_len {t : TypeId} {x : Operand} {v r : Value} (h : Fr ρ N fm a) (hx : evE fm.t x = some v) (hb : lenE C t v = some r) : Gv C ρ a ⟨dst, .call ⟨.builtin .len, #[x], #[t]⟩, ty, p, af, g⟩ r := by
  obtain ⟨v', hv, he⟩ := evE_spec h hx
  unfold lenE at hb
  split at hb
  · rename_i ad n c
    cases ht : C.tt.get t with
    | none => rw [ht] at hb; cases hb
    | some ti =>
      rw [ht] at hb
      have hti := C.okT _ _ ht
      obtain ⟨kk, z, sz, by'⟩ := ti
      cases kk with
      | slice e =>
        cases hb
        have hu := tk_slice hti
        have : ∃ A c', v' = .slice A n c' := by
          cases ad with
          | none => simp [conc] at hv; exact ⟨_, _, hv.symm⟩
          | some ad => obtain ⟨a', c', _, _, _, rfl⟩ := conc_slice.1 hv; exact ⟨_, _, rfl⟩
        obtain ⟨A, c', rfl⟩ := this
        refine ⟨_, by first | exact conc_int _ _ _ | exact conc_str _ _ | exact conc_bool _ _ | exact conc_sn _ _ _ | exact conc_pn _, fun w => ?_⟩
        simp only [execOp]
        simp [resolve, invoke, builtin, Builtin.len_, he, run_underlying hu, goInt]
      | _ => cases hb
  · rename_i s
    cases ht : C.tt.get t with
    | none => rw [ht] at hb; cases hb
    | some ti =>
      rw [ht] at hb
      have hti := C.okT _ _ ht
      obtain ⟨kk, z, sz, by'⟩ := ti
      cases kk with
      | string =>
        cases hb
        have hu := tk_string hti
        simp only [conc, Option.some.injEq] at hv; subst hv
        refine ⟨_, by first | exact conc_int _ _ _ | exact conc_str _ _ | exact conc_bool _ _ | exact conc_sn _ _ _ | exact conc_pn _, fun w => ?_⟩
        simp only [execOp]
        have e : (s.size : Int) = (s.data.toList.length : Int) := by simp
        simp [resolve, invoke, builtin, Builtin.len_, he, run_underlying hu, goInt, e]
      | _ => cases hb
  · cases ht : C.tt.get t with
    | none => rw [ht] at hb; cases hb
    | some ti =>
      rw [ht] at hb
      have hti := C.okT _ _ ht
      obtain ⟨kk, z, sz, by'⟩ := ti
      cases kk with
      | map k e =>
        cases hb
        have hu := tk_map hti
        simp only [conc, Option.some.injEq] at hv; subst hv
        refine ⟨_, by first | exact conc_int _ _ _ | exact conc_str _ _ | exact conc_bool _ _ | exact conc_sn _ _ _ | exact conc_pn _, fun w => ?_⟩
        simp only [execOp]
        simp [resolve, invoke, builtin, Builtin.len_, he, run_underlying hu, goInt]
      | _ => cases hb
  · cases hb
end
end Go.Ev
