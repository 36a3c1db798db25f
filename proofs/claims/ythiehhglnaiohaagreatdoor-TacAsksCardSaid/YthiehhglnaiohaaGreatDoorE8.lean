/-
  Memory: new rows and structs, slices that grow, copies.
-/
import Derived.Test.YthiehhglnaiohaaGreatDoorE7
namespace Go.Ev
open Go.Wk
set_option linter.unusedVariables false
set_option linter.unusedSimpArgs false

/-- The operation gives what v stands for and leaves memory as s' says. -/
def Vm (C : Ct) (w0 : World) (D : Nat → Prop) (ρ : Env) (w : World) (a : Act) (o : Oper) (v : Value) (s' : St) : Prop :=
  ∃ τ u w', (execOp a.eval o).run C.P w = .ok (.value u) w' ∧ conc (ρ ++ τ) v = some u ∧ Sr C w0 D (ρ ++ τ) s' w'
/-- .. gives nothing. -/
def Um (C : Ct) (w0 : World) (D : Nat → Prop) (ρ : Env) (w : World) (a : Act) (o : Oper) (s' : St) : Prop :=
  ∃ w', (execOp a.eval o).run C.P w = .ok .skip w' ∧ Sr C w0 D ρ s' w'

section
variable {C : Ct} {w0 : World} {D : Nat → Prop} {ρ : Env} {s s' : St} {w : World} {N : Nat} {fm : Fm} {a : Act} {dst : Option Tmp} {ty : TypeId} {p : String} {af : Array Edge} {g : Option (Nat × Bool)}

theorem vm_load {t : TypeId} {x : Operand} {v r : Value} (h : Fr ρ N fm a) (H : Sr C w0 D ρ s w) (hx : evE fm.t x = some v) (hb : ldE C s t v = some r) : Vm C w0 D ρ w a ⟨dst, .load t x, ty, p, af, g⟩ r s := by
  obtain ⟨v', hv, he⟩ := evE_spec h hx
  obtain ⟨u, h1, h2⟩ := ldE_run H hv hb
  refine ⟨[], u, w, ?_, by rw [List.append_nil]; exact h1, by rw [List.append_nil]; exact H⟩
  simp only [execOp, he]
  rw [Sem.run_bind, h2]; rfl

theorem um_store {t : TypeId} {x y : Operand} {v q : Value} (h : Fr ρ N fm a) (H : Sr C w0 D ρ s w) (hx : evE fm.t x = some q) (hy : evE fm.t y = some v) (hb : stE C s t v q = some s') : Um C w0 D ρ w a ⟨dst, .store t x y, ty, p, af, g⟩ s' := by
  obtain ⟨q', hq, he⟩ := evE_spec h hx
  obtain ⟨v', hv, he'⟩ := evE_spec h hy
  obtain ⟨w', h1, h2⟩ := stE_run H hq hv hb
  refine ⟨w', ?_, h2⟩
  simp only [execOp, he, he']
  rw [Sem.run_bind, h1]; rfl

def ptE : Option (Nat × St) → Option (Value × St)
  | some (b, s') => some (.pointer (some ⟨b, 0, none⟩), s')
  | none => none
theorem ptE_some {q : Option (Nat × St)} {v : Value} {s' : St} (h : ptE q = some (v, s')) : ∃ b, q = some (b, s') ∧ v = .pointer (some ⟨b, 0, none⟩) := by
  unfold ptE at h
  split at h
  · cases h; exact ⟨_, rfl, rfl⟩
  · cases h
theorem conc_pt {b c o : Nat} (h : cad ρ b = some c) : conc ρ (.pointer (some ⟨b, o, none⟩)) = some (.pointer (some ⟨c, o, none⟩)) := by
  simp only [conc, cA, h, Option.map_some]
theorem conc_sl {b c o n q q' : Nat} (h : cad ρ b = some c) (hq : ccap ρ b q = some q') (hn : n ≤ q') : conc ρ (.slice (some ⟨b, o, none⟩) n q) = some (.slice (some ⟨c, o, none⟩) n q') :=
  conc_slice.2 ⟨_, q', by simp only [cA, h, Option.map_some], hq, hn, rfl⟩

def boxE (s : St) (e : TypeId) (v : Value) : Option (Value × St) := ptE (newE s e v.cells.toList)
theorem vm_box {e : TypeId} {x : Operand} {v r : Value} (h : Fr ρ N fm a) (H : Sr C w0 D ρ s w) (hx : evE fm.t x = some v) (hb : boxE s e v = some (r, s')) : Vm C w0 D ρ w a ⟨dst, .box e x, ty, p, af, g⟩ r s' := by
  obtain ⟨v', hv, he⟩ := evE_spec h hx
  obtain ⟨b, h1, rfl⟩ := ptE_some hb
  obtain ⟨hc, H'⟩ := newE_spec H (conc_cells hv).1 h1
  refine ⟨_, _, _, ?_, conc_pt hc, H'⟩
  simp only [execOp, he, Instr.box, Sem.run_bind, run_newVar, Result.andThen_ok]
  rfl

def allE (C : Ct) (s : St) (e : TypeId) : Option (Value × St) := match C.tt.get e with
  | some ti => bif cst 8 ti.z then ptE (newE s e ti.z.cells.toList) else none
  | none => none
theorem vm_alloc {e : TypeId} {r : Value} (H : Sr C w0 D ρ s w) (hb : allE C s e = some (r, s')) : Vm C w0 D ρ w a ⟨dst, .alloc e, ty, p, af, g⟩ r s' := by
  unfold allE at hb
  cases ht : C.tt.get e with
  | none => rw [ht] at hb; cases hb
  | some ti =>
    rw [ht] at hb
    simp only at hb
    cases hc : cst 8 ti.z with
    | false => rw [hc] at hb; cases hb
    | true =>
      rw [hc, cond_true] at hb
      obtain ⟨b, h1, rfl⟩ := ptE_some hb
      obtain ⟨hc', H'⟩ := newE_spec H (conc_cells (ρ := ρ) (cst_conc hc)).1 h1
      refine ⟨_, _, _, ?_, conc_pt hc', H'⟩
      simp only [execOp, Instr.alloc, Sem.run_bind, Wk.run_zeroValue (C.okT _ _ ht), run_newVar, Result.andThen_ok]
      rfl

/-! ### Slices written out, made -/
theorem fill_CP {pl : Nat → Option (Nat × Nat)} (places : List (Nat × Nat)) (hpl : ∀ i q, places[i]? = some q → pl i = some q) : ∀ (parts : List (Nat × Value)) (cs cs' : List Value), fillC places cs parts = some cs' → Instr.fill pl ⟨cs⟩ parts = some ⟨cs'⟩
  | [], cs, cs', h => by simp only [fillC, Option.some.injEq] at h; subst h; rfl
  | (i, v) :: r, cs, cs', h => by
    have h0 := fill_C places [(i, v)] cs
    simp only [fillC] at h h0
    simp only [Instr.fill] at h0 ⊢
    cases hp : places[i]? with
    | none => simp [hp] at h
    | some q =>
      obtain ⟨off, sz⟩ := q
      simp only [hp] at h h0
      rw [hpl i _ hp]
      cases hb : (Nat.beq v.cells.size sz && Nat.ble (off + sz) cs.length) with
      | false => rw [hb] at h; simp at h
      | true =>
        rw [hb] at h h0
        simp only [cond_true] at h h0
        have h1 := h0 _ rfl
        dsimp only at h1 ⊢
        split at h1
        · cases h1
        · rename_i hn
          rw [if_neg hn]
          simp only [Option.some.injEq] at h1
          rw [h1]
          exact fill_CP places hpl r _ cs' h
def gridOf (len sz : Nat) : List (Nat × Nat) := (List.range len).map fun i => (i * sz, sz)
theorem gridOf_get {len sz i : Nat} {q : Nat × Nat} (h : (gridOf len sz)[i]? = some q) : some (i * sz, sz) = some q := by
  unfold gridOf at h
  simp only [List.getElem?_map, Option.map_eq_some_iff] at h
  obtain ⟨j, h1, rfl⟩ := h
  rw [List.getElem?_range] at h1
  · cases h1; rfl
  · exact (by simpa using (List.getElem?_eq_some_iff.1 h1).1)
theorem concs_repl {z z' : List Value} (h : concs ρ z = some z') : ∀ n, concs ρ (rep n z) = some (rep n z')
  | 0 => by simp [rep, concs_nil]
  | n + 1 => by
    have ih := concs_repl h n
    unfold rep at ih ⊢
    rw [List.replicate_succ, List.replicate_succ, List.flatten_cons, List.flatten_cons]
    exact concs_app h ih

def slcE (n c : Nat) : Option (Nat × St) → Option (Value × St)
  | some (b, s') => bif Nat.ble CC c then none else some (.slice (some ⟨b, 0, none⟩) n c, s')
  | none => none
theorem slcE_some {n c : Nat} {q : Option (Nat × St)} {v : Value} {s' : St} (h : slcE n c q = some (v, s')) : ∃ b, q = some (b, s') ∧ v = .slice (some ⟨b, 0, none⟩) n c ∧ ∀ ρ b, ccap ρ b c = some c := by
  unfold slcE at h
  split at h
  · cases hc : Nat.ble CC c with
    | true => rw [hc] at h; cases h
    | false => rw [hc] at h; cases h; exact ⟨_, rfl, rfl, fun ρ b => by simp [ccap, hc]⟩
  · cases h
def litE (C : Ct) (t : Tr Value) (s : St) (ty : TypeId) (len : Nat) (parts : Array (Nat × Operand)) : Option (Value × St) := match C.tt.get ty with
  | some ti => (match ti.k with
    | .slice e => (match C.tt.get e with
      | some te => bif Nat.beq te.z.cells.size te.sz && cst 8 te.z && Nat.ble (len * te.sz) 16777216 && (Nat.beq parts.toList.length 0 || Nat.blt 0 (len * te.sz)) then (match evEs t (parts.toList.map (·.2)) with
        | some vs => (match fillC (gridOf len te.sz) (rep len te.z.cells.toList) ((parts.toList.map (·.1)).zip vs) with
          | some cs => slcE len len (newE s e cs)
          | none => none)
        | none => none) else none
      | none => none)
    | _ => none)
  | none => none
theorem vm_lit {t : TypeId} {len : Nat} {parts : Array (Nat × Operand)} {r : Value} (h : Fr ρ N fm a) (H : Sr C w0 D ρ s w) (hb : litE C fm.t s t len parts = some (r, s')) : Vm C w0 D ρ w a ⟨dst, .buildSlice t len parts, ty, p, af, g⟩ r s' := by
  unfold litE at hb
  cases ht : C.tt.get t with
  | none => rw [ht] at hb; cases hb
  | some ti =>
    rw [ht] at hb
    have hti := C.okT _ _ ht
    obtain ⟨kk, z0, sz0, by0⟩ := ti
    cases kk with
    | slice e =>
      simp only at hb
      cases hte : C.tt.get e with
      | none => rw [hte] at hb; cases hb
      | some te =>
        rw [hte] at hb
        simp only at hb
        cases hq : (Nat.beq te.z.cells.size te.sz && cst 8 te.z && Nat.ble (len * te.sz) 16777216 && (Nat.beq parts.toList.length 0 || Nat.blt 0 (len * te.sz))) with
        | false => rw [hq] at hb; cases hb
        | true =>
          rw [hq, cond_true] at hb
          simp only [Bool.and_eq_true, Bool.or_eq_true] at hq
          obtain ⟨⟨⟨hz, hcz⟩, hsm⟩, hpos⟩ := hq
          have hz' := Nat.eq_of_beq_eq_true hz
          have hsm' := Nat.le_of_ble_eq_true hsm
          split at hb
          · rename_i vs hvs
            split at hb
            · rename_i cs hf
              obtain ⟨b, h1, rfl, hcap⟩ := slcE_some hb
              have e1 := evEs_spec h hvs
              obtain ⟨cs', hcs, hf'⟩ := concs_fill e1 (concs_repl (conc_cells (ρ := ρ) (cst_conc hcz)).1 len) hf
              obtain ⟨hc', H'⟩ := newE_spec H hcs h1
              refine ⟨_, _, _, ?_, conc_sl hc' (hcap _ _) (Nat.le_refl _), H'⟩
              have hp : (parts.map fun (i, x) => (i, a.eval x)).toList = (parts.toList.map (·.1)).zip ((parts.toList.map (·.2)).map a.eval) := by
                simp only [Array.toList_map, List.map_map]
                generalize parts.toList = l
                induction l with
                | nil => rfl
                | cons q l ih => simp only [List.map_cons, List.zip_cons_cons, ih]; rfl
              have hfill := fill_CP (pl := fun i => some (i * te.sz, te.sz)) (gridOf len te.sz) (fun i q hq => gridOf_get hq) _ _ _ hf'
              have hrun : (Instr.buildSlice t len (parts.map fun (i, x) => (i, a.eval x))).run C.P w = .ok (.slice (some ⟨w.heap.size, 0, none⟩) len len) (w.alloc (.cells ⟨cs'⟩ e)) := by
                by_cases h0 : len * te.sz = 0
                · have hp0 : parts.toList = [] := by
                    rcases hpos with h2 | h2
                    · exact List.eq_nil_of_length_eq_zero (Nat.eq_of_beq_eq_true h2)
                    · have : 0 < len * te.sz := Nat.lt_of_lt_of_le (Nat.lt_succ_self _) (Nat.le_of_ble_eq_true h2)
                      omega
                  have hrep : rep len te.z.cells.toList = [] := by
                    apply List.eq_nil_of_length_eq_zero
                    unfold rep
                    rw [List.length_flatten]
                    simp [hz', h0]
                  have hcs0 : cs' = [] := by
                    rw [hp0] at hf'
                    simp only [List.map_nil, List.zip_nil_left, fillC, Option.some.injEq] at hf'
                    rw [← hf', hrep]
                  subst hcs0
                  simp only [Instr.buildSlice, Sem.run_bind, run_underlying (tk_slice hti), Result.andThen_ok, Wk.run_sizeOf (C.okT _ _ hte), h0, run_pure']
                  rw [if_neg (by decide), if_pos trivial]
                  simp only [Sem.run_bind, run_pure', Result.andThen_ok, hp, hp0, List.map_nil, List.zip_nil_left, Instr.fill]
                  have e0 : Array.map (fun x => (#[] : Array Value)[x % (#[] : Array Value).size]!) (Array.range 0) = ⟨[]⟩ := by apply Array.ext'; simp
                  rw [e0]; rfl
                · refine run_buildSlice hti (C.okT _ _ hte) len _ ⟨cs'⟩ ?_ (by simpa using hsm') h0 w
                  rw [hp]
                  have e3 : (Array.range (len * te.sz)).map (fun i => te.z.cells[i % te.z.cells.size]!) = ⟨rep len te.z.cells.toList⟩ := by
                    apply Array.ext'
                    show _ = rep len te.z.cells.toList
                    rw [← zeros_rep, hz']
                  rw [e3]
                  exact hfill
              simp only [execOp]
              rw [Sem.run_bind]
              have e2 : (parts.map fun (x : Nat × Operand) => (x.1, a.eval x.2)) = (parts.map fun (i, x) => (i, a.eval x)) := rfl
              rw [hrun]; rfl
            · cases hb
          · cases hb
    | _ => cases hb

def mksE (C : Ct) (s : St) (ty : TypeId) : Value → Value → Option (Value × St)
  | .int _ n, .int _ c => (match C.tt.get ty with
    | some ti => (match ti.k with
      | .slice e => (match C.tt.get e with
        | some te => bif Nat.beq te.z.cells.size te.sz && cst 8 te.z && decide (0 ≤ n) && decide (n ≤ c) && Nat.ble (te.by' * c.toNat) 281474976710656 && Nat.ble c.toNat 4294967296 then slcE n.toNat c.toNat (newE s e (rep c.toNat te.z.cells.toList)) else none
        | none => none)
      | _ => none)
    | none => none)
  | _, _ => none
theorem vm_mks {t : TypeId} {x y : Operand} {v q r : Value} (h : Fr ρ N fm a) (H : Sr C w0 D ρ s w) (hx : evE fm.t x = some v) (hy : evE fm.t y = some q) (hb : mksE C s t v q = some (r, s')) : Vm C w0 D ρ w a ⟨dst, .makeSlice t x y, ty, p, af, g⟩ r s' := by
  obtain ⟨v', hv, he⟩ := evE_spec h hx
  obtain ⟨q', hq, he'⟩ := evE_spec h hy
  unfold mksE at hb
  split at hb
  · rename_i k1 n k2 c
    simp only [conc, Option.some.injEq] at hv hq; subst hv; subst hq
    cases ht : C.tt.get t with
    | none => rw [ht] at hb; cases hb
    | some ti =>
      rw [ht] at hb
      have hti := C.okT _ _ ht
      obtain ⟨kk, z0, sz0, by0⟩ := ti
      cases kk with
      | slice e =>
        simp only at hb
        cases hte : C.tt.get e with
        | none => rw [hte] at hb; cases hb
        | some te =>
          rw [hte] at hb
          simp only at hb
          cases hq : (Nat.beq te.z.cells.size te.sz && cst 8 te.z && decide (0 ≤ n) && decide (n ≤ c) && Nat.ble (te.by' * c.toNat) 281474976710656 && Nat.ble c.toNat 4294967296) with
          | false => rw [hq] at hb; cases hb
          | true =>
            rw [hq, cond_true] at hb
            simp only [Bool.and_eq_true, decide_eq_true_eq] at hq
            obtain ⟨⟨⟨⟨⟨hz, hcz⟩, h0⟩, hnc⟩, hby⟩, hc32⟩ := hq
            have hz' := Nat.eq_of_beq_eq_true hz
            obtain ⟨b, h1, rfl, hcap⟩ := slcE_some hb
            obtain ⟨hc', H'⟩ := newE_spec H (concs_repl (conc_cells (ρ := ρ) (cst_conc hcz)).1 c.toNat) h1
            refine ⟨_, _, _, ?_, conc_sl hc' (hcap _ _) (by omega), H'⟩
            have hr := run_mk (P := C.P) hti (C.okT _ _ hte) k1 k2 n.toNat c.toNat (by omega) (Nat.le_of_ble_eq_true hby) (by have := Nat.le_of_ble_eq_true hc32; omega) w
            have e1 : madeCells te.z.cells (c.toNat * te.sz) = ⟨rep c.toNat te.z.cells.toList⟩ := by
              apply Array.ext'
              show (madeCells te.z.cells (c.toNat * te.sz)).toList = rep c.toNat te.z.cells.toList
              rw [← zeros_rep, hz']; simp only [madeCells, hz']
            rw [e1, Int.toNat_of_nonneg h0, Int.toNat_of_nonneg (Int.le_trans h0 hnc)] at hr
            simp only [execOp, he, he']
            rw [Sem.run_bind, hr]; rfl
      | _ => cases hb
  · cases hb
/-- An array, out of its parts. -/
def abE (C : Ct) (t : Tr Value) (ty : TypeId) (parts : Array (Nat × Operand)) : Option Value := match C.tt.get ty with
  | some ti => (match ti.k with
    | .array n e => (match C.tt.get e, evEs t (parts.toList.map (·.2)) with
      | some te, some vs => bif cst 8 ti.z then (fillC (gridOf n te.sz) ti.z.cells.toList ((parts.toList.map (·.1)).zip vs)).bind fun cs => some (.agg ⟨cs⟩) else none
      | _, _ => none)
    | _ => none)
  | none => none
theorem gv_ab {C : Ct} {ρ : Env} {N : Nat} {fm : Fm} {a : Act} {dst : Option Tmp} {ty : TypeId} {p : String} {af : Array Edge} {g : Option (Nat × Bool)} {t : TypeId} {parts : Array (Nat × Operand)} {r : Value} (h : Fr ρ N fm a)
    (hb : abE C fm.t t parts = some r) : Gv C ρ a ⟨dst, .build t parts, ty, p, af, g⟩ r := by
  unfold abE at hb
  cases ht : C.tt.get t with
  | none => rw [ht] at hb; cases hb
  | some ti =>
    rw [ht] at hb
    have hti := C.okT _ _ ht
    obtain ⟨kk, z, sz, by'⟩ := ti
    cases kk with
    | array n e =>
      simp only at hb
      split at hb
      · rename_i te vs h1 h2
        cases hc : cst 8 z with
        | false => rw [hc] at hb; cases hb
        | true =>
          rw [hc, cond_true] at hb
          obtain ⟨cs, hf, hb⟩ := Option.bind_eq_some_iff.1 hb
          cases hb
          have e1 := evEs_spec h h2
          have e2 := (conc_cells (ρ := ρ) (cst_conc hc)).1
          obtain ⟨cs', hcs, hf'⟩ := concs_fill e1 e2 hf
          have hfill := fill_CP (pl := fun i => some (i * te.sz, te.sz)) (gridOf n te.sz) (fun i q hq => gridOf_get hq) _ _ _ hf'
          refine ⟨.agg ⟨cs'⟩, conc_agg hcs, fun w => ?_⟩
          have hparts : (parts.map fun (i, x) => (i, a.eval x)).toList = (parts.toList.map (·.1)).zip ((parts.toList.map (·.2)).map a.eval) := by
            simp only [Array.toList_map, List.map_map]
            generalize parts.toList = l
            induction l with
            | nil => rfl
            | cons q l ih => simp only [List.map_cons, List.zip_cons_cons, ih]; rfl
          have hu : C.P.underlying t = some (.array n e) := by
            obtain ⟨dd, i, hd, _, hk, _⟩ := tiOf_spec hti
            cases dd <;> simp [tkOf] at hk
            rw [← hk.1, ← hk.2]; exact hd
          have hr : (Instr.build t (parts.map fun (i, x) => (i, a.eval x))).run C.P w = .ok (.agg ⟨cs'⟩) w := by
            simp only [Instr.build, Sem.run_bind, Wk.run_zeroValue hti, run_underlying hu, Wk.run_sizeOf (C.okT _ _ h1), Result.andThen_ok]
            rw [hparts]
            have e : (⟨z.cells.toList⟩ : Array Value) = z.cells := rfl
            rw [e] at hfill
            rw [hfill]
            simp only [run_pure']
          simp only [execOp]
          rw [Sem.run_bind]
          have e2 : (parts.map fun (x : Nat × Operand) => (x.1, a.eval x.2)) = (parts.map fun (i, x) => (i, a.eval x)) := rfl
          rw [hr]; rfl
      · cases hb
    | _ => cases hb
end
end Go.Ev
