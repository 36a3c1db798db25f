/-
  Memory: read, written, made; slices appended to.
  Memory: new rows and structs, slices that grow, copies.
  Memory: append, copy.
  Memory: copies, bytes and strings, pointers seen as others.
-/
import Derived.Test.YtpohhfggmaihpaaGreatDoorZ6
import Derived.Lib.AppendStr
import Derived.Laws.IdiomStrings
import Derived.Lib.Builder
import Derived.Lib.UnsafeStr
import Derived.Lib.Bytealg

/- Memory: read, written, made; slices appended to. -/
namespace Go.Ev
open Go.Wk
set_option linter.unusedVariables false
set_option linter.unusedSimpArgs false

/-! ### Cells read -/
def takeN (l : List Value) (o n : Nat) : Option (List Value) := bif Nat.beq ((l.drop o).take n).length n then some ((l.drop o).take n) else none
def readC (C : Ct) (s : St) (b o n : Nat) : Option (List Value) :=
  bif Nat.ble BB b then (match s.h.get (b - BB) with
    | some (.cells l _ _) => takeN l.toList o n
    | _ => none)
  else (match C.gl.get b with
    | some (.cells l _ _) => (match takeN l.toList o n with
      | some cs => bif cs.all (cst 8) then some cs else none
      | none => none)
    | _ => none)
theorem takeN_spec {ρ : Env} {l l' cs : List Value} {o n : Nat} (hl : concs ρ l = some l') (h : takeN l o n = some cs) : ∃ cs', concs ρ cs = some cs' ∧ cs.length = n ∧ cs'.length = n ∧ ∀ sp j u, cs'[j]? = some u → (l' ++ sp)[o + j]? = some u := by
  unfold takeN at h
  cases hb : Nat.beq ((l.drop o).take n).length n with
  | false => rw [hb] at h; cases h
  | true =>
    rw [hb] at h; cases h
    have h1 := Nat.eq_of_beq_eq_true hb
    have hc := concs_take n (concs_drop o hl)
    refine ⟨_, hc, h1, by rw [concs_len hc, h1], fun sp j u hj => ?_⟩
    rw [List.getElem?_take] at hj
    split at hj
    · rw [List.getElem?_drop] at hj
      rw [List.getElem?_append_left (List.getElem?_eq_some_iff.1 hj).1]; exact hj
    · cases hj

section
variable {C : Ct} {w0 : World} {D : Nat → Prop} {ρ : Env} {s : St} {w : World}

theorem cad_own {b b' : Nat} (hb : Nat.ble BB b = true) (h : cad ρ b = some b') : ∃ l, lcE ρ (b - BB) = some l ∧ l.ad = b' := by
  unfold cad at h
  rw [hb] at h
  simpa only [cond_true, Option.map_eq_some_iff] using h
theorem cad_old {b b' : Nat} (hb : Nat.ble BB b = false) (h : cad ρ b = some b') : b' = b := by
  unfold cad at h
  rw [hb] at h
  exact (Option.some.inj h).symm

theorem readC_spec (H : Sr C w0 D ρ s w) {b b' o n : Nat} {cs : List Value} (hb' : cad ρ b = some b') (h : readC C s b o n = some cs) :
    ∃ cs', concs ρ cs = some cs' ∧ cs.length = n ∧ cs'.length = n ∧ ∀ j u, cs'[j]? = some u → w.cell? ⟨b', o + j, none⟩ = some u := by
  unfold readC at h
  cases hb : Nat.ble BB b with
  | true =>
    rw [hb, cond_true] at h
    split at h
    · rename_i l e fz hk
      obtain ⟨l1, hl1, rfl⟩ := cad_own hb hb'
      obtain ⟨l2, o', h1, h2, h3⟩ := H.holds _ _ hk
      rw [hl1] at h1; cases h1
      obtain ⟨l', e', h4, rfl, _⟩ := concO_cells h2
      obtain ⟨cs', g1, g2, g3, g4⟩ := takeN_spec h4 h
      refine ⟨cs', g1, g2, g3, fun j u hj => ?_⟩
      simp only [World.cell?, h3]
      simpa using g4 l1.sp j u hj
    · cases h
  | false =>
    rw [hb] at h
    simp only [cond_false] at h
    obtain rfl := cad_old hb hb'
    split at h
    · rename_i l e fz hk
      split at h
      · rename_i cs0 ht
        cases hc : cs0.all (cst 8) with
        | false => rw [hc] at h; cases h
        | true =>
          rw [hc] at h; cases h
          have g1 : concs ρ cs = some cs := concs_all (fun v hv => cst_conc hv) hc
          unfold takeN at ht
          cases hq : Nat.beq ((l.toList.drop o).take n).length n with
          | false => rw [hq] at ht; cases ht
          | true =>
            rw [hq] at ht; cases ht
            have h1 := Nat.eq_of_beq_eq_true hq
            refine ⟨_, g1, h1, h1, fun j u hj => ?_⟩
            have h5 := (H.glob _ _ hk).1
            simp only [World.cell?, h5]
            rw [List.getElem?_take] at hj
            split at hj
            · rw [List.getElem?_drop] at hj; simpa using hj
            · cases hj
      · cases h
    · cases h

theorem asV_conc {k : Tk} {cs cs' : List Value} {v : Value} (hc : concs ρ cs = some cs') (h : asV k cs = some v) : ∃ u, asV k cs' = some u ∧ conc ρ v = some u := by
  unfold asV at h ⊢
  cases hA : isA k with
  | true =>
    rw [hA] at h
    simp only [Option.some.injEq] at h
    subst h
    exact ⟨_, rfl, conc_agg hc⟩
  | false =>
    rw [hA] at h
    cases cs with
    | nil => simp at h
    | cons c r => cases r with
      | nil =>
        simp only [Option.some.injEq] at h; subst h
        obtain ⟨u, t, h1, h2, rfl⟩ := concs_cons.1 hc
        rw [concs_nil] at h2; cases h2
        exact ⟨u, rfl, h1⟩
      | cons _ _ => simp at h

def ldE (C : Ct) (s : St) (t : TypeId) : Value → Option Value
  | .pointer (some ⟨b, o, none⟩) => match C.tt.get t with
    | some ti => (match readC C s b o ti.sz with
      | some cs => asV ti.k cs
      | none => none)
    | none => none
  | _ => none
/-- What a load gives, as memory stands. -/
theorem ldE_run (H : Sr C w0 D ρ s w) {t : TypeId} {v v' r : Value} (hv : conc ρ v = some v') (h : ldE C s t v = some r) : ∃ u, conc ρ r = some u ∧ (Instr.loadAt t v').run C.P w = .ok u w := by
  unfold ldE at h
  split at h
  · rename_i b o
    simp only [conc, cA, Option.map_eq_some_iff] at hv
    obtain ⟨_, ⟨b', hb', rfl⟩, rfl⟩ := hv
    cases ht : C.tt.get t with
    | none => rw [ht] at h; cases h
    | some ti =>
      rw [ht] at h
      simp only at h
      split at h
      · rename_i cs hr
        obtain ⟨cs', g1, g2, g3, g4⟩ := readC_spec H hb' hr
        obtain ⟨u, h1, h2⟩ := asV_conc g1 h
        exact ⟨u, h2, run_loadAt (C.okT _ _ ht) g3 h1 g4⟩
      · cases h
  · cases h

/-! ### Cells written -/
theorem conc_one {v u : Value} (h : conc ρ v = some u) : u.oneCell' = v.oneCell' := by
  cases v with
  | pointer x => cases x with
    | none => simp only [conc, Option.some.injEq] at h; subst h; rfl
    | some x => simp only [conc, Option.map_eq_some_iff] at h; obtain ⟨us, h1, rfl⟩ := h; rfl
  | slice x n c => cases x with
    | none => simp only [conc, Option.some.injEq] at h; subst h; rfl
    | some x => obtain ⟨_, _, _, _, _, rfl⟩ := conc_slice.1 h; rfl
  | map x => cases x with
    | none => simp only [conc, Option.some.injEq] at h; subst h; rfl
    | some x => simp only [conc, Option.map_eq_some_iff] at h; obtain ⟨us, h1, rfl⟩ := h; rfl
  | chan x => cases x with
    | none => simp only [conc, Option.some.injEq] at h; subst h; rfl
    | some x => simp [conc] at h
  | func f l m =>
    simp only [conc] at h
    split at h
    · cases h; rfl
    · cases h
  | agg l => simp only [conc, Option.map_eq_some_iff] at h; obtain ⟨us, h1, rfl⟩ := h; rfl
  | tuple l => simp only [conc, Option.map_eq_some_iff] at h; obtain ⟨us, h1, rfl⟩ := h; rfl
  | iface t x => simp only [conc, Option.map_eq_some_iff] at h; obtain ⟨us, h1, rfl⟩ := h; rfl
  | _ => simp only [conc, Option.some.injEq] at h; subst h; rfl
theorem concs_one' : ∀ {vs us : List Value}, concs ρ vs = some us → vs.all Value.oneCell' = true → ∀ u ∈ us, u.oneCell' = true
  | [], us, h, _, u, hu => by rw [concs_nil] at h; cases h; cases hu
  | v :: r, us, h, ha, u, hu => by
    obtain ⟨x, t, h1, h2, rfl⟩ := concs_cons.1 h
    simp only [List.all_cons, Bool.and_eq_true] at ha
    rcases List.mem_cons.1 hu with rfl | hu
    · rw [conc_one h1]; exact ha.1
    · exact concs_one' h2 ha.2 u hu
theorem putC_left : ∀ (vs l sp : List Value) (o : Nat), o + vs.length ≤ l.length → putC (l ++ sp) o vs = putC l o vs ++ sp
  | [], l, sp, o, _ => rfl
  | v :: vs, l, sp, o, h => by
    simp only [putC]
    rw [List.length_cons] at h
    rw [List.set_append_left _ _ (by omega)]
    exact putC_left vs (l.set o v) sp (o + 1) (by rw [List.length_set]; omega)

theorem putC_len : ∀ (vs l : List Value) (o : Nat), (putC l o vs).length = l.length
  | [], l, o => rfl
  | v :: vs, l, o => by simp only [putC]; rw [putC_len vs]; simp
def writeC (s : St) (b o : Nat) (vs : List Value) : Option St :=
  bif Nat.ble BB b then (match s.h.get (b - BB) with
    | some (.cells l e (0, 0)) => bif Nat.ble (o + vs.length) l.toList.length && vs.all Value.oneCell' then s.upd (b - BB) (some (.cells ⟨putC l.toList o vs⟩ e (0, 0))) else none
    | _ => none)
  else none
theorem writeC_spec {P : Program} (H : Sr C w0 D ρ s w) {b b' o : Nat} {vs vs' : List Value} {s' : St} (hb' : cad ρ b = some b') (hvs : concs ρ vs = some vs') (h : writeC s b o vs = some s') :
    ∃ w', (storeCells ⟨b', o, none⟩ vs' 0).run P w = .ok () w' ∧ Sr C w0 D ρ s' w' := by
  unfold writeC at h
  cases hb : Nat.ble BB b with
  | false => rw [hb] at h; cases h
  | true =>
    rw [hb, cond_true] at h
    obtain ⟨l1, hl1, rfl⟩ := cad_own hb hb'
    generalize b - BB = k at h hl1
    split at h
    · rename_i l e hk
      cases hq : (Nat.ble (o + vs.length) l.toList.length && vs.all Value.oneCell') with
      | false => rw [hq] at h; cases h
      | true =>
        rw [hq, cond_true] at h
        simp only [Bool.and_eq_true] at hq
        have hlen := Nat.le_of_ble_eq_true hq.1
        obtain ⟨l2, o', h1, h2, h3⟩ := H.holds _ _ hk
        rw [hl1] at h1; cases h1
        have hlen2 : vs'.length = vs.length := concs_len hvs
        obtain ⟨l', _, hl', _, _⟩ := concO_cells h2
        obtain ⟨e', hput, l'', hl'', ho⟩ := concO_put (fz' := (0, 0)) (m := putC l.toList o vs) (m' := putC l' o vs') h2 (concs_put o hvs hl') (by rw [putC_len])
        rw [hl'] at hl''
        cases hl''
        subst ho
        have hll := concs_len hl'
        obtain ⟨w', hr, E⟩ := run_storeCells (P := P) (e := e') vs' (l' ++ l1.sp) o 0 w (by simpa using h3) (by rw [List.length_append]; omega) (concs_one' hvs hq.2)
        refine ⟨w', hr, H.write hk hl1 hput h ?_ (fun x hx hne => ?_) ?_ E.os E.tape E.output⟩
        · have := E.holds l1.ad _ List.mem_cons_self
          rw [Nat.add_zero, putC_left vs' l' l1.sp o (by omega)] at this
          exact this
        · exact E.keep x hx (by simpa [ids] using hne)
        · exact E.size
    · cases h

def stE (C : Ct) (s : St) (t : TypeId) (v : Value) : Value → Option St
  | .pointer (some ⟨b, o, none⟩) => match C.tt.get t with
    | some ti => bif Nat.beq v.cells.toList.length ti.sz then writeC s b o v.cells.toList else none
    | none => none
  | _ => none
theorem stE_run (H : Sr C w0 D ρ s w) {t : TypeId} {v v' p p' : Value} {s' : St} (hp : conc ρ p = some p') (hv : conc ρ v = some v') (h : stE C s t v p = some s') :
    ∃ w', (Instr.storeAt t p' v').run C.P w = .ok () w' ∧ Sr C w0 D ρ s' w' := by
  unfold stE at h
  split at h
  · rename_i b o
    simp only [conc, cA, Option.map_eq_some_iff] at hp
    obtain ⟨_, ⟨b', hb', rfl⟩, rfl⟩ := hp
    cases ht : C.tt.get t with
    | none => rw [ht] at h; cases h
    | some ti =>
      rw [ht] at h
      simp only at h
      cases hq : Nat.beq v.cells.toList.length ti.sz with
      | false => rw [hq] at h; cases h
      | true =>
        rw [hq, cond_true] at h
        obtain ⟨hc, hsz⟩ := conc_cells hv
        obtain ⟨w', hr, H'⟩ := writeC_spec (P := C.P) H hb' hc h
        refine ⟨w', ?_, H'⟩
        have h1 : v'.cells.size = ti.sz := by rw [hsz]; exact Nat.eq_of_beq_eq_true hq
        simp only [Instr.storeAt, Instr.sureAddr, storeVar, Sem.run_bind, Sem.run_pure, Result.andThen_ok, Wk.run_sizeOf (C.okT _ _ ht), h1]
        rw [if_neg (by simp)]
        exact hr
  · cases h

/-! ### New rows -/
/-- A new row of cells, all told. -/
def newE (s : St) (e : TypeId) (cs : List Value) : Option (Nat × St) := bif Nat.ble BB e then none else (match s.new (.cells ⟨cs⟩ e (0, 0)) with
  | some s' => some (BB + s.n, s')
  | none => none)
theorem BB_ble (n : Nat) : Nat.ble BB (BB + n) = true := by generalize BB = q; exact Nat.ble_eq_true_of_le (Nat.le_add_right _ _)
theorem BB_sub (n : Nat) : BB + n - BB = n := by generalize BB = q; exact Nat.add_sub_cancel_left _ _
theorem newE_spec (H : Sr C w0 D ρ s w) {e : TypeId} {cs cs' : List Value} {b : Nat} {s' : St} (hc : concs ρ cs = some cs') (h : newE s e cs = some (b, s')) :
    cad (ρ ++ [(s.n, ⟨w.heap.size, 0, []⟩)]) b = some w.heap.size ∧ Sr C w0 D (ρ ++ [(s.n, ⟨w.heap.size, 0, []⟩)]) s' (w.alloc (.cells ⟨cs'⟩ e)) := by
  unfold newE at h
  cases he : Nat.ble BB e with
  | true => rw [he] at h; cases h
  | false =>
    rw [he] at h
    simp only [cond_false] at h
    split at h
    · rename_i s1 hs
      cases h
      refine ⟨?_, H.alloc (concO_mk (concs_mono _ hc) he) hs⟩
      unfold cad
      rw [BB_ble, BB_sub, cond_true, lcE_new _ H.un]; rfl
    · cases h
end
end Go.Ev

/- Memory: new rows and structs, slices that grow, copies. -/
namespace Go.Ev
open Go.Wk
set_option linter.unusedVariables false
set_option linter.unusedSimpArgs false

/-- The operation gives what v stands for and leaves memory as s' says. -/
def Vm (C : Ct) (w0 : World) (D : Nat → Prop) (ρ : Env) (w : World) (a : Act) (o : Oper) (v : Value) (s' : St) : Prop :=
  ∃ τ u w', (execOp a.eval o).run C.P w = .ok (.value u) w' ∧ conc (ρ ++ τ) v = some u ∧ Sr C w0 D (ρ ++ τ) s' w'
/-- .. gives nothing. -/
def Um (C : Ct) (w0 : World) (D : Nat → Prop) (ρ : Env) (w : World) (a : Act) (o : Oper) (s' : St) : Prop :=
  ∃ w', (execOp a.eval o).run C.P w = .ok .skip w' ∧ Sr C w0 D ρ s' w'

section
variable {C : Ct} {w0 : World} {D : Nat → Prop} {ρ : Env} {s s' : St} {w : World} {N : Nat} {fm : Fm} {a : Act} {dst : Option Tmp} {ty : TypeId} {p : String} {af : Array Edge} {g : Option (Nat × Bool)}

theorem vm_load {t : TypeId} {x : Operand} {v r : Value} (h : Fr ρ N fm a) (H : Sr C w0 D ρ s w) (hx : evE fm.t x = some v) (hb : ldE C s t v = some r) : Vm C w0 D ρ w a ⟨dst, .load t x, ty, p, af, g⟩ r s := by
  obtain ⟨v', hv, he⟩ := evE_spec h hx
  obtain ⟨u, h1, h2⟩ := ldE_run H hv hb
  refine ⟨[], u, w, ?_, by rw [List.append_nil]; exact h1, by rw [List.append_nil]; exact H⟩
  simp only [execOp, he]
  rw [Sem.run_bind, h2]; rfl

theorem um_store {t : TypeId} {x y : Operand} {v q : Value} (h : Fr ρ N fm a) (H : Sr C w0 D ρ s w) (hx : evE fm.t x = some q) (hy : evE fm.t y = some v) (hb : stE C s t v q = some s') : Um C w0 D ρ w a ⟨dst, .store t x y, ty, p, af, g⟩ s' := by
  obtain ⟨q', hq, he⟩ := evE_spec h hx
  obtain ⟨v', hv, he'⟩ := evE_spec h hy
  obtain ⟨w', h1, h2⟩ := stE_run H hq hv hb
  refine ⟨w', ?_, h2⟩
  simp only [execOp, he, he']
  rw [Sem.run_bind, h1]; rfl

def ptE : Option (Nat × St) → Option (Value × St)
  | some (b, s') => some (.pointer (some ⟨b, 0, none⟩), s')
  | none => none
theorem ptE_some {q : Option (Nat × St)} {v : Value} {s' : St} (h : ptE q = some (v, s')) : ∃ b, q = some (b, s') ∧ v = .pointer (some ⟨b, 0, none⟩) := by
  unfold ptE at h
  split at h
  · cases h; exact ⟨_, rfl, rfl⟩
  · cases h
theorem conc_pt {b c o : Nat} (h : cad ρ b = some c) : conc ρ (.pointer (some ⟨b, o, none⟩)) = some (.pointer (some ⟨c, o, none⟩)) := by
  simp only [conc, cA, h, Option.map_some]
theorem conc_sl {b c o n q q' : Nat} (h : cad ρ b = some c) (hq : ccap ρ b q = some q') (hn : n ≤ q') : conc ρ (.slice (some ⟨b, o, none⟩) n q) = some (.slice (some ⟨c, o, none⟩) n q') :=
  conc_slice.2 ⟨_, q', by simp only [cA, h, Option.map_some], hq, hn, rfl⟩

def boxE (s : St) (e : TypeId) (v : Value) : Option (Value × St) := ptE (newE s e v.cells.toList)
theorem vm_box {e : TypeId} {x : Operand} {v r : Value} (h : Fr ρ N fm a) (H : Sr C w0 D ρ s w) (hx : evE fm.t x = some v) (hb : boxE s e v = some (r, s')) : Vm C w0 D ρ w a ⟨dst, .box e x, ty, p, af, g⟩ r s' := by
  obtain ⟨v', hv, he⟩ := evE_spec h hx
  obtain ⟨b, h1, rfl⟩ := ptE_some hb
  obtain ⟨hc, H'⟩ := newE_spec H (conc_cells hv).1 h1
  refine ⟨_, _, _, ?_, conc_pt hc, H'⟩
  simp only [execOp, he, Instr.box, Sem.run_bind, run_newVar, Result.andThen_ok]
  rfl

def allE (C : Ct) (s : St) (e : TypeId) : Option (Value × St) := match C.tt.get e with
  | some ti => bif cst 8 ti.z then ptE (newE s e ti.z.cells.toList) else none
  | none => none
theorem vm_alloc {e : TypeId} {r : Value} (H : Sr C w0 D ρ s w) (hb : allE C s e = some (r, s')) : Vm C w0 D ρ w a ⟨dst, .alloc e, ty, p, af, g⟩ r s' := by
  unfold allE at hb
  cases ht : C.tt.get e with
  | none => rw [ht] at hb; cases hb
  | some ti =>
    rw [ht] at hb
    simp only at hb
    cases hc : cst 8 ti.z with
    | false => rw [hc] at hb; cases hb
    | true =>
      rw [hc, cond_true] at hb
      obtain ⟨b, h1, rfl⟩ := ptE_some hb
      obtain ⟨hc', H'⟩ := newE_spec H (conc_cells (ρ := ρ) (cst_conc hc)).1 h1
      refine ⟨_, _, _, ?_, conc_pt hc', H'⟩
      simp only [execOp, Instr.alloc, Sem.run_bind, Wk.run_zeroValue (C.okT _ _ ht), run_newVar, Result.andThen_ok]
      rfl

/-! ### Slices written out, made -/
theorem fill_CP {pl : Nat → Option (Nat × Nat)} (places : List (Nat × Nat)) (hpl : ∀ i q, places[i]? = some q → pl i = some q) : ∀ (parts : List (Nat × Value)) (cs cs' : List Value), fillC places cs parts = some cs' → Instr.fill pl ⟨cs⟩ parts = some ⟨cs'⟩
  | [], cs, cs', h => by simp only [fillC, Option.some.injEq] at h; subst h; rfl
  | (i, v) :: r, cs, cs', h => by
    have h0 := fill_C places [(i, v)] cs
    simp only [fillC] at h h0
    simp only [Instr.fill] at h0 ⊢
    cases hp : places[i]? with
    | none => simp [hp] at h
    | some q =>
      obtain ⟨off, sz⟩ := q
      simp only [hp] at h h0
      rw [hpl i _ hp]
      cases hb : (Nat.beq v.cells.size sz && Nat.ble (off + sz) cs.length) with
      | false => rw [hb] at h; simp at h
      | true =>
        rw [hb] at h h0
        simp only [cond_true] at h h0
        have h1 := h0 _ rfl
        dsimp only at h1 ⊢
        split at h1
        · cases h1
        · rename_i hn
          rw [if_neg hn]
          simp only [Option.some.injEq] at h1
          rw [h1]
          exact fill_CP places hpl r _ cs' h
def gridOf (len sz : Nat) : List (Nat × Nat) := (List.range len).map fun i => (i * sz, sz)
theorem gridOf_get {len sz i : Nat} {q : Nat × Nat} (h : (gridOf len sz)[i]? = some q) : some (i * sz, sz) = some q := by
  unfold gridOf at h
  simp only [List.getElem?_map, Option.map_eq_some_iff] at h
  obtain ⟨j, h1, rfl⟩ := h
  rw [List.getElem?_range] at h1
  · cases h1; rfl
  · exact (by simpa using (List.getElem?_eq_some_iff.1 h1).1)
theorem concs_repl {z z' : List Value} (h : concs ρ z = some z') : ∀ n, concs ρ (rep n z) = some (rep n z')
  | 0 => by simp [rep, concs_nil]
  | n + 1 => by
    have ih := concs_repl h n
    unfold rep at ih ⊢
    rw [List.replicate_succ, List.replicate_succ, List.flatten_cons, List.flatten_cons]
    exact concs_app h ih

def slcE (n c : Nat) : Option (Nat × St) → Option (Value × St)
  | some (b, s') => bif Nat.ble CC c then none else some (.slice (some ⟨b, 0, none⟩) n c, s')
  | none => none
theorem slcE_some {n c : Nat} {q : Option (Nat × St)} {v : Value} {s' : St} (h : slcE n c q = some (v, s')) : ∃ b, q = some (b, s') ∧ v = .slice (some ⟨b, 0, none⟩) n c ∧ ∀ ρ b, ccap ρ b c = some c := by
  unfold slcE at h
  split at h
  · cases hc : Nat.ble CC c with
    | true => rw [hc] at h; cases h
    | false => rw [hc] at h; cases h; exact ⟨_, rfl, rfl, fun ρ b => by simp [ccap, hc]⟩
  · cases h
def litE (C : Ct) (t : Tr Value) (s : St) (ty : TypeId) (len : Nat) (parts : Array (Nat × Operand)) : Option (Value × St) := match C.tt.get ty with
  | some ti => (match ti.k with
    | .slice e => (match C.tt.get e with
      | some te => bif Nat.beq te.z.cells.size te.sz && cst 8 te.z && Nat.ble (len * te.sz) 16777216 && (Nat.beq parts.toList.length 0 || Nat.blt 0 (len * te.sz)) then (match evEs t (parts.toList.map (·.2)) with
        | some vs => (match fillC (gridOf len te.sz) (rep len te.z.cells.toList) ((parts.toList.map (·.1)).zip vs) with
          | some cs => slcE len len (newE s e cs)
          | none => none)
        | none => none) else none
      | none => none)
    | _ => none)
  | none => none
theorem vm_lit {t : TypeId} {len : Nat} {parts : Array (Nat × Operand)} {r : Value} (h : Fr ρ N fm a) (H : Sr C w0 D ρ s w) (hb : litE C fm.t s t len parts = some (r, s')) : Vm C w0 D ρ w a ⟨dst, .buildSlice t len parts, ty, p, af, g⟩ r s' := by
  unfold litE at hb
  cases ht : C.tt.get t with
  | none => rw [ht] at hb; cases hb
  | some ti =>
    rw [ht] at hb
    have hti := C.okT _ _ ht
    obtain ⟨kk, z0, sz0, by0⟩ := ti
    cases kk with
    | slice e =>
      simp only at hb
      cases hte : C.tt.get e with
      | none => rw [hte] at hb; cases hb
      | some te =>
        rw [hte] at hb
        simp only at hb
        cases hq : (Nat.beq te.z.cells.size te.sz && cst 8 te.z && Nat.ble (len * te.sz) 16777216 && (Nat.beq parts.toList.length 0 || Nat.blt 0 (len * te.sz))) with
        | false => rw [hq] at hb; cases hb
        | true =>
          rw [hq, cond_true] at hb
          simp only [Bool.and_eq_true, Bool.or_eq_true] at hq
          obtain ⟨⟨⟨hz, hcz⟩, hsm⟩, hpos⟩ := hq
          have hz' := Nat.eq_of_beq_eq_true hz
          have hsm' := Nat.le_of_ble_eq_true hsm
          split at hb
          · rename_i vs hvs
            split at hb
            · rename_i cs hf
              obtain ⟨b, h1, rfl, hcap⟩ := slcE_some hb
              have e1 := evEs_spec h hvs
              obtain ⟨cs', hcs, hf'⟩ := concs_fill e1 (concs_repl (conc_cells (ρ := ρ) (cst_conc hcz)).1 len) hf
              obtain ⟨hc', H'⟩ := newE_spec H hcs h1
              refine ⟨_, _, _, ?_, conc_sl hc' (hcap _ _) (Nat.le_refl _), H'⟩
              have hp : (parts.map fun (i, x) => (i, a.eval x)).toList = (parts.toList.map (·.1)).zip ((parts.toList.map (·.2)).map a.eval) := by
                simp only [Array.toList_map, List.map_map]
                generalize parts.toList = l
                induction l with
                | nil => rfl
                | cons q l ih => simp only [List.map_cons, List.zip_cons_cons, ih]; rfl
              have hfill := fill_CP (pl := fun i => some (i * te.sz, te.sz)) (gridOf len te.sz) (fun i q hq => gridOf_get hq) _ _ _ hf'
              have hrun : (Instr.buildSlice t len (parts.map fun (i, x) => (i, a.eval x))).run C.P w = .ok (.slice (some ⟨w.heap.size, 0, none⟩) len len) (w.alloc (.cells ⟨cs'⟩ e)) := by
                by_cases h0 : len * te.sz = 0
                · have hp0 : parts.toList = [] := by
                    rcases hpos with h2 | h2
                    · exact List.eq_nil_of_length_eq_zero (Nat.eq_of_beq_eq_true h2)
                    · have : 0 < len * te.sz := Nat.lt_of_lt_of_le (Nat.lt_succ_self _) (Nat.le_of_ble_eq_true h2)
                      omega
                  have hrep : rep len te.z.cells.toList = [] := by
                    apply List.eq_nil_of_length_eq_zero
                    unfold rep
                    rw [List.length_flatten]
                    simp [hz', h0]
                  have hcs0 : cs' = [] := by
                    rw [hp0] at hf'
                    simp only [List.map_nil, List.zip_nil_left, fillC, Option.some.injEq] at hf'
                    rw [← hf', hrep]
                  subst hcs0
                  simp only [Instr.buildSlice, Sem.run_bind, run_underlying (tk_slice hti), Result.andThen_ok, Wk.run_sizeOf (C.okT _ _ hte), h0, run_pure']
                  rw [if_neg (by decide), if_pos trivial]
                  simp only [Sem.run_bind, run_pure', Result.andThen_ok, hp, hp0, List.map_nil, List.zip_nil_left, Instr.fill]
                  have e0 : Array.map (fun x => (#[] : Array Value)[x % (#[] : Array Value).size]!) (Array.range 0) = ⟨[]⟩ := by apply Array.ext'; simp
                  rw [e0]; rfl
                · refine run_buildSlice hti (C.okT _ _ hte) len _ ⟨cs'⟩ ?_ (by simpa using hsm') h0 w
                  rw [hp]
                  have e3 : (Array.range (len * te.sz)).map (fun i => te.z.cells[i % te.z.cells.size]!) = ⟨rep len te.z.cells.toList⟩ := by
                    apply Array.ext'
                    show _ = rep len te.z.cells.toList
                    rw [← zeros_rep, hz']
                  rw [e3]
                  exact hfill
              simp only [execOp]
              rw [Sem.run_bind]
              have e2 : (parts.map fun (x : Nat × Operand) => (x.1, a.eval x.2)) = (parts.map fun (i, x) => (i, a.eval x)) := rfl
              rw [hrun]; rfl
            · cases hb
          · cases hb
    | _ => cases hb

def mksE (C : Ct) (s : St) (ty : TypeId) : Value → Value → Option (Value × St)
  | .int _ n, .int _ c => (match C.tt.get ty with
    | some ti => (match ti.k with
      | .slice e => (match C.tt.get e with
        | some te => bif Nat.beq te.z.cells.size te.sz && cst 8 te.z && decide (0 ≤ n) && decide (n ≤ c) && Nat.ble (te.by' * c.toNat) 281474976710656 && Nat.ble c.toNat 4294967296 then slcE n.toNat c.toNat (newE s e (rep c.toNat te.z.cells.toList)) else none
        | none => none)
      | _ => none)
    | none => none)
  | _, _ => none
theorem vm_mks {t : TypeId} {x y : Operand} {v q r : Value} (h : Fr ρ N fm a) (H : Sr C w0 D ρ s w) (hx : evE fm.t x = some v) (hy : evE fm.t y = some q) (hb : mksE C s t v q = some (r, s')) : Vm C w0 D ρ w a ⟨dst, .makeSlice t x y, ty, p, af, g⟩ r s' := by
  obtain ⟨v', hv, he⟩ := evE_spec h hx
  obtain ⟨q', hq, he'⟩ := evE_spec h hy
  unfold mksE at hb
  split at hb
  · rename_i k1 n k2 c
    simp only [conc, Option.some.injEq] at hv hq; subst hv; subst hq
    cases ht : C.tt.get t with
    | none => rw [ht] at hb; cases hb
    | some ti =>
      rw [ht] at hb
      have hti := C.okT _ _ ht
      obtain ⟨kk, z0, sz0, by0⟩ := ti
      cases kk with
      | slice e =>
        simp only at hb
        cases hte : C.tt.get e with
        | none => rw [hte] at hb; cases hb
        | some te =>
          rw [hte] at hb
          simp only at hb
          cases hq : (Nat.beq te.z.cells.size te.sz && cst 8 te.z && decide (0 ≤ n) && decide (n ≤ c) && Nat.ble (te.by' * c.toNat) 281474976710656 && Nat.ble c.toNat 4294967296) with
          | false => rw [hq] at hb; cases hb
          | true =>
            rw [hq, cond_true] at hb
            simp only [Bool.and_eq_true, decide_eq_true_eq] at hq
            obtain ⟨⟨⟨⟨⟨hz, hcz⟩, h0⟩, hnc⟩, hby⟩, hc32⟩ := hq
            have hz' := Nat.eq_of_beq_eq_true hz
            obtain ⟨b, h1, rfl, hcap⟩ := slcE_some hb
            obtain ⟨hc', H'⟩ := newE_spec H (concs_repl (conc_cells (ρ := ρ) (cst_conc hcz)).1 c.toNat) h1
            refine ⟨_, _, _, ?_, conc_sl hc' (hcap _ _) (by omega), H'⟩
            have hr := run_mk (P := C.P) hti (C.okT _ _ hte) k1 k2 n.toNat c.toNat (by omega) (Nat.le_of_ble_eq_true hby) (by have := Nat.le_of_ble_eq_true hc32; omega) w
            have e1 : madeCells te.z.cells (c.toNat * te.sz) = ⟨rep c.toNat te.z.cells.toList⟩ := by
              apply Array.ext'
              show (madeCells te.z.cells (c.toNat * te.sz)).toList = rep c.toNat te.z.cells.toList
              rw [← zeros_rep, hz']; simp only [madeCells, hz']
            rw [e1, Int.toNat_of_nonneg h0, Int.toNat_of_nonneg (Int.le_trans h0 hnc)] at hr
            simp only [execOp, he, he']
            rw [Sem.run_bind, hr]; rfl
      | _ => cases hb
  · cases hb
/-- An array, out of its parts. -/
def abE (C : Ct) (t : Tr Value) (ty : TypeId) (parts : Array (Nat × Operand)) : Option Value := match C.tt.get ty with
  | some ti => (match ti.k with
    | .array n e => (match C.tt.get e, evEs t (parts.toList.map (·.2)) with
      | some te, some vs => bif cst 8 ti.z then (fillC (gridOf n te.sz) ti.z.cells.toList ((parts.toList.map (·.1)).zip vs)).bind fun cs => some (.agg ⟨cs⟩) else none
      | _, _ => none)
    | _ => none)
  | none => none
theorem gv_ab {C : Ct} {ρ : Env} {N : Nat} {fm : Fm} {a : Act} {dst : Option Tmp} {ty : TypeId} {p : String} {af : Array Edge} {g : Option (Nat × Bool)} {t : TypeId} {parts : Array (Nat × Operand)} {r : Value} (h : Fr ρ N fm a)
    (hb : abE C fm.t t parts = some r) : Gv C ρ a ⟨dst, .build t parts, ty, p, af, g⟩ r := by
  unfold abE at hb
  cases ht : C.tt.get t with
  | none => rw [ht] at hb; cases hb
  | some ti =>
    rw [ht] at hb
    have hti := C.okT _ _ ht
    obtain ⟨kk, z, sz, by'⟩ := ti
    cases kk with
    | array n e =>
      simp only at hb
      split at hb
      · rename_i te vs h1 h2
        cases hc : cst 8 z with
        | false => rw [hc] at hb; cases hb
        | true =>
          rw [hc, cond_true] at hb
          obtain ⟨cs, hf, hb⟩ := Option.bind_eq_some_iff.1 hb
          cases hb
          have e1 := evEs_spec h h2
          have e2 := (conc_cells (ρ := ρ) (cst_conc hc)).1
          obtain ⟨cs', hcs, hf'⟩ := concs_fill e1 e2 hf
          have hfill := fill_CP (pl := fun i => some (i * te.sz, te.sz)) (gridOf n te.sz) (fun i q hq => gridOf_get hq) _ _ _ hf'
          refine ⟨.agg ⟨cs'⟩, conc_agg hcs, fun w => ?_⟩
          have hparts : (parts.map fun (i, x) => (i, a.eval x)).toList = (parts.toList.map (·.1)).zip ((parts.toList.map (·.2)).map a.eval) := by
            simp only [Array.toList_map, List.map_map]
            generalize parts.toList = l
            induction l with
            | nil => rfl
            | cons q l ih => simp only [List.map_cons, List.zip_cons_cons, ih]; rfl
          have hu : C.P.underlying t = some (.array n e) := by
            obtain ⟨dd, i, hd, _, hk, _⟩ := tiOf_spec hti
            cases dd <;> simp [tkOf] at hk
            rw [← hk.1, ← hk.2]; exact hd
          have hr : (Instr.build t (parts.map fun (i, x) => (i, a.eval x))).run C.P w = .ok (.agg ⟨cs'⟩) w := by
            simp only [Instr.build, Sem.run_bind, Wk.run_zeroValue hti, run_underlying hu, Wk.run_sizeOf (C.okT _ _ h1), Result.andThen_ok]
            rw [hparts]
            have e : (⟨z.cells.toList⟩ : Array Value) = z.cells := rfl
            rw [e] at hfill
            rw [hfill]
            simp only [run_pure']
          simp only [execOp]
          rw [Sem.run_bind]
          have e2 : (parts.map fun (x : Nat × Operand) => (x.1, a.eval x.2)) = (parts.map fun (i, x) => (i, a.eval x)) := rfl
          rw [hr]; rfl
      · cases hb
    | _ => cases hb
end
end Go.Ev

/- Memory: append, copy. -/
namespace Go.Ev
open Go.Wk
set_option linter.unusedVariables false
set_option linter.unusedSimpArgs false

/-! ### The model's append, in general -/
section
variable {P : Program} {t u ty e : TypeId} {te : Ti} {x : Value} {m n cap : Nat} {base : Option Addr} {news : List Value} {w : World}
theorem run_app_room (ht : P.underlying t = some (.slice e)) (hu : ∃ d, P.underlying u = some d ∧ ∀ k, d ≠ .int k) (hte : tiOf P e = some te) (hlen : (Builtin.lenOf x).run P w = .ok m w) (hf : (Builtin.firstCells te.sz m x).run P w = .ok ⟨news⟩ w) (hroom : n + m ≤ cap)
    {b o : Nat} {w' : World} (hb : base = some ⟨b, o, none⟩) (hst : (storeCells ⟨b, o + n * te.sz, none⟩ news 0).run P w = .ok () w') :
    (Builtin.append_ #[t, u] ty #[.slice base n cap, x]).run P w = .ok (.slice base (n + m) cap) w' := by
  obtain ⟨d, hd, hne⟩ := hu
  subst hb
  simp [Builtin.append_, run_underlying ht, run_underlying hd, Wk.run_sizeOf hte, hlen, hroom, hf, addr_add, hst]
theorem run_app_none (ht : P.underlying t = some (.slice e)) (hu : ∃ d, P.underlying u = some d ∧ ∀ k, d ≠ .int k) (hte : tiOf P e = some te) (hlen : (Builtin.lenOf x).run P w = .ok m w) (hf : (Builtin.firstCells te.sz m x).run P w = .ok ⟨news⟩ w) (hroom : n + m ≤ cap) :
    (Builtin.append_ #[t, u] ty #[.slice none n cap, x]).run P w = .ok (.slice none (n + m) cap) w := by
  obtain ⟨d, hd, hne⟩ := hu
  simp [Builtin.append_, run_underlying ht, run_underlying hd, Wk.run_sizeOf hte, hlen, hroom, hf]
theorem run_app_grow (ht : P.underlying t = some (.slice e)) (hu : ∃ d, P.underlying u = some d ∧ ∀ k, d ≠ .int k) (hte : tiOf P e = some te) (hlen : (Builtin.lenOf x).run P w = .ok m w) (hf : (Builtin.firstCells te.sz m x).run P w.drew = .ok ⟨news⟩ w.drew) (hroom : ¬ n + m ≤ cap)
    {olds : List Value} (ho : (Builtin.firstCells te.sz n (.slice base n cap)).run P w.drew = .ok ⟨olds⟩ w.drew) (hbytes : (n + m) * te.by' ≤ 140737488355328) (h63 : n + m ≤ 1152921504606846976) :
    (Builtin.append_ #[t, u] ty #[.slice base n cap, x]).run P w = .ok (.slice (some ⟨w.heap.size, 0, none⟩) (n + m) (grownCap w (n + m) cap e)) (w.drew.alloc (.cells ⟨(olds ++ news) ++ (Builtin.zeroCells te.z.cells (grownCap w (n + m) cap e - (n + m))).toList⟩ e)) := by
  obtain ⟨d, hd, hne⟩ := hu
  obtain ⟨dd, i, hud, hi, hk, hz, hs, hby⟩ := tiOf_spec hte
  have hfit := growslice_fits (need := n + m) (old := cap) (bytes := i.bytes) (by omega) (by rw [hby]; exact hbytes)
  have h48' : ¬ (281474976710656 < Builtin.nextslicecap (n + m) cap * i.bytes) := by omega
  have h63' : ¬ (9223372036854775807 < ((n : Int) + (m : Int))) := by omega
  rw [← hs] at hf ho
  have e1 : (⟨(olds ++ news) ++ (Builtin.zeroCells te.z.cells (grownCap w (n + m) cap e - (n + m))).toList⟩ : Array Value) = (⟨olds⟩ : Array Value) ++ ⟨news⟩ ++ Builtin.zeroCells te.z.cells (grownCap w (n + m) cap e - (n + m)) := by apply Array.ext'; simp
  rw [e1]
  simp [Builtin.append_, run_underlying ht, run_underlying hd, sizeOf, typeInfo, zeroValue, hi, hz, hlen, hroom, h63', h48', Question.forced, hf, ho, newRow, grownCap]
  congr 2
  apply Array.ext'
  simp
end

/-! ### What is appended -/
def newsE (C : Ct) (s : St) (sz : Nat) : Value → Option (Nat × List Value)
  | .slice none m _ => bif Nat.beq m 0 then some (0, []) else none
  | .slice (some ⟨b, o, none⟩) m _ => (match readC C s b o (m * sz) with
    | some cs => some (m, cs)
    | none => none)
  | .string q => bif Nat.beq sz 1 then some (q.data.toList.length, q.data.toList.map fun b => .int .u8 b.toNat) else none
  | _ => none
section
variable {C : Ct} {w0 : World} {D : Nat → Prop} {ρ : Env} {s s' : St} {w : World} {N : Nat} {fm : Fm} {a : Act} {dst : Option Tmp} {ty : TypeId} {p : String} {af : Array Edge} {g : Option (Nat × Bool)}
theorem concs_bytes : ∀ (l : List UInt8), concs ρ (l.map fun b => Value.int .u8 b.toNat) = some (l.map fun b => .int .u8 b.toNat)
  | [] => concs_nil ρ
  | b :: r => concs_cons.2 ⟨_, _, conc_int _ _ _, concs_bytes r, rfl⟩
theorem newsE_spec (H : Sr C w0 D ρ s w) {sz m : Nat} {x x' : Value} {cs : List Value} (hx : conc ρ x = some x') (h : newsE C s sz x = some (m, cs)) :
    ∃ cs', concs ρ cs = some cs' ∧ cs.length = m * sz ∧ (∀ w', (Builtin.lenOf x').run C.P w' = .ok m w') ∧ (Builtin.firstCells sz m x').run C.P w = .ok ⟨cs'⟩ w ∧ (Builtin.firstCells sz m x').run C.P w.drew = .ok ⟨cs'⟩ w.drew := by
  unfold newsE at h
  split at h
  · rename_i m' c
    cases hm : Nat.beq m' 0 with
    | false => rw [hm] at h; cases h
    | true =>
      rw [hm, cond_true] at h; cases h
      obtain rfl := Nat.eq_of_beq_eq_true hm
      simp only [conc, Option.some.injEq] at hx; subst hx
      exact ⟨[], concs_nil ρ, by simp, fun w' => rfl, by simp [Builtin.firstCells], by simp [Builtin.firstCells]⟩
  · rename_i b o m' c
    split at h
    · rename_i cs0 hr
      cases h
      obtain ⟨a', c', h1, h2, h3, rfl⟩ := conc_slice.1 hx
      simp only [cA, Option.map_eq_some_iff] at h1
      obtain ⟨b', hb', rfl⟩ := h1
      obtain ⟨cs', g1, g2, g3, g4⟩ := readC_spec H hb' hr
      refine ⟨cs', g1, g2, fun w' => rfl, ?_, ?_⟩
      · exact run_firstCells_some (P := C.P) w sz m ⟨b', o, none⟩ m c' cs' g3 (fun j v hj => by rw [addr_add]; exact g4 j v hj)
      · exact run_firstCells_some (P := C.P) w.drew sz m ⟨b', o, none⟩ m c' cs' g3 (fun j v hj => by rw [addr_add]; exact g4 j v hj)
    · cases h
  · rename_i q
    cases hs : Nat.beq sz 1 with
    | false => rw [hs] at h; cases h
    | true =>
      rw [hs, cond_true] at h; cases h
      obtain rfl := Nat.eq_of_beq_eq_true hs
      simp only [conc, Option.some.injEq] at hx; subst hx
      have hsz : q.size = q.data.toList.length := by simp
      have h1 : ∀ w', (Builtin.firstCells 1 q.data.toList.length (.string q)).run C.P w' = .ok ⟨q.data.toList.map fun b => .int .u8 b.toNat⟩ w' := fun w' => by
        rw [← hsz]; exact Go.Lib.run_firstCells_string w' 1 q
      exact ⟨_, concs_bytes _, by simp, fun w' => by rw [← hsz]; rfl, h1 w, h1 w.drew⟩
  · cases h

/-- A row that may grow. -/
def growE (C : Ct) (s : St) (e : TypeId) (n : Nat) (cs : List Value) : Option (Value × St) := bif Nat.ble BB e then none else (match s.new (.cells ⟨cs⟩ (e + BB) (0, 0)) with
  | some s' => some (.slice (some ⟨BB + s.n, 0, none⟩) n CC, s')
  | none => none)
theorem ccap_CC (ρ : Env) (n : Nat) : ccap ρ (BB + n) CC = (lcE ρ n).map Loc.cap := by
  unfold ccap
  have h1 : Nat.ble CC CC = true := by generalize CC = q; exact Nat.ble_eq_true_of_le (Nat.le_refl _)
  have h2 : ∀ x : Nat, x - (CC - CC) = x := fun x => by generalize CC = q; rw [Nat.sub_self]; rfl
  rw [h1, BB_ble, BB_sub]
  simp only [cond_true]
  have : (fun l : Loc => l.cap - (CC - CC)) = Loc.cap := funext fun l => h2 l.cap
  rw [this]

/-- The result of an append onto a grown row, newly allocated. -/
theorem growE_alloc (H : Sr C w0 D ρ s w) {e : TypeId} {te : Ti} {n cap : Nat} {cs cs' sp : List Value} {v : Value} (hte : C.tt.get e = some te) (hc : concs ρ cs = some cs') (hn : n ≤ cap) (hl : (cs' ++ sp).length = cap * te.sz) (h : growE C s e n cs = some (v, s')) :
    conc (ρ ++ [(s.n, ⟨w.heap.size, cap, sp⟩)]) v = some (.slice (some ⟨w.heap.size, 0, none⟩) n cap) ∧ Sr C w0 D (ρ ++ [(s.n, ⟨w.heap.size, cap, sp⟩)]) s' (w.alloc (.cells ⟨cs' ++ sp⟩ e)) := by
  unfold growE at h
  cases he : Nat.ble BB e with
  | true => rw [he] at h; cases h
  | false =>
    rw [he, cond_false] at h
    split at h
    · rename_i s1 hs
      cases h
      refine ⟨conc_sl ?_ ?_ hn, H.alloc (concO_grow (L := ⟨w.heap.size, cap, sp⟩) (concs_mono _ hc) hte hl) hs⟩
      · unfold cad
        rw [BB_ble, BB_sub, cond_true, lcE_new _ H.un]; rfl
      · rw [ccap_CC, lcE_new _ H.un]; rfl
    · cases h

def appE (C : Ct) (s : St) (t u : TypeId) : Value → Value → Option (Value × St)
  | .slice base n c, x => match C.tt.get t, C.tt.get u with
    | some ti, some ui => (match ti.k with
      | .slice e => bif (match ui.k with | .int _ => true | _ => false) then none else (match C.tt.get e with
        | some te => bif Nat.beq te.z.cells.size te.sz then (match newsE C s te.sz x with
          | some (m, news) => bif Nat.ble ((n + m) * te.by') 140737488355328 && Nat.ble (n + m) 4294967296 then (match base with
            | none => bif Nat.ble (n + m) c then some (.slice none (n + m) c, s) else bif Nat.beq n 0 then growE C s e m news else none
            | some ⟨b, o, none⟩ => bif Nat.ble CC c then
                (bif Nat.beq c CC && Nat.beq o 0 && Nat.ble BB b && news.all Value.oneCell' then (match s.h.get (b - BB) with
                  | some (.cells l e' (0, 0)) => bif Nat.beq e' (e + BB) then (match takeN l.toList 0 (n * te.sz), s.upd (b - BB) none with
                    | some xs, some s1 => growE C s1 e (n + m) (xs ++ news)
                    | _, _ => none) else none
                  | _ => none) else none)
              else bif Nat.ble (n + m) c then (match writeC s b (o + n * te.sz) news with
                | some s' => some (.slice (some ⟨b, o, none⟩) (n + m) c, s')
                | none => none)
              else (match readC C s b o (n * te.sz) with
                | some xs => growE C s e (n + m) (xs ++ news)
                | none => none)
            | _ => none) else none
          | none => none) else none
        | none => none)
      | _ => none)
    | _, _ => none
  | _, _ => none
theorem not_int {P : Program} {u : TypeId} {ui : Ti} (hu : tiOf P u = some ui) (hk : (match ui.k with | .int _ => true | _ => false) = false) : ∃ d, P.underlying u = some d ∧ ∀ k, d ≠ .int k := by
  obtain ⟨d, i, hd, _, hkk, _⟩ := tiOf_spec hu
  refine ⟨d, hd, fun k hdk => ?_⟩
  subst hdk
  rw [← hkk] at hk
  simp [tkOf] at hk
theorem zeroCells_len (z : Array Value) (n : Nat) : (Builtin.zeroCells z n).toList.length = n * z.size := by rw [Array.length_toList]; exact size_zeroCells z n
theorem vm_app {t u : TypeId} {x y : Operand} {v q r : Value} (h : Fr ρ N fm a) (H : Sr C w0 D ρ s w) (hx : evE fm.t x = some v) (hy : evE fm.t y = some q) (hb : appE C s t u v q = some (r, s')) :
    Vm C w0 D ρ w a ⟨dst, .call ⟨.builtin .append, #[x, y], #[t, u]⟩, ty, p, af, g⟩ r s' := by
  obtain ⟨v', hv, he⟩ := evE_spec h hx
  obtain ⟨q', hq, he'⟩ := evE_spec h hy
  have hop : ∀ {u' : Value} {w' : World}, (Builtin.append_ #[t, u] ty #[v', q']).run C.P w = .ok u' w' → (execOp a.eval ⟨dst, .call ⟨.builtin .append, #[x, y], #[t, u]⟩, ty, p, af, g⟩).run C.P w = .ok (.value u') w' := fun hr => by
    simp only [execOp]
    simp [resolve, invoke, builtin, he, he', hr]
  unfold appE at hb
  split at hb
  · rename_i base n c
    split at hb
    · rename_i ti ui ht hu
      have hti := C.okT _ _ ht
      obtain ⟨kk, z0, sz0, by0⟩ := ti
      cases kk with
      | slice e =>
        simp only at hb
        cases hk : (match ui.k with | .int _ => true | _ => false : Bool) with
        | true => rw [hk] at hb; cases hb
        | false =>
          rw [hk, cond_false] at hb
          have hui := not_int (C.okT _ _ hu) hk
          cases hte : C.tt.get e with
          | none => rw [hte] at hb; cases hb
          | some te =>
            rw [hte] at hb
            simp only at hb
            have htei := C.okT _ _ hte
            cases hz : Nat.beq te.z.cells.size te.sz with
            | false => rw [hz] at hb; cases hb
            | true =>
              rw [hz, cond_true] at hb
              have hz' := Nat.eq_of_beq_eq_true hz
              split at hb
              · rename_i m news hnews
                obtain ⟨news', hnc, hnl, hlen, hf1, hf2⟩ := newsE_spec H hq hnews
                have hnl' : news'.length = m * te.sz := by rw [concs_len hnc]; exact hnl
                cases hbd : (Nat.ble ((n + m) * te.by') 140737488355328 && Nat.ble (n + m) 4294967296) with
                | false => rw [hbd] at hb; cases hb
                | true =>
                  rw [hbd, cond_true] at hb
                  simp only [Bool.and_eq_true] at hbd
                  have hby := Nat.le_of_ble_eq_true hbd.1
                  have h32 := Nat.le_of_ble_eq_true hbd.2
                  have h63 : n + m ≤ 1152921504606846976 := by omega
                  -- a grown row
                  have grow : ∀ {S1 : St} (H1 : Sr C w0 D ρ S1 w) {cap : Nat} {base' : Option Addr} {olds olds' : List Value}, concs ρ olds = some olds' → olds'.length = n * te.sz → (Builtin.firstCells te.sz n (.slice base' n cap)).run C.P w.drew = .ok ⟨olds'⟩ w.drew → ¬ n + m ≤ cap →
                      growE C S1 e (n + m) (olds ++ news) = some (r, s') → v' = .slice base' n cap → Vm C w0 D ρ w a ⟨dst, .call ⟨.builtin .append, #[x, y], #[t, u]⟩, ty, p, af, g⟩ r s' := by
                    intro S1 H1 cap base' olds olds' ho hol hfo hnr hg hve
                    subst hve
                    have hr := run_app_grow (ty := ty) (tk_slice hti) hui htei (hlen w) hf2 hnr hfo hby h63
                    have hge := grownCap_ge w (n + m) cap e
                    obtain ⟨g1, g2⟩ := growE_alloc (w := w.drew) (cap := grownCap w (n + m) cap e) (sp := (Builtin.zeroCells te.z.cells (grownCap w (n + m) cap e - (n + m))).toList) H1.drew hte (concs_app ho hnc) hge
                      (by rw [List.length_append, List.length_append, zeroCells_len, hol, hnl', hz', ← Nat.add_mul, ← Nat.add_mul]; congr 1; omega) hg
                    exact ⟨_, _, _, hop hr, g1, g2⟩
                  split at hb
                  · -- onto nil
                    simp only [conc, Option.some.injEq] at hv; subst hv
                    cases hroom : Nat.ble (n + m) c with
                    | true =>
                      rw [hroom, cond_true] at hb; cases hb
                      have hr := run_app_none (ty := ty) (tk_slice hti) hui htei (hlen w) hf1 (Nat.le_of_ble_eq_true hroom)
                      exact ⟨[], _, _, hop hr, conc_sn _ _ _, by rw [List.append_nil]; exact H⟩
                    | false =>
                      rw [hroom, cond_false] at hb
                      cases hn0 : Nat.beq n 0 with
                      | false => rw [hn0] at hb; cases hb
                      | true =>
                        rw [hn0, cond_true] at hb
                        obtain rfl := Nat.eq_of_beq_eq_true hn0
                        have hnr : ¬ 0 + m ≤ c := fun hle => by rw [Nat.ble_eq_true_of_le hle] at hroom; cases hroom
                        refine grow H (olds := []) (olds' := []) (concs_nil ρ) (by simp) (by simp [Builtin.firstCells]) hnr ?_ rfl
                        rw [List.nil_append, Nat.zero_add]; exact hb
                  · rename_i b o
                    obtain ⟨a', c', h1, h2, h3, rfl⟩ := conc_slice.1 hv
                    simp only [cA, Option.map_eq_some_iff] at h1
                    obtain ⟨b', hb', rfl⟩ := h1
                    cases hcc : Nat.ble CC c with
                    | true =>
                      rw [hcc, cond_true] at hb
                      cases hq1 : (Nat.beq c CC && Nat.beq o 0 && Nat.ble BB b && news.all Value.oneCell') with
                      | false => rw [hq1] at hb; cases hb
                      | true =>
                        rw [hq1, cond_true] at hb
                        simp only [Bool.and_eq_true] at hq1
                        obtain ⟨⟨⟨hc1, ho0⟩, hbb⟩, hone⟩ := hq1
                        obtain rfl := Nat.eq_of_beq_eq_true ho0
                        obtain ⟨L, hL, rfl⟩ := cad_own hbb hb'
                        have hcap : c' = L.cap := by
                          have hc2 := Nat.eq_of_beq_eq_true hc1
                          subst hc2
                          have hbq : b = BB + (b - BB) := by
                            have := Nat.le_of_ble_eq_true hbb
                            revert this; generalize BB = q; omega
                          rw [hbq, ccap_CC, hL] at h2
                          exact (Option.some.inj h2).symm
                        subst hcap
                        generalize b - BB = k at hb hL
                        split at hb
                        · rename_i l e' hk
                          cases hee : Nat.beq e' (e + BB) with
                          | false => rw [hee] at hb; cases hb
                          | true =>
                            rw [hee, cond_true] at hb
                            have hee' := Nat.eq_of_beq_eq_true hee
                            split at hb
                            · rename_i xs s1 hxs hs1
                              obtain ⟨L2, o', g1, g2, g3⟩ := H.holds _ _ hk
                              rw [hL] at g1; cases g1
                              obtain ⟨l', e1, hl', rfl, halt⟩ := concO_cells g2
                              have hbe : Nat.ble BB e' = true := by rw [hee']; generalize BB = q; exact Nat.ble_eq_true_of_le (Nat.le_add_left _ _)
                              rcases halt with ⟨_, he1, te2, ht2, hln⟩ | ⟨hne, _⟩
                              · have he1' : e1 = e := by rw [he1, hee']; generalize BB = q; exact Nat.add_sub_cancel e q
                                rw [← he1, he1', hte] at ht2
                                cases ht2
                                subst he1'
                                obtain ⟨xs', hxc, hxl, hxl', hxg⟩ := takeN_spec hl' hxs
                                by_cases hroom : n + m ≤ L.cap
                                · -- in place
                                  have hxe : xs' = (l' ++ L.sp).take (n * te.sz) := by
                                    apply List.ext_getElem?
                                    intro j
                                    by_cases hj : j < n * te.sz
                                    · rw [List.getElem?_take, if_pos hj]
                                      have := hxg L.sp j xs'[j] (List.getElem?_eq_getElem (by omega))
                                      rw [Nat.zero_add] at this
                                      rw [this, List.getElem?_eq_getElem]
                                    · rw [List.getElem?_eq_none (by omega), List.getElem?_eq_none (by rw [List.length_take]; omega)]
                                  have hfit : n * te.sz + news'.length ≤ (l' ++ L.sp).length := by
                                    rw [hln, hnl', ← Nat.add_mul]; exact Nat.mul_le_mul_right _ hroom
                                  obtain ⟨w', hst, E⟩ := run_storeCells (P := C.P) (e := e1) news' (l' ++ L.sp) (0 + n * te.sz) 0 w (by simpa using g3) (by omega) (concs_one' hnc hone)
                                  have hr := run_app_room (ty := ty) (cap := L.cap) (tk_slice hti) hui htei (hlen w) hf1 hroom rfl hst
                                  have hput : putC (l' ++ L.sp) (0 + n * te.sz + 0) news' = (xs' ++ news') ++ (l' ++ L.sp).drop ((n + m) * te.sz) := by
                                    have e5 := putC_append news' ((l' ++ L.sp).take (n * te.sz)) ((l' ++ L.sp).drop (n * te.sz)) (by rw [List.length_drop]; omega)
                                    rw [List.take_append_drop, List.length_take, Nat.min_eq_left (by omega), List.drop_drop, hnl', ← Nat.add_mul] at e5
                                    rw [Nat.zero_add, Nat.add_zero, e5, hxe]
                                  rw [hput] at E
                                  unfold growE at hb
                                  cases hbe2 : Nat.ble BB e1 with
                                  | true => rw [hbe2] at hb; cases hb
                                  | false =>
                                    rw [hbe2, cond_false] at hb
                                    split at hb
                                    · rename_i s2 hs2
                                      cases hb
                                      have hlen2 : (xs' ++ news' ++ (l' ++ L.sp).drop ((n + m) * te.sz)).length = L.cap * te.sz := by
                                        have hle : (n + m) * te.sz ≤ (l' ++ L.sp).length := by rw [hln]; exact Nat.mul_le_mul_right _ hroom
                                        rw [List.length_append, List.length_append, hxl', hnl', List.length_drop, ← Nat.add_mul, ← hln]
                                        omega
                                      have hbl := E.holds L.ad _ List.mem_cons_self
                                      refine ⟨[(s1.n, ⟨L.ad, L.cap, (l' ++ L.sp).drop ((n + m) * te.sz)⟩)], _, w', hop hr, conc_sl ?_ ?_ hroom, H.move hk hL (concO_grow (L := ⟨L.ad, L.cap, (l' ++ L.sp).drop ((n + m) * te.sz)⟩) (concs_mono _ (concs_app hxc hnc)) hte hlen2) hs1 hs2 hbl (fun z hz1 hz2 => E.keep z hz1 (by simpa [ids] using hz2)) E.size E.os E.tape E.output⟩
                                      · unfold cad
                                        rw [BB_ble, BB_sub, cond_true, lcE_new _ (H.drop hs1).un]; rfl
                                      · rw [ccap_CC, lcE_new _ (H.drop hs1).un]; rfl
                                    · cases hb
                                · -- grown
                                  refine grow (H.drop hs1) hxc hxl' ?_ hroom hb rfl
                                  refine run_firstCells_some (P := C.P) w.drew te.sz n ⟨L.ad, 0, none⟩ n L.cap xs' hxl' (fun j v hj => ?_)
                                  rw [addr_add]
                                  have h7 := hxg L.sp j v hj
                                  have g3' : w.drew.heap[L.ad]? = _ := g3
                                  simp only [World.cell?, g3']
                                  simpa using h7
                              · rw [hbe] at hne; cases hne
                            · cases hb
                        · cases hb
                    | false =>
                      rw [hcc, cond_false] at hb
                      have hcc' : c' = c := by simp [ccap, hcc] at h2; exact h2.symm
                      subst hcc'
                      cases hroom : Nat.ble (n + m) c' with
                      | true =>
                        rw [hroom, cond_true] at hb
                        split at hb
                        · rename_i s1 hw
                          cases hb
                          obtain ⟨w', hst, H'⟩ := writeC_spec (P := C.P) H hb' hnc hw
                          have hr := run_app_room (ty := ty) (cap := c') (tk_slice hti) hui htei (hlen w) hf1 (Nat.le_of_ble_eq_true hroom) rfl hst
                          exact ⟨[], _, w', hop hr, by rw [List.append_nil]; exact conc_sl hb' h2 (Nat.le_of_ble_eq_true hroom), by rw [List.append_nil]; exact H'⟩
                        · cases hb
                      | false =>
                        rw [hroom, cond_false] at hb
                        split at hb
                        · rename_i xs hxs
                          obtain ⟨xs', g1, g2, g3, g4⟩ := readC_spec H hb' hxs
                          have hnr : ¬ n + m ≤ c' := fun hle => by rw [Nat.ble_eq_true_of_le hle] at hroom; cases hroom
                          refine grow H g1 g3 ?_ hnr hb rfl
                          exact run_firstCells_some (P := C.P) w.drew te.sz n ⟨b', o, none⟩ n c' xs' g3 (fun j v hj => by rw [addr_add]; exact g4 j v hj)
                        · cases hb
                  · cases hb
              · cases hb
      | _ => cases hb
    · cases hb
  · cases hb
end
end Go.Ev

/- Memory: copies, bytes and strings, pointers seen as others. -/
namespace Go.Ev
open Go.Wk
set_option linter.unusedVariables false
set_option linter.unusedSimpArgs false

section
variable {C : Ct} {w0 : World} {D : Nat → Prop} {ρ : Env} {s s' : St} {w : World} {N : Nat} {fm : Fm} {a : Act} {dst : Option Tmp} {ty : TypeId} {p : String} {af : Array Edge} {g : Option (Nat × Bool)}

/-! ### copy -/
def srcE (C : Ct) (s : St) (sz n : Nat) : Value → Option (Nat × List Value)
  | .slice none m _ => bif Nat.beq m 0 then some (0, []) else none
  | .slice (some ⟨b, o, none⟩) m _ => (match readC C s b o (Nat.min m n * sz) with
    | some cs => some (Nat.min m n, cs)
    | none => none)
  | .string q => bif Nat.beq sz 1 then some (Nat.min q.data.toList.length n, (q.data.toList.take (Nat.min q.data.toList.length n)).map fun b => .int .u8 b.toNat) else none
  | _ => none
theorem srcE_spec (H : Sr C w0 D ρ s w) {sz n k : Nat} {x x' : Value} {cs : List Value} (hx : conc ρ x = some x') (h : srcE C s sz n x = some (k, cs)) :
    ∃ m cs', (Builtin.lenOf x').run C.P w = .ok m w ∧ Nat.min m n = k ∧ concs ρ cs = some cs' ∧ cs.length = k * sz ∧ (Builtin.firstCells sz k x').run C.P w = .ok ⟨cs'⟩ w := by
  unfold srcE at h
  split at h
  · rename_i m' c
    cases hm : Nat.beq m' 0 with
    | false => rw [hm] at h; cases h
    | true =>
      rw [hm, cond_true] at h; cases h
      obtain rfl := Nat.eq_of_beq_eq_true hm
      simp only [conc, Option.some.injEq] at hx; subst hx
      exact ⟨0, [], rfl, Nat.zero_min n, concs_nil ρ, by simp, by simp [Builtin.firstCells]⟩
  · rename_i b o m' c
    split at h
    · rename_i cs0 hr
      cases h
      obtain ⟨a', c', h1, h2, h3, rfl⟩ := conc_slice.1 hx
      simp only [cA, Option.map_eq_some_iff] at h1
      obtain ⟨b', hb', rfl⟩ := h1
      obtain ⟨cs', g1, g2, g3, g4⟩ := readC_spec H hb' hr
      exact ⟨m', cs', rfl, rfl, g1, g2, run_firstCells_some (P := C.P) w sz _ ⟨b', o, none⟩ m' c' cs' g3 (fun j v hj => by rw [addr_add]; exact g4 j v hj)⟩
    · cases h
  · rename_i q
    cases hs : Nat.beq sz 1 with
    | false => rw [hs] at h; cases h
    | true =>
      rw [hs, cond_true] at h; cases h
      obtain rfl := Nat.eq_of_beq_eq_true hs
      simp only [conc, Option.some.injEq] at hx; subst hx
      have hsz : q.size = q.data.toList.length := by simp
      refine ⟨q.size, _, rfl, by rw [hsz], concs_bytes _, ?_, ?_⟩
      · rw [List.length_map, List.length_take, Nat.mul_one]
        exact Nat.min_eq_left (Nat.min_le_left _ _)
      · have h1 : (Builtin.firstCells 1 (Nat.min q.data.toList.length n) (.string q)) = pure ((q.extract 0 (Nat.min q.data.toList.length n)).data.map fun b => .int .u8 b.toNat) := rfl
        rw [h1]
        have e : (q.extract 0 (Nat.min q.data.toList.length n)).data.map (fun b => Value.int .u8 b.toNat) = ⟨(q.data.toList.take (Nat.min q.data.toList.length n)).map fun b => .int .u8 b.toNat⟩ := by
          apply Array.ext'
          simp
        rw [e]; rfl
  · cases h
def cpyE (C : Ct) (s : St) (t : TypeId) : Value → Value → Option (Value × St)
  | .slice base n c, x => (match C.tt.get t with
    | some ti => (match ti.k with
      | .slice e => (match C.tt.get e with
        | some te => (match srcE C s te.sz n x with
          | some (k, cs) => (match base with
            | none => bif Nat.beq k 0 then some (.int .i64 0, s) else none
            | some ⟨b, o, none⟩ => bif Nat.beq (k * te.sz) 0 then some (.int .i64 k, s) else (match writeC s b o cs with
              | some s' => some (.int .i64 k, s')
              | none => none)
            | _ => none)
          | none => none)
        | none => none)
      | _ => none)
    | none => none)
  | _, _ => none
theorem vm_cpy {t u : TypeId} {x y : Operand} {v q r : Value} (h : Fr ρ N fm a) (H : Sr C w0 D ρ s w) (hx : evE fm.t x = some v) (hy : evE fm.t y = some q) (hb : cpyE C s t v q = some (r, s')) :
    Vm C w0 D ρ w a ⟨dst, .call ⟨.builtin .copy, #[x, y], #[t, u]⟩, ty, p, af, g⟩ r s' := by
  obtain ⟨v', hv, he⟩ := evE_spec h hx
  obtain ⟨q', hq, he'⟩ := evE_spec h hy
  have hop : ∀ {u' : Value} {w' : World}, (Builtin.copy_ #[t, u] ty #[v', q']).run C.P w = .ok u' w' → (execOp a.eval ⟨dst, .call ⟨.builtin .copy, #[x, y], #[t, u]⟩, ty, p, af, g⟩).run C.P w = .ok (.value u') w' := fun hr => by
    simp only [execOp]
    simp [resolve, invoke, builtin, he, he', hr]
  unfold cpyE at hb
  split at hb
  · rename_i base n c
    cases ht : C.tt.get t with
    | none => rw [ht] at hb; cases hb
    | some ti =>
      rw [ht] at hb
      have hti := C.okT _ _ ht
      obtain ⟨kk, z0, sz0, by0⟩ := ti
      cases kk with
      | slice e =>
        simp only at hb
        cases hte : C.tt.get e with
        | none => rw [hte] at hb; cases hb
        | some te =>
          rw [hte] at hb
          simp only at hb
          split at hb
          · rename_i k cs hs
            obtain ⟨m, cs', g1, g2, g3, g4, g5⟩ := srcE_spec H hq hs
            split at hb
            · simp only [conc, Option.some.injEq] at hv; subst hv
              cases hk : Nat.beq k 0 with
              | false => rw [hk] at hb; cases hb
              | true =>
                rw [hk, cond_true] at hb; cases hb
                obtain rfl := Nat.eq_of_beq_eq_true hk
                refine ⟨[], .int .i64 0, w, hop ?_, conc_int _ _ _, by rw [List.append_nil]; exact H⟩
                rw [← g2] at g5
                simp [Builtin.copy_, run_underlying (tk_slice hti), Wk.run_sizeOf (C.okT _ _ hte), g1, g5, goInt]
                have h7 : min m n = 0 := g2
                omega
            · rename_i b o
              obtain ⟨a', c', h1, h2, h3, rfl⟩ := conc_slice.1 hv
              simp only [cA, Option.map_eq_some_iff] at h1
              obtain ⟨b', hb', rfl⟩ := h1
              cases hk : Nat.beq (k * te.sz) 0 with
              | true =>
                rw [hk, cond_true] at hb; cases hb
                have hl0 : cs' = [] := by
                  apply List.eq_nil_of_length_eq_zero
                  rw [concs_len g3, g4]; exact Nat.eq_of_beq_eq_true hk
                subst hl0
                refine ⟨[], .int .i64 k, w, hop ?_, conc_int _ _ _, by rw [List.append_nil]; exact H⟩
                subst g2
                simp [Builtin.copy_, run_underlying (tk_slice hti), Wk.run_sizeOf (C.okT _ _ hte), g1, g5, goInt, storeCells]
              | false =>
                rw [hk, cond_false] at hb
                split at hb
                · rename_i s1 hw
                  cases hb
                  obtain ⟨w', hst, H'⟩ := writeC_spec (P := C.P) H hb' g3 hw
                  refine ⟨[], .int .i64 k, w', hop ?_, conc_int _ _ _, by rw [List.append_nil]; exact H'⟩
                  subst g2
                  simp [Builtin.copy_, run_underlying (tk_slice hti), Wk.run_sizeOf (C.okT _ _ hte), g1, g5, goInt, hst]
                · cases hb
            · cases hb
          · cases hb
      | _ => cases hb
  · cases hb

/-! ### Bytes as a string -/
def byt : List Value → Option (List UInt8)
  | [] => some []
  | .int .u8 n :: r => bif decide (0 ≤ n) && decide (n < 256) then (match byt r with
    | some l => some (UInt8.ofNat n.toNat :: l)
    | none => none) else none
  | _ :: _ => none
theorem byt_spec : ∀ {cs : List Value} {l : List UInt8}, byt cs = some l → cs = l.map fun b => .int .u8 b.toNat
  | [], l, h => by simp only [byt] at h; cases h; rfl
  | c :: r, l, h => by
    unfold byt at h
    split at h
    · rename_i hh; cases hh
    · rename_i n r' heq
      cases heq
      cases hq : (decide (0 ≤ n) && decide (n < 256)) with
      | false => rw [hq] at h; cases h
      | true =>
        rw [hq, cond_true] at h
        simp only [Bool.and_eq_true, decide_eq_true_eq] at hq
        split at h
        · rename_i l' h2
          cases h
          rw [List.map_cons, ← byt_spec h2]
          congr 2
          have h3 : n.toNat < 256 := by omega
          rw [UInt8.toNat_ofNat']
          have : n.toNat % 2 ^ 8 = n.toNat := Nat.mod_eq_of_lt h3
          rw [this]
          exact (Int.toNat_of_nonneg hq.1).symm
        · cases h
    · cases h
def isByteSl (C : Ct) (src : TypeId) : Bool := match C.tt.get src with
  | some si => (match si.k with
    | .slice e => (match C.tt.get e with
      | some te => (match te.k with | .int .u8 => true | _ => false)
      | none => false)
    | _ => false)
  | none => false
def isStr (C : Ct) (t : TypeId) : Bool := match C.tt.get t with
  | some si => (match si.k with | .string => true | _ => false)
  | none => false
theorem isByteSl_spec {src : TypeId} (h : isByteSl C src = true) : ∃ e, C.P.underlying src = some (.slice e) ∧ C.P.underlying e = some (.int .u8) := by
  unfold isByteSl at h
  split at h
  · rename_i si hs
    obtain ⟨k, z, sz, by'⟩ := si
    cases k with
    | slice e =>
      simp only at h
      split at h
      · rename_i te hte
        obtain ⟨k2, z2, sz2, by2⟩ := te
        cases k2 with
        | int ik => cases ik <;> first | exact ⟨e, tk_slice (C.okT _ _ hs), tk_int (C.okT _ _ hte)⟩ | cases h
        | _ => cases h
      · cases h
    | _ => cases h
  · cases h
theorem isStr_spec {t : TypeId} (h : isStr C t = true) : C.P.underlying t = some .string := by
  unfold isStr at h
  split at h
  · rename_i si hs
    obtain ⟨k, z, sz, by'⟩ := si
    cases k <;> first | exact tk_string (C.okT _ _ hs) | cases h
  · cases h
def bstE (C : Ct) (s : St) (src dst : TypeId) : Value → Option Value
  | .slice none n c => bif isByteSl C src && isStr C dst then some (.string ⟨⟨[]⟩⟩) else none
  | .slice (some ⟨b, o, none⟩) n c => bif isByteSl C src && isStr C dst then (match readC C s b o n with
    | some cs => (match byt cs with
      | some l => some (.string ⟨⟨l⟩⟩)
      | none => none)
    | none => none) else none
  | _ => none
theorem concs_byt {cs cs' : List Value} {l : List UInt8} (h : byt cs = some l) (hc : concs ρ cs = some cs') : cs' = l.map fun b => .int .u8 b.toNat := by
  rw [byt_spec h, concs_bytes] at hc
  exact (Option.some.inj hc).symm
theorem vm_bst {src dst' : TypeId} {x : Operand} {v r : Value} (h : Fr ρ N fm a) (H : Sr C w0 D ρ s w) (hx : evE fm.t x = some v) (hb : bstE C s src dst' v = some r) : Vm C w0 D ρ w a ⟨dst, .convert src dst' x, ty, p, af, g⟩ r s := by
  obtain ⟨v', hv, he⟩ := evE_spec h hx
  have hop : ∀ {u' : Value}, (convert src dst' v').run C.P w = .ok u' w → (execOp a.eval ⟨dst, .convert src dst' x, ty, p, af, g⟩).run C.P w = .ok (.value u') w := fun hr => by
    simp only [execOp, he]
    rw [Sem.run_bind, hr]; rfl
  unfold bstE at hb
  split at hb
  · rename_i n c
    cases hq : (isByteSl C src && isStr C dst') with
    | false => rw [hq] at hb; cases hb
    | true =>
      rw [hq, cond_true] at hb; cases hb
      simp only [Bool.and_eq_true] at hq
      obtain ⟨e, h1, h2⟩ := isByteSl_spec hq.1
      have h3 := isStr_spec hq.2
      simp only [conc, Option.some.injEq] at hv; subst hv
      refine ⟨[], _, w, hop ?_, conc_str _ _, by rw [List.append_nil]; exact H⟩
      rw [run_convert_bytes_string w src dst' e none n c h1 h2 h3]
      rfl
  · rename_i b o n c
    cases hq : (isByteSl C src && isStr C dst') with
    | false => rw [hq] at hb; cases hb
    | true =>
      rw [hq, cond_true] at hb
      simp only [Bool.and_eq_true] at hq
      obtain ⟨e, h1, h2⟩ := isByteSl_spec hq.1
      have h3 := isStr_spec hq.2
      split at hb
      · rename_i cs hr
        split at hb
        · rename_i l hl
          cases hb
          obtain ⟨a', c', ha, hc, hn, rfl⟩ := conc_slice.1 hv
          simp only [cA, Option.map_eq_some_iff] at ha
          obtain ⟨b', hb', rfl⟩ := ha
          obtain ⟨cs', g1, g2, g3, g4⟩ := readC_spec H hb' hr
          have e1 := concs_byt hl g1
          subst e1
          refine ⟨[], _, w, hop ?_, conc_str _ _, by rw [List.append_nil]; exact H⟩
          have hll : l.length = n := by simpa using g3
          subst hll
          exact run_convert_bytes_back w src dst' e ⟨b', o, none⟩ c' l h1 h2 h3 (fun j hj => by
            rw [addr_add]
            exact g4 j _ (by rw [List.getElem?_map, List.getElem?_eq_getElem hj]; rfl))
        · cases hb
      · cases hb
  · cases hb

/-! ### Strings laid over a row, pointers without a type and back, pointers held against themselves -/
theorem shape_own (H : Sr C w0 D ρ s w) {k : Nat} {l : Array Value} {e : TypeId} {fz : Nat × Nat} {L : Loc} (hk : s.h.get k = some (.cells l e fz)) (hL : lcE ρ k = some L) :
    ∃ l' e', concs ρ l.toList = some l' ∧ w.heap[L.ad]? = some (.cells ⟨l' ++ L.sp⟩ e' (fzc L fz)) ∧ w.shape? L.ad = some (e', (l' ++ L.sp).length) ∧ ((Nat.ble BB e = true ∧ e' = e - BB) ∨ (Nat.ble BB e = false ∧ e' = e ∧ L.sp = [])) := by
  obtain ⟨L2, o', g1, g2, g3⟩ := H.holds _ _ hk
  rw [hL] at g1; cases g1
  obtain ⟨l', e', h1, rfl, h3⟩ := concO_cells g2
  refine ⟨l', e', h1, g3, ?_, ?_⟩
  · unfold World.shape?; rw [g3]; rfl
  · rcases h3 with ⟨h4, h5, _⟩ | h4
    · exact .inl ⟨h4, h5⟩
    · exact .inr h4

def ustE.isBytePt (C : Ct) (pt e : TypeId) : Bool := match C.tt.get pt, C.tt.get e with
  | some pi, some te => (match pi.k with | .pointer e' => Nat.beq e' e | _ => false) && Nat.beq te.sz 1
  | _, _ => false
def ustE (C : Ct) (s : St) (pt : TypeId) : Value → Value → Option (Value × St)
  | .pointer q, .int .i64 n => bif decide (n = 0) then some (.string ⟨⟨[]⟩⟩, s) else (match q with
    | some ⟨b, 0, none⟩ => bif Nat.ble BB b && decide (0 ≤ n) && decide (n < 4294967296) then (match s.h.get (b - BB) with
      | some (.cells l e (0, 0)) => bif ustE.isBytePt C pt (bif Nat.ble BB e then e - BB else e) then ((takeN l.toList 0 n.toNat).bind fun cs => (byt cs).bind fun bs => (s.upd (b - BB) (some (.cells l e (0, n.toNat)))).bind fun s' => some (.string ⟨⟨bs⟩⟩, s')) else none
      | _ => none) else none
    | _ => none)
  | _, _ => none
theorem isBytePt_spec {pt e : TypeId} (h : ustE.isBytePt C pt e = true) : C.P.underlying pt = some (.pointer e) ∧ C.P.cellsOf e = 1 := by
  unfold ustE.isBytePt at h
  split at h
  · rename_i pi te hp he
    simp only [Bool.and_eq_true] at h
    obtain ⟨h1, h2⟩ := h
    obtain ⟨k, z, sz, by'⟩ := pi
    obtain ⟨d, i, hd, hi, hk, hz, hs, hb⟩ := tiOf_spec (C.okT _ _ he)
    cases k with
    | pointer e' =>
      simp only at h1
      obtain rfl := Nat.eq_of_beq_eq_true h1
      refine ⟨tk_pointer (C.okT _ _ hp), ?_⟩
      unfold Program.cellsOf
      rw [hi]
      simp [hs, Nat.eq_of_beq_eq_true h2]
    | _ => cases h1
  · cases h
theorem vm_ust {pt it : TypeId} {x y : Operand} {v q r : Value} (h : Fr ρ N fm a) (H : Sr C w0 D ρ s w) (hx : evE fm.t x = some v) (hy : evE fm.t y = some q) (hb : ustE C s pt v q = some (r, s')) :
    Vm C w0 D ρ w a ⟨dst, .call ⟨.builtin .unsafeString, #[x, y], #[pt, it]⟩, ty, p, af, g⟩ r s' := by
  obtain ⟨v', hv, he⟩ := evE_spec h hx
  obtain ⟨q', hq, he'⟩ := evE_spec h hy
  have hop : ∀ {u' : Value} {w' : World}, (Builtin.unsafeString_ #[pt, it] ty #[v', q']).run C.P w = .ok u' w' → (execOp a.eval ⟨dst, .call ⟨.builtin .unsafeString, #[x, y], #[pt, it]⟩, ty, p, af, g⟩).run C.P w = .ok (.value u') w' := fun hr => by
    simp only [execOp]
    simp [resolve, invoke, builtin, he, he', hr]
  unfold ustE at hb
  split at hb
  · rename_i q0 n
    simp only [conc, Option.some.injEq] at hq; subst hq
    cases hn0 : decide (n = 0) with
    | true =>
      rw [hn0, cond_true] at hb; cases hb
      simp only [decide_eq_true_eq] at hn0
      subst hn0
      have : ∃ q1, v' = .pointer q1 := by
        cases q0 with
        | none => simp [conc] at hv; exact ⟨_, hv.symm⟩
        | some q0 => simp only [conc, Option.map_eq_some_iff] at hv; obtain ⟨b, _, rfl⟩ := hv; exact ⟨_, rfl⟩
      obtain ⟨q1, rfl⟩ := this
      refine ⟨[], _, w, hop (Go.Lib.run_unsafeString_none w pt it ty q1), conc_str _ _, by rw [List.append_nil]; exact H⟩
    | false =>
      rw [hn0, cond_false] at hb
      simp only [decide_eq_false_iff_not] at hn0
      split at hb
      · rename_i b
        simp only [conc, cA, Option.map_eq_some_iff] at hv
        obtain ⟨_, ⟨b', hb', rfl⟩, rfl⟩ := hv
        cases hq : (Nat.ble BB b && decide (0 ≤ n) && decide (n < 4294967296)) with
        | false => rw [hq] at hb; cases hb
        | true =>
          rw [hq, cond_true] at hb
          simp only [Bool.and_eq_true, decide_eq_true_eq] at hq
          obtain ⟨⟨hbb, hn1⟩, hn2⟩ := hq
          obtain ⟨L, hL, rfl⟩ := cad_own hbb hb'
          generalize b - BB = k at hb hL
          split at hb
          · rename_i l e hk
            obtain ⟨l', e', h1, h2, h3, h4⟩ := shape_own H hk hL
            rw [fzc_z] at h2
            have hee : (bif Nat.ble BB e then e - BB else e) = e' := by
              rcases h4 with ⟨h5, h6⟩ | ⟨h5, h6, _⟩
              · rw [h5, cond_true]; exact h6.symm
              · rw [h5, cond_false]; exact h6.symm
            rw [hee] at hb
            cases hbp : ustE.isBytePt C pt e' with
            | false => rw [hbp] at hb; cases hb
            | true =>
              rw [hbp, cond_true] at hb
              obtain ⟨h5, h6⟩ := isBytePt_spec hbp
              obtain ⟨cs, hcs, hb⟩ := Option.bind_eq_some_iff.1 hb
              obtain ⟨bs, hbs, hb⟩ := Option.bind_eq_some_iff.1 hb
              obtain ⟨s1, hs1, hb⟩ := Option.bind_eq_some_iff.1 hb
              cases hb
              obtain ⟨cs', g1, g2, g3, g4⟩ := takeN_spec h1 hcs
              have e1 := concs_byt hbs g1
              subst e1
              have hbl : bs.length = n.toNat := by simpa using g3
              have hne : bs ≠ [] := fun hnil => by rw [hnil] at hbl; simp at hbl; omega
              have hfit : bs.length ≤ (l' ++ L.sp).length := by
                have := g4 L.sp (bs.length - 1) (.int .u8 (bs[bs.length - 1]'(by have := List.length_pos_iff.2 hne; omega)).toNat) (by rw [List.getElem?_map, List.getElem?_eq_getElem]; rfl)
                have := (List.getElem?_eq_some_iff.1 this).1
                omega
              have hr := Go.Lib.run_unsafeString_row (P := C.P) w pt it ty e' h5 h6 L.ad _ h3 bs hne hfit (by omega) (fun j x hj => by
                rw [addr_add]
                simp only [World.cell?, h2]
                have := g4 L.sp j (.int .u8 x.toNat) (by rw [List.getElem?_map, hj]; rfl)
                simpa using this)
              have hnn : (bs.length : Int) = n := by rw [hbl]; exact Int.toNat_of_nonneg hn1
              rw [hnn] at hr
              refine ⟨[], _, _, hop hr, conc_str _ _, ?_⟩
              rw [List.append_nil]
              obtain ⟨L2, o', q1, q2, q3⟩ := H.holds _ _ hk
              rw [hL] at q1; cases q1
              obtain ⟨e'', hput, l'', hl'', ho⟩ := concO_put (fz' := (0, n.toNat)) (m := l.toList) (m' := l') q2 h1 rfl
              rw [fzc_z] at hput ho
              rw [h2] at q3
              have q4 := Option.some.inj q3
              rw [ho] at q4
              have he2 : e' = e'' := by injection q4
              subst he2
              have hfr : ∀ z, (w.freeze ⟨L.ad, 0, none⟩ bs.length).heap[z]? = if z = L.ad then some (.cells ⟨l' ++ L.sp⟩ e' (0, n.toNat)) else w.heap[z]? := fun z => by
                unfold World.freeze
                rw [if_neg (by have := List.length_pos_iff.2 hne; omega)]
                simp only [Array.getElem?_modify]
                by_cases hz : L.ad = z
                · subst hz
                  rw [if_pos rfl, if_pos rfl, h2]
                  simp [hbl]
                · rw [if_neg hz, if_neg (Ne.symm hz)]
              refine H.write hk hL hput hs1 (by rw [hfr, if_pos rfl]) (fun z _ hz => by rw [hfr, if_neg hz]) ?_ ?_ ?_ ?_
              · unfold World.freeze; split <;> simp
              · unfold World.freeze; split <;> rfl
              · unfold World.freeze; split <;> rfl
              · unfold World.freeze; split <;> rfl
          · cases hb
      · cases hb
  · cases hb

/-- *T to a pointer without a type and back: at a row of one's own that does not grow. -/
def uptE (C : Ct) (s : St) (src dst : TypeId) : Value → Option Value
  | .pointer (some ⟨b, o, none⟩) => bif Nat.ble BB b then (match s.h.get (b - BB) with
    | some (.cells l e _) => bif Nat.ble BB e then none else (match C.tt.get src, C.tt.get dst with
      | some si, some di => (match si.k, di.k with
        | .pointer t, .other => (match C.P.underlying dst, C.tt.get t with
          | some .unsafePointer, some ti => bif Nat.beq ti.sz 0 then none else bif Nat.blt o l.toList.length then some (.pointer (some ⟨b, o, none⟩)) else none
          | _, _ => none)
        | .other, .pointer u => (match C.P.underlying src, C.tt.get u with
          | some .unsafePointer, some _ => bif liesAt C.P C.P.depth e (l.toList.length / C.P.cellsOf e) o u 1 then some (.pointer (some ⟨b, o, none⟩)) else none
          | _, _ => none)
        | _, _ => none)
      | _, _ => none)
    | _ => none) else none
  | _ => none
theorem vm_upt {src dst' : TypeId} {x : Operand} {v r : Value} (h : Fr ρ N fm a) (H : Sr C w0 D ρ s w) (hx : evE fm.t x = some v) (hb : uptE C s src dst' v = some r) : Vm C w0 D ρ w a ⟨dst, .convert src dst' x, ty, p, af, g⟩ r s := by
  obtain ⟨v', hv, he⟩ := evE_spec h hx
  have hop : ∀ {u' : Value}, (convert src dst' v').run C.P w = .ok u' w → (execOp a.eval ⟨dst, .convert src dst' x, ty, p, af, g⟩).run C.P w = .ok (.value u') w := fun hr => by
    simp only [execOp, he]
    rw [Sem.run_bind, hr]; rfl
  unfold uptE at hb
  split at hb
  · rename_i b o
    have hv0 := hv
    simp only [conc, cA, Option.map_eq_some_iff] at hv
    obtain ⟨_, ⟨b', hb', rfl⟩, rfl⟩ := hv
    cases hbb : Nat.ble BB b with
    | false => rw [hbb] at hb; cases hb
    | true =>
      rw [hbb, cond_true] at hb
      obtain ⟨L, hL, rfl⟩ := cad_own hbb hb'
      generalize b - BB = k at hb hL
      split at hb
      · rename_i l e fz hk
        cases hee : Nat.ble BB e with
        | true => rw [hee] at hb; cases hb
        | false =>
          rw [hee, cond_false] at hb
          obtain ⟨l', e', h1, h2, h3, h4⟩ := shape_own H hk hL
          rcases h4 with ⟨h5, _⟩ | ⟨_, rfl, h6⟩
          · rw [hee] at h5; cases h5
          · rw [h6, List.append_nil] at h3
            have hll : l'.length = l.toList.length := concs_len h1
            split at hb
            · rename_i si di hs hd
              obtain ⟨k1, z1, sz1, by1⟩ := si
              obtain ⟨k2, z2, sz2, by2⟩ := di
              simp only at hb
              split at hb
              · rename_i t
                split at hb
                · rename_i ti hu ht
                  cases hz : Nat.beq ti.sz 0 with
                  | true => rw [hz] at hb; cases hb
                  | false =>
                    rw [hz, cond_false] at hb
                    cases ho : Nat.blt o l.toList.length with
                    | false => rw [ho] at hb; cases hb
                    | true =>
                      rw [ho, cond_true] at hb; cases hb
                      have ho' : o < l.toList.length := Nat.lt_of_lt_of_le (Nat.lt_succ_self _) (Nat.le_of_ble_eq_true ho)
                      obtain ⟨d, i, _, hi, _, _, hsz, _⟩ := tiOf_spec (C.okT _ _ ht)
                      refine ⟨[], _, w, hop (Go.Lib.run_to_unsafe w ⟨L.ad, o, none⟩ (tk_pointer (C.okT _ _ hs)) hu hi (by rw [hsz]; exact Nat.ne_of_beq_eq_false hz) h3 (by rw [hll]; exact ho')), by rw [List.append_nil]; exact hv0, by rw [List.append_nil]; exact H⟩
                · cases hb
              · rename_i u
                split at hb
                · rename_i ti hu ht
                  cases hz : liesAt C.P C.P.depth e' (l.toList.length / C.P.cellsOf e') o u 1 with
                  | false => rw [hz] at hb; cases hb
                  | true =>
                    rw [hz, cond_true] at hb; cases hb
                    obtain ⟨d, i, _, hi, _, _, hsz, _⟩ := tiOf_spec (C.okT _ _ ht)
                    refine ⟨[], _, w, hop (Go.Lib.run_from_unsafe w ⟨L.ad, o, none⟩ hu (tk_pointer (C.okT _ _ hd)) hi h3 (by rw [hll]; exact hz)), by rw [List.append_nil]; exact hv0, by rw [List.append_nil]; exact H⟩
                · cases hb
              · cases hb
            · cases hb
      · cases hb
  · cases hb

/-- A string's bytes, anew. -/
def sbtE (C : Ct) (s : St) (src dst : TypeId) : Value → Option (Value × St)
  | .string q => bif isStr C src && isByteSl C dst then (match C.tt.get dst with
    | some di => (match di.k with
      | .slice e => bif Nat.ble BB e then none else (match C.tt.get e with
        | some te => bif Nat.beq te.sz 1 then (match s.new (.cells ⟨q.data.toList.map fun b => .int .u8 b.toNat⟩ (e + BB) (BB, 0)) with
          | some s' => some (.slice (some ⟨BB + s.n, 0, none⟩) q.data.toList.length CC, s')
          | none => none) else none
        | none => none)
      | _ => none)
    | none => none) else none
  | _ => none
theorem vm_sbt {src dst' : TypeId} {x : Operand} {v r : Value} (h : Fr ρ N fm a) (H : Sr C w0 D ρ s w) (hx : evE fm.t x = some v) (hb : sbtE C s src dst' v = some (r, s')) : Vm C w0 D ρ w a ⟨dst, .convert src dst' x, ty, p, af, g⟩ r s' := by
  obtain ⟨v', hv, he⟩ := evE_spec h hx
  have hop : ∀ {u' : Value} {w' : World}, (convert src dst' v').run C.P w = .ok u' w' → (execOp a.eval ⟨dst, .convert src dst' x, ty, p, af, g⟩).run C.P w = .ok (.value u') w' := fun hr => by
    simp only [execOp, he]
    rw [Sem.run_bind, hr]; rfl
  unfold sbtE at hb
  split at hb
  · rename_i q
    cases hq : (isStr C src && isByteSl C dst') with
    | false => rw [hq] at hb; cases hb
    | true =>
      rw [hq, cond_true] at hb
      simp only [Bool.and_eq_true] at hq
      have h1 := isStr_spec hq.1
      obtain ⟨e, h2, h3⟩ := isByteSl_spec hq.2
      split at hb
      · rename_i di hdi
        have hti := C.okT _ _ hdi
        obtain ⟨kk, z0, sz0, by0⟩ := di
        cases kk with
        | slice e2 =>
          have hu := tk_slice hti
          rw [h2] at hu
          cases hu
          simp only at hb
          cases hbe : Nat.ble BB e with
          | true => rw [hbe] at hb; cases hb
          | false =>
            rw [hbe, cond_false] at hb
            split at hb
            · rename_i te hte
              cases hsz : Nat.beq te.sz 1 with
              | false => rw [hsz] at hb; cases hb
              | true =>
                rw [hsz, cond_true] at hb
                have hsz' := Nat.eq_of_beq_eq_true hsz
                split at hb
                · rename_i s1 hs
                  cases hb
                  simp only [conc, Option.some.injEq] at hv; subst hv
                  have hr := run_bytes_of_string (P := C.P) w src dst' e q h1 h2 h3
                  have hge := grownCap_ge w q.size 0 e
                  have hqs : q.size = q.data.toList.length := by rw [Array.length_toList]; rfl
                  generalize hcap : grownCap w q.size 0 e = cap at hr hge
                  have hrow : bytesRow q cap = ⟨(q.data.toList.map fun b => Value.int .u8 b.toNat) ++ List.replicate (cap - q.size) (.int .u8 0)⟩ := by
                    apply Array.ext'; simp [bytesRow]
                  have hlen : ((q.data.toList.map fun b : UInt8 => Value.int .u8 b.toNat) ++ List.replicate (cap - q.size) (Value.int .u8 0)).length = cap := by
                    rw [List.length_append, List.length_map, List.length_replicate]; omega
                  have hsize : (bytesRow q cap).size = cap := by rw [hrow]; exact hlen
                  rw [hsize, hrow] at hr
                  refine ⟨[(s.n, ⟨w.heap.size, cap, List.replicate (cap - q.size) (.int .u8 0)⟩)], _, _, hop hr, conc_sl ?_ ?_ hge, ?_⟩
                  · unfold cad
                    rw [BB_ble, BB_sub, cond_true, lcE_new _ H.un]; rfl
                  · rw [ccap_CC, lcE_new _ H.un]; rfl
                  · refine Sr.alloc (w := w.drew) (s := s) (o := Obj.cells ⟨q.data.toList.map fun b : UInt8 => Value.int .u8 b.toNat⟩ (e + BB) (BB, 0)) (H.drew) ?_ hs
                    have hg := concO_grow (C := C) (ρ := ρ ++ [(s.n, ⟨w.heap.size, cap, List.replicate (cap - q.size) (.int .u8 0)⟩)]) (L := ⟨w.heap.size, cap, List.replicate (cap - q.size) (.int .u8 0)⟩) (fz := (BB, 0)) (concs_bytes q.data.toList) hte (by rw [hsz', Nat.mul_one]; exact hlen)
                    have hfz : fzc ⟨w.heap.size, cap, List.replicate (cap - q.size) (.int .u8 0)⟩ (BB, 0) = (cap, cap + 1) := by
                      unfold fzc
                      have : Nat.ble BB BB = true := by generalize BB = q; exact Nat.ble_eq_true_of_le (Nat.le_refl _)
                      rw [this]; rfl
                    rw [hfz] at hg
                    exact hg
                · cases hb
            · cases hb
        | _ => cases hb
      · cases hb
  · cases hb
/-- A pointer held against itself. -/
def samE (C : Ct) (op : BinOp) (t : TypeId) : Value → Value → Option Value
  | .pointer (some ⟨b, o, none⟩), .pointer (some ⟨b', o', none⟩) => bif Nat.beq b b' && Nat.beq o o' then (match C.tt.get t with
    | some ti => (match ti.k with
      | .pointer e => (match C.tt.get e, op with
        | some _, .neq => some (.bool false)
        | _, _ => none)
      | _ => none)
    | none => none) else none
  | _, _ => none
theorem gv_sam {op : BinOp} {t yt : TypeId} {x y : Operand} {v q r : Value} (h : Fr ρ N fm a) (hx : evE fm.t x = some v) (hy : evE fm.t y = some q) (hb : samE C op t v q = some r) : Gv C ρ a ⟨dst, .binOp op t x y yt, ty, p, af, g⟩ r := by
  obtain ⟨v', hv, he⟩ := evE_spec h hx
  obtain ⟨q', hq, he'⟩ := evE_spec h hy
  unfold samE at hb
  split at hb
  · rename_i b o b2 o2
    cases hbo : (Nat.beq b b2 && Nat.beq o o2) with
    | false => rw [hbo] at hb; cases hb
    | true =>
      rw [hbo, cond_true] at hb
      simp only [Bool.and_eq_true] at hbo
      obtain rfl := Nat.eq_of_beq_eq_true hbo.1
      obtain rfl := Nat.eq_of_beq_eq_true hbo.2
      rw [hv] at hq; cases hq
      simp only [conc, cA, Option.map_eq_some_iff] at hv
      obtain ⟨a', _, rfl⟩ := hv
      cases ht : C.tt.get t with
      | none => rw [ht] at hb; cases hb
      | some ti =>
        rw [ht] at hb
        obtain ⟨k, z, sz, by'⟩ := ti
        cases k with
        | pointer e =>
          simp only at hb
          split at hb
          · rename_i te hte
            cases hb
            obtain ⟨d, i, _, hi, _⟩ := tiOf_spec (C.okT _ _ hte)
            refine ⟨.bool false, conc_bool _ _, fun w => ?_⟩
            have h1 := Go.Lib.run_neq_ptr_same (P := C.P) w a' (tk_pointer (C.okT _ _ ht)) hi
            have h2 : (eqGuard .neq t x y (.pointer (some a')) (.pointer (some a'))).run C.P w = .ok () w := rfl
            simp only [execOp, he, he']
            rw [Sem.run_bind, Sem.run_bind, h2, Result.andThen_ok, h1]; rfl
          · cases hb
        | _ => cases hb
  · cases hb
end
end Go.Ev
