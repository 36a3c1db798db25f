/-
  Memory: read, written, made; slices appended to.
-/
import Derived.Test.YthiehhglnaiohaaGreatDoorE6
import Derived.Lib.AppendStr
namespace Go.Ev
open Go.Wk
set_option linter.unusedVariables false
set_option linter.unusedSimpArgs false

/-! ### Cells read -/
def takeN (l : List Value) (o n : Nat) : Option (List Value) := bif Nat.beq ((l.drop o).take n).length n then some ((l.drop o).take n) else none
def readC (C : Ct) (s : St) (b o n : Nat) : Option (List Value) :=
  bif Nat.ble BB b then (match s.h.get (b - BB) with
    | some (.cells l _ _) => takeN l.toList o n
    | _ => none)
  else (match C.gl.get b with
    | some (.cells l _ _) => (match takeN l.toList o n with
      | some cs => bif cs.all (cst 8) then some cs else none
      | none => none)
    | _ => none)
theorem takeN_spec {ρ : Env} {l l' cs : List Value} {o n : Nat} (hl : concs ρ l = some l') (h : takeN l o n = some cs) : ∃ cs', concs ρ cs = some cs' ∧ cs.length = n ∧ cs'.length = n ∧ ∀ sp j u, cs'[j]? = some u → (l' ++ sp)[o + j]? = some u := by
  unfold takeN at h
  cases hb : Nat.beq ((l.drop o).take n).length n with
  | false => rw [hb] at h; cases h
  | true =>
    rw [hb] at h; cases h
    have h1 := Nat.eq_of_beq_eq_true hb
    have hc := concs_take n (concs_drop o hl)
    refine ⟨_, hc, h1, by rw [concs_len hc, h1], fun sp j u hj => ?_⟩
    rw [List.getElem?_take] at hj
    split at hj
    · rw [List.getElem?_drop] at hj
      rw [List.getElem?_append_left (List.getElem?_eq_some_iff.1 hj).1]; exact hj
    · cases hj

section
variable {C : Ct} {w0 : World} {D : Nat → Prop} {ρ : Env} {s : St} {w : World}

theorem cad_own {b b' : Nat} (hb : Nat.ble BB b = true) (h : cad ρ b = some b') : ∃ l, ρ[b - BB]? = some l ∧ l.ad = b' := by
  unfold cad at h
  rw [hb] at h
  simpa only [cond_true, Option.map_eq_some_iff] using h
theorem cad_old {b b' : Nat} (hb : Nat.ble BB b = false) (h : cad ρ b = some b') : b' = b := by
  unfold cad at h
  rw [hb] at h
  exact (Option.some.inj h).symm

theorem readC_spec (H : Sr C w0 D ρ s w) {b b' o n : Nat} {cs : List Value} (hb' : cad ρ b = some b') (h : readC C s b o n = some cs) :
    ∃ cs', concs ρ cs = some cs' ∧ cs.length = n ∧ cs'.length = n ∧ ∀ j u, cs'[j]? = some u → w.cell? ⟨b', o + j, none⟩ = some u := by
  unfold readC at h
  cases hb : Nat.ble BB b with
  | true =>
    rw [hb, cond_true] at h
    split at h
    · rename_i l e fz hk
      obtain ⟨l1, hl1, rfl⟩ := cad_own hb hb'
      obtain ⟨l2, o', h1, h2, h3⟩ := H.holds _ _ hk
      rw [hl1] at h1; cases h1
      obtain ⟨l', e', h4, rfl, _⟩ := concO_cells h2
      obtain ⟨cs', g1, g2, g3, g4⟩ := takeN_spec h4 h
      refine ⟨cs', g1, g2, g3, fun j u hj => ?_⟩
      simp only [World.cell?, h3]
      simpa using g4 l1.sp j u hj
    · cases h
  | false =>
    rw [hb] at h
    simp only [cond_false] at h
    obtain rfl := cad_old hb hb'
    split at h
    · rename_i l e fz hk
      split at h
      · rename_i cs0 ht
        cases hc : cs0.all (cst 8) with
        | false => rw [hc] at h; cases h
        | true =>
          rw [hc] at h; cases h
          have g1 : concs ρ cs = some cs := concs_all (fun v hv => cst_conc hv) hc
          unfold takeN at ht
          cases hq : Nat.beq ((l.toList.drop o).take n).length n with
          | false => rw [hq] at ht; cases ht
          | true =>
            rw [hq] at ht; cases ht
            have h1 := Nat.eq_of_beq_eq_true hq
            refine ⟨_, g1, h1, h1, fun j u hj => ?_⟩
            have h5 := (H.glob _ _ hk).1
            simp only [World.cell?, h5]
            rw [List.getElem?_take] at hj
            split at hj
            · rw [List.getElem?_drop] at hj; simpa using hj
            · cases hj
      · cases h
    · cases h

theorem asV_conc {k : Tk} {cs cs' : List Value} {v : Value} (hc : concs ρ cs = some cs') (h : asV k cs = some v) : ∃ u, asV k cs' = some u ∧ conc ρ v = some u := by
  unfold asV at h ⊢
  cases hA : isA k with
  | true =>
    rw [hA] at h
    simp only [Option.some.injEq] at h
    subst h
    exact ⟨_, rfl, conc_agg hc⟩
  | false =>
    rw [hA] at h
    cases cs with
    | nil => simp at h
    | cons c r => cases r with
      | nil =>
        simp only [Option.some.injEq] at h; subst h
        obtain ⟨u, t, h1, h2, rfl⟩ := concs_cons.1 hc
        rw [concs_nil] at h2; cases h2
        exact ⟨u, rfl, h1⟩
      | cons _ _ => simp at h

def ldE (C : Ct) (s : St) (t : TypeId) : Value → Option Value
  | .pointer (some ⟨b, o, none⟩) => match C.tt.get t with
    | some ti => (match readC C s b o ti.sz with
      | some cs => asV ti.k cs
      | none => none)
    | none => none
  | _ => none
/-- What a load gives, as memory stands. -/
theorem ldE_run (H : Sr C w0 D ρ s w) {t : TypeId} {v v' r : Value} (hv : conc ρ v = some v') (h : ldE C s t v = some r) : ∃ u, conc ρ r = some u ∧ (Instr.loadAt t v').run C.P w = .ok u w := by
  unfold ldE at h
  split at h
  · rename_i b o
    simp only [conc, cA, Option.map_eq_some_iff] at hv
    obtain ⟨_, ⟨b', hb', rfl⟩, rfl⟩ := hv
    cases ht : C.tt.get t with
    | none => rw [ht] at h; cases h
    | some ti =>
      rw [ht] at h
      simp only at h
      split at h
      · rename_i cs hr
        obtain ⟨cs', g1, g2, g3, g4⟩ := readC_spec H hb' hr
        obtain ⟨u, h1, h2⟩ := asV_conc g1 h
        exact ⟨u, h2, run_loadAt (C.okT _ _ ht) g3 h1 g4⟩
      · cases h
  · cases h

/-! ### Cells written -/
theorem conc_one {v u : Value} (h : conc ρ v = some u) : u.oneCell' = v.oneCell' := by
  cases v with
  | pointer x => cases x with
    | none => simp only [conc, Option.some.injEq] at h; subst h; rfl
    | some x => simp only [conc, Option.map_eq_some_iff] at h; obtain ⟨us, h1, rfl⟩ := h; rfl
  | slice x n c => cases x with
    | none => simp only [conc, Option.some.injEq] at h; subst h; rfl
    | some x => obtain ⟨_, _, _, _, _, rfl⟩ := conc_slice.1 h; rfl
  | map x => cases x with
    | none => simp only [conc, Option.some.injEq] at h; subst h; rfl
    | some x => simp only [conc, Option.map_eq_some_iff] at h; obtain ⟨us, h1, rfl⟩ := h; rfl
  | chan x => cases x with
    | none => simp only [conc, Option.some.injEq] at h; subst h; rfl
    | some x => simp [conc] at h
  | func f l m =>
    simp only [conc] at h
    split at h
    · cases h; rfl
    · cases h
  | agg l => simp only [conc, Option.map_eq_some_iff] at h; obtain ⟨us, h1, rfl⟩ := h; rfl
  | tuple l => simp only [conc, Option.map_eq_some_iff] at h; obtain ⟨us, h1, rfl⟩ := h; rfl
  | iface t x => simp only [conc, Option.map_eq_some_iff] at h; obtain ⟨us, h1, rfl⟩ := h; rfl
  | _ => simp only [conc, Option.some.injEq] at h; subst h; rfl
theorem concs_one' : ∀ {vs us : List Value}, concs ρ vs = some us → vs.all Value.oneCell' = true → ∀ u ∈ us, u.oneCell' = true
  | [], us, h, _, u, hu => by rw [concs_nil] at h; cases h; cases hu
  | v :: r, us, h, ha, u, hu => by
    obtain ⟨x, t, h1, h2, rfl⟩ := concs_cons.1 h
    simp only [List.all_cons, Bool.and_eq_true] at ha
    rcases List.mem_cons.1 hu with rfl | hu
    · rw [conc_one h1]; exact ha.1
    · exact concs_one' h2 ha.2 u hu
theorem putC_left : ∀ (vs l sp : List Value) (o : Nat), o + vs.length ≤ l.length → putC (l ++ sp) o vs = putC l o vs ++ sp
  | [], l, sp, o, _ => rfl
  | v :: vs, l, sp, o, h => by
    simp only [putC]
    rw [List.length_cons] at h
    rw [List.set_append_left _ _ (by omega)]
    exact putC_left vs (l.set o v) sp (o + 1) (by rw [List.length_set]; omega)

theorem putC_len : ∀ (vs l : List Value) (o : Nat), (putC l o vs).length = l.length
  | [], l, o => rfl
  | v :: vs, l, o => by simp only [putC]; rw [putC_len vs]; simp
def writeC (s : St) (b o : Nat) (vs : List Value) : Option St :=
  bif Nat.ble BB b then (match s.h.get (b - BB) with
    | some (.cells l e (0, 0)) => bif Nat.ble (o + vs.length) l.toList.length && vs.all Value.oneCell' then s.upd (b - BB) (some (.cells ⟨putC l.toList o vs⟩ e (0, 0))) else none
    | _ => none)
  else none
theorem writeC_spec {P : Program} (H : Sr C w0 D ρ s w) {b b' o : Nat} {vs vs' : List Value} {s' : St} (hb' : cad ρ b = some b') (hvs : concs ρ vs = some vs') (h : writeC s b o vs = some s') :
    ∃ w', (storeCells ⟨b', o, none⟩ vs' 0).run P w = .ok () w' ∧ Sr C w0 D ρ s' w' := by
  unfold writeC at h
  cases hb : Nat.ble BB b with
  | false => rw [hb] at h; cases h
  | true =>
    rw [hb, cond_true] at h
    obtain ⟨l1, hl1, rfl⟩ := cad_own hb hb'
    generalize b - BB = k at h hl1
    split at h
    · rename_i l e hk
      cases hq : (Nat.ble (o + vs.length) l.toList.length && vs.all Value.oneCell') with
      | false => rw [hq] at h; cases h
      | true =>
        rw [hq, cond_true] at h
        simp only [Bool.and_eq_true] at hq
        have hlen := Nat.le_of_ble_eq_true hq.1
        obtain ⟨l2, o', h1, h2, h3⟩ := H.holds _ _ hk
        rw [hl1] at h1; cases h1
        have hlen2 : vs'.length = vs.length := concs_len hvs
        obtain ⟨l', _, hl', _, _⟩ := concO_cells h2
        obtain ⟨e', hput, l'', hl'', ho⟩ := concO_put (fz' := (0, 0)) (m := putC l.toList o vs) (m' := putC l' o vs') h2 (concs_put o hvs hl') (by rw [putC_len])
        rw [hl'] at hl''
        cases hl''
        subst ho
        have hll := concs_len hl'
        obtain ⟨w', hr, E⟩ := run_storeCells (P := P) (e := e') vs' (l' ++ l1.sp) o 0 w (by simpa using h3) (by rw [List.length_append]; omega) (concs_one' hvs hq.2)
        refine ⟨w', hr, H.write hk hl1 hput h ?_ (fun x hx hne => ?_) ?_ E.os E.tape E.output⟩
        · have := E.holds l1.ad _ List.mem_cons_self
          rw [Nat.add_zero, putC_left vs' l' l1.sp o (by omega)] at this
          exact this
        · exact E.keep x hx (by simpa [ids] using hne)
        · exact E.size
    · cases h

def stE (C : Ct) (s : St) (t : TypeId) (v : Value) : Value → Option St
  | .pointer (some ⟨b, o, none⟩) => match C.tt.get t with
    | some ti => bif Nat.beq v.cells.toList.length ti.sz then writeC s b o v.cells.toList else none
    | none => none
  | _ => none
theorem stE_run (H : Sr C w0 D ρ s w) {t : TypeId} {v v' p p' : Value} {s' : St} (hp : conc ρ p = some p') (hv : conc ρ v = some v') (h : stE C s t v p = some s') :
    ∃ w', (Instr.storeAt t p' v').run C.P w = .ok () w' ∧ Sr C w0 D ρ s' w' := by
  unfold stE at h
  split at h
  · rename_i b o
    simp only [conc, cA, Option.map_eq_some_iff] at hp
    obtain ⟨_, ⟨b', hb', rfl⟩, rfl⟩ := hp
    cases ht : C.tt.get t with
    | none => rw [ht] at h; cases h
    | some ti =>
      rw [ht] at h
      simp only at h
      cases hq : Nat.beq v.cells.toList.length ti.sz with
      | false => rw [hq] at h; cases h
      | true =>
        rw [hq, cond_true] at h
        obtain ⟨hc, hsz⟩ := conc_cells hv
        obtain ⟨w', hr, H'⟩ := writeC_spec (P := C.P) H hb' hc h
        refine ⟨w', ?_, H'⟩
        have h1 : v'.cells.size = ti.sz := by rw [hsz]; exact Nat.eq_of_beq_eq_true hq
        simp only [Instr.storeAt, Instr.sureAddr, storeVar, Sem.run_bind, Sem.run_pure, Result.andThen_ok, Wk.run_sizeOf (C.okT _ _ ht), h1]
        rw [if_neg (by simp)]
        exact hr
  · cases h

/-! ### New rows -/
/-- A new row of cells, all told. -/
def newE (s : St) (e : TypeId) (cs : List Value) : Option (Nat × St) := bif Nat.ble BB e then none else (match s.new (.cells ⟨cs⟩ e (0, 0)) with
  | some s' => some (BB + s.n, s')
  | none => none)
theorem BB_ble (n : Nat) : Nat.ble BB (BB + n) = true := by generalize BB = q; exact Nat.ble_eq_true_of_le (Nat.le_add_right _ _)
theorem BB_sub (n : Nat) : BB + n - BB = n := by generalize BB = q; exact Nat.add_sub_cancel_left _ _
theorem newE_spec (H : Sr C w0 D ρ s w) {e : TypeId} {cs cs' : List Value} {b : Nat} {s' : St} (hc : concs ρ cs = some cs') (h : newE s e cs = some (b, s')) :
    cad (ρ ++ [⟨w.heap.size, 0, []⟩]) b = some w.heap.size ∧ Sr C w0 D (ρ ++ [⟨w.heap.size, 0, []⟩]) s' (w.alloc (.cells ⟨cs'⟩ e)) := by
  unfold newE at h
  cases he : Nat.ble BB e with
  | true => rw [he] at h; cases h
  | false =>
    rw [he] at h
    simp only [cond_false] at h
    split at h
    · rename_i s1 hs
      cases h
      refine ⟨?_, H.alloc (concO_mk (concs_mono _ hc) he) hs⟩
      unfold cad
      rw [BB_ble, BB_sub, ← H.len]
      simp
    · cases h
end
end Go.Ev
