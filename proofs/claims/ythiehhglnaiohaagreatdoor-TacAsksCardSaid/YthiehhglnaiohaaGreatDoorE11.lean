/-
  Maps whose keys are numbers, strings, bools.
-/
import Derived.Test.YthiehhglnaiohaaGreatDoorE10
namespace Go.Ev
open Go.Wk
set_option linter.unusedVariables false
set_option linter.unusedSimpArgs false

def sameK : Tk → Value → Value → Option Bool
  | .int _, .int k a, .int k' b => bif decide (k = k') then some (a == b) else none
  | .string, .string a, .string b => some (eqB a.data.toList b.data.toList)
  | .bool, .bool a, .bool b => some (a == b)
  | _, _, _ => none
def scal : Tk → Value → Bool
  | .int _, .int _ _ => true
  | .string, .string _ => true
  | .bool, .bool _ => true
  | _, _ => false
def findE (K : Tk) (k : Value) : List MapEntry → Nat → Option (Option (Nat × Value))
  | [], _ => some none
  | e :: es, i => match sameK K k e.key with
    | some true => some (some (i, e.val))
    | some false => findE K k es (i + 1)
    | none => none
theorem eqB_beq (a b : ByteArray) : eqB a.data.toList b.data.toList = (a == b) := by
  rw [eqB_spec, beq_toListBytes, ByteArray.toList_eq, ByteArray.toList_eq]
theorem sameK_spec {K : Tk} {d : TypeDesc} {k v u : Value} {b : Bool} {ρ : Env} (hd : tkOf d = K) (h : sameK K k v = some b) (hv : conc ρ v = some u) : u = v ∧ Instr.sameNow d k v = some b := by
  unfold sameK at h
  split at h
  · rename_i k1 k2 a k3 b2
    simp only [conc, Option.some.injEq] at hv; subst hv
    refine ⟨rfl, ?_⟩
    cases d <;> simp [tkOf] at hd
    simp only [Instr.sameNow]
    cases hk : decide (k2 = k3) with
    | false => rw [hk] at h; cases h
    | true => rw [hk, cond_true] at h; simp only [decide_eq_true_eq] at hk; rw [if_pos hk]; exact h
  · rename_i a b2
    simp only [conc, Option.some.injEq] at hv; subst hv
    refine ⟨rfl, ?_⟩
    cases d <;> simp [tkOf] at hd
    simp only [Instr.sameNow]
    rw [eqB_beq] at h; exact h
  · simp only [conc, Option.some.injEq] at hv; subst hv
    refine ⟨rfl, ?_⟩
    cases d <;> simp [tkOf] at hd
    exact h
  · cases h

section
variable {C : Ct} {w0 : World} {D : Nat → Prop} {ρ : Env} {s s' : St} {w : World} {N : Nat} {fm : Fm} {a : Act} {dst : Option Tmp} {ty : TypeId} {p : String} {af : Array Edge} {g : Option (Nat × Bool)}

theorem concE_cons {e : MapEntry} {r us : List MapEntry} (h : concE ρ (e :: r) = some us) : ∃ k v t, conc ρ e.key = some k ∧ conc ρ e.val = some v ∧ concE ρ r = some t ∧ us = ⟨k, v, e.born⟩ :: t := by
  obtain ⟨k, v, b⟩ := e
  simp only [concE] at h
  split at h
  · rename_i k' v' t h1 h2 h3
    cases h; exact ⟨k', v', t, h1, h2, h3, rfl⟩
  · cases h
theorem findE_spec {K : Tk} {d : TypeDesc} {k : Value} (hd : tkOf d = K) : ∀ {es es' : List MapEntry} {i : Nat} {r : Option (Nat × Value)}, concE ρ es = some es' → findE K k es i = some r →
    ∃ r', Instr.findNow d k es' i = some r' ∧ (r = none → r' = none) ∧ ∀ j v, r = some (j, v) → ∃ u, r' = some (j, u) ∧ conc ρ v = some u ∧ i ≤ j ∧ ∃ e, es'[j - i]? = some e ∧ Instr.sameNow d k e.key = some true
  | [], es', i, r, hc, h => by
    simp only [concE, Option.some.injEq] at hc; subst hc
    simp only [findE, Option.some.injEq] at h; subst h
    exact ⟨none, rfl, fun _ => rfl, fun j v hj => by cases hj⟩
  | e :: es, es', i, r, hc, h => by
    obtain ⟨k', v', t, h1, h2, h3, rfl⟩ := concE_cons hc
    simp only [findE] at h
    split at h
    · rename_i hs
      obtain ⟨rfl, hs'⟩ := sameK_spec hd hs h1
      simp only [Option.some.injEq] at h; subst h
      refine ⟨some (i, v'), (by simp only [Instr.findNow, hs']), (fun hn => by cases hn), fun j v hj => ?_⟩
      cases hj
      exact ⟨v', rfl, h2, Nat.le_refl _, ⟨e.key, v', e.born⟩, by rw [Nat.sub_self]; rfl, hs'⟩
    · rename_i hs
      obtain ⟨rfl, hs'⟩ := sameK_spec hd hs h1
      obtain ⟨r', q1, q2, q3⟩ := findE_spec hd h3 h
      refine ⟨r', by simp only [Instr.findNow, hs']; exact q1, q2, fun j v hj => ?_⟩
      obtain ⟨u, q4, q5, q6, e2, q7, q8⟩ := q3 j v hj
      refine ⟨u, q4, q5, by omega, e2, ?_, q8⟩
      rw [show j - i = (j - (i + 1)) + 1 from by omega, List.getElem?_cons_succ]; exact q7
    · cases h
theorem checkKey_ok {P : Program} {K : Tk} {kt : TypeId} {d : TypeDesc} {k : Value} (hd : P.underlying kt = some d) (hk : tkOf d = K) (h : scal K k = true) (b : Bool) (n : Nat) (w : World) : (Instr.checkKey b (n + 1) kt k).run P w = .ok () w := by
  unfold scal at h
  split at h
  · cases d <;> simp [tkOf] at hk; simp [Instr.checkKey, run_underlying hd]
  · cases d <;> simp [tkOf] at hk; simp [Instr.checkKey, run_underlying hd]
  · cases d <;> simp [tkOf] at hk; simp [Instr.checkKey, run_underlying hd]
  · cases h
theorem scal_conc {K : Tk} {k u : Value} (h : scal K k = true) (hc : conc ρ k = some u) : u = k := by
  unfold scal at h
  split at h
  · simp only [conc, Option.some.injEq] at hc; exact hc.symm
  · simp only [conc, Option.some.injEq] at hc; exact hc.symm
  · simp only [conc, Option.some.injEq] at hc; exact hc.symm
  · cases h

/-- The entries of a map's value. -/
def entE (s : St) : Value → Option (List MapEntry)
  | .map none => some []
  | .map (some r) => bif Nat.ble BB r then (match s.h.get (r - BB) with
    | some (.map es _) => some es.toList
    | _ => none) else none
  | _ => none
theorem concO_map {L : Loc} {es : Array MapEntry} {c : Nat} {o : Obj} (h : concO C ρ L (.map es c) = some o) : ∃ es', concE ρ es.toList = some es' ∧ o = .map ⟨es'⟩ c := by
  have h' : (concE ρ es.toList).map (fun es' => Obj.map ⟨es'⟩ c) = some o := h
  obtain ⟨es', h1, rfl⟩ := Option.map_eq_some_iff.1 h'
  exact ⟨es', h1, rfl⟩
theorem concO_mkmap {L : Loc} {es es' : List MapEntry} {c : Nat} (h : concE ρ es = some es') : concO C ρ L (.map ⟨es⟩ c) = some (.map ⟨es'⟩ c) := by
  show (concE ρ es).map (fun es' => Obj.map ⟨es'⟩ c) = some (.map ⟨es'⟩ c)
  rw [h]; rfl
theorem entE_spec (H : Sr C w0 D ρ s w) {v v' : Value} {es : List MapEntry} (hv : conc ρ v = some v') (h : entE s v = some es) : ∃ es', concE ρ es = some es' ∧ ((v' = .map none ∧ es' = []) ∨ ∃ r c, v' = .map (some r) ∧ w.heap[r]? = some (.map ⟨es'⟩ c)) := by
  unfold entE at h
  split at h
  · cases h
    simp only [conc, Option.some.injEq] at hv; subst hv
    exact ⟨[], by simp [concE], .inl ⟨rfl, rfl⟩⟩
  · rename_i r
    simp only [conc, Option.map_eq_some_iff] at hv
    obtain ⟨r', hr, rfl⟩ := hv
    cases hb : Nat.ble BB r with
    | false => rw [hb] at h; cases h
    | true =>
      rw [hb, cond_true] at h
      obtain ⟨L, hL, rfl⟩ := cad_own hb hr
      generalize r - BB = k at h hL
      split at h
      · rename_i es0 c hk
        cases h
        obtain ⟨L2, o', q1, q2, q3⟩ := H.holds _ _ hk
        rw [hL] at q1; cases q1
        obtain ⟨es', q4, rfl⟩ := concO_map q2
        exact ⟨es', q4, .inr ⟨_, c, rfl, q3⟩⟩
      · cases h
  · cases h

def lkE (C : Ct) (s : St) (t : TypeId) (ok : Bool) (m k : Value) : Option Value := match C.tt.get t with
  | some ti => (match ti.k with
    | .map kt et => (match C.tt.get kt, C.tt.get et with
      | some ki, some ei => bif scal ki.k k && cst 8 ei.z then ((entE s m).bind fun es => (findE ki.k k es 0).bind fun r => match r with
        | some (_, v) => some (bif ok then .tuple ⟨[v, .bool true]⟩ else v)
        | none => some (bif ok then .tuple ⟨[ei.z, .bool false]⟩ else ei.z)) else none
      | _, _ => none)
    | _ => none)
  | none => none
theorem vm_lk {t : TypeId} {x y : Operand} {ok : Bool} {v q r : Value} (h : Fr ρ N fm a) (H : Sr C w0 D ρ s w) (hx : evE fm.t x = some v) (hy : evE fm.t y = some q) (hb : lkE C s t ok v q = some r) : Vm C w0 D ρ w a ⟨dst, .lookup t x y ok, ty, p, af, g⟩ r s := by
  obtain ⟨v', hv, he⟩ := evE_spec h hx
  obtain ⟨q', hq, he'⟩ := evE_spec h hy
  have hop : ∀ {u' : Value}, (Instr.lookup t v' q' ok).run C.P w = .ok u' w → (execOp a.eval ⟨dst, .lookup t x y ok, ty, p, af, g⟩).run C.P w = .ok (.value u') w := fun hr => by
    simp only [execOp, he, he']
    rw [Sem.run_bind, hr]; rfl
  unfold lkE at hb
  cases ht : C.tt.get t with
  | none => rw [ht] at hb; cases hb
  | some ti =>
    rw [ht] at hb
    have hti := C.okT _ _ ht
    obtain ⟨kk, z0, sz0, by0⟩ := ti
    cases kk with
    | map kt et =>
      simp only at hb
      split at hb
      · rename_i ki ei hki hei
        cases hsc : (scal ki.k q && cst 8 ei.z) with
        | false => rw [hsc] at hb; cases hb
        | true =>
          rw [hsc, cond_true] at hb
          simp only [Bool.and_eq_true] at hsc
          obtain ⟨es, hes, hb⟩ := Option.bind_eq_some_iff.1 hb
          obtain ⟨r0, hf, hb⟩ := Option.bind_eq_some_iff.1 hb
          obtain ⟨dk, _, hdk, _, hkk, _⟩ := tiOf_spec (C.okT _ _ hki)
          have hqq := scal_conc hsc.1 hq
          subst hqq
          obtain ⟨es', he1, he2⟩ := entE_spec H hv hes
          obtain ⟨r', hr1, hr2, hr3⟩ := findE_spec hkk he1 hf
          have hfk : ∀ w, (Instr.findKey kt q' es').run C.P w = .ok r' w := fun w => by
            simp only [Instr.findKey, Sem.run_bind, run_underlying hdk, Result.andThen_ok, hr1]; rfl
          have hck : ∀ b w, (Instr.checkKey b 10000 kt q').run C.P w = .ok () w := fun b w => checkKey_ok hdk hkk hsc.1 b 9999 w
          have hlk : ∀ {u : Value} {found : Bool}, (match r' with | some (_, v) => (v, true) | none => (ei.z, false)) = (u, found) → (Instr.lookup t v' q' ok).run C.P w = .ok (if ok then .tuple #[u, .bool found] else u) w := by
            intro u found hm
            rcases he2 with ⟨rfl, rfl⟩ | ⟨rr, c, rfl, hheap⟩
            · cases r' with
              | none => simp only [Prod.mk.injEq] at hm; obtain ⟨rfl, rfl⟩ := hm
                        simp [Instr.lookup, run_underlying (tk_map hti), hck, hfk, Wk.run_zeroValue (C.okT _ _ hei)]
              | some r' => obtain ⟨j, u'⟩ := r'; simp only [Prod.mk.injEq] at hm; obtain ⟨rfl, rfl⟩ := hm
                           simp [Instr.lookup, run_underlying (tk_map hti), hck, hfk]
            · have hg := run_getObj (P := C.P) hheap (by intros; simp)
              cases r' with
              | none => simp only [Prod.mk.injEq] at hm; obtain ⟨rfl, rfl⟩ := hm
                        simp [Instr.lookup, run_underlying (tk_map hti), hg, hck, hfk, Wk.run_zeroValue (C.okT _ _ hei)]
              | some r' => obtain ⟨j, u'⟩ := r'; simp only [Prod.mk.injEq] at hm; obtain ⟨rfl, rfl⟩ := hm
                           simp [Instr.lookup, run_underlying (tk_map hti), hg, hck, hfk]
          cases r0 with
          | none =>
            have hn := hr2 rfl
            subst hn
            have h9 := hlk rfl
            cases ok with
            | true =>
              simp only [Option.some.injEq] at hb; subst hb
              exact ⟨[], _, w, hop h9, by rw [List.append_nil]; exact conc_tuple (concs_cons.2 ⟨_, _, cst_conc hsc.2, concs_one (conc_bool _ _), rfl⟩), by rw [List.append_nil]; exact H⟩
            | false =>
              simp only [Option.some.injEq] at hb; subst hb
              exact ⟨[], _, w, hop h9, by rw [List.append_nil]; exact cst_conc hsc.2, by rw [List.append_nil]; exact H⟩
          | some r0 =>
            obtain ⟨j, v0⟩ := r0
            obtain ⟨u, hu1, hu2, _⟩ := hr3 j v0 rfl
            subst hu1
            have h9 := hlk rfl
            cases ok with
            | true =>
              simp only [Option.some.injEq] at hb; subst hb
              exact ⟨[], _, w, hop h9, by rw [List.append_nil]; exact conc_tuple (concs_cons.2 ⟨_, _, hu2, concs_one (conc_bool _ _), rfl⟩), by rw [List.append_nil]; exact H⟩
            | false =>
              simp only [Option.some.injEq] at hb; subst hb
              exact ⟨[], _, w, hop h9, by rw [List.append_nil]; exact hu2, by rw [List.append_nil]; exact H⟩
      · cases hb
    | _ => cases hb

/-! ### Written -/
def setEnt (k v : Value) : List MapEntry → Nat → List MapEntry
  | [], _ => []
  | e :: r, 0 => { e with key := k, val := v } :: r
  | e :: r, i + 1 => e :: setEnt k v r i
theorem setEnt_eq (k v : Value) : ∀ (l : List MapEntry) (i : Nat), setEnt k v l i = l.modify i (fun e => { e with key := k, val := v })
  | [], i => by simp [setEnt]
  | e :: r, 0 => by simp [setEnt]
  | e :: r, i + 1 => by simp [setEnt, setEnt_eq k v r i]
theorem setEnt_conc {k v v' : Value} (hk : conc ρ k = some k) (hv : conc ρ v = some v') : ∀ {l l' : List MapEntry} (i : Nat), concE ρ l = some l' → concE ρ (setEnt k v l i) = some (setEnt k v' l' i)
  | [], l', i, h => by simp only [concE, Option.some.injEq] at h; subst h; simp [setEnt, concE]
  | e :: r, l', 0, h => by
    obtain ⟨k1, v1, t, h1, h2, h3, rfl⟩ := concE_cons h
    simp only [setEnt, concE, hk, hv, h3]
  | e :: r, l', i + 1, h => by
    obtain ⟨k1, v1, t, h1, h2, h3, rfl⟩ := concE_cons h
    have ih := setEnt_conc hk hv i h3
    obtain ⟨ek, ev, eb⟩ := e
    simp only [setEnt, concE] at ih ⊢
    simp only at h1 h2
    rw [h1, h2, ih]
theorem concE_app : ∀ {l m l' m' : List MapEntry}, concE ρ l = some l' → concE ρ m = some m' → concE ρ (l ++ m) = some (l' ++ m')
  | [], m, l', m', h, h' => by simp only [concE, Option.some.injEq] at h; subst h; exact h'
  | e :: r, m, l', m', h, h' => by
    obtain ⟨k1, v1, t, h1, h2, h3, rfl⟩ := concE_cons h
    have ih := concE_app h3 h'
    obtain ⟨ek, ev, eb⟩ := e
    simp only at h1 h2
    simp only [List.cons_append, concE, h1, h2, ih]
theorem keyStays {P : Program} {d : TypeDesc} {k old : Value} (h : Instr.sameNow d k old = some true) (w : World) : (Instr.keyThatStays old k).run P w = .ok k w := by
  unfold Instr.sameNow at h
  split at h
  · rename_i k1 a k2 b
    split at h
    · rename_i hk
      subst hk
      simp at h
      subst h
      simp [Instr.keyThatStays, Instr.sameBits]
    · cases h
  · rename_i a b
    simp only [Option.some.injEq] at h
    simp [Instr.keyThatStays, Instr.sameBits]
    have h2 : (b == a) = true := by
      rw [beq_toListBytes, ByteArray.toList_eq, ByteArray.toList_eq] at h ⊢
      simp at h ⊢
      exact h.symm
    simp [h2]
  · rename_i a b
    simp at h
    subst h
    simp [Instr.keyThatStays, Instr.sameBits]
  · cases h
def mupE (C : Ct) (s : St) (t : TypeId) (m k v : Value) : Option St := match m with
  | .map (some r) => bif Nat.ble BB r then (match s.h.get (r - BB), C.tt.get t with
    | some (.map es clock), some ti => (match ti.k with
      | .map kt et => (match C.tt.get kt with
        | some ki => bif scal ki.k k then ((findE ki.k k es.toList 0).bind fun q => match q with
          | some (i, _) => s.upd (r - BB) (some (.map ⟨setEnt k v es.toList i⟩ clock))
          | none => s.upd (r - BB) (some (.map ⟨es.toList ++ [⟨k, v, clock⟩]⟩ (clock + 1)))) else none
        | none => none)
      | _ => none)
    | _, _ => none) else none
  | _ => none
theorem mupE_run (H : Sr C w0 D ρ s w) {t : TypeId} {m m' k k' v v' : Value} (hm : conc ρ m = some m') (hk : conc ρ k = some k') (hv : conc ρ v = some v') (hb : mupE C s t m k v = some s') :
    ∃ w', (Instr.mapUpdate t m' k' v').run C.P w = .ok () w' ∧ Sr C w0 D ρ s' w' := by
  unfold mupE at hb
  split at hb
  · rename_i r
    simp only [conc, Option.map_eq_some_iff] at hm
    obtain ⟨r', hr, rfl⟩ := hm
    cases hbb : Nat.ble BB r with
    | false => rw [hbb] at hb; cases hb
    | true =>
      rw [hbb, cond_true] at hb
      obtain ⟨L, hL, rfl⟩ := cad_own hbb hr
      generalize r - BB = kk at hb hL
      split at hb
      · rename_i es clock ti hkk ht
        have hti := C.okT _ _ ht
        obtain ⟨tk, z0, sz0, by0⟩ := ti
        cases tk with
        | map kt et =>
          simp only at hb
          split at hb
          · rename_i ki hki
            cases hsc : scal ki.k k with
            | false => rw [hsc] at hb; cases hb
            | true =>
              rw [hsc, cond_true] at hb
              obtain ⟨q, hf, hb⟩ := Option.bind_eq_some_iff.1 hb
              obtain ⟨L2, o', q1, q2, q3⟩ := H.holds _ _ hkk
              rw [hL] at q1; cases q1
              obtain ⟨es', q4, rfl⟩ := concO_map q2
              obtain ⟨dk, _, hdk, _, hk3, _⟩ := tiOf_spec (C.okT _ _ hki)
              have hqq := scal_conc hsc hk
              subst hqq
              obtain ⟨r0, hr1, hr2, hr3⟩ := findE_spec hk3 q4 hf
              have hfk : ∀ w, (Instr.findKey kt k' es').run C.P w = .ok r0 w := fun w => by
                simp only [Instr.findKey, Sem.run_bind, run_underlying hdk, Result.andThen_ok, hr1]; rfl
              have hck : ∀ b w, (Instr.checkKey b 10000 kt k').run C.P w = .ok () w := fun b w => checkKey_ok hdk hk3 hsc b 9999 w
              have hg := run_getObj (P := C.P) q3 (by intros; simp)
              have hset := fun o => run_setObj (P := C.P) q3 (by intros; simp) o
              have done : ∀ {o : Obj} {o2 : Obj}, concO C ρ L o = some o2 → s.upd kk (some o) = some s' → (Instr.mapUpdate t (.map (some L.ad)) k' v').run C.P w = .ok () { w with heap := w.heap.setIfInBounds L.ad o2 } → ∃ w', (Instr.mapUpdate t (.map (some L.ad)) k' v').run C.P w = .ok () w' ∧ Sr C w0 D ρ s' w' := by
                intro o o2 ho hu hrun
                have hlt := (Array.getElem?_eq_some_iff.1 q3).1
                exact ⟨_, hrun, H.write hkk hL ho hu (by simp [hlt]) (fun z _ hz => by
                  show (w.heap.setIfInBounds L.ad o2)[z]? = _
                  rw [Array.getElem?_setIfInBounds_ne (Ne.symm hz)]) (by simp) rfl rfl rfl⟩
              cases q with
              | none =>
                have hn := hr2 rfl
                subst hn
                refine done (concO_mkmap (concE_app q4 (m' := [⟨k', v', clock⟩]) (by simp only [concE, hk, hv]))) hb ?_
                simp [Instr.mapUpdate, run_underlying (tk_map hti), hg, hck, hfk, hset]
              | some q =>
                obtain ⟨i, v0⟩ := q
                obtain ⟨u, hu1, hu2, _, e2, hu3, hu4⟩ := hr3 i v0 rfl
                subst hu1
                rw [Nat.sub_zero] at hu3
                refine done (concO_mkmap (setEnt_conc hk hv i q4)) hb ?_
                have hks := keyStays (P := C.P) hu4 w
                have e5 : (⟨es'⟩ : Array MapEntry)[i]? = some e2 := by simpa using hu3
                have e6 : (⟨es'⟩ : Array MapEntry).modify i (fun e => { e with key := k', val := v' }) = ⟨setEnt k' v' es' i⟩ := by
                  apply Array.ext'
                  rw [Array.toList_modify, setEnt_eq]
                have e7 : es'.modify i (fun e => { e with key := k', val := v' }) = setEnt k' v' es' i := (setEnt_eq k' v' es' i).symm
                simp [Instr.mapUpdate, run_underlying (tk_map hti), hg, hck, hfk, hu3, hks, e7, hset]
          · cases hb
        | _ => cases hb
      · cases hb
  · cases hb
theorem um_mup {t : TypeId} {x y z : Operand} {m k v : Value} (h : Fr ρ N fm a) (H : Sr C w0 D ρ s w) (hx : evE fm.t x = some m) (hy : evE fm.t y = some k) (hz : evE fm.t z = some v) (hb : mupE C s t m k v = some s') : Um C w0 D ρ w a ⟨dst, .mapUpdate t x y z, ty, p, af, g⟩ s' := by
  obtain ⟨m', hm, he⟩ := evE_spec h hx
  obtain ⟨k', hk, he'⟩ := evE_spec h hy
  obtain ⟨v', hv, he''⟩ := evE_spec h hz
  obtain ⟨w', h1, h2⟩ := mupE_run H hm hk hv hb
  refine ⟨w', ?_, h2⟩
  simp only [execOp, he, he', he'']
  rw [Sem.run_bind, h1]; rfl
theorem um_ins {t : TypeId} {x y z : Operand} {m k v : Value} (h : Fr ρ N fm a) (H : Sr C w0 D ρ s w) (hx : evE fm.t x = some m) (hy : evE fm.t y = some k) (hz : evE fm.t z = some v) (hb : mupE C s t m k v = some s') : Um C w0 D ρ w a ⟨dst, .insert t x y z, ty, p, af, g⟩ s' := by
  obtain ⟨m', hm, he⟩ := evE_spec h hx
  obtain ⟨k', hk, he'⟩ := evE_spec h hy
  obtain ⟨v', hv, he''⟩ := evE_spec h hz
  obtain ⟨w', h1, h2⟩ := mupE_run H hm hk hv hb
  refine ⟨w', ?_, h2⟩
  simp only [execOp, he, he', he'']
  rw [Sem.run_bind, h1]; rfl

/-- A map made; its length. -/
def mkmE (s : St) : Option (Value × St) := (s.new (.map #[] 0)).bind fun s' => some (.map (some (BB + s.n)), s')
theorem vm_mkm {t : TypeId} {r : Value} (H : Sr C w0 D ρ s w) (hb : mkmE s = some (r, s')) : Vm C w0 D ρ w a ⟨dst, .makeMap t none, ty, p, af, g⟩ r s' := by
  unfold mkmE at hb
  obtain ⟨s1, hs, hb⟩ := Option.bind_eq_some_iff.1 hb
  cases hb
  refine ⟨[⟨w.heap.size, 0, []⟩], .map (some w.heap.size), w.alloc (.map #[] 0), ?_, ?_, H.alloc (o' := .map #[] 0) rfl hs⟩
  · simp only [execOp]; rfl
  · have : cad (ρ ++ [⟨w.heap.size, 0, []⟩]) (BB + s.n) = some w.heap.size := by
      unfold cad
      rw [BB_ble, BB_sub, ← H.len]; simp
    simp only [conc, this, Option.map_some]
def lnmE (C : Ct) (s : St) (t : TypeId) (m : Value) : Option Value := match C.tt.get t with
  | some ti => (match ti.k with
    | .map _ _ => (match m with
      | .map (some _) => (entE s m).bind fun es => some (.int .i64 es.length)
      | _ => none)
    | _ => none)
  | none => none
theorem concE_len : ∀ {l us : List MapEntry}, concE ρ l = some us → us.length = l.length
  | [], us, h => by simp only [concE, Option.some.injEq] at h; subst h; rfl
  | e :: r, us, h => by
    obtain ⟨k1, v1, t, h1, h2, h3, rfl⟩ := concE_cons h
    simp [concE_len h3]
theorem vm_lnm {t : TypeId} {x : Operand} {v r : Value} (h : Fr ρ N fm a) (H : Sr C w0 D ρ s w) (hx : evE fm.t x = some v) (hb : lnmE C s t v = some r) : Vm C w0 D ρ w a ⟨dst, .call ⟨.builtin .len, #[x], #[t]⟩, ty, p, af, g⟩ r s := by
  obtain ⟨v', hv, he⟩ := evE_spec h hx
  unfold lnmE at hb
  cases ht : C.tt.get t with
  | none => rw [ht] at hb; cases hb
  | some ti =>
    rw [ht] at hb
    have hti := C.okT _ _ ht
    obtain ⟨kk, z0, sz0, by0⟩ := ti
    cases kk with
    | map kt et =>
      simp only at hb
      split at hb
      · rename_i rr
        obtain ⟨es, hes, hb⟩ := Option.bind_eq_some_iff.1 hb
        cases hb
        obtain ⟨es', h1, h2⟩ := entE_spec H hv hes
        simp only [conc, Option.map_eq_some_iff] at hv
        obtain ⟨r2, hr2, rfl⟩ := hv
        rcases h2 with ⟨h3, _⟩ | ⟨r3, c, h3, h4⟩
        · cases h3
        · cases h3
          have hg := run_getObj (P := C.P) h4 (by intros; simp)
          refine ⟨[], .int .i64 es.length, w, ?_, conc_int _ _ _, by rw [List.append_nil]; exact H⟩
          simp only [execOp]
          simp [resolve, invoke, builtin, Builtin.len_, he, run_underlying (tk_map hti), hg, goInt, concE_len h1]
      · cases hb
    | _ => cases hb
end
end Go.Ev
