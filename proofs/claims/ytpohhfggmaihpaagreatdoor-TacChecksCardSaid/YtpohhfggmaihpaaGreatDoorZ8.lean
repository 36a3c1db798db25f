/-
  Maps whose keys are numbers, strings, bools.
  One operation, whatever it is.
  A statement's operations, in their order and in whatever order.
  A statement's operations in whatever order.
-/
import Derived.Test.YtpohhfggmaihpaaGreatDoorZ7
import Derived.OrdersIn
import Derived.OrdersHeld

/- Maps whose keys are numbers, strings, bools. -/
namespace Go.Ev
open Go.Wk
set_option linter.unusedVariables false
set_option linter.unusedSimpArgs false

def sameK : Tk → Value → Value → Option Bool
  | .int _, .int k a, .int k' b => bif decide (k = k') then some (a == b) else none
  | .string, .string a, .string b => some (eqB a.data.toList b.data.toList)
  | .bool, .bool a, .bool b => some (a == b)
  | _, _, _ => none
def scal : Tk → Value → Bool
  | .int _, .int _ _ => true
  | .string, .string _ => true
  | .bool, .bool _ => true
  | _, _ => false
def findE (K : Tk) (k : Value) : List MapEntry → Nat → Option (Option (Nat × Value))
  | [], _ => some none
  | e :: es, i => match sameK K k e.key with
    | some true => some (some (i, e.val))
    | some false => findE K k es (i + 1)
    | none => none
theorem eqB_beq (a b : ByteArray) : eqB a.data.toList b.data.toList = (a == b) := by
  rw [eqB_spec, beq_toListBytes, ByteArray.toList_eq, ByteArray.toList_eq]
theorem sameK_spec {K : Tk} {d : TypeDesc} {k v u : Value} {b : Bool} {ρ : Env} (hd : tkOf d = K) (h : sameK K k v = some b) (hv : conc ρ v = some u) : u = v ∧ Instr.sameNow d k v = some b := by
  unfold sameK at h
  split at h
  · rename_i k1 k2 a k3 b2
    simp only [conc, Option.some.injEq] at hv; subst hv
    refine ⟨rfl, ?_⟩
    cases d <;> simp [tkOf] at hd
    simp only [Instr.sameNow]
    cases hk : decide (k2 = k3) with
    | false => rw [hk] at h; cases h
    | true => rw [hk, cond_true] at h; simp only [decide_eq_true_eq] at hk; rw [if_pos hk]; exact h
  · rename_i a b2
    simp only [conc, Option.some.injEq] at hv; subst hv
    refine ⟨rfl, ?_⟩
    cases d <;> simp [tkOf] at hd
    simp only [Instr.sameNow]
    rw [eqB_beq] at h; exact h
  · simp only [conc, Option.some.injEq] at hv; subst hv
    refine ⟨rfl, ?_⟩
    cases d <;> simp [tkOf] at hd
    exact h
  · cases h

section
variable {C : Ct} {w0 : World} {D : Nat → Prop} {ρ : Env} {s s' : St} {w : World} {N : Nat} {fm : Fm} {a : Act} {dst : Option Tmp} {ty : TypeId} {p : String} {af : Array Edge} {g : Option (Nat × Bool)}

theorem concE_cons {e : MapEntry} {r us : List MapEntry} (h : concE ρ (e :: r) = some us) : ∃ k v t, conc ρ e.key = some k ∧ conc ρ e.val = some v ∧ concE ρ r = some t ∧ us = ⟨k, v, e.born⟩ :: t := by
  obtain ⟨k, v, b⟩ := e
  simp only [concE] at h
  split at h
  · rename_i k' v' t h1 h2 h3
    cases h; exact ⟨k', v', t, h1, h2, h3, rfl⟩
  · cases h
theorem findE_spec {K : Tk} {d : TypeDesc} {k : Value} (hd : tkOf d = K) : ∀ {es es' : List MapEntry} {i : Nat} {r : Option (Nat × Value)}, concE ρ es = some es' → findE K k es i = some r →
    ∃ r', Instr.findNow d k es' i = some r' ∧ (r = none → r' = none) ∧ ∀ j v, r = some (j, v) → ∃ u, r' = some (j, u) ∧ conc ρ v = some u ∧ i ≤ j ∧ ∃ e, es'[j - i]? = some e ∧ Instr.sameNow d k e.key = some true
  | [], es', i, r, hc, h => by
    simp only [concE, Option.some.injEq] at hc; subst hc
    simp only [findE, Option.some.injEq] at h; subst h
    exact ⟨none, rfl, fun _ => rfl, fun j v hj => by cases hj⟩
  | e :: es, es', i, r, hc, h => by
    obtain ⟨k', v', t, h1, h2, h3, rfl⟩ := concE_cons hc
    simp only [findE] at h
    split at h
    · rename_i hs
      obtain ⟨rfl, hs'⟩ := sameK_spec hd hs h1
      simp only [Option.some.injEq] at h; subst h
      refine ⟨some (i, v'), (by simp only [Instr.findNow, hs']), (fun hn => by cases hn), fun j v hj => ?_⟩
      cases hj
      exact ⟨v', rfl, h2, Nat.le_refl _, ⟨e.key, v', e.born⟩, by rw [Nat.sub_self]; rfl, hs'⟩
    · rename_i hs
      obtain ⟨rfl, hs'⟩ := sameK_spec hd hs h1
      obtain ⟨r', q1, q2, q3⟩ := findE_spec hd h3 h
      refine ⟨r', by simp only [Instr.findNow, hs']; exact q1, q2, fun j v hj => ?_⟩
      obtain ⟨u, q4, q5, q6, e2, q7, q8⟩ := q3 j v hj
      refine ⟨u, q4, q5, by omega, e2, ?_, q8⟩
      rw [show j - i = (j - (i + 1)) + 1 from by omega, List.getElem?_cons_succ]; exact q7
    · cases h
theorem checkKey_ok {P : Program} {K : Tk} {kt : TypeId} {d : TypeDesc} {k : Value} (hd : P.underlying kt = some d) (hk : tkOf d = K) (h : scal K k = true) (b : Bool) (n : Nat) (w : World) : (Instr.checkKey b (n + 1) kt k).run P w = .ok () w := by
  unfold scal at h
  split at h
  · cases d <;> simp [tkOf] at hk; simp [Instr.checkKey, run_underlying hd]
  · cases d <;> simp [tkOf] at hk; simp [Instr.checkKey, run_underlying hd]
  · cases d <;> simp [tkOf] at hk; simp [Instr.checkKey, run_underlying hd]
  · cases h
theorem scal_conc {K : Tk} {k u : Value} (h : scal K k = true) (hc : conc ρ k = some u) : u = k := by
  unfold scal at h
  split at h
  · simp only [conc, Option.some.injEq] at hc; exact hc.symm
  · simp only [conc, Option.some.injEq] at hc; exact hc.symm
  · simp only [conc, Option.some.injEq] at hc; exact hc.symm
  · cases h

/-- The entries of a map's value. -/
def entE (s : St) : Value → Option (List MapEntry)
  | .map none => some []
  | .map (some r) => bif Nat.ble BB r then (match s.h.get (r - BB) with
    | some (.map es _) => some es.toList
    | _ => none) else none
  | _ => none
theorem concO_map {L : Loc} {es : Array MapEntry} {c : Nat} {o : Obj} (h : concO C ρ L (.map es c) = some o) : ∃ es', concE ρ es.toList = some es' ∧ o = .map ⟨es'⟩ c := by
  have h' : (concE ρ es.toList).map (fun es' => Obj.map ⟨es'⟩ c) = some o := h
  obtain ⟨es', h1, rfl⟩ := Option.map_eq_some_iff.1 h'
  exact ⟨es', h1, rfl⟩
theorem concO_mkmap {L : Loc} {es es' : List MapEntry} {c : Nat} (h : concE ρ es = some es') : concO C ρ L (.map ⟨es⟩ c) = some (.map ⟨es'⟩ c) := by
  show (concE ρ es).map (fun es' => Obj.map ⟨es'⟩ c) = some (.map ⟨es'⟩ c)
  rw [h]; rfl
theorem entE_spec (H : Sr C w0 D ρ s w) {v v' : Value} {es : List MapEntry} (hv : conc ρ v = some v') (h : entE s v = some es) : ∃ es', concE ρ es = some es' ∧ ((v' = .map none ∧ es' = []) ∨ ∃ r c, v' = .map (some r) ∧ w.heap[r]? = some (.map ⟨es'⟩ c)) := by
  unfold entE at h
  split at h
  · cases h
    simp only [conc, Option.some.injEq] at hv; subst hv
    exact ⟨[], by simp [concE], .inl ⟨rfl, rfl⟩⟩
  · rename_i r
    simp only [conc, Option.map_eq_some_iff] at hv
    obtain ⟨r', hr, rfl⟩ := hv
    cases hb : Nat.ble BB r with
    | false => rw [hb] at h; cases h
    | true =>
      rw [hb, cond_true] at h
      obtain ⟨L, hL, rfl⟩ := cad_own hb hr
      generalize r - BB = k at h hL
      split at h
      · rename_i es0 c hk
        cases h
        obtain ⟨L2, o', q1, q2, q3⟩ := H.holds _ _ hk
        rw [hL] at q1; cases q1
        obtain ⟨es', q4, rfl⟩ := concO_map q2
        exact ⟨es', q4, .inr ⟨_, c, rfl, q3⟩⟩
      · cases h
  · cases h

def lkE (C : Ct) (s : St) (t : TypeId) (ok : Bool) (m k : Value) : Option Value := match C.tt.get t with
  | some ti => (match ti.k with
    | .map kt et => (match C.tt.get kt, C.tt.get et with
      | some ki, some ei => bif scal ki.k k && cst 8 ei.z then ((entE s m).bind fun es => (findE ki.k k es 0).bind fun r => match r with
        | some (_, v) => some (bif ok then .tuple ⟨[v, .bool true]⟩ else v)
        | none => some (bif ok then .tuple ⟨[ei.z, .bool false]⟩ else ei.z)) else none
      | _, _ => none)
    | _ => none)
  | none => none
theorem vm_lk {t : TypeId} {x y : Operand} {ok : Bool} {v q r : Value} (h : Fr ρ N fm a) (H : Sr C w0 D ρ s w) (hx : evE fm.t x = some v) (hy : evE fm.t y = some q) (hb : lkE C s t ok v q = some r) : Vm C w0 D ρ w a ⟨dst, .lookup t x y ok, ty, p, af, g⟩ r s := by
  obtain ⟨v', hv, he⟩ := evE_spec h hx
  obtain ⟨q', hq, he'⟩ := evE_spec h hy
  have hop : ∀ {u' : Value}, (Instr.lookup t v' q' ok).run C.P w = .ok u' w → (execOp a.eval ⟨dst, .lookup t x y ok, ty, p, af, g⟩).run C.P w = .ok (.value u') w := fun hr => by
    simp only [execOp, he, he']
    rw [Sem.run_bind, hr]; rfl
  unfold lkE at hb
  cases ht : C.tt.get t with
  | none => rw [ht] at hb; cases hb
  | some ti =>
    rw [ht] at hb
    have hti := C.okT _ _ ht
    obtain ⟨kk, z0, sz0, by0⟩ := ti
    cases kk with
    | map kt et =>
      simp only at hb
      split at hb
      · rename_i ki ei hki hei
        cases hsc : (scal ki.k q && cst 8 ei.z) with
        | false => rw [hsc] at hb; cases hb
        | true =>
          rw [hsc, cond_true] at hb
          simp only [Bool.and_eq_true] at hsc
          obtain ⟨es, hes, hb⟩ := Option.bind_eq_some_iff.1 hb
          obtain ⟨r0, hf, hb⟩ := Option.bind_eq_some_iff.1 hb
          obtain ⟨dk, _, hdk, _, hkk, _⟩ := tiOf_spec (C.okT _ _ hki)
          have hqq := scal_conc hsc.1 hq
          subst hqq
          obtain ⟨es', he1, he2⟩ := entE_spec H hv hes
          obtain ⟨r', hr1, hr2, hr3⟩ := findE_spec hkk he1 hf
          have hfk : ∀ w, (Instr.findKey kt q' es').run C.P w = .ok r' w := fun w => by
            simp only [Instr.findKey, Sem.run_bind, run_underlying hdk, Result.andThen_ok, hr1]; rfl
          have hck : ∀ b w, (Instr.checkKey b 10000 kt q').run C.P w = .ok () w := fun b w => checkKey_ok hdk hkk hsc.1 b 9999 w
          have hlk : ∀ {u : Value} {found : Bool}, (match r' with | some (_, v) => (v, true) | none => (ei.z, false)) = (u, found) → (Instr.lookup t v' q' ok).run C.P w = .ok (if ok then .tuple #[u, .bool found] else u) w := by
            intro u found hm
            rcases he2 with ⟨rfl, rfl⟩ | ⟨rr, c, rfl, hheap⟩
            · cases r' with
              | none => simp only [Prod.mk.injEq] at hm; obtain ⟨rfl, rfl⟩ := hm
                        simp [Instr.lookup, run_underlying (tk_map hti), hck, hfk, Wk.run_zeroValue (C.okT _ _ hei)]
              | some r' => obtain ⟨j, u'⟩ := r'; simp only [Prod.mk.injEq] at hm; obtain ⟨rfl, rfl⟩ := hm
                           simp [Instr.lookup, run_underlying (tk_map hti), hck, hfk]
            · have hg := run_getObj (P := C.P) hheap (by intros; simp)
              cases r' with
              | none => simp only [Prod.mk.injEq] at hm; obtain ⟨rfl, rfl⟩ := hm
                        simp [Instr.lookup, run_underlying (tk_map hti), hg, hck, hfk, Wk.run_zeroValue (C.okT _ _ hei)]
              | some r' => obtain ⟨j, u'⟩ := r'; simp only [Prod.mk.injEq] at hm; obtain ⟨rfl, rfl⟩ := hm
                           simp [Instr.lookup, run_underlying (tk_map hti), hg, hck, hfk]
          cases r0 with
          | none =>
            have hn := hr2 rfl
            subst hn
            have h9 := hlk rfl
            cases ok with
            | true =>
              simp only [Option.some.injEq] at hb; subst hb
              exact ⟨[], _, w, hop h9, by rw [List.append_nil]; exact conc_tuple (concs_cons.2 ⟨_, _, cst_conc hsc.2, concs_one (conc_bool _ _), rfl⟩), by rw [List.append_nil]; exact H⟩
            | false =>
              simp only [Option.some.injEq] at hb; subst hb
              exact ⟨[], _, w, hop h9, by rw [List.append_nil]; exact cst_conc hsc.2, by rw [List.append_nil]; exact H⟩
          | some r0 =>
            obtain ⟨j, v0⟩ := r0
            obtain ⟨u, hu1, hu2, _⟩ := hr3 j v0 rfl
            subst hu1
            have h9 := hlk rfl
            cases ok with
            | true =>
              simp only [Option.some.injEq] at hb; subst hb
              exact ⟨[], _, w, hop h9, by rw [List.append_nil]; exact conc_tuple (concs_cons.2 ⟨_, _, hu2, concs_one (conc_bool _ _), rfl⟩), by rw [List.append_nil]; exact H⟩
            | false =>
              simp only [Option.some.injEq] at hb; subst hb
              exact ⟨[], _, w, hop h9, by rw [List.append_nil]; exact hu2, by rw [List.append_nil]; exact H⟩
      · cases hb
    | _ => cases hb

/-! ### Written -/
def setEnt (k v : Value) : List MapEntry → Nat → List MapEntry
  | [], _ => []
  | e :: r, 0 => { e with key := k, val := v } :: r
  | e :: r, i + 1 => e :: setEnt k v r i
theorem setEnt_eq (k v : Value) : ∀ (l : List MapEntry) (i : Nat), setEnt k v l i = l.modify i (fun e => { e with key := k, val := v })
  | [], i => by simp [setEnt]
  | e :: r, 0 => by simp [setEnt]
  | e :: r, i + 1 => by simp [setEnt, setEnt_eq k v r i]
theorem setEnt_conc {k v v' : Value} (hk : conc ρ k = some k) (hv : conc ρ v = some v') : ∀ {l l' : List MapEntry} (i : Nat), concE ρ l = some l' → concE ρ (setEnt k v l i) = some (setEnt k v' l' i)
  | [], l', i, h => by simp only [concE, Option.some.injEq] at h; subst h; simp [setEnt, concE]
  | e :: r, l', 0, h => by
    obtain ⟨k1, v1, t, h1, h2, h3, rfl⟩ := concE_cons h
    simp only [setEnt, concE, hk, hv, h3]
  | e :: r, l', i + 1, h => by
    obtain ⟨k1, v1, t, h1, h2, h3, rfl⟩ := concE_cons h
    have ih := setEnt_conc hk hv i h3
    obtain ⟨ek, ev, eb⟩ := e
    simp only [setEnt, concE] at ih ⊢
    simp only at h1 h2
    rw [h1, h2, ih]
theorem concE_app : ∀ {l m l' m' : List MapEntry}, concE ρ l = some l' → concE ρ m = some m' → concE ρ (l ++ m) = some (l' ++ m')
  | [], m, l', m', h, h' => by simp only [concE, Option.some.injEq] at h; subst h; exact h'
  | e :: r, m, l', m', h, h' => by
    obtain ⟨k1, v1, t, h1, h2, h3, rfl⟩ := concE_cons h
    have ih := concE_app h3 h'
    obtain ⟨ek, ev, eb⟩ := e
    simp only at h1 h2
    simp only [List.cons_append, concE, h1, h2, ih]
theorem keyStays {P : Program} {d : TypeDesc} {k old : Value} (h : Instr.sameNow d k old = some true) (w : World) : (Instr.keyThatStays old k).run P w = .ok k w := by
  unfold Instr.sameNow at h
  split at h
  · rename_i k1 a k2 b
    split at h
    · rename_i hk
      subst hk
      simp at h
      subst h
      simp [Instr.keyThatStays, Instr.sameBits]
    · cases h
  · rename_i a b
    simp only [Option.some.injEq] at h
    simp [Instr.keyThatStays, Instr.sameBits]
    have h2 : (b == a) = true := by
      rw [beq_toListBytes, ByteArray.toList_eq, ByteArray.toList_eq] at h ⊢
      simp at h ⊢
      exact h.symm
    simp [h2]
  · rename_i a b
    simp at h
    subst h
    simp [Instr.keyThatStays, Instr.sameBits]
  · cases h
def mupE (C : Ct) (s : St) (t : TypeId) (m k v : Value) : Option St := match m with
  | .map (some r) => bif Nat.ble BB r then (match s.h.get (r - BB), C.tt.get t with
    | some (.map es clock), some ti => (match ti.k with
      | .map kt et => (match C.tt.get kt with
        | some ki => bif scal ki.k k then ((findE ki.k k es.toList 0).bind fun q => match q with
          | some (i, _) => s.upd (r - BB) (some (.map ⟨setEnt k v es.toList i⟩ clock))
          | none => s.upd (r - BB) (some (.map ⟨es.toList ++ [⟨k, v, clock⟩]⟩ (clock + 1)))) else none
        | none => none)
      | _ => none)
    | _, _ => none) else none
  | _ => none
theorem mupE_run (H : Sr C w0 D ρ s w) {t : TypeId} {m m' k k' v v' : Value} (hm : conc ρ m = some m') (hk : conc ρ k = some k') (hv : conc ρ v = some v') (hb : mupE C s t m k v = some s') :
    ∃ w', (Instr.mapUpdate t m' k' v').run C.P w = .ok () w' ∧ Sr C w0 D ρ s' w' := by
  unfold mupE at hb
  split at hb
  · rename_i r
    simp only [conc, Option.map_eq_some_iff] at hm
    obtain ⟨r', hr, rfl⟩ := hm
    cases hbb : Nat.ble BB r with
    | false => rw [hbb] at hb; cases hb
    | true =>
      rw [hbb, cond_true] at hb
      obtain ⟨L, hL, rfl⟩ := cad_own hbb hr
      generalize r - BB = kk at hb hL
      split at hb
      · rename_i es clock ti hkk ht
        have hti := C.okT _ _ ht
        obtain ⟨tk, z0, sz0, by0⟩ := ti
        cases tk with
        | map kt et =>
          simp only at hb
          split at hb
          · rename_i ki hki
            cases hsc : scal ki.k k with
            | false => rw [hsc] at hb; cases hb
            | true =>
              rw [hsc, cond_true] at hb
              obtain ⟨q, hf, hb⟩ := Option.bind_eq_some_iff.1 hb
              obtain ⟨L2, o', q1, q2, q3⟩ := H.holds _ _ hkk
              rw [hL] at q1; cases q1
              obtain ⟨es', q4, rfl⟩ := concO_map q2
              obtain ⟨dk, _, hdk, _, hk3, _⟩ := tiOf_spec (C.okT _ _ hki)
              have hqq := scal_conc hsc hk
              subst hqq
              obtain ⟨r0, hr1, hr2, hr3⟩ := findE_spec hk3 q4 hf
              have hfk : ∀ w, (Instr.findKey kt k' es').run C.P w = .ok r0 w := fun w => by
                simp only [Instr.findKey, Sem.run_bind, run_underlying hdk, Result.andThen_ok, hr1]; rfl
              have hck : ∀ b w, (Instr.checkKey b 10000 kt k').run C.P w = .ok () w := fun b w => checkKey_ok hdk hk3 hsc b 9999 w
              have hg := run_getObj (P := C.P) q3 (by intros; simp)
              have hset := fun o => run_setObj (P := C.P) q3 (by intros; simp) o
              have done : ∀ {o : Obj} {o2 : Obj}, concO C ρ L o = some o2 → s.upd kk (some o) = some s' → (Instr.mapUpdate t (.map (some L.ad)) k' v').run C.P w = .ok () { w with heap := w.heap.setIfInBounds L.ad o2 } → ∃ w', (Instr.mapUpdate t (.map (some L.ad)) k' v').run C.P w = .ok () w' ∧ Sr C w0 D ρ s' w' := by
                intro o o2 ho hu hrun
                have hlt := (Array.getElem?_eq_some_iff.1 q3).1
                exact ⟨_, hrun, H.write hkk hL ho hu (by simp [hlt]) (fun z _ hz => by
                  show (w.heap.setIfInBounds L.ad o2)[z]? = _
                  rw [Array.getElem?_setIfInBounds_ne (Ne.symm hz)]) (by simp) rfl rfl rfl⟩
              cases q with
              | none =>
                have hn := hr2 rfl
                subst hn
                refine done (concO_mkmap (concE_app q4 (m' := [⟨k', v', clock⟩]) (by simp only [concE, hk, hv]))) hb ?_
                simp [Instr.mapUpdate, run_underlying (tk_map hti), hg, hck, hfk, hset]
              | some q =>
                obtain ⟨i, v0⟩ := q
                obtain ⟨u, hu1, hu2, _, e2, hu3, hu4⟩ := hr3 i v0 rfl
                subst hu1
                rw [Nat.sub_zero] at hu3
                refine done (concO_mkmap (setEnt_conc hk hv i q4)) hb ?_
                have hks := keyStays (P := C.P) hu4 w
                have e5 : (⟨es'⟩ : Array MapEntry)[i]? = some e2 := by simpa using hu3
                have e6 : (⟨es'⟩ : Array MapEntry).modify i (fun e => { e with key := k', val := v' }) = ⟨setEnt k' v' es' i⟩ := by
                  apply Array.ext'
                  rw [Array.toList_modify, setEnt_eq]
                have e7 : es'.modify i (fun e => { e with key := k', val := v' }) = setEnt k' v' es' i := (setEnt_eq k' v' es' i).symm
                simp [Instr.mapUpdate, run_underlying (tk_map hti), hg, hck, hfk, hu3, hks, e7, hset]
          · cases hb
        | _ => cases hb
      · cases hb
  · cases hb
theorem um_mup {t : TypeId} {x y z : Operand} {m k v : Value} (h : Fr ρ N fm a) (H : Sr C w0 D ρ s w) (hx : evE fm.t x = some m) (hy : evE fm.t y = some k) (hz : evE fm.t z = some v) (hb : mupE C s t m k v = some s') : Um C w0 D ρ w a ⟨dst, .mapUpdate t x y z, ty, p, af, g⟩ s' := by
  obtain ⟨m', hm, he⟩ := evE_spec h hx
  obtain ⟨k', hk, he'⟩ := evE_spec h hy
  obtain ⟨v', hv, he''⟩ := evE_spec h hz
  obtain ⟨w', h1, h2⟩ := mupE_run H hm hk hv hb
  refine ⟨w', ?_, h2⟩
  simp only [execOp, he, he', he'']
  rw [Sem.run_bind, h1]; rfl
theorem um_ins {t : TypeId} {x y z : Operand} {m k v : Value} (h : Fr ρ N fm a) (H : Sr C w0 D ρ s w) (hx : evE fm.t x = some m) (hy : evE fm.t y = some k) (hz : evE fm.t z = some v) (hb : mupE C s t m k v = some s') : Um C w0 D ρ w a ⟨dst, .insert t x y z, ty, p, af, g⟩ s' := by
  obtain ⟨m', hm, he⟩ := evE_spec h hx
  obtain ⟨k', hk, he'⟩ := evE_spec h hy
  obtain ⟨v', hv, he''⟩ := evE_spec h hz
  obtain ⟨w', h1, h2⟩ := mupE_run H hm hk hv hb
  refine ⟨w', ?_, h2⟩
  simp only [execOp, he, he', he'']
  rw [Sem.run_bind, h1]; rfl

/-- A map made; its length. -/
def mkmE (s : St) : Option (Value × St) := (s.new (.map #[] 0)).bind fun s' => some (.map (some (BB + s.n)), s')
theorem vm_mkm {t : TypeId} {r : Value} (H : Sr C w0 D ρ s w) (hb : mkmE s = some (r, s')) : Vm C w0 D ρ w a ⟨dst, .makeMap t none, ty, p, af, g⟩ r s' := by
  unfold mkmE at hb
  obtain ⟨s1, hs, hb⟩ := Option.bind_eq_some_iff.1 hb
  cases hb
  refine ⟨[(s.n, ⟨w.heap.size, 0, []⟩)], .map (some w.heap.size), w.alloc (.map #[] 0), ?_, ?_, H.alloc (o' := .map #[] 0) rfl hs⟩
  · simp only [execOp]; rfl
  · have : cad (ρ ++ [(s.n, ⟨w.heap.size, 0, []⟩)]) (BB + s.n) = some w.heap.size := by
      unfold cad
      rw [BB_ble, BB_sub, cond_true, lcE_new _ H.un]; rfl
    simp only [conc, this, Option.map_some]
def lnmE (C : Ct) (s : St) (t : TypeId) (m : Value) : Option Value := match C.tt.get t with
  | some ti => (match ti.k with
    | .map _ _ => (match m with
      | .map (some _) => (entE s m).bind fun es => some (.int .i64 es.length)
      | _ => none)
    | _ => none)
  | none => none
theorem concE_len : ∀ {l us : List MapEntry}, concE ρ l = some us → us.length = l.length
  | [], us, h => by simp only [concE, Option.some.injEq] at h; subst h; rfl
  | e :: r, us, h => by
    obtain ⟨k1, v1, t, h1, h2, h3, rfl⟩ := concE_cons h
    simp [concE_len h3]
theorem vm_lnm {t : TypeId} {x : Operand} {v r : Value} (h : Fr ρ N fm a) (H : Sr C w0 D ρ s w) (hx : evE fm.t x = some v) (hb : lnmE C s t v = some r) : Vm C w0 D ρ w a ⟨dst, .call ⟨.builtin .len, #[x], #[t]⟩, ty, p, af, g⟩ r s := by
  obtain ⟨v', hv, he⟩ := evE_spec h hx
  unfold lnmE at hb
  cases ht : C.tt.get t with
  | none => rw [ht] at hb; cases hb
  | some ti =>
    rw [ht] at hb
    have hti := C.okT _ _ ht
    obtain ⟨kk, z0, sz0, by0⟩ := ti
    cases kk with
    | map kt et =>
      simp only at hb
      split at hb
      · rename_i rr
        obtain ⟨es, hes, hb⟩ := Option.bind_eq_some_iff.1 hb
        cases hb
        obtain ⟨es', h1, h2⟩ := entE_spec H hv hes
        simp only [conc, Option.map_eq_some_iff] at hv
        obtain ⟨r2, hr2, rfl⟩ := hv
        rcases h2 with ⟨h3, _⟩ | ⟨r3, c, h3, h4⟩
        · cases h3
        · cases h3
          have hg := run_getObj (P := C.P) h4 (by intros; simp)
          refine ⟨[], .int .i64 es.length, w, ?_, conc_int _ _ _, by rw [List.append_nil]; exact H⟩
          simp only [execOp]
          simp [resolve, invoke, builtin, Builtin.len_, he, run_underlying (tk_map hti), hg, goInt, concE_len h1]
      · cases hb
    | _ => cases hb
end
end Go.Ev

/- One operation, whatever it is. -/
namespace Go.Ev
open Go.Wk
set_option linter.unusedVariables false
set_option linter.unusedSimpArgs false

/-! ### Functions without a body -/
section
variable {C : Ct} {w0 : World} {D : Nat → Prop} {ρ : Env} {s s' : St} {w : World} {N : Nat} {fm : Fm} {a : Act}
theorem digits_size : ∀ (n t : Nat) (acc : Array Value), (Extern.BytealgMakeNoZero.digits n t acc).size = acc.size + n
  | 0, t, acc => rfl
  | n + 1, t, acc => by
    simp only [Extern.BytealgMakeNoZero.digits]
    rw [digits_size n]; simp; omega
def byteSl (C : Ct) : Option (TypeId × Ti) := match C.tt.get C.bt with
  | some bi => (match bi.k with
    | .slice e => (C.tt.get e).bind fun te => bif Nat.beq te.sz 1 then some (e, te) else none
    | _ => none)
  | none => none
def xE (C : Ct) (s : St) : Nat → List Value → Option (Value × St)
  | 0, [x] => some (x, s)
  | 1, [.string q, .int .u8 c] => some (.int .i64 (Go.Lib.indexByte q.data.toList c.toNat.toUInt8), s)
  | 2, [.string q, .int .u8 c] => some (.int .i64 (Go.Lib.countByte q.data.toList c.toNat.toUInt8 : Nat), s)
  | 3, [.int .i64 n] => bif decide (0 ≤ n) && decide (n ≤ 4294967296) then (byteSl C).bind fun q => growE C s q.1 n.toNat [] else none
  | _, _ => none
theorem byteSl_spec {e : TypeId} {te : Ti} (h : byteSl C = some (e, te)) : C.P.underlying C.bt = some (.slice e) ∧ C.tt.get e = some te ∧ te.sz = 1 := by
  unfold byteSl at h
  split at h
  · rename_i bi hb
    obtain ⟨k, z, sz, by'⟩ := bi
    cases k with
    | slice e' =>
      simp only at h
      obtain ⟨te', h1, h2⟩ := Option.bind_eq_some_iff.1 h
      cases hq : Nat.beq te'.sz 1 with
      | false => rw [hq] at h2; cases h2
      | true => rw [hq, cond_true] at h2; cases h2; exact ⟨tk_slice (C.okT _ _ hb), h1, Nat.eq_of_beq_eq_true hq⟩
    | _ => cases h
  · cases h
theorem xE_spec (H : Sr C w0 D ρ s w) {c : Nat} {args us : List Value} {r : Value} (ha : concs ρ args = some us) (h : xE C s c args = some (r, s')) :
    ∃ τ u w', (xrow C.bt c us.toArray).run C.P w = .ok u w' ∧ conc (ρ ++ τ) r = some u ∧ Sr C w0 D (ρ ++ τ) s' w' := by
  unfold xE at h
  split at h
  · cases h
    obtain ⟨u, t, h1, h2, rfl⟩ := concs_cons.1 ha
    rw [concs_nil] at h2; cases h2
    exact ⟨[], u, w, rfl, by rw [List.append_nil]; exact h1, by rw [List.append_nil]; exact H⟩
  · cases h
    obtain ⟨u, t, h1, h2, rfl⟩ := concs_cons.1 ha
    obtain ⟨u2, t2, h3, h4, rfl⟩ := concs_cons.1 h2
    rw [concs_nil] at h4; cases h4
    simp only [conc, Option.some.injEq] at h1 h3; subst h1; subst h3
    rename_i q c
    have hr : (xrow C.bt 1 #[.string q, .int .u8 c]).run C.P w = _ := Go.Lib.run_indexByteString q c w
    exact ⟨[], _, w, hr, conc_int _ _ _, by rw [List.append_nil]; exact H⟩
  · cases h
    obtain ⟨u, t, h1, h2, rfl⟩ := concs_cons.1 ha
    obtain ⟨u2, t2, h3, h4, rfl⟩ := concs_cons.1 h2
    rw [concs_nil] at h4; cases h4
    simp only [conc, Option.some.injEq] at h1 h3; subst h1; subst h3
    rename_i q c
    have hr : (xrow C.bt 2 #[.string q, .int .u8 c]).run C.P w = _ := Go.Lib.run_countString q c w
    exact ⟨[], _, w, hr, conc_int _ _ _, by rw [List.append_nil]; exact H⟩
  · rename_i n
    obtain ⟨u, t, h1, h2, rfl⟩ := concs_cons.1 ha
    rw [concs_nil] at h2; cases h2
    simp only [conc, Option.some.injEq] at h1; subst h1
    cases hq : (decide (0 ≤ n) && decide (n ≤ 4294967296)) with
    | false => rw [hq] at h; cases h
    | true =>
      rw [hq, cond_true] at h
      simp only [Bool.and_eq_true, decide_eq_true_eq] at hq
      obtain ⟨⟨e, te⟩, hbs, hg⟩ := Option.bind_eq_some_iff.1 h
      obtain ⟨hu, hte, hsz⟩ := byteSl_spec hbs
      let w2 : World := { w with drawn := w.drawn + 1 + 1 }
      have H2 : Sr C w0 D ρ s w2 := H.drew.drew
      let cap := (Question.appendCap n.toNat 0 e).cut (w.tape w.drawn (.appendCap n.toNat 0 e))
      let bytes := (Question.extern "internal/bytealg.MakeNoZero.bytes" 0).cut (w.tape (w.drawn + 1) (.extern "internal/bytealg.MakeNoZero.bytes" 0))
      have hcap : n.toNat ≤ cap := by simp [cap, Question.cut]
      have hsp : ((Extern.BytealgMakeNoZero.digits cap bytes #[]).toList).length = cap * te.sz := by
        rw [Array.length_toList, digits_size, hsz]; simp
      obtain ⟨g1, g2⟩ := growE_alloc (w := w2) (cap := cap) (sp := (Extern.BytealgMakeNoZero.digits cap bytes #[]).toList) H2 hte (concs_nil ρ) hcap (by rw [List.nil_append]; exact hsp) hg
      refine ⟨_, _, _, ?_, g1, g2⟩
      have h0 : ¬ n < 0 := by omega
      have h48 : ¬ (281474976710656 : Int) < n := by omega
      show (Extern.BytealgMakeNoZero.makeNoZero #[] #[C.bt] #[.int .i64 n]).run C.P w = _
      have hroom : ∀ c w, (askRoom c).run C.P w = .ok () w := fun c w => by unfold askRoom; split <;> rfl
      have hdef : Extern.BytealgMakeNoZero.makeNoZero #[] #[C.bt] #[.int .i64 n] = (do
        let .slice elem ← underlying C.bt | stuck "bytealg.MakeNoZero: slice type expected"
        if n < 0 || n > 2 ^ 48 then runtimePanic (.error "makeslice: len out of range")
        let cap ← choose (.appendCap n.toNat 0 elem)
        askRoom cap
        let bytes ← choose (.extern "internal/bytealg.MakeNoZero.bytes" 0)
        let a ← newRow elem (Extern.BytealgMakeNoZero.digits cap bytes #[])
        pure (.slice (some a) n.toNat cap)) := rfl
      rw [hdef]
      simp [run_underlying hu, h0, h48, hroom, Question.forced, newRow, w2, cap, bytes]
      rfl
  · cases h

/-! ### One operation -/
inductive OR where
  | val (v : Value) (s : St)
  | skip (s : St)
  | ent (f : FuncId) (args : List Value)
  | dfr (d : Deferred)
  | pan (v : Value)
  | rnd (l : Nat) (args : List Value)

def pairE : Option (Value × St) → Option OR
  | some (v, s) => some (.val v s)
  | none => none
def valE (s : St) : Option Value → Option OR
  | some v => some (.val v s)
  | none => none
def skipE : Option St → Option OR
  | some s => some (.skip s)
  | none => none
theorem pairE_some {q : Option (Value × St)} {r : OR} (h : pairE q = some r) : ∃ v s, q = some (v, s) ∧ r = .val v s := by
  unfold pairE at h
  split at h
  · cases h; exact ⟨_, _, rfl, rfl⟩
  · cases h
theorem valE_some {q : Option Value} {s : St} {r : OR} (h : valE s q = some r) : ∃ v, q = some v ∧ r = .val v s := by
  unfold valE at h
  split at h
  · cases h; exact ⟨_, rfl, rfl⟩
  · cases h
theorem skipE_some {q : Option St} {r : OR} (h : skipE q = some r) : ∃ s, q = some s ∧ r = .skip s := by
  unfold skipE at h
  split at h
  · cases h; exact ⟨_, rfl, rfl⟩
  · cases h

/-- A call of a function value. -/
def calE (C : Ct) (s : St) (args : List Value) : Value → Option OR
  | .func (.func k) l m => (match C.xt.get k with
    | some c => pairE (xE C s c (l.toList ++ args ++ m.toList))
    | none => some (.ent k (l.toList ++ args ++ m.toList)))
  | .func (.yield l) ⟨[]⟩ ⟨[]⟩ => some (.rnd l args)
  | _ => none
def dfrE (args : List Value) : Value → Option OR
  | .func (.func k) l m => some (.dfr ⟨.fn (.func k) m, ⟨l.toList ++ args⟩⟩)
  | _ => none
def panE : Value → Option OR
  | .iface t v => some (.pan (.iface t v))
  | _ => none
def oorE : Option OR → Option OR → Option OR
  | some v, _ => some v
  | none, q => q
theorem oorE_some {q r : Option OR} {v : OR} (h : oorE q r = some v) : q = some v ∨ r = some v := by
  cases q with
  | some u => exact .inl h
  | none => exact .inr h
def memE (C : Ct) (t : Tr Value) (s : St) : Op → Option OR
  | .load ty x => valE s ((evE t x).bind (ldE C s ty))
  | .store ty x y => skipE ((evE t x).bind fun q => (evE t y).bind fun v => stE C s ty v q)
  | .box e x => pairE ((evE t x).bind (boxE s e))
  | .alloc e => pairE (allE C s e)
  | .buildSlice ty len parts => pairE (litE C t s ty len parts)
  | .makeSlice ty x y => pairE ((evE t x).bind fun v => (evE t y).bind fun q => mksE C s ty v q)
  | .makeMap _ none => pairE (mkmE s)
  | .build ty parts => valE s (abE C t ty parts)
  | .lookup ty x y ok => valE s ((evE t x).bind fun m => (evE t y).bind fun k => lkE C s ty ok m k)
  | .mapUpdate ty x y z => skipE ((evE t x).bind fun m => (evE t y).bind fun k => (evE t z).bind fun v => mupE C s ty m k v)
  | .insert ty x y z => skipE ((evE t x).bind fun m => (evE t y).bind fun k => (evE t z).bind fun v => mupE C s ty m k v)
  | .convert src dst x => (evE t x).bind fun v => oorE (pairE (sbtE C s src dst v)) (valE s (orE (bstE C s src dst v) (uptE C s src dst v)))
  | .call ⟨.builtin .append, ⟨[x, y]⟩, ⟨[ty, u]⟩⟩ => pairE ((evE t x).bind fun v => (evE t y).bind fun q => appE C s ty u v q)
  | .call ⟨.builtin .copy, ⟨[x, y]⟩, ⟨[ty, u]⟩⟩ => pairE ((evE t x).bind fun v => (evE t y).bind fun q => cpyE C s ty v q)
  | .call ⟨.builtin .unsafeString, ⟨[x, y]⟩, ⟨[ty, u]⟩⟩ => pairE ((evE t x).bind fun v => (evE t y).bind fun q => ustE C s ty v q)
  | .call ⟨.builtin .len, ⟨[x]⟩, ⟨[ty]⟩⟩ => valE s ((evE t x).bind (lnmE C s ty))
  | .call ⟨.value f, xs, _⟩ => (evE t f).bind fun v => (evEs t xs.toList).bind fun args => calE C s args v
  | .defer ⟨.value f, xs, _⟩ => (evE t f).bind fun v => (evEs t xs.toList).bind fun args => dfrE args v
  | .panic x => (evE t x).bind panE
  | _ => none

/-- What comes of it in the world. -/
def OpS (C : Ct) (w0 : World) (D : Nat → Prop) (ρ : Env) (s : St) (w : World) (a : Act) (o : Oper) : OR → Prop
  | .val v s' => Vm C w0 D ρ w a o v s'
  | .skip s' => Um C w0 D ρ w a o s'
  | .ent f args => ∃ us, concs ρ args = some us ∧ ((C.ft.get f).isSome = true → (∀ fn, C.ft.get f = some fn → fn.body.isSome = true) → (execOp a.eval o).run C.P w = .ok (.enter f us.toArray) w)
  | .dfr d => ∃ d', concD ρ d = some d' ∧ (∃ c, o.op = .defer c) ∧ (execOp a.eval o).run C.P w = .ok (.defer d') w
  | .pan v => ∃ u, conc ρ v = some u ∧ (∃ x, o.op = .panic x) ∧ (execOp a.eval o).run C.P w = .halt (.panic u) w
  | .rnd l args => ∃ l' us, cad ρ l = some l' ∧ concs ρ args = some us ∧ execOp a.eval o = (do invoke (.fn (.yield l') #[]) us.toArray)

section
variable {dst : Option Tmp} {ty : TypeId} {p : String} {af : Array Edge} {g : Option (Nat × Bool)}
theorem callFunc_enter {k : FuncId} {fn : Func} (h : C.ft.get k = some fn) (hb : fn.body.isSome = true) (args : Array Value) (w : World) : (callFunc k args).run C.P w = .ok (.enter k args) w := by
  obtain ⟨h1, h2⟩ := C.okF k fn h
  have hn : fn.body.isNone = false := by cases hbb : fn.body <;> simp [hbb] at hb ⊢
  have hp : (program).run C.P w = .ok C.s.P w := rfl
  unfold callFunc
  rw [Sem.run_bind, hp, Result.andThen_ok]
  simp only [h1, h2, hn, Bool.false_eq_true, if_false]
  rfl
theorem calE_spec {f : Operand} {xs : Array Operand} {ats : Array TypeId} {v : Value} {args : List Value} {r : OR} (h : Fr ρ N fm a) (H : Sr C w0 D ρ s w) (hf : evE fm.t f = some v) (hx : evEs fm.t xs.toList = some args) (hb : calE C s args v = some r) :
    OpS C w0 D ρ s w a ⟨dst, .call ⟨.value f, xs, ats⟩, ty, p, af, g⟩ r := by
  obtain ⟨v', hv, he⟩ := evE_spec h hf
  have hxs := evEs_spec h hx
  have hmap : xs.map a.eval = ⟨xs.toList.map a.eval⟩ := by apply Array.ext'; simp
  unfold calE at hb
  split at hb
  · rename_i k l m
    simp only [conc, cfn] at hv
    split at hv
    · rename_i fn' l' m' hfn hl hm
      cases hfn; cases hv
      have hall : concs ρ (l.toList ++ args ++ m.toList) = some (l'.toList ++ xs.toList.map a.eval ++ m'.toList) := concs_app (concs_app (concA_iff.1 hl) hxs) (concA_iff.1 hm)
      have hex : execOp a.eval ⟨dst, .call ⟨.value f, xs, ats⟩, ty, p, af, g⟩ = callFunc k (l'.toList ++ xs.toList.map a.eval ++ m'.toList).toArray := by
        have e : (l'.toList ++ xs.toList.map a.eval ++ m'.toList).toArray = l' ++ xs.map a.eval ++ m' := by apply Array.ext'; simp
        rw [e]
        simp only [execOp, resolve, he, Deferred.ofValue]
        rfl
      split at hb
      · rename_i c hc
        obtain ⟨u, s1, h1, rfl⟩ := pairE_some hb
        obtain ⟨τ, u', w', g1, g2, g3⟩ := xE_spec H hall h1
        refine ⟨τ, u', w', ?_, g2, g3⟩
        rw [hex, C.okX k c hc, g1]; rfl
      · cases hb
        refine ⟨_, hall, fun h1 h2 => ?_⟩
        obtain ⟨fn, hfn⟩ := Option.isSome_iff_exists.1 h1
        rw [hex]
        exact callFunc_enter hfn (h2 fn hfn) _ w
    · cases hv
  · rename_i l
    cases hb
    simp only [conc, cfn, concA, concs, Option.map_some] at hv
    split at hv
    · rename_i fn' l' m' hfn hl hm
      simp only [Option.map_eq_some_iff] at hfn
      obtain ⟨l2, hl2, rfl⟩ := hfn
      cases hl; cases hm; cases hv
      refine ⟨l2, _, hl2, hxs, ?_⟩
      simp only [execOp, resolve, he, Deferred.ofValue, hmap]
      have e : (#[] : Array Value) ++ (⟨xs.toList.map a.eval⟩ : Array Value) = (xs.toList.map a.eval).toArray := by simp
      show invoke (.fn (.yield l2) #[]) (#[] ++ (⟨xs.toList.map a.eval⟩ : Array Value)) = _
      rw [e]
    · cases hv
  · cases hb
theorem dfrE_spec {f : Operand} {xs : Array Operand} {ats : Array TypeId} {v : Value} {args : List Value} {r : OR} (h : Fr ρ N fm a) (H : Sr C w0 D ρ s w) (hf : evE fm.t f = some v) (hx : evEs fm.t xs.toList = some args) (hb : dfrE args v = some r) :
    OpS C w0 D ρ s w a ⟨dst, .defer ⟨.value f, xs, ats⟩, ty, p, af, g⟩ r := by
  obtain ⟨v', hv, he⟩ := evE_spec h hf
  have hxs := evEs_spec h hx
  unfold dfrE at hb
  split at hb
  · rename_i k l m
    cases hb
    simp only [conc, cfn] at hv
    split at hv
    · rename_i fn' l' m' hfn hl hm
      cases hfn; cases hv
      refine ⟨⟨.fn (.func k) m', ⟨l'.toList ++ xs.toList.map a.eval⟩⟩, ?_, ⟨_, rfl⟩, ?_⟩
      · have := concs_app (concA_iff.1 hl) hxs
        simp only [concD, cfn, hm, concA_mk.2 (by exact this)]
      · simp only [execOp, resolve, he, Deferred.ofValue]
        have e : (⟨l'.toList ++ xs.toList.map a.eval⟩ : Array Value) = l' ++ xs.map a.eval := by apply Array.ext'; simp
        rw [e]; rfl
    · cases hv
  · cases hb
theorem panE_spec {x : Operand} {v : Value} {r : OR} (h : Fr ρ N fm a) (H : Sr C w0 D ρ s w) (hx : evE fm.t x = some v) (hb : panE v = some r) : OpS C w0 D ρ s w a ⟨dst, .panic x, ty, p, af, g⟩ r := by
  obtain ⟨v', hv, he⟩ := evE_spec h hx
  unfold panE at hb
  split at hb
  · cases hb
    have hv0 := hv
    simp only [conc, Option.map_eq_some_iff] at hv
    obtain ⟨u, hu, rfl⟩ := hv
    refine ⟨_, hv0, ⟨_, rfl⟩, ?_⟩
    simp only [execOp, he]
    rfl
  · cases hb
theorem memE_spec {op : Op} {r : OR} (h : Fr ρ N fm a) (H : Sr C w0 D ρ s w) (hb : memE C fm.t s op = some r) : OpS C w0 D ρ s w a ⟨dst, op, ty, p, af, g⟩ r := by
  unfold memE at hb
  split at hb
  · obtain ⟨v, h1, rfl⟩ := valE_some hb
    obtain ⟨u, h2, h3⟩ := Option.bind_eq_some_iff.1 h1; exact vm_load h H h2 h3
  · obtain ⟨v, h1, rfl⟩ := skipE_some hb
    obtain ⟨u, h2, h3⟩ := Option.bind_eq_some_iff.1 h1
    obtain ⟨u', h4, h5⟩ := Option.bind_eq_some_iff.1 h3; exact um_store h H h2 h4 h5
  · obtain ⟨v, s1, h1, rfl⟩ := pairE_some hb
    obtain ⟨u, h2, h3⟩ := Option.bind_eq_some_iff.1 h1; exact vm_box h H h2 h3
  · obtain ⟨v, s1, h1, rfl⟩ := pairE_some hb; exact vm_alloc H h1
  · obtain ⟨v, s1, h1, rfl⟩ := pairE_some hb; exact vm_lit h H h1
  · obtain ⟨v, s1, h1, rfl⟩ := pairE_some hb
    obtain ⟨u, h2, h3⟩ := Option.bind_eq_some_iff.1 h1
    obtain ⟨u', h4, h5⟩ := Option.bind_eq_some_iff.1 h3; exact vm_mks h H h2 h4 h5
  · obtain ⟨v, s1, h1, rfl⟩ := pairE_some hb; exact vm_mkm H h1
  · obtain ⟨v, h1, rfl⟩ := valE_some hb
    obtain ⟨u, q1, q2⟩ := gv_ab h h1
    exact ⟨[], u, w, q2 w, by rw [List.append_nil]; exact q1, by rw [List.append_nil]; exact H⟩
  · obtain ⟨v, h1, rfl⟩ := valE_some hb
    obtain ⟨u, h2, h3⟩ := Option.bind_eq_some_iff.1 h1
    obtain ⟨u', h4, h5⟩ := Option.bind_eq_some_iff.1 h3; exact vm_lk h H h2 h4 h5
  · obtain ⟨v, h1, rfl⟩ := skipE_some hb
    obtain ⟨u, h2, h3⟩ := Option.bind_eq_some_iff.1 h1
    obtain ⟨u', h4, h5⟩ := Option.bind_eq_some_iff.1 h3
    obtain ⟨u'', h6, h7⟩ := Option.bind_eq_some_iff.1 h5; exact um_mup h H h2 h4 h6 h7
  · obtain ⟨v, h1, rfl⟩ := skipE_some hb
    obtain ⟨u, h2, h3⟩ := Option.bind_eq_some_iff.1 h1
    obtain ⟨u', h4, h5⟩ := Option.bind_eq_some_iff.1 h3
    obtain ⟨u'', h6, h7⟩ := Option.bind_eq_some_iff.1 h5; exact um_ins h H h2 h4 h6 h7
  · obtain ⟨u, h2, h3⟩ := Option.bind_eq_some_iff.1 hb
    rcases oorE_some h3 with h5 | h5
    · obtain ⟨v, s1, h1, rfl⟩ := pairE_some h5
      exact vm_sbt h H h2 h1
    · obtain ⟨v, h1, rfl⟩ := valE_some h5
      rcases orE_some h1 with h4 | h4
      · exact vm_bst h H h2 h4
      · exact vm_upt h H h2 h4
  · obtain ⟨v, s1, h1, rfl⟩ := pairE_some hb
    obtain ⟨u, h2, h3⟩ := Option.bind_eq_some_iff.1 h1
    obtain ⟨u', h4, h5⟩ := Option.bind_eq_some_iff.1 h3; exact vm_app h H h2 h4 h5
  · obtain ⟨v, s1, h1, rfl⟩ := pairE_some hb
    obtain ⟨u, h2, h3⟩ := Option.bind_eq_some_iff.1 h1
    obtain ⟨u', h4, h5⟩ := Option.bind_eq_some_iff.1 h3; exact vm_cpy h H h2 h4 h5
  · obtain ⟨v, s1, h1, rfl⟩ := pairE_some hb
    obtain ⟨u, h2, h3⟩ := Option.bind_eq_some_iff.1 h1
    obtain ⟨u', h4, h5⟩ := Option.bind_eq_some_iff.1 h3; exact vm_ust h H h2 h4 h5
  · obtain ⟨v, h1, rfl⟩ := valE_some hb
    obtain ⟨u, h2, h3⟩ := Option.bind_eq_some_iff.1 h1; exact vm_lnm h H h2 h3
  · obtain ⟨v, h2, h3⟩ := Option.bind_eq_some_iff.1 hb
    obtain ⟨u', h4, h5⟩ := Option.bind_eq_some_iff.1 h3; exact calE_spec h H h2 h4 h5
  · obtain ⟨v, h2, h3⟩ := Option.bind_eq_some_iff.1 hb
    obtain ⟨u', h4, h5⟩ := Option.bind_eq_some_iff.1 h3; exact dfrE_spec h H h2 h4 h5
  · obtain ⟨v, h2, h3⟩ := Option.bind_eq_some_iff.1 hb; exact panE_spec h H h2 h3
  · cases hb

/-- Pure ones first; then memory; last the model's own text. -/
def fbOk : Op → Bool
  | .binOp .. => true
  | .unOp .. => true
  | .convert .. => true
  | .typeAssert .. => true
  | .call ⟨.builtin _, _, _⟩ => true
  | _ => false
def samO (C : Ct) (t : Tr Value) : Op → Option Value
  | .binOp op ty x y _ => (evE t x).bind fun v => (evE t y).bind fun w => samE C op ty v w
  | _ => none
theorem samO_spec {op : Op} {v : Value} (h : Fr ρ N fm a) (hb : samO C fm.t op = some v) : Gv C ρ a ⟨dst, op, ty, p, af, g⟩ v := by
  unfold samO at hb
  split at hb
  · obtain ⟨u, h2, h3⟩ := Option.bind_eq_some_iff.1 hb
    obtain ⟨u', h4, h5⟩ := Option.bind_eq_some_iff.1 h3; exact gv_sam h h2 h4 h5
  · cases hb
/-- What needs no memory. -/
def quiE (C : Ct) (t : Tr Value) (o : Oper) : Option Value := orE (fstE C t o.op) (orE (samO C t o.op) (bif fbOk o.op then fbE C t o else none))
theorem quiE_spec {o : Oper} {v : Value} (h : Fr ρ N fm a) (hb : quiE C fm.t o = some v) : Gv C ρ a o v := by
  rcases orE_some hb with h1 | h1
  · obtain ⟨dst, op, ty, p, af, g⟩ := o; exact fstE_spec h h1
  · rcases orE_some h1 with h1 | h1
    · obtain ⟨dst, op, ty, p, af, g⟩ := o; exact samO_spec h h1
    · cases hq : fbOk o.op with
      | false => rw [hq] at h1; cases h1
      | true => rw [hq, cond_true] at h1; exact fbE_spec h h1
def evO' (C : Ct) (t : Tr Value) (s : St) (o : Oper) : Option OR := match fstE C t o.op with
  | some v => some (.val v s)
  | none => (match memE C t s o.op with
    | some r => some r
    | none => valE s (orE (samO C t o.op) (bif fbOk o.op then fbE C t o else none)))
theorem Gv.vm {o : Oper} {v : Value} (H : Sr C w0 D ρ s w) (h : Gv C ρ a o v) : Vm C w0 D ρ w a o v s := by
  obtain ⟨u, h1, h2⟩ := h
  exact ⟨[], u, w, h2 w, by rw [List.append_nil]; exact h1, by rw [List.append_nil]; exact H⟩
theorem evO'_spec {o : Oper} {r : OR} (h : Fr ρ N fm a) (H : Sr C w0 D ρ s w) (hb : evO' C fm.t s o = some r) : OpS C w0 D ρ s w a o r := by
  unfold evO' at hb
  split at hb
  · rename_i v hv
    cases hb
    obtain ⟨dst, op, ty, p, af, g⟩ := o
    exact (fstE_spec h hv).vm H
  · split at hb
    · rename_i r' hm
      cases hb
      obtain ⟨dst, op, ty, p, af, g⟩ := o
      exact memE_spec h H hm
    · obtain ⟨v, h1, rfl⟩ := valE_some hb
      refine Gv.vm H (quiE_spec h ?_)
      rename_i hf _ _
      unfold quiE
      rw [hf]; exact h1
end
end
end Go.Ev

/- A statement's operations, in their order and in whatever order. -/
namespace Go.Ev
open Go.Wk
set_option linter.unusedVariables false
set_option linter.unusedSimpArgs false

/-! ### How code ends -/
inductive Ex where
  | norm
  | exit (id : Nat)
  | goto (l : Nat)
  | ret
  | pan (ch : List PanicEntry)
inductive Er where
  | ret (v : Value)
  | pan (ch : List PanicEntry)
def concCh (ρ : Env) : List PanicEntry → Option (List PanicEntry)
  | [] => some []
  | e :: r => match conc ρ e.v, concCh ρ r with
    | some v, some r' => some ({ e with v := v } :: r')
    | _, _ => none
theorem concCh_mono {ρ : Env} (τ : Env) : ∀ {l us : List PanicEntry}, concCh ρ l = some us → concCh (ρ ++ τ) l = some us
  | [], _, h => by simpa [concCh] using h
  | e :: r, us, h => by
    simp only [concCh] at h ⊢
    split at h
    · rename_i h1 h2
      rw [conc_mono τ h1, concCh_mono τ h2]; exact h
    · cases h
def ExR (ρ : Env) : Ex → Exit → Prop
  | .norm, .normal => True
  | .exit i, .exit j => i = j
  | .goto i, .goto j => i = j
  | .ret, .ret => True
  | .pan ch, .panic ch' => concCh ρ ch = some ch'
  | _, _ => False
def ErR (ρ : Env) : Er → Ending → Prop
  | .ret v, .returned u => conc ρ v = some u
  | .pan ch, .panicked ch' => concCh ρ ch = some ch'
  | _, _ => False
def Ex.isPan : Ex → Bool
  | .pan _ => true
  | _ => false
/-- What is known of a frame that panics. -/
structure FrX (ρ : Env) (N : Nat) (fm : Fm) (a : Act) : Prop where
  nn : fm.N = N
  size : a.tmps.size = N
  kn : ∀ i v, fm.t.get i = some v → ∃ u, conc ρ v = some u ∧ a.tmps.getD i undef = u
  ds : concDs ρ fm.ds = some a.defers
theorem Fr.x {ρ : Env} {N : Nat} {fm : Fm} {a : Act} (h : Fr ρ N fm a) : FrX ρ N fm a := ⟨h.nn, h.size, h.kn, h.ds⟩
def PoE (C : Ct) (w0 : World) (D : Nat → Prop) (ρ : Env) (N : Nat) (out : Ex × Fm × St) : Exit → Act → World → Prop := fun e a w =>
  ∃ τ, ExR (ρ ++ τ) out.1 e ∧ (out.1.isPan = true → FrX (ρ ++ τ) N out.2.1 a) ∧ (out.1.isPan = false → Fr (ρ ++ τ) N out.2.1 a) ∧ Sr C w0 D (ρ ++ τ) out.2.2 w
theorem PoE.more {C : Ct} {w0 : World} {D : Nat → Prop} {ρ τ : Env} {N : Nat} {out : Ex × Fm × St} {e : Exit} {a : Act} {w : World} (h : PoE C w0 D (ρ ++ τ) N out e a w) : PoE C w0 D ρ N out e a w := by
  obtain ⟨σ, h1, h2, h3, h4⟩ := h
  rw [List.append_assoc] at h1 h2 h3 h4
  exact ⟨τ ++ σ, h1, h2, h3, h4⟩

theorem PoE.of {C : Ct} {w0 : World} {D : Nat → Prop} {ρ : Env} {N : Nat} {x : Ex} {fm : Fm} {s : St} {e : Exit} {a : Act} {w : World} (hx : x.isPan = false) (he : ExR ρ x e) (h : Fr ρ N fm a) (H : Sr C w0 D ρ s w) : PoE C w0 D ρ N (x, fm, s) e a w :=
  ⟨[], by rw [List.append_nil]; exact he, (fun hp => by rw [hx] at hp; cases hp), (fun _ => by rw [List.append_nil]; exact h), by rw [List.append_nil]; exact H⟩
theorem PoE.pan {C : Ct} {w0 : World} {D : Nat → Prop} {ρ τ : Env} {N : Nat} {ch ch' : List PanicEntry} {fm : Fm} {s : St} {a : Act} {w : World} (he : concCh (ρ ++ τ) ch = some ch') (h : FrX (ρ ++ τ) N fm a) (H : Sr C w0 D (ρ ++ τ) s w) : PoE C w0 D ρ N (.pan ch, fm, s) (.panic ch') a w :=
  ⟨τ, he, (fun _ => h), (fun hp => by cases hp), H⟩

/-- Functions and rounds, as they are reckoned. -/
structure Cal where
  fn : FuncId → List Value → St → Option (Er × St)
  yl : Nat → List Value → St → Option (Er × St)
structure CalOk (C : Ct) (K : Cal) : Prop where
  fn : ∀ f args s r s', K.fn f args s = some (r, s') → (∃ fn, C.ft.get f = some fn ∧ fn.body.isSome = true) ∧ ∀ w0 D ρ w us, Sr C w0 D ρ s w → concs ρ args = some us → Calls C.P f us.toArray w (fun e w' => ∃ τ, ErR (ρ ++ τ) r e ∧ Sr C w0 D (ρ ++ τ) s' w')
  yl : ∀ l args s r s', K.yl l args s = some (r, s') → ∀ w0 D ρ w l' us, Sr C w0 D ρ s w → cad ρ l = some l' → concs ρ args = some us →
    ∃ f tmps assign body, (Instr.yield l' us.toArray).run C.P w = .ok (.round l' f tmps assign body) w ∧ RoundIn (Wk.Fr none) 0 C.P l' f tmps assign body w (fun e w' => ∃ τ, ErR (ρ ++ τ) r e ∧ Sr C w0 D (ρ ++ τ) s' w')

/-! ### One step -/
def wantE (ops : List Oper) (fm : Fm) (o : Oper) : Option Bool := match o.guard with
  | none => some true
  | some (j, want) => match (ops[j]?).bind (·.dst) with
    | some t => bif Nat.blt t fm.N then (match fm.t.get t with
      | some (.bool b) => some (b == want)
      | some (.tuple _) => some false
      | _ => none) else none
    | none => none
theorem wantE_spec {ρ : Env} {N : Nat} {fm : Fm} {a : Act} {ops : List Oper} {o : Oper} {b : Bool} (h : Fr ρ N fm a) (hw : wantE ops fm o = some b) : Region.wanted o (yielded ops.toArray a.tmps) = b := by
  unfold wantE at hw
  cases hg : o.guard with
  | none => rw [hg] at hw; cases hw; simp [Region.wanted, hg]
  | some q =>
    obtain ⟨j, want⟩ := q
    rw [hg] at hw
    simp only at hw
    split at hw
    · rename_i t ht
      cases hb : Nat.blt t fm.N with
      | false => rw [hb] at hw; cases hw
      | true =>
        rw [hb, cond_true] at hw
        have hlt : t < a.tmps.size := by rw [h.size, ← h.nn]; exact Nat.lt_of_lt_of_le (Nat.lt_succ_self t) (Nat.le_of_ble_eq_true hb)
        have ht' : ((ops.toArray)[j]?).bind (·.dst) = some t := by simpa using ht
        split at hw
        · rename_i c hc
          cases hw
          obtain ⟨u, hu, hau⟩ := h.kn _ _ hc
          simp only [conc, Option.some.injEq] at hu; subst hu
          have hv : a.tmps[t]? = some (.bool c) := by
            rw [Array.getD_eq_getD_getElem?, Array.getElem?_eq_getElem hlt, Option.getD_some] at hau
            rw [Array.getElem?_eq_getElem hlt, hau]
          simp only [Region.wanted, hg, yielded, ht', Option.bind_some, hv]
          cases c <;> cases want <;> rfl
        · rename_i l hc
          cases hw
          obtain ⟨u, hu, hau⟩ := h.kn _ _ hc
          simp only [conc, Option.map_eq_some_iff] at hu
          obtain ⟨l', _, rfl⟩ := hu
          have hv : a.tmps[t]? = some (.tuple l') := by
            rw [Array.getD_eq_getD_getElem?, Array.getElem?_eq_getElem hlt, Option.getD_some] at hau
            rw [Array.getElem?_eq_getElem hlt, hau]
          simp only [Region.wanted, hg, yielded, ht', Option.bind_some, hv]
          rfl
        · cases hw
    · cases hw
theorem conc_undef (ρ : Env) : conc ρ undef = some undef := conc_tuple (l := []) (l' := []) (concs_nil ρ)

/-- What one step leads to. -/
inductive Sp where
  | go (fm : Fm) (s : St)
  | pan (ch : List PanicEntry) (s : St)
def goE (s : St) : Option Fm → Option Sp
  | some fm => some (.go fm s)
  | none => none
def erE (fm : Fm) (d : Option Nat) : Option (Er × St) → Option Sp
  | some (.ret v, s) => goE s (fm.put d v)
  | some (.pan ch, s) => some (.pan ch s)
  | none => none
def stpE (C : Ct) (K : Cal) (dok : Bool) (fm : Fm) (s : St) (o : Oper) : Option Sp := match evO' C fm.t s o with
  | some (.val v s') => goE s' (fm.put o.dst v)
  | some (.skip s') => goE s' (fm.put o.dst undef)
  | some (.ent f args) => erE fm o.dst (K.fn f args s)
  | some (.rnd l args) => bif dok then erE fm o.dst (K.yl l args s) else none
  | some (.dfr d) => bif dok then goE s (Fm.put { fm with ds := d :: fm.ds } o.dst undef) else none
  | some (.pan v) => some (.pan [{ v := v, recovered := false }] s)
  | none => none
theorem goE_some {s : St} {q : Option Fm} {r : Sp} (h : goE s q = some r) : ∃ fm, q = some fm ∧ r = .go fm s := by
  unfold goE at h
  split at h
  · cases h; exact ⟨_, rfl, rfl⟩
  · cases h
/-- What must hold behind a step. -/
def SpR (C : Ct) (w0 : World) (D : Nat → Prop) (ρ : Env) (N : Nat) (K : Act → World → Prop) (Q : Post) (a : Act) : Sp → Prop
  | .go fm s => ∀ τ a' w', Fr (ρ ++ τ) N fm a' → Sr C w0 D (ρ ++ τ) s w' → K a' w'
  | .pan ch s => ∀ τ w' ch', concCh (ρ ++ τ) ch = some ch' → Sr C w0 D (ρ ++ τ) s w' → Q (.panic ch') a w'

section
variable {C : Ct} {w0 : World} {D : Nat → Prop} {ρ : Env} {s s' : St} {w : World} {N : Nat} {fm : Fm} {a : Act} {ro : Option Nat}

theorem stpE_spec {K : Cal} (hK : CalOk C K) {dok : Bool} {o : Oper} {r : Sp} {Kn : Act → World → Prop} {Q : Post} (hro : dok = true → ro = none) (h : Fr ρ N fm a) (H : Sr C w0 D ρ s w) (hb : stpE C K dok fm s o = some r)
    (hr : SpR C w0 D ρ N Kn Q a r) : o.wpIn (Wk.Fr ro) 0 C.P a w Kn Q := by
  refine ⟨fun _ _ => trivial, ?_⟩
  have er : ∀ {q : Option (Er × St)}, erE fm o.dst q = some r → ∃ e s1, q = some (e, s1) ∧ ∀ τ e' w', ErR (ρ ++ τ) e e' → Sr C w0 D (ρ ++ τ) s1 w' → (match e' with | .returned v => Kn (a.put o.dst v) w' | .panicked chain => Q (.panic chain) a w' | .outgrown => LetsOut Q) := by
    intro q hq
    unfold erE at hq
    split at hq
    · rename_i v s1
      obtain ⟨fm', h1, rfl⟩ := goE_some hq
      refine ⟨_, _, rfl, fun τ e' w' he hs => ?_⟩
      cases e' with
      | returned u => exact hr τ _ w' ((h.mono τ).put he h1) hs
      | _ => exact he.elim
    · rename_i ch s1
      cases hq
      refine ⟨_, _, rfl, fun τ e' w' he hs => ?_⟩
      cases e' with
      | panicked ch' => exact hr τ w' ch' he hs
      | _ => exact he.elim
    · cases hq
  unfold stpE at hb
  split at hb
  · rename_i v s1 hv
    have hop := evO'_spec h H hv
    obtain ⟨τ, u, w', h1, h2, h3⟩ := hop
    obtain ⟨fm', h4, rfl⟩ := goE_some hb
    have hnd : ∀ c, o.op ≠ .defer c := fun c hc => by
      obtain ⟨dst, op, ty, p, af, g⟩ := o
      simp only at hc; subst hc
      simp only [execOp] at h1
      rw [Sem.run_bind] at h1
      generalize (resolve a.eval c ty).run C.P w = q at h1
      cases q with
      | ok x y => simp at h1
      | halt x y => simp at h1
    rw [Oper.semAt_eq _ _ _ hnd, h1]
    exact hr τ _ w' ((h.mono τ).put h2 h4) h3
  · rename_i s1 hv
    have hop := evO'_spec h H hv
    obtain ⟨w', h1, h3⟩ := hop
    obtain ⟨fm', h4, rfl⟩ := goE_some hb
    have hnd : ∀ c, o.op ≠ .defer c := fun c hc => by
      obtain ⟨dst, op, ty, p, af, g⟩ := o
      simp only at hc; subst hc
      simp only [execOp] at h1
      rw [Sem.run_bind] at h1
      generalize (resolve a.eval c ty).run C.P w = q at h1
      cases q with
      | ok x y => simp at h1
      | halt x y => simp at h1
    rw [Oper.semAt_eq _ _ _ hnd, h1]
    exact hr [] _ w' (by rw [List.append_nil]; exact h.put (conc_undef ρ) h4) (by rw [List.append_nil]; exact h3)
  · rename_i f args hv
    have hop := evO'_spec h H hv
    obtain ⟨us, h1, h2⟩ := hop
    obtain ⟨e, s1, h3, h4⟩ := er hb
    obtain ⟨⟨fn, hfn, hbody⟩, hc⟩ := hK.fn f args s e s1 h3
    have h5 := h2 (by rw [hfn]; rfl) (fun fn' hfn' => by rw [hfn] at hfn'; cases hfn'; exact hbody)
    have hnd : ∀ c, o.op ≠ .defer c := fun c hc => by
      obtain ⟨dst, op, ty, p, af, g⟩ := o
      simp only at hc; subst hc
      simp only [execOp] at h5
      rw [Sem.run_bind] at h5
      generalize (resolve a.eval c ty).run C.P w = q at h5
      cases q with
      | ok x y => simp at h5
      | halt x y => simp at h5
    rw [Oper.semAt_eq _ _ _ hnd, h5, Oper.uponIn_enter]
    refine ⟨fun h => by simp [Fence.wide] at h, ?_⟩
    have h6 : CallsIn Fence.wide (0 - 1) C.P f us.toArray w (fun e' w' => ∃ τ, ErR (ρ ++ τ) e e' ∧ Sr C w0 D (ρ ++ τ) s1 w') := callsIn_wide.2 (hc w0 D ρ w us H h1)
    have h7 : CallsIn (Wk.Fr ro) (0 - 1) C.P f us.toArray w (fun e' w' => ∃ τ, ErR (ρ ++ τ) e e' ∧ Sr C w0 D (ρ ++ τ) s1 w') := h6
    refine CallsIn.mono h7 ?_
    rintro e' w' ⟨τ, g1, g2⟩
    cases e' <;> exact h4 τ _ w' g1 g2
  · rename_i l args hv
    cases hd : dok with
    | false => rw [hd] at hb; cases hb
    | true =>
      rw [hd, cond_true] at hb
      have hro' := hro hd
      subst hro'
      have hop := evO'_spec h H hv
      obtain ⟨l', us, h1, h2, h3⟩ := hop
      obtain ⟨e, s1, h4, h5⟩ := er hb
      obtain ⟨f, tmps, asg, body, h6, h7⟩ := hK.yl l args s e s1 h4 w0 D ρ w l' us H h1 h2
      have h8 : (execOp a.eval o).run C.P w = .ok (.round l' f tmps asg body) w := by rw [h3]; exact h6
      have hnd : ∀ c, o.op ≠ .defer c := fun c hc => by
        obtain ⟨dst, op, ty, p, af, g⟩ := o
        simp only at hc; subst hc
        simp only [execOp] at h8
        rw [Sem.run_bind] at h8
        generalize (resolve a.eval c ty).run C.P w = q at h8
        cases q with
        | ok x y => simp at h8
        | halt x y => simp at h8
      rw [Oper.semAt_eq _ _ _ hnd, h8, Oper.uponIn_round]
      refine ⟨fun h => by simp [Fence.wide] at h, ?_⟩
      refine RoundIn.mono h7 ?_
      rintro e' w' ⟨τ, g1, g2⟩
      cases e' <;> exact h5 τ _ w' g1 g2
  · rename_i d hv
    cases hd : dok with
    | false => rw [hd] at hb; cases hb
    | true =>
      rw [hd, cond_true] at hb
      have hro' := hro hd
      subst hro'
      have hop := evO'_spec h H hv
      obtain ⟨d', h1, ⟨c, hc⟩, h2⟩ := hop
      obtain ⟨fm', h4, rfl⟩ := goE_some hb
      have : (o.semAt (Wk.Fr none).round a.eval) = execOp a.eval o := Oper.semAt_none _ _
      rw [this, h2, Oper.uponIn_defer]
      refine hr [] _ w ?_ (by rw [List.append_nil]; exact H)
      rw [List.append_nil]
      refine Fr.put (fm := { fm with ds := d :: fm.ds }) (a := { a with defers := d' :: a.defers }) ⟨h.nn, h.size, h.kn, h.un, ?_⟩ (conc_undef ρ) h4
      simp only [concDs, h1, h.ds]
  · rename_i v hv
    cases hb
    have hop := evO'_spec h H hv
    obtain ⟨u, h1, ⟨x, hx⟩, h2⟩ := hop
    have hnd : ∀ c, o.op ≠ .defer c := fun c hc => by rw [hx] at hc; cases hc
    rw [Oper.semAt_eq _ _ _ hnd, h2, Oper.uponIn_panic]
    exact hr [] w _ (by rw [List.append_nil]; simp only [concCh, h1]) (by rw [List.append_nil]; exact H)
  · cases hb

/-! ### In their order -/
theorem wpListIn_mono {F : Fence} {n : Nat} {P : Program} {ops : Array Oper} {Q Q' : Post} (hq : ∀ e a w, Q e a w → Q' e a w) (hl : LetsOut Q → LetsOut Q') : ∀ {l : List Oper} {a : Act} {w : World}, wpListIn F n P ops Q l a w → wpListIn F n P ops Q' l a w
  | [], a, w, h => hq _ _ _ h
  | o :: rest, a, w, h => by
    simp only [wpListIn] at h ⊢
    split
    · rename_i hw
      rw [if_pos hw] at h
      refine ⟨h.1, ?_⟩
      have h2 := h.2
      generalize (o.semAt F.round a.eval).run P w = r at h2 ⊢
      cases r with
      | ok x w' =>
        cases x <;> simp only [Oper.uponIn] at h2 ⊢ <;>
          first
            | exact wpListIn_mono hq hl h2
            | exact ⟨h2.1, CallsIn.mono h2.2 (fun e w'' he => by cases e <;> first | exact wpListIn_mono hq hl he | exact hq _ _ _ he | exact hl he)⟩
            | exact ⟨h2.1, RowsIn.mono h2.2 (fun _ _ he => wpListIn_mono hq hl he)⟩
            | exact ⟨h2.1, RoundIn.mono h2.2 (fun e w'' he => by cases e <;> first | exact wpListIn_mono hq hl he | exact hq _ _ _ he | exact hl he)⟩
            | exact h2
      | halt x w' => cases x <;> simp only [Oper.uponIn] at h2 ⊢ <;> first | exact hq _ _ _ h2 | exact h2
    · rename_i hw
      rw [if_neg hw] at h
      exact ⟨h.1, wpListIn_mono hq hl h.2⟩
def opsE (C : Ct) (K : Cal) (dok : Bool) (ops : List Oper) : List Oper → Fm → St → Option (Ex × Fm × St)
  | [], fm, s => some (.norm, fm, s)
  | o :: rest, fm, s => match wantE ops fm o with
    | some true => (match stpE C K dok fm s o with
      | some (.go fm' s') => opsE C K dok ops rest fm' s'
      | some (.pan ch s') => some (.pan ch, fm, s')
      | none => none)
    | some false => (match fm.put o.dst undef with
      | some fm' => opsE C K dok ops rest fm' s
      | none => none)
    | none => none
theorem opsE_spec {K : Cal} (hK : CalOk C K) {dok : Bool} (hro : dok = true → ro = none) {ops : List Oper} {out : Ex × Fm × St} : ∀ {rest : List Oper} {ρ : Env} {fm : Fm} {s : St} {a : Act} {w : World}, Fr ρ N fm a → Sr C w0 D ρ s w → opsE C K dok ops rest fm s = some out →
    wpListIn (Wk.Fr ro) 0 C.P ops.toArray (PoE C w0 D ρ N out) rest a w
  | [], ρ, fm, s, a, w, h, H, hb => by
    simp only [opsE, Option.some.injEq] at hb; subst hb
    exact PoE.of rfl trivial h H
  | o :: rest, ρ, fm, s, a, w, h, H, hb => by
    simp only [opsE] at hb
    simp only [wpListIn]
    split at hb
    · rename_i hw
      rw [wantE_spec h hw, if_pos rfl]
      split at hb
      · rename_i fm' s' hs
        refine stpE_spec hK hro h H hs (fun τ a' w' h' H' => ?_)
        have ih := opsE_spec hK hro h' H' hb
        exact wpListIn_mono (fun e a w => PoE.more) (fun ⟨a, w, hq⟩ => ⟨a, w, hq.more⟩) ih
      · rename_i ch s' hs
        cases hb
        refine stpE_spec hK hro h H hs (fun τ w' ch' hc H' => ?_)
        exact PoE.pan hc (h.mono τ).x H'
      · cases hb
    · rename_i hw
      rw [wantE_spec h hw]
      split at hb
      · rename_i fm' hp
        exact ⟨fun _ _ => trivial, opsE_spec hK hro (h.put (conc_undef ρ) hp) H hb⟩
      · cases hb
    · cases hb
end
end Go.Ev

/- A statement's operations in whatever order. -/
namespace Go.Ev
open Go.Wk
set_option linter.unusedVariables false
set_option linter.unusedSimpArgs false

section
variable {ro : Option Nat} {n : Nat} {P : Program} {ops : Array Oper} {Q : Post} {S : World → Prop}

/-- Does j wait, by its own word, for all that were taken first? -/
def waitsAll (ops : Array Oper) (rec : List Nat) (j : Nat) : Bool := match ops[j]? with
  | some o => rec.all fun k => Nat.beq k j || o.after.any fun e => Region.binds .any e && Nat.beq e.on k
  | none => false
theorem waitsAll_not {rec : List Nat} {i j : Nat} {oj : Oper} (hj : ops[j]? = some oj) (hij : i ≠ j) (hnot : ∀ e ∈ oj.after, Region.binds .any e = true → e.on ≠ i) (hi : i ∈ rec) : waitsAll ops rec j = false := by
  cases h : waitsAll ops rec j with
  | false => rfl
  | true =>
    unfold waitsAll at h
    simp only [hj, List.all_eq_true, Bool.or_eq_true] at h
    rcases h i hi with h1 | h1
    · exact absurd (Nat.eq_of_beq_eq_true h1) hij
    · obtain ⟨e, he, hb⟩ := Array.any_eq_true'.1 h1
      simp only [Bool.and_eq_true] at hb
      exact absurd (Nat.eq_of_beq_eq_true hb.2) (hnot e he hb.1)
theorem waitsAll_sub {rec rec' : List Nat} (hs : ∀ i ∈ rec, i ∈ rec') {j : Nat} (h : waitsAll ops rec j = false) : waitsAll ops rec' j = false := by
  cases h' : waitsAll ops rec' j with
  | false => rfl
  | true =>
    unfold waitsAll at h h'
    split at h'
    · rename_i o ho
      rw [ho] at h
      simp only [List.all_eq_true] at h'
      have : (rec.all fun k => Nat.beq k j || o.after.any fun e => Region.binds .any e && Nat.beq e.on k) = true := List.all_eq_true.2 (fun k hk => h' k (hs k hk))
      simp only at h
      rw [this] at h; cases h
    · cases h'

/-- Whatever order is drawn from here on; what was taken first stays as it was (al), till one comes that waits for all of those. -/
def AnyR (ro : Option Nat) (n : Nat) (P : Program) (ops : Array Oper) (Q : Post) (S : World → Prop) (rec : List Nat) : Nat → Bool → Array Bool → Act → World → Prop
  | 0, al, listed, a, w => Region.ready .any ops listed = [] ∧ Q .normal a w
  | fuel + 1, al, listed, a, w =>
    (Region.ready .any ops listed = [] → Q .normal a w) ∧
    ∀ i ∈ Region.ready .any ops listed, wpOpIn (Wk.Fr ro) n P ops Q i (fun a' w' => ((al && !waitsAll ops rec i) = true → S w') ∧ AnyR ro n P ops Q S rec fuel (al && !waitsAll ops rec i) (listed.setIfInBounds i true) a' w') a w

theorem AnyR.sound {rec : List Nat} : ∀ (fuel : Nat) (al : Bool) (listed : Array Bool) (a : Act) (w : World), AnyR ro n P ops Q S rec fuel al listed a w → wpAnyIn (Wk.Fr ro) n P .any ops Q fuel listed a w
  | 0, _, _, _, _, h => h
  | fuel + 1, _, _, _, _, h => ⟨h.1, fun i hi => wpOpIn_mono (fun a' w' h' => AnyR.sound fuel _ _ a' w' h'.2) (h.2 i hi)⟩
theorem AnyR.weaken {S' : World → Prop} {rec rec' : List Nat} (hs : ∀ i ∈ rec', i ∈ rec) : ∀ (fuel : Nat) (al al' : Bool) (listed : Array Bool) (a : Act) (w : World), (al' = true → al = true ∧ ∀ w, S w → S' w) → AnyR ro n P ops Q S rec fuel al listed a w → AnyR ro n P ops Q S' rec' fuel al' listed a w
  | 0, _, _, _, _, _, _, h => h
  | fuel + 1, al, al', _, _, _, ha, h => ⟨h.1, fun i hi => wpOpIn_mono (fun a' w' h' => by
      have key : (al' && !waitsAll ops rec' i) = true → (al && !waitsAll ops rec i) = true ∧ ∀ w, S w → S' w := fun hw => by
        simp only [Bool.and_eq_true, Bool.not_eq_true'] at hw ⊢
        exact ⟨⟨(ha hw.1).1, waitsAll_sub hs hw.2⟩, (ha hw.1).2⟩
      exact ⟨fun hw => (key hw).2 _ (h'.1 (key hw).1), AnyR.weaken hs fuel _ _ _ a' w' key h'.2⟩) (h.2 i hi)⟩
theorem wpOpIn_monoQ {Q' : Post} (hq : ∀ e a w, Q e a w → Q' e a w) (hl : LetsOut Q → LetsOut Q') {i : Nat} {K : Act → World → Prop} {a : Act} {w : World} (h : wpOpIn (Wk.Fr ro) n P ops Q i K a w) : wpOpIn (Wk.Fr ro) n P ops Q' i K a w := by
  unfold wpOpIn at h ⊢
  cases ho : ops[i]? with
  | none => rw [ho] at h; exact h
  | some o =>
    rw [ho] at h
    simp only at h ⊢
    split
    · rename_i hw
      rw [if_pos hw] at h
      refine ⟨h.1, ?_⟩
      have h2 := h.2
      generalize (o.semAt (Wk.Fr ro).round a.eval).run P w = r at h2 ⊢
      cases r with
      | ok x w' =>
        cases x <;> simp only [Oper.uponIn] at h2 ⊢ <;>
          first
            | exact h2
            | exact ⟨h2.1, CallsIn.mono h2.2 (fun e w'' he => by cases e <;> first | exact he | exact hq _ _ _ he | exact hl he)⟩
            | exact ⟨h2.1, RoundIn.mono h2.2 (fun e w'' he => by cases e <;> first | exact he | exact hq _ _ _ he | exact hl he)⟩
      | halt x w' => cases x <;> simp only [Oper.uponIn] at h2 ⊢ <;> first | exact hq _ _ _ h2 | exact h2
    · rename_i hw
      rw [if_neg hw] at h
      exact h
theorem AnyR.monoQ {Q' : Post} {rec : List Nat} (hq : ∀ e a w, Q e a w → Q' e a w) (hl : LetsOut Q → LetsOut Q') : ∀ (fuel : Nat) (al : Bool) (listed : Array Bool) (a : Act) (w : World), AnyR ro n P ops Q S rec fuel al listed a w → AnyR ro n P ops Q' S rec fuel al listed a w
  | 0, _, _, _, _, h => ⟨h.1, hq _ _ _ h.2⟩
  | fuel + 1, _, _, _, _, h => ⟨fun h0 => hq _ _ _ (h.1 h0), fun i hi => wpOpIn_monoQ hq hl (wpOpIn_mono (fun a' w' h' => ⟨h'.1, AnyR.monoQ hq hl fuel _ _ a' w' h'.2⟩) (h.2 i hi))⟩

/-- A panic does not care for what d holds. -/
def Blind (Q : Post) (d : Option Nat) : Prop := ∀ c v a w, Q (.panic c) (a.put d v) w → Q (.panic c) a w

theorem opIn_putB {T : World → Prop} {i j : Nat} {oi oj : Oper} {v : Value} (hj : ops[j]? = some oj) (hap : oi.apart ops oj = true) (hsi : ∀ cs b, oi.op ≠ .select cs b) (hsj : ∀ cs b, oj.op ≠ .select cs b) (hdj : ∀ c, oj.op ≠ .defer c)
    (hQ : Blind Q oi.dst) {K : Act → World → Prop} {a : Act} {w : World} (hy : YieldsIf P ops T oi v a) (h : wpOpIn (Wk.Fr ro) n P ops Q j K (a.put oi.dst v) w) :
    wpOpIn (Wk.Fr ro) n P ops Q j (fun a' w' => YieldsIf P ops T oi v a' ∧ K (a'.put oi.dst v) w') a w := by
  obtain ⟨h1, h2, h3⟩ := Oper.apart_spec hap
  have keep : ∀ u, YieldsIf P ops T oi v (a.put oj.dst u) := fun u => hy.of_same (execOp_put oi hsi a oj.dst u h3) (wanted_put oi a oj.dst u h3)
  have comm : ∀ u, (a.put oi.dst v).put oj.dst u = (a.put oj.dst u).put oi.dst v := fun u => Act.put_comm a v u h2
  unfold wpOpIn at h ⊢
  simp only [hj] at h ⊢
  rw [wanted_put oj a oi.dst v h1] at h
  split
  · rename_i hw
    rw [if_pos hw] at h
    refine ⟨fun _ _ => trivial, ?_⟩
    have h' := h.2
    rw [Oper.semAt_eq _ _ _ hdj] at h' ⊢
    rw [execOp_put oj hsj a oi.dst v h1] at h'
    generalize (execOp a.eval oj).run P w = r at h' ⊢
    cases r with
    | halt x w' => cases x <;> simp only [Oper.uponIn] at h' ⊢; exact hQ _ _ _ _ h'
    | ok x w' =>
      cases x <;> simp only [Oper.uponIn] at h' ⊢
      case value u => exact ⟨keep u, by rw [← comm]; exact h'⟩
      case skip => exact ⟨keep _, by rw [← comm]; exact h'⟩
      case defer d =>
        refine ⟨?_, ?_⟩
        · have hd : YieldsIf P ops T oi v { a with defers := d :: a.defers } := hy.of_same rfl rfl
          exact hd.of_same (execOp_put oi hsi _ oj.dst undef h3) (wanted_put oi _ oj.dst undef h3)
        · rw [← Act.put_comm _ v undef h2, ← Act.put_defers]; exact h'
      case enter f args =>
        refine ⟨h'.1, CallsIn.mono h'.2 fun e w'' he => ?_⟩
        cases e with
        | returned u => exact ⟨keep u, by rw [← comm]; exact he⟩
        | panicked c => exact hQ _ _ _ _ he
        | outgrown => exact he
      case row row args => exact ⟨h'.1, RowsIn.mono h'.2 fun u w'' he => ⟨keep u, by rw [← comm]; exact he⟩⟩
      case round l f tmps av body =>
        refine ⟨h'.1, RoundIn.mono h'.2 fun e w'' he => ?_⟩
        cases e with
        | returned u => exact ⟨keep u, by rw [← comm]; exact he⟩
        | panicked c => exact hQ _ _ _ _ he
        | outgrown => exact he
  · rename_i hw
    rw [if_neg hw] at h
    exact ⟨fun _ _ => trivial, keep _, by rw [← comm]; exact h.2⟩
theorem yieldsIf_stepB {T : World → Prop} {i : Nat} {oi : Oper} {v : Value} {a : Act} {w : World} (hi : ops[i]? = some oi) (hd : ∀ c, oi.op ≠ .defer c) (hy : YieldsIf P ops T oi v a) (hT : T w) {K : Act → World → Prop} (h : K (a.put oi.dst v) w) :
    wpOpIn (Wk.Fr ro) n P ops Q i K a w := by
  unfold wpOpIn
  simp only [hi]
  rcases hy with ⟨hw, hv⟩ | ⟨hw, rfl⟩
  · rw [if_pos hw]
    refine ⟨fun _ _ => trivial, ?_⟩
    rw [Oper.semAt_eq _ _ _ hd, hv w hT]
    exact h
  · rw [if_neg (by simp [hw])]
    exact ⟨fun _ _ => trivial, h⟩

theorem AnyR.first {T : World → Prop} {rec : List Nat} {i : Nat} {oi : Oper} {v : Value} (hi : ops[i]? = some oi) (hns : noDS ops = true) (hQ : Blind Q oi.dst) :
    ∀ (fuel : Nat) (al : Bool) (listed : Array Bool) (a : Act) (w : World),
      ((∀ w, T w) ∨ (i ∈ rec ∧ al = true ∧ ∀ w, S w → T w)) →
      (∀ j oj, ops[j]? = some oj → j ≠ i → listed.getD j true = false → (∀ e ∈ oj.after, Region.binds .any e = true → e.on ≠ i) → oi.apart ops oj = true) →
      i ∈ Region.ready .any ops listed → YieldsIf P ops T oi v a → T w → (al = true → S w) →
      AnyR ro n P ops Q S rec fuel al (listed.setIfInBounds i true) (a.put oi.dst v) w → AnyR ro n P ops Q S rec (fuel + 1) al listed a w := by
  have hdi := (noDS_spec hns i oi hi).2
  intro fuel
  induction fuel with
  | zero =>
    intro al listed a w hT hfree hr hy hTw hSw H
    refine ⟨fun h => (by rw [h] at hr; cases hr), fun j hj => ?_⟩
    by_cases hji : j = i
    · subst hji
      refine yieldsIf_stepB hi hdi hy hTw ⟨fun hal => hSw (by simp only [Bool.and_eq_true] at hal; exact hal.1), H⟩
    · have := ready_mono hj hji
      rw [H.1] at this
      cases this
  | succ fuel ih =>
    intro al listed a w hT hfree hr hy hTw hSw H
    refine ⟨fun h => (by rw [h] at hr; cases hr), fun j hj => ?_⟩
    by_cases hji : j = i
    · subst hji
      refine yieldsIf_stepB hi hdi hy hTw ⟨fun hal => hSw (by simp only [Bool.and_eq_true] at hal; exact hal.1), ?_⟩
      exact AnyR.weaken (fun i hi => hi) _ _ _ _ _ _ (fun hal => ⟨by simp only [Bool.and_eq_true] at hal; exact hal.1, fun _ h => h⟩) H
    · have h1 := H.2 j (ready_mono hj hji)
      obtain ⟨hjun, oj, hoj, hall⟩ := mem_ready.1 hj
      have hnot : ∀ e ∈ oj.after, Region.binds .any e = true → e.on ≠ i := fun e he hb heq => by
        have h1 := hall e he hb
        have h0 := (mem_ready.1 hr).1
        rw [heq] at h1
        rcases Nat.lt_or_ge i listed.size with h' | h'
        · simp [h'] at h0 h1; rw [h0] at h1; cases h1
        · simp [Array.getElem?_eq_none h'] at h1
      obtain ⟨hs1, hd1⟩ := noDS_spec hns j oj hoj
      have h2 := opIn_putB (i := i) hoj (hfree j oj hoj hji hjun hnot) (noDS_spec hns i oi hi).1 hs1 hd1 hQ hy h1
      have hfree' : ∀ k ok, ops[k]? = some ok → k ≠ i → (listed.setIfInBounds j true).getD k true = false →
          (∀ e ∈ ok.after, Region.binds .any e = true → e.on ≠ i) → oi.apart ops ok = true := fun k ok hk hki hun hno => by
        refine hfree k ok hk hki ?_ hno
        by_cases hjk : j = k
        · subst hjk; exact hjun
        · rw [getD_set_ne true hjk] at hun; exact hun
      refine wpOpIn_mono (fun a' w' h3 => ⟨h3.2.1, ?_⟩) h2
      have hT' : (∀ w, T w) ∨ (i ∈ rec ∧ (al && !waitsAll ops rec j) = true ∧ ∀ w, S w → T w) := by
        rcases hT with h | ⟨h4, h5, h6⟩
        · exact .inl h
        · refine .inr ⟨h4, ?_, h6⟩
          rw [h5, waitsAll_not hoj (Ne.symm hji) hnot h4]; rfl
      refine ih _ (listed.setIfInBounds j true) a' w' hT' hfree' (ready_mono hr (Ne.symm hji)) h3.1 ?_ h3.2.1 ?_
      · rcases hT' with h | ⟨_, h5, h6⟩
        · exact h w'
        · exact h6 w' (h3.2.1 h5)
      · rw [Array.setIfInBounds_comm _ _ hji]
        exact h3.2.2
end
end Go.Ev
