/-
  The reckoner's state, and how a world and a frame stand to it.
-/
import Derived.Test.YthiehhglnaiohaaGreatDoorE1
namespace Go.Ev
open Go.Wk
set_option linter.unusedVariables false
set_option linter.unusedSimpArgs false

structure Fm where
  N : Nat
  t : Tr Value
  ds : List Deferred

/-- The entries of functions without a body that are known: by a number. -/
def xrow (bt : TypeId) : Nat → Array Value → Sem Value
  | 0 => Extern.AbiNoEscape.same
  | 1 => Extern.BytealgIndexByte.indexByte
  | 2 => Extern.BytealgCount.count
  | 3 => Extern.BytealgMakeNoZero.makeNoZero #[] #[bt]
  | _ => fun _ => stuck "no such entry"

structure Ct where
  s : Sx
  tt : Tr Ti
  ft : Tr Func
  gl : Tr Obj
  xt : Tr Nat
  bt : TypeId
  okX : ∀ f c, xt.get f = some c → ∀ args w, (callFunc f args).run s.P w = ((xrow bt c args).run s.P w).andThen fun v w' => .ok (.value v) w'
  okL : ∀ t i, tt.get t = some i → tl s.tab t = some i
  okF : ∀ f fn, ft.get f = some fn → s.P.funcs[f]? = some fn ∧ (fn.name == "runtime.NumGoroutine") = false
  mixed : s.P.follows .mixedOrders = true
abbrev Ct.P (C : Ct) : Program := C.s.P
theorem Ct.okT (C : Ct) (t : TypeId) (i : Ti) (h : C.tt.get t = some i) : tiOf C.P t = some i := C.s.ok.at (C.okL t i h)
def Ct.X (C : Ct) : Cx := ⟨C.s, none, 0, 0, [], default, []⟩

def concD (ρ : Env) (d : Deferred) : Option Deferred := match d with
  | ⟨.fn f m, l⟩ => match cfn ρ f, concA ρ m, concA ρ l with
    | some f', some m', some l' => some ⟨.fn f' m', l'⟩
    | _, _, _ => none
  | ⟨.collected r, l⟩ => match cad ρ r, concA ρ l with
    | some r', some l' => some ⟨.collected r', l'⟩
    | _, _ => none
  | _ => none
def concDs (ρ : Env) : List Deferred → Option (List Deferred)
  | [] => some []
  | d :: r => match concD ρ d, concDs ρ r with
    | some d', some r' => some (d' :: r')
    | _, _ => none
theorem concD_mono {ρ : Env} (τ : Env) {d d' : Deferred} (h : concD ρ d = some d') : concD (ρ ++ τ) d = some d' := by
  unfold concD at h ⊢
  split at h
  · split at h
    · rename_i h1 h2 h3
      rw [cfn_mono τ h1, concA_mono τ h2, concA_mono τ h3]; exact h
    · cases h
  · split at h
    · rename_i h1 h2
      rw [cad_mono τ h1, concA_mono τ h2]; exact h
    · cases h
  · cases h
theorem concDs_mono {ρ : Env} (τ : Env) : ∀ {l us : List Deferred}, concDs ρ l = some us → concDs (ρ ++ τ) l = some us
  | [], _, h => by simpa [concDs] using h
  | d :: r, us, h => by
    simp only [concDs] at h ⊢
    split at h
    · rename_i h1 h2
      rw [concD_mono τ h1, concDs_mono τ h2]; exact h
    · cases h

/-! ### Frames -/
structure Fr (ρ : Env) (N : Nat) (fm : Fm) (a : Act) : Prop where
  nn : fm.N = N
  size : a.tmps.size = N
  kn : ∀ i v, fm.t.get i = some v → ∃ u, conc ρ v = some u ∧ a.tmps.getD i undef = u
  un : ∀ i, fm.t.get i = none → a.tmps.getD i undef = undef
  ds : concDs ρ fm.ds = some a.defers
theorem Fr.mono {ρ : Env} (τ : Env) {N : Nat} {fm : Fm} {a : Act} (h : Fr ρ N fm a) : Fr (ρ ++ τ) N fm a :=
  ⟨h.nn, h.size, fun i v hi => let ⟨u, h1, h2⟩ := h.kn i v hi; ⟨u, conc_mono τ h1, h2⟩, h.un, concDs_mono τ h.ds⟩

def evE (t : Tr Value) : Operand → Option Value
  | .tmp i => t.get i
  | .const v => bif cst 8 v then some v else none
  | .global g => bif Nat.blt g BB then some (.pointer (some ⟨g, 0, none⟩)) else none
  | .func f => some (.func (.func f) #[] #[])
theorem evE_spec {ρ : Env} {N : Nat} {fm : Fm} {a : Act} (h : Fr ρ N fm a) {x : Operand} {v : Value} (hx : evE fm.t x = some v) : ∃ u, conc ρ v = some u ∧ a.eval x = u := by
  cases x with
  | tmp i => exact h.kn i v hx
  | const c =>
    simp only [evE] at hx
    cases hc : cst 8 c with
    | false => rw [hc] at hx; cases hx
    | true => rw [hc] at hx; cases hx; exact ⟨_, cst_conc hc, rfl⟩
  | global g =>
    simp only [evE] at hx
    cases hc : Nat.blt g BB with
    | false => rw [hc] at hx; cases hx
    | true => rw [hc] at hx; cases hx; exact ⟨.pointer (some ⟨g, 0, none⟩), by simp [conc, cA, cad_lt hc], rfl⟩
  | func f => simp only [evE] at hx; cases hx; exact ⟨.func (.func f) #[] #[], by simp [conc, cfn, concA, concs], rfl⟩

def evEs (t : Tr Value) : List Operand → Option (List Value)
  | [] => some []
  | x :: r => match evE t x, evEs t r with
    | some v, some vs => some (v :: vs)
    | _, _ => none
theorem evEs_spec {ρ : Env} {N : Nat} {fm : Fm} {a : Act} (h : Fr ρ N fm a) : ∀ {xs : List Operand} {vs : List Value}, evEs fm.t xs = some vs → concs ρ vs = some (xs.map a.eval)
  | [], vs, he => by simp only [evEs] at he; cases he; exact concs_nil ρ
  | x :: r, vs, he => by
    simp only [evEs] at he
    split at he
    · rename_i v vs' h1 h2
      cases he
      obtain ⟨u, hu, he⟩ := evE_spec h h1
      exact concs_cons.2 ⟨u, _, hu, evEs_spec h h2, by simp [he]⟩
    · cases he

def Fm.put (fm : Fm) (d : Option Nat) (v : Value) : Option Fm := match d with
  | none => some fm
  | some d => bif Nat.blt d fm.N && Nat.blt (Nat.succ d) TOP then some { fm with t := fm.t.set d (some v) } else none
theorem Fr.put {ρ : Env} {N : Nat} {fm fm' : Fm} {a : Act} (h : Fr ρ N fm a) {d : Option Nat} {v u : Value} (hv : conc ρ v = some u) (he : fm.put d v = some fm') : Fr ρ N fm' (a.put d u) := by
  cases d with
  | none => simp only [Fm.put] at he; cases he; exact h
  | some d =>
    simp only [Fm.put] at he
    cases hb : (Nat.blt d fm.N && Nat.blt (Nat.succ d) TOP) with
    | false => rw [hb] at he; cases he
    | true =>
      rw [hb, cond_true] at he; cases he
      simp only [Bool.and_eq_true] at hb
      obtain ⟨hdn, hb⟩ := hb
      have hlt : d < a.tmps.size := by rw [h.size, ← h.nn]; exact Nat.lt_of_lt_of_le (Nat.lt_succ_self d) (Nat.le_of_ble_eq_true hdn)
      refine ⟨h.nn, by simp [Act.put, h.size], fun i w hi => ?_, fun i hi => ?_, by simpa [Act.put] using h.ds⟩
      rotate_left
      · rw [Tr.get_set _ hb] at hi
        by_cases hid : i = d
        · rw [if_pos hid] at hi; cases hi
        · rw [if_neg hid] at hi
          have hu := h.un i hi
          simp only [Act.put, Array.getD_eq_getD_getElem?] at hu ⊢
          rw [Array.getElem?_setIfInBounds_ne (Ne.symm hid)]
          exact hu
      rw [Tr.get_set _ hb] at hi
      by_cases hid : i = d
      · subst hid
        rw [if_pos rfl] at hi
        cases hi
        exact ⟨u, hv, by simp [Act.put, hlt]⟩
      · rw [if_neg hid] at hi
        obtain ⟨u', h1, h2⟩ := h.kn i w hi
        refine ⟨u', h1, ?_⟩
        rw [← h2]
        simp only [Act.put, Array.getD_eq_getD_getElem?]
        rw [Array.getElem?_setIfInBounds_ne (Ne.symm hid)]

/-! ### Memory -/
structure St where
  n : Nat
  h : Tr Obj

def concE (ρ : Env) : List MapEntry → Option (List MapEntry)
  | [] => some []
  | ⟨k, v, b⟩ :: r => match conc ρ k, conc ρ v, concE ρ r with
    | some k', some v', some r' => some (⟨k', v', b⟩ :: r')
    | _, _, _ => none
/-- What is frozen of a row: as it is told, or the place behind its room. -/
def fzc (L : Loc) (fz : Nat × Nat) : Nat × Nat := bif Nat.ble BB fz.1 then (L.cap, L.cap + 1) else fz
@[simp] theorem fzc_z (L : Loc) (n : Nat) : fzc L (0, n) = (0, n) := rfl
def concO (C : Ct) (ρ : Env) (L : Loc) : Obj → Option Obj
  | .cells l e fz => (concs ρ l.toList).bind fun l' => bif Nat.ble BB e then (match C.tt.get (e - BB) with
      | some te => bif Nat.beq (l' ++ L.sp).length (L.cap * te.sz) then some (.cells ⟨l' ++ L.sp⟩ (e - BB) (fzc L fz)) else none
      | none => none) else (match L.sp with
    | [] => some (.cells ⟨l'⟩ e (fzc L fz))
    | _ :: _ => none)
  | .map es c => (concE ρ es.toList).map fun es' => .map ⟨es'⟩ c
  | .stringIter s p => some (.stringIter s p)
  | .mapIter m since seen st => match m with
    | none => some (.mapIter none since seen st)
    | some r => (cad ρ r).map fun r' => .mapIter (some r') since seen st
  | .loop l => match concA ρ l.tmps, cad ρ l.defers with
    | some t', some d' => some (.loop { l with tmps := t', defers := d', fn := L.cap })
    | _, _ => none
  | .deferred none => some (.deferred none)
  | .deferred (some ds) => (concDs ρ ds).map fun ds' => .deferred (some ds')
  | _ => none
theorem concE_mono {ρ : Env} (τ : Env) : ∀ {l us : List MapEntry}, concE ρ l = some us → concE (ρ ++ τ) l = some us
  | [], _, h => by simpa [concE] using h
  | ⟨k, v, b⟩ :: r, us, h => by
    simp only [concE] at h ⊢
    split at h
    · rename_i h1 h2 h3
      rw [conc_mono τ h1, conc_mono τ h2, concE_mono τ h3]; exact h
    · cases h
theorem concO_eq {C : Ct} {ρ : Env} {L : Loc} {l : Array Value} {e : TypeId} {fz : Nat × Nat} : concO C ρ L (.cells l e fz) = (concs ρ l.toList).bind fun l' => bif Nat.ble BB e then (match C.tt.get (e - BB) with
      | some te => bif Nat.beq (l' ++ L.sp).length (L.cap * te.sz) then some (.cells ⟨l' ++ L.sp⟩ (e - BB) (fzc L fz)) else none
      | none => none) else (match L.sp with
    | [] => some (.cells ⟨l'⟩ e (fzc L fz))
    | _ :: _ => none) := rfl
/-- A row of cells, as it lies. -/
theorem concO_cells {C : Ct} {ρ : Env} {L : Loc} {l : Array Value} {e : TypeId} {fz : Nat × Nat} {o : Obj} (h : concO C ρ L (.cells l e fz) = some o) :
    ∃ l' e', concs ρ l.toList = some l' ∧ o = .cells ⟨l' ++ L.sp⟩ e' (fzc L fz) ∧ ((Nat.ble BB e = true ∧ e' = e - BB ∧ ∃ te, C.tt.get (e - BB) = some te ∧ (l' ++ L.sp).length = L.cap * te.sz) ∨ (Nat.ble BB e = false ∧ e' = e ∧ L.sp = [])) := by
  rw [concO_eq] at h
  obtain ⟨l', h1, h2⟩ := Option.bind_eq_some_iff.1 h
  cases hb : Nat.ble BB e with
  | true =>
    rw [hb, cond_true] at h2
    split at h2
    · rename_i te ht
      cases hq : Nat.beq (l' ++ L.sp).length (L.cap * te.sz) with
      | false => rw [hq, cond_false] at h2; cases h2
      | true =>
        rw [hq, cond_true] at h2
        exact ⟨l', _, h1, (Option.some.inj h2).symm, .inl ⟨rfl, rfl, te, ht, Nat.eq_of_beq_eq_true hq⟩⟩
    · cases h2
  | false =>
    rw [hb, cond_false] at h2
    split at h2
    · rename_i hs
      cases h2; exact ⟨l', e, h1, by rw [hs, List.append_nil], .inr ⟨rfl, rfl, hs⟩⟩
    · cases h2
theorem concO_mk {C : Ct} {ρ : Env} {l l' : List Value} {e : TypeId} {n : Nat} {a c : Nat} (h : concs ρ l = some l') (he : Nat.ble BB e = false) : concO C ρ ⟨a, c, []⟩ (.cells ⟨l⟩ e (0, n)) = some (.cells ⟨l'⟩ e (0, n)) := by
  rw [concO_eq, h]
  rw [Option.bind_some, he, cond_false]
  rfl
theorem concO_grow {C : Ct} {ρ : Env} {l l' : List Value} {L : Loc} {e : TypeId} {fz : Nat × Nat} {te : Ti} (h : concs ρ l = some l') (ht : C.tt.get e = some te) (hn : (l' ++ L.sp).length = L.cap * te.sz) : concO C ρ L (.cells ⟨l⟩ (e + BB) fz) = some (.cells ⟨l' ++ L.sp⟩ e (fzc L fz)) := by
  rw [concO_eq, h]
  have h1 : Nat.ble BB (e + BB) = true := by generalize BB = q; exact Nat.ble_eq_true_of_le (Nat.le_add_left _ _)
  have h2 : e + BB - BB = e := by generalize BB = q; exact Nat.add_sub_cancel e q
  rw [Option.bind_some, h1, cond_true, h2, ht]
  have h3 : Nat.beq (l' ++ L.sp).length (L.cap * te.sz) = true := by rw [hn]; exact Nat.beq_refl _
  show (bif Nat.beq (l' ++ L.sp).length (L.cap * te.sz) then some (Obj.cells ⟨l' ++ L.sp⟩ e (fzc L fz)) else none) = _
  rw [h3, cond_true]
/-- The same row with other cells told, as many. -/
theorem concO_put {C : Ct} {ρ : Env} {L : Loc} {l : Array Value} {e : TypeId} {fz fz' : Nat × Nat} {o : Obj} {m m' : List Value} (h : concO C ρ L (.cells l e fz) = some o) (hm : concs ρ m = some m') (hlen : m.length = l.toList.length) :
    ∃ e', concO C ρ L (.cells ⟨m⟩ e fz') = some (.cells ⟨m' ++ L.sp⟩ e' (fzc L fz')) ∧ ∃ l', concs ρ l.toList = some l' ∧ o = .cells ⟨l' ++ L.sp⟩ e' (fzc L fz) := by
  obtain ⟨l', e', h1, rfl, h3⟩ := concO_cells h
  refine ⟨e', ?_, l', h1, rfl⟩
  rw [concO_eq, hm, Option.bind_some]
  rcases h3 with ⟨hb, he, te, ht, hn⟩ | ⟨hb, he, hs⟩
  · have hn' : (m' ++ L.sp).length = L.cap * te.sz := by
      rw [← hn, List.length_append, List.length_append, concs_len hm, concs_len h1, hlen]
    rw [hb, cond_true, ht, he]
    have h4 : Nat.beq (m' ++ L.sp).length (L.cap * te.sz) = true := by rw [hn']; exact Nat.beq_refl _
    show (bif Nat.beq (m' ++ L.sp).length (L.cap * te.sz) then some (Obj.cells ⟨m' ++ L.sp⟩ _ (fzc L fz')) else none) = _
    rw [h4, cond_true]
  · rw [hb, cond_false, he, hs, List.append_nil]
theorem concO_mono {C : Ct} {ρ : Env} (τ : Env) {L : Loc} {o o' : Obj} (h : concO C ρ L o = some o') : concO C (ρ ++ τ) L o = some o' := by
  unfold concO at h ⊢
  split at h
  · obtain ⟨b, h1, h2⟩ := Option.bind_eq_some_iff.1 h
    exact Option.bind_eq_some_iff.2 ⟨b, concs_mono τ h1, h2⟩
  · simp only [Option.map_eq_some_iff] at h ⊢
    obtain ⟨b, h1, h2⟩ := h
    exact ⟨b, concE_mono τ h1, h2⟩
  · exact h
  · split at h
    · exact h
    · simp only [Option.map_eq_some_iff] at h ⊢
      obtain ⟨b, h1, h2⟩ := h
      exact ⟨b, cad_mono τ h1, h2⟩
  · split at h
    · rename_i h1 h2
      rw [concA_mono τ h1, cad_mono τ h2]; exact h
    · cases h
  · exact h
  · simp only [Option.map_eq_some_iff] at h ⊢
    obtain ⟨b, h1, h2⟩ := h
    exact ⟨b, concDs_mono τ h1, h2⟩
  · cases h

/-- The world w, begun at w0 (of which the blocks D were one's own), holds what the state says. -/
structure Sr (C : Ct) (w0 : World) (D : Nat → Prop) (ρ : Env) (s : St) (w : World) : Prop where
  len : ρ.length = s.n
  holds : ∀ k o, s.h.get k = some o → ∃ l o', ρ[k]? = some l ∧ concO C ρ l o = some o' ∧ w.heap[l.ad]? = some o'
  inj : ∀ k k' o o' l l', s.h.get k = some o → s.h.get k' = some o' → ρ[k]? = some l → ρ[k']? = some l' → l.ad = l'.ad → k = k'
  fresh : ∀ k o l, s.h.get k = some o → ρ[k]? = some l → D l.ad ∨ w0.heap.size ≤ l.ad
  keep : ∀ b, b < w0.heap.size → ¬ D b → w.heap[b]? = w0.heap[b]?
  size : w0.heap.size ≤ w.heap.size
  os : w.os = w0.os
  tape : w.tape = w0.tape
  output : w.output = w0.output
  glob : ∀ g o, C.gl.get g = some o → w.heap[g]? = some o ∧ ∀ k o' l, s.h.get k = some o' → ρ[k]? = some l → l.ad ≠ g

section
variable {C : Ct} {w0 : World} {D : Nat → Prop} {ρ : Env} {s : St} {w : World}

theorem Sr.drew (h : Sr C w0 D ρ s w) : Sr C w0 D ρ s { w with drawn := w.drawn + 1 } :=
  ⟨h.len, h.holds, h.inj, h.fresh, h.keep, h.size, h.os, h.tape, h.output, h.glob⟩

theorem Sr.lt (h : Sr C w0 D ρ s w) {k : Nat} {o : Obj} {l : Loc} (hk : s.h.get k = some o) (hl : ρ[k]? = some l) : l.ad < w.heap.size := by
  obtain ⟨l', o', h1, _, h3⟩ := h.holds k o hk
  rw [hl] at h1; cases h1
  exact (Array.getElem?_eq_some_iff.1 h3).1
theorem Sr.klt (h : Sr C w0 D ρ s w) {k : Nat} {o : Obj} (hk : s.h.get k = some o) : k < s.n := by
  obtain ⟨l', o', h1, _, h3⟩ := h.holds k o hk
  rw [← h.len]; exact (List.getElem?_eq_some_iff.1 h1).1

def St.new (s : St) (o : Obj) : Option St := bif Nat.blt (Nat.succ s.n) TOP then some ⟨Nat.succ s.n, s.h.set s.n (some o)⟩ else none
def St.upd (s : St) (k : Nat) (o : Option Obj) : Option St := bif Nat.blt (Nat.succ k) TOP then some ⟨s.n, s.h.set k o⟩ else none

/-- A new block. -/
theorem Sr.alloc (h : Sr C w0 D ρ s w) {o o' : Obj} {cap : Nat} {sp : List Value} {s' : St} (ho : concO C (ρ ++ [⟨w.heap.size, cap, sp⟩]) ⟨w.heap.size, cap, sp⟩ o = some o') (hs : s.new o = some s') :
    Sr C w0 D (ρ ++ [⟨w.heap.size, cap, sp⟩]) s' (w.alloc o') := by
  unfold St.new at hs
  cases hb : Nat.blt (Nat.succ s.n) TOP with
  | false => rw [hb] at hs; cases hs
  | true =>
    rw [hb] at hs; cases hs
    have old : ∀ k x, s.h.get k = some x → k ≠ s.n := fun k x hk he => by have := h.klt hk; omega
    have look : ∀ k l, k ≠ s.n → (ρ ++ [(⟨w.heap.size, cap, sp⟩ : Loc)])[k]? = some l → ρ[k]? = some l := fun k l hk hl => by
      rcases Nat.lt_or_ge k ρ.length with hlt | hge
      · rwa [List.getElem?_append_left hlt] at hl
      · rw [List.getElem?_append_right hge] at hl
        have : k - ρ.length = 0 := by
          rcases Nat.eq_zero_or_pos (k - ρ.length) with h0 | h0
          · exact h0
          · rw [List.getElem?_eq_none (by simp; omega)] at hl; cases hl
        exact absurd (by rw [← h.len]; omega) hk
    have newl : ∀ l, (ρ ++ [(⟨w.heap.size, cap, sp⟩ : Loc)])[s.n]? = some l → l = ⟨w.heap.size, cap, sp⟩ := fun l hl => by
      rw [← h.len, List.getElem?_append_right (Nat.le_refl _)] at hl
      simpa using hl.symm
    have hg : ∀ k x, (s.h.set s.n (some o)).get k = some x → (k = s.n ∧ x = o) ∨ (k ≠ s.n ∧ s.h.get k = some x) := fun k x hk => by
      rw [Tr.get_set _ hb] at hk
      by_cases hkn : k = s.n
      · rw [if_pos hkn] at hk; cases hk; exact .inl ⟨hkn, rfl⟩
      · rw [if_neg hkn] at hk; exact .inr ⟨hkn, hk⟩
    refine ⟨by simp [h.len], fun k x hk => ?_, fun k k' x x' l l' hk hk' hl hl' he => ?_, fun k x l hk hl => ?_, fun b hb' hn => ?_, ?_, h.os, h.tape, h.output, fun g x hx => ?_⟩
    · rcases hg k x hk with ⟨rfl, rfl⟩ | ⟨hne, hk⟩
      · refine ⟨⟨w.heap.size, cap, sp⟩, o', by rw [← h.len]; simp, ho, ?_⟩
        show (w.heap.push o')[w.heap.size]? = _
        simp
      · obtain ⟨l, o2, h1, h2, h3⟩ := h.holds k x hk
        refine ⟨l, o2, by rw [List.getElem?_append_left (List.getElem?_eq_some_iff.1 h1).1]; exact h1, concO_mono _ h2, ?_⟩
        show (w.heap.push o')[l.ad]? = _
        have := h.lt hk h1
        rw [Array.getElem?_push, if_neg (by omega)]; exact h3
    · rcases hg k x hk with ⟨rfl, rfl⟩ | ⟨hne, hk2⟩ <;> rcases hg k' x' hk' with ⟨rfl, rfl⟩ | ⟨hne', hk2'⟩
      · rfl
      · have h1 := newl l hl
        have h2 := h.lt hk2' (look _ _ hne' hl')
        rw [← he, h1] at h2; simp at h2
      · have h1 := newl l' hl'
        have h2 := h.lt hk2 (look _ _ hne hl)
        rw [he, h1] at h2; simp at h2
      · exact h.inj k k' x x' l l' hk2 hk2' (look _ _ hne hl) (look _ _ hne' hl') he
    · rcases hg k x hk with ⟨rfl, rfl⟩ | ⟨hne, hk⟩
      · rw [newl l hl]; exact .inr h.size
      · exact h.fresh k x l hk (look _ _ hne hl)
    · show (w.heap.push o')[b]? = _
      have := h.size
      rw [Array.getElem?_push, if_neg (by omega)]
      exact h.keep b hb' hn
    · show w0.heap.size ≤ (w.heap.push o').size
      have := h.size
      simp; omega
    · obtain ⟨h1, h2⟩ := h.glob g x hx
      have hlt := (Array.getElem?_eq_some_iff.1 h1).1
      refine ⟨?_, fun k o3 l hk hl => ?_⟩
      · show (w.heap.push o')[g]? = _
        rw [Array.getElem?_push, if_neg (by omega)]; exact h1
      · rcases hg k o3 hk with ⟨rfl, rfl⟩ | ⟨hne, hk⟩
        · rw [newl l hl]; intro he; simp at he; omega
        · exact h2 k o3 l hk (look _ _ hne hl)

/-- One block is written. -/
theorem Sr.write (h : Sr C w0 D ρ s w) {k : Nat} {o o1 o' : Obj} {l : Loc} {s' : St} {w' : World} (hk : s.h.get k = some o1) (hl : ρ[k]? = some l) (ho : concO C ρ l o = some o') (hs : s.upd k (some o) = some s')
    (hb : w'.heap[l.ad]? = some o') (hkeep : ∀ b, b < w.heap.size → b ≠ l.ad → w'.heap[b]? = w.heap[b]?) (hsz : w.heap.size ≤ w'.heap.size) (hos : w'.os = w.os) (ht : w'.tape = w.tape) (hout : w'.output = w.output) :
    Sr C w0 D ρ s' w' := by
  unfold St.upd at hs
  cases hbt : Nat.blt (Nat.succ k) TOP with
  | false => rw [hbt] at hs; cases hs
  | true =>
    rw [hbt] at hs; cases hs
    have hg : ∀ j x, (s.h.set k (some o)).get j = some x → (j = k ∧ x = o) ∨ (j ≠ k ∧ s.h.get j = some x) := fun j x hj => by
      rw [Tr.get_set _ hbt] at hj
      by_cases hjk : j = k
      · rw [if_pos hjk] at hj; cases hj; exact .inl ⟨hjk, rfl⟩
      · rw [if_neg hjk] at hj; exact .inr ⟨hjk, hj⟩
    have back : ∀ j x, (s.h.set k (some o)).get j = some x → ∃ x', s.h.get j = some x' := fun j x hj => by
      rcases hg j x hj with ⟨rfl, rfl⟩ | ⟨_, hj⟩
      · exact ⟨o1, hk⟩
      · exact ⟨x, hj⟩
    refine ⟨h.len, fun j x hj => ?_, fun j j' x x' l1 l2 hj hj' hl1 hl2 he => ?_, fun j x l1 hj hl1 => ?_, fun b hb' hn => ?_, Nat.le_trans h.size hsz, hos.trans h.os, ht.trans h.tape, hout.trans h.output, fun g x hx => ?_⟩
    · rcases hg j x hj with ⟨rfl, rfl⟩ | ⟨hne, hj⟩
      · exact ⟨l, o', hl, ho, hb⟩
      · obtain ⟨l1, o2, h1, h2, h3⟩ := h.holds j x hj
        refine ⟨l1, o2, h1, h2, ?_⟩
        rw [hkeep _ (Array.getElem?_eq_some_iff.1 h3).1 (fun he => hne (h.inj j k x o1 l1 l hj hk h1 hl he))]; exact h3
    · obtain ⟨y, hy⟩ := back j x hj
      obtain ⟨y', hy'⟩ := back j' x' hj'
      exact h.inj j j' y y' l1 l2 hy hy' hl1 hl2 he
    · obtain ⟨y, hy⟩ := back j x hj
      exact h.fresh j y l1 hy hl1
    · rw [hkeep _ (Nat.lt_of_lt_of_le hb' h.size)]
      · exact h.keep b hb' hn
      · intro he
        subst he
        rcases h.fresh k o1 l hk hl with hd | hd
        · exact hn hd
        · omega
    · obtain ⟨h1, h2⟩ := h.glob g x hx
      refine ⟨?_, fun j o3 l1 hj hl1 => ?_⟩
      · rw [hkeep _ (Array.getElem?_eq_some_iff.1 h1).1 (fun he => h2 k o1 l hk hl he.symm)]; exact h1
      · obtain ⟨y, hy⟩ := back j o3 hj
        exact h2 j y l1 hy hl1

/-- One block is given up. -/
theorem Sr.drop (h : Sr C w0 D ρ s w) {k : Nat} {s' : St} (hs : s.upd k none = some s') : Sr C w0 D ρ s' w := by
  unfold St.upd at hs
  cases hbt : Nat.blt (Nat.succ k) TOP with
  | false => rw [hbt] at hs; cases hs
  | true =>
    rw [hbt] at hs; cases hs
    have hg : ∀ j x, (s.h.set k none).get j = some x → s.h.get j = some x := fun j x hj => by
      rw [Tr.get_set _ hbt] at hj
      by_cases hjk : j = k
      · rw [if_pos hjk] at hj; cases hj
      · rw [if_neg hjk] at hj; exact hj
    exact ⟨h.len, fun j x hj => h.holds j x (hg j x hj), fun j j' x x' l l' hj hj' => h.inj j j' x x' l l' (hg _ _ hj) (hg _ _ hj'), fun j x l hj => h.fresh j x l (hg _ _ hj), h.keep, h.size, h.os, h.tape, h.output,
      fun g x hx => ⟨(h.glob g x hx).1, fun j o l hj => (h.glob g x hx).2 j o l (hg _ _ hj)⟩⟩

/-- A block goes on under another number. -/
theorem Sr.move (h : Sr C w0 D ρ s w) {k : Nat} {o o1 o' : Obj} {l : Loc} {cap : Nat} {sp : List Value} {s1 s' : St} {w' : World} (hk : s.h.get k = some o1) (hl : ρ[k]? = some l)
    (ho : concO C (ρ ++ [⟨l.ad, cap, sp⟩]) ⟨l.ad, cap, sp⟩ o = some o') (hs1 : s.upd k none = some s1) (hs : s1.new o = some s')
    (hb : w'.heap[l.ad]? = some o') (hkeep : ∀ b, b < w.heap.size → b ≠ l.ad → w'.heap[b]? = w.heap[b]?) (hsz : w.heap.size ≤ w'.heap.size) (hos : w'.os = w.os) (ht : w'.tape = w.tape) (hout : w'.output = w.output) :
    Sr C w0 D (ρ ++ [⟨l.ad, cap, sp⟩]) s' w' := by
  have hk1 := h.drop hs1
  have hnot : ∀ j x, s1.h.get j = some x → j ≠ k := fun j x hj he => by
    subst he
    unfold St.upd at hs1
    cases hbt : Nat.blt (Nat.succ j) TOP with
    | false => rw [hbt] at hs1; cases hs1
    | true => rw [hbt] at hs1; cases hs1; rw [Tr.get_set _ hbt, if_pos rfl] at hj; cases hj
  have hsub : ∀ j x, s1.h.get j = some x → s.h.get j = some x := fun j x hj => by
    have hne := hnot j x hj
    unfold St.upd at hs1
    cases hbt : Nat.blt (Nat.succ k) TOP with
    | false => rw [hbt] at hs1; cases hs1
    | true => rw [hbt] at hs1; cases hs1; rw [Tr.get_set _ hbt, if_neg hne] at hj; exact hj
  have hfar : ∀ j x lj, s1.h.get j = some x → ρ[j]? = some lj → lj.ad ≠ l.ad := fun j x lj hj hlj he => hnot j x hj (h.inj j k x o1 lj l (hsub j x hj) hk hlj hl he)
  unfold St.new at hs
  cases hb' : Nat.blt (Nat.succ s1.n) TOP with
  | false => rw [hb'] at hs; cases hs
  | true =>
    rw [hb'] at hs; cases hs
    have old : ∀ k x, s1.h.get k = some x → k ≠ s1.n := fun k x hk he => by have := hk1.klt hk; omega
    have look : ∀ k l2, k ≠ s1.n → (ρ ++ [(⟨l.ad, cap, sp⟩ : Loc)])[k]? = some l2 → ρ[k]? = some l2 := fun k l2 hk hl => by
      rcases Nat.lt_or_ge k ρ.length with hlt | hge
      · rwa [List.getElem?_append_left hlt] at hl
      · rw [List.getElem?_append_right hge] at hl
        have : k - ρ.length = 0 := by
          rcases Nat.eq_zero_or_pos (k - ρ.length) with h0 | h0
          · exact h0
          · rw [List.getElem?_eq_none (by simp; omega)] at hl; cases hl
        exact absurd (by rw [← hk1.len]; omega) hk
    have newl : ∀ l2, (ρ ++ [(⟨l.ad, cap, sp⟩ : Loc)])[s1.n]? = some l2 → l2 = ⟨l.ad, cap, sp⟩ := fun l2 hl => by
      rw [← hk1.len, List.getElem?_append_right (Nat.le_refl _)] at hl
      simpa using hl.symm
    have hg : ∀ k x, (s1.h.set s1.n (some o)).get k = some x → (k = s1.n ∧ x = o) ∨ (k ≠ s1.n ∧ s1.h.get k = some x) := fun k x hk => by
      rw [Tr.get_set _ hb'] at hk
      by_cases hkn : k = s1.n
      · rw [if_pos hkn] at hk; cases hk; exact .inl ⟨hkn, rfl⟩
      · rw [if_neg hkn] at hk; exact .inr ⟨hkn, hk⟩
    refine ⟨by simp [hk1.len], fun j x hj => ?_, fun j j' x x' l1 l2 hj hj' hl1 hl2 he => ?_, fun j x l1 hj hl1 => ?_, fun b hb2 hn => ?_, Nat.le_trans h.size hsz, hos.trans h.os, ht.trans h.tape, hout.trans h.output, fun g x hx => ?_⟩
    · rcases hg j x hj with ⟨rfl, rfl⟩ | ⟨hne, hj⟩
      · exact ⟨⟨l.ad, cap, sp⟩, o', by rw [← hk1.len]; simp, ho, hb⟩
      · obtain ⟨l1, o2, h1, h2, h3⟩ := hk1.holds j x hj
        refine ⟨l1, o2, by rw [List.getElem?_append_left (List.getElem?_eq_some_iff.1 h1).1]; exact h1, concO_mono _ h2, ?_⟩
        rw [hkeep _ (Array.getElem?_eq_some_iff.1 h3).1 (hfar j x l1 hj h1)]; exact h3
    · rcases hg j x hj with ⟨rfl, rfl⟩ | ⟨hne, hj2⟩ <;> rcases hg j' x' hj' with ⟨rfl, rfl⟩ | ⟨hne', hj2'⟩
      · rfl
      · have h1 := newl l1 hl1
        rw [h1] at he
        exact absurd he.symm (hfar j' x' l2 hj2' (look _ _ hne' hl2))
      · have h1 := newl l2 hl2
        rw [h1] at he
        exact absurd he (hfar j x l1 hj2 (look _ _ hne hl1))
      · exact hk1.inj j j' x x' l1 l2 hj2 hj2' (look _ _ hne hl1) (look _ _ hne' hl2) he
    · rcases hg j x hj with ⟨rfl, rfl⟩ | ⟨hne, hj⟩
      · rw [newl l1 hl1]; exact h.fresh k o1 l hk hl
      · exact hk1.fresh j x l1 hj (look _ _ hne hl1)
    · rw [hkeep _ (Nat.lt_of_lt_of_le hb2 h.size)]
      · exact h.keep b hb2 hn
      · intro he
        subst he
        rcases h.fresh k o1 l hk hl with hd | hd
        · exact hn hd
        · omega
    · obtain ⟨h1, h2⟩ := h.glob g x hx
      refine ⟨?_, fun j o3 l1 hj hl1 => ?_⟩
      · rw [hkeep _ (Array.getElem?_eq_some_iff.1 h1).1 (fun he => h2 k o1 l hk hl he.symm)]; exact h1
      · rcases hg j o3 hj with ⟨rfl, rfl⟩ | ⟨hne, hj⟩
        · rw [newl l1 hl1]; exact h2 k o1 l hk hl
        · exact (hk1.glob g x hx).2 j o3 l1 hj (look _ _ hne hl1)
end
end Go.Ev
