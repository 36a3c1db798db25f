/-
  Maps of one's own: made, asked, written, gone through.
-/
import Derived.Test.YthiehhglnaiohaaGreatDoorWk3
import Derived.MapKept
namespace Go.Wk
set_option linter.unusedVariables false
set_option linter.unusedSimpArgs false
set_option linter.unusedSectionVars false

section
variable {κ : Type} [DecidableEq κ]

def ix : List κ → κ → Option Nat
  | [], _ => none
  | a :: r, k => if a = k then some 0 else (ix r k).map (· + 1)

theorem ix_none {l : List κ} {k : κ} : ix l k = none ↔ k ∉ l := by
  induction l with
  | nil => simp [ix]
  | cons a r ih =>
    unfold ix
    split
    · rename_i h; simp [h]
    · rename_i h; simp [ih, Ne.symm h]
theorem ix_some {l : List κ} {k : κ} {i : Nat} (h : ix l k = some i) : l[i]? = some k := by
  induction l generalizing i with
  | nil => simp [ix] at h
  | cons a r ih =>
    unfold ix at h
    split at h
    · rename_i ha; simp at h; subst h; simp [ha]
    · simp only [Option.map_eq_some_iff] at h
      obtain ⟨j, hj, rfl⟩ := h
      simpa using ih hj

/-- What a map holds. -/
structure MapIs (kf : κ → Value) (kv : List (κ × Value)) (es : Array MapEntry) (clock : Nat) : Prop where
  ents : es.toList.map (fun e => (e.key, e.val)) = kv.map (fun p => (kf p.1, p.2))
  nodup : (kv.map (·.1)).Nodup
  bn : (es.toList.map (·.born)).Nodup
  lt : ∀ e, e ∈ es.toList → e.born < clock

def ml : List (κ × Value) → κ → Option Value
  | [], _ => none
  | (a, v) :: r, k => if a = k then some v else ml r k
def mput : List (κ × Value) → κ → Value → List (κ × Value)
  | [], k, v => [(k, v)]
  | (a, u) :: r, k, v => if a = k then (a, v) :: r else (a, u) :: mput r k v

theorem ml_mput (l : List (κ × Value)) (k k' : κ) (v : Value) : ml (mput l k v) k' = if k' = k then some v else ml l k' := by
  induction l with
  | nil => simp only [mput, ml]; by_cases h : k = k' <;> simp [h, eq_comm]
  | cons p r ih =>
    obtain ⟨a, u⟩ := p
    simp only [mput]
    split
    · rename_i h; subst h
      simp only [ml]
      by_cases h : a = k'
      · simp [h]
      · simp only [h, if_false, Ne.symm h]
    · rename_i h
      simp only [ml, ih]
      by_cases h1 : a = k'
      · subst h1; simp [h]
      · simp [h1]
theorem keys_mput (l : List (κ × Value)) (k : κ) (v : Value) : (mput l k v).map (·.1) = if k ∈ l.map (·.1) then l.map (·.1) else l.map (·.1) ++ [k] := by
  induction l with
  | nil => simp [mput]
  | cons p r ih =>
    obtain ⟨a, u⟩ := p
    simp only [mput]
    split
    · rename_i h; subst h; simp
    · rename_i h
      simp only [List.map_cons, ih]
      split
      · rename_i h2; simp [h2]
      · rename_i h2; simp [h2, Ne.symm h]
theorem mem_keys_mput (l : List (κ × Value)) (k k' : κ) (v : Value) : k' ∈ (mput l k v).map (·.1) ↔ k' = k ∨ k' ∈ l.map (·.1) := by
  rw [keys_mput]
  split
  · rename_i h
    constructor
    · exact .inr
    · rintro (rfl | h') <;> assumption
  · simp [or_comm]
theorem nodup_mput {l : List (κ × Value)} (h : (l.map (·.1)).Nodup) (k : κ) (v : Value) : ((mput l k v).map (·.1)).Nodup := by
  rw [keys_mput]
  split
  · exact h
  · rename_i hk
    rw [List.nodup_append]
    exact ⟨h, by simp, fun a ha b hb => by simp at hb; subst hb; rintro rfl; exact hk ha⟩
theorem ml_none {l : List (κ × Value)} {k : κ} : ml l k = none ↔ k ∉ l.map (·.1) := by
  induction l with
  | nil => simp [ml]
  | cons p r ih =>
    obtain ⟨a, u⟩ := p
    simp only [ml]
    split
    · rename_i h; simp [h]
    · rename_i h; simp only [ih, List.map_cons, List.mem_cons, Ne.symm h, false_or]
theorem ml_mem {l : List (κ × Value)} {k : κ} {v : Value} (h : ml l k = some v) : (k, v) ∈ l := by
  induction l with
  | nil => simp [ml] at h
  | cons p r ih =>
    obtain ⟨a, u⟩ := p
    simp only [ml] at h
    split at h
    · rename_i h1; subst h1; simp at h; subst h; exact List.mem_cons_self
    · exact List.mem_cons_of_mem _ (ih h)
theorem ml_of_mem {l : List (κ × Value)} (hn : (l.map (·.1)).Nodup) {k : κ} {v : Value} (h : (k, v) ∈ l) : ml l k = some v := by
  induction l with
  | nil => cases h
  | cons p r ih =>
    obtain ⟨a, u⟩ := p
    simp only [List.map_cons, List.nodup_cons] at hn
    simp only [ml]
    rcases List.mem_cons.1 h with h | h
    · cases h; simp
    · have : a ≠ k := fun e => hn.1 (e ▸ List.mem_map.2 ⟨_, h, rfl⟩)
      simp [this, ih hn.2 h]

/-- How keys of a type are found. -/
structure KL (P : Program) (kt : TypeId) (kf : κ → Value) : Prop where
  check : ∀ b k w, (Instr.checkKey b 10000 kt (kf k)).run P w = .ok () w
  find : ∀ k (l : List MapEntry) (ks : List κ) w, l.map (·.key) = ks.map kf → (Instr.findKey kt (kf k) l).run P w = .ok ((ix ks k).bind fun i => (l[i]?).map fun e => (i, e.val)) w
  stay : ∀ k w, (Instr.keyThatStays (kf k) (kf k)).run P w = .ok (kf k) w

omit [DecidableEq κ] in
theorem findNow_eq {kind : TypeDesc} {kf : κ → Value} [DecidableEq κ] (hs : ∀ a b, Instr.sameNow kind (kf a) (kf b) = some (decide (a = b))) (k : κ) : ∀ (l : List MapEntry) (ks : List κ) (i : Nat), l.map (·.key) = ks.map kf →
    Instr.findNow kind (kf k) l i = some ((ix ks k).bind fun j => (l[j]?).map fun e => (i + j, e.val))
  | [], ks, i, h => by
    have : ks = [] := by simpa using h.symm
    subst this
    simp [Instr.findNow, ix]
  | e :: l, ks, i, h => by
    cases ks with
    | nil => simp at h
    | cons a ks =>
      simp only [List.map_cons, List.cons.injEq] at h
      unfold Instr.findNow
      rw [h.1, hs]
      by_cases hk : k = a
      · subst hk; simp [ix]
      · simp only [hk, decide_false]
        rw [findNow_eq hs k l ks (i + 1) h.2]
        simp only [ix, Ne.symm hk, if_false, Option.bind_map]
        congr 1
        cases ix ks k with
        | none => rfl
        | some j => simp [show i + 1 + j = i + (j + 1) from by omega]
end

theorem kl_int {P : Program} {kt : TypeId} {ik : IntKind} {z : Value} {s b : Nat} (ht : tiOf P kt = some ⟨.int ik, z, s, b⟩) : KL P kt (Value.int ik) where
  check b k w := by
    have h : ∀ n, (Instr.checkKey b (n + 1) kt (Value.int ik k)).run P w = .ok () w := fun n => by
      simp only [Instr.checkKey, Sem.run_bind, run_underlying (tk_int ht), Result.andThen_ok, run_pure']
    exact h 9999
  find k l ks w h := by
    have hs : ∀ a b : Int, Instr.sameNow (.int ik) (.int ik a) (.int ik b) = some (decide (a = b)) := fun a b => by simp [Instr.sameNow]; rfl
    simp only [Instr.findKey, Sem.run_bind, run_underlying (tk_int ht), Result.andThen_ok, findNow_eq hs k l ks 0 h, run_pure', Nat.zero_add]
  stay k w := by
    have h : Instr.sameBits 10000 (Value.int ik k) (Value.int ik k) = true := by
      have h : ∀ n, Instr.sameBits n (Value.int ik k) (Value.int ik k) = true := fun n => by cases n <;> simp [Instr.sameBits]
      exact h 10000
    simp only [Instr.keyThatStays, h, if_true, run_pure']

theorem kl_string {P : Program} {kt : TypeId} {z : Value} {s b : Nat} (ht : tiOf P kt = some ⟨.string, z, s, b⟩) : KL P kt Value.string where
  check b k w := by
    have h : ∀ n, (Instr.checkKey b (n + 1) kt (Value.string k)).run P w = .ok () w := fun n => by
      simp only [Instr.checkKey, Sem.run_bind, run_underlying (tk_string ht), Result.andThen_ok, run_pure']
    exact h 9999
  find k l ks w h := by
    have hs : ∀ a b : ByteArray, Instr.sameNow .string (.string a) (.string b) = some (decide (a = b)) := fun a b => by
      simp only [Instr.sameNow, Option.some.injEq]
      by_cases hab : a = b
      · rw [decide_eq_true hab]; exact (Go.MapKept.bytes_beq a b).2 hab
      · rw [decide_eq_false hab, Bool.eq_false_iff]; exact fun h => hab ((Go.MapKept.bytes_beq a b).1 h)
    simp only [Instr.findKey, Sem.run_bind, run_underlying (tk_string ht), Result.andThen_ok, findNow_eq hs k l ks 0 h, run_pure', Nat.zero_add]
  stay k w := by
    have h : Instr.sameBits 10000 (Value.string k) (Value.string k) = true := by
      have h : ∀ n, Instr.sameBits n (Value.string k) (Value.string k) = true := fun n => by
        cases n <;> (simp only [Instr.sameBits]; exact (Go.MapKept.bytes_beq k k).2 rfl)
      exact h 10000
    simp only [Instr.keyThatStays, h, if_true, run_pure']

theorem run_getObj {P : Program} {w : World} {r : Nat} {o : Obj} (h : w.heap[r]? = some o) (hc : ∀ c e f, o ≠ .cells c e f) : (getObj r).run P w = .ok o w := by
  cases o <;> first | exact absurd rfl (hc _ _ _) | (simp [getObj, Sem.run, h]; done)
theorem run_setObj {P : Program} {w : World} {r : Nat} {o : Obj} (h : w.heap[r]? = some o) (hc : ∀ c e f, o ≠ .cells c e f) (o' : Obj) : (setObj r o').run P w = .ok () { w with heap := w.heap.setIfInBounds r o' } := by
  cases o <;> first | exact absurd rfl (hc _ _ _) | (simp [setObj, Sem.run, h]; done)

section
variable {κ : Type} [DecidableEq κ] {kf : κ → Value} {kv : List (κ × Value)} {es : Array MapEntry} {clock : Nat}

theorem MapIs.keys (M : MapIs kf kv es clock) : es.toList.map (·.key) = (kv.map (·.1)).map kf := by
  have := congrArg (List.map Prod.fst) M.ents
  simp only [List.map_map] at this ⊢
  exact this
theorem MapIs.vals (M : MapIs kf kv es clock) : es.toList.map (·.val) = kv.map (·.2) := by
  have := congrArg (List.map Prod.snd) M.ents
  simp only [List.map_map] at this
  exact this

theorem ix_ml (l : List (κ × Value)) (k : κ) : (ix (l.map (·.1)) k).bind (fun i => (l.map (·.2))[i]?) = ml l k := by
  induction l with
  | nil => rfl
  | cons p r ih =>
    obtain ⟨a, v⟩ := p
    simp only [List.map_cons, ix, ml]
    split
    · simp
    · rw [← ih]
      simp only [Option.bind_map]
      rfl

theorem MapIs.find_val {P : Program} {kt : TypeId} (K : KL P kt kf) (M : MapIs kf kv es clock) (k : κ) (w : World) :
    ∃ r, (Instr.findKey kt (kf k) es.toList).run P w = .ok r w ∧ r.map (·.2) = ml kv k ∧ (∀ i v, r = some (i, v) → ix (kv.map (·.1)) k = some i ∧ i < es.toList.length) ∧ (r = none → ix (kv.map (·.1)) k = none) := by
  refine ⟨_, K.find k es.toList (kv.map (·.1)) w M.keys, ?_, ?_, ?_⟩
  · rw [← ix_ml kv k, ← M.vals]
    cases ix (kv.map (·.1)) k with
    | none => rfl
    | some i =>
      simp only [Option.bind_some, List.getElem?_map, Option.map_map]
      rfl
  · intro i v h
    cases h1 : ix (kv.map (·.1)) k with
    | none => rw [h1] at h; simp at h
    | some j =>
      rw [h1] at h
      simp only [Option.bind_some, Option.map_eq_some_iff, Prod.mk.injEq] at h
      obtain ⟨e, he, rfl, _⟩ := h
      exact ⟨rfl, (List.getElem?_eq_some_iff.1 he).1⟩
  · intro h
    cases h1 : ix (kv.map (·.1)) k with
    | none => rfl
    | some j =>
      rw [h1] at h
      have hj := ix_some h1
      have hl : es.toList.length = kv.length := by simpa using congrArg List.length M.ents
      have hlt : j < kv.length := by simpa using (List.getElem?_eq_some_iff.1 hj).1
      simp only [Option.bind_some, List.getElem?_eq_getElem (show j < es.toList.length from by omega), Option.map_some] at h
      cases h

theorem run_lookup {P : Program} {t kt et : TypeId} {z : Value} {s b : Nat} {te : Ti} (ht : tiOf P t = some ⟨.map kt et, z, s, b⟩) (hte : tiOf P et = some te) (K : KL P kt kf) (M : MapIs kf kv es clock) {r : Nat} {w : World} (hr : w.heap[r]? = some (.map es clock)) (k : κ) (ok : Bool) :
    (Instr.lookup t (.map (some r)) (kf k) ok).run P w = .ok (if ok then .tuple #[(ml kv k).getD te.z, .bool (ml kv k).isSome] else (ml kv k).getD te.z) w := by
  have hg := run_getObj (P := P) hr (by intro c e f h; cases h)
  obtain ⟨q, hq, hv, _, _⟩ := M.find_val K k w
  simp only [Instr.lookup, Sem.run_bind, run_underlying (tk_map ht), Result.andThen_ok, hg, run_pure', K.check, hq]
  cases q with
  | none =>
    simp only [Option.map_none] at hv
    rw [← hv]
    cases ok <;> simp [run_zeroValue hte, run_pure']
  | some x =>
    obtain ⟨i, v⟩ := x
    simp only [Option.map_some] at hv
    rw [← hv]
    cases ok <;> simp [run_pure']

theorem run_mapUpdate {P : Program} {t kt et : TypeId} {z : Value} {s b : Nat} (ht : tiOf P t = some ⟨.map kt et, z, s, b⟩) (K : KL P kt kf) (M : MapIs kf kv es clock) {r : Nat} {w : World} (hr : w.heap[r]? = some (.map es clock)) (k : κ) (v : Value) :
    ∃ es' clock', (Instr.mapUpdate t (.map (some r)) (kf k) v).run P w = .ok () { w with heap := w.heap.setIfInBounds r (.map es' clock') } ∧ MapIs kf (mput kv k v) es' clock' := by
  have hg := run_getObj (P := P) hr (by intro c e f h; cases h)
  have hs := fun o' => run_setObj (P := P) hr (by intro c e f h; cases h) o'
  obtain ⟨q, hq, hv, h1, h2⟩ := M.find_val K k w
  cases q with
  | none =>
    have hix := h2 rfl
    have hnot := ix_none.1 hix
    refine ⟨es.push { key := kf k, val := v, born := clock }, clock + 1, ?_, ?_⟩
    · simp only [Instr.mapUpdate, Sem.run_bind, run_underlying (tk_map ht), Result.andThen_ok, hg, K.check, hq, hs]
    · have hput : mput kv k v = kv ++ [(k, v)] := by
        clear hq hv h1 h2 M hr hg hs
        induction kv with
        | nil => rfl
        | cons p l ih =>
          obtain ⟨a, u⟩ := p
          simp only [List.map_cons, List.mem_cons, not_or] at hnot
          simp only [mput, Ne.symm hnot.1, if_false, List.cons_append]
          rw [ih (ix_none.2 hnot.2) hnot.2]
      refine ⟨?_, nodup_mput M.nodup k v, ?_, ?_⟩
      · rw [hput, Array.toList_push, List.map_append, M.ents]; simp
      · rw [Array.toList_push, List.map_append, List.nodup_append]
        refine ⟨M.bn, by simp, fun a ha c hc => ?_⟩
        simp only [List.map_cons, List.map_nil, List.mem_singleton] at hc
        subst hc
        obtain ⟨e, he, rfl⟩ := List.mem_map.1 ha
        have := M.lt e he
        omega
      · intro e he
        rw [Array.toList_push] at he
        rcases List.mem_append.1 he with he | he
        · have := M.lt e he; omega
        · simp at he; subst he; exact Nat.lt_succ_self _
  | some x =>
    obtain ⟨i, u⟩ := x
    obtain ⟨hix, hlt⟩ := h1 i u rfl
    have hkey : ((es[i]?).map (·.key)).getD (kf k) = kf k := by
      have hi := ix_some hix
      have hk2 := congrArg (·[i]?) M.keys
      simp only [List.getElem?_map] at hk2 hi
      have hlt' : i < es.size := by simpa using hlt
      simp only [Array.getElem?_toList, Array.getElem?_eq_getElem hlt', Option.map_some] at hk2
      rw [Array.getElem?_eq_getElem hlt']
      simp only [Option.map_some, Option.getD_some]
      rw [hi] at hk2
      simpa using hk2
    refine ⟨es.modify i fun e => { e with key := kf k, val := v }, clock, ?_, ?_⟩
    · simp only [Instr.mapUpdate, Sem.run_bind, run_underlying (tk_map ht), Result.andThen_ok, hg, K.check, hq, hkey, K.stay, hs]
    · have hlist : (es.modify i fun e => { e with key := kf k, val := v }).toList = es.toList.modify i (fun e => { e with key := kf k, val := v }) := by simp
      refine ⟨?_, nodup_mput M.nodup k v, ?_, ?_⟩
      · rw [hlist]
        have key : ∀ (l : List MapEntry) (m : List (κ × Value)) (i : Nat), l.map (fun e => (e.key, e.val)) = m.map (fun p => (kf p.1, p.2)) → ix (m.map (·.1)) k = some i →
            (l.modify i (fun e => { e with key := kf k, val := v })).map (fun e => (e.key, e.val)) = (mput m k v).map (fun p => (kf p.1, p.2)) := by
          intro l
          induction l with
          | nil =>
            intro m i h1 h2
            have : m = [] := by simpa using h1.symm
            subst this; simp [ix] at h2
          | cons e l ih =>
            intro m i h1 h2
            cases m with
            | nil => simp at h1
            | cons p m =>
              obtain ⟨a, u⟩ := p
              simp only [List.map_cons, List.cons.injEq, Prod.mk.injEq] at h1
              simp only [List.map_cons, ix] at h2
              by_cases ha : a = k
              · simp only [ha, if_true, Option.some.injEq] at h2
                subst h2
                simp only [List.modify_zero_cons, List.map_cons, mput, ha, if_true, h1.2]
              · simp only [ha, if_false, Option.map_eq_some_iff] at h2
                obtain ⟨j, hj, rfl⟩ := h2
                simp only [List.modify_succ_cons, List.map_cons, mput, ha, if_false, ih m j h1.2 hj, h1.1]
        exact key es.toList kv i M.ents hix
      · rw [hlist]
        have : ∀ (l : List MapEntry) (i : Nat), (l.modify i (fun e => { e with key := kf k, val := v })).map (·.born) = l.map (·.born) := by
          intro l
          induction l with
          | nil => intro i; simp
          | cons e l ih => intro i; cases i <;> simp [ih]
        rw [this]; exact M.bn
      · intro e he
        rw [hlist] at he
        have : ∀ (l : List MapEntry) (i : Nat) (e : MapEntry), e ∈ l.modify i (fun e => { e with key := kf k, val := v }) → ∃ e' ∈ l, e'.born = e.born := by
          intro l
          induction l with
          | nil => intro i e h; simp at h
          | cons x l ih =>
            intro i e h
            cases i with
            | zero =>
              simp only [List.modify_zero_cons, List.mem_cons] at h
              rcases h with rfl | h
              · exact ⟨x, List.mem_cons_self, rfl⟩
              · exact ⟨e, List.mem_cons_of_mem _ h, rfl⟩
            | succ i =>
              simp only [List.modify_succ_cons, List.mem_cons] at h
              rcases h with rfl | h
              · exact ⟨_, List.mem_cons_self, rfl⟩
              · obtain ⟨e', h1, h2⟩ := ih i e h
                exact ⟨e', List.mem_cons_of_mem _ h1, h2⟩
        obtain ⟨e', h1, h2⟩ := this _ _ _ he
        have := M.lt e' h1
        omega
end

section
variable {X : Cx} {ops : Array Oper} {Q : Post} {rest : List Oper} {L : LT} {R : RL} {d : Nat} {x y q : Operand} {t ty : TypeId} {p : String} {af : Array Edge} {v : Value}
variable {κ : Type} [DecidableEq κ] {kf : κ → Value} {kv : List (κ × Value)} {es : Array MapEntry} {clock : Nat}

omit [DecidableEq κ] in
theorem mapIs_nil (kf : κ → Value) (clock : Nat) : MapIs kf [] #[] clock := ⟨rfl, List.nodup_nil, List.nodup_nil, fun _ h => by cases h⟩

theorem g_mkmap (hN : Nat.blt d X.N = true) (k : ∀ r, G X ops Q rest ((d, .map (some r)) :: L) ([(r, .map #[] 0)] :: R)) :
    G X ops Q (⟨some d, .makeMap t none, ty, p, af, none⟩ :: rest) L R :=
  g_run (Y := Nat) (fun r => .map (some r)) (fun r => [(r, .map #[] 0)] :: R) (fun _ => True) rfl rfl hN (by intro c h; cases h)
    (fun a w ha hE => ⟨w.heap.size, w.alloc (.map #[] 0), by
      simp only [execOp, Option.map_none, Instr.makeMap, newObj, Sem.run_bind, Sem.run, run_pure', Result.andThen_ok]
      rfl, hp_alloc hE _, trivial⟩) (fun b _ => k b)

/-- m[k]. -/
theorem g_look (i : Nat) {r : Nat} {k : κ} {kt et : TypeId} {z : Value} {s b : Nat} {te : Ti} (hR : R[i]? = some [(r, .map es clock)]) (hx : ev L x = some (.map (some r))) (hy : ev L y = some (kf k)) (ht : tl X.s.tab t = some ⟨.map kt et, z, s, b⟩) (hte : tl X.s.tab et = some te)
    (K : KL X.s.P kt kf) (M : MapIs kf kv es clock) (hN : Nat.blt d X.N = true) (k' : G X ops Q rest ((d, (ml kv k).getD te.z) :: L) R) :
    G X ops Q (⟨some d, .lookup t x y false, ty, p, af, none⟩ :: rest) L R :=
  g_run (Y := Unit) (fun _ => (ml kv k).getD te.z) (fun _ => R) (fun _ => True) rfl rfl hN (by intro c h; cases h)
    (fun a w ha hE => ⟨(), w, by
      have hr := run_lookup (X.s.ok.at ht) (X.s.ok.at hte) K M (hp_cellA hE hR) k false
      simp only [execOp]
      rw [ha.kn.ev hx, ha.kn.ev hy, Sem.run_bind, hr]; rfl, hE, trivial⟩) (fun _ _ => k')
/-- v, ok := m[k]. -/
theorem g_look2 (i : Nat) {r : Nat} {k : κ} {kt et : TypeId} {z : Value} {s b : Nat} {te : Ti} (hR : R[i]? = some [(r, .map es clock)]) (hx : ev L x = some (.map (some r))) (hy : ev L y = some (kf k)) (ht : tl X.s.tab t = some ⟨.map kt et, z, s, b⟩) (hte : tl X.s.tab et = some te)
    (K : KL X.s.P kt kf) (M : MapIs kf kv es clock) (hN : Nat.blt d X.N = true) (k' : G X ops Q rest ((d, .tuple #[(ml kv k).getD te.z, .bool (ml kv k).isSome]) :: L) R) :
    G X ops Q (⟨some d, .lookup t x y true, ty, p, af, none⟩ :: rest) L R :=
  g_run (Y := Unit) (fun _ => .tuple #[(ml kv k).getD te.z, .bool (ml kv k).isSome]) (fun _ => R) (fun _ => True) rfl rfl hN (by intro c h; cases h)
    (fun a w ha hE => ⟨(), w, by
      have hr := run_lookup (X.s.ok.at ht) (X.s.ok.at hte) K M (hp_cellA hE hR) k true
      simp only [execOp]
      rw [ha.kn.ev hx, ha.kn.ev hy, Sem.run_bind, hr]; rfl, hE, trivial⟩) (fun _ _ => k')

/-- m[k] = v. -/
theorem g_upd (i : Nat) {r : Nat} {k : κ} {kt et : TypeId} {z : Value} {s b : Nat} (hR : R[i]? = some [(r, .map es clock)]) (hx : ev L x = some (.map (some r))) (hy : ev L y = some (kf k)) (hq : ev L q = some v) (ht : tl X.s.tab t = some ⟨.map kt et, z, s, b⟩)
    (K : KL X.s.P kt kf) (M : MapIs kf kv es clock) (k' : ∀ es' clock', MapIs kf (mput kv k v) es' clock' → G X ops Q rest L (R.set i [(r, .map es' clock')])) :
    G X ops Q (⟨none, .mapUpdate t x y q, ty, p, af, none⟩ :: rest) L R :=
  g_runU (Y := Array MapEntry × Nat) (fun m => R.set i [(r, .map m.1 m.2)]) (fun m => MapIs kf (mput kv k v) m.1 m.2) rfl rfl (by intro c h; cases h)
    (fun a w ha hE => by
      have hb := hp_cellA hE hR
      obtain ⟨es', clock', hr, M'⟩ := run_mapUpdate (X.s.ok.at ht) K M hb k v
      refine ⟨(es', clock'), _, .inl ?_, hp_front i hR hE (Eff.setObj hb), M'⟩
      simp only [execOp]
      rw [ha.kn.ev hx, ha.kn.ev hy, ha.kn.ev hq, Sem.run_bind, hr]; rfl) (fun m hm => k' m.1 m.2 hm)

/-! ### Going through a map that stays as it is -/
omit [DecidableEq κ] in
theorem g_rng (i : Nat) {r : Nat} {kt et : TypeId} {z : Value} {s b : Nat} (hR : R[i]? = some [(r, .map es clock)]) (hx : ev L x = some (.map (some r))) (ht : tl X.s.tab t = some ⟨.map kt et, z, s, b⟩) (hN : Nat.blt d X.N = true)
    (k' : ∀ it, G X ops Q rest ((d, .pointer (some ⟨it, 0, none⟩)) :: L) ([(it, .mapIter (some r) clock #[] clock)] :: R)) :
    G X ops Q (⟨some d, .range t x, ty, p, af, none⟩ :: rest) L R :=
  g_run (Y := Nat) (fun it => .pointer (some ⟨it, 0, none⟩)) (fun it => [(it, .mapIter (some r) clock #[] clock)] :: R) (fun _ => True) rfl rfl hN (by intro c h; cases h)
    (fun a w ha hE => by
      have hg := run_getObj (P := X.s.P) (hp_cellA hE hR) (by intro c e f h; cases h)
      refine ⟨w.heap.size, w.alloc (.mapIter (some r) clock #[] clock), ?_, hp_alloc hE _, trivial⟩
      simp only [execOp]
      rw [ha.kn.ev hx, Sem.run_bind]
      simp only [Instr.range, Sem.run_bind, run_underlying (tk_map (X.s.ok.at ht)), Result.andThen_ok, hg, run_pure']
      rfl) (fun b _ => k' b)

/-- What has been gone through: a list of entries. -/
structure Gone (es : Array MapEntry) (done : List MapEntry) : Prop where
  sub : ∀ e, e ∈ done → e ∈ es.toList
  nodup : (done.map (·.born)).Nodup

theorem Gone.all {es : Array MapEntry} {done : List MapEntry} (h : Gone es done) (hb : (es.toList.map (·.born)).Nodup) (hall : ∀ e, e ∈ es.toList → e.born ∈ done.map (·.born)) : done.Perm es.toList := by
  have inj : ∀ e e', e ∈ es.toList → e' ∈ es.toList → e.born = e'.born → e = e' := by
    generalize es.toList = l at hb
    induction l with
    | nil => intro e e' h; cases h
    | cons x l ih =>
      simp only [List.map_cons, List.nodup_cons] at hb
      intro e e' h1 h2 h3
      rcases List.mem_cons.1 h1 with h1' | h1' <;> rcases List.mem_cons.1 h2 with h2' | h2'
      · rw [h1', h2']
      · exact absurd (List.mem_map.2 ⟨e', h2', by rw [← h3, h1']⟩) hb.1
      · exact absurd (List.mem_map.2 ⟨e, h1', by rw [h3, h2']⟩) hb.1
      · exact ih hb.2 _ _ h1' h2' h3
  have nd : ∀ l : List MapEntry, (l.map (·.born)).Nodup → l.Nodup := fun l hl => by
    induction l with
    | nil => exact List.nodup_nil
    | cons x l ih =>
      simp only [List.map_cons, List.nodup_cons] at hl ⊢
      exact ⟨fun hx => hl.1 (List.mem_map.2 ⟨x, hx, rfl⟩), ih hl.2⟩
  refine (List.perm_ext_iff_of_nodup (nd _ h.nodup) (nd _ hb)).2 fun e => ⟨h.sub e, fun he => ?_⟩
  obtain ⟨e', h1, h2⟩ := List.mem_map.1 (hall e he)
  rw [inj e e' he (h.sub e' h1) h2.symm]
  exact h1

theorem run_next {P : Program} {w : World} {it r : Nat} {es : Array MapEntry} {clock : Nat} {done : List MapEntry} (hi : w.heap[it]? = some (.mapIter (some r) clock (done.map (·.born)).toArray clock)) (hr : w.heap[r]? = some (.map es clock))
    (hlt : ∀ e, e ∈ es.toList → e.born < clock) (hg : Gone es done) (ty : TypeId) :
    (∃ w', (Instr.next (.pointer (some ⟨it, 0, none⟩)) false ty).run P w = .ok (.tuple #[.bool false]) w' ∧ Eff w [] w' [] ∧ ∀ e, e ∈ es.toList → e.born ∈ done.map (·.born)) ∨
    (∃ w' e, (Instr.next (.pointer (some ⟨it, 0, none⟩)) false ty).run P w = .ok (.tuple #[.bool true, e.key, e.val]) w' ∧
      Eff w [(it, .mapIter (some r) clock (done.map (·.born)).toArray clock)] w' [(it, .mapIter (some r) clock ((done ++ [e]).map (·.born)).toArray clock)] ∧ Gone es (done ++ [e])) := by
  have hgi := run_getObj (P := P) hi (by intro c e f h; cases h)
  have hgr := run_getObj (P := P) hr (by intro c e f h; cases h)
  have hold : (es.filter fun e => !((done.map (·.born)).toArray.contains e.born)).filter (fun e => decide (e.born < clock)) = es.filter fun e => !((done.map (·.born)).toArray.contains e.born) := by
    apply Array.ext'
    simp only [Array.toList_filter]
    apply List.filter_eq_self.2
    intro e he
    have := hlt e (List.mem_filter.1 he |>.1)
    simpa using this
  have hnew : (es.filter fun e => !((done.map (·.born)).toArray.contains e.born)).filter (fun e => decide (e.born ≥ clock)) = #[] := by
    apply Array.ext'
    simp only [Array.toList_filter]
    apply List.filter_eq_nil_iff.2
    intro e he
    have := hlt e (List.mem_filter.1 he |>.1)
    simp; omega
  have hunsup : (!(done.map (·.born)).toArray.isEmpty && !es.isEmpty && es.all fun e => decide (e.born ≥ clock)) = false := by
    cases hes : es.isEmpty with
    | true => simp
    | false =>
      have h0 : 0 < es.size := by
        rcases Nat.eq_zero_or_pos es.size with h | h
        · have : es = #[] := Array.eq_empty_of_size_eq_zero h
          subst this; simp at hes
        · exact h
      have : es.all (fun e => decide (e.born ≥ clock)) = false := by
        rw [Bool.eq_false_iff]
        intro h
        have h1 := Array.all_eq_true'.1 h es[0] (Array.getElem_mem h0)
        have h2 := hlt es[0] (by simp)
        simp at h1
        omega
      simp [this]
  generalize hleft : es.filter (fun e => !((done.map (·.born)).toArray.contains e.born)) = left at hold hnew
  have hmem : ∀ e, e ∈ left ↔ e ∈ es.toList ∧ e.born ∉ done.map (·.born) := by
    intro e
    rw [← hleft]
    simp
  have hch : ∀ n, 0 < n → ∃ k w1, (choose (.mapNext n)).run P w = .ok k w1 ∧ k < n ∧ (w1 = w ∨ w1 = w.drew) := by
    intro n hn
    simp only [choose, Sem.run]
    by_cases hf : (Question.mapNext n).forced = true
    · exact ⟨0, w, by simp [hf], hn, .inl rfl⟩
    · simp only [hf]
      exact ⟨_, w.drew, rfl, Nat.mod_lt _ hn, .inr rfl⟩
  have hE0 : ∀ w1, (w1 = w ∨ w1 = w.drew) → Eff w [] w1 [] := by
    rintro w1 (rfl | rfl)
    · exact Eff.refl _
    · exact Eff.drew _
  by_cases hempty : left = #[]
  · -- all gone through
    left
    obtain ⟨k, w1, h1, h2, h3⟩ := hch 1 (by omega)
    have hk : k = 0 := by omega
    subst hk
    refine ⟨w1, ?_, hE0 w1 h3, fun e he => ?_⟩
    · subst hempty
      simp only [Instr.next, Sem.run_bind, hgi, Result.andThen_ok, hgr, hunsup, Bool.false_eq_true, if_false, hleft, run_pure', Array.filter_empty, Array.append_empty, Array.map_empty, Array.isEmpty_empty, if_true]
      have hs : (#[none] : Array (Option MapEntry)).size = 1 := rfl
      simp only [hs, h1, Result.andThen_ok]
      rfl
    · by_cases hb : e.born ∈ done.map (·.born)
      · exact hb
      · have := (hmem e).2 ⟨he, hb⟩
        rw [hempty] at this; simp at this
  · right
    have hpos : 0 < left.size := by
      rcases Nat.eq_zero_or_pos left.size with h | h
      · exact absurd (Array.eq_empty_of_size_eq_zero h) hempty
      · exact h
    obtain ⟨k, w1, h1, h2, h3⟩ := hch left.size hpos
    have hin := (hmem left[k]).1 (Array.getElem_mem h2)
    have hi1 : w1.heap[it]? = some (.mapIter (some r) clock (done.map (·.born)).toArray clock) := by rcases h3 with rfl | rfl <;> exact hi
    have hset := run_setObj (P := P) hi1 (by intro c e f h; cases h) (.mapIter (some r) clock ((done.map (·.born)).toArray.push left[k].born) clock)
    refine ⟨{ w1 with heap := w1.heap.setIfInBounds it (.mapIter (some r) clock ((done.map (·.born)).toArray.push left[k].born) clock) }, left[k], ?_, ?_, ⟨?_, ?_⟩⟩
    · have hne : left.isEmpty = false := by simp [Array.isEmpty]; omega
      have hold' : left.filter (fun e => decide (e.born < clock)) = left := hold
      have hnew' : left.filter (fun e => decide (e.born ≥ clock)) = #[] := hnew
      simp only [Instr.next, Sem.run_bind, hgi, Result.andThen_ok, hgr, hunsup, Bool.false_eq_true, if_false, hleft, hold', hnew', hne, Array.append_empty, Array.empty_append, Array.size_map, h1]
      rw [Array.getElem?_map, Array.getElem?_eq_getElem h2]
      simp only [Option.map_some, Sem.run_bind, hset, Result.andThen_ok, run_pure']
    · have E1 := Eff.seq0 (Eff.start w [(it, .mapIter (some r) clock (done.map (·.born)).toArray clock)] (by intro b o h; simp at h; obtain ⟨rfl, rfl⟩ := h; exact hi) (by simp [ids])) (hE0 w1 h3)
      have E2 := Eff.setObj (o' := .mapIter (some r) clock ((done.map (·.born)).toArray.push left[k].born) clock) hi1
      have E3 := Eff.seq (F := []) (by simpa using E1) E2
      have e1 : ((done ++ [left[k]]).map (·.born)).toArray = (done.map (·.born)).toArray.push left[k].born := by simp
      rw [e1]
      simpa using E3
    · intro e he
      rcases List.mem_append.1 he with he | he
      · exact hg.sub e he
      · simp only [List.mem_singleton] at he; subst he; exact hin.1
    · rw [List.map_append, List.nodup_append]
      refine ⟨hg.nodup, by simp, fun a ha b hb => ?_⟩
      simp only [List.map_cons, List.map_nil, List.mem_singleton] at hb
      subst hb
      rintro rfl
      exact hin.2 ha

theorem run_entry {P : Program} {w : World} {it r : Nat} {es : Array MapEntry} {clock : Nat} {done : List MapEntry} {e : MapEntry} (hi : w.heap[it]? = some (.mapIter (some r) clock ((done ++ [e]).map (·.born)).toArray clock)) (hr : w.heap[r]? = some (.map es clock))
    (hbn : (es.toList.map (·.born)).Nodup) (he : e ∈ es.toList) : (Instr.entry (.pointer (some ⟨it, 0, none⟩))).run P w = .ok (.tuple #[e.key, e.val]) w := by
  have hgi := run_getObj (P := P) hi (by intro c e f h; cases h)
  have hgr := run_getObj (P := P) hr (by intro c e f h; cases h)
  have hback : ((done ++ [e]).map (·.born)).toArray.back? = some e.born := by simp
  have hfind : es.find? (fun x => x.born == e.born) = some e := by
    have key : ∀ l : List MapEntry, (l.map (·.born)).Nodup → e ∈ l → l.find? (fun x => x.born == e.born) = some e := by
      intro l
      induction l with
      | nil => intro _ h; cases h
      | cons x l ih =>
        intro hn hm
        simp only [List.map_cons, List.nodup_cons] at hn
        rw [List.find?_cons]
        rcases List.mem_cons.1 hm with rfl | hm
        · simp
        · have : x.born ≠ e.born := fun h => hn.1 (h ▸ List.mem_map.2 ⟨e, hm, rfl⟩)
          have hb : (x.born == e.born) = false := by simpa using this
          rw [hb]
          exact ih hn.2 hm
    rw [← Array.find?_toList]
    exact key _ hbn he
  simp only [Instr.entry, Sem.run_bind, hgi, Result.andThen_ok, hback, hgr, run_pure', bne_self_eq_false, Bool.false_eq_true, if_false, hfind]

/-- The next one: all gone through, or one more. -/
theorem g_next (i j : Nat) {it r : Nat} {done : List MapEntry} {kf : κ → Value} {kv : List (κ × Value)} (hi : R[i]? = some [(it, .mapIter (some r) clock (done.map (·.born)).toArray clock)]) (hj : R[j]? = some [(r, .map es clock)]) (hx : ev L x = some (.pointer (some ⟨it, 0, none⟩)))
    (M : MapIs kf kv es clock) (hg : Gone es done) (hN : Nat.blt d X.N = true)
    (k0 : done.Perm es.toList → G X ops Q rest ((d, .tuple #[.bool false]) :: L) R)
    (k1 : ∀ e, e ∈ es.toList → Gone es (done ++ [e]) → G X ops Q rest ((d, .tuple #[.bool true, e.key, e.val]) :: L) (R.set i [(it, .mapIter (some r) clock ((done ++ [e]).map (·.born)).toArray clock)])) :
    G X ops Q (⟨some d, .next x false, ty, p, af, none⟩ :: rest) L R := by
  refine g_run (Y := Option MapEntry) (fun q => match q with | none => .tuple #[.bool false] | some e => .tuple #[.bool true, e.key, e.val])
    (fun q => match q with | none => R | some e => R.set i [(it, .mapIter (some r) clock ((done ++ [e]).map (·.born)).toArray clock)])
    (fun q => match q with | none => done.Perm es.toList | some e => Gone es (done ++ [e])) rfl rfl hN (by intro c h; cases h) (fun a w ha hE => ?_) (fun q hq => ?_)
  · have hbi := hp_cellA hE hi
    have hbj := hp_cellA hE hj
    rcases run_next (P := X.s.P) hbi hbj M.lt hg ty with ⟨w', hr, E, hall⟩ | ⟨w', e, hr, E, hg'⟩
    · refine ⟨none, w', ?_, Eff.seq0 hE E, hg.all M.bn hall⟩
      simp only [execOp]
      rw [ha.kn.ev hx, Sem.run_bind, hr]; rfl
    · refine ⟨some e, w', ?_, hp_front i hi hE E, hg'⟩
      simp only [execOp]
      rw [ha.kn.ev hx, Sem.run_bind, hr]; rfl
  · cases q with
    | none => exact k0 hq
    | some e => exact k1 e (hq.sub e (by simp)) hq

theorem g_entry (i j : Nat) {it r : Nat} {done : List MapEntry} {e : MapEntry} {kf : κ → Value} {kv : List (κ × Value)} (hi : R[i]? = some [(it, .mapIter (some r) clock ((done ++ [e]).map (·.born)).toArray clock)]) (hj : R[j]? = some [(r, .map es clock)]) (hx : ev L x = some (.pointer (some ⟨it, 0, none⟩)))
    (M : MapIs kf kv es clock) (he : e ∈ es.toList) (hN : Nat.blt d X.N = true) (k : G X ops Q rest ((d, .tuple #[e.key, e.val]) :: L) R) :
    G X ops Q (⟨some d, .entry x, ty, p, af, none⟩ :: rest) L R :=
  g_run (Y := Unit) (fun _ => .tuple #[e.key, e.val]) (fun _ => R) (fun _ => True) rfl rfl hN (by intro c h; cases h)
    (fun a w ha hE => ⟨(), w, by
      have hr := run_entry (P := X.s.P) (hp_cellA hE hi) (hp_cellA hE hj) M.bn he
      simp only [execOp]
      rw [ha.kn.ev hx, Sem.run_bind, hr]; rfl, hE, trivial⟩) (fun _ _ => k)
end
end Go.Wk
