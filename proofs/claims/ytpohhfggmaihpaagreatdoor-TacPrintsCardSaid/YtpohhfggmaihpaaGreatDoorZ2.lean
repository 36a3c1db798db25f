/-
  DERIVED: THE SHELF's CONTRACTS AT THIS DUMP, IN PLAIN WORDS (tools/lay-plain.mjs out of 'TryShelf.lean', which tools/lay-shelf.mjs wrote): THE SAME DECLARATIONS UNDER THE SAME NAMES: 'import', 'namespace', 'open', 'def', 'theorem' AND NOTHING ELSE: no command of the shelf's: FOR A HAND-IN. Each laying: the table of numbers ('.._ren') and one theorem, a field a fact of the dump's own or the kernel's comparison; each contract: ONE APPLICATION.
  Maps of one's own: made, asked, written, gone through.
  The types of this translation, as a table; the kernel holds it against the program's own.
  The library's Sort, Compact, Clone at []int: the shelf's contracts, laid, as contracts over memory of one's own.
  What instructions read and write, where they go on: as plain functions.
  Operations whose value needs no memory, told by one function.
  Regions that draw their order: what only reads is taken first; the rest in every order.
  tac: within, Writes, Reads.
  The library's IndexFunc, DeleteFunc at []int; tac.Next.
  tac.Next.
  The document's answer (layer 13): within, Writes, Reads, Next.
  A field of an element.
  The document's answer (layer 16): Ints, Lists, told; layer 13: Reads; flow: rising.
-/
import Derived.Shelf.Sort.Plain
import Derived.Ground.Names2Prog
import Derived.Shelf.Slices.CompactI
import Derived.Shelf.Slices.Cells
import Derived.Shelf.Slices.In.SortNone
import Derived.Test.YtpohhfggmaihpaaGreatDoorProg
import Derived.Test.YtpohhfggmaihpaaGreatDoorZ1
import Derived.MapKept
import Derived.OrdersIn
import Derived.OrdersHeld

/- DERIVED: THE SHELF's CONTRACTS AT THIS DUMP, IN PLAIN WORDS (tools/lay-plain.mjs out of 'TryShelf.lean', which tools/lay-shelf.mjs wrote): THE SAME DECLARATIONS UNDER THE SAME NAMES: 'import', 'namespace', 'open', 'def', 'theorem' AND NOTHING ELSE: no command of the shelf's: FOR A HAND-IN. Each laying: the table of numbers ('.._ren') and one theorem, a field a fact of the dump's own or the kernel's comparison; each contract: ONE APPLICATION. -/
namespace Go.Proofs
open Go.Shelf
end Go.Proofs

/- Maps of one's own: made, asked, written, gone through. -/
namespace Go.Wk
set_option linter.unusedVariables false
set_option linter.unusedSimpArgs false
set_option linter.unusedSectionVars false

section
variable {κ : Type} [DecidableEq κ]

def ix : List κ → κ → Option Nat
  | [], _ => none
  | a :: r, k => if a = k then some 0 else (ix r k).map (· + 1)

theorem ix_none {l : List κ} {k : κ} : ix l k = none ↔ k ∉ l := by
  induction l with
  | nil => simp [ix]
  | cons a r ih =>
    unfold ix
    split
    · rename_i h; simp [h]
    · rename_i h; simp [ih, Ne.symm h]
theorem ix_some {l : List κ} {k : κ} {i : Nat} (h : ix l k = some i) : l[i]? = some k := by
  induction l generalizing i with
  | nil => simp [ix] at h
  | cons a r ih =>
    unfold ix at h
    split at h
    · rename_i ha; simp at h; subst h; simp [ha]
    · simp only [Option.map_eq_some_iff] at h
      obtain ⟨j, hj, rfl⟩ := h
      simpa using ih hj

/-- What a map holds. -/
structure MapIs (kf : κ → Value) (kv : List (κ × Value)) (es : Array MapEntry) (clock : Nat) : Prop where
  ents : es.toList.map (fun e => (e.key, e.val)) = kv.map (fun p => (kf p.1, p.2))
  nodup : (kv.map (·.1)).Nodup
  bn : (es.toList.map (·.born)).Nodup
  lt : ∀ e, e ∈ es.toList → e.born < clock

def ml : List (κ × Value) → κ → Option Value
  | [], _ => none
  | (a, v) :: r, k => if a = k then some v else ml r k
def mput : List (κ × Value) → κ → Value → List (κ × Value)
  | [], k, v => [(k, v)]
  | (a, u) :: r, k, v => if a = k then (a, v) :: r else (a, u) :: mput r k v

theorem ml_mput (l : List (κ × Value)) (k k' : κ) (v : Value) : ml (mput l k v) k' = if k' = k then some v else ml l k' := by
  induction l with
  | nil => simp only [mput, ml]; by_cases h : k = k' <;> simp [h, eq_comm]
  | cons p r ih =>
    obtain ⟨a, u⟩ := p
    simp only [mput]
    split
    · rename_i h; subst h
      simp only [ml]
      by_cases h : a = k'
      · simp [h]
      · simp only [h, if_false, Ne.symm h]
    · rename_i h
      simp only [ml, ih]
      by_cases h1 : a = k'
      · subst h1; simp [h]
      · simp [h1]
theorem keys_mput (l : List (κ × Value)) (k : κ) (v : Value) : (mput l k v).map (·.1) = if k ∈ l.map (·.1) then l.map (·.1) else l.map (·.1) ++ [k] := by
  induction l with
  | nil => simp [mput]
  | cons p r ih =>
    obtain ⟨a, u⟩ := p
    simp only [mput]
    split
    · rename_i h; subst h; simp
    · rename_i h
      simp only [List.map_cons, ih]
      split
      · rename_i h2; simp [h2]
      · rename_i h2; simp [h2, Ne.symm h]
theorem mem_keys_mput (l : List (κ × Value)) (k k' : κ) (v : Value) : k' ∈ (mput l k v).map (·.1) ↔ k' = k ∨ k' ∈ l.map (·.1) := by
  rw [keys_mput]
  split
  · rename_i h
    constructor
    · exact .inr
    · rintro (rfl | h') <;> assumption
  · simp [or_comm]
theorem nodup_mput {l : List (κ × Value)} (h : (l.map (·.1)).Nodup) (k : κ) (v : Value) : ((mput l k v).map (·.1)).Nodup := by
  rw [keys_mput]
  split
  · exact h
  · rename_i hk
    rw [List.nodup_append]
    exact ⟨h, by simp, fun a ha b hb => by simp at hb; subst hb; rintro rfl; exact hk ha⟩
theorem ml_none {l : List (κ × Value)} {k : κ} : ml l k = none ↔ k ∉ l.map (·.1) := by
  induction l with
  | nil => simp [ml]
  | cons p r ih =>
    obtain ⟨a, u⟩ := p
    simp only [ml]
    split
    · rename_i h; simp [h]
    · rename_i h; simp only [ih, List.map_cons, List.mem_cons, Ne.symm h, false_or]
/-- How keys of a type are found. -/
structure KL (P : Program) (kt : TypeId) (kf : κ → Value) : Prop where
  check : ∀ b k w, (Instr.checkKey b 10000 kt (kf k)).run P w = .ok () w
  find : ∀ k (l : List MapEntry) (ks : List κ) w, l.map (·.key) = ks.map kf → (Instr.findKey kt (kf k) l).run P w = .ok ((ix ks k).bind fun i => (l[i]?).map fun e => (i, e.val)) w
  stay : ∀ k w, (Instr.keyThatStays (kf k) (kf k)).run P w = .ok (kf k) w

omit [DecidableEq κ] in
theorem findNow_eq {kind : TypeDesc} {kf : κ → Value} [DecidableEq κ] (hs : ∀ a b, Instr.sameNow kind (kf a) (kf b) = some (decide (a = b))) (k : κ) : ∀ (l : List MapEntry) (ks : List κ) (i : Nat), l.map (·.key) = ks.map kf →
    Instr.findNow kind (kf k) l i = some ((ix ks k).bind fun j => (l[j]?).map fun e => (i + j, e.val))
  | [], ks, i, h => by
    have : ks = [] := by simpa using h.symm
    subst this
    simp [Instr.findNow, ix]
  | e :: l, ks, i, h => by
    cases ks with
    | nil => simp at h
    | cons a ks =>
      simp only [List.map_cons, List.cons.injEq] at h
      unfold Instr.findNow
      rw [h.1, hs]
      by_cases hk : k = a
      · subst hk; simp [ix]
      · simp only [hk, decide_false]
        rw [findNow_eq hs k l ks (i + 1) h.2]
        simp only [ix, Ne.symm hk, if_false, Option.bind_map]
        congr 1
        cases ix ks k with
        | none => rfl
        | some j => simp [show i + 1 + j = i + (j + 1) from by omega]
end

theorem kl_string {P : Program} {kt : TypeId} {z : Value} {s b : Nat} (ht : tiOf P kt = some ⟨.string, z, s, b⟩) : KL P kt Value.string where
  check b k w := by
    have h : ∀ n, (Instr.checkKey b (n + 1) kt (Value.string k)).run P w = .ok () w := fun n => by
      simp only [Instr.checkKey, Sem.run_bind, run_underlying (tk_string ht), Result.andThen_ok, run_pure']
    exact h 9999
  find k l ks w h := by
    have hs : ∀ a b : ByteArray, Instr.sameNow .string (.string a) (.string b) = some (decide (a = b)) := fun a b => by
      simp only [Instr.sameNow, Option.some.injEq]
      by_cases hab : a = b
      · rw [decide_eq_true hab]; exact (Go.MapKept.bytes_beq a b).2 hab
      · rw [decide_eq_false hab, Bool.eq_false_iff]; exact fun h => hab ((Go.MapKept.bytes_beq a b).1 h)
    simp only [Instr.findKey, Sem.run_bind, run_underlying (tk_string ht), Result.andThen_ok, findNow_eq hs k l ks 0 h, run_pure', Nat.zero_add]
  stay k w := by
    have h : Instr.sameBits 10000 (Value.string k) (Value.string k) = true := by
      have h : ∀ n, Instr.sameBits n (Value.string k) (Value.string k) = true := fun n => by
        cases n <;> (simp only [Instr.sameBits]; exact (Go.MapKept.bytes_beq k k).2 rfl)
      exact h 10000
    simp only [Instr.keyThatStays, h, if_true, run_pure']

theorem run_getObj {P : Program} {w : World} {r : Nat} {o : Obj} (h : w.heap[r]? = some o) (hc : ∀ c e f, o ≠ .cells c e f) : (getObj r).run P w = .ok o w := by
  cases o <;> first | exact absurd rfl (hc _ _ _) | (simp [getObj, Sem.run, h]; done)
theorem run_setObj {P : Program} {w : World} {r : Nat} {o : Obj} (h : w.heap[r]? = some o) (hc : ∀ c e f, o ≠ .cells c e f) (o' : Obj) : (setObj r o').run P w = .ok () { w with heap := w.heap.setIfInBounds r o' } := by
  cases o <;> first | exact absurd rfl (hc _ _ _) | (simp [setObj, Sem.run, h]; done)

section
variable {κ : Type} [DecidableEq κ] {kf : κ → Value} {kv : List (κ × Value)} {es : Array MapEntry} {clock : Nat}

theorem MapIs.keys (M : MapIs kf kv es clock) : es.toList.map (·.key) = (kv.map (·.1)).map kf := by
  have := congrArg (List.map Prod.fst) M.ents
  simp only [List.map_map] at this ⊢
  exact this
theorem MapIs.vals (M : MapIs kf kv es clock) : es.toList.map (·.val) = kv.map (·.2) := by
  have := congrArg (List.map Prod.snd) M.ents
  simp only [List.map_map] at this
  exact this

theorem ix_ml (l : List (κ × Value)) (k : κ) : (ix (l.map (·.1)) k).bind (fun i => (l.map (·.2))[i]?) = ml l k := by
  induction l with
  | nil => rfl
  | cons p r ih =>
    obtain ⟨a, v⟩ := p
    simp only [List.map_cons, ix, ml]
    split
    · simp
    · rw [← ih]
      simp only [Option.bind_map]
      rfl

theorem MapIs.find_val {P : Program} {kt : TypeId} (K : KL P kt kf) (M : MapIs kf kv es clock) (k : κ) (w : World) :
    ∃ r, (Instr.findKey kt (kf k) es.toList).run P w = .ok r w ∧ r.map (·.2) = ml kv k ∧ (∀ i v, r = some (i, v) → ix (kv.map (·.1)) k = some i ∧ i < es.toList.length) ∧ (r = none → ix (kv.map (·.1)) k = none) := by
  refine ⟨_, K.find k es.toList (kv.map (·.1)) w M.keys, ?_, ?_, ?_⟩
  · rw [← ix_ml kv k, ← M.vals]
    cases ix (kv.map (·.1)) k with
    | none => rfl
    | some i =>
      simp only [Option.bind_some, List.getElem?_map, Option.map_map]
      rfl
  · intro i v h
    cases h1 : ix (kv.map (·.1)) k with
    | none => rw [h1] at h; simp at h
    | some j =>
      rw [h1] at h
      simp only [Option.bind_some, Option.map_eq_some_iff, Prod.mk.injEq] at h
      obtain ⟨e, he, rfl, _⟩ := h
      exact ⟨rfl, (List.getElem?_eq_some_iff.1 he).1⟩
  · intro h
    cases h1 : ix (kv.map (·.1)) k with
    | none => rfl
    | some j =>
      rw [h1] at h
      have hj := ix_some h1
      have hl : es.toList.length = kv.length := by simpa using congrArg List.length M.ents
      have hlt : j < kv.length := by simpa using (List.getElem?_eq_some_iff.1 hj).1
      simp only [Option.bind_some, List.getElem?_eq_getElem (show j < es.toList.length from by omega), Option.map_some] at h
      cases h

theorem run_lookup {P : Program} {t kt et : TypeId} {z : Value} {s b : Nat} {te : Ti} (ht : tiOf P t = some ⟨.map kt et, z, s, b⟩) (hte : tiOf P et = some te) (K : KL P kt kf) (M : MapIs kf kv es clock) {r : Nat} {w : World} (hr : w.heap[r]? = some (.map es clock)) (k : κ) (ok : Bool) :
    (Instr.lookup t (.map (some r)) (kf k) ok).run P w = .ok (if ok then .tuple #[(ml kv k).getD te.z, .bool (ml kv k).isSome] else (ml kv k).getD te.z) w := by
  have hg := run_getObj (P := P) hr (by intro c e f h; cases h)
  obtain ⟨q, hq, hv, _, _⟩ := M.find_val K k w
  simp only [Instr.lookup, Sem.run_bind, run_underlying (tk_map ht), Result.andThen_ok, hg, run_pure', K.check, hq]
  cases q with
  | none =>
    simp only [Option.map_none] at hv
    rw [← hv]
    cases ok <;> simp [run_zeroValue hte, run_pure']
  | some x =>
    obtain ⟨i, v⟩ := x
    simp only [Option.map_some] at hv
    rw [← hv]
    cases ok <;> simp [run_pure']

theorem run_mapUpdate {P : Program} {t kt et : TypeId} {z : Value} {s b : Nat} (ht : tiOf P t = some ⟨.map kt et, z, s, b⟩) (K : KL P kt kf) (M : MapIs kf kv es clock) {r : Nat} {w : World} (hr : w.heap[r]? = some (.map es clock)) (k : κ) (v : Value) :
    ∃ es' clock', (Instr.mapUpdate t (.map (some r)) (kf k) v).run P w = .ok () { w with heap := w.heap.setIfInBounds r (.map es' clock') } ∧ MapIs kf (mput kv k v) es' clock' := by
  have hg := run_getObj (P := P) hr (by intro c e f h; cases h)
  have hs := fun o' => run_setObj (P := P) hr (by intro c e f h; cases h) o'
  obtain ⟨q, hq, hv, h1, h2⟩ := M.find_val K k w
  cases q with
  | none =>
    have hix := h2 rfl
    have hnot := ix_none.1 hix
    refine ⟨es.push { key := kf k, val := v, born := clock }, clock + 1, ?_, ?_⟩
    · simp only [Instr.mapUpdate, Sem.run_bind, run_underlying (tk_map ht), Result.andThen_ok, hg, K.check, hq, hs]
    · have hput : mput kv k v = kv ++ [(k, v)] := by
        clear hq hv h1 h2 M hr hg hs
        induction kv with
        | nil => rfl
        | cons p l ih =>
          obtain ⟨a, u⟩ := p
          simp only [List.map_cons, List.mem_cons, not_or] at hnot
          simp only [mput, Ne.symm hnot.1, if_false, List.cons_append]
          rw [ih (ix_none.2 hnot.2) hnot.2]
      refine ⟨?_, nodup_mput M.nodup k v, ?_, ?_⟩
      · rw [hput, Array.toList_push, List.map_append, M.ents]; simp
      · rw [Array.toList_push, List.map_append, List.nodup_append]
        refine ⟨M.bn, by simp, fun a ha c hc => ?_⟩
        simp only [List.map_cons, List.map_nil, List.mem_singleton] at hc
        subst hc
        obtain ⟨e, he, rfl⟩ := List.mem_map.1 ha
        have := M.lt e he
        omega
      · intro e he
        rw [Array.toList_push] at he
        rcases List.mem_append.1 he with he | he
        · have := M.lt e he; omega
        · simp at he; subst he; exact Nat.lt_succ_self _
  | some x =>
    obtain ⟨i, u⟩ := x
    obtain ⟨hix, hlt⟩ := h1 i u rfl
    have hkey : ((es[i]?).map (·.key)).getD (kf k) = kf k := by
      have hi := ix_some hix
      have hk2 := congrArg (·[i]?) M.keys
      simp only [List.getElem?_map] at hk2 hi
      have hlt' : i < es.size := by simpa using hlt
      simp only [Array.getElem?_toList, Array.getElem?_eq_getElem hlt', Option.map_some] at hk2
      rw [Array.getElem?_eq_getElem hlt']
      simp only [Option.map_some, Option.getD_some]
      rw [hi] at hk2
      simpa using hk2
    refine ⟨es.modify i fun e => { e with key := kf k, val := v }, clock, ?_, ?_⟩
    · simp only [Instr.mapUpdate, Sem.run_bind, run_underlying (tk_map ht), Result.andThen_ok, hg, K.check, hq, hkey, K.stay, hs]
    · have hlist : (es.modify i fun e => { e with key := kf k, val := v }).toList = es.toList.modify i (fun e => { e with key := kf k, val := v }) := by simp
      refine ⟨?_, nodup_mput M.nodup k v, ?_, ?_⟩
      · rw [hlist]
        have key : ∀ (l : List MapEntry) (m : List (κ × Value)) (i : Nat), l.map (fun e => (e.key, e.val)) = m.map (fun p => (kf p.1, p.2)) → ix (m.map (·.1)) k = some i →
            (l.modify i (fun e => { e with key := kf k, val := v })).map (fun e => (e.key, e.val)) = (mput m k v).map (fun p => (kf p.1, p.2)) := by
          intro l
          induction l with
          | nil =>
            intro m i h1 h2
            have : m = [] := by simpa using h1.symm
            subst this; simp [ix] at h2
          | cons e l ih =>
            intro m i h1 h2
            cases m with
            | nil => simp at h1
            | cons p m =>
              obtain ⟨a, u⟩ := p
              simp only [List.map_cons, List.cons.injEq, Prod.mk.injEq] at h1
              simp only [List.map_cons, ix] at h2
              by_cases ha : a = k
              · simp only [ha, if_true, Option.some.injEq] at h2
                subst h2
                simp only [List.modify_zero_cons, List.map_cons, mput, ha, if_true, h1.2]
              · simp only [ha, if_false, Option.map_eq_some_iff] at h2
                obtain ⟨j, hj, rfl⟩ := h2
                simp only [List.modify_succ_cons, List.map_cons, mput, ha, if_false, ih m j h1.2 hj, h1.1]
        exact key es.toList kv i M.ents hix
      · rw [hlist]
        have : ∀ (l : List MapEntry) (i : Nat), (l.modify i (fun e => { e with key := kf k, val := v })).map (·.born) = l.map (·.born) := by
          intro l
          induction l with
          | nil => intro i; simp
          | cons e l ih => intro i; cases i <;> simp [ih]
        rw [this]; exact M.bn
      · intro e he
        rw [hlist] at he
        have : ∀ (l : List MapEntry) (i : Nat) (e : MapEntry), e ∈ l.modify i (fun e => { e with key := kf k, val := v }) → ∃ e' ∈ l, e'.born = e.born := by
          intro l
          induction l with
          | nil => intro i e h; simp at h
          | cons x l ih =>
            intro i e h
            cases i with
            | zero =>
              simp only [List.modify_zero_cons, List.mem_cons] at h
              rcases h with rfl | h
              · exact ⟨x, List.mem_cons_self, rfl⟩
              · exact ⟨e, List.mem_cons_of_mem _ h, rfl⟩
            | succ i =>
              simp only [List.modify_succ_cons, List.mem_cons] at h
              rcases h with rfl | h
              · exact ⟨_, List.mem_cons_self, rfl⟩
              · obtain ⟨e', h1, h2⟩ := ih i e h
                exact ⟨e', List.mem_cons_of_mem _ h1, h2⟩
        obtain ⟨e', h1, h2⟩ := this _ _ _ he
        have := M.lt e' h1
        omega
end

section
variable {X : Cx} {ops : Array Oper} {Q : Post} {rest : List Oper} {L : LT} {R : RL} {d : Nat} {x y q : Operand} {t ty : TypeId} {p : String} {af : Array Edge} {v : Value}
variable {κ : Type} [DecidableEq κ] {kf : κ → Value} {kv : List (κ × Value)} {es : Array MapEntry} {clock : Nat}

omit [DecidableEq κ] in
theorem mapIs_nil (kf : κ → Value) (clock : Nat) : MapIs kf [] #[] clock := ⟨rfl, List.nodup_nil, List.nodup_nil, fun _ h => by cases h⟩

theorem g_mkmap (hN : Nat.blt d X.N = true) (k : ∀ r, G X ops Q rest ((d, .map (some r)) :: L) ([(r, .map #[] 0)] :: R)) :
    G X ops Q (⟨some d, .makeMap t none, ty, p, af, none⟩ :: rest) L R :=
  g_run (Y := Nat) (fun r => .map (some r)) (fun r => [(r, .map #[] 0)] :: R) (fun _ => True) rfl rfl hN (by intro c h; cases h)
    (fun a w ha hE => ⟨w.heap.size, w.alloc (.map #[] 0), by
      simp only [execOp, Option.map_none, Instr.makeMap, newObj, Sem.run_bind, Sem.run, run_pure', Result.andThen_ok]
      rfl, hp_alloc hE _, trivial⟩) (fun b _ => k b)

/-- m[k]. -/
theorem g_look (i : Nat) {r : Nat} {k : κ} {kt et : TypeId} {z : Value} {s b : Nat} {te : Ti} (hR : R[i]? = some [(r, .map es clock)]) (hx : ev L x = some (.map (some r))) (hy : ev L y = some (kf k)) (ht : tl X.s.tab t = some ⟨.map kt et, z, s, b⟩) (hte : tl X.s.tab et = some te)
    (K : KL X.s.P kt kf) (M : MapIs kf kv es clock) (hN : Nat.blt d X.N = true) (k' : G X ops Q rest ((d, (ml kv k).getD te.z) :: L) R) :
    G X ops Q (⟨some d, .lookup t x y false, ty, p, af, none⟩ :: rest) L R :=
  g_run (Y := Unit) (fun _ => (ml kv k).getD te.z) (fun _ => R) (fun _ => True) rfl rfl hN (by intro c h; cases h)
    (fun a w ha hE => ⟨(), w, by
      have hr := run_lookup (X.s.ok.at ht) (X.s.ok.at hte) K M (hp_cellA hE hR) k false
      simp only [execOp]
      rw [ha.kn.ev hx, ha.kn.ev hy, Sem.run_bind, hr]; rfl, hE, trivial⟩) (fun _ _ => k')
/-- m[k] = v. -/
theorem g_upd (i : Nat) {r : Nat} {k : κ} {kt et : TypeId} {z : Value} {s b : Nat} (hR : R[i]? = some [(r, .map es clock)]) (hx : ev L x = some (.map (some r))) (hy : ev L y = some (kf k)) (hq : ev L q = some v) (ht : tl X.s.tab t = some ⟨.map kt et, z, s, b⟩)
    (K : KL X.s.P kt kf) (M : MapIs kf kv es clock) (k' : ∀ es' clock', MapIs kf (mput kv k v) es' clock' → G X ops Q rest L (R.set i [(r, .map es' clock')])) :
    G X ops Q (⟨none, .mapUpdate t x y q, ty, p, af, none⟩ :: rest) L R :=
  g_runU (Y := Array MapEntry × Nat) (fun m => R.set i [(r, .map m.1 m.2)]) (fun m => MapIs kf (mput kv k v) m.1 m.2) rfl rfl (by intro c h; cases h)
    (fun a w ha hE => by
      have hb := hp_cellA hE hR
      obtain ⟨es', clock', hr, M'⟩ := run_mapUpdate (X.s.ok.at ht) K M hb k v
      refine ⟨(es', clock'), _, .inl ?_, hp_front i hR hE (Eff.setObj hb), M'⟩
      simp only [execOp]
      rw [ha.kn.ev hx, ha.kn.ev hy, ha.kn.ev hq, Sem.run_bind, hr]; rfl) (fun m hm => k' m.1 m.2 hm)

/-! ### Going through a map that stays as it is -/
omit [DecidableEq κ] in
/-- What has been gone through: a list of entries. -/
structure Gone (es : Array MapEntry) (done : List MapEntry) : Prop where
  sub : ∀ e, e ∈ done → e ∈ es.toList
  nodup : (done.map (·.born)).Nodup

theorem Gone.all {es : Array MapEntry} {done : List MapEntry} (h : Gone es done) (hb : (es.toList.map (·.born)).Nodup) (hall : ∀ e, e ∈ es.toList → e.born ∈ done.map (·.born)) : done.Perm es.toList := by
  have inj : ∀ e e', e ∈ es.toList → e' ∈ es.toList → e.born = e'.born → e = e' := by
    generalize es.toList = l at hb
    induction l with
    | nil => intro e e' h; cases h
    | cons x l ih =>
      simp only [List.map_cons, List.nodup_cons] at hb
      intro e e' h1 h2 h3
      rcases List.mem_cons.1 h1 with h1' | h1' <;> rcases List.mem_cons.1 h2 with h2' | h2'
      · rw [h1', h2']
      · exact absurd (List.mem_map.2 ⟨e', h2', by rw [← h3, h1']⟩) hb.1
      · exact absurd (List.mem_map.2 ⟨e, h1', by rw [h3, h2']⟩) hb.1
      · exact ih hb.2 _ _ h1' h2' h3
  have nd : ∀ l : List MapEntry, (l.map (·.born)).Nodup → l.Nodup := fun l hl => by
    induction l with
    | nil => exact List.nodup_nil
    | cons x l ih =>
      simp only [List.map_cons, List.nodup_cons] at hl ⊢
      exact ⟨fun hx => hl.1 (List.mem_map.2 ⟨x, hx, rfl⟩), ih hl.2⟩
  refine (List.perm_ext_iff_of_nodup (nd _ h.nodup) (nd _ hb)).2 fun e => ⟨h.sub e, fun he => ?_⟩
  obtain ⟨e', h1, h2⟩ := List.mem_map.1 (hall e he)
  rw [inj e e' he (h.sub e' h1) h2.symm]
  exact h1

end
end Go.Wk

/- The types of this translation, as a table; the kernel holds it against the program's own. -/
namespace Go.Proofs.YtpohhfggmaihpaaGreatDoor
open Go.Wk
def Tryz.tab : List (Nat × Ti) := [
  (1, ⟨.func, .nilFunc, 1, 8⟩),
  (2, ⟨.int .i64, .int .i64 0, 1, 8⟩),
  (3, ⟨.int .i64, .int .i64 0, 1, 8⟩),
  (4, ⟨.bool, .bool false, 1, 1⟩),
  (5, ⟨.int .u8, .int .u8 0, 1, 1⟩),
  (6, ⟨.int .u8, .int .u8 0, 1, 1⟩),
  (7, ⟨.struct [(0, 2), (1, 3), (2, 4), (3, 6)], .agg #[.int .i64 0, .int .i64 0, .bool false, .int .u8 0], 4, 24⟩),
  (8, ⟨.struct [(0, 2), (1, 3), (2, 4), (3, 6)], .agg #[.int .i64 0, .int .i64 0, .bool false, .int .u8 0], 4, 24⟩),
  (9, ⟨.string, .string ⟨#[]⟩, 1, 16⟩),
  (10, ⟨.string, .string ⟨#[]⟩, 1, 16⟩),
  (11, ⟨.string, .string ⟨#[]⟩, 1, 16⟩),
  (12, ⟨.int .u64, .int .u64 0, 1, 8⟩),
  (13, ⟨.struct [(0, 9), (1, 12)], .agg #[.string ⟨#[]⟩, .int .u64 0], 2, 24⟩),
  (14, ⟨.struct [(0, 9), (1, 12)], .agg #[.string ⟨#[]⟩, .int .u64 0], 2, 24⟩),
  (15, ⟨.pointer 227, .pointer none, 1, 8⟩),
  (16, ⟨.pointer 230, .pointer none, 1, 8⟩),
  (17, ⟨.pointer 237, .pointer none, 1, 8⟩),
  (18, ⟨.struct [(0, 17)], .agg #[.pointer none], 1, 8⟩),
  (19, ⟨.struct [(0, 17)], .agg #[.pointer none], 1, 8⟩),
  (20, ⟨.iface, .nilIface, 1, 16⟩),
  (21, ⟨.int .i32, .int .i32 0, 1, 4⟩),
  (22, ⟨.slice 66, .slice none 0 0, 1, 24⟩),
  (23, ⟨.slice 32, .slice none 0 0, 1, 24⟩),
  (24, ⟨.struct [(0, 22), (1, 23), (2, 3)], .agg #[.slice none 0 0, .slice none 0 0, .int .i64 0], 3, 56⟩),
  (25, ⟨.struct [(0, 22), (1, 23), (2, 3)], .agg #[.slice none 0 0, .slice none 0 0, .int .i64 0], 3, 56⟩),
  (26, ⟨.int .i64, .int .i64 0, 1, 8⟩),
  (27, ⟨.func, .nilFunc, 1, 8⟩),
  (28, ⟨.func, .nilFunc, 1, 8⟩),
  (29, ⟨.slice 90, .slice none 0 0, 1, 24⟩),
  (30, ⟨.slice 43, .slice none 0 0, 1, 24⟩),
  (31, ⟨.struct [(0, 9), (1, 3), (2, 3), (3, 4), (4, 29), (5, 30)], .agg #[.string ⟨#[]⟩, .int .i64 0, .int .i64 0, .bool false, .slice none 0 0, .slice none 0 0], 6, 88⟩),
  (32, ⟨.struct [(0, 9), (1, 3), (2, 3), (3, 4), (4, 29), (5, 30)], .agg #[.string ⟨#[]⟩, .int .i64 0, .int .i64 0, .bool false, .slice none 0 0, .slice none 0 0], 6, 88⟩),
  (33, ⟨.slice 3, .slice none 0 0, 1, 24⟩),
  (34, ⟨.func, .nilFunc, 1, 8⟩),
  (35, ⟨.int .i64, .int .i64 0, 1, 8⟩),
  (36, ⟨.int .i64, .int .i64 0, 1, 8⟩),
  (37, ⟨.int .i64, .int .i64 0, 1, 8⟩),
  (38, ⟨.int .u32, .int .u32 0, 1, 4⟩),
  (39, ⟨.struct [(0, 37), (1, 38)], .agg #[.int .i64 0, .int .u32 0], 2, 16⟩),
  (40, ⟨.struct [(0, 37), (1, 38)], .agg #[.int .i64 0, .int .u32 0], 2, 16⟩),
  (41, ⟨.slice 40, .slice none 0 0, 1, 24⟩),
  (42, ⟨.struct [(0, 35), (1, 36), (2, 3), (3, 40), (5, 40), (7, 3), (8, 3), (9, 3), (10, 4), (11, 41)], .agg #[.int .i64 0, .int .i64 0, .int .i64 0, .int .i64 0, .int .u32 0, .int .i64 0, .int .u32 0, .int .i64 0, .int .i64 0, .int .i64 0, .bool false, .slice none 0 0], 12, 112⟩),
  (43, ⟨.struct [(0, 35), (1, 36), (2, 3), (3, 40), (5, 40), (7, 3), (8, 3), (9, 3), (10, 4), (11, 41)], .agg #[.int .i64 0, .int .i64 0, .int .i64 0, .int .i64 0, .int .u32 0, .int .i64 0, .int .u32 0, .int .i64 0, .int .i64 0, .int .i64 0, .bool false, .slice none 0 0], 12, 112⟩),
  (44, ⟨.func, .nilFunc, 1, 8⟩),
  (45, ⟨.func, .nilFunc, 1, 8⟩),
  (46, ⟨.func, .nilFunc, 1, 8⟩),
  (47, ⟨.func, .nilFunc, 1, 8⟩),
  (48, ⟨.func, .nilFunc, 1, 8⟩),
  (49, ⟨.func, .nilFunc, 1, 8⟩),
  (50, ⟨.func, .nilFunc, 1, 8⟩),
  (51, ⟨.func, .nilFunc, 1, 8⟩),
  (53, ⟨.func, .nilFunc, 1, 8⟩),
  (55, ⟨.func, .nilFunc, 1, 8⟩),
  (57, ⟨.func, .nilFunc, 1, 8⟩),
  (58, ⟨.struct [(0, 25), (3, 32)], .agg #[.slice none 0 0, .slice none 0 0, .int .i64 0, .string ⟨#[]⟩, .int .i64 0, .int .i64 0, .bool false, .slice none 0 0, .slice none 0 0], 9, 144⟩),
  (59, ⟨.struct [(0, 25), (3, 32)], .agg #[.slice none 0 0, .slice none 0 0, .int .i64 0, .string ⟨#[]⟩, .int .i64 0, .int .i64 0, .bool false, .slice none 0 0, .slice none 0 0], 9, 144⟩),
  (60, ⟨.func, .nilFunc, 1, 8⟩),
  (61, ⟨.slice 5, .slice none 0 0, 1, 24⟩),
  (62, ⟨.slice 78, .slice none 0 0, 1, 24⟩),
  (63, ⟨.struct [(0, 61), (1, 62)], .agg #[.slice none 0 0, .slice none 0 0], 2, 48⟩),
  (64, ⟨.struct [(0, 61), (1, 62)], .agg #[.slice none 0 0, .slice none 0 0], 2, 48⟩),
  (65, ⟨.struct [(0, 9), (1, 3), (2, 3), (3, 64)], .agg #[.string ⟨#[]⟩, .int .i64 0, .int .i64 0, .slice none 0 0, .slice none 0 0], 5, 80⟩),
  (66, ⟨.struct [(0, 9), (1, 3), (2, 3), (3, 64)], .agg #[.string ⟨#[]⟩, .int .i64 0, .int .i64 0, .slice none 0 0, .slice none 0 0], 5, 80⟩),
  (67, ⟨.func, .nilFunc, 1, 8⟩),
  (68, ⟨.map 9 3, .map none, 1, 8⟩),
  (69, ⟨.func, .nilFunc, 1, 8⟩),
  (70, ⟨.func, .nilFunc, 1, 8⟩),
  (71, ⟨.func, .nilFunc, 1, 8⟩),
  (72, ⟨.func, .nilFunc, 1, 8⟩),
  (73, ⟨.func, .nilFunc, 1, 8⟩),
  (74, ⟨.func, .nilFunc, 1, 8⟩),
  (75, ⟨.func, .nilFunc, 1, 8⟩),
  (76, ⟨.func, .nilFunc, 1, 8⟩),
  (77, ⟨.struct [(0, 3), (1, 3), (2, 3)], .agg #[.int .i64 0, .int .i64 0, .int .i64 0], 3, 24⟩),
  (78, ⟨.struct [(0, 3), (1, 3), (2, 3)], .agg #[.int .i64 0, .int .i64 0, .int .i64 0], 3, 24⟩),
  (79, ⟨.func, .nilFunc, 1, 8⟩),
  (80, ⟨.pointer 82, .pointer none, 1, 8⟩),
  (81, ⟨.struct [(0, 80), (1, 61)], .agg #[.pointer none, .slice none 0 0], 2, 32⟩),
  (82, ⟨.struct [(0, 80), (1, 61)], .agg #[.pointer none, .slice none 0 0], 2, 32⟩),
  (83, ⟨.struct [(0, 82)], .agg #[.pointer none, .slice none 0 0], 2, 32⟩),
  (84, ⟨.struct [(0, 82)], .agg #[.pointer none, .slice none 0 0], 2, 32⟩),
  (85, ⟨.func, .nilFunc, 1, 8⟩),
  (86, ⟨.func, .nilFunc, 1, 8⟩),
  (87, ⟨.func, .nilFunc, 1, 8⟩),
  (88, ⟨.slice 9, .slice none 0 0, 1, 24⟩),
  (89, ⟨.struct [(0, 3), (1, 3)], .agg #[.int .i64 0, .int .i64 0], 2, 16⟩),
  (90, ⟨.struct [(0, 3), (1, 3)], .agg #[.int .i64 0, .int .i64 0], 2, 16⟩),
  (91, ⟨.func, .nilFunc, 1, 8⟩),
  (92, ⟨.func, .nilFunc, 1, 8⟩),
  (93, ⟨.func, .nilFunc, 1, 8⟩),
  (95, ⟨.func, .nilFunc, 1, 8⟩),
  (97, ⟨.func, .nilFunc, 1, 8⟩),
  (98, ⟨.func, .nilFunc, 1, 8⟩),
  (99, ⟨.func, .nilFunc, 1, 8⟩),
  (100, ⟨.func, .nilFunc, 1, 8⟩),
  (101, ⟨.func, .nilFunc, 1, 8⟩),
  (102, ⟨.func, .nilFunc, 1, 8⟩),
  (103, ⟨.func, .nilFunc, 1, 8⟩),
  (104, ⟨.func, .nilFunc, 1, 8⟩),
  (105, ⟨.int .u64, .int .u64 0, 1, 8⟩),
  (106, ⟨.func, .nilFunc, 1, 8⟩),
  (107, ⟨.func, .nilFunc, 1, 8⟩),
  (108, ⟨.pointer 84, .pointer none, 1, 8⟩),
  (109, ⟨.iface, .nilIface, 1, 16⟩),
  (110, ⟨.iface, .nilIface, 1, 16⟩),
  (112, ⟨.func, .nilFunc, 1, 8⟩),
  (113, ⟨.func, .nilFunc, 1, 8⟩),
  (114, ⟨.func, .nilFunc, 1, 8⟩),
  (115, ⟨.func, .nilFunc, 1, 8⟩),
  (116, ⟨.pointer 5, .pointer none, 1, 8⟩),
  (117, ⟨.func, .nilFunc, 1, 8⟩),
  (118, ⟨.struct [], .agg #[], 0, 0⟩),
  (119, ⟨.struct [], .agg #[], 0, 0⟩),
  (120, ⟨.func, .nilFunc, 1, 8⟩),
  (121, ⟨.func, .nilFunc, 1, 8⟩),
  (122, ⟨.func, .nilFunc, 1, 8⟩),
  (123, ⟨.pointer 127, .pointer none, 1, 8⟩),
  (124, ⟨.func, .nilFunc, 1, 8⟩),
  (125, ⟨.func, .nilFunc, 1, 8⟩),
  (126, ⟨.struct [(0, 88)], .agg #[.slice none 0 0], 1, 24⟩),
  (127, ⟨.struct [(0, 88)], .agg #[.slice none 0 0], 1, 24⟩),
  (128, ⟨.func, .nilFunc, 1, 8⟩),
  (129, ⟨.func, .nilFunc, 1, 8⟩),
  (130, ⟨.pointer 64, .pointer none, 1, 8⟩),
  (131, ⟨.pointer 32, .pointer none, 1, 8⟩),
  (132, ⟨.func, .nilFunc, 1, 8⟩),
  (134, ⟨.func, .nilFunc, 1, 8⟩),
  (135, ⟨.func, .nilFunc, 1, 8⟩),
  (136, ⟨.func, .nilFunc, 1, 8⟩),
  (137, ⟨.func, .nilFunc, 1, 8⟩),
  (138, ⟨.func, .nilFunc, 1, 8⟩),
  (139, ⟨.int .i64, .int .i64 0, 1, 8⟩),
  (141, ⟨.func, .nilFunc, 1, 8⟩),
  (142, ⟨.func, .nilFunc, 1, 8⟩),
  (143, ⟨.func, .nilFunc, 1, 8⟩),
  (145, ⟨.func, .nilFunc, 1, 8⟩),
  (146, ⟨.func, .nilFunc, 1, 8⟩),
  (147, ⟨.func, .nilFunc, 1, 8⟩),
  (148, ⟨.int .u64, .int .u64 0, 1, 8⟩),
  (149, ⟨.func, .nilFunc, 1, 8⟩),
  (150, ⟨.func, .nilFunc, 1, 8⟩),
  (151, ⟨.func, .nilFunc, 1, 8⟩),
  (152, ⟨.func, .nilFunc, 1, 8⟩),
  (153, ⟨.func, .nilFunc, 1, 8⟩),
  (154, ⟨.array 19 9, .agg #[.string ⟨#[]⟩, .string ⟨#[]⟩, .string ⟨#[]⟩, .string ⟨#[]⟩, .string ⟨#[]⟩, .string ⟨#[]⟩, .string ⟨#[]⟩, .string ⟨#[]⟩, .string ⟨#[]⟩, .string ⟨#[]⟩, .string ⟨#[]⟩, .string ⟨#[]⟩, .string ⟨#[]⟩, .string ⟨#[]⟩, .string ⟨#[]⟩, .string ⟨#[]⟩, .string ⟨#[]⟩, .string ⟨#[]⟩, .string ⟨#[]⟩], 19, 304⟩),
  (155, ⟨.func, .nilFunc, 1, 8⟩),
  (156, ⟨.func, .nilFunc, 1, 8⟩),
  (157, ⟨.func, .nilFunc, 1, 8⟩),
  (159, ⟨.map 9 36, .map none, 1, 8⟩),
  (160, ⟨.func, .nilFunc, 1, 8⟩),
  (161, ⟨.func, .nilFunc, 1, 8⟩),
  (162, ⟨.array 256 4, .agg #[.bool false, .bool false, .bool false, .bool false, .bool false, .bool false, .bool false, .bool false, .bool false, .bool false, .bool false, .bool false, .bool false, .bool false, .bool false, .bool false, .bool false, .bool false, .bool false, .bool false, .bool false, .bool false, .bool false, .bool false, .bool false, .bool false, .bool false, .bool false, .bool false, .bool false, .bool false, .bool false, .bool false, .bool false, .bool false, .bool false, .bool false, .bool false, .bool false, .bool false, .bool false, .bool false, .bool false, .bool false, .bool false, .bool false, .bool false, .bool false, .bool false, .bool false, .bool false, .bool false, .bool false, .bool false, .bool false, .bool false, .bool false, .bool false, .bool false, .bool false, .bool false, .bool false, .bool false, .bool false, .bool false, .bool false, .bool false, .bool false, .bool false, .bool false, .bool false, .bool false, .bool false, .bool false, .bool false, .bool false, .bool false, .bool false, .bool false, .bool false, .bool false, .bool false, .bool false, .bool false, .bool false, .bool false, .bool false, .bool false, .bool false, .bool false, .bool false, .bool false, .bool false, .bool false, .bool false, .bool false, .bool false, .bool false, .bool false, .bool false, .bool false, .bool false, .bool false, .bool false, .bool false, .bool false, .bool false, .bool false, .bool false, .bool false, .bool false, .bool false, .bool false, .bool false, .bool false, .bool false, .bool false, .bool false, .bool false, .bool false, .bool false, .bool false, .bool false, .bool false, .bool false, .bool false, .bool false, .bool false, .bool false, .bool false, .bool false, .bool false, .bool false, .bool false, .bool false, .bool false, .bool false, .bool false, .bool false, .bool false, .bool false, .bool false, .bool false, .bool false, .bool false, .bool false, .bool false, .bool false, .bool false, .bool false, .bool false, .bool false, .bool false, .bool false, .bool false, .bool false, .bool false, .bool false, .bool false, .bool false, .bool false, .bool false, .bool false, .bool false, .bool false, .bool false, .bool false, .bool false, .bool false, .bool false, .bool false, .bool false, .bool false, .bool false, .bool false, .bool false, .bool false, .bool false, .bool false, .bool false, .bool false, .bool false, .bool false, .bool false, .bool false, .bool false, .bool false, .bool false, .bool false, .bool false, .bool false, .bool false, .bool false, .bool false, .bool false, .bool false, .bool false, .bool false, .bool false, .bool false, .bool false, .bool false, .bool false, .bool false, .bool false, .bool false, .bool false, .bool false, .bool false, .bool false, .bool false, .bool false, .bool false, .bool false, .bool false, .bool false, .bool false, .bool false, .bool false, .bool false, .bool false, .bool false, .bool false, .bool false, .bool false, .bool false, .bool false, .bool false, .bool false, .bool false, .bool false, .bool false, .bool false, .bool false, .bool false, .bool false, .bool false, .bool false, .bool false, .bool false, .bool false, .bool false, .bool false, .bool false, .bool false, .bool false, .bool false, .bool false, .bool false, .bool false, .bool false, .bool false, .bool false, .bool false, .bool false, .bool false], 256, 256⟩),
  (163, ⟨.array 256 4, .agg #[.bool false, .bool false, .bool false, .bool false, .bool false, .bool false, .bool false, .bool false, .bool false, .bool false, .bool false, .bool false, .bool false, .bool false, .bool false, .bool false, .bool false, .bool false, .bool false, .bool false, .bool false, .bool false, .bool false, .bool false, .bool false, .bool false, .bool false, .bool false, .bool false, .bool false, .bool false, .bool false, .bool false, .bool false, .bool false, .bool false, .bool false, .bool false, .bool false, .bool false, .bool false, .bool false, .bool false, .bool false, .bool false, .bool false, .bool false, .bool false, .bool false, .bool false, .bool false, .bool false, .bool false, .bool false, .bool false, .bool false, .bool false, .bool false, .bool false, .bool false, .bool false, .bool false, .bool false, .bool false, .bool false, .bool false, .bool false, .bool false, .bool false, .bool false, .bool false, .bool false, .bool false, .bool false, .bool false, .bool false, .bool false, .bool false, .bool false, .bool false, .bool false, .bool false, .bool false, .bool false, .bool false, .bool false, .bool false, .bool false, .bool false, .bool false, .bool false, .bool false, .bool false, .bool false, .bool false, .bool false, .bool false, .bool false, .bool false, .bool false, .bool false, .bool false, .bool false, .bool false, .bool false, .bool false, .bool false, .bool false, .bool false, .bool false, .bool false, .bool false, .bool false, .bool false, .bool false, .bool false, .bool false, .bool false, .bool false, .bool false, .bool false, .bool false, .bool false, .bool false, .bool false, .bool false, .bool false, .bool false, .bool false, .bool false, .bool false, .bool false, .bool false, .bool false, .bool false, .bool false, .bool false, .bool false, .bool false, .bool false, .bool false, .bool false, .bool false, .bool false, .bool false, .bool false, .bool false, .bool false, .bool false, .bool false, .bool false, .bool false, .bool false, .bool false, .bool false, .bool false, .bool false, .bool false, .bool false, .bool false, .bool false, .bool false, .bool false, .bool false, .bool false, .bool false, .bool false, .bool false, .bool false, .bool false, .bool false, .bool false, .bool false, .bool false, .bool false, .bool false, .bool false, .bool false, .bool false, .bool false, .bool false, .bool false, .bool false, .bool false, .bool false, .bool false, .bool false, .bool false, .bool false, .bool false, .bool false, .bool false, .bool false, .bool false, .bool false, .bool false, .bool false, .bool false, .bool false, .bool false, .bool false, .bool false, .bool false, .bool false, .bool false, .bool false, .bool false, .bool false, .bool false, .bool false, .bool false, .bool false, .bool false, .bool false, .bool false, .bool false, .bool false, .bool false, .bool false, .bool false, .bool false, .bool false, .bool false, .bool false, .bool false, .bool false, .bool false, .bool false, .bool false, .bool false, .bool false, .bool false, .bool false, .bool false, .bool false, .bool false, .bool false, .bool false, .bool false, .bool false, .bool false, .bool false, .bool false, .bool false, .bool false, .bool false, .bool false, .bool false, .bool false, .bool false, .bool false, .bool false, .bool false, .bool false, .bool false, .bool false], 256, 256⟩),
  (165, ⟨.func, .nilFunc, 1, 8⟩),
  (166, ⟨.func, .nilFunc, 1, 8⟩),
  (167, ⟨.pointer 163, .pointer none, 1, 8⟩),
  (168, ⟨.func, .nilFunc, 1, 8⟩),
  (169, ⟨.int .u64, .int .u64 0, 1, 8⟩),
  (170, ⟨.func, .nilFunc, 1, 8⟩),
  (171, ⟨.func, .nilFunc, 1, 8⟩),
  (172, ⟨.func, .nilFunc, 1, 8⟩),
  (173, ⟨.pointer 3, .pointer none, 1, 8⟩),
  (174, ⟨.func, .nilFunc, 1, 8⟩),
  (175, ⟨.func, .nilFunc, 1, 8⟩),
  (176, ⟨.other, .pointer none, 1, 8⟩),
  (177, ⟨.func, .nilFunc, 1, 8⟩),
  (178, ⟨.func, .nilFunc, 1, 8⟩),
  (179, ⟨.func, .nilFunc, 1, 8⟩),
  (180, ⟨.func, .nilFunc, 1, 8⟩),
  (181, ⟨.func, .nilFunc, 1, 8⟩),
  (182, ⟨.func, .nilFunc, 1, 8⟩),
  (184, ⟨.func, .nilFunc, 1, 8⟩),
  (186, ⟨.func, .nilFunc, 1, 8⟩),
  (187, ⟨.func, .nilFunc, 1, 8⟩),
  (188, ⟨.func, .nilFunc, 1, 8⟩),
  (189, ⟨.pointer 169, .pointer none, 1, 8⟩),
  (191, ⟨.func, .nilFunc, 1, 8⟩),
  (192, ⟨.func, .nilFunc, 1, 8⟩),
  (193, ⟨.array 24 5, .agg #[.int .u8 0, .int .u8 0, .int .u8 0, .int .u8 0, .int .u8 0, .int .u8 0, .int .u8 0, .int .u8 0, .int .u8 0, .int .u8 0, .int .u8 0, .int .u8 0, .int .u8 0, .int .u8 0, .int .u8 0, .int .u8 0, .int .u8 0, .int .u8 0, .int .u8 0, .int .u8 0, .int .u8 0, .int .u8 0, .int .u8 0, .int .u8 0], 24, 24⟩),
  (194, ⟨.func, .nilFunc, 1, 8⟩),
  (196, ⟨.func, .nilFunc, 1, 8⟩),
  (197, ⟨.func, .nilFunc, 1, 8⟩),
  (198, ⟨.int .i64, .int .i64 0, 1, 8⟩),
  (200, ⟨.func, .nilFunc, 1, 8⟩),
  (201, ⟨.pointer 211, .pointer none, 1, 8⟩),
  (202, ⟨.func, .nilFunc, 1, 8⟩),
  (203, ⟨.func, .nilFunc, 1, 8⟩),
  (204, ⟨.func, .nilFunc, 1, 8⟩),
  (205, ⟨.func, .nilFunc, 1, 8⟩),
  (206, ⟨.func, .nilFunc, 1, 8⟩),
  (207, ⟨.array 20 148, .agg #[.int .u64 0, .int .u64 0, .int .u64 0, .int .u64 0, .int .u64 0, .int .u64 0, .int .u64 0, .int .u64 0, .int .u64 0, .int .u64 0, .int .u64 0, .int .u64 0, .int .u64 0, .int .u64 0, .int .u64 0, .int .u64 0, .int .u64 0, .int .u64 0, .int .u64 0, .int .u64 0], 20, 160⟩),
  (208, ⟨.array 65 5, .agg #[.int .u8 0, .int .u8 0, .int .u8 0, .int .u8 0, .int .u8 0, .int .u8 0, .int .u8 0, .int .u8 0, .int .u8 0, .int .u8 0, .int .u8 0, .int .u8 0, .int .u8 0, .int .u8 0, .int .u8 0, .int .u8 0, .int .u8 0, .int .u8 0, .int .u8 0, .int .u8 0, .int .u8 0, .int .u8 0, .int .u8 0, .int .u8 0, .int .u8 0, .int .u8 0, .int .u8 0, .int .u8 0, .int .u8 0, .int .u8 0, .int .u8 0, .int .u8 0, .int .u8 0, .int .u8 0, .int .u8 0, .int .u8 0, .int .u8 0, .int .u8 0, .int .u8 0, .int .u8 0, .int .u8 0, .int .u8 0, .int .u8 0, .int .u8 0, .int .u8 0, .int .u8 0, .int .u8 0, .int .u8 0, .int .u8 0, .int .u8 0, .int .u8 0, .int .u8 0, .int .u8 0, .int .u8 0, .int .u8 0, .int .u8 0, .int .u8 0, .int .u8 0, .int .u8 0, .int .u8 0, .int .u8 0, .int .u8 0, .int .u8 0, .int .u8 0, .int .u8 0], 65, 65⟩),
  (209, ⟨.func, .nilFunc, 1, 8⟩),
  (210, ⟨.struct [(0, 9), (1, 9), (2, 110)], .agg #[.string ⟨#[]⟩, .string ⟨#[]⟩, .nilIface], 3, 48⟩),
  (211, ⟨.struct [(0, 9), (1, 9), (2, 110)], .agg #[.string ⟨#[]⟩, .string ⟨#[]⟩, .nilIface], 3, 48⟩),
  (212, ⟨.func, .nilFunc, 1, 8⟩),
  (213, ⟨.func, .nilFunc, 1, 8⟩),
  (214, ⟨.array 256 5, .agg #[.int .u8 0, .int .u8 0, .int .u8 0, .int .u8 0, .int .u8 0, .int .u8 0, .int .u8 0, .int .u8 0, .int .u8 0, .int .u8 0, .int .u8 0, .int .u8 0, .int .u8 0, .int .u8 0, .int .u8 0, .int .u8 0, .int .u8 0, .int .u8 0, .int .u8 0, .int .u8 0, .int .u8 0, .int .u8 0, .int .u8 0, .int .u8 0, .int .u8 0, .int .u8 0, .int .u8 0, .int .u8 0, .int .u8 0, .int .u8 0, .int .u8 0, .int .u8 0, .int .u8 0, .int .u8 0, .int .u8 0, .int .u8 0, .int .u8 0, .int .u8 0, .int .u8 0, .int .u8 0, .int .u8 0, .int .u8 0, .int .u8 0, .int .u8 0, .int .u8 0, .int .u8 0, .int .u8 0, .int .u8 0, .int .u8 0, .int .u8 0, .int .u8 0, .int .u8 0, .int .u8 0, .int .u8 0, .int .u8 0, .int .u8 0, .int .u8 0, .int .u8 0, .int .u8 0, .int .u8 0, .int .u8 0, .int .u8 0, .int .u8 0, .int .u8 0, .int .u8 0, .int .u8 0, .int .u8 0, .int .u8 0, .int .u8 0, .int .u8 0, .int .u8 0, .int .u8 0, .int .u8 0, .int .u8 0, .int .u8 0, .int .u8 0, .int .u8 0, .int .u8 0, .int .u8 0, .int .u8 0, .int .u8 0, .int .u8 0, .int .u8 0, .int .u8 0, .int .u8 0, .int .u8 0, .int .u8 0, .int .u8 0, .int .u8 0, .int .u8 0, .int .u8 0, .int .u8 0, .int .u8 0, .int .u8 0, .int .u8 0, .int .u8 0, .int .u8 0, .int .u8 0, .int .u8 0, .int .u8 0, .int .u8 0, .int .u8 0, .int .u8 0, .int .u8 0, .int .u8 0, .int .u8 0, .int .u8 0, .int .u8 0, .int .u8 0, .int .u8 0, .int .u8 0, .int .u8 0, .int .u8 0, .int .u8 0, .int .u8 0, .int .u8 0, .int .u8 0, .int .u8 0, .int .u8 0, .int .u8 0, .int .u8 0, .int .u8 0, .int .u8 0, .int .u8 0, .int .u8 0, .int .u8 0, .int .u8 0, .int .u8 0, .int .u8 0, .int .u8 0, .int .u8 0, .int .u8 0, .int .u8 0, .int .u8 0, .int .u8 0, .int .u8 0, .int .u8 0, .int .u8 0, .int .u8 0, .int .u8 0, .int .u8 0, .int .u8 0, .int .u8 0, .int .u8 0, .int .u8 0, .int .u8 0, .int .u8 0, .int .u8 0, .int .u8 0, .int .u8 0, .int .u8 0, .int .u8 0, .int .u8 0, .int .u8 0, .int .u8 0, .int .u8 0, .int .u8 0, .int .u8 0, .int .u8 0, .int .u8 0, .int .u8 0, .int .u8 0, .int .u8 0, .int .u8 0, .int .u8 0, .int .u8 0, .int .u8 0, .int .u8 0, .int .u8 0, .int .u8 0, .int .u8 0, .int .u8 0, .int .u8 0, .int .u8 0, .int .u8 0, .int .u8 0, .int .u8 0, .int .u8 0, .int .u8 0, .int .u8 0, .int .u8 0, .int .u8 0, .int .u8 0, .int .u8 0, .int .u8 0, .int .u8 0, .int .u8 0, .int .u8 0, .int .u8 0, .int .u8 0, .int .u8 0, .int .u8 0, .int .u8 0, .int .u8 0, .int .u8 0, .int .u8 0, .int .u8 0, .int .u8 0, .int .u8 0, .int .u8 0, .int .u8 0, .int .u8 0, .int .u8 0, .int .u8 0, .int .u8 0, .int .u8 0, .int .u8 0, .int .u8 0, .int .u8 0, .int .u8 0, .int .u8 0, .int .u8 0, .int .u8 0, .int .u8 0, .int .u8 0, .int .u8 0, .int .u8 0, .int .u8 0, .int .u8 0, .int .u8 0, .int .u8 0, .int .u8 0, .int .u8 0, .int .u8 0, .int .u8 0, .int .u8 0, .int .u8 0, .int .u8 0, .int .u8 0, .int .u8 0, .int .u8 0, .int .u8 0, .int .u8 0, .int .u8 0, .int .u8 0, .int .u8 0, .int .u8 0, .int .u8 0, .int .u8 0, .int .u8 0, .int .u8 0, .int .u8 0, .int .u8 0, .int .u8 0, .int .u8 0, .int .u8 0, .int .u8 0, .int .u8 0, .int .u8 0, .int .u8 0, .int .u8 0, .int .u8 0, .int .u8 0, .int .u8 0, .int .u8 0, .int .u8 0], 256, 256⟩),
  (215, ⟨.struct [(0, 5), (1, 5)], .agg #[.int .u8 0, .int .u8 0], 2, 2⟩),
  (216, ⟨.struct [(0, 5), (1, 5)], .agg #[.int .u8 0, .int .u8 0], 2, 2⟩),
  (217, ⟨.array 16 216, .agg #[.int .u8 0, .int .u8 0, .int .u8 0, .int .u8 0, .int .u8 0, .int .u8 0, .int .u8 0, .int .u8 0, .int .u8 0, .int .u8 0, .int .u8 0, .int .u8 0, .int .u8 0, .int .u8 0, .int .u8 0, .int .u8 0, .int .u8 0, .int .u8 0, .int .u8 0, .int .u8 0, .int .u8 0, .int .u8 0, .int .u8 0, .int .u8 0, .int .u8 0, .int .u8 0, .int .u8 0, .int .u8 0, .int .u8 0, .int .u8 0, .int .u8 0, .int .u8 0], 32, 32⟩),
  (218, ⟨.func, .nilFunc, 1, 8⟩),
  (220, ⟨.func, .nilFunc, 1, 8⟩),
  (221, ⟨.pointer 223, .pointer none, 1, 8⟩),
  (222, ⟨.struct [(0, 9)], .agg #[.string ⟨#[]⟩], 1, 16⟩),
  (223, ⟨.struct [(0, 9)], .agg #[.string ⟨#[]⟩], 1, 16⟩),
  (224, ⟨.array 32 5, .agg #[.int .u8 0, .int .u8 0, .int .u8 0, .int .u8 0, .int .u8 0, .int .u8 0, .int .u8 0, .int .u8 0, .int .u8 0, .int .u8 0, .int .u8 0, .int .u8 0, .int .u8 0, .int .u8 0, .int .u8 0, .int .u8 0, .int .u8 0, .int .u8 0, .int .u8 0, .int .u8 0, .int .u8 0, .int .u8 0, .int .u8 0, .int .u8 0, .int .u8 0, .int .u8 0, .int .u8 0, .int .u8 0, .int .u8 0, .int .u8 0, .int .u8 0, .int .u8 0], 32, 32⟩),
  (225, ⟨.array 64 5, .agg #[.int .u8 0, .int .u8 0, .int .u8 0, .int .u8 0, .int .u8 0, .int .u8 0, .int .u8 0, .int .u8 0, .int .u8 0, .int .u8 0, .int .u8 0, .int .u8 0, .int .u8 0, .int .u8 0, .int .u8 0, .int .u8 0, .int .u8 0, .int .u8 0, .int .u8 0, .int .u8 0, .int .u8 0, .int .u8 0, .int .u8 0, .int .u8 0, .int .u8 0, .int .u8 0, .int .u8 0, .int .u8 0, .int .u8 0, .int .u8 0, .int .u8 0, .int .u8 0, .int .u8 0, .int .u8 0, .int .u8 0, .int .u8 0, .int .u8 0, .int .u8 0, .int .u8 0, .int .u8 0, .int .u8 0, .int .u8 0, .int .u8 0, .int .u8 0, .int .u8 0, .int .u8 0, .int .u8 0, .int .u8 0, .int .u8 0, .int .u8 0, .int .u8 0, .int .u8 0, .int .u8 0, .int .u8 0, .int .u8 0, .int .u8 0, .int .u8 0, .int .u8 0, .int .u8 0, .int .u8 0, .int .u8 0, .int .u8 0, .int .u8 0, .int .u8 0], 64, 64⟩),
  (226, ⟨.struct [(0, 17), (1, 17), (2, 17), (3, 9)], .agg #[.pointer none, .pointer none, .pointer none, .string ⟨#[]⟩], 4, 40⟩),
  (227, ⟨.struct [(0, 17), (1, 17), (2, 17), (3, 9)], .agg #[.pointer none, .pointer none, .pointer none, .string ⟨#[]⟩], 4, 40⟩),
  (228, ⟨.array 0 16, .agg #[], 0, 0⟩),
  (229, ⟨.struct [(0, 228)], .agg #[], 0, 0⟩),
  (230, ⟨.struct [(0, 228)], .agg #[], 0, 0⟩),
  (231, ⟨.int .u8, .int .u8 0, 1, 1⟩),
  (232, ⟨.int .u8, .int .u8 0, 1, 1⟩),
  (233, ⟨.func, .nilFunc, 1, 8⟩),
  (234, ⟨.int .i32, .int .i32 0, 1, 4⟩),
  (235, ⟨.int .i32, .int .i32 0, 1, 4⟩),
  (236, ⟨.struct [(0, 12), (1, 12), (2, 38), (3, 231), (4, 5), (5, 5), (6, 232), (7, 233), (8, 116), (9, 234), (10, 235)], .agg #[.int .u64 0, .int .u64 0, .int .u32 0, .int .u8 0, .int .u8 0, .int .u8 0, .int .u8 0, .nilFunc, .pointer none, .int .i32 0, .int .i32 0], 11, 48⟩),
  (237, ⟨.struct [(0, 12), (1, 12), (2, 38), (3, 231), (4, 5), (5, 5), (6, 232), (7, 233), (8, 116), (9, 234), (10, 235)], .agg #[.int .u64 0, .int .u64 0, .int .u32 0, .int .u8 0, .int .u8 0, .int .u8 0, .int .u8 0, .nilFunc, .pointer none, .int .i32 0, .int .i32 0], 11, 48⟩)]
theorem Tryz.tab_ok : TbOk Tryz.prog Tryz.tab := by unfold TbOk; kernel_rfl
noncomputable def Tryz.sx : Sx := ⟨Tryz.prog, Tryz.tab, Tryz.tab_ok⟩
end Go.Proofs.YtpohhfggmaihpaaGreatDoor

/- The library's Sort, Compact, Clone at []int: the shelf's contracts, laid, as contracts over memory of one's own. -/
namespace Go.Proofs.YtpohhfggmaihpaaGreatDoor
open Go.Wk
set_option linter.unusedVariables false
abbrev fI (n : Int) : List Value := [.int .i64 n]
abbrev OwnI (v : Value) (l : List Int) (A : HL) : Prop := OwnL 3 1 fI v l A
theorem OwnI.mk {g cap : Nat} {l : List Int} {rest : List Value} (h1 : l.length ≤ cap) (h2 : cap ≤ maxLen) (h3 : (l.map (Value.int .i64) ++ rest).length = cap) : OwnI (.slice (some ⟨g, 0, none⟩) l.length cap) l [(g, .cells ⟨l.map (Value.int .i64) ++ rest⟩ 3 (0, 0))] := by
  have hf : l.flatMap fI = l.map (Value.int .i64) := flat_one (Value.int .i64) l
  refine ⟨by rw [hf]; simp, .inr ⟨g, cap, rest, rfl, by rw [hf], h1, h2, by rw [hf]; simpa using h3⟩⟩

end Go.Proofs.YtpohhfggmaihpaaGreatDoor

/- What instructions read and write, where they go on: as plain functions. -/
namespace Go.Proofs.YtpohhfggmaihpaaGreatDoor
open Go.Wk

structure Arg where
  k : Int
  n : Int
def Arg.cells (a : Arg) : List Value := [.int .i64 a.k, .int .u32 a.n]
structure Ins where
  op : Int
  bin : Int
  d : Int
  a : Arg
  b : Arg
  n : Int
  off : Int
  width : Int
  signed : Bool
  args : List Arg
  aA : Option Addr
  aC : Nat
def Ins.cells (x : Ins) : List Value := [.int .i64 x.op, .int .i64 x.bin, .int .i64 x.d, .int .i64 x.a.k, .int .u32 x.a.n, .int .i64 x.b.k, .int .u32 x.b.n, .int .i64 x.n, .int .i64 x.off, .int .i64 x.width, .bool x.signed, .slice x.aA x.args.length x.aC]
def Ins.val (x : Ins) : Value := .agg x.cells.toArray

def Arg.ok (a : Arg) : Prop := 0 ≤ a.n ∧ a.n ≤ 4294967295
def in64 (n : Int) : Prop := -9223372036854775808 ≤ n ∧ n ≤ 9223372036854775807
/-- An instruction, as memory h holds it. -/
structure InsIn (h : Nat → Option Obj) (x : Ins) : Prop where
  args : Rd h Arg.cells 2 x.aA x.args
  len : x.args.length ≤ 8796093022000
  ok : ∀ a, a ∈ [x.a, x.b] ++ x.args → a.ok
  op : in64 x.op
  d : in64 x.d
  n : in64 x.n
theorem InsIn.le {h1 h2 : Nat → Option Obj} (H : Hle h1 h2) {x : Ins} (h : InsIn h1 x) : InsIn h2 x := ⟨h.args.le H, h.len, h.ok, h.op, h.d, h.n⟩
structure CodeIn (h : Nat → Option Obj) (A : Option Addr) (l : List Ins) : Prop where
  row : Rd h Ins.cells 12 A l
  len : l.length ≤ 1256584717430
  all : ∀ x, x ∈ l → InsIn h x
theorem CodeIn.le {h1 h2 : Nat → Option Obj} (H : Hle h1 h2) {A : Option Addr} {l : List Ins} (h : CodeIn h1 A l) : CodeIn h2 A l := ⟨h.row.le H, h.len, fun x hx => (h.all x hx).le H⟩

def writesOp (op : Int) : Bool := op == 1 || op == 2 || op == 3 || op == 4 || op == 5 || op == 8 || op == 13
def Ins.writes (x : Ins) : Int := if writesOp x.op then max x.d (-1) else -1
end Go.Proofs.YtpohhfggmaihpaaGreatDoor

/- Operations whose value needs no memory, told by one function. -/
namespace Go.Wk
set_option linter.unusedVariables false
set_option linter.unusedSimpArgs false

def pcall (X : Cx) (L : LT) : Builtin → List Operand → List TypeId → Option Value
  | .len, [x], [t] => match ev L x, tl X.s.tab t with
    | some (.slice A n c), some ⟨.slice e, z, s, b⟩ => some (.int .i64 n)
    | some (.string A), some ⟨.string, z, s, b⟩ => some (.int .i64 A.size)
    | _, _ => none
  | .max, [x, y], _ => match ev L x, ev L y with
    | some (.int ik a), some (.int ik' b) => if ik = ik' then some (.int ik (if b > a then b else a)) else none
    | _, _ => none
  | .min, [x, y], _ => match ev L x, ev L y with
    | some (.int ik a), some (.int ik' b) => if ik = ik' then some (.int ik (if b < a then b else a)) else none
    | _, _ => none
  | _, _, _ => none

def pfld (X : Cx) (b o : Nat) (fs : List (Nat × TypeId)) (i : Nat) : Option Value := match fs[i]? with
  | some (off, ft) => match tl X.s.tab ft with
    | some tf => match Nat.beq tf.sz 0 with
      | false => some (.pointer (some ⟨b, o + off, none⟩))
      | true => none
    | none => none
  | none => none

def pv (X : Cx) (L : LT) : Op → Option Value
  | .move x => ev L x
  | .assign x => ev L x
  | .nilCheck x => match ev L x with
    | some (.pointer (some a)) => some (.pointer (some a))
    | _ => none
  | .pick c x y => match ev L c with
    | some (.bool true) => ev L x
    | some (.bool false) => ev L y
    | _ => none
  | .binOp op t x y yt => match ev L x, ev L y with
    | some (.int ik a), some (.int ik' b) => if ik = ik' then ibin op ik a b else none
    | _, _ => none
  | .unOp .not xt x => match ev L x with
    | some (.bool b) => some (.bool !b)
    | _ => none
  | .unOp .neg xt x => match ev L x with
    | some (.int ik a) => some (.int ik (ik.wrap (0 - a)))
    | _ => none
  | .extract x i => match ev L x with
    | some (.tuple vs) => vs[i]?
    | _ => none
  | .convert src dst x => match ev L x, tl X.s.tab dst, tl X.s.tab src with
    | some (.int k1 a), some ⟨.int k2, z, s, b⟩, some ⟨.int k1', z', s', b'⟩ => if k1 = k1' then some (.int k2 (k2.wrap a)) else none
    | _, _, _ => none
  | .makeFunc fn f1 cp => match evs L f1.toList, evs L cp.toList with
    | some vs, some us => some (.func fn vs.toArray us.toArray)
    | _, _ => none
  | .fieldAddr st x i => match ev L x, tl X.s.tab st with
    | some (.pointer (some ⟨b, o, none⟩)), some ⟨.struct fs, z, sz, by'⟩ => pfld X b o fs i
    | _, _ => none
  | .call ⟨.builtin f, xs, ts⟩ => pcall X L f xs.toList ts.toList
  | _ => none

section
variable {X : Cx} {ops : Array Oper} {Q : Post} {rest : List Oper} {L : LT} {R : RL} {d : Nat} {op : Op} {ty : TypeId} {p : String} {af : Array Edge} {v : Value}
theorem pv_spec (h : pv X L op = some v) : PR X.s.P L ⟨some d, op, ty, p, af, none⟩ v := by
  unfold pv at h
  split at h
  · exact p_move h
  · exact p_assign h
  · split at h
    · cases h; exact p_nil? (by assumption)
    · cases h
  · split at h
    · exact p_pick (by assumption) (fun _ => h) (fun h => by cases h)
    · exact p_pick (by assumption) (fun h => by cases h) (fun _ => h)
    · cases h
  · split at h
    · split at h
      · rename_i e; subst e; exact p_bin (by assumption) (by assumption) h
      · cases h
    · cases h
  · split at h
    · cases h; exact p_unot (by assumption)
    · cases h
  · split at h
    · cases h; exact p_uneg (by assumption)
    · cases h
  · split at h
    · exact p_ext (by assumption) h
    · cases h
  · split at h
    · split at h
      · rename_i e; subst e; cases h; exact p_conv (by assumption) (by assumption) (by assumption)
      · cases h
    · cases h
  · split at h
    · cases h; exact p_mkfn (by assumption) (by assumption)
    · cases h
  · split at h
    · unfold pfld at h
      split at h
      · split at h
        · split at h
          · cases h; exact p_fld (by assumption) (by assumption) (by assumption) (by assumption) (by assumption)
          · cases h
        · cases h
      · cases h
    · cases h
  · rename_i f xs ts
    obtain ⟨xs⟩ := xs
    obtain ⟨ts⟩ := ts
    dsimp only at h
    unfold pcall at h
    split at h
    · split at h
      · cases h; exact p_lenS (by assumption) (by assumption)
      · cases h; exact p_lenT (by assumption) (by assumption)
      · cases h
    · split at h
      · split at h
        · rename_i e; subst e; cases h; exact p_max (by assumption) (by assumption)
        · cases h
      · cases h
    · split at h
      · split at h
        · rename_i e; subst e; cases h; exact p_min (by assumption) (by assumption)
        · cases h
      · cases h
    · cases h
  · cases h

theorem g_pv (h : pv X L op = some v) (hN : Nat.blt d X.N = true) (k : G X ops Q rest ((d, v) :: L) R) : G X ops Q (⟨some d, op, ty, p, af, none⟩ :: rest) L R :=
  g_p (pv_spec h) hN k (by intro c hc; subst hc; simp [pv] at h)
end
end Go.Wk

/- Regions that draw their order: what only reads is taken first; the rest in every order. -/
namespace Go.Wk
set_option linter.unusedVariables false
set_option linter.unusedSimpArgs false

section
variable {ro : Option Nat} {n : Nat} {P : Program} {ops : Array Oper} {Q : Post} {S : World → Prop}

def noDS (ops : Array Oper) : Bool := ops.all fun o => match o.op with | .select .. => false | .defer _ => false | _ => true
theorem noDS_spec (h : noDS ops = true) (j : Nat) (o : Oper) (ho : ops[j]? = some o) : (∀ cs b, o.op ≠ .select cs b) ∧ (∀ c, o.op ≠ .defer c) := by
  have hm : o ∈ ops := Array.mem_of_getElem? ho
  have := Array.all_eq_true'.1 h o hm
  constructor
  · intro cs b he; rw [he] at this; simp at this
  · intro c he; rw [he] at this; simp at this

theorem opIn_put {i j : Nat} {oi oj : Oper} {v : Value} (hj : ops[j]? = some oj) (hap : oi.apart ops oj = true) (hsi : ∀ cs b, oi.op ≠ .select cs b) (hsj : ∀ cs b, oj.op ≠ .select cs b) (hdj : ∀ c, oj.op ≠ .defer c)
    (hQ : ∀ c a w, ¬ Q (.panic c) a w) {K : Act → World → Prop} {a : Act} {w : World} (hy : YieldsIf P ops S oi v a) (h : wpOpIn (Fr ro) n P ops Q j K (a.put oi.dst v) w) :
    wpOpIn (Fr ro) n P ops Q j (fun a' w' => YieldsIf P ops S oi v a' ∧ K (a'.put oi.dst v) w') a w := by
  obtain ⟨h1, h2, h3⟩ := Oper.apart_spec hap
  have keep : ∀ u, YieldsIf P ops S oi v (a.put oj.dst u) := fun u => hy.of_same (execOp_put oi hsi a oj.dst u h3) (wanted_put oi a oj.dst u h3)
  have comm : ∀ u, (a.put oi.dst v).put oj.dst u = (a.put oj.dst u).put oi.dst v := fun u => Act.put_comm a v u h2
  unfold wpOpIn at h ⊢
  simp only [hj] at h ⊢
  rw [wanted_put oj a oi.dst v h1] at h
  split
  · rename_i hw
    rw [if_pos hw] at h
    refine ⟨fun _ _ => trivial, ?_⟩
    have h' := h.2
    rw [Oper.semAt_eq _ _ _ hdj] at h' ⊢
    rw [execOp_put oj hsj a oi.dst v h1] at h'
    generalize (execOp a.eval oj).run P w = r at h' ⊢
    cases r with
    | halt x w' => cases x <;> simp only [Oper.uponIn] at h' ⊢; exact absurd h' (hQ _ _ _)
    | ok x w' =>
      cases x <;> simp only [Oper.uponIn] at h' ⊢
      case value u => exact ⟨keep u, by rw [← comm]; exact h'⟩
      case skip => exact ⟨keep _, by rw [← comm]; exact h'⟩
      case defer d =>
        refine ⟨?_, ?_⟩
        · have hd : YieldsIf P ops S oi v { a with defers := d :: a.defers } := hy.of_same rfl rfl
          exact hd.of_same (execOp_put oi hsi _ oj.dst undef h3) (wanted_put oi _ oj.dst undef h3)
        · rw [← Act.put_comm _ v undef h2, ← Act.put_defers]; exact h'
      case enter f args =>
        refine ⟨h'.1, CallsIn.mono h'.2 fun e w'' he => ?_⟩
        cases e with
        | returned u => exact ⟨keep u, by rw [← comm]; exact he⟩
        | panicked c => exact absurd he (hQ _ _ _)
        | outgrown => exact he
      case row row args => exact ⟨h'.1, RowsIn.mono h'.2 fun u w'' he => ⟨keep u, by rw [← comm]; exact he⟩⟩
      case round l f tmps av body =>
        refine ⟨h'.1, RoundIn.mono h'.2 fun e w'' he => ?_⟩
        cases e with
        | returned u => exact ⟨keep u, by rw [← comm]; exact he⟩
        | panicked c => exact absurd he (hQ _ _ _)
        | outgrown => exact he
  · rename_i hw
    rw [if_neg hw] at h
    exact ⟨fun _ _ => trivial, keep _, by rw [← comm]; exact h.2⟩

/-- An operation that waits for all others by its own word. -/
def lastOp (ops : Array Oper) (j : Nat) : Bool := match ops[j]? with
  | some o => (List.range ops.size).all fun k => k == j || o.after.any fun e => Region.binds .any e && e.on == k
  | none => false
theorem lastOp_not {i j : Nat} {oi oj : Oper} (hj : ops[j]? = some oj) (hij : i ≠ j) (hnot : ∀ e ∈ oj.after, Region.binds .any e = true → e.on ≠ i) (hi : ops[i]? = some oi) : lastOp ops j = false := by
  cases h : lastOp ops j with
  | false => rfl
  | true =>
    unfold lastOp at h
    simp only [hj, List.all_eq_true, List.mem_range, Bool.or_eq_true, beq_iff_eq] at h
    have hlt : i < ops.size := (Array.getElem?_eq_some_iff.1 hi).1
    rcases h i hlt with h1 | h1
    · exact absurd h1 hij
    · obtain ⟨e, he, hb⟩ := Array.any_eq_true'.1 h1
      simp only [Bool.and_eq_true, beq_iff_eq] at hb
      exact absurd hb.2 (hnot e he hb.1)
/-- Whatever order is drawn from here on; S holds behind each step. -/
def AnyS (ro : Option Nat) (n : Nat) (P : Program) (ops : Array Oper) (Q : Post) (S : World → Prop) : Nat → Array Bool → Act → World → Prop
  | 0, listed, a, w => Region.ready .any ops listed = [] ∧ Q .normal a w
  | fuel + 1, listed, a, w =>
    (Region.ready .any ops listed = [] → Q .normal a w) ∧
    ∀ i ∈ Region.ready .any ops listed, wpOpIn (Fr ro) n P ops Q i (fun a' w' => (lastOp ops i = false → S w') ∧ AnyS ro n P ops Q S fuel (listed.setIfInBounds i true) a' w') a w

theorem AnyS.sound : ∀ (fuel : Nat) (listed : Array Bool) (a : Act) (w : World), AnyS ro n P ops Q S fuel listed a w → wpAnyIn (Fr ro) n P .any ops Q fuel listed a w
  | 0, _, _, _, h => h
  | fuel + 1, _, _, _, h => ⟨h.1, fun i hi => wpOpIn_mono (fun a' w' h' => AnyS.sound fuel _ a' w' h'.2) (h.2 i hi)⟩

theorem yieldsIf_step {i : Nat} {oi : Oper} {v : Value} {a : Act} {w : World} (hi : ops[i]? = some oi) (hd : ∀ c, oi.op ≠ .defer c) (hy : YieldsIf P ops S oi v a) (hS : S w) {K : Act → World → Prop} (h : K (a.put oi.dst v) w) :
    wpOpIn (Fr ro) n P ops Q i K a w := by
  unfold wpOpIn
  simp only [hi]
  rcases hy with ⟨hw, hv⟩ | ⟨hw, rfl⟩
  · rw [if_pos hw]
    refine ⟨fun _ _ => trivial, ?_⟩
    rw [Oper.semAt_eq _ _ _ hd, hv w hS]
    exact h
  · rw [if_neg (by simp [hw])]
    exact ⟨fun _ _ => trivial, h⟩

theorem AnyS.first {i : Nat} {oi : Oper} {v : Value} (hi : ops[i]? = some oi) (hns : noDS ops = true) (hQ : ∀ c a w, ¬ Q (.panic c) a w) :
    ∀ (fuel : Nat) (listed : Array Bool) (a : Act) (w : World),
      (∀ j oj, ops[j]? = some oj → j ≠ i → listed.getD j true = false → (∀ e ∈ oj.after, Region.binds .any e = true → e.on ≠ i) → oi.apart ops oj = true) →
      i ∈ Region.ready .any ops listed → YieldsIf P ops S oi v a → S w →
      AnyS ro n P ops Q S fuel (listed.setIfInBounds i true) (a.put oi.dst v) w → AnyS ro n P ops Q S (fuel + 1) listed a w := by
  have hdi := (noDS_spec hns i oi hi).2
  intro fuel
  induction fuel with
  | zero =>
    intro listed a w _ hr hy hS H
    refine ⟨fun h => (by rw [h] at hr; cases hr), fun j hj => ?_⟩
    by_cases hji : j = i
    · subst hji; exact yieldsIf_step hi hdi hy hS ⟨fun _ => hS, H⟩
    · have := ready_mono hj hji
      rw [H.1] at this
      cases this
  | succ fuel ih =>
    intro listed a w hfree hr hy hS H
    refine ⟨fun h => (by rw [h] at hr; cases hr), fun j hj => ?_⟩
    by_cases hji : j = i
    · subst hji; exact yieldsIf_step hi hdi hy hS ⟨fun _ => hS, H⟩
    · have h1 := H.2 j (ready_mono hj hji)
      obtain ⟨hjun, oj, hoj, hall⟩ := mem_ready.1 hj
      have hnot : ∀ e ∈ oj.after, Region.binds .any e = true → e.on ≠ i := fun e he hb heq => by
        have h1 := hall e he hb
        have h0 := (mem_ready.1 hr).1
        rw [heq] at h1
        rcases Nat.lt_or_ge i listed.size with h' | h'
        · simp [h'] at h0 h1; rw [h0] at h1; cases h1
        · simp [Array.getElem?_eq_none h'] at h1
      obtain ⟨hs1, hd1⟩ := noDS_spec hns j oj hoj
      have h2 := opIn_put (i := i) hoj (hfree j oj hoj hji hjun hnot) (noDS_spec hns i oi hi).1 hs1 hd1 hQ hy h1
      have hfree' : ∀ k ok, ops[k]? = some ok → k ≠ i → (listed.setIfInBounds j true).getD k true = false →
          (∀ e ∈ ok.after, Region.binds .any e = true → e.on ≠ i) → oi.apart ops ok = true := fun k ok hk hki hun hno => by
        refine hfree k ok hk hki ?_ hno
        by_cases hjk : j = k
        · subst hjk; exact hjun
        · rw [getD_set_ne true hjk] at hun; exact hun
      refine wpOpIn_mono (fun a' w' h3 => ⟨h3.2.1, ih (listed.setIfInBounds j true) a' w' hfree' (ready_mono hr (Ne.symm hji)) h3.1 (h3.2.1 (lastOp_not hoj (Ne.symm hji) hnot hi)) ?_⟩) h2
      rw [Array.setIfInBounds_comm _ _ hji]
      exact h3.2.2
end

/-- What stays as it is all through a region: the first part of what one owned when it began. -/
def Still (X : Cx) (R0 : RL) (w : World) : Prop := ∃ F, Eff X.w0 X.A0 w (R0.flatten ++ F)
/-- Of a region that draws: what is left to be done (listed: what has been). -/
def GA (X : Cx) (ops : Array Oper) (Q : Post) (R0 : RL) (fuel : Nat) (listed : Array Bool) (L : LT) (R : RL) : Prop :=
  ∀ a w, Ok X a L → Hp X w R → Still X R0 w → AnyS X.ro X.n X.s.P ops Q (Still X R0) fuel listed a w
def NoP (Q : Post) : Prop := ∀ c a w, ¬ Q (.panic c) a w
theorem NoP.then {K : Act → World → Prop} {Q : Post} (h : NoP Q) : NoP (Exit.then K Q) := fun c a w hq => h c a w hq
theorem NoP.block {id : Nat} {Q : Post} (h : NoP Q) : NoP (Exit.inBlock id Q) := fun c a w hq => h c a w hq
theorem NoP.fn {P : Program} {fn : Func} {R : Ending → World → Prop} (h : ∀ c w, ¬ R (.panicked c) w) : NoP (bodyPost P fn R) := fun c a w hq => h c w hq.2
theorem NoP.sp {P : Program} {fn : Func} {Y : Type} {v : Y → Value} {T : Y → World → Prop} {post : Y → Prop} : NoP (bodyPost P fn (fun e w' => ∃ y, post y ∧ e = .returned (v y) ∧ T y w')) :=
  NoP.fn (fun c w ⟨y, _, h, _⟩ => by cases h)

section
variable {X : Cx} {ops : Array Oper} {Q : Post} {L : LT} {R R0 : RL} {fuel : Nat} {listed : Array Bool}

theorem Still.of {X : Cx} {w : World} {R R0 B : RL} (h : (R0 ++ B).Perm R) (H : Hp X w R) : Still X R0 w :=
  ⟨B.flatten, Eff.sel H [] (by rw [List.append_nil, ← List.flatten_append]; exact h.flatten)⟩

theorem gc_draw {id : Nat} {l : List Oper} (R0 B : RL) (hm : X.s.P.follows .mixedOrders = true) (hB : (R0 ++ B).Perm R) (h : GA X l.toArray Q R0 l.length (Array.replicate l.length false) L R) :
    GC X (.region id l.toArray true) Q L R := by
  intro a w ha hE
  have hE' : Hp X { w with drawn := w.drawn + 1 } R := Eff.seq0 hE (Eff.drew w)
  refine wpIn_region_any hm ?_
  have := AnyS.sound _ _ _ _ (h a _ ha hE' (Still.of hB hE'))
  simpa using this

/-- What gives its value whatever memory holds is taken first. -/
theorem ga_p (i : Nat) {d : Nat} {op : Op} {ty : TypeId} {p : String} {af : Array Edge} {v : Value} (hQ : NoP Q) (hi : ops[i]? = some ⟨some d, op, ty, p, af, none⟩) (h : PR X.s.P L ⟨some d, op, ty, p, af, none⟩ v) (hN : Nat.blt d X.N = true)
    (hns : noDS ops = true) (hf : Region.free .any ops listed i = true) (hr : (Region.ready .any ops listed).contains i = true)
    (k : GA X ops Q R0 fuel (listed.setIfInBounds i true) ((d, v) :: L) R) : GA X ops Q R0 (fuel + 1) listed L R := by
  intro a w ha hE hS
  refine AnyS.first hi hns hQ fuel listed a w (Region.free_spec hi hf) (by simpa using hr) (.inl ⟨rfl, fun w' _ => h _ w' (fun x u hx => ha.kn.ev hx)⟩) hS ?_
  exact k _ w (ha.put hN v) hE hS

/-- The same behind a guard that says yes. -/
theorem ga_py (i : Nat) {d j t : Nat} {want : Bool} {op : Op} {ty : TypeId} {p : String} {af : Array Edge} {v : Value} (hQ : NoP Q) (hi : ops[i]? = some ⟨some d, op, ty, p, af, some (j, want)⟩) (hj : (ops[j]?).bind (·.dst) = some t) (hNt : Nat.blt t X.N = true) (hb : lk L t = some (.bool want))
    (h : PR X.s.P L ⟨some d, op, ty, p, af, none⟩ v) (hN : Nat.blt d X.N = true)
    (hns : noDS ops = true) (hf : Region.free .any ops listed i = true) (hr : (Region.ready .any ops listed).contains i = true)
    (k : GA X ops Q R0 fuel (listed.setIfInBounds i true) ((d, v) :: L) R) : GA X ops Q R0 (fuel + 1) listed L R := by
  intro a w ha hE hS
  have hlt : t < a.tmps.size := by rw [ha.size]; exact Nat.lt_of_lt_of_le (Nat.lt_succ_self t) (Nat.le_of_ble_eq_true hNt)
  have hv : a.tmps[t]? = some (.bool want) := by
    have := ha.kn _ _ hb
    rw [Array.getD_eq_getD_getElem?, Array.getElem?_eq_getElem hlt, Option.getD_some] at this
    rw [Array.getElem?_eq_getElem hlt, this]
  have hw : Region.wanted ⟨some d, op, ty, p, af, some (j, want)⟩ (yielded ops a.tmps) = true := by simp [Region.wanted, yielded, hj, hv]
  refine AnyS.first hi hns hQ fuel listed a w (Region.free_spec hi hf) (by simpa using hr) (.inl ⟨hw, fun w' _ => h _ w' (fun x u hx => ha.kn.ev hx)⟩) hS ?_
  exact k _ w (ha.put hN v) hE hS

/-- Behind a guard that says no. -/
theorem ga_n (i : Nat) {d j t : Nat} {want : Bool} {u : Value} {op : Op} {ty : TypeId} {p : String} {af : Array Edge} (hQ : NoP Q) (hi : ops[i]? = some ⟨some d, op, ty, p, af, some (j, want)⟩) (hj : (ops[j]?).bind (·.dst) = some t) (hNt : Nat.blt t X.N = true) (hb : lk L t = some u) (hne : (match u with | .bool b => b == want | _ => false) = false)
    (hN : Nat.blt d X.N = true) (hns : noDS ops = true) (hf : Region.free .any ops listed i = true) (hr : (Region.ready .any ops listed).contains i = true)
    (k : GA X ops Q R0 fuel (listed.setIfInBounds i true) ((d, undef) :: L) R) : GA X ops Q R0 (fuel + 1) listed L R := by
  intro a w ha hE hS
  have hlt : t < a.tmps.size := by rw [ha.size]; exact Nat.lt_of_lt_of_le (Nat.lt_succ_self t) (Nat.le_of_ble_eq_true hNt)
  have hv : a.tmps[t]? = some u := by
    have := ha.kn _ _ hb
    rw [Array.getD_eq_getD_getElem?, Array.getElem?_eq_getElem hlt, Option.getD_some] at this
    rw [Array.getElem?_eq_getElem hlt, this]
  have hw : Region.wanted ⟨some d, op, ty, p, af, some (j, want)⟩ (yielded ops a.tmps) = false := by
    simp only [Region.wanted, yielded, hj, hv, Option.bind_some]
    cases u with
    | bool b => have : b ≠ want := fun h => by subst h; simp at hne
                simp [this]
    | _ => rfl
  refine AnyS.first hi hns hQ fuel listed a w (Region.free_spec hi hf) (by simpa using hr) (.inr ⟨hw, rfl⟩) hS ?_
  exact k _ w (ha.put hN undef) hE hS

/-- A load of what stays as it is. -/
theorem ga_ldG (i : Nat) {d : Nat} {t : TypeId} {x : Operand} {ty : TypeId} {p : String} {af : Array Edge} {g : Option (Nat × Bool)} {v : Value} {ti : Ti} {b o : Nat} {cs : List Value} (hQ : NoP Q) (hi : ops[i]? = some ⟨some d, .load t x, ty, p, af, g⟩)
    (hg : ∀ a, Ok X a L → Region.wanted ⟨some d, .load t x, ty, p, af, g⟩ (yielded ops a.tmps) = true) (hx : ev L x = some (.pointer (some ⟨b, o, none⟩))) (ht : tl X.s.tab t = some ti) (hl : cs.length = ti.sz) (hv : asV ti.k cs = some v)
    (hc : ∀ w, Still X R0 w → ∀ j u, cs[j]? = some u → w.cell? ⟨b, o + j, none⟩ = some u)
    (hN : Nat.blt d X.N = true) (hns : noDS ops = true) (hf : Region.free .any ops listed i = true) (hr : (Region.ready .any ops listed).contains i = true)
    (k : GA X ops Q R0 fuel (listed.setIfInBounds i true) ((d, v) :: L) R) : GA X ops Q R0 (fuel + 1) listed L R := by
  intro a w ha hE hS
  refine AnyS.first (v := v) hi hns hQ fuel listed a w (Region.free_spec hi hf) (by simpa using hr) (.inl ⟨hg a ha, fun w' hS' => ?_⟩) hS ?_
  · simp only [execOp]
    rw [ha.kn.ev hx]
    simp [run_loadAt (X.s.ok.at ht) hl hv (hc w' hS')]
  · exact k _ w (ha.put hN v) hE hS

theorem wanted_none {ops : Array Oper} {d : Option Tmp} {op : Op} {ty : TypeId} {p : String} {af : Array Edge} {X : Cx} {L : LT} : ∀ a, Ok X a L → Region.wanted ⟨d, op, ty, p, af, none⟩ (yielded ops a.tmps) = true := fun _ _ => rfl
theorem wanted_yes {d : Option Tmp} {op : Op} {ty : TypeId} {p : String} {af : Array Edge} {j t : Nat} {want : Bool} (hj : (ops[j]?).bind (·.dst) = some t) (hNt : Nat.blt t X.N = true) (hb : lk L t = some (.bool want)) :
    ∀ a, Ok X a L → Region.wanted ⟨d, op, ty, p, af, some (j, want)⟩ (yielded ops a.tmps) = true := fun a ha => by
  have hlt : t < a.tmps.size := by rw [ha.size]; exact Nat.lt_of_lt_of_le (Nat.lt_succ_self t) (Nat.le_of_ble_eq_true hNt)
  have hv : a.tmps[t]? = some (.bool want) := by
    have := ha.kn _ _ hb
    rw [Array.getD_eq_getD_getElem?, Array.getElem?_eq_getElem hlt, Option.getD_some] at this
    rw [Array.getElem?_eq_getElem hlt, this]
  simp [Region.wanted, yielded, hj, hv]

theorem still_cell {X : Cx} {w : World} {R0 : RL} (H : Still X R0 w) {i b : Nat} {o : Obj} {A : HL} (hR : R0[i]? = some ((b, o) :: A)) : w.heap[b]? = some o := by
  obtain ⟨F, E⟩ := H
  exact E.holds b o (List.mem_append_left _ (List.mem_flatten.2 ⟨_, List.mem_of_getElem? hR, List.mem_cons_self⟩))
theorem still_old {X : Cx} {w : World} {R0 : RL} (H : Still X R0 w) : Hle (Oldh X) (hw w) := fun _ _ h => by
  obtain ⟨F, E⟩ := H
  exact old_hw E h

/-- Own block number q (of what stays) is read. -/
theorem ga_ld (i q : Nat) {d : Nat} {t : TypeId} {x : Operand} {ty : TypeId} {p : String} {af : Array Edge} {g : Option (Nat × Bool)} {v : Value} {ti : Ti} {b o : Nat} {l cs : List Value} {e : TypeId} {fz : Nat × Nat} {A : HL} (hQ : NoP Q) (hi : ops[i]? = some ⟨some d, .load t x, ty, p, af, g⟩)
    (hg : ∀ a, Ok X a L → Region.wanted ⟨some d, .load t x, ty, p, af, g⟩ (yielded ops a.tmps) = true) (hR : R0[q]? = some ((b, .cells ⟨l⟩ e fz) :: A)) (hx : ev L x = some (.pointer (some ⟨b, o, none⟩))) (ht : tl X.s.tab t = some ti)
    (hc : takeC l o ti.sz = some cs) (hv : asV ti.k cs = some v)
    (hN : Nat.blt d X.N = true) (hns : noDS ops = true) (hf : Region.free .any ops listed i = true) (hr : (Region.ready .any ops listed).contains i = true)
    (k : GA X ops Q R0 fuel (listed.setIfInBounds i true) ((d, v) :: L) R) : GA X ops Q R0 (fuel + 1) listed L R := by
  obtain ⟨h1, h2⟩ := takeC_spec _ _ _ _ hc
  refine ga_ldG i hQ hi hg hx ht h1 hv (fun w hS j u hj => ?_) hN hns hf hr k
  have hb := still_cell hS hR
  simp only [World.cell?, hb]
  simpa using h2 j u hj

/-- Old memory is read. -/
theorem ga_ldO (i : Nat) {d : Nat} {t : TypeId} {x : Operand} {ty : TypeId} {p : String} {af : Array Edge} {g : Option (Nat × Bool)} {v : Value} {ti : Ti} {b o : Nat} {cs : List Value} (hQ : NoP Q) (hi : ops[i]? = some ⟨some d, .load t x, ty, p, af, g⟩)
    (hg : ∀ a, Ok X a L → Region.wanted ⟨some d, .load t x, ty, p, af, g⟩ (yielded ops a.tmps) = true) (hx : ev L x = some (.pointer (some ⟨b, o, none⟩))) (ht : tl X.s.tab t = some ti) (hl : cs.length = ti.sz) (hv : asV ti.k cs = some v)
    (hc : ∀ j u, cs[j]? = some u → cellAt (Oldh X) b (o + j) = some u)
    (hN : Nat.blt d X.N = true) (hns : noDS ops = true) (hf : Region.free .any ops listed i = true) (hr : (Region.ready .any ops listed).contains i = true)
    (k : GA X ops Q R0 fuel (listed.setIfInBounds i true) ((d, v) :: L) R) : GA X ops Q R0 (fuel + 1) listed L R :=
  ga_ldG i hQ hi hg hx ht hl hv (fun w hS j u hj => by rw [← cellAt_hw]; exact (still_old hS).cell (hc j u hj)) hN hns hf hr k

theorem ga_eq (t : Nat) {u u' : Value} (h : lk L t = some u) (e : u = u') (k : GA X ops Q R0 fuel listed ((t, u') :: L) R) : GA X ops Q R0 fuel listed L R := by
  subst e
  intro a w ha hE hS
  exact k a w (ok_put ha h) hE hS
theorem ga_case {t : Nat} {b : Bool} (hb : lk L t = some (.bool b)) (ht : b = true → GA X ops Q R0 fuel listed ((t, .bool true) :: L) R) (hf : b = false → GA X ops Q R0 fuel listed ((t, .bool false) :: L) R) : GA X ops Q R0 fuel listed L R := by
  intro a w ha hE hS
  cases b with
  | true => exact ht rfl a w (ok_put ha hb) hE hS
  | false => exact hf rfl a w (ok_put ha hb) hE hS
/-- An element's address, of old memory. -/
theorem ga_at (i i2 : Nat) {α : Type} {d d1 : Nat} {t t2 ty ty1 : TypeId} {p p1 : String} {af af1 : Array Edge} {gd gd1 : Option (Nat × Bool)} {x y : Operand} {e : TypeId} {z v : Value} {s b : Nat} {te : Ti} {ik : IntKind} {iv : Int} {A : Option Addr} {n c : Nat} {f : α → List Value} {l : List α} {u : α}
    (hQ : NoP Q) (hi : ops[i]? = some ⟨some d1, .indexAddr t x y, ty1, p1, af1, gd1⟩) (hg1 : ∀ a, Ok X a L → Region.wanted ⟨some d1, .indexAddr t x y, ty1, p1, af1, gd1⟩ (yielded ops a.tmps) = true)
    (hi2 : ops[i2]? = some ⟨some d, .load t2 (.tmp d1), ty, p, af, gd⟩)
    (hg : ∀ a v, Ok X a ((d1, v) :: L) → Region.wanted ⟨some d, .load t2 (.tmp d1), ty, p, af, gd⟩ (yielded ops a.tmps) = true)
    (hx : ev L x = some (.slice A n c)) (hy : ev L y = some (.int ik iv)) (ht : tl X.s.tab t = some ⟨.slice e, z, s, b⟩) (hte : tl X.s.tab e = some te) (he : Nat.beq t2 e = true)
    (h0 : 0 ≤ iv) (h1 : iv < n) (hr : ∀ w, Still X R0 w → Rd (hw w) f te.sz A l) (hl : l[iv.toNat]? = some u) (hs : (f u).length = te.sz) (hv : asV te.k (f u) = some v) (hN1 : Nat.blt d1 X.N = true) (hN : Nat.blt d X.N = true)
    (hns : noDS ops = true) (hf : Region.free .any ops listed i = true) (hrd : (Region.ready .any ops listed).contains i = true)
    (hf2 : Region.free .any ops (listed.setIfInBounds i true) i2 = true) (hrd2 : (Region.ready .any ops (listed.setIfInBounds i true)).contains i2 = true)
    (k : ∀ a, GA X ops Q R0 fuel ((listed.setIfInBounds i true).setIfInBounds i2 true) ((d, v) :: (d1, .pointer (some a)) :: L) R) : GA X ops Q R0 (fuel + 1 + 1) listed L R := by
  obtain rfl := Nat.eq_of_beq_eq_true he
  intro a w ha hE hS
  obtain ⟨bx, o, rfl, hc⟩ := hr w hS _ _ hl
  have hp : PR X.s.P L ⟨some d1, .indexAddr t x y, ty1, p1, af1, none⟩ (.pointer (some ⟨bx, o + iv.toNat * te.sz, none⟩)) := p_ix hx hy ht hte h0 h1
  refine AnyS.first hi hns hQ _ listed a w (Region.free_spec hi hf) (by simpa using hrd) (.inl ⟨hg1 a ha, fun w' _ => hp _ w' (fun x u hx => ha.kn.ev hx)⟩) hS ?_
  exact ga_ldG (R := R) i2 hQ hi2 (fun a' ha' => hg a' _ ha') (lk_hd d1 _ L) hte hs hv (fun w' hS' j u' hj => by
    obtain ⟨b2, o2, hA2, hc2⟩ := hr w' hS' _ _ hl
    cases hA2
    rw [← cellAt_hw]; exact hc2 j u' hj) hN hns hf2 hrd2 (k _) _ w (ha.put hN1 _) hE hS

theorem still_rdO {X : Cx} {R0 : RL} {α : Type} {sz : Nat} {f : α → List Value} {l : List α} {ad : Option Addr} (hr : Rd (Oldh X) f sz ad l) : ∀ w, Still X R0 w → Rd (hw w) f sz ad l := fun w hS => hr.le (still_old hS)

/-- Nothing is left. -/
theorem ga_nil (hr : Region.ready .any ops listed = []) (k : GQ X Q .normal L R) : GA X ops Q R0 fuel listed L R := by
  intro a w ha hE hS
  cases fuel with
  | zero => exact ⟨hr, k a w ha hE⟩
  | succ n => exact ⟨fun _ => k a w ha hE, fun i hi => by rw [hr] at hi; cases hi⟩

/-- One step of operation i, whatever its rule G. -/
def GS (X : Cx) (ops : Array Oper) (Q : Post) (R0 : RL) (fuel : Nat) (listed : Array Bool) (i : Nat) (L : LT) (R : RL) : Prop :=
  ∀ a w, Ok X a L → Hp X w R → wpOpIn (Fr X.ro) X.n X.s.P ops Q i (fun a' w' => (lastOp ops i = false → Still X R0 w') ∧ AnyS X.ro X.n X.s.P ops Q (Still X R0) fuel (listed.setIfInBounds i true) a' w') a w
theorem ga_all {rs : List Nat} (hr : Region.ready .any ops listed = rs) (hne : rs ≠ []) (k : ∀ i, i ∈ rs → GS X ops Q R0 fuel listed i L R) : GA X ops Q R0 (fuel + 1) listed L R := by
  intro a w ha hE hS
  refine ⟨fun h => absurd (hr ▸ h) hne, fun q hq => ?_⟩
  rw [hr] at hq
  exact k q hq a w ha hE
theorem ga_one {i : Nat} (hr : Region.ready .any ops listed = [i]) (k : GS X ops Q R0 fuel listed i L R) : GA X ops Q R0 (fuel + 1) listed L R :=
  ga_all hr (by simp) (fun j hj => by
    have : j = i := by simpa using hj
    subst this; exact k)
theorem op_of {i : Nat} {o : Oper} {K : Act → World → Prop} {a : Act} {w : World} (hi : ops[i]? = some o) (h1 : wpListIn (Fr X.ro) X.n X.s.P ops (Exit.then K Q) [o] a w) : wpOpIn (Fr X.ro) X.n X.s.P ops Q i K a w := by
  unfold wpOpIn
  simp only [hi]
  simp only [wpListIn] at h1
  split
  · rename_i hw
    rw [if_pos hw] at h1
    refine ⟨h1.1, ?_⟩
    have h2 := h1.2
    generalize ((o.semAt (Fr X.ro).round a.eval).run X.s.P w) = r at h2 ⊢
    cases r with
    | ok x w' => cases x <;> simp only [Oper.uponIn] at h2 ⊢ <;> first | exact h2 | exact ⟨h2.1, CallsIn.mono h2.2 (fun e w'' he => by cases e <;> exact he)⟩ | exact ⟨h2.1, RoundIn.mono h2.2 (fun e w'' he => by cases e <;> exact he)⟩
    | halt x w' => cases x <;> simp only [Oper.uponIn] at h2 ⊢ <;> exact h2
  · rename_i hw
    rw [if_neg hw] at h1
    exact h1
/-- An operation's own rule serves for a step of a region that draws: give it the region as what is left behind it. -/
theorem gs_of {i : Nat} {o : Oper} (hi : ops[i]? = some o)
    (h : ∀ K : Act → World → Prop, (∀ L' R', (∃ B : RL, (R0 ++ B).Perm R') → GA X ops Q R0 fuel (listed.setIfInBounds i true) L' R' → GQ X (Exit.then K Q) .normal L' R') → G X ops (Exit.then K Q) [o] L R) : GS X ops Q R0 fuel listed i L R := by
  intro a w ha hE
  have h1 := h (fun a' w' => (lastOp ops i = false → Still X R0 w') ∧ AnyS X.ro X.n X.s.P ops Q (Still X R0) fuel (listed.setIfInBounds i true) a' w') (fun L' R' ⟨B, hB⟩ hk a' w' ha' hE' => ⟨fun _ => Still.of hB hE', hk a' w' ha' hE' (Still.of hB hE')⟩) a w ha hE
  exact op_of hi h1
end
/-! ### The same, said shortly -/
section
variable {X : Cx} {ops : Array Oper} {Q : Post} {R0 : RL} {fuel : Nat} {listed : Array Bool} {L : LT} {R : RL}
theorem aQ (i : Nat) {d : Nat} {op : Op} {ty : TypeId} {p : String} {af : Array Edge} {v : Value} (hi : ops[i]? = some ⟨some d, op, ty, p, af, none⟩) (h : PR X.s.P L ⟨some d, op, ty, p, af, none⟩ v)
    (k : GA X ops Q R0 fuel (listed.setIfInBounds i true) ((d, v) :: L) R) (hN : Nat.blt d X.N = true := by exact rfl) (hQ : NoP Q := by repeat first | exact NoP.sp | apply NoP.then | apply NoP.block)
    (hns : noDS ops = true := by kernel_rfl) (hf : Region.free .any ops listed i = true := by kernel_rfl) (hr : (Region.ready .any ops listed).contains i = true := by kernel_rfl) : GA X ops Q R0 (fuel + 1) listed L R := ga_p i hQ hi h hN hns hf hr k
theorem aP (i : Nat) {d : Nat} {op : Op} {ty : TypeId} {p : String} {af : Array Edge} {v : Value} (hi : ops[i]? = some ⟨some d, op, ty, p, af, none⟩) (h : pv X L op = some v)
    (k : GA X ops Q R0 fuel (listed.setIfInBounds i true) ((d, v) :: L) R) (hN : Nat.blt d X.N = true := by exact rfl) (hQ : NoP Q := by repeat first | exact NoP.sp | apply NoP.then | apply NoP.block)
    (hns : noDS ops = true := by kernel_rfl) (hf : Region.free .any ops listed i = true := by kernel_rfl) (hr : (Region.ready .any ops listed).contains i = true := by kernel_rfl) : GA X ops Q R0 (fuel + 1) listed L R := ga_p i hQ hi (pv_spec h) hN hns hf hr k
theorem aY (i : Nat) {d j t : Nat} {want : Bool} {op : Op} {ty : TypeId} {p : String} {af : Array Edge} {v : Value} (hi : ops[i]? = some ⟨some d, op, ty, p, af, some (j, want)⟩) (hj : (ops[j]?).bind (·.dst) = some t) (hNt : Nat.blt t X.N = true) (hb : lk L t = some (.bool want)) (h : pv X L op = some v)
    (k : GA X ops Q R0 fuel (listed.setIfInBounds i true) ((d, v) :: L) R) (hN : Nat.blt d X.N = true := by exact rfl) (hQ : NoP Q := by repeat first | exact NoP.sp | apply NoP.then | apply NoP.block)
    (hns : noDS ops = true := by kernel_rfl) (hf : Region.free .any ops listed i = true := by kernel_rfl) (hr : (Region.ready .any ops listed).contains i = true := by kernel_rfl) : GA X ops Q R0 (fuel + 1) listed L R := ga_py i hQ hi hj hNt hb (pv_spec h) hN hns hf hr k
theorem aN (i : Nat) {d j t : Nat} {want : Bool} {u : Value} {op : Op} {ty : TypeId} {p : String} {af : Array Edge} (hi : ops[i]? = some ⟨some d, op, ty, p, af, some (j, want)⟩) (hj : (ops[j]?).bind (·.dst) = some t) (hNt : Nat.blt t X.N = true) (hb : lk L t = some u) (hne : (match u with | .bool b => b == want | _ => false) = false)
    (k : GA X ops Q R0 fuel (listed.setIfInBounds i true) ((d, undef) :: L) R) (hN : Nat.blt d X.N = true := by exact rfl) (hQ : NoP Q := by repeat first | exact NoP.sp | apply NoP.then | apply NoP.block)
    (hns : noDS ops = true := by kernel_rfl) (hf : Region.free .any ops listed i = true := by kernel_rfl) (hr : (Region.ready .any ops listed).contains i = true := by kernel_rfl) : GA X ops Q R0 (fuel + 1) listed L R := ga_n i hQ hi hj hNt hb hne hN hns hf hr k
theorem aL (i q : Nat) {d : Nat} {t : TypeId} {x : Operand} {ty : TypeId} {p : String} {af : Array Edge} {g : Option (Nat × Bool)} {v : Value} {ti : Ti} {b o : Nat} {l cs : List Value} {e : TypeId} {fz : Nat × Nat} {A : HL} (hi : ops[i]? = some ⟨some d, .load t x, ty, p, af, g⟩)
    (hg : ∀ a, Ok X a L → Region.wanted ⟨some d, .load t x, ty, p, af, g⟩ (yielded ops a.tmps) = true) (hR : R0[q]? = some ((b, .cells ⟨l⟩ e fz) :: A)) (hx : ev L x = some (.pointer (some ⟨b, o, none⟩))) (ht : tl X.s.tab t = some ti)
    (hc : takeC l o ti.sz = some cs) (hv : asV ti.k cs = some v)
    (k : GA X ops Q R0 fuel (listed.setIfInBounds i true) ((d, v) :: L) R) (hN : Nat.blt d X.N = true := by exact rfl) (hQ : NoP Q := by repeat first | exact NoP.sp | apply NoP.then | apply NoP.block)
    (hns : noDS ops = true := by kernel_rfl) (hf : Region.free .any ops listed i = true := by kernel_rfl) (hr : (Region.ready .any ops listed).contains i = true := by kernel_rfl) : GA X ops Q R0 (fuel + 1) listed L R := ga_ld i q hQ hi hg hR hx ht hc hv hN hns hf hr k
theorem aO (i : Nat) {o : Oper} (hi : ops[i]? = some o)
    (h : ∀ K : Act → World → Prop, (∀ L' R', (∃ B : RL, (R0 ++ B).Perm R') → GA X ops Q R0 fuel (listed.setIfInBounds i true) L' R' → GQ X (Exit.then K Q) .normal L' R') → G X ops (Exit.then K Q) [o] L R)
    (hr : Region.ready .any ops listed = [i] := by kernel_rfl) : GA X ops Q R0 (fuel + 1) listed L R := ga_one hr (gs_of hi h)
end
end Go.Wk

/- tac: within, Writes, Reads. -/
namespace Go.Proofs.YtpohhfggmaihpaaGreatDoor
open Go.Wk
set_option linter.unusedVariables false
set_option linter.unusedSimpArgs false
attribute [local irreducible] G GC GQ GA GS Exit.then Exit.inBlock

theorem within_sp (a b : Int) (w : World) : Sp Tryz.prog 23 [.int .i64 a, .int .i64 b] w [] (fun _ : Unit => .bool (decide (0 ≤ a) && decide (a < b))) (fun _ => []) (fun _ => True) := by
  refine enter (s := Tryz.sx) [] Tryz.func23 rfl rfl rfl (Eff.refl w) ?_
  repeat' (first | refine g_pv rfl rfl ?_ | refine g_nil ?_ | refine gq_then ?_ | refine gc_seq ?_ | refine gc_region ?_)
  refine g_case (t := 7) rfl (fun h => ?_) (fun h => ?_)
  all_goals (repeat' (first | refine g_pv rfl rfl ?_ | refine g_nil ?_ | refine gq_then ?_ | refine gc_ret ?_ | refine g_yes rfl rfl rfl ?_ | refine g_no rfl rfl rfl rfl rfl ?_))
  · refine gq_ret1 (.inr rfl) rfl rfl rfl (fun w' H => ⟨(), trivial, ?_, H⟩)
    have h' : 0 ≤ a := of_decide_eq_true h
    simp [h']
  · refine gq_ret1 (.inr rfl) rfl rfl rfl (fun w' H => ⟨(), trivial, ?_, H⟩)
    have h' : ¬ 0 ≤ a := of_decide_eq_false h
    simp [h']

end Go.Proofs.YtpohhfggmaihpaaGreatDoor

/- The library's IndexFunc, DeleteFunc at []int; tac.Next. -/
namespace Go.Proofs.YtpohhfggmaihpaaGreatDoor
open Go.Wk
set_option linter.unusedVariables false
set_option linter.unusedSimpArgs false
attribute [local irreducible] G GC GQ GA GS Exit.then Exit.inBlock

/-- The state of DeleteFunc's loop: i are kept, j are looked at. -/
structure DelS (p : Int → Bool) (l m : List Int) (i j : Nat) : Prop where
  len : m.length = l.length
  ij : i < j
  jl : j ≤ l.length
  kept : m.take i = (l.take j).filter (fun x => !p x)
  rest : m.drop j = l.drop j

end Go.Proofs.YtpohhfggmaihpaaGreatDoor

/- tac.Next. -/
namespace Go.Proofs.YtpohhfggmaihpaaGreatDoor
open Go.Wk
set_option linter.unusedVariables false
set_option linter.unusedSimpArgs false
attribute [local irreducible] G GC GQ GA GS Exit.then Exit.inBlock

end Go.Proofs.YtpohhfggmaihpaaGreatDoor

/- The document's answer (layer 13): within, Writes, Reads, Next. -/
namespace Go.Proofs.YtpohhfggmaihpaaGreatDoor
open Go.Wk
set_option linter.unusedVariables false
set_option linter.unusedSimpArgs false
attribute [local irreducible] G GC GQ GA GS Exit.then Exit.inBlock

theorem rwithin_sp (n lo hi : Int) (w : World) : Sp Tryz.prog 30 [.int .i64 n, .int .i64 lo, .int .i64 hi] w [] (fun _ : Unit => .bool (decide (lo ≤ n) && decide (n ≤ hi))) (fun _ => []) (fun _ => True) := by
  refine enter (s := Tryz.sx) [] Tryz.func30 rfl rfl rfl (Eff.refl w) ?_
  repeat' (first | refine g_pv rfl rfl ?_ | refine g_nil ?_ | refine gq_then ?_ | refine gc_seq ?_ | refine gc_region ?_)
  refine g_case (t := 10) rfl (fun h => ?_) (fun h => ?_)
  all_goals (repeat' (first | refine g_pv rfl rfl ?_ | refine g_nil ?_ | refine gq_then ?_ | refine gc_ret ?_ | refine g_yes rfl rfl rfl ?_ | refine g_no rfl rfl rfl rfl rfl ?_))
  · refine gq_ret1 (.inr rfl) rfl rfl rfl (fun w' H => ⟨(), trivial, ?_, H⟩)
    have h' : lo ≤ n := by simpa using h
    simp [h']
  · refine gq_ret1 (.inr rfl) rfl rfl rfl (fun w' H => ⟨(), trivial, ?_, H⟩)
    have h' : ¬ lo ≤ n := by simpa using h
    simp [h']

end Go.Proofs.YtpohhfggmaihpaaGreatDoor

/- A field of an element. -/
namespace Go.Wk
set_option linter.unusedVariables false
set_option linter.unusedSimpArgs false
section
variable {X : Cx} {ops : Array Oper} {Q : Post} {rest : List Oper} {L : LT} {R : RL} {d d1 d2 : Nat} {x y : Operand} {v u : Value} {t t2 st ty ty1 ty2 : TypeId} {p p1 p2 : String} {af af1 af2 : Array Edge}
theorem Rd.fld {α : Type} {H : Nat → Option Obj} {f : α → List Value} {sz : Nat} {A : Option Addr} {l : List α} {i : Nat} {q : α} {off n : Nat} {cs : List Value} (hr : Rd H f sz A l) (hl : l[i]? = some q) (hc : takeC (f q) off n = some cs) :
    ∃ b o, A = some ⟨b, o, none⟩ ∧ ∀ j u, cs[j]? = some u → cellAt H b (o + i * sz + off + j) = some u := by
  obtain ⟨b, o, hA, h⟩ := hr i q hl
  obtain ⟨_, h2⟩ := takeC_spec _ _ _ _ hc
  refine ⟨b, o, hA, fun j u hj => ?_⟩
  have := h (off + j) u (h2 j u hj)
  rw [← Nat.add_assoc] at this; exact this
/-- x[y].f, x of old memory. -/
theorem g_atF {α : Type} {e : TypeId} {z z' : Value} {s b off ff : Nat} {te tf : Ti} {ik : IntKind} {i : Int} {A : Option Addr} {n c : Nat} {f : α → List Value} {l : List α} {q : α} {fs : List (Nat × TypeId)} {sz' by' : Nat} {cs : List Value}
    (hx : ev L x = some (.slice A n c)) (hy : ev L y = some (.int ik i)) (ht : tl X.s.tab t = some ⟨.slice e, z, s, b⟩) (hte : tl X.s.tab e = some te) (hst : tl X.s.tab st = some ⟨.struct fs, z', sz', by'⟩)
    (hff : fs[ff]? = some (off, t2)) (htf : tl X.s.tab t2 = some tf) (hsz : Nat.beq tf.sz 0 = false)
    (h0 : 0 ≤ i) (h1 : i < n) (hr : Rd (Oldh X) f te.sz A l) (hl : l[i.toNat]? = some q) (hc : takeC (f q) off tf.sz = some cs) (hv : asV tf.k cs = some u) (hN1 : Nat.blt d1 X.N = true) (hN2 : Nat.blt d2 X.N = true) (hN : Nat.blt d X.N = true)
    (k : ∀ a a2, G X ops Q rest ((d, u) :: (d2, .pointer (some a2)) :: (d1, .pointer (some a)) :: L) R) :
    G X ops Q (⟨some d1, .indexAddr t x y, ty1, p1, af1, none⟩ :: ⟨some d2, .fieldAddr st (.tmp d1) ff, ty2, p2, af2, none⟩ :: ⟨some d, .load t2 (.tmp d2), ty, p, af, none⟩ :: rest) L R := by
  obtain ⟨bx, o, rfl, hcc⟩ := hr.fld hl hc
  refine g_ix hx hy ht hte h0 h1 hN1 ?_
  refine g_fld (lk_hd d1 _ L) hst hff htf hsz hN2 ?_
  exact g_ldO (lk_hd d2 _ _) htf (takeC_spec _ _ _ _ hc).1 hv hcc hN (k _ _)
end
end Go.Wk

/- The document's answer (layer 16): Ints, Lists, told; layer 13: Reads; flow: rising. -/
namespace Go.Proofs.YtpohhfggmaihpaaGreatDoor
open Go.Wk
set_option linter.unusedVariables false
set_option linter.unusedSimpArgs false
attribute [local irreducible] G GC GQ GA GS Exit.then Exit.inBlock

/-- A list of numbers, as memory H holds it. -/
def RdI (H : Nat → Option Obj) (v : Value) (l : List Int) : Prop := ∃ ad cap, v = .slice ad l.length cap ∧ Rd H fI 1 ad l
theorem RdI.le {H1 H2 : Nat → Option Obj} (h : Hle H1 H2) {v : Value} {l : List Int} (hr : RdI H1 v l) : RdI H2 v l := by
  obtain ⟨ad, cap, rfl, h1⟩ := hr; exact ⟨ad, cap, rfl, h1.le h⟩
theorem OwnI.rd {v : Value} {l : List Int} {A : HL} (ho : OwnI v l A) {H : Nat → Option Obj} (hA : ∀ b o, (b, o) ∈ A → H b = some o) : RdI H v l := OwnL.rd (f := fI) (fun _ => rfl) ho hA
abbrev fV (v : Value) : List Value := [v]
/-- A list of lists. -/
def RdLL (H : Nat → Option Obj) (v : Value) (ll : List (List Int)) : Prop := ∃ (ad : Option Addr) (cap : Nat) (vals : List Value), v = .slice ad ll.length cap ∧ vals.length = ll.length ∧ Rd H fV 1 ad vals ∧ ∀ (i : Nat) (u : Value) (l : List Int), vals[i]? = some u → ll[i]? = some l → RdI H u l
theorem RdLL.le {H1 H2 : Nat → Option Obj} (h : Hle H1 H2) {v : Value} {l : List (List Int)} (hr : RdLL H1 v l) : RdLL H2 v l := by
  obtain ⟨ad, cap, vals, rfl, h1, h2, h3⟩ := hr; exact ⟨ad, cap, vals, rfl, h1, h2.le h, fun i u l hu hl => (h3 i u l hu hl).le h⟩

end Go.Proofs.YtpohhfggmaihpaaGreatDoor
