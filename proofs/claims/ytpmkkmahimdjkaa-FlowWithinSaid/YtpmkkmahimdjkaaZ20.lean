/-
  Lists of marks of one's own; the document's Live (plain).
-/
import Derived.Test.YtpmkkmahimdjkaaZ19

/- Lists of marks of one's own; the document's Live (plain). -/
namespace Go.Proofs.Ytpmkkmahimdjkaa
open Go.Wk
set_option linter.unusedVariables false
set_option linter.unusedSimpArgs false
attribute [local irreducible] G GC GQ GA GS Exit.then Exit.inBlock

abbrev OwnBs (v : Value) (l : List Bool) (A : HL) : Prop := OwnL 4 1 fB v l A
structure OwnB2 (v : Value) (ll : List (List Bool)) (m : LM) : Prop where
  len : m.vals.length = ll.length
  alen : m.As.length = ll.length
  row : OwnL 47 1 fV v m.vals m.A0
  at' : ∀ (i : Nat) (u : Value) (l : List Bool) (a : HL), m.vals[i]? = some u → ll[i]? = some l → m.As[i]? = some a → OwnBs u l a
theorem OwnB2.get {v : Value} {ll : List (List Bool)} {m : LM} (h : OwnB2 v ll m) {i : Nat} (hi : i < ll.length) : ∃ u a, m.vals[i]? = some u ∧ m.As[i]? = some a ∧ OwnBs u (ll.getD i []) a := by
  have h1 : i < m.vals.length := by rw [h.len]; exact hi
  have h2 : i < m.As.length := by rw [h.alen]; exact hi
  exact ⟨_, _, List.getElem?_eq_getElem h1, List.getElem?_eq_getElem h2, h.at' i _ _ _ (List.getElem?_eq_getElem h1) (by simp [List.getD, List.getElem?_eq_getElem hi]) (List.getElem?_eq_getElem h2)⟩
theorem OwnB2.put {v : Value} {ll : List (List Bool)} {m : LM} (h : OwnB2 v ll m) {i : Nat} {u : Value} {l : List Bool} {a A0' : HL} (ho : OwnBs u l a) (hr : OwnL 47 1 fV v (m.vals.set i u) A0') :
    OwnB2 v (ll.set i l) ⟨A0', m.As.set i a, m.vals.set i u⟩ := by
  refine ⟨by simp [h.len], by simp [h.alen], hr, fun j u' l' a' h1 h2 h3 => ?_⟩
  simp only at h1 h2 h3
  by_cases hij : i = j
  · subst hij
    rw [List.getElem?_set_self (by have := (List.getElem?_eq_some_iff.1 h1).1; simpa using this)] at h1
    rw [List.getElem?_set_self (by have := (List.getElem?_eq_some_iff.1 h2).1; simpa using this)] at h2
    rw [List.getElem?_set_self (by have := (List.getElem?_eq_some_iff.1 h3).1; simpa using this)] at h3
    cases h1; cases h2; cases h3
    exact ho
  · rw [List.getElem?_set_ne hij] at h1 h2 h3
    exact h.at' j u' l' a' h1 h2 h3
theorem OwnB2.upd {v : Value} {ll : List (List Bool)} {m : LM} (h : OwnB2 v ll m) {i : Nat} {u : Value} {l : List Bool} {a : HL} (hu : m.vals[i]? = some u) (ho : OwnBs u l a) : OwnB2 v (ll.set i l) ⟨m.A0, m.As.set i a, m.vals⟩ := by
  have hs : m.vals.set i u = m.vals := by
    apply List.ext_getElem?; intro j
    by_cases hj : i = j
    · subst hj; rw [List.getElem?_set_self (List.getElem?_eq_some_iff.1 hu).1, hu]
    · rw [List.getElem?_set_ne hj]
  have := h.put (i := i) (u := u) ho (by rw [hs]; exact h.row)
  rw [hs] at this; exact this
theorem own_nilsB (g n : Nat) (hn : n ≤ maxLen) : OwnB2 (.slice (some ⟨g, 0, none⟩) n n) (List.replicate n []) ⟨[(g, .cells ⟨rep n [.slice none 0 0]⟩ 47 (0, 0))], List.replicate n [], List.replicate n (.slice none 0 0)⟩ := by
  refine ⟨by simp, by simp, own_make (te := ⟨.slice 4, .slice none 0 0, 1, 24⟩) (f := fV) (.slice none 0 0) rfl rfl g n hn, fun i u l a h1 h2 h3 => ?_⟩
  simp only [List.getElem?_replicate] at h1 h2 h3
  split at h1
  · rename_i hlt
    rw [if_pos hlt] at h2 h3
    cases h1; cases h2; cases h3
    exact OwnL.nil _ _ _
  · cases h1
theorem still_in {X : Cx} {R0 : RL} {α : Type} {e : TypeId} {sz : Nat} {f : α → List Value} {ad : Option Addr} {n cap : Nat} {l : List α} {A a : HL} (i : Nat) (hR : R0[i]? = some A) (hf : ∀ x, (f x).length = sz) (ho : OwnL e sz f (.slice ad n cap) l a) (hs : ∀ p, p ∈ a → p ∈ A) :
    ∀ w, Still X R0 w → Rd (hw w) f sz ad l := by
  intro w ⟨F, E⟩
  obtain ⟨ad', cap', he, hrd⟩ := OwnL.rd hf ho (H := hw w) (fun b o hb => E.holds b o (List.mem_append_left _ (List.mem_flatten.2 ⟨A, List.mem_of_getElem? hR, hs _ hb⟩)))
  have he' := (Value.slice.inj he).1
  subst he'; exact hrd

/-- Marked. -/
def bI (ll : List (List Bool)) (i t : Nat) : Prop := mk' (ll.getD i []) t
def dims (ll : List (List Bool)) (n T : Nat) : Prop := ll.length = n ∧ ∀ i, i < n → (ll.getD i []).length = T
def unmT (ll : List (List Bool)) : Nat := (ll.map unm).sum
theorem getD_setB (ll : List (List Bool)) (i u : Nat) (l : List Bool) (h : i < ll.length) : (ll.set i l).getD u [] = if u = i then l else ll.getD u [] := by
  by_cases hu : u = i
  · subst hu; simp [List.getD, List.getElem?_set_self h]
  · simp [List.getD, List.getElem?_set_ne (Ne.symm hu), hu]
theorem dims_set {ll : List (List Bool)} {n T : Nat} (h : dims ll n T) {i : Nat} {l : List Bool} (hi : i < n) (hl : l.length = T) : dims (ll.set i l) n T :=
  ⟨by simp [h.1], fun j hj => by
    rw [getD_setB ll i j l (by rw [h.1]; exact hi)]
    split
    · exact hl
    · exact h.2 j hj⟩
theorem bI_set {ll : List (List Bool)} {n T : Nat} (h : dims ll n T) {i t : Nat} (hi : i < n) (ht : t < T) (j s : Nat) : bI (ll.set i ((ll.getD i []).set t true)) j s ↔ (j = i ∧ s = t) ∨ bI ll j s := by
  unfold bI
  rw [getD_setB ll i j _ (by rw [h.1]; exact hi)]
  by_cases hj : j = i
  · subst hj
    rw [if_pos rfl, mk_set (by rw [h.2 _ hi]; exact ht)]
    simp
  · rw [if_neg hj]; simp [hj]
theorem bI_same {ll : List (List Bool)} {n T : Nat} (h : dims ll n T) {i t : Nat} (hi : i < n) (ht : t < T) : ll.set i ((ll.getD i []).set t ((ll.getD i []).getD t false)) = ll := by
  have hi' : i < ll.length := by rw [h.1]; exact hi
  have hr : (ll.getD i []).set t ((ll.getD i []).getD t false) = ll.getD i [] := by
    have htl : t < (ll.getD i []).length := by rw [h.2 i hi]; exact ht
    apply List.ext_getElem?; intro j
    by_cases hj : t = j
    · subst hj; rw [List.getElem?_set_self htl, getD_some htl]
    · rw [List.getElem?_set_ne hj]
  rw [hr]
  apply List.ext_getElem?; intro j
  by_cases hj : i = j
  · subst hj; rw [List.getElem?_set_self hi']; simp [List.getD, List.getElem?_eq_getElem hi']
  · rw [List.getElem?_set_ne hj]
theorem unmT_set {ll : List (List Bool)} {n T : Nat} (h : dims ll n T) {i t : Nat} (hi : i < n) (ht : t < T) (hb : ¬ bI ll i t) : unmT (ll.set i ((ll.getD i []).set t true)) + 1 = unmT ll := by
  have htl : t < (ll.getD i []).length := by rw [h.2 i hi]; exact ht
  have h1 := unm_set (bs := ll.getD i []) (i := t) (by rw [getD_some htl]; unfold bI mk' at hb; congr 1; simpa using hb)
  have hi' : i < ll.length := by rw [h.1]; exact hi
  generalize hr : ll.getD i [] = r at h1
  have hri : ll[i]? = some r := by rw [← hr]; simp [List.getD, List.getElem?_eq_getElem hi']
  clear hr h hb hi htl ht
  unfold unmT
  induction ll generalizing i with
  | nil => simp at hi'
  | cons a ll ih =>
    cases i with
    | zero =>
      simp at hri; subst hri
      simp only [List.set_cons_zero, List.map_cons, List.sum_cons]; omega
    | succ i =>
      have := ih (i := i) (by simpa using hi') (by simpa using hri)
      simp only [List.set_cons_succ, List.map_cons, List.sum_cons]; omega

/-- Instruction i is settled. -/
def Clo (code : List Ins) (T : Nat) (ib ob : List (List Bool)) (i : Nat) : Prop :=
  (∀ v : Nat, (v : Int) ∈ nxt code i → ∀ t, t < T → bI ib v t → bI ob i t) ∧ (∀ x, code[i]? = some x → (∀ t, t < T → bI ob i t → x.writes ≠ (t : Int) → bI ib i t) ∧ ∀ t : Nat, (t : Int) ∈ x.reads → bI ib i t)
/-- What is known in a pass; U: what was unmarked as it began. -/
structure PInv (code : List Ins) (T U : Nat) (ib ob : List (List Bool)) (tn : Bool) : Prop where
  d1 : dims ib code.length T
  d2 : dims ob code.length T
  s1 : ∀ i t, i < code.length → t < T → bI ib i t → LiveIn code (t : Int) i
  s2 : ∀ i t, i < code.length → t < T → bI ob i t → LiveOut code (t : Int) i
  le : unmT ib ≤ U
  lt : tn = true → unmT ib < U
theorem PInv.out {code : List Ins} {T U : Nat} {ib ob : List (List Bool)} {tn : Bool} (h : PInv code T U ib ob tn) {i t : Nat} (hi : i < code.length) (ht : t < T) (hl : LiveOut code (t : Int) i) : PInv code T U ib (ob.set i ((ob.getD i []).set t true)) tn :=
  ⟨h.d1, dims_set h.d2 hi (by rw [List.length_set]; exact h.d2.2 i hi), h.s1, fun j s hj hs hb => by
    rcases (bI_set h.d2 hi ht j s).1 hb with ⟨rfl, rfl⟩ | h1
    · exact hl
    · exact h.s2 j s hj hs h1, h.le, h.lt⟩
theorem PInv.inn {code : List Ins} {T U : Nat} {ib ob : List (List Bool)} {tn : Bool} (h : PInv code T U ib ob tn) {i t : Nat} (hi : i < code.length) (ht : t < T) (hb : ¬ bI ib i t) (hl : LiveIn code (t : Int) i) : PInv code T U (ib.set i ((ib.getD i []).set t true)) ob true := by
  have hu := unmT_set h.d1 hi ht hb
  have hle := h.le
  exact ⟨dims_set h.d1 hi (by rw [List.length_set]; exact h.d1.2 i hi), h.d2, fun j s hj hs hb => by
    rcases (bI_set h.d1 hi ht j s).1 hb with ⟨rfl, rfl⟩ | h1
    · exact hl
    · exact h.s1 j s hj hs h1, h.s2, by omega, fun _ => by omega⟩
theorem live_fin {code : List Ins} {T U : Nat} {ib ob : List (List Bool)} {tn : Bool} (h : PInv code T U ib ob tn) (hc : ∀ i, i < code.length → Clo code T ib ob i) (hr : ∀ x ∈ code, ∀ t ∈ x.reads, 0 ≤ t ∧ t < (T : Int)) :
    (∀ i t : Nat, LiveIn code (t : Int) i ↔ i < code.length ∧ t < T ∧ bI ib i t) ∧ ∀ i t : Nat, LiveOut code (t : Int) i ↔ i < code.length ∧ t < T ∧ bI ob i t := by
  have hT : ∀ (t : Nat) i, LiveIn code (t : Int) i → t < T := fun t i hl => by
    obtain ⟨x, hx, h1⟩ := hl.rd
    have := hr x hx _ h1; omega
  have key : ∀ (t : Nat) i, LiveIn code (t : Int) i → i < code.length ∧ bI ib i t := by
    intro t i hl
    have ht := hT t i hl
    induction hl with
    | @read i x h1 h2 =>
      have hi := (List.getElem?_eq_some_iff.1 h1).1
      exact ⟨hi, ((hc i hi).2 x h1).2 t h2⟩
    | @next i v x h1 h2 h3 _ ih =>
      have hi := (List.getElem?_eq_some_iff.1 h1).1
      exact ⟨hi, ((hc i hi).2 x h1).1 t ht ((hc i hi).1 v h3 t ht ih.2) h2⟩
  refine ⟨fun i t => ⟨fun hl => ⟨(key t i hl).1, hT t i hl, (key t i hl).2⟩, fun ⟨h1, h2, h3⟩ => h.s1 i t h1 h2 h3⟩, fun i t => ⟨fun hl => ?_, fun ⟨h1, h2, h3⟩ => h.s2 i t h1 h2 h3⟩⟩
  obtain ⟨v, h1, h2⟩ := hl
  have hi := nxt_lt h1
  have ht := hT t v h2
  exact ⟨hi, ht, (hc i hi).1 v h1 t ht (key t v h2).2⟩
theorem bI_other {ll : List (List Bool)} {i j s : Nat} {r : List Bool} (h : j ≠ i) : bI (ll.set i r) j s ↔ bI ll j s := by
  unfold bI; simp [List.getD, List.getElem?_set_ne (Ne.symm h)]
theorem Clo.other {code : List Ins} {T : Nat} {ib ob : List (List Bool)} {i j : Nat} {r : List Bool} (h : Clo code T ib ob j) (hj : j ≠ i) : Clo code T ib (ob.set i r) j :=
  ⟨fun v hv t ht hb => (bI_other hj).2 (h.1 v hv t ht hb), fun x hx => ⟨fun t ht hb => (h.2 x hx).1 t ht ((bI_other hj).1 hb), (h.2 x hx).2⟩⟩
theorem falses_bI {n T i t : Nat} : ¬ bI (List.replicate n (List.replicate T false)) i t := by
  unfold bI mk'
  by_cases hi : i < n
  · have e : (List.replicate n (List.replicate T false)).getD i [] = List.replicate T false := by simp [List.getD, List.getElem?_replicate, hi]
    rw [e]
    simp only [List.getD, List.getElem?_replicate]
    split <;> simp
  · have e : (List.replicate n (List.replicate T false)).getD i [] = [] := by simp [List.getD, List.getElem?_replicate, hi]
    rw [e]; simp
theorem falses_dims (n T : Nat) : dims (List.replicate n (List.replicate T false)) n T := ⟨by simp, fun i hi => by simp [List.getD, List.getElem?_replicate, hi]⟩
end Go.Proofs.Ytpmkkmahimdjkaa
