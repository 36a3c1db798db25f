/-
  flow.Live (plain): each temporary by itself.
-/
import Derived.Test.YtpmkkmahimdjkaaZ17

/- flow.Live (plain): each temporary by itself. -/
namespace Go.Proofs.Ytpmkkmahimdjkaa
open Go.Wk
set_option linter.unusedVariables false
set_option linter.unusedSimpArgs false
attribute [local irreducible] G GC GQ GA GS Exit.then Exit.inBlock

def kin (fs : List FM) (i : Nat) (t : Int) : Prop := ∃ m, fs[i]? = some m ∧ t ∈ m.keys
theorem kin_set {fs : List FM} {i j : Nat} {m m' : FM} {t t' : Int} (hm : fs[i]? = some m) (hk : ∀ k, k ∈ m'.keys ↔ k = t ∨ k ∈ m.keys) : kin (fs.set i m') j t' ↔ (j = i ∧ t' = t) ∨ kin fs j t' := by
  have hi := (List.getElem?_eq_some_iff.1 hm).1
  unfold kin
  by_cases hj : j = i
  · subst hj
    rw [List.getElem?_set_self hi]
    constructor
    · rintro ⟨m2, h1, h2⟩
      cases h1
      rcases (hk t').1 h2 with h | h
      · exact .inl ⟨rfl, h⟩
      · exact .inr ⟨m, hm, h⟩
    · rintro (⟨_, h⟩ | ⟨m2, h1, h2⟩)
      · exact ⟨m', rfl, (hk t').2 (.inl h)⟩
      · rw [hm] at h1; cases h1
        exact ⟨m', rfl, (hk t').2 (.inr h2)⟩
  · rw [List.getElem?_set_ne (Ne.symm hj)]
    constructor
    · exact .inr
    · rintro (⟨h, _⟩ | h)
      · exact absurd h hj
      · exact h
def unk : List FM → Int → Nat
  | [], _ => 0
  | m :: fs, t => (if t ∈ m.keys then 0 else 1) + unk fs t
theorem unk_set {fs : List FM} {i : Nat} {m m' : FM} {t : Int} (hm : fs[i]? = some m) (h1 : t ∉ m.keys) (h2 : t ∈ m'.keys) : unk (fs.set i m') t + 1 = unk fs t := by
  induction fs generalizing i with
  | nil => simp at hm
  | cons a fs ih =>
    cases i with
    | zero =>
      simp at hm; subst hm
      simp only [List.set_cons_zero, unk, if_neg h1, if_pos h2]; omega
    | succ i =>
      have := ih (i := i) (by simpa using hm)
      simp only [List.set_cons_succ, unk]; omega
theorem unk_same {fs : List FM} {i : Nat} {m m' : FM} {t : Int} (hm : fs[i]? = some m) (h : t ∈ m'.keys ↔ t ∈ m.keys) : unk (fs.set i m') t = unk fs t := by
  induction fs generalizing i with
  | nil => simp at hm
  | cons a fs ih =>
    cases i with
    | zero =>
      simp at hm; subst hm
      simp only [List.set_cons_zero, unk]
      by_cases ht : t ∈ a.keys
      · rw [if_pos ht, if_pos (h.2 ht)]
      · rw [if_neg ht, if_neg (fun e => ht (h.1 e))]
    | succ i =>
      have := ih (i := i) (by simpa using hm)
      simp only [List.set_cons_succ, unk]; omega
theorem unk_le (fs : List FM) (t : Int) : unk fs t ≤ fs.length := by
  induction fs with
  | nil => exact Nat.le_refl _
  | cons a fs ih => simp only [unk, List.length_cons]; split <;> omega
theorem map_r_set {fs : List FM} {i : Nat} {m m' : FM} (hm : fs[i]? = some m) (h : m'.r = m.r) : (fs.set i m').map (·.r) = fs.map (·.r) := by
  apply List.ext_getElem?
  intro j
  rw [List.getElem?_map, List.getElem?_map]
  by_cases hj : i = j
  · subst hj
    rw [List.getElem?_set_self (List.getElem?_eq_some_iff.1 hm).1, hm]
    simp [h]
  · rw [List.getElem?_set_ne hj]

structure VS where
  fi : List FM
  fo : List FM
  wait : List Int
  vw : Value
  Aw : HL
/-- From an instruction that is settled on: all that lead to it are looked at. -/
def Done (code : List Ins) (t : Int) (fi fo : List FM) (i : Nat) : Prop := ∀ (p : Nat) x, code[p]? = some x → (i : Int) ∈ nxt code p → kin fo p t ∧ (x.writes ≠ t → kin fi p t)
structure VInv (code : List Ins) (t : Int) (fi0 fo0 : List FM) (skip : Nat → Prop) (y : VS) : Prop where
  r1 : y.fi.map (·.r) = fi0.map (·.r)
  r2 : y.fo.map (·.r) = fo0.map (·.r)
  ok1 : ∀ m ∈ y.fi, m.Ok
  ok2 : ∀ m ∈ y.fo, m.OkI
  old1 : ∀ i t', t' ≠ t → (kin y.fi i t' ↔ kin fi0 i t')
  old2 : ∀ i t', t' ≠ t → (kin y.fo i t' ↔ kin fo0 i t')
  ow : OwnI y.vw y.wait y.Aw
  sub : ∀ i, kin y.fi i t → LiveIn code t i
  osub : ∀ i, kin y.fo i t → LiveOut code t i
  wt : ∀ k ∈ y.wait, ∃ u : Nat, k = u ∧ u < code.length ∧ kin y.fi u t
  cls : ∀ i, kin y.fi i t → ¬ skip i → (i : Int) ∈ y.wait ∨ Done code t y.fi y.fo i
  bd : y.wait.length + 2 * unk y.fi t ≤ 2 * code.length
theorem VInv.len1 {code : List Ins} {t : Int} {fi0 fo0 : List FM} {skip : Nat → Prop} {y : VS} (h : VInv code t fi0 fo0 skip y) : y.fi.length = fi0.length := by
  have := congrArg List.length h.r1; simpa using this
theorem VInv.len2 {code : List Ins} {t : Int} {fi0 fo0 : List FM} {skip : Nat → Prop} {y : VS} (h : VInv code t fi0 fo0 skip y) : y.fo.length = fo0.length := by
  have := congrArg List.length h.r2; simpa using this
theorem kin_mono {fs : List FM} {i j : Nat} {m m' : FM} {t : Int} (hm : fs[i]? = some m) (hk : ∀ k, k ∈ m'.keys ↔ k = t ∨ k ∈ m.keys) (h : kin fs j t) : kin (fs.set i m') j t := (kin_set hm hk).2 (.inr h)

/-- What a call of ahead does. -/
theorem VInv.ahead {code : List Ins} {t : Int} {fi0 fo0 : List FM} {skip : Nat → Prop} {y : VS} (h : VInv code t fi0 fo0 skip y) {i : Nat} {m : FM} (hi : i < code.length) (hm : y.fi[i]? = some m) (hl : LiveIn code t i) {z : AY}
    (hr : z.m.r = m.r) (hok : z.m.Ok) (ho : OwnI z.vw z.wait z.Aw) (hz : (t ∈ m.keys ∧ z.m.keys = m.keys ∧ z.wait = y.wait) ∨ (t ∉ m.keys ∧ (∀ k, k ∈ z.m.keys ↔ k = t ∨ k ∈ m.keys) ∧ z.wait = y.wait ++ [(i : Int)])) :
    VInv code t fi0 fo0 skip ⟨y.fi.set i z.m, y.fo, z.wait, z.vw, z.Aw⟩ ∧ kin (y.fi.set i z.m) i t ∧ (∀ j, kin y.fi j t → kin (y.fi.set i z.m) j t) ∧ z.wait.length + 2 * unk (y.fi.set i z.m) t ≤ y.wait.length + 2 * unk y.fi t := by
  have hkk : ∀ k, k ∈ z.m.keys ↔ k = t ∨ k ∈ m.keys := by
    rcases hz with ⟨h1, h2, _⟩ | ⟨_, h2, _⟩
    · intro k; rw [h2]
      exact ⟨.inr, fun h => h.elim (fun e => by rw [e]; exact h1) id⟩
    · exact h2
  have hks : ∀ j t', kin (y.fi.set i z.m) j t' ↔ (j = i ∧ t' = t) ∨ kin y.fi j t' := fun j t' => kin_set hm hkk
  have hmono : ∀ j, kin y.fi j t → kin (y.fi.set i z.m) j t := fun j hj => (hks j t).2 (.inr hj)
  have hmeas : z.wait.length + 2 * unk (y.fi.set i z.m) t ≤ y.wait.length + 2 * unk y.fi t := by
    rcases hz with ⟨h1, h2, h3⟩ | ⟨h1, h2, h3⟩
    · rw [h3, unk_same hm (by rw [h2])]
      exact Nat.le_refl _
    · have := unk_set hm h1 ((h2 t).2 (.inl rfl))
      rw [h3]; simp; omega
  have hw : ∀ k, k ∈ y.wait → k ∈ z.wait := fun k hk => by
    rcases hz with ⟨_, _, h3⟩ | ⟨_, _, h3⟩
    · rw [h3]; exact hk
    · rw [h3]; exact List.mem_append_left _ hk
  refine ⟨⟨?_, h.r2, fun m' hm' => ?_, h.ok2, fun j t' hne => ?_, h.old2, ho, fun j hj => ?_, h.osub, fun k hk => ?_, fun j hj hs => ?_, Nat.le_trans hmeas h.bd⟩, (hks i t).2 (.inl ⟨rfl, rfl⟩), hmono, hmeas⟩
  · exact (map_r_set hm hr).trans h.r1
  · rcases List.mem_or_eq_of_mem_set hm' with h1 | h1
    · exact h.ok1 m' h1
    · rw [h1]; exact hok
  · rw [← h.old1 j t' hne]
    refine (hks j t').trans ⟨fun h => h.elim (fun ⟨_, e⟩ => absurd e hne) id, .inr⟩
  · rcases (hks j t).1 hj with ⟨e, _⟩ | h1
    · rw [e]; exact hl
    · exact h.sub j h1
  · rcases hz with ⟨_, _, h3⟩ | ⟨_, _, h3⟩
    · simp only at hk
      rw [h3] at hk
      obtain ⟨u, e, hu, h1⟩ := h.wt k hk
      exact ⟨u, e, hu, hmono u h1⟩
    · simp only at hk
      rw [h3] at hk
      rcases List.mem_append.1 hk with h1 | h1
      · obtain ⟨u, e, hu, h1⟩ := h.wt k h1
        exact ⟨u, e, hu, hmono u h1⟩
      · simp at h1; exact ⟨i, h1, hi, (hks i t).2 (.inl ⟨rfl, rfl⟩)⟩
  · have old : kin y.fi j t → (j : Int) ∈ z.wait ∨ Done code t (y.fi.set i z.m) y.fo j := fun hj => by
      rcases h.cls j hj hs with h1 | h1
      · exact .inl (hw _ h1)
      · exact .inr (fun p x hp he => ⟨(h1 p x hp he).1, fun hw => hmono p ((h1 p x hp he).2 hw)⟩)
    rcases (hks j t).1 hj with ⟨e, _⟩ | h1
    · rcases hz with ⟨h2, _, _⟩ | ⟨_, _, h3⟩
      · exact old ⟨m, by rw [e]; exact hm, h2⟩
      · left; rw [h3, e]; simp
    · exact old h1
/-- What out[p][t]++ does. -/
theorem VInv.mark {code : List Ins} {t : Int} {fi0 fo0 : List FM} {skip : Nat → Prop} {y : VS} (h : VInv code t fi0 fo0 skip y) {p : Nat} {m m' : FM} (hm : y.fo[p]? = some m) (hl : LiveOut code t p) (hr : m'.r = m.r) (hok : m'.OkI) (hk : ∀ k, k ∈ m'.keys ↔ k = t ∨ k ∈ m.keys) :
    VInv code t fi0 fo0 skip ⟨y.fi, y.fo.set p m', y.wait, y.vw, y.Aw⟩ ∧ kin (y.fo.set p m') p t ∧ ∀ j, kin y.fo j t → kin (y.fo.set p m') j t := by
  have hks : ∀ j t', kin (y.fo.set p m') j t' ↔ (j = p ∧ t' = t) ∨ kin y.fo j t' := fun j t' => kin_set hm hk
  have hmono : ∀ j, kin y.fo j t → kin (y.fo.set p m') j t := fun j hj => (hks j t).2 (.inr hj)
  refine ⟨⟨h.r1, (map_r_set hm hr).trans h.r2, h.ok1, fun m2 hm2 => ?_, h.old1, fun j t' hne => ?_, h.ow, h.sub, fun j hj => ?_, h.wt, fun j hj hs => ?_, h.bd⟩, (hks p t).2 (.inl ⟨rfl, rfl⟩), hmono⟩
  · rcases List.mem_or_eq_of_mem_set hm2 with h1 | h1
    · exact h.ok2 m2 h1
    · rw [h1]; exact hok
  · rw [← h.old2 j t' hne]
    exact (hks j t').trans ⟨fun h => h.elim (fun ⟨_, e⟩ => absurd e hne) id, .inr⟩
  · rcases (hks j t).1 hj with ⟨e, _⟩ | h1
    · rw [e]; exact hl
    · exact h.osub j h1
  · rcases h.cls j hj hs with h1 | h1
    · exact .inl h1
    · exact .inr (fun q x hq he => ⟨hmono q (h1 q x hq he).1, (h1 q x hq he).2⟩)
/-- Where nothing waits all is told. -/
theorem VInv.fin {code : List Ins} {t : Int} {fi0 fo0 : List FM} {y : VS} (h : VInv code t fi0 fo0 (fun _ => False) y) (hw : y.wait = []) (hrd : ∀ (i : Nat) x, code[i]? = some x → t ∈ x.reads → kin y.fi i t) :
    (∀ i, kin y.fi i t ↔ LiveIn code t i) ∧ ∀ i, kin y.fo i t ↔ LiveOut code t i := by
  have hD : ∀ i, kin y.fi i t → Done code t y.fi y.fo i := fun i hi => by
    rcases h.cls i hi (fun h => h) with h1 | h1
    · rw [hw] at h1; cases h1
    · exact h1
  have key : ∀ i, LiveIn code t i → kin y.fi i t := by
    intro i hi
    induction hi with
    | @read i x h1 h2 => exact hrd i x h1 h2
    | @next i v x h1 h2 h3 _ ih => exact (hD v ih i x h1 h3).2 h2
  refine ⟨fun i => ⟨h.sub i, key i⟩, fun i => ⟨h.osub i, fun ⟨v, h1, h2⟩ => ?_⟩⟩
  have hil := nxt_lt h1
  exact (hD v (key v h2) i _ (List.getElem?_eq_getElem hil) h1).1
/-- Between two temporaries. -/
structure TInv (code : List Ins) (rsi rso : List Nat) (t : Int) (fi fo : List FM) : Prop where
  r1 : fi.map (·.r) = rsi
  r2 : fo.map (·.r) = rso
  ok1 : ∀ m ∈ fi, m.Ok
  ok2 : ∀ m ∈ fo, m.OkI
  inn : ∀ i t', kin fi i t' ↔ t' < t ∧ LiveIn code t' i
  out : ∀ i t', kin fo i t' ↔ t' < t ∧ LiveOut code t' i
theorem TInv.start {code : List Ins} {rsi rso : List Nat} {t : Int} {fi fo : List FM} (h : TInv code rsi rso t fi fo) (hn : fi.length ≤ code.length) : VInv code t fi fo (fun _ => False) ⟨fi, fo, [], .slice none 0 0, []⟩ where
  r1 := rfl
  r2 := rfl
  ok1 := h.ok1
  ok2 := h.ok2
  old1 := fun _ _ _ => Iff.rfl
  old2 := fun _ _ _ => Iff.rfl
  ow := OwnL.nil _ _ _
  sub := fun i hi => absurd ((h.inn i t).1 hi).1 (by omega)
  osub := fun i hi => absurd ((h.out i t).1 hi).1 (by omega)
  wt := fun k hk => by cases hk
  cls := fun i hi _ => absurd ((h.inn i t).1 hi).1 (by omega)
  bd := by have := unk_le fi t; simp only [List.length_nil]; omega
theorem VInv.next {code : List Ins} {rsi rso : List Nat} {t : Int} {fi fo : List FM} {y : VS} (h0 : TInv code rsi rso t fi fo) (h : VInv code t fi fo (fun _ => False) y) (hw : y.wait = []) (hrd : ∀ (i : Nat) x, code[i]? = some x → t ∈ x.reads → kin y.fi i t) :
    TInv code rsi rso (t + 1) y.fi y.fo := by
  obtain ⟨f1, f2⟩ := h.fin hw hrd
  refine ⟨h.r1.trans h0.r1, h.r2.trans h0.r2, h.ok1, h.ok2, fun i t' => ?_, fun i t' => ?_⟩
  · by_cases ht : t' = t
    · subst ht
      rw [f1]
      exact ⟨fun h => ⟨by omega, h⟩, fun h => h.2⟩
    · rw [h.old1 i t' ht, h0.inn]
      exact ⟨fun ⟨a, b⟩ => ⟨by omega, b⟩, fun ⟨a, b⟩ => ⟨by omega, b⟩⟩
  · by_cases ht : t' = t
    · subst ht
      rw [f2]
      exact ⟨fun h => ⟨by omega, h⟩, fun h => h.2⟩
    · rw [h.old2 i t' ht, h0.out]
      exact ⟨fun ⟨a, b⟩ => ⟨by omega, b⟩, fun ⟨a, b⟩ => ⟨by omega, b⟩⟩
/-- Who reads each temporary. -/
def rdSeen (code : List Ins) (i k : Nat) (t : Nat) (v : Int) : Prop := ∃ j : Nat, v = j ∧ ((j < i ∧ ∃ x, code[j]? = some x ∧ (t : Int) ∈ x.reads) ∨ (j = i ∧ ∃ x, code[j]? = some x ∧ (t : Int) ∈ x.reads.take k))
theorem rdSeen.zero {code : List Ins} {t : Nat} {v : Int} : ¬ rdSeen code 0 0 t v := by
  rintro ⟨j, _, ⟨h, _⟩ | ⟨_, x, _, h⟩⟩
  · omega
  · simp at h
theorem rdSeen.more {code : List Ins} {i k : Nat} {x : Ins} {t0 : Nat} (hx : code[i]? = some x) (ht : x.reads[k]? = some (t0 : Int)) (t : Nat) (v : Int) : rdSeen code i (k + 1) t v ↔ rdSeen code i k t v ∨ (t = t0 ∧ v = (i : Int)) := by
  have htk : x.reads.take (k + 1) = x.reads.take k ++ [(t0 : Int)] := by rw [List.take_add_one, ht]; rfl
  unfold rdSeen
  constructor
  · rintro ⟨j, e, h | ⟨h1, y, h2, h3⟩⟩
    · exact .inl ⟨j, e, .inl h⟩
    · rw [h1, hx] at h2; cases h2
      rw [htk] at h3
      rcases List.mem_append.1 h3 with h4 | h4
      · exact .inl ⟨j, e, .inr ⟨h1, x, by rw [h1]; exact hx, h4⟩⟩
      · simp at h4; exact .inr ⟨by omega, by rw [e, h1]⟩
  · rintro (⟨j, e, h | ⟨h1, y, h2, h3⟩⟩ | ⟨h1, h2⟩)
    · exact ⟨j, e, .inl h⟩
    · rw [h1, hx] at h2; cases h2
      exact ⟨j, e, .inr ⟨h1, x, by rw [h1]; exact hx, by rw [htk]; exact List.mem_append_left _ h3⟩⟩
    · exact ⟨i, h2, .inr ⟨rfl, x, hx, by rw [htk, h1]; simp⟩⟩
theorem rdSeen.next {code : List Ins} {i : Nat} {x : Ins} (hx : code[i]? = some x) (t : Nat) (v : Int) : rdSeen code (i + 1) 0 t v ↔ rdSeen code i x.reads.length t v := by
  unfold rdSeen
  constructor
  · rintro ⟨j, e, ⟨h1, y, h2, h3⟩ | ⟨_, y, _, h3⟩⟩
    · by_cases hj : j = i
      · rw [hj, hx] at h2; cases h2
        exact ⟨j, e, .inr ⟨hj, x, by rw [hj]; exact hx, by rw [List.take_length]; exact h3⟩⟩
      · exact ⟨j, e, .inl ⟨by omega, y, h2, h3⟩⟩
    · simp at h3
  · rintro ⟨j, e, ⟨h1, y, h2, h3⟩ | ⟨h1, y, h2, h3⟩⟩
    · exact ⟨j, e, .inl ⟨by omega, y, h2, h3⟩⟩
    · rw [h1, hx] at h2; cases h2
      rw [List.take_length] at h3
      exact ⟨j, e, .inl ⟨by omega, x, by rw [h1]; exact hx, h3⟩⟩
theorem rdSeen.all {code : List Ins} (t : Nat) (v : Int) : rdSeen code code.length 0 t v ↔ ∃ j : Nat, v = j ∧ ∃ x, code[j]? = some x ∧ (t : Int) ∈ x.reads := by
  unfold rdSeen
  constructor
  · rintro ⟨j, e, ⟨_, h⟩ | ⟨_, x, _, h⟩⟩
    · exact ⟨j, e, h⟩
    · simp at h
  · rintro ⟨j, e, x, h1, h2⟩
    exact ⟨j, e, .inl ⟨(List.getElem?_eq_some_iff.1 h1).1, x, h1, h2⟩⟩
end Go.Proofs.Ytpmkkmahimdjkaa
