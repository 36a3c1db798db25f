/-
  A reckoner for closed calls: trees by number; values whose blocks bear numbers of their own, and what they stand for.
  The reckoner's state, and how a world and a frame stand to it.
  Operations whose value needs no memory.
  What needs no memory, told by one function.
-/
import Derived.Test.YtpohhfggmaihpaaGreatDoorZ3
import Derived.Laws.StructEq
import Derived.Laws.Strings
import Derived.Orders

/- A reckoner for closed calls: trees by number; values whose blocks bear numbers of their own, and what they stand for. -/
namespace Go.Ev
open Go.Wk
set_option linter.unusedVariables false
set_option linter.unusedSimpArgs false

/-! ### Trees by number -/
inductive Tr (α : Type) where
  | e
  | n (l : Tr α) (v : Option α) (r : Tr α)

def Tr.get {α : Type} : Tr α → Nat → Option α
  | .e, _ => none
  | .n l v r, k => bif Nat.beq k 0 then v else bif Nat.beq (Nat.mod (Nat.sub k 1) 2) 0 then l.get (Nat.div (Nat.sub k 1) 2) else r.get (Nat.div (Nat.sub k 1) 2)

def Tr.put {α : Type} (x : Option α) : Nat → Tr α → Nat → Tr α
  | 0, t, _ => t
  | f + 1, .e, k => bif Nat.beq k 0 then .n .e x .e else bif Nat.beq (Nat.mod (Nat.sub k 1) 2) 0 then .n (Tr.put x f .e (Nat.div (Nat.sub k 1) 2)) none .e else .n .e none (Tr.put x f .e (Nat.div (Nat.sub k 1) 2))
  | f + 1, .n l v r, k => bif Nat.beq k 0 then .n l x r else bif Nat.beq (Nat.mod (Nat.sub k 1) 2) 0 then .n (Tr.put x f l (Nat.div (Nat.sub k 1) 2)) v r else .n l v (Tr.put x f r (Nat.div (Nat.sub k 1) 2))

theorem Tr.get_e {α : Type} (k : Nat) : (Tr.e : Tr α).get k = none := rfl
theorem Tr.get_n {α : Type} (l : Tr α) (v : Option α) (r : Tr α) (k : Nat) : (Tr.n l v r).get k = if k = 0 then v else if (k - 1) % 2 = 0 then l.get ((k - 1) / 2) else r.get ((k - 1) / 2) := by
  show (bif Nat.beq k 0 then v else bif Nat.beq ((k - 1) % 2) 0 then l.get ((k - 1) / 2) else r.get ((k - 1) / 2)) = _
  by_cases h : k = 0
  · subst h; rfl
  · have : Nat.beq k 0 = false := by cases hk : Nat.beq k 0 with
      | false => rfl
      | true => exact absurd (Nat.eq_of_beq_eq_true hk) h
    rw [this, if_neg h]
    by_cases h2 : (k - 1) % 2 = 0
    · rw [if_pos h2, h2]; rfl
    · have : Nat.beq ((k - 1) % 2) 0 = false := by cases hk : Nat.beq ((k - 1) % 2) 0 with
        | false => rfl
        | true => exact absurd (Nat.eq_of_beq_eq_true hk) h2
      rw [this, if_neg h2]; rfl

theorem Tr.put_e {α : Type} (x : Option α) (f k : Nat) : Tr.put x (f + 1) (.e : Tr α) k = if k = 0 then .n .e x .e else if (k - 1) % 2 = 0 then .n (Tr.put x f .e ((k - 1) / 2)) none .e else .n .e none (Tr.put x f .e ((k - 1) / 2)) := by
  show (bif Nat.beq k 0 then Tr.n Tr.e x Tr.e else bif Nat.beq ((k - 1) % 2) 0 then Tr.n (Tr.put x f .e ((k - 1) / 2)) none .e else Tr.n .e none (Tr.put x f .e ((k - 1) / 2))) = _
  by_cases h : k = 0
  · subst h; rfl
  · have : Nat.beq k 0 = false := by cases hk : Nat.beq k 0 with
      | false => rfl
      | true => exact absurd (Nat.eq_of_beq_eq_true hk) h
    rw [this, if_neg h]
    by_cases h2 : (k - 1) % 2 = 0
    · rw [if_pos h2, h2]; rfl
    · have : Nat.beq ((k - 1) % 2) 0 = false := by cases hk : Nat.beq ((k - 1) % 2) 0 with
        | false => rfl
        | true => exact absurd (Nat.eq_of_beq_eq_true hk) h2
      rw [this, if_neg h2]; rfl
theorem Tr.put_n {α : Type} (x : Option α) (f : Nat) (l : Tr α) (v : Option α) (r : Tr α) (k : Nat) : Tr.put x (f + 1) (.n l v r) k = if k = 0 then .n l x r else if (k - 1) % 2 = 0 then .n (Tr.put x f l ((k - 1) / 2)) v r else .n l v (Tr.put x f r ((k - 1) / 2)) := by
  show (bif Nat.beq k 0 then Tr.n l x r else bif Nat.beq ((k - 1) % 2) 0 then Tr.n (Tr.put x f l ((k - 1) / 2)) v r else Tr.n l v (Tr.put x f r ((k - 1) / 2))) = _
  by_cases h : k = 0
  · subst h; rfl
  · have : Nat.beq k 0 = false := by cases hk : Nat.beq k 0 with
      | false => rfl
      | true => exact absurd (Nat.eq_of_beq_eq_true hk) h
    rw [this, if_neg h]
    by_cases h2 : (k - 1) % 2 = 0
    · rw [if_pos h2, h2]; rfl
    · have : Nat.beq ((k - 1) % 2) 0 = false := by cases hk : Nat.beq ((k - 1) % 2) 0 with
        | false => rfl
        | true => exact absurd (Nat.eq_of_beq_eq_true hk) h2
      rw [this, if_neg h2]; rfl

theorem Tr.get_put {α : Type} (x : Option α) : ∀ (f : Nat) (t : Tr α) (k j : Nat), k + 1 < 2 ^ f → (Tr.put x f t k).get j = if j = k then x else t.get j
  | 0, t, k, j, h => by simp at h
  | f + 1, .e, k, j, h => by
    rw [Tr.put_e]
    by_cases hk : k = 0
    · subst hk; rw [if_pos rfl, Tr.get_n]
      by_cases hj : j = 0
      · simp [hj]
      · simp [hj, Tr.get_e]
    · rw [if_neg hk]
      have hb : (k - 1) / 2 + 1 < 2 ^ f := by have : 2 ^ (f + 1) = 2 * 2 ^ f := by rw [Nat.pow_succ]; omega
                                              omega
      by_cases hp : (k - 1) % 2 = 0
      · rw [if_pos hp, Tr.get_n]
        by_cases hj : j = 0
        · subst hj; rw [if_pos rfl, if_neg (Ne.symm hk)]; rfl
        · rw [if_neg hj]
          by_cases hq : (j - 1) % 2 = 0
          · rw [if_pos hq, Tr.get_put x f .e _ _ hb, Tr.get_e, Tr.get_e]
            by_cases he : j = k
            · subst he; simp
            · rw [if_neg he, if_neg (by omega)]
          · rw [if_neg hq, if_neg (by intro h; subst h; omega)]; rfl
      · rw [if_neg hp, Tr.get_n]
        by_cases hj : j = 0
        · subst hj; rw [if_pos rfl, if_neg (Ne.symm hk)]; rfl
        · rw [if_neg hj]
          by_cases hq : (j - 1) % 2 = 0
          · rw [if_pos hq, if_neg (by intro h; subst h; omega)]; rfl
          · rw [if_neg hq, Tr.get_put x f .e _ _ hb, Tr.get_e, Tr.get_e]
            by_cases he : j = k
            · subst he; simp
            · rw [if_neg he, if_neg (by omega)]
  | f + 1, .n l v r, k, j, h => by
    rw [Tr.put_n]
    by_cases hk : k = 0
    · subst hk; rw [if_pos rfl, Tr.get_n, Tr.get_n]
      by_cases hj : j = 0
      · simp [hj]
      · simp [hj]
    · rw [if_neg hk]
      have hb : (k - 1) / 2 + 1 < 2 ^ f := by have : 2 ^ (f + 1) = 2 * 2 ^ f := by rw [Nat.pow_succ]; omega
                                              omega
      by_cases hp : (k - 1) % 2 = 0
      · rw [if_pos hp, Tr.get_n, Tr.get_n]
        by_cases hj : j = 0
        · subst hj; rw [if_pos rfl, if_neg (Ne.symm hk), if_pos rfl]
        · rw [if_neg hj, if_neg hj]
          by_cases hq : (j - 1) % 2 = 0
          · rw [if_pos hq, if_pos hq, Tr.get_put x f l _ _ hb]
            by_cases he : j = k
            · subst he; simp
            · rw [if_neg he, if_neg (by omega)]
          · rw [if_neg hq, if_neg hq, if_neg (by intro h; subst h; omega)]
      · rw [if_neg hp, Tr.get_n, Tr.get_n]
        by_cases hj : j = 0
        · subst hj; rw [if_pos rfl, if_neg (Ne.symm hk), if_pos rfl]
        · rw [if_neg hj, if_neg hj]
          by_cases hq : (j - 1) % 2 = 0
          · rw [if_pos hq, if_pos hq, if_neg (by intro h; subst h; omega)]
          · rw [if_neg hq, if_neg hq, Tr.get_put x f r _ _ hb]
            by_cases he : j = k
            · subst he; simp
            · rw [if_neg he, if_neg (by omega)]

def TOP : Nat := 1099511627776
def Tr.set {α : Type} (t : Tr α) (k : Nat) (x : Option α) : Tr α := Tr.put x 40 t k
theorem Tr.get_set {α : Type} {t : Tr α} {k : Nat} (x : Option α) (h : Nat.blt (Nat.succ k) TOP = true) (j : Nat) : (t.set k x).get j = if j = k then x else t.get j :=
  Tr.get_put x 40 t k j (by have h1 : k + 1 < TOP := Nat.lt_of_lt_of_le (Nat.lt_succ_self _) (Nat.le_of_ble_eq_true h); exact h1)
/-- Out of a row. -/
def Tr.of {α : Type} : List (Nat × α) → Tr α
  | [] => .e
  | (k, v) :: r => (Tr.of r).set k (some v)

/-! ### Coded values -/
/-- Where a block of one's own lies: its number; for one that may grow, how many elements it holds, and the cells behind those that are told. -/
structure Loc where
  ad : Nat
  cap : Nat
  sp : List Value
abbrev Env := List (Nat × Loc)
def lcE : Env → Nat → Option Loc
  | [], _ => none
  | (j, l) :: r, k => bif Nat.beq j k then some l else lcE r k
theorem lcE_app {ρ : Env} (τ : Env) {k : Nat} {l : Loc} (h : lcE ρ k = some l) : lcE (ρ ++ τ) k = some l := by
  induction ρ with
  | nil => cases h
  | cons x r ih =>
    obtain ⟨j, m⟩ := x
    simp only [List.cons_append, lcE] at h ⊢
    cases hb : Nat.beq j k with
    | true => rw [hb, cond_true] at h; exact h
    | false => rw [hb, cond_false] at h; rw [cond_false]; exact ih h
theorem lcE_none {ρ : Env} (τ : Env) {k : Nat} (h : lcE ρ k = none) : lcE (ρ ++ τ) k = lcE τ k := by
  induction ρ with
  | nil => rfl
  | cons x r ih =>
    obtain ⟨j, m⟩ := x
    simp only [List.cons_append, lcE] at h ⊢
    cases hb : Nat.beq j k with
    | true => rw [hb] at h; cases h
    | false => rw [hb, cond_false] at h; rw [cond_false]; exact ih h
theorem lcE_new {ρ : Env} {k : Nat} (l : Loc) (h : lcE ρ k = none) : lcE (ρ ++ [(k, l)]) k = some l := by
  rw [lcE_none _ h]
  simp only [lcE, Nat.beq_refl, cond_true]
theorem lcE_other {ρ : Env} {k j : Nat} {l : Loc} (h : k ≠ j) : lcE (ρ ++ [(j, l)]) k = lcE ρ k := by
  cases hq : lcE ρ k with
  | some m => exact lcE_app _ hq
  | none =>
    rw [lcE_none _ hq]
    simp only [lcE]
    cases hb : Nat.beq j k with
    | true => exact absurd (Nat.eq_of_beq_eq_true hb).symm h
    | false => rfl
def BB : Nat := 1152921504606846976
def CC : Nat := 1180591620717411303424

def cad (ρ : Env) (b : Nat) : Option Nat := bif Nat.ble BB b then (lcE ρ (b - BB)).map Loc.ad else some b
def cA (ρ : Env) (a : Addr) : Option Addr := (cad ρ a.block).map fun b => ⟨b, a.off, a.spot⟩
def ccap (ρ : Env) (b c : Nat) : Option Nat := bif Nat.ble CC c then (bif Nat.ble BB b then (lcE ρ (b - BB)).map (fun l => l.cap - (c - CC)) else none) else some c
def cfn (ρ : Env) : Fn → Option Fn
  | .yield l => (cad ρ l).map .yield
  | f => some f

mutual
def conc (ρ : Env) : Value → Option Value
  | .bool b => some (.bool b)
  | .int k n => some (.int k n)
  | .float k n => some (.float k n)
  | .complex k a b => some (.complex k a b)
  | .string s => some (.string s)
  | .pointer none => some (.pointer none)
  | .pointer (some a) => (cA ρ a).map fun a => .pointer (some a)
  | .slice none n c => some (.slice none n c)
  | .slice (some a) n c => match cA ρ a, ccap ρ a.block c with
    | some a', some c' => bif Nat.ble n c' then some (.slice (some a') n c') else none
    | _, _ => none
  | .map none => some (.map none)
  | .map (some r) => (cad ρ r).map fun r => .map (some r)
  | .chan none => some (.chan none)
  | .chan (some _) => none
  | .func fn l m => match cfn ρ fn, concA ρ l, concA ρ m with
    | some fn', some l', some m' => some (.func fn' l' m')
    | _, _, _ => none
  | .nilFunc => some .nilFunc
  | .iface t v => (conc ρ v).map fun v => .iface t v
  | .nilIface => some .nilIface
  | .agg l => (concA ρ l).map .agg
  | .tuple l => (concA ρ l).map .tuple
def concA (ρ : Env) : Array Value → Option (Array Value)
  | ⟨l⟩ => (concs ρ l).map (⟨·⟩)
def concs (ρ : Env) : List Value → Option (List Value)
  | [] => some []
  | v :: r => match conc ρ v, concs ρ r with
    | some u, some us => some (u :: us)
    | _, _ => none
end

/-! ### Laws of coding -/
theorem concs_nil (ρ : Env) : concs ρ [] = some [] := by simp [concs]
theorem concs_cons {ρ : Env} {v : Value} {r us : List Value} : concs ρ (v :: r) = some us ↔ ∃ u t, conc ρ v = some u ∧ concs ρ r = some t ∧ us = u :: t := by
  simp only [concs]
  split
  · rename_i u t h1 h2
    constructor
    · intro h; cases h; exact ⟨u, t, h1, h2, rfl⟩
    · rintro ⟨u', t', h3, h4, rfl⟩
      rw [h1] at h3; rw [h2] at h4; cases h3; cases h4; rfl
  · rename_i hn
    constructor
    · intro h; cases h
    · rintro ⟨u, t, h1, h2, _⟩
      exact absurd h2 (hn u t h1)
theorem concA_mk {ρ : Env} {l : List Value} {us : Array Value} : concA ρ ⟨l⟩ = some us ↔ concs ρ l = some us.toList := by
  simp only [concA]
  cases h : concs ρ l with
  | none => simp
  | some t => constructor
              · intro h; cases h; rfl
              · intro h; cases h; rfl
theorem concA_iff {ρ : Env} {a us : Array Value} : concA ρ a = some us ↔ concs ρ a.toList = some us.toList := by
  cases a; exact concA_mk
theorem concs_len {ρ : Env} : ∀ {l us : List Value}, concs ρ l = some us → us.length = l.length
  | [], us, h => by rw [concs_nil] at h; cases h; rfl
  | v :: r, us, h => by
    obtain ⟨u, t, _, h2, rfl⟩ := concs_cons.1 h
    simp [concs_len h2]
theorem concs_get {ρ : Env} : ∀ {l us : List Value}, concs ρ l = some us → ∀ {i : Nat} {v : Value}, l[i]? = some v → ∃ u, us[i]? = some u ∧ conc ρ v = some u
  | [], us, h, i, v, hi => by simp at hi
  | v :: r, us, h, 0, x, hi => by
    obtain ⟨u, t, h1, h2, rfl⟩ := concs_cons.1 h
    simp at hi; subst hi; exact ⟨u, rfl, h1⟩
  | v :: r, us, h, i + 1, x, hi => by
    obtain ⟨u, t, h1, h2, rfl⟩ := concs_cons.1 h
    simp only [List.getElem?_cons_succ] at hi ⊢
    exact concs_get h2 hi
theorem concs_app {ρ : Env} : ∀ {l m us vs : List Value}, concs ρ l = some us → concs ρ m = some vs → concs ρ (l ++ m) = some (us ++ vs)
  | [], m, us, vs, h, h' => by rw [concs_nil] at h; cases h; exact h'
  | v :: r, m, us, vs, h, h' => by
    obtain ⟨u, t, h1, h2, rfl⟩ := concs_cons.1 h
    exact concs_cons.2 ⟨u, _, h1, concs_app h2 h', rfl⟩
theorem concs_take {ρ : Env} : ∀ {l us : List Value} (n : Nat), concs ρ l = some us → concs ρ (l.take n) = some (us.take n)
  | l, us, 0, h => by simp [concs_nil]
  | [], us, n + 1, h => by rw [concs_nil] at h; cases h; simp [concs_nil]
  | v :: r, us, n + 1, h => by
    obtain ⟨u, t, h1, h2, rfl⟩ := concs_cons.1 h
    exact concs_cons.2 ⟨u, _, h1, concs_take n h2, rfl⟩
theorem concs_drop {ρ : Env} : ∀ {l us : List Value} (n : Nat), concs ρ l = some us → concs ρ (l.drop n) = some (us.drop n)
  | l, us, 0, h => by simpa using h
  | [], us, n + 1, h => by rw [concs_nil] at h; cases h; simp [concs_nil]
  | v :: r, us, n + 1, h => by
    obtain ⟨u, t, h1, h2, rfl⟩ := concs_cons.1 h
    exact concs_drop n h2
theorem concs_set {ρ : Env} {v u : Value} (hv : conc ρ v = some u) : ∀ {l us : List Value} (n : Nat), concs ρ l = some us → concs ρ (l.set n v) = some (us.set n u)
  | [], us, n, h => by rw [concs_nil] at h; cases h; simp [concs_nil]
  | x :: r, us, 0, h => by
    obtain ⟨y, t, h1, h2, rfl⟩ := concs_cons.1 h
    exact concs_cons.2 ⟨u, _, hv, h2, rfl⟩
  | x :: r, us, n + 1, h => by
    obtain ⟨y, t, h1, h2, rfl⟩ := concs_cons.1 h
    exact concs_cons.2 ⟨y, _, h1, concs_set hv n h2, rfl⟩
theorem concs_one {ρ : Env} {v u : Value} (hv : conc ρ v = some u) : concs ρ [v] = some [u] := concs_cons.2 ⟨u, [], hv, concs_nil ρ, rfl⟩

theorem conc_func {ρ : Env} {fn fn' : Fn} {l l' m m' : List Value} (hf : cfn ρ fn = some fn') (h : concs ρ l = some l') (h' : concs ρ m = some m') : conc ρ (.func fn ⟨l⟩ ⟨m⟩) = some (.func fn' ⟨l'⟩ ⟨m'⟩) := by
  simp only [conc, concA, h, h', hf, Option.map_some]
theorem conc_int (ρ : Env) (k : IntKind) (n : Int) : conc ρ (.int k n) = some (.int k n) := by simp [conc]
theorem conc_bool (ρ : Env) (b : Bool) : conc ρ (.bool b) = some (.bool b) := by simp [conc]
theorem conc_str (ρ : Env) (b : ByteArray) : conc ρ (.string b) = some (.string b) := by simp [conc]
theorem conc_sn (ρ : Env) (n c : Nat) : conc ρ (.slice none n c) = some (.slice none n c) := by simp [conc]
theorem conc_pn (ρ : Env) : conc ρ (.pointer none) = some (.pointer none) := by simp [conc]
theorem conc_agg {ρ : Env} {l l' : List Value} (h : concs ρ l = some l') : conc ρ (.agg ⟨l⟩) = some (.agg ⟨l'⟩) := by
  simp only [conc, concA, h, Option.map_some]
theorem conc_tuple {ρ : Env} {l l' : List Value} (h : concs ρ l = some l') : conc ρ (.tuple ⟨l⟩) = some (.tuple ⟨l'⟩) := by
  simp only [conc, concA, h, Option.map_some]

theorem cad_mono {ρ : Env} (τ : Env) {b c : Nat} (h : cad ρ b = some c) : cad (ρ ++ τ) b = some c := by
  unfold cad at h ⊢
  cases hb : Nat.ble BB b with
  | true =>
    rw [hb] at h
    simp only [cond_true, Option.map_eq_some_iff] at h ⊢
    obtain ⟨l, h1, h2⟩ := h
    exact ⟨l, lcE_app _ h1, h2⟩
  | false => rw [hb] at h; exact h
theorem cA_mono {ρ : Env} (τ : Env) {a a' : Addr} (h : cA ρ a = some a') : cA (ρ ++ τ) a = some a' := by
  unfold cA at h ⊢
  simp only [Option.map_eq_some_iff] at h ⊢
  obtain ⟨b, h1, h2⟩ := h
  exact ⟨b, cad_mono τ h1, h2⟩
theorem ccap_mono {ρ : Env} (τ : Env) {b c c' : Nat} (h : ccap ρ b c = some c') : ccap (ρ ++ τ) b c = some c' := by
  unfold ccap at h ⊢
  cases hc : Nat.ble CC c with
  | false => rw [hc] at h; exact h
  | true =>
    rw [hc] at h
    simp only [cond_true] at h ⊢
    cases hb : Nat.ble BB b with
    | false => rw [hb] at h; cases h
    | true =>
      rw [hb] at h
      simp only [cond_true, Option.map_eq_some_iff] at h ⊢
      obtain ⟨l, h1, h2⟩ := h
      exact ⟨l, lcE_app _ h1, h2⟩
theorem cfn_mono {ρ : Env} (τ : Env) {f f' : Fn} (h : cfn ρ f = some f') : cfn (ρ ++ τ) f = some f' := by
  cases f <;> simp only [cfn] at h ⊢ <;> first | exact h | skip
  simp only [Option.map_eq_some_iff] at h ⊢
  obtain ⟨b, h1, h2⟩ := h
  exact ⟨b, cad_mono τ h1, h2⟩

theorem conc_slice {ρ : Env} {a : Addr} {n c : Nat} {u : Value} : conc ρ (.slice (some a) n c) = some u ↔ ∃ a' c', cA ρ a = some a' ∧ ccap ρ a.block c = some c' ∧ n ≤ c' ∧ u = .slice (some a') n c' := by
  simp only [conc]
  constructor
  · intro h
    split at h
    · rename_i a' c' h1 h2
      cases hb : Nat.ble n c' with
      | false => rw [hb] at h; cases h
      | true => rw [hb] at h; cases h; exact ⟨a', c', h1, h2, Nat.le_of_ble_eq_true hb, rfl⟩
    · cases h
  · rintro ⟨a', c', h1, h2, h3, rfl⟩
    rw [h1, h2]
    simp only [Nat.ble_eq_true_of_le h3, cond_true]

mutual
theorem conc_mono {ρ : Env} (τ : Env) : ∀ {v u : Value}, conc ρ v = some u → conc (ρ ++ τ) v = some u
  | .bool _, _, h => by simpa [conc] using h
  | .int _ _, _, h => by simpa [conc] using h
  | .float _ _, _, h => by simpa [conc] using h
  | .complex _ _ _, _, h => by simpa [conc] using h
  | .string _, _, h => by simpa [conc] using h
  | .pointer none, _, h => by simpa [conc] using h
  | .pointer (some a), _, h => by
    simp only [conc, Option.map_eq_some_iff] at h ⊢
    obtain ⟨b, h1, h2⟩ := h
    exact ⟨b, cA_mono τ h1, h2⟩
  | .slice none _ _, _, h => by simpa [conc] using h
  | .slice (some a) n c, u, h => by
    obtain ⟨a', c', h1, h2, h3, h4⟩ := conc_slice.1 h
    exact conc_slice.2 ⟨a', c', cA_mono τ h1, ccap_mono τ h2, h3, h4⟩
  | .map none, _, h => by simpa [conc] using h
  | .map (some r), _, h => by
    simp only [conc, Option.map_eq_some_iff] at h ⊢
    obtain ⟨b, h1, h2⟩ := h
    exact ⟨b, cad_mono τ h1, h2⟩
  | .chan none, _, h => by simpa [conc] using h
  | .chan (some _), _, h => by simp [conc] at h
  | .func fn l m, u, h => by
    simp only [conc] at h ⊢
    split at h
    · rename_i fn' l' m' h1 h2 h3
      rw [cfn_mono τ h1, concA_mono τ h2, concA_mono τ h3]; exact h
    · cases h
  | .nilFunc, _, h => by simpa [conc] using h
  | .iface t v, _, h => by
    simp only [conc, Option.map_eq_some_iff] at h ⊢
    obtain ⟨b, h1, h2⟩ := h
    exact ⟨b, conc_mono τ h1, h2⟩
  | .nilIface, _, h => by simpa [conc] using h
  | .agg l, _, h => by
    simp only [conc, Option.map_eq_some_iff] at h ⊢
    obtain ⟨b, h1, h2⟩ := h
    exact ⟨b, concA_mono τ h1, h2⟩
  | .tuple l, _, h => by
    simp only [conc, Option.map_eq_some_iff] at h ⊢
    obtain ⟨b, h1, h2⟩ := h
    exact ⟨b, concA_mono τ h1, h2⟩
theorem concA_mono {ρ : Env} (τ : Env) : ∀ {l us : Array Value}, concA ρ l = some us → concA (ρ ++ τ) l = some us
  | ⟨l⟩, us, h => concA_mk.2 (concs_mono τ (concA_mk.1 h))
theorem concs_mono {ρ : Env} (τ : Env) : ∀ {l us : List Value}, concs ρ l = some us → concs (ρ ++ τ) l = some us
  | [], _, h => by simpa [concs] using h
  | v :: r, us, h => by
    obtain ⟨u, t, h1, h2, h3⟩ := concs_cons.1 h
    exact concs_cons.2 ⟨u, t, conc_mono τ h1, concs_mono τ h2, h3⟩
end

/-- Values that speak of no memory of one's own. -/
def cst : Nat → Value → Bool
  | 0, _ => false
  | f + 1, v => match v with
    | .bool _ => true
    | .int _ _ => true
    | .float _ _ => true
    | .complex _ _ _ => true
    | .string _ => true
    | .pointer none => true
    | .pointer (some a) => Nat.blt a.block BB
    | .slice none _ _ => true
    | .slice (some a) n c => Nat.blt a.block BB && Nat.blt c CC && Nat.ble n c
    | .map none => true
    | .map (some r) => Nat.blt r BB
    | .chan none => true
    | .chan (some _) => false
    | .func fn l m => (match fn with | .yield _ => false | _ => true) && l.toList.all (cst f) && m.toList.all (cst f)
    | .nilFunc => true
    | .iface _ v => cst f v
    | .nilIface => true
    | .agg l => l.toList.all (cst f)
    | .tuple l => l.toList.all (cst f)
theorem cad_lt {ρ : Env} {b : Nat} (h : Nat.blt b BB = true) : cad ρ b = some b := by
  have h1 : b < BB := Nat.lt_of_lt_of_le (Nat.lt_succ_self _) (Nat.le_of_ble_eq_true h)
  have : Nat.ble BB b = false := by
    cases hb : Nat.ble BB b with
    | false => rfl
    | true => exact absurd (Nat.le_of_ble_eq_true hb) (by omega)
  simp [cad, this]
theorem ccap_lt {ρ : Env} {b c : Nat} (h : Nat.blt c CC = true) : ccap ρ b c = some c := by
  have h1 : c < CC := Nat.lt_of_lt_of_le (Nat.lt_succ_self _) (Nat.le_of_ble_eq_true h)
  have : Nat.ble CC c = false := by
    cases hb : Nat.ble CC c with
    | false => rfl
    | true => exact absurd (Nat.le_of_ble_eq_true hb) (by omega)
  simp [ccap, this]
theorem concs_all {ρ : Env} {p : Value → Bool} (hp : ∀ v, p v = true → conc ρ v = some v) : ∀ {l : List Value}, l.all p = true → concs ρ l = some l
  | [], _ => concs_nil ρ
  | v :: r, h => by
    simp only [List.all_cons, Bool.and_eq_true] at h
    exact concs_cons.2 ⟨v, r, hp v h.1, concs_all hp h.2, rfl⟩
theorem cst_conc {ρ : Env} : ∀ {f : Nat} {v : Value}, cst f v = true → conc ρ v = some v
  | 0, v, h => by simp [cst] at h
  | f + 1, v, h => by
    have ih : ∀ {l : List Value}, l.all (cst f) = true → concs ρ l = some l := fun h => concs_all (fun v hv => cst_conc hv) h
    have ihA : ∀ {l : Array Value}, l.toList.all (cst f) = true → concA ρ l = some l := fun {l} h => concA_iff.2 (ih h)
    cases v with
    | pointer a => cases a with
      | none => simp [conc]
      | some a => simp only [cst] at h; simp [conc, cA, cad_lt h]
    | slice a n c => cases a with
      | none => simp [conc]
      | some a => simp only [cst, Bool.and_eq_true] at h; simp [conc, cA, cad_lt h.1.1, ccap_lt h.1.2, h.2]
    | map r => cases r with
      | none => simp [conc]
      | some r => simp only [cst] at h; simp [conc, cad_lt h]
    | chan r => cases r with
      | none => simp [conc]
      | some r => simp [cst] at h
    | func fn l m =>
      simp only [cst, Bool.and_eq_true] at h
      have hf : cfn ρ fn = some fn := by cases fn <;> simp_all [cfn]
      simp only [conc, hf, ihA h.1.2, ihA h.2]
    | iface t v => simp only [cst] at h; simp [conc, cst_conc h]
    | agg l => simp only [cst] at h; simp [conc, ihA h]
    | tuple l => simp only [cst] at h; simp [conc, ihA h]
    | _ => simp [conc]
end Go.Ev

/- The reckoner's state, and how a world and a frame stand to it. -/
namespace Go.Ev
open Go.Wk
set_option linter.unusedVariables false
set_option linter.unusedSimpArgs false

structure Fm where
  N : Nat
  t : Tr Value
  ds : List Deferred

/-- The entries of functions without a body that are known: by a number. -/
def xrow (bt : TypeId) : Nat → Array Value → Sem Value
  | 0 => Extern.AbiNoEscape.same
  | 1 => Extern.BytealgIndexByte.indexByte
  | 2 => Extern.BytealgCount.count
  | 3 => Extern.BytealgMakeNoZero.makeNoZero #[] #[bt]
  | _ => fun _ => stuck "no such entry"

structure Ct where
  s : Sx
  tt : Tr Ti
  ft : Tr Func
  gl : Tr Obj
  xt : Tr Nat
  bt : TypeId
  okX : ∀ f c, xt.get f = some c → ∀ args w, (callFunc f args).run s.P w = ((xrow bt c args).run s.P w).andThen fun v w' => .ok (.value v) w'
  okL : ∀ t i, tt.get t = some i → tl s.tab t = some i
  okF : ∀ f fn, ft.get f = some fn → s.P.funcs[f]? = some fn ∧ (fn.name == "runtime.NumGoroutine") = false
  mixed : s.P.follows .mixedOrders = true
abbrev Ct.P (C : Ct) : Program := C.s.P
theorem Ct.okT (C : Ct) (t : TypeId) (i : Ti) (h : C.tt.get t = some i) : tiOf C.P t = some i := C.s.ok.at (C.okL t i h)
def Ct.X (C : Ct) : Cx := ⟨C.s, none, 0, 0, [], default, []⟩

def concD (ρ : Env) (d : Deferred) : Option Deferred := match d with
  | ⟨.fn f m, l⟩ => match cfn ρ f, concA ρ m, concA ρ l with
    | some f', some m', some l' => some ⟨.fn f' m', l'⟩
    | _, _, _ => none
  | ⟨.collected r, l⟩ => match cad ρ r, concA ρ l with
    | some r', some l' => some ⟨.collected r', l'⟩
    | _, _ => none
  | _ => none
def concDs (ρ : Env) : List Deferred → Option (List Deferred)
  | [] => some []
  | d :: r => match concD ρ d, concDs ρ r with
    | some d', some r' => some (d' :: r')
    | _, _ => none
theorem concD_mono {ρ : Env} (τ : Env) {d d' : Deferred} (h : concD ρ d = some d') : concD (ρ ++ τ) d = some d' := by
  unfold concD at h ⊢
  split at h
  · split at h
    · rename_i h1 h2 h3
      rw [cfn_mono τ h1, concA_mono τ h2, concA_mono τ h3]; exact h
    · cases h
  · split at h
    · rename_i h1 h2
      rw [cad_mono τ h1, concA_mono τ h2]; exact h
    · cases h
  · cases h
theorem concDs_mono {ρ : Env} (τ : Env) : ∀ {l us : List Deferred}, concDs ρ l = some us → concDs (ρ ++ τ) l = some us
  | [], _, h => by simpa [concDs] using h
  | d :: r, us, h => by
    simp only [concDs] at h ⊢
    split at h
    · rename_i h1 h2
      rw [concD_mono τ h1, concDs_mono τ h2]; exact h
    · cases h

/-! ### Frames -/
structure Fr (ρ : Env) (N : Nat) (fm : Fm) (a : Act) : Prop where
  nn : fm.N = N
  size : a.tmps.size = N
  kn : ∀ i v, fm.t.get i = some v → ∃ u, conc ρ v = some u ∧ a.tmps.getD i undef = u
  un : ∀ i, fm.t.get i = none → a.tmps.getD i undef = undef
  ds : concDs ρ fm.ds = some a.defers
theorem Fr.mono {ρ : Env} (τ : Env) {N : Nat} {fm : Fm} {a : Act} (h : Fr ρ N fm a) : Fr (ρ ++ τ) N fm a :=
  ⟨h.nn, h.size, fun i v hi => let ⟨u, h1, h2⟩ := h.kn i v hi; ⟨u, conc_mono τ h1, h2⟩, h.un, concDs_mono τ h.ds⟩

def evE (t : Tr Value) : Operand → Option Value
  | .tmp i => t.get i
  | .const v => bif cst 8 v then some v else none
  | .global g => bif Nat.blt g BB then some (.pointer (some ⟨g, 0, none⟩)) else none
  | .func f => some (.func (.func f) #[] #[])
theorem evE_spec {ρ : Env} {N : Nat} {fm : Fm} {a : Act} (h : Fr ρ N fm a) {x : Operand} {v : Value} (hx : evE fm.t x = some v) : ∃ u, conc ρ v = some u ∧ a.eval x = u := by
  cases x with
  | tmp i => exact h.kn i v hx
  | const c =>
    simp only [evE] at hx
    cases hc : cst 8 c with
    | false => rw [hc] at hx; cases hx
    | true => rw [hc] at hx; cases hx; exact ⟨_, cst_conc hc, rfl⟩
  | global g =>
    simp only [evE] at hx
    cases hc : Nat.blt g BB with
    | false => rw [hc] at hx; cases hx
    | true => rw [hc] at hx; cases hx; exact ⟨.pointer (some ⟨g, 0, none⟩), by simp [conc, cA, cad_lt hc], rfl⟩
  | func f => simp only [evE] at hx; cases hx; exact ⟨.func (.func f) #[] #[], by simp [conc, cfn, concA, concs], rfl⟩

def evEs (t : Tr Value) : List Operand → Option (List Value)
  | [] => some []
  | x :: r => match evE t x, evEs t r with
    | some v, some vs => some (v :: vs)
    | _, _ => none
theorem evEs_spec {ρ : Env} {N : Nat} {fm : Fm} {a : Act} (h : Fr ρ N fm a) : ∀ {xs : List Operand} {vs : List Value}, evEs fm.t xs = some vs → concs ρ vs = some (xs.map a.eval)
  | [], vs, he => by simp only [evEs] at he; cases he; exact concs_nil ρ
  | x :: r, vs, he => by
    simp only [evEs] at he
    split at he
    · rename_i v vs' h1 h2
      cases he
      obtain ⟨u, hu, he⟩ := evE_spec h h1
      exact concs_cons.2 ⟨u, _, hu, evEs_spec h h2, by simp [he]⟩
    · cases he

def Fm.put (fm : Fm) (d : Option Nat) (v : Value) : Option Fm := match d with
  | none => some fm
  | some d => bif Nat.blt d fm.N && Nat.blt (Nat.succ d) TOP then some { fm with t := fm.t.set d (some v) } else none
theorem Fr.put {ρ : Env} {N : Nat} {fm fm' : Fm} {a : Act} (h : Fr ρ N fm a) {d : Option Nat} {v u : Value} (hv : conc ρ v = some u) (he : fm.put d v = some fm') : Fr ρ N fm' (a.put d u) := by
  cases d with
  | none => simp only [Fm.put] at he; cases he; exact h
  | some d =>
    simp only [Fm.put] at he
    cases hb : (Nat.blt d fm.N && Nat.blt (Nat.succ d) TOP) with
    | false => rw [hb] at he; cases he
    | true =>
      rw [hb, cond_true] at he; cases he
      simp only [Bool.and_eq_true] at hb
      obtain ⟨hdn, hb⟩ := hb
      have hlt : d < a.tmps.size := by rw [h.size, ← h.nn]; exact Nat.lt_of_lt_of_le (Nat.lt_succ_self d) (Nat.le_of_ble_eq_true hdn)
      refine ⟨h.nn, by simp [Act.put, h.size], fun i w hi => ?_, fun i hi => ?_, by simpa [Act.put] using h.ds⟩
      rotate_left
      · rw [Tr.get_set _ hb] at hi
        by_cases hid : i = d
        · rw [if_pos hid] at hi; cases hi
        · rw [if_neg hid] at hi
          have hu := h.un i hi
          simp only [Act.put, Array.getD_eq_getD_getElem?] at hu ⊢
          rw [Array.getElem?_setIfInBounds_ne (Ne.symm hid)]
          exact hu
      rw [Tr.get_set _ hb] at hi
      by_cases hid : i = d
      · subst hid
        rw [if_pos rfl] at hi
        cases hi
        exact ⟨u, hv, by simp [Act.put, hlt]⟩
      · rw [if_neg hid] at hi
        obtain ⟨u', h1, h2⟩ := h.kn i w hi
        refine ⟨u', h1, ?_⟩
        rw [← h2]
        simp only [Act.put, Array.getD_eq_getD_getElem?]
        rw [Array.getElem?_setIfInBounds_ne (Ne.symm hid)]

/-! ### Memory -/
/-- n: the next block's number; m: the one behind it, and from there on; rs: numbers held back. -/
structure St where
  n : Nat
  m : Nat
  rs : List Nat
  h : Tr Obj

def concE (ρ : Env) : List MapEntry → Option (List MapEntry)
  | [] => some []
  | ⟨k, v, b⟩ :: r => match conc ρ k, conc ρ v, concE ρ r with
    | some k', some v', some r' => some (⟨k', v', b⟩ :: r')
    | _, _, _ => none
/-- What is frozen of a row: as it is told, or the place behind its room. -/
def fzc (L : Loc) (fz : Nat × Nat) : Nat × Nat := bif Nat.ble BB fz.1 then (L.cap, L.cap + 1) else fz
@[simp] theorem fzc_z (L : Loc) (n : Nat) : fzc L (0, n) = (0, n) := rfl
def concO (C : Ct) (ρ : Env) (L : Loc) : Obj → Option Obj
  | .cells l e fz => (concs ρ l.toList).bind fun l' => bif Nat.ble BB e then (match C.tt.get (e - BB) with
      | some te => bif Nat.beq (l' ++ L.sp).length (L.cap * te.sz) then some (.cells ⟨l' ++ L.sp⟩ (e - BB) (fzc L fz)) else none
      | none => none) else (match L.sp with
    | [] => some (.cells ⟨l'⟩ e (fzc L fz))
    | _ :: _ => none)
  | .map es c => (concE ρ es.toList).map fun es' => .map ⟨es'⟩ c
  | .stringIter s p => some (.stringIter s p)
  | .mapIter m since seen st => match m with
    | none => some (.mapIter none since seen st)
    | some r => (cad ρ r).map fun r' => .mapIter (some r') since seen st
  | .loop l => match concA ρ l.tmps, cad ρ l.defers with
    | some t', some d' => some (.loop { l with tmps := t', defers := d', fn := L.cap })
    | _, _ => none
  | .deferred none => some (.deferred none)
  | .deferred (some ds) => (concDs ρ ds).map fun ds' => .deferred (some ds')
  | _ => none
theorem concE_mono {ρ : Env} (τ : Env) : ∀ {l us : List MapEntry}, concE ρ l = some us → concE (ρ ++ τ) l = some us
  | [], _, h => by simpa [concE] using h
  | ⟨k, v, b⟩ :: r, us, h => by
    simp only [concE] at h ⊢
    split at h
    · rename_i h1 h2 h3
      rw [conc_mono τ h1, conc_mono τ h2, concE_mono τ h3]; exact h
    · cases h
theorem concO_eq {C : Ct} {ρ : Env} {L : Loc} {l : Array Value} {e : TypeId} {fz : Nat × Nat} : concO C ρ L (.cells l e fz) = (concs ρ l.toList).bind fun l' => bif Nat.ble BB e then (match C.tt.get (e - BB) with
      | some te => bif Nat.beq (l' ++ L.sp).length (L.cap * te.sz) then some (.cells ⟨l' ++ L.sp⟩ (e - BB) (fzc L fz)) else none
      | none => none) else (match L.sp with
    | [] => some (.cells ⟨l'⟩ e (fzc L fz))
    | _ :: _ => none) := rfl
/-- A row of cells, as it lies. -/
theorem concO_cells {C : Ct} {ρ : Env} {L : Loc} {l : Array Value} {e : TypeId} {fz : Nat × Nat} {o : Obj} (h : concO C ρ L (.cells l e fz) = some o) :
    ∃ l' e', concs ρ l.toList = some l' ∧ o = .cells ⟨l' ++ L.sp⟩ e' (fzc L fz) ∧ ((Nat.ble BB e = true ∧ e' = e - BB ∧ ∃ te, C.tt.get (e - BB) = some te ∧ (l' ++ L.sp).length = L.cap * te.sz) ∨ (Nat.ble BB e = false ∧ e' = e ∧ L.sp = [])) := by
  rw [concO_eq] at h
  obtain ⟨l', h1, h2⟩ := Option.bind_eq_some_iff.1 h
  cases hb : Nat.ble BB e with
  | true =>
    rw [hb, cond_true] at h2
    split at h2
    · rename_i te ht
      cases hq : Nat.beq (l' ++ L.sp).length (L.cap * te.sz) with
      | false => rw [hq, cond_false] at h2; cases h2
      | true =>
        rw [hq, cond_true] at h2
        exact ⟨l', _, h1, (Option.some.inj h2).symm, .inl ⟨rfl, rfl, te, ht, Nat.eq_of_beq_eq_true hq⟩⟩
    · cases h2
  | false =>
    rw [hb, cond_false] at h2
    split at h2
    · rename_i hs
      cases h2; exact ⟨l', e, h1, by rw [hs, List.append_nil], .inr ⟨rfl, rfl, hs⟩⟩
    · cases h2
theorem concO_mk {C : Ct} {ρ : Env} {l l' : List Value} {e : TypeId} {n : Nat} {a c : Nat} (h : concs ρ l = some l') (he : Nat.ble BB e = false) : concO C ρ ⟨a, c, []⟩ (.cells ⟨l⟩ e (0, n)) = some (.cells ⟨l'⟩ e (0, n)) := by
  rw [concO_eq, h]
  rw [Option.bind_some, he, cond_false]
  rfl
theorem concO_grow {C : Ct} {ρ : Env} {l l' : List Value} {L : Loc} {e : TypeId} {fz : Nat × Nat} {te : Ti} (h : concs ρ l = some l') (ht : C.tt.get e = some te) (hn : (l' ++ L.sp).length = L.cap * te.sz) : concO C ρ L (.cells ⟨l⟩ (e + BB) fz) = some (.cells ⟨l' ++ L.sp⟩ e (fzc L fz)) := by
  rw [concO_eq, h]
  have h1 : Nat.ble BB (e + BB) = true := by generalize BB = q; exact Nat.ble_eq_true_of_le (Nat.le_add_left _ _)
  have h2 : e + BB - BB = e := by generalize BB = q; exact Nat.add_sub_cancel e q
  rw [Option.bind_some, h1, cond_true, h2, ht]
  have h3 : Nat.beq (l' ++ L.sp).length (L.cap * te.sz) = true := by rw [hn]; exact Nat.beq_refl _
  show (bif Nat.beq (l' ++ L.sp).length (L.cap * te.sz) then some (Obj.cells ⟨l' ++ L.sp⟩ e (fzc L fz)) else none) = _
  rw [h3, cond_true]
/-- The same row with other cells told, as many. -/
theorem concO_put {C : Ct} {ρ : Env} {L : Loc} {l : Array Value} {e : TypeId} {fz fz' : Nat × Nat} {o : Obj} {m m' : List Value} (h : concO C ρ L (.cells l e fz) = some o) (hm : concs ρ m = some m') (hlen : m.length = l.toList.length) :
    ∃ e', concO C ρ L (.cells ⟨m⟩ e fz') = some (.cells ⟨m' ++ L.sp⟩ e' (fzc L fz')) ∧ ∃ l', concs ρ l.toList = some l' ∧ o = .cells ⟨l' ++ L.sp⟩ e' (fzc L fz) := by
  obtain ⟨l', e', h1, rfl, h3⟩ := concO_cells h
  refine ⟨e', ?_, l', h1, rfl⟩
  rw [concO_eq, hm, Option.bind_some]
  rcases h3 with ⟨hb, he, te, ht, hn⟩ | ⟨hb, he, hs⟩
  · have hn' : (m' ++ L.sp).length = L.cap * te.sz := by
      rw [← hn, List.length_append, List.length_append, concs_len hm, concs_len h1, hlen]
    rw [hb, cond_true, ht, he]
    have h4 : Nat.beq (m' ++ L.sp).length (L.cap * te.sz) = true := by rw [hn']; exact Nat.beq_refl _
    show (bif Nat.beq (m' ++ L.sp).length (L.cap * te.sz) then some (Obj.cells ⟨m' ++ L.sp⟩ _ (fzc L fz')) else none) = _
    rw [h4, cond_true]
  · rw [hb, cond_false, he, hs, List.append_nil]
theorem concO_mono {C : Ct} {ρ : Env} (τ : Env) {L : Loc} {o o' : Obj} (h : concO C ρ L o = some o') : concO C (ρ ++ τ) L o = some o' := by
  unfold concO at h ⊢
  split at h
  · obtain ⟨b, h1, h2⟩ := Option.bind_eq_some_iff.1 h
    exact Option.bind_eq_some_iff.2 ⟨b, concs_mono τ h1, h2⟩
  · simp only [Option.map_eq_some_iff] at h ⊢
    obtain ⟨b, h1, h2⟩ := h
    exact ⟨b, concE_mono τ h1, h2⟩
  · exact h
  · split at h
    · exact h
    · simp only [Option.map_eq_some_iff] at h ⊢
      obtain ⟨b, h1, h2⟩ := h
      exact ⟨b, cad_mono τ h1, h2⟩
  · split at h
    · rename_i h1 h2
      rw [concA_mono τ h1, cad_mono τ h2]; exact h
    · cases h
  · exact h
  · simp only [Option.map_eq_some_iff] at h ⊢
    obtain ⟨b, h1, h2⟩ := h
    exact ⟨b, concDs_mono τ h1, h2⟩
  · cases h

/-- The world w, begun at w0 (of which the blocks D were one's own), holds what the state says. -/
structure Sr (C : Ct) (w0 : World) (D : Nat → Prop) (ρ : Env) (s : St) (w : World) : Prop where
  un : lcE ρ s.n = none
  nm : s.n < s.m
  up : ∀ k, s.m ≤ k → lcE ρ k = none
  rv : ∀ k, k ∈ s.rs → lcE ρ k = none ∧ k < s.m ∧ k ≠ s.n
  holds : ∀ k o, s.h.get k = some o → ∃ l o', lcE ρ k = some l ∧ concO C ρ l o = some o' ∧ w.heap[l.ad]? = some o'
  inj : ∀ k k' o o' l l', s.h.get k = some o → s.h.get k' = some o' → lcE ρ k = some l → lcE ρ k' = some l' → l.ad = l'.ad → k = k'
  fresh : ∀ k o l, s.h.get k = some o → lcE ρ k = some l → D l.ad ∨ w0.heap.size ≤ l.ad
  keep : ∀ b, b < w0.heap.size → ¬ D b → w.heap[b]? = w0.heap[b]?
  size : w0.heap.size ≤ w.heap.size
  os : w.os = w0.os
  tape : w.tape = w0.tape
  output : w.output = w0.output
  glob : ∀ g o, C.gl.get g = some o → w.heap[g]? = some o ∧ ∀ k o' l, s.h.get k = some o' → lcE ρ k = some l → l.ad ≠ g

section
variable {C : Ct} {w0 : World} {D : Nat → Prop} {ρ : Env} {s : St} {w : World}

theorem Sr.drew (h : Sr C w0 D ρ s w) : Sr C w0 D ρ s { w with drawn := w.drawn + 1 } :=
  ⟨h.un, h.nm, h.up, h.rv, h.holds, h.inj, h.fresh, h.keep, h.size, h.os, h.tape, h.output, h.glob⟩

theorem Sr.lt (h : Sr C w0 D ρ s w) {k : Nat} {o : Obj} {l : Loc} (hk : s.h.get k = some o) (hl : lcE ρ k = some l) : l.ad < w.heap.size := by
  obtain ⟨l', o', h1, _, h3⟩ := h.holds k o hk
  rw [hl] at h1; cases h1
  exact (Array.getElem?_eq_some_iff.1 h3).1
def St.new (s : St) (o : Obj) : Option St := bif Nat.blt (Nat.succ s.n) TOP then some ⟨s.m, Nat.succ s.m, s.rs, s.h.set s.n (some o)⟩ else none
def St.upd (s : St) (k : Nat) (o : Option Obj) : Option St := bif Nat.blt (Nat.succ k) TOP then some ⟨s.n, s.m, s.rs, s.h.set k o⟩ else none
/-- One more block of a number that was not in use: the numbers. -/
theorem Sr.nums (h : Sr C w0 D ρ s w) (l : Loc) : lcE (ρ ++ [(s.n, l)]) s.m = none ∧ s.m < Nat.succ s.m ∧ (∀ k, Nat.succ s.m ≤ k → lcE (ρ ++ [(s.n, l)]) k = none) ∧ ∀ k, k ∈ s.rs → lcE (ρ ++ [(s.n, l)]) k = none ∧ k < Nat.succ s.m ∧ k ≠ s.m := by
  have hnm := h.nm
  refine ⟨?_, Nat.lt_succ_self _, fun k hk => ?_, fun k hk => ?_⟩
  · rw [lcE_other (by omega)]; exact h.up _ (Nat.le_refl _)
  · rw [lcE_other (by omega)]; exact h.up _ (by omega)
  · obtain ⟨h1, h2, h3⟩ := h.rv k hk
    refine ⟨by rw [lcE_other h3]; exact h1, by omega, by omega⟩

/-- A new block. -/
theorem Sr.alloc (h : Sr C w0 D ρ s w) {o o' : Obj} {cap : Nat} {sp : List Value} {s' : St} (ho : concO C (ρ ++ [(s.n, ⟨w.heap.size, cap, sp⟩)]) ⟨w.heap.size, cap, sp⟩ o = some o') (hs : s.new o = some s') :
    Sr C w0 D (ρ ++ [(s.n, ⟨w.heap.size, cap, sp⟩)]) s' (w.alloc o') := by
  unfold St.new at hs
  cases hb : Nat.blt (Nat.succ s.n) TOP with
  | false => rw [hb] at hs; cases hs
  | true =>
    rw [hb] at hs; cases hs
    have look : ∀ k l, k ≠ s.n → lcE (ρ ++ [(s.n, (⟨w.heap.size, cap, sp⟩ : Loc))]) k = some l → lcE ρ k = some l := fun k l hk hl => by rwa [lcE_other hk] at hl
    have newl : ∀ l, lcE (ρ ++ [(s.n, (⟨w.heap.size, cap, sp⟩ : Loc))]) s.n = some l → l = ⟨w.heap.size, cap, sp⟩ := fun l hl => by
      rw [lcE_new _ h.un] at hl; exact (Option.some.inj hl).symm
    have hg : ∀ k x, (s.h.set s.n (some o)).get k = some x → (k = s.n ∧ x = o) ∨ (k ≠ s.n ∧ s.h.get k = some x) := fun k x hk => by
      rw [Tr.get_set _ hb] at hk
      by_cases hkn : k = s.n
      · rw [if_pos hkn] at hk; cases hk; exact .inl ⟨hkn, rfl⟩
      · rw [if_neg hkn] at hk; exact .inr ⟨hkn, hk⟩
    have hnums := h.nums ⟨w.heap.size, cap, sp⟩
    refine ⟨hnums.1, hnums.2.1, hnums.2.2.1, hnums.2.2.2, fun k x hk => ?_, fun k k' x x' l l' hk hk' hl hl' he => ?_, fun k x l hk hl => ?_, fun b hb' hn => ?_, ?_, h.os, h.tape, h.output, fun g x hx => ?_⟩
    · rcases hg k x hk with ⟨rfl, rfl⟩ | ⟨hne, hk⟩
      · refine ⟨⟨w.heap.size, cap, sp⟩, o', lcE_new _ h.un, ho, ?_⟩
        show (w.heap.push o')[w.heap.size]? = _
        simp
      · obtain ⟨l, o2, h1, h2, h3⟩ := h.holds k x hk
        refine ⟨l, o2, lcE_app _ h1, concO_mono _ h2, ?_⟩
        show (w.heap.push o')[l.ad]? = _
        have := h.lt hk h1
        rw [Array.getElem?_push, if_neg (by omega)]; exact h3
    · rcases hg k x hk with ⟨rfl, rfl⟩ | ⟨hne, hk2⟩ <;> rcases hg k' x' hk' with ⟨rfl, rfl⟩ | ⟨hne', hk2'⟩
      · rfl
      · have h1 := newl l hl
        have h2 := h.lt hk2' (look _ _ hne' hl')
        rw [← he, h1] at h2; simp at h2
      · have h1 := newl l' hl'
        have h2 := h.lt hk2 (look _ _ hne hl)
        rw [he, h1] at h2; simp at h2
      · exact h.inj k k' x x' l l' hk2 hk2' (look _ _ hne hl) (look _ _ hne' hl') he
    · rcases hg k x hk with ⟨rfl, rfl⟩ | ⟨hne, hk⟩
      · rw [newl l hl]; exact .inr h.size
      · exact h.fresh k x l hk (look _ _ hne hl)
    · show (w.heap.push o')[b]? = _
      have := h.size
      rw [Array.getElem?_push, if_neg (by omega)]
      exact h.keep b hb' hn
    · show w0.heap.size ≤ (w.heap.push o').size
      have := h.size
      simp; omega
    · obtain ⟨h1, h2⟩ := h.glob g x hx
      have hlt := (Array.getElem?_eq_some_iff.1 h1).1
      refine ⟨?_, fun k o3 l hk hl => ?_⟩
      · show (w.heap.push o')[g]? = _
        rw [Array.getElem?_push, if_neg (by omega)]; exact h1
      · rcases hg k o3 hk with ⟨rfl, rfl⟩ | ⟨hne, hk⟩
        · rw [newl l hl]; intro he; simp at he; omega
        · exact h2 k o3 l hk (look _ _ hne hl)

/-- One block is written. -/
theorem Sr.write (h : Sr C w0 D ρ s w) {k : Nat} {o o1 o' : Obj} {l : Loc} {s' : St} {w' : World} (hk : s.h.get k = some o1) (hl : lcE ρ k = some l) (ho : concO C ρ l o = some o') (hs : s.upd k (some o) = some s')
    (hb : w'.heap[l.ad]? = some o') (hkeep : ∀ b, b < w.heap.size → b ≠ l.ad → w'.heap[b]? = w.heap[b]?) (hsz : w.heap.size ≤ w'.heap.size) (hos : w'.os = w.os) (ht : w'.tape = w.tape) (hout : w'.output = w.output) :
    Sr C w0 D ρ s' w' := by
  unfold St.upd at hs
  cases hbt : Nat.blt (Nat.succ k) TOP with
  | false => rw [hbt] at hs; cases hs
  | true =>
    rw [hbt] at hs; cases hs
    have hg : ∀ j x, (s.h.set k (some o)).get j = some x → (j = k ∧ x = o) ∨ (j ≠ k ∧ s.h.get j = some x) := fun j x hj => by
      rw [Tr.get_set _ hbt] at hj
      by_cases hjk : j = k
      · rw [if_pos hjk] at hj; cases hj; exact .inl ⟨hjk, rfl⟩
      · rw [if_neg hjk] at hj; exact .inr ⟨hjk, hj⟩
    have back : ∀ j x, (s.h.set k (some o)).get j = some x → ∃ x', s.h.get j = some x' := fun j x hj => by
      rcases hg j x hj with ⟨rfl, rfl⟩ | ⟨_, hj⟩
      · exact ⟨o1, hk⟩
      · exact ⟨x, hj⟩
    refine ⟨h.un, h.nm, h.up, h.rv, fun j x hj => ?_, fun j j' x x' l1 l2 hj hj' hl1 hl2 he => ?_, fun j x l1 hj hl1 => ?_, fun b hb' hn => ?_, Nat.le_trans h.size hsz, hos.trans h.os, ht.trans h.tape, hout.trans h.output, fun g x hx => ?_⟩
    · rcases hg j x hj with ⟨rfl, rfl⟩ | ⟨hne, hj⟩
      · exact ⟨l, o', hl, ho, hb⟩
      · obtain ⟨l1, o2, h1, h2, h3⟩ := h.holds j x hj
        refine ⟨l1, o2, h1, h2, ?_⟩
        rw [hkeep _ (Array.getElem?_eq_some_iff.1 h3).1 (fun he => hne (h.inj j k x o1 l1 l hj hk h1 hl he))]; exact h3
    · obtain ⟨y, hy⟩ := back j x hj
      obtain ⟨y', hy'⟩ := back j' x' hj'
      exact h.inj j j' y y' l1 l2 hy hy' hl1 hl2 he
    · obtain ⟨y, hy⟩ := back j x hj
      exact h.fresh j y l1 hy hl1
    · rw [hkeep _ (Nat.lt_of_lt_of_le hb' h.size)]
      · exact h.keep b hb' hn
      · intro he
        subst he
        rcases h.fresh k o1 l hk hl with hd | hd
        · exact hn hd
        · omega
    · obtain ⟨h1, h2⟩ := h.glob g x hx
      refine ⟨?_, fun j o3 l1 hj hl1 => ?_⟩
      · rw [hkeep _ (Array.getElem?_eq_some_iff.1 h1).1 (fun he => h2 k o1 l hk hl he.symm)]; exact h1
      · obtain ⟨y, hy⟩ := back j o3 hj
        exact h2 j y l1 hy hl1

/-- One block is given up. -/
theorem Sr.drop (h : Sr C w0 D ρ s w) {k : Nat} {s' : St} (hs : s.upd k none = some s') : Sr C w0 D ρ s' w := by
  unfold St.upd at hs
  cases hbt : Nat.blt (Nat.succ k) TOP with
  | false => rw [hbt] at hs; cases hs
  | true =>
    rw [hbt] at hs; cases hs
    have hg : ∀ j x, (s.h.set k none).get j = some x → s.h.get j = some x := fun j x hj => by
      rw [Tr.get_set _ hbt] at hj
      by_cases hjk : j = k
      · rw [if_pos hjk] at hj; cases hj
      · rw [if_neg hjk] at hj; exact hj
    exact ⟨h.un, h.nm, h.up, h.rv, fun j x hj => h.holds j x (hg j x hj), fun j j' x x' l l' hj hj' => h.inj j j' x x' l l' (hg _ _ hj) (hg _ _ hj'), fun j x l hj => h.fresh j x l (hg _ _ hj), h.keep, h.size, h.os, h.tape, h.output,
      fun g x hx => ⟨(h.glob g x hx).1, fun j o l hj => (h.glob g x hx).2 j o l (hg _ _ hj)⟩⟩

/-- A block goes on under another number. -/
theorem Sr.move (h : Sr C w0 D ρ s w) {k : Nat} {o o1 o' : Obj} {l : Loc} {cap : Nat} {sp : List Value} {s1 s' : St} {w' : World} (hk : s.h.get k = some o1) (hl : lcE ρ k = some l)
    (ho : concO C (ρ ++ [(s1.n, ⟨l.ad, cap, sp⟩)]) ⟨l.ad, cap, sp⟩ o = some o') (hs1 : s.upd k none = some s1) (hs : s1.new o = some s')
    (hb : w'.heap[l.ad]? = some o') (hkeep : ∀ b, b < w.heap.size → b ≠ l.ad → w'.heap[b]? = w.heap[b]?) (hsz : w.heap.size ≤ w'.heap.size) (hos : w'.os = w.os) (ht : w'.tape = w.tape) (hout : w'.output = w.output) :
    Sr C w0 D (ρ ++ [(s1.n, ⟨l.ad, cap, sp⟩)]) s' w' := by
  have hk1 := h.drop hs1
  have hnot : ∀ j x, s1.h.get j = some x → j ≠ k := fun j x hj he => by
    subst he
    unfold St.upd at hs1
    cases hbt : Nat.blt (Nat.succ j) TOP with
    | false => rw [hbt] at hs1; cases hs1
    | true => rw [hbt] at hs1; cases hs1; rw [Tr.get_set _ hbt, if_pos rfl] at hj; cases hj
  have hsub : ∀ j x, s1.h.get j = some x → s.h.get j = some x := fun j x hj => by
    have hne := hnot j x hj
    unfold St.upd at hs1
    cases hbt : Nat.blt (Nat.succ k) TOP with
    | false => rw [hbt] at hs1; cases hs1
    | true => rw [hbt] at hs1; cases hs1; rw [Tr.get_set _ hbt, if_neg hne] at hj; exact hj
  have hfar : ∀ j x lj, s1.h.get j = some x → lcE ρ j = some lj → lj.ad ≠ l.ad := fun j x lj hj hlj he => hnot j x hj (h.inj j k x o1 lj l (hsub j x hj) hk hlj hl he)
  unfold St.new at hs
  cases hb' : Nat.blt (Nat.succ s1.n) TOP with
  | false => rw [hb'] at hs; cases hs
  | true =>
    rw [hb'] at hs; cases hs
    have look : ∀ k l2, k ≠ s1.n → lcE (ρ ++ [(s1.n, (⟨l.ad, cap, sp⟩ : Loc))]) k = some l2 → lcE ρ k = some l2 := fun k l2 hk hl => by rwa [lcE_other hk] at hl
    have newl : ∀ l2, lcE (ρ ++ [(s1.n, (⟨l.ad, cap, sp⟩ : Loc))]) s1.n = some l2 → l2 = ⟨l.ad, cap, sp⟩ := fun l2 hl => by
      rw [lcE_new _ hk1.un] at hl; exact (Option.some.inj hl).symm
    have hg : ∀ k x, (s1.h.set s1.n (some o)).get k = some x → (k = s1.n ∧ x = o) ∨ (k ≠ s1.n ∧ s1.h.get k = some x) := fun k x hk => by
      rw [Tr.get_set _ hb'] at hk
      by_cases hkn : k = s1.n
      · rw [if_pos hkn] at hk; cases hk; exact .inl ⟨hkn, rfl⟩
      · rw [if_neg hkn] at hk; exact .inr ⟨hkn, hk⟩
    have hnums := hk1.nums ⟨l.ad, cap, sp⟩
    refine ⟨hnums.1, hnums.2.1, hnums.2.2.1, hnums.2.2.2, fun j x hj => ?_, fun j j' x x' l1 l2 hj hj' hl1 hl2 he => ?_, fun j x l1 hj hl1 => ?_, fun b hb2 hn => ?_, Nat.le_trans h.size hsz, hos.trans h.os, ht.trans h.tape, hout.trans h.output, fun g x hx => ?_⟩
    · rcases hg j x hj with ⟨rfl, rfl⟩ | ⟨hne, hj⟩
      · exact ⟨⟨l.ad, cap, sp⟩, o', lcE_new _ hk1.un, ho, hb⟩
      · obtain ⟨l1, o2, h1, h2, h3⟩ := hk1.holds j x hj
        refine ⟨l1, o2, lcE_app _ h1, concO_mono _ h2, ?_⟩
        rw [hkeep _ (Array.getElem?_eq_some_iff.1 h3).1 (hfar j x l1 hj h1)]; exact h3
    · rcases hg j x hj with ⟨rfl, rfl⟩ | ⟨hne, hj2⟩ <;> rcases hg j' x' hj' with ⟨rfl, rfl⟩ | ⟨hne', hj2'⟩
      · rfl
      · have h1 := newl l1 hl1
        rw [h1] at he
        exact absurd he.symm (hfar j' x' l2 hj2' (look _ _ hne' hl2))
      · have h1 := newl l2 hl2
        rw [h1] at he
        exact absurd he (hfar j x l1 hj2 (look _ _ hne hl1))
      · exact hk1.inj j j' x x' l1 l2 hj2 hj2' (look _ _ hne hl1) (look _ _ hne' hl2) he
    · rcases hg j x hj with ⟨rfl, rfl⟩ | ⟨hne, hj⟩
      · rw [newl l1 hl1]; exact h.fresh k o1 l hk hl
      · exact hk1.fresh j x l1 hj (look _ _ hne hl1)
    · rw [hkeep _ (Nat.lt_of_lt_of_le hb2 h.size)]
      · exact h.keep b hb2 hn
      · intro he
        subst he
        rcases h.fresh k o1 l hk hl with hd | hd
        · exact hn hd
        · omega
    · obtain ⟨h1, h2⟩ := h.glob g x hx
      refine ⟨?_, fun j o3 l1 hj hl1 => ?_⟩
      · rw [hkeep _ (Array.getElem?_eq_some_iff.1 h1).1 (fun he => h2 k o1 l hk hl he.symm)]; exact h1
      · rcases hg j o3 hj with ⟨rfl, rfl⟩ | ⟨hne, hj⟩
        · rw [newl l1 hl1]; exact h2 k o1 l hk hl
        · exact (hk1.glob g x hx).2 j o3 l1 hj (look _ _ hne hl1)

/-! ### Numbers held back -/
def St.bump (s : St) : St := ⟨s.m, Nat.succ s.m, s.rs, s.h⟩
theorem Sr.bump (h : Sr C w0 D ρ s w) : Sr C w0 D ρ s.bump w :=
  ⟨h.up _ (Nat.le_refl _), Nat.lt_succ_self _, fun k hk => h.up k (Nat.le_of_succ_le hk), fun k hk => ⟨(h.rv k hk).1, Nat.lt_succ_of_lt (h.rv k hk).2.1, Nat.ne_of_lt (h.rv k hk).2.1⟩,
    h.holds, h.inj, h.fresh, h.keep, h.size, h.os, h.tape, h.output, h.glob⟩
def heldE : Nat → Nat → List Nat → List Nat
  | 0, _, r => r
  | n + 1, b, r => b :: heldE n (Nat.succ b) r
theorem heldE_mem {r : List Nat} : ∀ {n b k : Nat}, k ∈ heldE n b r → (b ≤ k ∧ k < b + n) ∨ k ∈ r
  | 0, b, k, h => .inr h
  | n + 1, b, k, h => by
    simp only [heldE, List.mem_cons] at h
    rcases h with rfl | h
    · exact .inl ⟨Nat.le_refl _, by omega⟩
    · rcases heldE_mem h with ⟨h1, h2⟩ | h
      · exact .inl ⟨by omega, by omega⟩
      · exact .inr h
/-- L numbers, from m on, are held back. -/
def St.hold (s : St) (L : Nat) : St := ⟨Nat.add s.m L, Nat.succ (Nat.add s.m L), heldE L s.m s.rs, s.h⟩
theorem Sr.hold (h : Sr C w0 D ρ s w) (L : Nat) : Sr C w0 D ρ (s.hold L) w := by
  refine ⟨h.up _ (Nat.le_add_right _ _), Nat.lt_succ_self _, fun k hk => h.up k ?_, fun k hk => ?_, h.holds, h.inj, h.fresh, h.keep, h.size, h.os, h.tape, h.output, h.glob⟩
  · have h1 : Nat.succ (s.m + L) ≤ k := hk
    omega
  · rcases heldE_mem hk with ⟨h1, h2⟩ | hk
    · refine ⟨h.up k h1, ?_, ?_⟩
      · show k < Nat.succ (s.m + L); omega
      · show k ≠ s.m + L; omega
    · obtain ⟨h1, h2, h3⟩ := h.rv k hk
      refine ⟨h1, ?_, ?_⟩
      · show k < Nat.succ (s.m + L); omega
      · show k ≠ s.m + L; omega
/-- The next block is to bear number r, which was held back. -/
def St.takeR (s : St) (r : Nat) : Option St := bif Nat.beq s.m (Nat.succ s.n) && Nat.blt r s.n && s.rs.any (Nat.beq r) then some ⟨r, s.n, s.rs.filter (fun k => !Nat.beq k r), s.h⟩ else none
theorem Sr.takeR (h : Sr C w0 D ρ s w) {r : Nat} {s' : St} (ht : s.takeR r = some s') : Sr C w0 D ρ s' w := by
  unfold St.takeR at ht
  cases hb : (Nat.beq s.m (Nat.succ s.n) && Nat.blt r s.n && s.rs.any (Nat.beq r)) with
  | false => rw [hb] at ht; cases ht
  | true =>
    rw [hb, cond_true] at ht; cases ht
    simp only [Bool.and_eq_true, List.any_eq_true] at hb
    obtain ⟨⟨h1, h2⟩, q, h3, h4⟩ := hb
    have h1' := Nat.eq_of_beq_eq_true h1
    have h2' : r < s.n := Nat.lt_of_lt_of_le (Nat.lt_succ_self _) (Nat.le_of_ble_eq_true h2)
    have h4' := Nat.eq_of_beq_eq_true h4
    subst h4'
    refine ⟨(h.rv r h3).1, h2', fun k hk => ?_, fun k hk => ?_, h.holds, h.inj, h.fresh, h.keep, h.size, h.os, h.tape, h.output, h.glob⟩
    · rcases Nat.eq_or_lt_of_le hk with h5 | h5
      · rw [← h5]; exact h.un
      · exact h.up k (by rw [h1']; exact h5)
    · obtain ⟨h5, h6⟩ := List.mem_filter.1 hk
      obtain ⟨h7, h8, h9⟩ := h.rv k h5
      refine ⟨h7, ?_, ?_⟩
      · show k < s.n; omega
      · show k ≠ r
        intro he; subst he
        simp [Nat.beq_refl] at h6
def St.fixR (r : Nat) (s : St) : St := bif Nat.beq s.n r then s.bump else s
theorem Sr.fixR (h : Sr C w0 D ρ s w) (r : Nat) : Sr C w0 D ρ (s.fixR r) w := by
  unfold St.fixR
  cases Nat.beq s.n r with
  | true => exact h.bump
  | false => exact h
/-- The numbers from b on, L of them, are held back no longer. -/
def St.dropR (b L : Nat) (s : St) : St := ⟨s.n, s.m, s.rs.filter (fun k => !(Nat.ble b k && Nat.blt k (Nat.add b L))), s.h⟩
theorem Sr.dropR (h : Sr C w0 D ρ s w) (b L : Nat) : Sr C w0 D ρ (s.dropR b L) w :=
  ⟨h.un, h.nm, h.up, fun k hk => h.rv k (List.mem_filter.1 hk).1, h.holds, h.inj, h.fresh, h.keep, h.size, h.os, h.tape, h.output, h.glob⟩
def St.z : St := ⟨0, 1, [], .e⟩
end
end Go.Ev

/- Operations whose value needs no memory. -/
namespace Go.Ev
open Go.Wk
set_option linter.unusedVariables false
set_option linter.unusedSimpArgs false

/-- The model's own text, run where it asks for no memory. -/
def pval {α : Type} (P : Program) : Sem α → Option α
  | .pure a => some a
  | .program k => pval P (k P)
  | .mark _ k => pval P k
  | _ => none
theorem pval_run {α : Type} {P : Program} : ∀ {s : Sem α} {x : α}, pval P s = some x → ∀ w, s.run P w = .ok x w
  | .pure a, x, h, w => by simp only [pval] at h; cases h; rfl
  | .program k, x, h, w => by simp only [pval] at h; simp only [Sem.run]; exact pval_run h w
  | .mark m k, x, h, w => by simp only [pval] at h; simp only [Sem.run]; exact pval_run h w

def opnds (t : Tr Value) (x : Operand) : Value := (evE t x).getD undef
def closed (t : Tr Value) (x : Operand) : Bool := match evE t x with
  | some v => cst 8 v
  | none => false
def fbE (C : Ct) (t : Tr Value) (o : Oper) : Option Value := match o.op with
  | .select .. => none
  | .alloc _ | .load .. | .store .. => none
  | op => bif op.operands.toList.all (closed t) then (match pval C.P (execOp (opnds t) o) with
    | some (.value v) => bif cst 8 v then some v else none
    | _ => none) else none

/-- The operation gives what v stands for, whatever memory holds. -/
def Gv (C : Ct) (ρ : Env) (a : Act) (o : Oper) (v : Value) : Prop := ∃ u, conc ρ v = some u ∧ ∀ w, (execOp a.eval o).run C.P w = .ok (.value u) w

theorem fbE_spec {C : Ct} {ρ : Env} {N : Nat} {fm : Fm} {a : Act} (h : Fr ρ N fm a) {o : Oper} {v : Value} (hv : fbE C fm.t o = some v) : Gv C ρ a o v := by
  have key : ∀ (hs : ∀ cs b, o.op ≠ .select cs b), o.op.operands.toList.all (closed fm.t) = true → (match pval C.P (execOp (opnds fm.t) o) with
    | some (.value v) => bif cst 8 v then some v else none
    | _ => none) = some v → Gv C ρ a o v := by
    intro hs hc hm
    have he : execOp a.eval o = execOp (opnds fm.t) o := execOp_congr o hs (fun x hx => by
      have h1 := List.all_eq_true.1 hc x (by simpa using hx)
      unfold closed at h1
      split at h1
      · rename_i c hc'
        obtain ⟨u, hu, hxu⟩ := evE_spec h hc'
        rw [cst_conc h1] at hu
        cases hu
        simp [opnds, hc', hxu]
      · cases h1)
    split at hm
    · rename_i v' hp
      cases hcv : cst 8 v' with
      | false => rw [hcv] at hm; cases hm
      | true =>
        rw [hcv] at hm; cases hm
        exact ⟨v, cst_conc hcv, fun w => by rw [he]; exact pval_run hp w⟩
    · cases hm
  unfold fbE at hv
  split at hv
  · cases hv
  · cases hv
  · cases hv
  · cases hv
  · rename_i op ho1 ho2 ho3 ho4
    cases hc : o.op.operands.toList.all (closed fm.t) with
    | false => rw [hc] at hv; cases hv
    | true => rw [hc] at hv; exact key (fun cs b he => ho1 cs b he) hc hv

/-! ### Bytes -/
theorem bytes_eq {a : ByteArray} {l : List UInt8} (h : a.data.toList = l) : a = ⟨⟨l⟩⟩ := by
  obtain ⟨⟨x⟩⟩ := a; simp at h; subst h; rfl
def eqB : List UInt8 → List UInt8 → Bool
  | [], [] => true
  | a :: r, b :: t => bif Nat.beq a.toNat b.toNat then eqB r t else false
  | _, _ => false
theorem eqB_spec : ∀ (a b : List UInt8), eqB a b = (a == b)
  | [], [] => rfl
  | [], b :: t => rfl
  | a :: r, [] => rfl
  | a :: r, b :: t => by
    simp only [eqB]
    by_cases h : a = b
    · subst h
      rw [show Nat.beq a.toNat a.toNat = true from Nat.beq_refl _]
      simp [eqB_spec r t]
    · have : Nat.beq a.toNat b.toNat = false := by
        cases hk : Nat.beq a.toNat b.toNat with
        | false => rfl
        | true => exact absurd (UInt8.toNat_inj.1 (Nat.eq_of_beq_eq_true hk)) h
      rw [this]
      simp [h]

def strE (op : BinOp) (a b : ByteArray) : Option Value := match op with
  | .add => bif Nat.blt (a.data.toList.length + b.data.toList.length) 1073741824 then some (.string ⟨⟨a.data.toList ++ b.data.toList⟩⟩) else none
  | .eql => some (.bool (eqB a.data.toList b.data.toList))
  | .neq => some (.bool (!(eqB a.data.toList b.data.toList)))
  | .lss => some (.bool (Op.bytesLess a.data.toList b.data.toList))
  | _ => none
theorem strE_run {P : Program} {op : BinOp} {a b : ByteArray} {v : Value} (h : strE op a b = some v) (t : TypeId) (x y : Operand) (w : World) :
    (do eqGuard op t x y (.string a) (.string b); binOp op t (.string a) (.string b) : Sem Value).run P w = .ok v w := by
  cases op <;> simp only [strE, Option.some.injEq, reduceCtorEq] at h
  · cases hb : Nat.blt (a.data.toList.length + b.data.toList.length) 1073741824 with
    | false => rw [hb] at h; cases h
    | true =>
      rw [hb] at h; cases h
      have h1 : a.data.toList.length + b.data.toList.length < 1073741824 := Nat.lt_of_lt_of_le (Nat.lt_succ_self _) (Nat.le_of_ble_eq_true hb)
      have h2 : a.size + b.size < 1073741824 := h1
      have e : a ++ b = ⟨⟨a.data.toList ++ b.data.toList⟩⟩ := bytes_eq (by simp)
      have h3 : ¬ ((a.size + b.size : Nat) : Int) > IntKind.i64.max := by
        have : IntKind.i64.max = 9223372036854775807 := by decide
        rw [this]; omega
      rw [← e]
      simp only [eqGuard, binOp, Op.stringOp]
      rw [if_neg h3]; rfl
  all_goals subst h; simp [eqGuard, binOp, Op.stringOp, ByteArray.toList_eq, eqB_spec]

/-! ### Whole numbers, '/' and shifts -/
def numE (op : BinOp) (k : IntKind) (a : Int) (k' : IntKind) (b : Int) : Option Value := match op with
  | .shl => bif decide (b < 0) then none else some (.int k (k.wrap (a * 2 ^ (min b.toNat k.bits))))
  | .shr => bif decide (b < 0) then none else some (.int k (a.fdiv (2 ^ (min b.toNat k.bits))))
  | .quo => bif decide (k = k') then (bif decide (b = 0) then none else some (.int k (k.wrap (a.tdiv b)))) else none
  | .rem => bif decide (k = k') then (bif decide (b = 0) then none else some (.int k (a.tmod b))) else none
  | op => bif decide (k = k') then ibin op k a b else none
theorem numE_run {P : Program} {op : BinOp} {k k' : IntKind} {a b : Int} {v : Value} (h : numE op k a k' b = some v) (t : TypeId) (x y : Operand) (w : World) :
    (do eqGuard op t x y (.int k a) (.int k' b); binOp op t (.int k a) (.int k' b) : Sem Value).run P w = .ok v w := by
  unfold numE at h
  split at h
  · cases hb : decide (b < 0) with
    | true => rw [hb] at h; cases h
    | false => rw [hb] at h; cases h; simp at hb; simp [eqGuard, binOp, Op.shift, Int.not_lt.2 hb]
  · cases hb : decide (b < 0) with
    | true => rw [hb] at h; cases h
    | false => rw [hb] at h; cases h; simp at hb; simp [eqGuard, binOp, Op.shift, Int.not_lt.2 hb]
  · cases hk : decide (k = k') with
    | false => rw [hk] at h; cases h
    | true =>
      rw [hk] at h
      simp only [decide_eq_true_eq] at hk
      subst hk
      cases hb : decide (b = 0) with
      | true => rw [hb] at h; cases h
      | false => rw [hb] at h; cases h; simp at hb; simp [eqGuard, binOp, Op.intDiv, hb]
  · cases hk : decide (k = k') with
    | false => rw [hk] at h; cases h
    | true =>
      rw [hk] at h
      simp only [decide_eq_true_eq] at hk
      subst hk
      cases hb : decide (b = 0) with
      | true => rw [hb] at h; cases h
      | false => rw [hb] at h; cases h; simp at hb; simp [eqGuard, binOp, Op.intDiv, hb]
  · cases hk : decide (k = k') with
    | false => rw [hk] at h; cases h
    | true =>
      rw [hk] at h
      simp only [decide_eq_true_eq] at hk
      subst hk
      exact run_bin_int h t x y w

/-! ### Comparison with nil -/
def isNil : Value → Option Bool
  | .pointer a => some a.isNone
  | .slice a _ _ => some a.isNone
  | .map a => some a.isNone
  | .nilFunc => some true
  | .func _ _ _ => some false
  | _ => none
def nilOf : Value → Bool
  | .pointer none => true
  | .slice none _ _ => true
  | .map none => true
  | .nilFunc => true
  | _ => false
/-- Both of one kind, of which type k is; one of them nil. -/
def kin : Tk → Value → Value → Bool
  | .pointer _, .pointer _, .pointer _ => true
  | .slice _, .slice _ _ _, .slice _ _ _ => true
  | .map _ _, .map _, .map _ => true
  | .func, .nilFunc, .nilFunc => true
  | .func, .func _ _ _, .nilFunc => true
  | .func, .nilFunc, .func _ _ _ => true
  | _, _, _ => false
def isC : Operand → Bool
  | .const _ => true
  | _ => false
def ifE (x y : Operand) : Value → Value → Option Bool
  | .nilIface, .nilIface => bif isC x || isC y then some true else none
  | .nilIface, .iface _ _ => some false
  | .iface _ _, .nilIface => some false
  | .iface t v, .iface u w => bif decide (t = u) then none else some false
  | _, _ => none
def eqNil (C : Ct) (t : TypeId) (x y : Operand) (v w : Value) : Option Bool := match C.tt.get t with
  | none => none
  | some ti => match ti.k with
    | .iface => ifE x y v w
    | .bool => (match v, w with | .bool a, .bool b => some (a == b) | _, _ => none)
    | k => bif kin k v w then (bif nilOf w then isNil v else bif nilOf v then isNil w else none) else none

theorem tk_pointer {P : Program} {t e : TypeId} {z : Value} {s b : Nat} (h : tiOf P t = some ⟨.pointer e, z, s, b⟩) : P.underlying t = some (.pointer e) := by
  obtain ⟨d, i, hd, _, hk, _⟩ := tiOf_spec h
  cases d <;> simp [tkOf] at hk
  subst hk; exact hd
theorem tk_func {P : Program} {t : TypeId} {z : Value} {s b : Nat} (h : tiOf P t = some ⟨.func, z, s, b⟩) : ∃ x y v, P.underlying t = some (.func x y v) := by
  obtain ⟨d, i, hd, _, hk, _⟩ := tiOf_spec h
  cases d <;> simp [tkOf] at hk
  exact ⟨_, _, _, hd⟩
theorem tk_iface {P : Program} {t : TypeId} {z : Value} {s b : Nat} (h : tiOf P t = some ⟨.iface, z, s, b⟩) : ∃ ms, P.underlying t = some (.interface ms) := by
  obtain ⟨d, i, hd, _, hk, _⟩ := tiOf_spec h
  cases d <;> simp [tkOf] at hk
  exact ⟨_, hd⟩

/-- What is compared, as it stands in the world. -/
theorem conc_nilOf {ρ : Env} {v u : Value} (h : conc ρ v = some u) : nilOf u = nilOf v ∧ isNil u = isNil v := by
  cases v with
  | pointer a => cases a with
    | none => simp [conc] at h; subst h; exact ⟨rfl, rfl⟩
    | some a => simp only [conc, Option.map_eq_some_iff] at h; obtain ⟨b, _, rfl⟩ := h; exact ⟨rfl, rfl⟩
  | slice a n c => cases a with
    | none => simp [conc] at h; subst h; exact ⟨rfl, rfl⟩
    | some a => obtain ⟨_, _, _, _, _, rfl⟩ := conc_slice.1 h; exact ⟨rfl, rfl⟩
  | map a => cases a with
    | none => simp [conc] at h; subst h; exact ⟨rfl, rfl⟩
    | some a => simp only [conc, Option.map_eq_some_iff] at h; obtain ⟨b, _, rfl⟩ := h; exact ⟨rfl, rfl⟩
  | chan a => cases a with
    | none => simp [conc] at h; subst h; exact ⟨rfl, rfl⟩
    | some a => simp [conc] at h
  | func f l m =>
    simp only [conc] at h
    split at h
    · cases h; exact ⟨rfl, rfl⟩
    · cases h
  | iface t x => simp only [conc, Option.map_eq_some_iff] at h; obtain ⟨b, _, rfl⟩ := h; exact ⟨rfl, rfl⟩
  | agg l => simp only [conc, Option.map_eq_some_iff] at h; obtain ⟨b, _, rfl⟩ := h; exact ⟨rfl, rfl⟩
  | tuple l => simp only [conc, Option.map_eq_some_iff] at h; obtain ⟨b, _, rfl⟩ := h; exact ⟨rfl, rfl⟩
  | _ => simp [conc] at h; subst h; exact ⟨rfl, rfl⟩
theorem conc_kin {ρ : Env} {k : Tk} {v u v' u' : Value} (h : conc ρ v = some u) (h' : conc ρ v' = some u') : kin k u u' = kin k v v' := by
  have key : ∀ {v u : Value}, conc ρ v = some u → (∃ a b, v = .pointer a ∧ u = .pointer b) ∨ (∃ a n c a' c', v = .slice a n c ∧ u = .slice a' n c') ∨ (∃ a b, v = .map a ∧ u = .map b) ∨ (v = .nilFunc ∧ u = .nilFunc) ∨ (∃ f l m f' l' m', v = .func f l m ∧ u = .func f' l' m') ∨
      ((∀ k x, kin k v x = false ∧ kin k x v = false) ∧ ∀ k x, kin k u x = false ∧ kin k x u = false) := by
    intro v u h
    cases v with
    | pointer a => cases a with
      | none => simp [conc] at h; subst h; exact .inl ⟨_, _, rfl, rfl⟩
      | some a => simp only [conc, Option.map_eq_some_iff] at h; obtain ⟨b, _, rfl⟩ := h; exact .inl ⟨_, _, rfl, rfl⟩
    | slice a n c => cases a with
      | none => simp [conc] at h; subst h; exact .inr (.inl ⟨_, _, _, _, _, rfl, rfl⟩)
      | some a => obtain ⟨_, _, _, _, _, rfl⟩ := conc_slice.1 h; exact .inr (.inl ⟨_, _, _, _, _, rfl, rfl⟩)
    | map a => cases a with
      | none => simp [conc] at h; subst h; exact .inr (.inr (.inl ⟨_, _, rfl, rfl⟩))
      | some a => simp only [conc, Option.map_eq_some_iff] at h; obtain ⟨b, _, rfl⟩ := h; exact .inr (.inr (.inl ⟨_, _, rfl, rfl⟩))
    | nilFunc => simp [conc] at h; subst h; exact .inr (.inr (.inr (.inl ⟨rfl, rfl⟩)))
    | func f l m =>
      simp only [conc] at h
      split at h
      · cases h; exact .inr (.inr (.inr (.inr (.inl ⟨_, _, _, _, _, _, rfl, rfl⟩))))
      · cases h
    | chan a => cases a with
      | none => simp [conc] at h; subst h; exact .inr (.inr (.inr (.inr (.inr ⟨fun k x => by cases k <;> cases x <;> exact ⟨rfl, rfl⟩, fun k x => by cases k <;> cases x <;> exact ⟨rfl, rfl⟩⟩))))
      | some a => simp [conc] at h
    | iface t y => simp only [conc, Option.map_eq_some_iff] at h; obtain ⟨b, _, rfl⟩ := h; exact .inr (.inr (.inr (.inr (.inr ⟨fun k x => by cases k <;> cases x <;> exact ⟨rfl, rfl⟩, fun k x => by cases k <;> cases x <;> exact ⟨rfl, rfl⟩⟩))))
    | agg l => simp only [conc, Option.map_eq_some_iff] at h; obtain ⟨b, _, rfl⟩ := h; exact .inr (.inr (.inr (.inr (.inr ⟨fun k x => by cases k <;> cases x <;> exact ⟨rfl, rfl⟩, fun k x => by cases k <;> cases x <;> exact ⟨rfl, rfl⟩⟩))))
    | tuple l => simp only [conc, Option.map_eq_some_iff] at h; obtain ⟨b, _, rfl⟩ := h; exact .inr (.inr (.inr (.inr (.inr ⟨fun k x => by cases k <;> cases x <;> exact ⟨rfl, rfl⟩, fun k x => by cases k <;> cases x <;> exact ⟨rfl, rfl⟩⟩))))
    | _ => simp [conc] at h; subst h; exact .inr (.inr (.inr (.inr (.inr ⟨fun k x => by cases k <;> cases x <;> exact ⟨rfl, rfl⟩, fun k x => by cases k <;> cases x <;> exact ⟨rfl, rfl⟩⟩))))
  rcases key h with ⟨a, b, rfl, rfl⟩ | ⟨a, n, c, a', c', rfl, rfl⟩ | ⟨a, b, rfl, rfl⟩ | ⟨rfl, rfl⟩ | ⟨f, l, m, f', l', m', rfl, rfl⟩ | ⟨h1, h2⟩
  · rcases key h' with ⟨a, b, rfl, rfl⟩ | ⟨a, n, c, a', c', rfl, rfl⟩ | ⟨a, b, rfl, rfl⟩ | ⟨rfl, rfl⟩ | ⟨f, l, m, f', l', m', rfl, rfl⟩ | ⟨h1, h2⟩ <;> first | (cases k <;> rfl) | rw [(h1 k _).2, (h2 k _).2]
  · rcases key h' with ⟨a, b, rfl, rfl⟩ | ⟨a, n, c, a', c', rfl, rfl⟩ | ⟨a, b, rfl, rfl⟩ | ⟨rfl, rfl⟩ | ⟨f, l, m, f', l', m', rfl, rfl⟩ | ⟨h1, h2⟩ <;> first | (cases k <;> rfl) | rw [(h1 k _).2, (h2 k _).2]
  · rcases key h' with ⟨a, b, rfl, rfl⟩ | ⟨a, n, c, a', c', rfl, rfl⟩ | ⟨a, b, rfl, rfl⟩ | ⟨rfl, rfl⟩ | ⟨f, l, m, f', l', m', rfl, rfl⟩ | ⟨h1, h2⟩ <;> first | (cases k <;> rfl) | rw [(h1 k _).2, (h2 k _).2]
  · rcases key h' with ⟨a, b, rfl, rfl⟩ | ⟨a, n, c, a', c', rfl, rfl⟩ | ⟨a, b, rfl, rfl⟩ | ⟨rfl, rfl⟩ | ⟨f, l, m, f', l', m', rfl, rfl⟩ | ⟨h1, h2⟩ <;> first | (cases k <;> rfl) | rw [(h1 k _).2, (h2 k _).2]
  · rcases key h' with ⟨a, b, rfl, rfl⟩ | ⟨a, n, c, a', c', rfl, rfl⟩ | ⟨a, b, rfl, rfl⟩ | ⟨rfl, rfl⟩ | ⟨f, l, m, f', l', m', rfl, rfl⟩ | ⟨h1, h2⟩ <;> first | (cases k <;> rfl) | rw [(h1 k _).2, (h2 k _).2]
  · rw [(h1 k _).1, (h2 k _).1]

theorem eqNil_conc {C : Ct} {ρ : Env} {t : TypeId} {x y : Operand} {v w v' w' : Value} {b : Bool} (hv : conc ρ v = some v') (hw : conc ρ w = some w') (h : eqNil C t x y v w = some b) : eqNil C t x y v' w' = some b := by
  unfold eqNil at h ⊢
  cases ht : C.tt.get t with
  | none => rw [ht] at h; cases h
  | some ti =>
    rw [ht] at h
    obtain ⟨k, z, sz, by'⟩ := ti
    have rest : (bif kin k v w then (bif nilOf w then isNil v else bif nilOf v then isNil w else none) else none) = some b →
        (bif kin k v' w' then (bif nilOf w' then isNil v' else bif nilOf v' then isNil w' else none) else none) = some b := by
      rw [conc_kin hv hw, (conc_nilOf hv).1, (conc_nilOf hv).2, (conc_nilOf hw).1, (conc_nilOf hw).2]; exact id
    cases k with
    | iface =>
      simp only at h ⊢
      unfold ifE at h
      split at h
      · simp [conc] at hv hw; subst hv; subst hw; exact h
      · simp only [conc, Option.some.injEq, Option.map_eq_some_iff] at hv hw; obtain ⟨c, _, rfl⟩ := hw; subst hv; exact h
      · simp only [conc, Option.some.injEq, Option.map_eq_some_iff] at hv hw; obtain ⟨c, _, rfl⟩ := hv; subst hw; exact h
      · simp only [conc, Option.map_eq_some_iff] at hv hw; obtain ⟨c, _, rfl⟩ := hw; obtain ⟨c', _, rfl⟩ := hv; exact h
      · cases h
    | bool =>
      simp only at h ⊢
      split at h
      · simp [conc] at hv hw; subst hv; subst hw; exact h
      · cases h
    | _ => exact rest h

theorem guard_nn {P : Program} {op : BinOp} {t : TypeId} {x y : Operand} (hc : (isC x || isC y) = true) (W : World) : (eqGuard op t x y .nilIface .nilIface).run P W = .ok () W := by
  unfold eqGuard
  cases x <;> cases y <;> simp [isC] at hc <;> cases op <;> rfl

section
variable {P : Program} {t : TypeId} (d : Nat) (W : World)
theorem eqI_nn {ms : Array (String × TypeId)} (hu : P.underlying t = some (.interface ms)) : (Op.equalIn (d + 1) t .nilIface .nilIface).run P W = .ok true W := by simp [Op.equalIn, run_underlying hu]
theorem eqI_ni {ms : Array (String × TypeId)} (hu : P.underlying t = some (.interface ms)) (u : TypeId) (v : Value) : (Op.equalIn (d + 1) t .nilIface (.iface u v)).run P W = .ok false W := by simp [Op.equalIn, run_underlying hu]
theorem eqI_in {ms : Array (String × TypeId)} (hu : P.underlying t = some (.interface ms)) (u : TypeId) (v : Value) : (Op.equalIn (d + 1) t (.iface u v) .nilIface).run P W = .ok false W := by simp [Op.equalIn, run_underlying hu]
theorem eqI_ii {ms : Array (String × TypeId)} (hu : P.underlying t = some (.interface ms)) (u u' : TypeId) (v v' : Value) (h : ¬ u = u') : (Op.equalIn (d + 1) t (.iface u v) (.iface u' v')).run P W = .ok false W := by simp [Op.equalIn, run_underlying hu, h]
theorem eqI_b (hu : P.underlying t = some .bool) (a b : Bool) : (Op.equalIn (d + 1) t (.bool a) (.bool b)).run P W = .ok (a == b) W := by simp [Op.equalIn, run_underlying hu]
theorem eqI_p {e : TypeId} (hu : P.underlying t = some (.pointer e)) (a b : Option Addr) {r : Bool} (h : (if nilOf (.pointer b) then isNil (.pointer a) else if nilOf (.pointer a) then isNil (.pointer b) else none) = some r) : (Op.equalIn (d + 1) t (.pointer a) (.pointer b)).run P W = .ok r W := by
  cases a <;> cases b <;> simp [nilOf, isNil] at h <;> subst h <;> simp [Op.equalIn, run_underlying hu]
theorem eqI_s {e : TypeId} (hu : P.underlying t = some (.slice e)) (a b : Option Addr) (n c n' c' : Nat) {r : Bool} (h : (if nilOf (.slice b n' c') then isNil (.slice a n c) else if nilOf (.slice a n c) then isNil (.slice b n' c') else none) = some r) : (Op.equalIn (d + 1) t (.slice a n c) (.slice b n' c')).run P W = .ok r W := by
  cases a <;> cases b <;> simp [nilOf, isNil] at h <;> subst h <;> simp [Op.equalIn, run_underlying hu]
theorem eqI_m {k e : TypeId} (hu : P.underlying t = some (.map k e)) (a b : Option Nat) {r : Bool} (h : (if nilOf (.map b) then isNil (.map a) else if nilOf (.map a) then isNil (.map b) else none) = some r) : (Op.equalIn (d + 1) t (.map a) (.map b)).run P W = .ok r W := by
  cases a <;> cases b <;> simp [nilOf, isNil] at h <;> subst h <;> simp [Op.equalIn, run_underlying hu]
theorem eqI_f0 {p1 p2 p3} (hu : P.underlying t = some (.func p1 p2 p3)) : (Op.equalIn (d + 1) t .nilFunc .nilFunc).run P W = .ok true W := by simp [Op.equalIn, run_underlying hu]
theorem eqI_f1 {p1 p2 p3} (hu : P.underlying t = some (.func p1 p2 p3)) (f : Fn) (l m : Array Value) : (Op.equalIn (d + 1) t (.func f l m) .nilFunc).run P W = .ok false W := by simp [Op.equalIn, run_underlying hu]
theorem eqI_f2 {p1 p2 p3} (hu : P.underlying t = some (.func p1 p2 p3)) (f : Fn) (l m : Array Value) : (Op.equalIn (d + 1) t .nilFunc (.func f l m)).run P W = .ok false W := by simp [Op.equalIn, run_underlying hu]
end

def EqR (C : Ct) (t : TypeId) (x y : Operand) (v w : Value) (b : Bool) (W : World) : Prop :=
  (∀ op, (eqGuard op t x y v w).run C.P W = .ok () W) ∧ (Op.equal t v w).run C.P W = .ok b W ∧ binOp .eql t v w = (do pure (.bool (← Op.equal t v w))) ∧ binOp .neq t v w = (do pure (.bool (!(← Op.equal t v w))))
theorem eqNil_run {C : Ct} {t : TypeId} {x y : Operand} {v w : Value} {b : Bool} (h : eqNil C t x y v w = some b) (W : World) : EqR C t x y v w b W := by
  unfold eqNil at h
  cases ht : C.tt.get t with
  | none => rw [ht] at h; cases h
  | some ti =>
    rw [ht] at h
    have hti := C.okT t ti ht
    obtain ⟨k, z, sz, by'⟩ := ti
    cases k with
    | iface =>
      obtain ⟨ms, hu⟩ := tk_iface hti
      simp only at h
      unfold ifE at h
      split at h
      · cases hc : (isC x || isC y) with
        | false => rw [hc] at h; cases h
        | true =>
          rw [hc] at h; cases h
          exact ⟨fun op => guard_nn hc W, eqI_nn 9999 W hu, rfl, rfl⟩
      · cases h
        exact ⟨fun op => by cases op <;> rfl, eqI_ni 9999 W hu _ _, rfl, rfl⟩
      · cases h
        exact ⟨fun op => by cases op <;> rfl, eqI_in 9999 W hu _ _, rfl, rfl⟩
      · rename_i t1 v1 t2 v2
        cases hd : decide (t1 = t2) with
        | true => rw [hd] at h; cases h
        | false =>
          rw [hd] at h; cases h
          simp only [decide_eq_false_iff_not] at hd
          exact ⟨fun op => by cases op <;> rfl, eqI_ii 9999 W hu _ _ _ _ hd, rfl, rfl⟩
      · cases h
    | bool =>
      have hu := tk_bool hti
      simp only at h
      split at h
      · cases h
        exact ⟨fun op => by cases op <;> rfl, eqI_b 9999 W hu _ _, rfl, rfl⟩
      · cases h
    | pointer e =>
      have hu := tk_pointer hti
      simp only at h
      cases v with
      | pointer a => cases w with
        | pointer a' =>
          simp only [kin, cond_true] at h
          exact ⟨fun op => by cases op <;> rfl, eqI_p 9999 W hu a a' (by simpa [Bool.cond_eq_ite] using h), rfl, rfl⟩
        | _ => simp [kin] at h
      | _ => simp [kin] at h
    | slice e =>
      have hu := tk_slice hti
      simp only at h
      cases v with
      | slice a n c => cases w with
        | slice a' n' c' =>
          simp only [kin, cond_true] at h
          exact ⟨fun op => by cases op <;> rfl, eqI_s 9999 W hu a a' n c n' c' (by simpa [Bool.cond_eq_ite] using h), rfl, rfl⟩
        | _ => simp [kin] at h
      | _ => simp [kin] at h
    | map k e =>
      have hu := tk_map hti
      simp only at h
      cases v with
      | map a => cases w with
        | map a' =>
          simp only [kin, cond_true] at h
          exact ⟨fun op => by cases op <;> rfl, eqI_m 9999 W hu a a' (by simpa [Bool.cond_eq_ite] using h), rfl, rfl⟩
        | _ => simp [kin] at h
      | _ => simp [kin] at h
    | func =>
      obtain ⟨p1, p2, p3, hu⟩ := tk_func hti
      simp only at h
      cases v with
      | func f l m => cases w with
        | nilFunc =>
          simp [kin, nilOf, isNil] at h; subst h
          exact ⟨fun op => by cases op <;> rfl, eqI_f1 9999 W hu _ _ _, rfl, rfl⟩
        | _ => simp [kin] at h
      | nilFunc => cases w with
        | nilFunc =>
          simp [kin, nilOf, isNil] at h; subst h
          exact ⟨fun op => by cases op <;> rfl, eqI_f0 9999 W hu, rfl, rfl⟩
        | func f l m =>
          simp [kin, nilOf, isNil] at h; subst h
          exact ⟨fun op => by cases op <;> rfl, eqI_f2 9999 W hu _ _ _, rfl, rfl⟩
        | _ => simp [kin] at h
      | _ => simp [kin] at h
    | _ => cases v <;> simp [kin] at h
end Go.Ev

/- What needs no memory, told by one function. -/
namespace Go.Ev
open Go.Wk
set_option linter.unusedVariables false
set_option linter.unusedSimpArgs false

/-! ### The slots at hand, as a list -/
def slotsOf (a : Act) (xs : List Operand) : LT := xs.filterMap fun | .tmp i => some (i, a.tmps.getD i undef) | _ => none
theorem lk_slots {a : Act} : ∀ {xs : List Operand} {i : Nat} {u : Value}, lk (slotsOf a xs) i = some u → a.tmps.getD i undef = u
  | [], i, u, h => by simp [slotsOf, lk] at h
  | x :: r, i, u, h => by
    cases x with
    | tmp j =>
      have : slotsOf a (.tmp j :: r) = (j, a.tmps.getD j undef) :: slotsOf a r := rfl
      rw [this] at h
      simp only [lk] at h
      by_cases hj : Nat.beq j i = true
      · rw [hj] at h; cases Nat.eq_of_beq_eq_true hj; simpa using h
      · simp only [Bool.not_eq_true] at hj; rw [hj] at h; exact lk_slots h
    | const _ => exact lk_slots (xs := r) h
    | global _ => exact lk_slots (xs := r) h
    | func _ => exact lk_slots (xs := r) h
theorem ev_slots {a : Act} {xs : List Operand} {x : Operand} {u : Value} (h : ev (slotsOf a xs) x = some u) : a.eval x = u := by
  cases x with
  | tmp i => exact lk_slots h
  | const c => simpa [ev, Act.eval] using h
  | global g => simpa [ev, Act.eval] using h
  | func f => simpa [ev, Act.eval] using h
theorem ev_mem {a : Act} : ∀ {xs : List Operand} {x : Operand}, x ∈ xs → ev (slotsOf a xs) x = some (a.eval x)
  | y :: r, x, h => by
    cases x with
    | tmp i =>
      show lk (slotsOf a (y :: r)) i = some (a.tmps.getD i undef)
      have key : ∀ {l : List Operand}, Operand.tmp i ∈ l → lk (slotsOf a l) i = some (a.tmps.getD i undef) := by
        intro l
        induction l with
        | nil => intro h; cases h
        | cons z l ih =>
          intro h
          cases z with
          | tmp j =>
            have e : slotsOf a (.tmp j :: l) = (j, a.tmps.getD j undef) :: slotsOf a l := rfl
            rw [e]
            simp only [lk]
            by_cases hj : Nat.beq j i = true
            · rw [hj]; cases Nat.eq_of_beq_eq_true hj; rfl
            · simp only [Bool.not_eq_true] at hj; rw [hj]
              rcases List.mem_cons.1 h with h | h
              · cases h; rw [Nat.beq_refl] at hj; cases hj
              · exact ih h
          | const _ => rcases List.mem_cons.1 h with h | h
                       · cases h
                       · exact ih h
          | global _ => rcases List.mem_cons.1 h with h | h
                        · cases h
                        · exact ih h
          | func _ => rcases List.mem_cons.1 h with h | h
                      · cases h
                      · exact ih h
      exact key h
    | const c => rfl
    | global g => rfl
    | func f => rfl
theorem Gv.of {C : Ct} {ρ : Env} {a : Act} {d : Nat} {op : Op} {ty : TypeId} {p : String} {af : Array Edge} {dst : Option Tmp} {g : Option (Nat × Bool)} {v u : Value} {xs : List Operand} (hu : conc ρ v = some u)
    (h : PR C.P (slotsOf a xs) ⟨some d, op, ty, p, af, none⟩ u) : Gv C ρ a ⟨dst, op, ty, p, af, g⟩ v :=
  ⟨u, hu, fun w => h a.eval w (fun x u hx => ev_slots hx)⟩
theorem evs_map' {a : Act} {ys : List Operand} : ∀ {xs : List Operand}, (∀ x ∈ xs, x ∈ ys) → evs (slotsOf a ys) xs = some (xs.map a.eval)
  | [], _ => rfl
  | x :: r, h => by
    simp only [evs, ev_mem (a := a) (h x List.mem_cons_self), evs_map' (fun z hz => h z (List.mem_cons_of_mem _ hz))]
    rfl

/-! ### Binary operations -/
def binE (C : Ct) (op : BinOp) (ty : TypeId) (x y : Operand) : Value → Value → Option Value
  | .int k a, .int k' b => numE op k a k' b
  | .string a, .string b => strE op a b
  | v, w => match op with
    | .eql => (eqNil C ty x y v w).map .bool
    | .neq => (eqNil C ty x y v w).map fun b => .bool !b
    | _ => none
theorem binE_run {C : Ct} {ρ : Env} {op : BinOp} {ty : TypeId} {x y : Operand} {v w v' w' r : Value} (hv : conc ρ v = some v') (hw : conc ρ w = some w') (h : binE C op ty x y v w = some r) :
    conc ρ r = some r ∧ ∀ W, (do eqGuard op ty x y v' w'; binOp op ty v' w' : Sem Value).run C.P W = .ok r W := by
  have hb : ∀ {r : Value}, (∃ b, r = .bool b) → conc ρ r = some r := by rintro r ⟨b, rfl⟩; simp [conc]
  have hn : ∀ {r : Value}, (∃ k n, r = .int k n) → conc ρ r = some r := by rintro r ⟨k, n, rfl⟩; simp [conc]
  have hs : ∀ {r : Value}, (∃ s, r = .string s) → conc ρ r = some r := by rintro r ⟨s, rfl⟩; simp [conc]
  unfold binE at h
  split at h
  · simp only [conc, Option.some.injEq] at hv hw
    subst hv; subst hw
    refine ⟨?_, fun W => numE_run h ty x y W⟩
    unfold numE at h
    rename_i k a k' b
    split at h
    · cases hb' : decide (b < 0) <;> rw [hb'] at h <;> cases h; exact hn ⟨_, _, rfl⟩
    · cases hb' : decide (b < 0) <;> rw [hb'] at h <;> cases h; exact hn ⟨_, _, rfl⟩
    · cases hk : decide (k = k') <;> rw [hk] at h
      · cases h
      · cases hb' : decide (b = 0) <;> rw [hb'] at h <;> cases h; exact hn ⟨_, _, rfl⟩
    · cases hk : decide (k = k') <;> rw [hk] at h
      · cases h
      · cases hb' : decide (b = 0) <;> rw [hb'] at h <;> cases h; exact hn ⟨_, _, rfl⟩
    · cases hk : decide (k = k') <;> rw [hk] at h
      · cases h
      · simp only [cond_true] at h
        cases op <;> simp only [ibin, Option.some.injEq, reduceCtorEq] at h <;> subst h <;> first | exact hn ⟨_, _, rfl⟩ | exact hb ⟨_, rfl⟩
  · simp only [conc, Option.some.injEq] at hv hw
    subst hv; subst hw
    refine ⟨?_, fun W => strE_run h ty x y W⟩
    unfold strE at h
    split at h
    · rename_i a b _
      cases hb' : Nat.blt (a.data.toList.length + b.data.toList.length) 1073741824 <;> rw [hb'] at h <;> cases h; exact hs ⟨_, rfl⟩
    all_goals first | (cases h; exact hb ⟨_, rfl⟩) | cases h
  · split at h
    · simp only [Option.map_eq_some_iff] at h
      obtain ⟨b, h, rfl⟩ := h
      refine ⟨hb ⟨_, rfl⟩, fun W => ?_⟩
      obtain ⟨h1, h2, h3, h4⟩ := eqNil_run (eqNil_conc hv hw h) W
      rw [Sem.run_bind, h1, Result.andThen_ok, h3]
      simp [h2]
    · simp only [Option.map_eq_some_iff] at h
      obtain ⟨b, h, rfl⟩ := h
      refine ⟨hb ⟨_, rfl⟩, fun W => ?_⟩
      obtain ⟨h1, h2, h3, h4⟩ := eqNil_run (eqNil_conc hv hw h) W
      rw [Sem.run_bind, h1, Result.andThen_ok, h4]
      simp [h2]
    · cases h

/-! ### Parts -/
def partE (C : Ct) (ft : TypeId) (cs : List Value) (off : Nat) : Option Value := match C.tt.get ft with
  | some tf => bif isA tf.k then some (.agg ⟨(cs.drop off).take tf.sz⟩) else cs[off]?
  | none => none
theorem partE_run {C : Ct} {ρ : Env} {ft : TypeId} {cs cs' : List Value} {off : Nat} {v : Value} (hc : concs ρ cs = some cs') (h : partE C ft cs off = some v) :
    ∃ u, conc ρ v = some u ∧ ∀ w, (part ft ⟨cs'⟩ off).run C.P w = .ok u w := by
  unfold partE at h
  cases ht : C.tt.get ft with
  | none => rw [ht] at h; cases h
  | some tf =>
    rw [ht] at h
    have hti := C.okT ft tf ht
    simp only at h
    cases hA : isA tf.k with
    | true =>
      rw [hA] at h
      simp only [cond_true, Option.some.injEq] at h
      subst h
      have h1 := concs_take tf.sz (concs_drop off hc)
      refine ⟨.agg ⟨(cs'.drop off).take tf.sz⟩, conc_agg h1, fun w => ?_⟩
      simp only [part, Sem.run_bind, Wk.run_isAgg hti, hA, Result.andThen_ok, if_true, Wk.run_sizeOf hti]
      have e : (⟨cs'⟩ : Array Value).extract off (off + tf.sz) = ⟨(cs'.drop off).take tf.sz⟩ := by
        apply Array.ext'
        simp [List.drop_take]
      rw [e]; rfl
    | false =>
      rw [hA] at h
      simp only [cond_false] at h
      obtain ⟨u, h1, h2⟩ := concs_get hc h
      refine ⟨u, h2, fun w => ?_⟩
      simp only [part, Sem.run_bind, Wk.run_isAgg hti, hA, Result.andThen_ok]
      have e : (⟨cs'⟩ : Array Value)[off]? = some u := by simpa using h1
      simp [e]

/-! ### Bounds -/
def bndE (v : Option Value) (dflt top : Nat) : Option Nat := match v with
  | none => some dflt
  | some (.int k i) => bif decide (0 ≤ i) && decide (i ≤ top) then some i.toNat else none
  | _ => none
theorem bndE_int {k : IntKind} {i : Int} {dflt top r : Nat} (h : bndE (some (.int k i)) dflt top = some r) : 0 ≤ i ∧ i ≤ top ∧ r = i.toNat := by
  simp only [bndE] at h
  cases hb : (decide (0 ≤ i) && decide (i ≤ top)) with
  | false => rw [hb] at h; cases h
  | true => rw [hb] at h; cases h; simp at hb; exact ⟨hb.1, hb.2, rfl⟩
/-- An operand that may be missing. -/
def evO (t : Tr Value) : Option Operand → Option (Option Value)
  | none => some none
  | some x => match evE t x with
    | some (.int k i) => some (some (.int k i))
    | _ => none
theorem evO_spec {ρ : Env} {N : Nat} {fm : Fm} {a : Act} (h : Fr ρ N fm a) {x : Option Operand} {v : Option Value} (hx : evO fm.t x = some v) : x.map a.eval = v ∧ ∀ u, v = some u → ∃ k i, u = .int k i := by
  cases x with
  | none => simp only [evO] at hx; cases hx; exact ⟨rfl, fun u hu => by cases hu⟩
  | some x =>
    simp only [evO] at hx
    split at hx
    · rename_i k i he
      cases hx
      obtain ⟨u, hu, hau⟩ := evE_spec h he
      simp [conc] at hu; subst hu
      exact ⟨by simp [hau], fun u hu => ⟨k, i, by cases hu; rfl⟩⟩
    · cases hx
theorem run_bounds {P : Program} {sl : Bool} {len cap l h : Nat} {lo hi : Option Value} (hh : bndE hi len cap = some h) (hl : bndE lo 0 h = some l) (w : World) :
    (Instr.sliceBounds sl len cap lo hi none).run P w = .ok (l, h, cap) w := by
  have one : ∀ {v : Option Value} {d top r : Nat}, bndE v d top = some r → (v = none ∧ r = d) ∨ ∃ k i, v = some (.int k i) ∧ 0 ≤ i ∧ i ≤ top ∧ r = i.toNat := by
    intro v d top r hv
    cases v with
    | none => simp only [bndE] at hv; cases hv; exact .inl ⟨rfl, rfl⟩
    | some v => cases v with
      | int k i => obtain ⟨h1, h2, h3⟩ := bndE_int hv; exact .inr ⟨k, i, rfl, h1, h2, h3⟩
      | _ => simp [bndE] at hv
  rcases one hh with ⟨rfl, rfl⟩ | ⟨k, i, rfl, h1, h2, rfl⟩ <;> rcases one hl with ⟨rfl, rfl⟩ | ⟨k', i', rfl, h1', h2', rfl⟩
  · simp [Instr.sliceBounds]
  · simp [Instr.sliceBounds, Instr.sliceBound, asIntOf, h1', h2']
  · simp [Instr.sliceBounds, Instr.sliceBound, asIntOf, h1, h2]
  · have h3 : i' ≤ i := by omega
    simp [Instr.sliceBounds, Instr.sliceBound, asIntOf, h1, h2, h1', h3, Int.toNat_of_nonneg h1]
end Go.Ev
