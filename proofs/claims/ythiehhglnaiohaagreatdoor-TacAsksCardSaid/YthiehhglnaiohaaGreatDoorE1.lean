/-
  A reckoner for closed calls: trees by number; values whose blocks bear numbers of their own, and what they stand for.
-/
import Derived.Test.YthiehhglnaiohaaGreatDoorWk13
namespace Go.Ev
open Go.Wk
set_option linter.unusedVariables false
set_option linter.unusedSimpArgs false

/-! ### Trees by number -/
inductive Tr (α : Type) where
  | e
  | n (l : Tr α) (v : Option α) (r : Tr α)

def Tr.get {α : Type} : Tr α → Nat → Option α
  | .e, _ => none
  | .n l v r, k => bif Nat.beq k 0 then v else bif Nat.beq (Nat.mod (Nat.sub k 1) 2) 0 then l.get (Nat.div (Nat.sub k 1) 2) else r.get (Nat.div (Nat.sub k 1) 2)

def Tr.put {α : Type} (x : Option α) : Nat → Tr α → Nat → Tr α
  | 0, t, _ => t
  | f + 1, .e, k => bif Nat.beq k 0 then .n .e x .e else bif Nat.beq (Nat.mod (Nat.sub k 1) 2) 0 then .n (Tr.put x f .e (Nat.div (Nat.sub k 1) 2)) none .e else .n .e none (Tr.put x f .e (Nat.div (Nat.sub k 1) 2))
  | f + 1, .n l v r, k => bif Nat.beq k 0 then .n l x r else bif Nat.beq (Nat.mod (Nat.sub k 1) 2) 0 then .n (Tr.put x f l (Nat.div (Nat.sub k 1) 2)) v r else .n l v (Tr.put x f r (Nat.div (Nat.sub k 1) 2))

theorem Tr.get_e {α : Type} (k : Nat) : (Tr.e : Tr α).get k = none := rfl
theorem Tr.get_n {α : Type} (l : Tr α) (v : Option α) (r : Tr α) (k : Nat) : (Tr.n l v r).get k = if k = 0 then v else if (k - 1) % 2 = 0 then l.get ((k - 1) / 2) else r.get ((k - 1) / 2) := by
  show (bif Nat.beq k 0 then v else bif Nat.beq ((k - 1) % 2) 0 then l.get ((k - 1) / 2) else r.get ((k - 1) / 2)) = _
  by_cases h : k = 0
  · subst h; rfl
  · have : Nat.beq k 0 = false := by cases hk : Nat.beq k 0 with
      | false => rfl
      | true => exact absurd (Nat.eq_of_beq_eq_true hk) h
    rw [this, if_neg h]
    by_cases h2 : (k - 1) % 2 = 0
    · rw [if_pos h2, h2]; rfl
    · have : Nat.beq ((k - 1) % 2) 0 = false := by cases hk : Nat.beq ((k - 1) % 2) 0 with
        | false => rfl
        | true => exact absurd (Nat.eq_of_beq_eq_true hk) h2
      rw [this, if_neg h2]; rfl

theorem Tr.put_e {α : Type} (x : Option α) (f k : Nat) : Tr.put x (f + 1) (.e : Tr α) k = if k = 0 then .n .e x .e else if (k - 1) % 2 = 0 then .n (Tr.put x f .e ((k - 1) / 2)) none .e else .n .e none (Tr.put x f .e ((k - 1) / 2)) := by
  show (bif Nat.beq k 0 then Tr.n Tr.e x Tr.e else bif Nat.beq ((k - 1) % 2) 0 then Tr.n (Tr.put x f .e ((k - 1) / 2)) none .e else Tr.n .e none (Tr.put x f .e ((k - 1) / 2))) = _
  by_cases h : k = 0
  · subst h; rfl
  · have : Nat.beq k 0 = false := by cases hk : Nat.beq k 0 with
      | false => rfl
      | true => exact absurd (Nat.eq_of_beq_eq_true hk) h
    rw [this, if_neg h]
    by_cases h2 : (k - 1) % 2 = 0
    · rw [if_pos h2, h2]; rfl
    · have : Nat.beq ((k - 1) % 2) 0 = false := by cases hk : Nat.beq ((k - 1) % 2) 0 with
        | false => rfl
        | true => exact absurd (Nat.eq_of_beq_eq_true hk) h2
      rw [this, if_neg h2]; rfl
theorem Tr.put_n {α : Type} (x : Option α) (f : Nat) (l : Tr α) (v : Option α) (r : Tr α) (k : Nat) : Tr.put x (f + 1) (.n l v r) k = if k = 0 then .n l x r else if (k - 1) % 2 = 0 then .n (Tr.put x f l ((k - 1) / 2)) v r else .n l v (Tr.put x f r ((k - 1) / 2)) := by
  show (bif Nat.beq k 0 then Tr.n l x r else bif Nat.beq ((k - 1) % 2) 0 then Tr.n (Tr.put x f l ((k - 1) / 2)) v r else Tr.n l v (Tr.put x f r ((k - 1) / 2))) = _
  by_cases h : k = 0
  · subst h; rfl
  · have : Nat.beq k 0 = false := by cases hk : Nat.beq k 0 with
      | false => rfl
      | true => exact absurd (Nat.eq_of_beq_eq_true hk) h
    rw [this, if_neg h]
    by_cases h2 : (k - 1) % 2 = 0
    · rw [if_pos h2, h2]; rfl
    · have : Nat.beq ((k - 1) % 2) 0 = false := by cases hk : Nat.beq ((k - 1) % 2) 0 with
        | false => rfl
        | true => exact absurd (Nat.eq_of_beq_eq_true hk) h2
      rw [this, if_neg h2]; rfl

theorem Tr.get_put {α : Type} (x : Option α) : ∀ (f : Nat) (t : Tr α) (k j : Nat), k + 1 < 2 ^ f → (Tr.put x f t k).get j = if j = k then x else t.get j
  | 0, t, k, j, h => by simp at h
  | f + 1, .e, k, j, h => by
    rw [Tr.put_e]
    by_cases hk : k = 0
    · subst hk; rw [if_pos rfl, Tr.get_n]
      by_cases hj : j = 0
      · simp [hj]
      · simp [hj, Tr.get_e]
    · rw [if_neg hk]
      have hb : (k - 1) / 2 + 1 < 2 ^ f := by have : 2 ^ (f + 1) = 2 * 2 ^ f := by rw [Nat.pow_succ]; omega
                                              omega
      by_cases hp : (k - 1) % 2 = 0
      · rw [if_pos hp, Tr.get_n]
        by_cases hj : j = 0
        · subst hj; rw [if_pos rfl, if_neg (Ne.symm hk)]; rfl
        · rw [if_neg hj]
          by_cases hq : (j - 1) % 2 = 0
          · rw [if_pos hq, Tr.get_put x f .e _ _ hb, Tr.get_e, Tr.get_e]
            by_cases he : j = k
            · subst he; simp
            · rw [if_neg he, if_neg (by omega)]
          · rw [if_neg hq, if_neg (by intro h; subst h; omega)]; rfl
      · rw [if_neg hp, Tr.get_n]
        by_cases hj : j = 0
        · subst hj; rw [if_pos rfl, if_neg (Ne.symm hk)]; rfl
        · rw [if_neg hj]
          by_cases hq : (j - 1) % 2 = 0
          · rw [if_pos hq, if_neg (by intro h; subst h; omega)]; rfl
          · rw [if_neg hq, Tr.get_put x f .e _ _ hb, Tr.get_e, Tr.get_e]
            by_cases he : j = k
            · subst he; simp
            · rw [if_neg he, if_neg (by omega)]
  | f + 1, .n l v r, k, j, h => by
    rw [Tr.put_n]
    by_cases hk : k = 0
    · subst hk; rw [if_pos rfl, Tr.get_n, Tr.get_n]
      by_cases hj : j = 0
      · simp [hj]
      · simp [hj]
    · rw [if_neg hk]
      have hb : (k - 1) / 2 + 1 < 2 ^ f := by have : 2 ^ (f + 1) = 2 * 2 ^ f := by rw [Nat.pow_succ]; omega
                                              omega
      by_cases hp : (k - 1) % 2 = 0
      · rw [if_pos hp, Tr.get_n, Tr.get_n]
        by_cases hj : j = 0
        · subst hj; rw [if_pos rfl, if_neg (Ne.symm hk), if_pos rfl]
        · rw [if_neg hj, if_neg hj]
          by_cases hq : (j - 1) % 2 = 0
          · rw [if_pos hq, if_pos hq, Tr.get_put x f l _ _ hb]
            by_cases he : j = k
            · subst he; simp
            · rw [if_neg he, if_neg (by omega)]
          · rw [if_neg hq, if_neg hq, if_neg (by intro h; subst h; omega)]
      · rw [if_neg hp, Tr.get_n, Tr.get_n]
        by_cases hj : j = 0
        · subst hj; rw [if_pos rfl, if_neg (Ne.symm hk), if_pos rfl]
        · rw [if_neg hj, if_neg hj]
          by_cases hq : (j - 1) % 2 = 0
          · rw [if_pos hq, if_pos hq, if_neg (by intro h; subst h; omega)]
          · rw [if_neg hq, if_neg hq, Tr.get_put x f r _ _ hb]
            by_cases he : j = k
            · subst he; simp
            · rw [if_neg he, if_neg (by omega)]

def TOP : Nat := 1099511627776
def Tr.set {α : Type} (t : Tr α) (k : Nat) (x : Option α) : Tr α := Tr.put x 40 t k
theorem Tr.get_set {α : Type} {t : Tr α} {k : Nat} (x : Option α) (h : Nat.blt (Nat.succ k) TOP = true) (j : Nat) : (t.set k x).get j = if j = k then x else t.get j :=
  Tr.get_put x 40 t k j (by have h1 : k + 1 < TOP := Nat.lt_of_lt_of_le (Nat.lt_succ_self _) (Nat.le_of_ble_eq_true h); exact h1)
/-- Out of a row. -/
def Tr.of {α : Type} : List (Nat × α) → Tr α
  | [] => .e
  | (k, v) :: r => (Tr.of r).set k (some v)

/-! ### Coded values -/
/-- Where a block of one's own lies: its number; for one that may grow, how many elements it holds, and the cells behind those that are told. -/
structure Loc where
  ad : Nat
  cap : Nat
  sp : List Value
abbrev Env := List Loc
def BB : Nat := 1152921504606846976
def CC : Nat := 1180591620717411303424

def cad (ρ : Env) (b : Nat) : Option Nat := bif Nat.ble BB b then (ρ[b - BB]?).map Loc.ad else some b
def cA (ρ : Env) (a : Addr) : Option Addr := (cad ρ a.block).map fun b => ⟨b, a.off, a.spot⟩
def ccap (ρ : Env) (b c : Nat) : Option Nat := bif Nat.ble CC c then (bif Nat.ble BB b then (ρ[b - BB]?).map (fun l => l.cap - (c - CC)) else none) else some c
def cfn (ρ : Env) : Fn → Option Fn
  | .yield l => (cad ρ l).map .yield
  | f => some f

mutual
def conc (ρ : Env) : Value → Option Value
  | .bool b => some (.bool b)
  | .int k n => some (.int k n)
  | .float k n => some (.float k n)
  | .complex k a b => some (.complex k a b)
  | .string s => some (.string s)
  | .pointer none => some (.pointer none)
  | .pointer (some a) => (cA ρ a).map fun a => .pointer (some a)
  | .slice none n c => some (.slice none n c)
  | .slice (some a) n c => match cA ρ a, ccap ρ a.block c with
    | some a', some c' => bif Nat.ble n c' then some (.slice (some a') n c') else none
    | _, _ => none
  | .map none => some (.map none)
  | .map (some r) => (cad ρ r).map fun r => .map (some r)
  | .chan none => some (.chan none)
  | .chan (some _) => none
  | .func fn l m => match cfn ρ fn, concA ρ l, concA ρ m with
    | some fn', some l', some m' => some (.func fn' l' m')
    | _, _, _ => none
  | .nilFunc => some .nilFunc
  | .iface t v => (conc ρ v).map fun v => .iface t v
  | .nilIface => some .nilIface
  | .agg l => (concA ρ l).map .agg
  | .tuple l => (concA ρ l).map .tuple
def concA (ρ : Env) : Array Value → Option (Array Value)
  | ⟨l⟩ => (concs ρ l).map (⟨·⟩)
def concs (ρ : Env) : List Value → Option (List Value)
  | [] => some []
  | v :: r => match conc ρ v, concs ρ r with
    | some u, some us => some (u :: us)
    | _, _ => none
end

/-! ### Laws of coding -/
theorem concs_nil (ρ : Env) : concs ρ [] = some [] := by simp [concs]
theorem concs_cons {ρ : Env} {v : Value} {r us : List Value} : concs ρ (v :: r) = some us ↔ ∃ u t, conc ρ v = some u ∧ concs ρ r = some t ∧ us = u :: t := by
  simp only [concs]
  split
  · rename_i u t h1 h2
    constructor
    · intro h; cases h; exact ⟨u, t, h1, h2, rfl⟩
    · rintro ⟨u', t', h3, h4, rfl⟩
      rw [h1] at h3; rw [h2] at h4; cases h3; cases h4; rfl
  · rename_i hn
    constructor
    · intro h; cases h
    · rintro ⟨u, t, h1, h2, _⟩
      exact absurd h2 (hn u t h1)
theorem concA_mk {ρ : Env} {l : List Value} {us : Array Value} : concA ρ ⟨l⟩ = some us ↔ concs ρ l = some us.toList := by
  simp only [concA]
  cases h : concs ρ l with
  | none => simp
  | some t => constructor
              · intro h; cases h; rfl
              · intro h; cases h; rfl
theorem concA_iff {ρ : Env} {a us : Array Value} : concA ρ a = some us ↔ concs ρ a.toList = some us.toList := by
  cases a; exact concA_mk
theorem concs_len {ρ : Env} : ∀ {l us : List Value}, concs ρ l = some us → us.length = l.length
  | [], us, h => by rw [concs_nil] at h; cases h; rfl
  | v :: r, us, h => by
    obtain ⟨u, t, _, h2, rfl⟩ := concs_cons.1 h
    simp [concs_len h2]
theorem concs_get {ρ : Env} : ∀ {l us : List Value}, concs ρ l = some us → ∀ {i : Nat} {v : Value}, l[i]? = some v → ∃ u, us[i]? = some u ∧ conc ρ v = some u
  | [], us, h, i, v, hi => by simp at hi
  | v :: r, us, h, 0, x, hi => by
    obtain ⟨u, t, h1, h2, rfl⟩ := concs_cons.1 h
    simp at hi; subst hi; exact ⟨u, rfl, h1⟩
  | v :: r, us, h, i + 1, x, hi => by
    obtain ⟨u, t, h1, h2, rfl⟩ := concs_cons.1 h
    simp only [List.getElem?_cons_succ] at hi ⊢
    exact concs_get h2 hi
theorem concs_app {ρ : Env} : ∀ {l m us vs : List Value}, concs ρ l = some us → concs ρ m = some vs → concs ρ (l ++ m) = some (us ++ vs)
  | [], m, us, vs, h, h' => by rw [concs_nil] at h; cases h; exact h'
  | v :: r, m, us, vs, h, h' => by
    obtain ⟨u, t, h1, h2, rfl⟩ := concs_cons.1 h
    exact concs_cons.2 ⟨u, _, h1, concs_app h2 h', rfl⟩
theorem concs_take {ρ : Env} : ∀ {l us : List Value} (n : Nat), concs ρ l = some us → concs ρ (l.take n) = some (us.take n)
  | l, us, 0, h => by simp [concs_nil]
  | [], us, n + 1, h => by rw [concs_nil] at h; cases h; simp [concs_nil]
  | v :: r, us, n + 1, h => by
    obtain ⟨u, t, h1, h2, rfl⟩ := concs_cons.1 h
    exact concs_cons.2 ⟨u, _, h1, concs_take n h2, rfl⟩
theorem concs_drop {ρ : Env} : ∀ {l us : List Value} (n : Nat), concs ρ l = some us → concs ρ (l.drop n) = some (us.drop n)
  | l, us, 0, h => by simpa using h
  | [], us, n + 1, h => by rw [concs_nil] at h; cases h; simp [concs_nil]
  | v :: r, us, n + 1, h => by
    obtain ⟨u, t, h1, h2, rfl⟩ := concs_cons.1 h
    exact concs_drop n h2
theorem concs_set {ρ : Env} {v u : Value} (hv : conc ρ v = some u) : ∀ {l us : List Value} (n : Nat), concs ρ l = some us → concs ρ (l.set n v) = some (us.set n u)
  | [], us, n, h => by rw [concs_nil] at h; cases h; simp [concs_nil]
  | x :: r, us, 0, h => by
    obtain ⟨y, t, h1, h2, rfl⟩ := concs_cons.1 h
    exact concs_cons.2 ⟨u, _, hv, h2, rfl⟩
  | x :: r, us, n + 1, h => by
    obtain ⟨y, t, h1, h2, rfl⟩ := concs_cons.1 h
    exact concs_cons.2 ⟨y, _, h1, concs_set hv n h2, rfl⟩
theorem concs_rep {ρ : Env} {v u : Value} (hv : conc ρ v = some u) : ∀ (n : Nat), concs ρ (List.replicate n v) = some (List.replicate n u)
  | 0 => concs_nil ρ
  | n + 1 => concs_cons.2 ⟨u, _, hv, concs_rep hv n, rfl⟩
theorem concs_one {ρ : Env} {v u : Value} (hv : conc ρ v = some u) : concs ρ [v] = some [u] := concs_cons.2 ⟨u, [], hv, concs_nil ρ, rfl⟩

theorem conc_func {ρ : Env} {fn fn' : Fn} {l l' m m' : List Value} (hf : cfn ρ fn = some fn') (h : concs ρ l = some l') (h' : concs ρ m = some m') : conc ρ (.func fn ⟨l⟩ ⟨m⟩) = some (.func fn' ⟨l'⟩ ⟨m'⟩) := by
  simp only [conc, concA, h, h', hf, Option.map_some]
theorem conc_int (ρ : Env) (k : IntKind) (n : Int) : conc ρ (.int k n) = some (.int k n) := by simp [conc]
theorem conc_bool (ρ : Env) (b : Bool) : conc ρ (.bool b) = some (.bool b) := by simp [conc]
theorem conc_str (ρ : Env) (b : ByteArray) : conc ρ (.string b) = some (.string b) := by simp [conc]
theorem conc_sn (ρ : Env) (n c : Nat) : conc ρ (.slice none n c) = some (.slice none n c) := by simp [conc]
theorem conc_pn (ρ : Env) : conc ρ (.pointer none) = some (.pointer none) := by simp [conc]
theorem conc_agg {ρ : Env} {l l' : List Value} (h : concs ρ l = some l') : conc ρ (.agg ⟨l⟩) = some (.agg ⟨l'⟩) := by
  simp only [conc, concA, h, Option.map_some]
theorem conc_tuple {ρ : Env} {l l' : List Value} (h : concs ρ l = some l') : conc ρ (.tuple ⟨l⟩) = some (.tuple ⟨l'⟩) := by
  simp only [conc, concA, h, Option.map_some]

theorem cad_mono {ρ : Env} (τ : Env) {b c : Nat} (h : cad ρ b = some c) : cad (ρ ++ τ) b = some c := by
  unfold cad at h ⊢
  cases hb : Nat.ble BB b with
  | true =>
    rw [hb] at h
    simp only [cond_true, Option.map_eq_some_iff] at h ⊢
    obtain ⟨l, h1, h2⟩ := h
    exact ⟨l, by rw [List.getElem?_append_left (List.getElem?_eq_some_iff.1 h1).1]; exact h1, h2⟩
  | false => rw [hb] at h; exact h
theorem cA_mono {ρ : Env} (τ : Env) {a a' : Addr} (h : cA ρ a = some a') : cA (ρ ++ τ) a = some a' := by
  unfold cA at h ⊢
  simp only [Option.map_eq_some_iff] at h ⊢
  obtain ⟨b, h1, h2⟩ := h
  exact ⟨b, cad_mono τ h1, h2⟩
theorem ccap_mono {ρ : Env} (τ : Env) {b c c' : Nat} (h : ccap ρ b c = some c') : ccap (ρ ++ τ) b c = some c' := by
  unfold ccap at h ⊢
  cases hc : Nat.ble CC c with
  | false => rw [hc] at h; exact h
  | true =>
    rw [hc] at h
    simp only [cond_true] at h ⊢
    cases hb : Nat.ble BB b with
    | false => rw [hb] at h; cases h
    | true =>
      rw [hb] at h
      simp only [cond_true, Option.map_eq_some_iff] at h ⊢
      obtain ⟨l, h1, h2⟩ := h
      exact ⟨l, by rw [List.getElem?_append_left (List.getElem?_eq_some_iff.1 h1).1]; exact h1, h2⟩
theorem cfn_mono {ρ : Env} (τ : Env) {f f' : Fn} (h : cfn ρ f = some f') : cfn (ρ ++ τ) f = some f' := by
  cases f <;> simp only [cfn] at h ⊢ <;> first | exact h | skip
  simp only [Option.map_eq_some_iff] at h ⊢
  obtain ⟨b, h1, h2⟩ := h
  exact ⟨b, cad_mono τ h1, h2⟩

theorem conc_slice {ρ : Env} {a : Addr} {n c : Nat} {u : Value} : conc ρ (.slice (some a) n c) = some u ↔ ∃ a' c', cA ρ a = some a' ∧ ccap ρ a.block c = some c' ∧ n ≤ c' ∧ u = .slice (some a') n c' := by
  simp only [conc]
  constructor
  · intro h
    split at h
    · rename_i a' c' h1 h2
      cases hb : Nat.ble n c' with
      | false => rw [hb] at h; cases h
      | true => rw [hb] at h; cases h; exact ⟨a', c', h1, h2, Nat.le_of_ble_eq_true hb, rfl⟩
    · cases h
  · rintro ⟨a', c', h1, h2, h3, rfl⟩
    rw [h1, h2]
    simp only [Nat.ble_eq_true_of_le h3, cond_true]

mutual
theorem conc_mono {ρ : Env} (τ : Env) : ∀ {v u : Value}, conc ρ v = some u → conc (ρ ++ τ) v = some u
  | .bool _, _, h => by simpa [conc] using h
  | .int _ _, _, h => by simpa [conc] using h
  | .float _ _, _, h => by simpa [conc] using h
  | .complex _ _ _, _, h => by simpa [conc] using h
  | .string _, _, h => by simpa [conc] using h
  | .pointer none, _, h => by simpa [conc] using h
  | .pointer (some a), _, h => by
    simp only [conc, Option.map_eq_some_iff] at h ⊢
    obtain ⟨b, h1, h2⟩ := h
    exact ⟨b, cA_mono τ h1, h2⟩
  | .slice none _ _, _, h => by simpa [conc] using h
  | .slice (some a) n c, u, h => by
    obtain ⟨a', c', h1, h2, h3, h4⟩ := conc_slice.1 h
    exact conc_slice.2 ⟨a', c', cA_mono τ h1, ccap_mono τ h2, h3, h4⟩
  | .map none, _, h => by simpa [conc] using h
  | .map (some r), _, h => by
    simp only [conc, Option.map_eq_some_iff] at h ⊢
    obtain ⟨b, h1, h2⟩ := h
    exact ⟨b, cad_mono τ h1, h2⟩
  | .chan none, _, h => by simpa [conc] using h
  | .chan (some _), _, h => by simp [conc] at h
  | .func fn l m, u, h => by
    simp only [conc] at h ⊢
    split at h
    · rename_i fn' l' m' h1 h2 h3
      rw [cfn_mono τ h1, concA_mono τ h2, concA_mono τ h3]; exact h
    · cases h
  | .nilFunc, _, h => by simpa [conc] using h
  | .iface t v, _, h => by
    simp only [conc, Option.map_eq_some_iff] at h ⊢
    obtain ⟨b, h1, h2⟩ := h
    exact ⟨b, conc_mono τ h1, h2⟩
  | .nilIface, _, h => by simpa [conc] using h
  | .agg l, _, h => by
    simp only [conc, Option.map_eq_some_iff] at h ⊢
    obtain ⟨b, h1, h2⟩ := h
    exact ⟨b, concA_mono τ h1, h2⟩
  | .tuple l, _, h => by
    simp only [conc, Option.map_eq_some_iff] at h ⊢
    obtain ⟨b, h1, h2⟩ := h
    exact ⟨b, concA_mono τ h1, h2⟩
theorem concA_mono {ρ : Env} (τ : Env) : ∀ {l us : Array Value}, concA ρ l = some us → concA (ρ ++ τ) l = some us
  | ⟨l⟩, us, h => concA_mk.2 (concs_mono τ (concA_mk.1 h))
theorem concs_mono {ρ : Env} (τ : Env) : ∀ {l us : List Value}, concs ρ l = some us → concs (ρ ++ τ) l = some us
  | [], _, h => by simpa [concs] using h
  | v :: r, us, h => by
    obtain ⟨u, t, h1, h2, h3⟩ := concs_cons.1 h
    exact concs_cons.2 ⟨u, t, conc_mono τ h1, concs_mono τ h2, h3⟩
end

/-- Values that speak of no memory of one's own. -/
def cst : Nat → Value → Bool
  | 0, _ => false
  | f + 1, v => match v with
    | .bool _ => true
    | .int _ _ => true
    | .float _ _ => true
    | .complex _ _ _ => true
    | .string _ => true
    | .pointer none => true
    | .pointer (some a) => Nat.blt a.block BB
    | .slice none _ _ => true
    | .slice (some a) n c => Nat.blt a.block BB && Nat.blt c CC && Nat.ble n c
    | .map none => true
    | .map (some r) => Nat.blt r BB
    | .chan none => true
    | .chan (some _) => false
    | .func fn l m => (match fn with | .yield _ => false | _ => true) && l.toList.all (cst f) && m.toList.all (cst f)
    | .nilFunc => true
    | .iface _ v => cst f v
    | .nilIface => true
    | .agg l => l.toList.all (cst f)
    | .tuple l => l.toList.all (cst f)
theorem cad_lt {ρ : Env} {b : Nat} (h : Nat.blt b BB = true) : cad ρ b = some b := by
  have h1 : b < BB := Nat.lt_of_lt_of_le (Nat.lt_succ_self _) (Nat.le_of_ble_eq_true h)
  have : Nat.ble BB b = false := by
    cases hb : Nat.ble BB b with
    | false => rfl
    | true => exact absurd (Nat.le_of_ble_eq_true hb) (by omega)
  simp [cad, this]
theorem ccap_lt {ρ : Env} {b c : Nat} (h : Nat.blt c CC = true) : ccap ρ b c = some c := by
  have h1 : c < CC := Nat.lt_of_lt_of_le (Nat.lt_succ_self _) (Nat.le_of_ble_eq_true h)
  have : Nat.ble CC c = false := by
    cases hb : Nat.ble CC c with
    | false => rfl
    | true => exact absurd (Nat.le_of_ble_eq_true hb) (by omega)
  simp [ccap, this]
theorem concs_all {ρ : Env} {p : Value → Bool} (hp : ∀ v, p v = true → conc ρ v = some v) : ∀ {l : List Value}, l.all p = true → concs ρ l = some l
  | [], _ => concs_nil ρ
  | v :: r, h => by
    simp only [List.all_cons, Bool.and_eq_true] at h
    exact concs_cons.2 ⟨v, r, hp v h.1, concs_all hp h.2, rfl⟩
theorem cst_conc {ρ : Env} : ∀ {f : Nat} {v : Value}, cst f v = true → conc ρ v = some v
  | 0, v, h => by simp [cst] at h
  | f + 1, v, h => by
    have ih : ∀ {l : List Value}, l.all (cst f) = true → concs ρ l = some l := fun h => concs_all (fun v hv => cst_conc hv) h
    have ihA : ∀ {l : Array Value}, l.toList.all (cst f) = true → concA ρ l = some l := fun {l} h => concA_iff.2 (ih h)
    cases v with
    | pointer a => cases a with
      | none => simp [conc]
      | some a => simp only [cst] at h; simp [conc, cA, cad_lt h]
    | slice a n c => cases a with
      | none => simp [conc]
      | some a => simp only [cst, Bool.and_eq_true] at h; simp [conc, cA, cad_lt h.1.1, ccap_lt h.1.2, h.2]
    | map r => cases r with
      | none => simp [conc]
      | some r => simp only [cst] at h; simp [conc, cad_lt h]
    | chan r => cases r with
      | none => simp [conc]
      | some r => simp [cst] at h
    | func fn l m =>
      simp only [cst, Bool.and_eq_true] at h
      have hf : cfn ρ fn = some fn := by cases fn <;> simp_all [cfn]
      simp only [conc, hf, ihA h.1.2, ihA h.2]
    | iface t v => simp only [cst] at h; simp [conc, cst_conc h]
    | agg l => simp only [cst] at h; simp [conc, ihA h]
    | tuple l => simp only [cst] at h; simp [conc, ihA h]
    | _ => simp [conc]
end Go.Ev
