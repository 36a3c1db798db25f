/-
  A region that draws its order, reckoned; code without ranges over functions.
  Code, reckoned.
  Functions, reckoned: how they begin and leave; rounds; the knot.
-/
import Derived.Test.YtpohhfggmaihpaaGreatDoorZ8
import Derived.RangeFuncLeaves
import Derived.RecoverIn

/- A region that draws its order, reckoned; code without ranges over functions. -/
namespace Go.Ev
open Go.Wk
set_option linter.unusedVariables false
set_option linter.unusedSimpArgs false

/-! ### Equal coded values -/
mutual
def beqV : Nat → Value → Value → Bool
  | 0, _, _ => false
  | f + 1, .bool a, .bool b => a == b
  | f + 1, .int j a, .int k b => decide (j = k) && decide (a = b)
  | f + 1, .string a, .string b => eqB a.data.toList b.data.toList
  | f + 1, .pointer a, .pointer b => decide (a = b)
  | f + 1, .slice a n c, .slice b m d => decide (a = b) && Nat.beq n m && Nat.beq c d
  | f + 1, .map a, .map b => decide (a = b)
  | f + 1, .nilFunc, .nilFunc => true
  | f + 1, .func (.func a) l m, .func (.func b) l' m' => Nat.beq a b && beqL f l.toList l'.toList && beqL f m.toList m'.toList
  | f + 1, .nilIface, .nilIface => true
  | f + 1, .iface t v, .iface u w => Nat.beq t u && beqV f v w
  | f + 1, .agg l, .agg m => beqL f l.toList m.toList
  | f + 1, .tuple l, .tuple m => beqL f l.toList m.toList
  | _, _, _ => false
def beqL : Nat → List Value → List Value → Bool
  | 0, _, _ => false
  | f + 1, [], [] => true
  | f + 1, v :: r, w :: t => beqV f v w && beqL f r t
  | _, _, _ => false
end
mutual
theorem beqV_eq : ∀ (f : Nat) (a b : Value), beqV f a b = true → a = b
  | 0, a, b, h => by simp [beqV] at h
  | f + 1, a, b, h => by
    unfold beqV at h
    split at h
    · cases ‹_ = 0›
    · simp at h; rw [h]
    · simp at h; rw [h.1, h.2]
    · rename_i a b _
      rw [eqB_beq, beq_toListBytes, ByteArray.toList_eq, ByteArray.toList_eq] at h
      simp only [beq_iff_eq] at h
      rw [bytes_eq h, bytes_eq (a := b) rfl]
    · simp at h; rw [h]
    · simp only [Bool.and_eq_true, decide_eq_true_eq] at h
      rw [h.1.1, Nat.eq_of_beq_eq_true h.1.2, Nat.eq_of_beq_eq_true h.2]
    · simp at h; rw [h]
    · rfl
    · simp only [Bool.and_eq_true] at h
      have e1 := beqL_eq _ _ _ h.1.2
      have e2 := beqL_eq _ _ _ h.2
      rw [Nat.eq_of_beq_eq_true h.1.1, Array.toList_inj.1 e1, Array.toList_inj.1 e2]
    · rfl
    · simp only [Bool.and_eq_true] at h
      rw [Nat.eq_of_beq_eq_true h.1, beqV_eq _ _ _ h.2]
    · rw [Array.toList_inj.1 (beqL_eq _ _ _ h)]
    · rw [Array.toList_inj.1 (beqL_eq _ _ _ h)]
    · cases h
theorem beqL_eq : ∀ (f : Nat) (a b : List Value), beqL f a b = true → a = b
  | 0, a, b, h => by simp [beqL] at h
  | f + 1, a, b, h => by
    unfold beqL at h
    split at h
    · cases ‹_ = 0›
    · rfl
    · simp only [Bool.and_eq_true] at h
      rw [beqV_eq _ _ _ h.1, beqL_eq _ _ _ h.2]
    · cases h
end

/-! ### Loads that were taken first -/
abbrev Lds := List (TypeId × Value × Value)
def SL (P : Program) (LA : Lds) : World → Prop := fun w => ∀ x ∈ LA, (Instr.loadAt x.1 x.2.1).run P w = .ok x.2.2 w
def LR (ρ : Env) : Lds → Lds → Prop
  | [], [] => True
  | (t, p, v) :: r, (t', p', v') :: r' => t = t' ∧ conc ρ p = some p' ∧ conc ρ v = some v' ∧ LR ρ r r'
  | _, _ => False
theorem LR.mono {ρ : Env} (τ : Env) : ∀ {l l' : Lds}, LR ρ l l' → LR (ρ ++ τ) l l'
  | [], [], _ => trivial
  | (t, p, v) :: r, (t', p', v') :: r', h => ⟨h.1, conc_mono τ h.2.1, conc_mono τ h.2.2.1, LR.mono τ h.2.2.2⟩
  | [], _ :: _, h => h.elim
  | _ :: _, [], h => h.elim
def againE (C : Ct) (s : St) (l : Lds) : Bool := l.all fun x => match ldE C s x.1 x.2.1 with
  | some v => beqV 200 v x.2.2
  | none => false
theorem againE_spec {C : Ct} {w0 : World} {D : Nat → Prop} {ρ : Env} {s : St} {w : World} (H : Sr C w0 D ρ s w) : ∀ {l l' : Lds}, LR ρ l l' → againE C s l = true → SL C.P l' w
  | [], [], _, _ => fun x hx => by cases hx
  | (t, p, v) :: r, (t', p', v') :: r', hl, h => by
    obtain ⟨rfl, h1, h2, h3⟩ := hl
    unfold againE at h
    simp only [List.all_cons, Bool.and_eq_true] at h
    have ih := againE_spec H h3 (by unfold againE; exact h.2)
    intro x hx
    rcases List.mem_cons.1 hx with rfl | hx
    · have h4 := h.1
      split at h4
      · rename_i u hu
        have := beqV_eq _ _ _ h4
        subst this
        obtain ⟨u', g1, g2⟩ := ldE_run H h1 hu
        rw [h2] at g1; cases g1
        exact g2
      · cases h4
    · exact ih x hx
  | [], _ :: _, hl, _ => hl.elim
  | _ :: _, [], hl, _ => hl.elim

/-! ### A region that draws -/
def eraE : List Oper → Tr Value → Option (Tr Value)
  | [], t => some t
  | o :: r, t => match o.dst with
    | none => eraE r t
    | some d => bif Nat.blt (Nat.succ d) TOP then eraE r (t.set d none) else none
theorem eraE_sub : ∀ {l : List Oper} {t t' : Tr Value}, eraE l t = some t' → ∀ i v, t'.get i = some v → t.get i = some v
  | [], t, t', h, i, v, hi => by simp only [eraE, Option.some.injEq] at h; subst h; exact hi
  | o :: r, t, t', h, i, v, hi => by
    simp only [eraE] at h
    split at h
    · exact eraE_sub h i v hi
    · rename_i d hd
      cases hb : Nat.blt (Nat.succ d) TOP with
      | false => rw [hb] at h; cases h
      | true =>
        rw [hb, cond_true] at h
        have := eraE_sub h i v hi
        rw [Tr.get_set _ hb] at this
        split at this
        · cases this
        · exact this
theorem eraE_none : ∀ {l : List Oper} {t t' : Tr Value}, eraE l t = some t' → ∀ o ∈ l, ∀ d, o.dst = some d → t'.get d = none
  | [], _, _, _, x, hx, _, _ => by cases hx
  | o :: r, t, t', h, x, hx, d, hd => by
    have hsub : ∀ {t1 : Tr Value}, eraE r t1 = some t' → t1.get d = none → t'.get d = none := fun h1 h2 => by
      cases hq : t'.get d with
      | none => rfl
      | some v => rw [eraE_sub h1 d v hq] at h2; cases h2
    simp only [eraE] at h
    split at h
    · rename_i hod
      rcases List.mem_cons.1 hx with rfl | hx
      · rw [hod] at hd; cases hd
      · exact eraE_none h x hx d hd
    · rename_i d' hod
      cases hb : Nat.blt (Nat.succ d') TOP with
      | false => rw [hb] at h; cases h
      | true =>
        rw [hb, cond_true] at h
        rcases List.mem_cons.1 hx with rfl | hx
        · rw [hod] at hd; cases hd
          exact hsub h (by rw [Tr.get_set _ hb, if_pos rfl])
        · exact eraE_none h x hx d hd

/-- What may be taken first: its value, and whether it is a load (type, address). -/
def qE (C : Ct) (ops : List Oper) (fm : Fm) (s : St) (o : Oper) : Option (Value × Option (TypeId × Value)) := match wantE ops fm o with
  | some false => some (undef, none)
  | some true => (match quiE C fm.t o with
    | some v => some (v, none)
    | none => (match o.op with
      | .load ty x => (evE fm.t x).bind fun p => (ldE C s ty p).bind fun v => some (v, some (ty, p))
      | _ => none))
  | none => none
def pkE (C : Ct) (ops : List Oper) (listed : Array Bool) (fm : Fm) (s : St) : List Nat → Option (Nat × Oper × Value × Option (TypeId × Value))
  | [] => none
  | i :: r => match (bif Region.free .any ops.toArray listed i then (ops[i]?).bind fun o => (qE C ops fm s o).bind fun q => some (i, o, q.1, q.2) else none) with
    | some x => some x
    | none => pkE C ops listed fm s r
theorem pkE_some {C : Ct} {ops : List Oper} {listed : Array Bool} {fm : Fm} {s : St} : ∀ {l : List Nat} {i : Nat} {o : Oper} {v : Value} {q : Option (TypeId × Value)}, pkE C ops listed fm s l = some (i, o, v, q) →
    i ∈ l ∧ Region.free .any ops.toArray listed i = true ∧ ops[i]? = some o ∧ qE C ops fm s o = some (v, q)
  | [], _, _, _, _, h => by simp [pkE] at h
  | i :: r, j, o, v, q, h => by
    simp only [pkE] at h
    split at h
    · rename_i x hx
      cases h
      cases hf : Region.free .any ops.toArray listed i with
      | false => rw [hf] at hx; cases hx
      | true =>
        rw [hf, cond_true] at hx
        obtain ⟨o', h1, h2⟩ := Option.bind_eq_some_iff.1 hx
        obtain ⟨q', h3, h4⟩ := Option.bind_eq_some_iff.1 h2
        cases h4
        exact ⟨List.mem_cons_self, hf, h1, h3⟩
    · obtain ⟨h1, h2⟩ := pkE_some h
      exact ⟨List.mem_cons_of_mem _ h1, h2⟩
/-! ### States held against each other -/
def beqO' {α : Type} (p : α → α → Bool) : Option α → Option α → Bool
  | none, none => true
  | some a, some b => p a b
  | _, _ => false
theorem beqO'_eq {α : Type} {p : α → α → Bool} (hp : ∀ a b, p a b = true → a = b) : ∀ {a b : Option α}, beqO' p a b = true → a = b
  | none, none, _ => rfl
  | some a, some b, h => by rw [hp a b h]
  | none, some _, h => by cases h
  | some _, none, h => by cases h
def beqT {α : Type} (p : α → α → Bool) : Tr α → Tr α → Bool
  | .e, .e => true
  | .n l v r, .n l' v' r' => beqO' p v v' && (beqT p l l' && beqT p r r')
  | _, _ => false
theorem beqT_eq {α : Type} {p : α → α → Bool} (hp : ∀ a b, p a b = true → a = b) : ∀ {a b : Tr α}, beqT p a b = true → a = b
  | .e, .e, _ => rfl
  | .n l v r, .n l' v' r', h => by
    simp only [beqT, Bool.and_eq_true] at h
    rw [beqO'_eq hp h.1, beqT_eq hp h.2.1, beqT_eq hp h.2.2]
  | .e, .n _ _ _, h => by cases h
  | .n _ _ _, .e, h => by cases h
def beqLs {α : Type} (p : α → α → Bool) : List α → List α → Bool
  | [], [] => true
  | a :: r, b :: t => p a b && beqLs p r t
  | _, _ => false
theorem beqLs_eq {α : Type} {p : α → α → Bool} (hp : ∀ a b, p a b = true → a = b) : ∀ {a b : List α}, beqLs p a b = true → a = b
  | [], [], _ => rfl
  | a :: r, b :: t, h => by
    simp only [beqLs, Bool.and_eq_true] at h
    rw [hp a b h.1, beqLs_eq hp h.2]
  | [], _ :: _, h => by cases h
  | _ :: _, [], h => by cases h
def VF : Nat := 100000
theorem beqVF (a b : Value) (h : beqV VF a b = true) : a = b := beqV_eq VF a b h
def beqLF (a b : List Value) : Bool := beqLs (beqV VF) a b
theorem beqLF_eq {a b : List Value} (h : beqLF a b = true) : a = b := beqLs_eq beqVF h
def beqME (a b : MapEntry) : Bool := beqV VF a.key b.key && (beqV VF a.val b.val && Nat.beq a.born b.born)
theorem beqME_eq (a b : MapEntry) (h : beqME a b = true) : a = b := by
  obtain ⟨k, v, n⟩ := a
  obtain ⟨k', v', n'⟩ := b
  simp only [beqME, Bool.and_eq_true] at h
  rw [beqVF _ _ h.1, beqVF _ _ h.2.1, Nat.eq_of_beq_eq_true h.2.2]
def beqDf : Deferred → Deferred → Bool
  | ⟨.fn (.func f) m, l⟩, ⟨.fn (.func f') m', l'⟩ => Nat.beq f f' && (beqLF m.toList m'.toList && beqLF l.toList l'.toList)
  | ⟨.collected r, l⟩, ⟨.collected r', l'⟩ => Nat.beq r r' && beqLF l.toList l'.toList
  | _, _ => false
theorem beqDf_eq (a b : Deferred) (h : beqDf a b = true) : a = b := by
  unfold beqDf at h
  split at h
  · simp only [Bool.and_eq_true] at h
    rw [Nat.eq_of_beq_eq_true h.1, Array.toList_inj.1 (beqLF_eq h.2.1), Array.toList_inj.1 (beqLF_eq h.2.2)]
  · simp only [Bool.and_eq_true] at h
    rw [Nat.eq_of_beq_eq_true h.1, Array.toList_inj.1 (beqLF_eq h.2)]
  · cases h
def beqOb : Obj → Obj → Bool
  | .cells l e fz, .cells l' e' fz' => Nat.beq e e' && (Nat.beq fz.1 fz'.1 && (Nat.beq fz.2 fz'.2 && beqLF l.toList l'.toList))
  | .map es c, .map es' c' => Nat.beq c c' && beqLs beqME es.toList es'.toList
  | .deferred none, .deferred none => true
  | .deferred (some l), .deferred (some l') => beqLs beqDf l l'
  | _, _ => false
theorem beqOb_eq (a b : Obj) (h : beqOb a b = true) : a = b := by
  unfold beqOb at h
  split at h
  · rename_i l e fz l' e' fz'
    simp only [Bool.and_eq_true] at h
    obtain ⟨x, y⟩ := fz
    obtain ⟨x', y'⟩ := fz'
    have h1 := Nat.eq_of_beq_eq_true h.2.1
    have h2 := Nat.eq_of_beq_eq_true h.2.2.1
    dsimp only at h1 h2
    rw [Nat.eq_of_beq_eq_true h.1, h1, h2, Array.toList_inj.1 (beqLF_eq h.2.2.2)]
  · simp only [Bool.and_eq_true] at h
    rw [Nat.eq_of_beq_eq_true h.1, Array.toList_inj.1 (beqLs_eq beqME_eq h.2)]
  · rfl
  · rw [beqLs_eq beqDf_eq h]
  · cases h
def beqN (a b : Nat) : Bool := Nat.beq a b
def beqS (a b : St) : Bool := Nat.beq a.n b.n && (Nat.beq a.m b.m && (beqLs Nat.beq a.rs b.rs && beqT beqOb a.h b.h))
theorem beqS_eq {a b : St} (h : beqS a b = true) : a = b := by
  obtain ⟨n, m, rs, t⟩ := a
  obtain ⟨n', m', rs', t'⟩ := b
  simp only [beqS, Bool.and_eq_true] at h
  rw [Nat.eq_of_beq_eq_true h.1, Nat.eq_of_beq_eq_true h.2.1, beqLs_eq (fun a b => Nat.eq_of_beq_eq_true) h.2.2.1, beqT_eq beqOb_eq h.2.2.2]
def beqF (a b : Fm) : Bool := Nat.beq a.N b.N && (beqT (beqV VF) a.t b.t && beqLs beqDf a.ds b.ds)
theorem beqF_eq {a b : Fm} (h : beqF a b = true) : a = b := by
  obtain ⟨n, t, ds⟩ := a
  obtain ⟨n', t', ds'⟩ := b
  simp only [beqF, Bool.and_eq_true] at h
  rw [Nat.eq_of_beq_eq_true h.1, beqT_eq beqVF h.2.1, beqLs_eq beqDf_eq h.2.2]
def beqB : Bool → Bool → Bool
  | true, true => true
  | false, false => true
  | _, _ => false
theorem beqB_eq (a b : Bool) (h : beqB a b = true) : a = b := by cases a <;> cases b <;> first | rfl | cases h
def beqPE (a b : PanicEntry) : Bool := beqV VF a.v b.v && (beqB a.recovered b.recovered && beqB a.goexit b.goexit)
theorem beqPE_eq (a b : PanicEntry) (h : beqPE a b = true) : a = b := by
  obtain ⟨v, r, g⟩ := a
  obtain ⟨v', r', g'⟩ := b
  simp only [beqPE, Bool.and_eq_true] at h
  rw [beqVF _ _ h.1, beqB_eq _ _ h.2.1, beqB_eq _ _ h.2.2]
def beqEx : Ex → Ex → Bool
  | .norm, .norm => true
  | .pan a, .pan b => beqLs beqPE a b
  | _, _ => false
theorem beqEx_eq {a b : Ex} (h : beqEx a b = true) : a = b := by
  unfold beqEx at h
  split at h
  · rfl
  · rw [beqLs_eq beqPE_eq h]
  · cases h
abbrev Ou := Ex × Fm × St
def beqOu (a b : Ou) : Bool := beqEx a.1 b.1 && (beqF a.2.1 b.2.1 && beqS a.2.2 b.2.2)
theorem beqOu_eq {a b : Ou} (h : beqOu a b = true) : a = b := by
  obtain ⟨x, f, s⟩ := a
  obtain ⟨x', f', s'⟩ := b
  simp only [beqOu, Bool.and_eq_true] at h
  have h1 := beqEx_eq h.1
  have h2 := beqF_eq h.2.1
  have h3 := beqS_eq h.2.2
  try dsimp only at h1 h2 h3
  rw [h1, h2, h3]
def beqLd (a b : TypeId × Value × Value) : Bool := Nat.beq a.1 b.1 && (beqV VF a.2.1 b.2.1 && beqV VF a.2.2 b.2.2)
theorem beqLd_eq (a b : TypeId × Value × Value) (h : beqLd a b = true) : a = b := by
  obtain ⟨t, p, v⟩ := a
  obtain ⟨t', p', v'⟩ := b
  simp only [beqLd, Bool.and_eq_true] at h
  have h1 : t = t' := Nat.eq_of_beq_eq_true h.1
  have h2 := beqVF _ _ h.2.1
  have h3 := beqVF _ _ h.2.2
  try dsimp only at h2 h3
  rw [h1, h2, h3]

/-! ### Where more than one is ready: every choice -/
/-- How far a region is. -/
structure Xs where
  f : Nat
  al : Bool
  LS : Lds
  rc : List Nat
  listed : Array Bool
  fm : Fm
  s : St
def beqX (a b : Xs) : Bool := beqLs beqB a.listed.toList b.listed.toList && (Nat.beq a.f b.f && (beqB a.al b.al && (beqLs Nat.beq a.rc b.rc && (beqLs beqLd a.LS b.LS && (beqF a.fm b.fm && beqS a.s b.s)))))
theorem beqX_eq {a b : Xs} (h : beqX a b = true) : a = b := by
  obtain ⟨f, al, LS, rec, listed, fm, s⟩ := a
  obtain ⟨f', al', LS', rec', listed', fm', s'⟩ := b
  simp only [beqX, Bool.and_eq_true] at h
  obtain ⟨h1, h2, h3, h4, h5, h6, h7⟩ := h
  rw [Array.toList_inj.1 (beqLs_eq beqB_eq h1), Nat.eq_of_beq_eq_true h2, beqB_eq _ _ h3, beqLs_eq (fun a b => Nat.eq_of_beq_eq_true) h4, beqLs_eq beqLd_eq h5, beqF_eq h6, beqS_eq h7]
def fixP (r : Nat) : Sp → Sp
  | .go fm s => .go fm (s.fixR r)
  | .pan ch s => .pan ch (s.fixR r)
def stpR (C : Ct) (K : Cal) (b i : Nat) (fm : Fm) (s : St) (o : Oper) : Option Sp := (s.takeR (Nat.add b i)).bind fun s1 => (stpE C K false fm s1 o).bind fun r => some (fixP (Nat.add b i) r)
/-- One operation of those ready. -/
def oneX (C : Ct) (K : Cal) (ops : List Oper) (b f : Nat) (x : Xs) (i : Nat) : Option (Ou ⊕ Xs) := (ops[i]?).bind fun o => match wantE ops x.fm o with
  | some true => (match stpR C K b i x.fm x.s o with
    | some (.go fm' s') => bif !(x.al && !waitsAll ops.toArray x.rc i) || againE C s' x.LS then some (.inr ⟨f, x.al && !waitsAll ops.toArray x.rc i, x.LS, x.rc, x.listed.setIfInBounds i true, fm', s'⟩) else none
    | some (.pan ch s') => (eraE ops x.fm.t).bind fun t' => some (.inl (.pan ch, { x.fm with t := t' }, s'))
    | none => none)
  | some false => (x.fm.put o.dst undef).bind fun fm' => bif !(x.al && !waitsAll ops.toArray x.rc i) || againE C x.s x.LS then some (.inr ⟨f, x.al && !waitsAll ops.toArray x.rc i, x.LS, x.rc, x.listed.setIfInBounds i true, fm', x.s⟩) else none
  | none => none
def eachX (C : Ct) (K : Cal) (ops : List Oper) (b f : Nat) (x : Xs) : List Nat → Option (List (Ou ⊕ Xs))
  | [] => some []
  | i :: r => (oneX C K ops b f x i).bind fun y => (eachX C K ops b f x r).bind fun ys => some (y :: ys)
def nxX (C : Ct) (K : Cal) (ops : List Oper) (b : Nat) (x : Xs) : Option (List (Ou ⊕ Xs)) := match Region.ready .any ops.toArray x.listed with
  | [] => some [.inl (.norm, x.fm, x.s)]
  | i0 :: rs => match x.f with
    | 0 => none
    | f + 1 => match pkE C ops x.listed x.fm x.s (i0 :: rs) with
      | some (i, o, v, none) => (x.fm.put o.dst v).bind fun fm' => some [.inr ⟨f, x.al, x.LS, x.rc, x.listed.setIfInBounds i true, fm', x.s⟩]
      | some (i, o, v, some (ty, p)) => (x.fm.put o.dst v).bind fun fm' => some [.inr ⟨f, true, (bif x.al then (ty, p, v) :: x.LS else [(ty, p, v)]), (bif x.al then i :: x.rc else [i]), x.listed.setIfInBounds i true, fm', x.s⟩]
      | none => eachX C K ops b f x (i0 :: rs)
def allX (C : Ct) (K : Cal) (ops : List Oper) (b : Nat) : List Xs → Option (List (Ou ⊕ Xs))
  | [] => some []
  | x :: r => (nxX C K ops b x).bind fun ys => (allX C K ops b r).bind fun zs => some (ys ++ zs)
/-- What has come out, if it is always the same. -/
def outsX : Option Ou → List (Ou ⊕ Xs) → Option (Option Ou)
  | o, [] => some o
  | none, .inl a :: r => outsX (some a) r
  | some b, .inl a :: r => bif beqOu a b then outsX (some b) r else none
  | o, .inr _ :: r => outsX o r
/-- Those that go on, each once. -/
def ddX : List (Ou ⊕ Xs) → List Xs
  | [] => []
  | .inl _ :: r => ddX r
  | .inr x :: r => bif (ddX r).any (beqX x) then ddX r else x :: ddX r
def bfsX (C : Ct) (K : Cal) (ops : List Oper) (b : Nat) : Nat → Option Ou → List Xs → Option Ou
  | 0, _, _ => none
  | g + 1, o, front => (allX C K ops b front).bind fun ys => (outsX o ys).bind fun o' => match ddX ys with
    | [] => o'
    | x :: r => bfsX C K ops b g o' (x :: r)
def tieE (C : Ct) (K : Cal) (ops : List Oper) (x : Xs) : Option Ou := (bfsX C K ops x.s.m (Nat.succ (Nat.succ x.f)) none [{ x with s := x.s.hold ops.length }]).bind fun o => some (o.1, o.2.1, o.2.2.dropR x.s.m ops.length)

section
variable {C : Ct} {w0 : World} {D : Nat → Prop} {N : Nat} {ro : Option Nat} {K : Cal} {ops : List Oper}

theorem outsX_spec {out : Ou} : ∀ {ys : List (Ou ⊕ Xs)} {o o' : Option Ou}, outsX o ys = some o' → (∀ q, o' = some q → q = out) → (∀ q, o = some q → q = out) ∧ ∀ a, .inl a ∈ ys → a = out
  | [], o, o', h, hq => by
    simp only [outsX, Option.some.injEq] at h; subst h
    exact ⟨hq, fun a ha => by cases ha⟩
  | .inl a :: r, none, o', h, hq => by
    simp only [outsX] at h
    obtain ⟨h1, h2⟩ := outsX_spec h hq
    refine ⟨(fun q hh => by cases hh), fun a' ha => ?_⟩
    rcases List.mem_cons.1 ha with h3 | h3
    · cases h3; exact h1 a rfl
    · exact h2 a' h3
  | .inl a :: r, some b, o', h, hq => by
    simp only [outsX] at h
    cases hb : beqOu a b with
    | false => rw [hb] at h; cases h
    | true =>
      rw [hb, cond_true] at h
      obtain ⟨h1, h2⟩ := outsX_spec h hq
      refine ⟨h1, fun a' ha => ?_⟩
      rcases List.mem_cons.1 ha with h3 | h3
      · cases h3; rw [beqOu_eq hb]; exact h1 b rfl
      · exact h2 a' h3
  | .inr x :: r, o, o', h, hq => by
    have h' : outsX o r = some o' := by cases o <;> exact h
    obtain ⟨h1, h2⟩ := outsX_spec h' hq
    refine ⟨h1, fun a' ha => ?_⟩
    rcases List.mem_cons.1 ha with h3 | h3
    · cases h3
    · exact h2 a' h3
theorem ddX_spec {p : Xs → Prop} : ∀ {ys : List (Ou ⊕ Xs)}, (∀ x ∈ ddX ys, p x) → ∀ x, .inr x ∈ ys → p x
  | [], _, x, h => by cases h
  | .inl a :: r, hp, x, h => by
    rcases List.mem_cons.1 h with h | h
    · cases h
    · exact ddX_spec (ys := r) hp x h
  | .inr y :: r, hp, x, h => by
    simp only [ddX] at hp
    cases hb : (ddX r).any (beqX y) with
    | true =>
      rw [hb, cond_true] at hp
      rcases List.mem_cons.1 h with h | h
      · cases h
        obtain ⟨z, h1, h2⟩ := List.any_eq_true.1 hb
        rw [beqX_eq h2]; exact hp z h1
      · exact ddX_spec hp x h
    | false =>
      rw [hb, cond_false] at hp
      rcases List.mem_cons.1 h with h | h
      · cases h; exact hp _ List.mem_cons_self
      · exact ddX_spec (fun z hz => hp z (List.mem_cons_of_mem _ hz)) x h

theorem blind_of {out : Ex × Fm × St} {ρ : Env} {d : Option Nat} (h : out.1.isPan = true → ∀ i, d = some i → out.2.1.t.get i = none) : Blind (PoE C w0 D ρ N out) d := by
  intro c v a w hq
  obtain ⟨τ, h1, h2, h3, h4⟩ := hq
  have hp : out.1.isPan = true := by
    cases hx : out.1 with
    | pan ch => rfl
    | _ => rw [hx] at h1; exact h1.elim
  refine ⟨τ, h1, fun _ => ?_, (fun hn => by rw [hp] at hn; cases hn), h4⟩
  have hX := h2 hp
  cases d with
  | none => exact hX
  | some d =>
    have hnone := h hp d rfl
    refine ⟨hX.nn, by have := hX.size; simpa [Act.put] using this, fun i u hi => ?_, by have := hX.ds; simpa [Act.put] using this⟩
    obtain ⟨u', g1, g2⟩ := hX.kn i u hi
    refine ⟨u', g1, ?_⟩
    have hne : i ≠ d := fun he => by rw [he, hnone] at hi; cases hi
    rw [← g2]
    simp only [Act.put, Array.getD_eq_getD_getElem?]
    rw [Array.getElem?_setIfInBounds_ne (Ne.symm hne)]

theorem anyR_false {P : Program} {n : Nat} {ops : Array Oper} {Q : Post} {S : World → Prop} {rec rec' : List Nat} : ∀ {fuel : Nat} {listed : Array Bool} {a : Act} {w : World}, AnyR ro n P ops Q S rec fuel false listed a w → AnyR ro n P ops Q S rec' fuel false listed a w
  | 0, _, _, _, h => h
  | fuel + 1, _, _, _, h => ⟨h.1, fun i hi => wpOpIn_mono (fun a' w' h' => ⟨(fun hh => by cases hh), anyR_false h'.2⟩) (h.2 i hi)⟩
/-- From here on every order comes out so. -/
def XOk (C : Ct) (w0 : World) (D : Nat → Prop) (N : Nat) (ro : Option Nat) (ops : List Oper) (out : Ou) (x : Xs) : Prop :=
  ∀ (LA : Lds) (ρ : Env) (a : Act) (w : World), Fr ρ N x.fm a → Sr C w0 D ρ x.s w → LR ρ x.LS LA → (x.al = true → SL C.P LA w) → AnyR ro 0 C.P ops.toArray (PoE C w0 D ρ N out) (SL C.P LA) x.rc x.f x.al x.listed a w

theorem stpR_spec (hK : CalOk C K) {ρ : Env} {fm : Fm} {s : St} {a : Act} {w : World} {b i : Nat} {o : Oper} {r : Sp} {Kn : Act → World → Prop} {Q : Post} (h : Fr ρ N fm a) (H : Sr C w0 D ρ s w) (hb : stpR C K b i fm s o = some r)
    (hr : SpR C w0 D ρ N Kn Q a r) : o.wpIn (Wk.Fr ro) 0 C.P a w Kn Q := by
  unfold stpR at hb
  obtain ⟨s1, h1, hb⟩ := Option.bind_eq_some_iff.1 hb
  obtain ⟨r1, h2, h3⟩ := Option.bind_eq_some_iff.1 hb
  cases h3
  refine stpE_spec hK (by intro hh; cases hh) h (H.takeR h1) h2 ?_
  cases r1 with
  | go fm' s' => exact fun τ a' w' hf hs => hr τ a' w' hf (hs.fixR _)
  | pan ch s' => exact fun τ w' ch' hc hs => hr τ w' ch' hc (hs.fixR _)
def YOk (C : Ct) (w0 : World) (D : Nat → Prop) (N : Nat) (ro : Option Nat) (ops : List Oper) (out : Ou) : Ou ⊕ Xs → Prop
  | .inl a => a = out
  | .inr x => XOk C w0 D N ro ops out x
theorem oneX_spec (hK : CalOk C K) {out : Ou} {b f i : Nat} {x : Xs} {y : Ou ⊕ Xs} {LA : Lds} {ρ : Env} {a : Act} {w : World} (h : Fr ρ N x.fm a) (H : Sr C w0 D ρ x.s w) (hL : LR ρ x.LS LA) (hS : x.al = true → SL C.P LA w)
    (hy : oneX C K ops b f x i = some y) (hok : YOk C w0 D N ro ops out y) :
    wpOpIn (Wk.Fr ro) 0 C.P ops.toArray (PoE C w0 D ρ N out) i (fun a' w' => ((x.al && !waitsAll ops.toArray x.rc i) = true → SL C.P LA w') ∧ AnyR ro 0 C.P ops.toArray (PoE C w0 D ρ N out) (SL C.P LA) x.rc f (x.al && !waitsAll ops.toArray x.rc i) (x.listed.setIfInBounds i true) a' w') a w := by
  unfold oneX at hy
  obtain ⟨o, ho, hy⟩ := Option.bind_eq_some_iff.1 hy
  have ho' : ops.toArray[i]? = some o := by simpa using ho
  split at hy
  · rename_i hw
    have hw' := wantE_spec h hw
    unfold wpOpIn
    simp only [ho', hw', if_true]
    split at hy
    · rename_i fm' s' hs
      cases hq : (!(x.al && !waitsAll ops.toArray x.rc i) || againE C s' x.LS) with
      | false => rw [hq] at hy; cases hy
      | true =>
        rw [hq, cond_true] at hy
        cases hy
        refine stpR_spec hK h H hs (fun τ a' w' h' H' => ?_)
        have hS' : (x.al && !waitsAll ops.toArray x.rc i) = true → SL C.P LA w' := fun hal => by
          rw [hal] at hq
          exact againE_spec H' (hL.mono τ) (by simpa using hq)
        exact ⟨hS', AnyR.monoQ (fun e a w => PoE.more) (fun ⟨a, w, hq⟩ => ⟨a, w, hq.more⟩) _ _ _ _ _ (hok LA _ a' w' h' H' (hL.mono τ) hS')⟩
    · rename_i ch s' hs
      obtain ⟨t', h3, h4⟩ := Option.bind_eq_some_iff.1 hy
      cases h4
      have hout : (Ex.pan ch, { x.fm with t := t' }, s') = out := hok
      refine stpR_spec hK h H hs (fun τ w' ch' hc H' => ?_)
      rw [← hout]
      refine PoE.pan hc ?_ H'
      have hx := (h.mono τ).x
      exact ⟨hx.nn, hx.size, fun i v hi => hx.kn i v (eraE_sub h3 i v hi), hx.ds⟩
    · cases hy
  · rename_i hw
    have hw' := wantE_spec h hw
    obtain ⟨fm', h5, hy⟩ := Option.bind_eq_some_iff.1 hy
    unfold wpOpIn
    simp only [ho', hw', Bool.false_eq_true, if_false]
    cases hq : (!(x.al && !waitsAll ops.toArray x.rc i) || againE C x.s x.LS) with
    | false => rw [hq] at hy; cases hy
    | true =>
      rw [hq, cond_true] at hy
      cases hy
      have hS' : (x.al && !waitsAll ops.toArray x.rc i) = true → SL C.P LA w := fun hal => hS (by simp only [Bool.and_eq_true] at hal; exact hal.1)
      exact ⟨fun _ _ => trivial, hS', hok LA ρ _ w (h.put (conc_undef ρ) h5) H hL hS'⟩
  · cases hy
theorem eachX_spec {b f : Nat} {x : Xs} : ∀ {rs : List Nat} {ys : List (Ou ⊕ Xs)}, eachX C K ops b f x rs = some ys → ∀ i ∈ rs, ∃ y ∈ ys, oneX C K ops b f x i = some y
  | [], _, _, i, hi => by cases hi
  | j :: r, ys, h, i, hi => by
    simp only [eachX] at h
    obtain ⟨y, h1, h⟩ := Option.bind_eq_some_iff.1 h
    obtain ⟨zs, h2, h⟩ := Option.bind_eq_some_iff.1 h
    cases h
    rcases List.mem_cons.1 hi with rfl | hi
    · exact ⟨y, List.mem_cons_self, h1⟩
    · obtain ⟨z, h3, h4⟩ := eachX_spec h2 i hi
      exact ⟨z, List.mem_cons_of_mem _ h3, h4⟩
/-- What is taken first, whatever else. -/
theorem pk_spec (hns : noDS ops.toArray = true) {out : Ou} (hpan : out.1.isPan = true → ∀ o ∈ ops, ∀ d, o.dst = some d → out.2.1.t.get d = none)
    {f i i0 : Nat} {al : Bool} {LS LA : Lds} {rec rs : List Nat} {listed : Array Bool} {ρ : Env} {fm fm' : Fm} {s : St} {a : Act} {w : World} {o : Oper} {v : Value} {q : Option (TypeId × Value)} (h : Fr ρ N fm a) (H : Sr C w0 D ρ s w) (hL : LR ρ LS LA) (hS : al = true → SL C.P LA w)
    (hr : Region.ready .any ops.toArray listed = i0 :: rs) (hpk : pkE C ops listed fm s (i0 :: rs) = some (i, o, v, q)) (h5 : fm.put o.dst v = some fm')
    (hok : match q with
      | none => XOk C w0 D N ro ops out ⟨f, al, LS, rec, listed.setIfInBounds i true, fm', s⟩
      | some (ty, p) => XOk C w0 D N ro ops out ⟨f, true, (bif al then (ty, p, v) :: LS else [(ty, p, v)]), (bif al then i :: rec else [i]), listed.setIfInBounds i true, fm', s⟩) :
    AnyR ro 0 C.P ops.toArray (PoE C w0 D ρ N out) (SL C.P LA) rec (f + 1) al listed a w := by
  have hblind : ∀ (i : Nat) (o : Oper), ops[i]? = some o → Blind (PoE C w0 D ρ N out) o.dst := fun i o ho => blind_of (fun hp d hd => hpan hp o (List.mem_of_getElem? ho) d hd)
  obtain ⟨h1, h2, h3, h4⟩ := pkE_some hpk
  have ho' : ops.toArray[i]? = some o := by simpa using h3
  cases q with
  | none =>
    have key : ∃ u, conc ρ v = some u ∧ YieldsIf C.P ops.toArray (fun _ => True) o u a := by
      unfold qE at h4
      split at h4
      · rename_i hw
        cases h4
        exact ⟨undef, conc_undef ρ, .inr ⟨wantE_spec h hw, rfl⟩⟩
      · rename_i hw
        split at h4
        · rename_i v' hq
          cases h4
          obtain ⟨u, g1, g2⟩ := quiE_spec h hq
          exact ⟨u, g1, .inl ⟨wantE_spec h hw, fun w _ => g2 w⟩⟩
        · split at h4
          · obtain ⟨p, _, h7⟩ := Option.bind_eq_some_iff.1 h4
            obtain ⟨v', _, h8⟩ := Option.bind_eq_some_iff.1 h7
            cases h8
          · cases h4
      · cases h4
    obtain ⟨u, hu, hy⟩ := key
    refine AnyR.first (T := fun _ => True) ho' hns (hblind i o h3) f al listed a w (.inl fun _ => trivial) (Region.free_spec ho' h2) (by rw [hr]; exact h1) hy trivial hS ?_
    exact hok LA ρ _ w (h.put hu h5) H hL hS
  | some tp =>
    obtain ⟨ty, p⟩ := tp
    dsimp only at hok
    have key : ∃ u p', conc ρ v = some u ∧ conc ρ p = some p' ∧ Region.wanted o (yielded ops.toArray a.tmps) = true ∧ (Instr.loadAt ty p').run C.P w = .ok u w ∧ ∀ w', (Instr.loadAt ty p').run C.P w' = .ok u w' → (execOp a.eval o).run C.P w' = .ok (.value u) w' := by
      unfold qE at h4
      split at h4
      · cases h4
      · rename_i hw
        split at h4
        · cases h4
        · split at h4
          · rename_i ty' x hop
            obtain ⟨p0, hp0, h7⟩ := Option.bind_eq_some_iff.1 h4
            obtain ⟨v', hv', h8⟩ := Option.bind_eq_some_iff.1 h7
            cases h8
            obtain ⟨p', hp', hep⟩ := evE_spec h hp0
            obtain ⟨u, g1, g2⟩ := ldE_run H hp' hv'
            refine ⟨u, p', g1, hp', wantE_spec h hw, g2, fun w' hl => ?_⟩
            obtain ⟨dst, op, tyo, pp, af, g⟩ := o
            simp only at hop; subst hop
            simp only [execOp, hep]
            rw [Sem.run_bind, hl]; rfl
          · cases h4
      · cases h4
    obtain ⟨u, p', hu, hp', hw, hl, hx⟩ := key
    cases al with
    | true =>
      rw [cond_true, cond_true] at hok
      have hS2 : SL C.P ((ty, p', u) :: LA) w := fun x hx' => by
        rcases List.mem_cons.1 hx' with rfl | hx'
        · exact hl
        · exact hS rfl x hx'
      refine AnyR.weaken (S := SL C.P ((ty, p', u) :: LA)) (rec := i :: rec) (fun j hj => List.mem_cons_of_mem _ hj) (f + 1) true true listed a w (fun _ => ⟨rfl, fun w hw x hx => hw x (List.mem_cons_of_mem _ hx)⟩) ?_
      refine AnyR.first (T := SL C.P ((ty, p', u) :: LA)) ho' hns (hblind i o h3) f true listed a w (.inr ⟨List.mem_cons_self, rfl, fun _ h => h⟩) (Region.free_spec ho' h2) (by rw [hr]; exact h1) (.inl ⟨hw, fun w' hw' => hx w' (hw' _ List.mem_cons_self)⟩) hS2 (fun _ => hS2) ?_
      exact hok _ ρ _ w (h.put hu h5) H ⟨rfl, hp', hu, hL⟩ (fun _ => hS2)
    | false =>
      rw [cond_false, cond_false] at hok
      have hS2 : SL C.P [(ty, p', u)] w := fun x hx' => by
        rcases List.mem_cons.1 hx' with rfl | hx'
        · exact hl
        · cases hx'
      have H2 : AnyR ro 0 C.P ops.toArray (PoE C w0 D ρ N out) (SL C.P [(ty, p', u)]) [i] (f + 1) true listed a w := by
        refine AnyR.first (T := SL C.P [(ty, p', u)]) ho' hns (hblind i o h3) f true listed a w (.inr ⟨List.mem_cons_self, rfl, fun _ h => h⟩) (Region.free_spec ho' h2) (by rw [hr]; exact h1) (.inl ⟨hw, fun w' hw' => hx w' (hw' _ List.mem_cons_self)⟩) hS2 (fun _ => hS2) ?_
        exact hok _ ρ _ w (h.put hu h5) H ⟨rfl, hp', hu, trivial⟩ (fun _ => hS2)
      have H3 : AnyR ro 0 C.P ops.toArray (PoE C w0 D ρ N out) (SL C.P LA) [] (f + 1) false listed a w := AnyR.weaken (fun j hj => by cases hj) (f + 1) true false listed a w (fun hh => by cases hh) H2
      exact anyR_false H3
theorem nxX_spec (hK : CalOk C K) (hns : noDS ops.toArray = true) {out : Ou} (hpan : out.1.isPan = true → ∀ o ∈ ops, ∀ d, o.dst = some d → out.2.1.t.get d = none) {b : Nat} {x : Xs} {ys : List (Ou ⊕ Xs)} (hb : nxX C K ops b x = some ys) (hok : ∀ y ∈ ys, YOk C w0 D N ro ops out y) : XOk C w0 D N ro ops out x := by
  intro LA ρ a w h H hL hS
  obtain ⟨f, al, LS, rec, listed, fm, s⟩ := x
  dsimp only at h H hL hS ⊢
  unfold nxX at hb
  dsimp only at hb
  split at hb
  · rename_i hr
    cases hb
    have hout : (Ex.norm, fm, s) = out := hok _ (List.mem_singleton.2 rfl)
    have hp : PoE C w0 D ρ N out .normal a w := by rw [← hout]; exact PoE.of rfl trivial h H
    cases f with
    | zero => exact ⟨hr, hp⟩
    | succ f => exact ⟨fun _ => hp, (fun i hi => by rw [hr] at hi; cases hi)⟩
  · rename_i i0 rs hr
    cases f with
    | zero => cases hb
    | succ f =>
      dsimp only at hb
      split at hb
      · rename_i i o v hpk
        obtain ⟨fm', h5, h6⟩ := Option.bind_eq_some_iff.1 hb
        cases h6
        exact pk_spec hns hpan h H hL hS hr hpk h5 (hok _ (List.mem_singleton.2 rfl))
      · rename_i i o v ty p hpk
        obtain ⟨fm', h5, h6⟩ := Option.bind_eq_some_iff.1 hb
        cases h6
        exact pk_spec hns hpan h H hL hS hr hpk h5 (hok _ (List.mem_singleton.2 rfl))
      · refine ⟨(fun h0 => by rw [hr] at h0; cases h0), fun i hi => ?_⟩
        rw [hr] at hi
        obtain ⟨y, h1, h2⟩ := eachX_spec hb i hi
        exact oneX_spec hK h H hL hS h2 (hok y h1)
theorem allX_spec {b : Nat} : ∀ {xs : List Xs} {ys : List (Ou ⊕ Xs)}, allX C K ops b xs = some ys → ∀ x ∈ xs, ∃ zs, nxX C K ops b x = some zs ∧ ∀ z ∈ zs, z ∈ ys
  | [], _, _, x, hx => by cases hx
  | y :: r, ys, h, x, hx => by
    simp only [allX] at h
    obtain ⟨us, h1, h⟩ := Option.bind_eq_some_iff.1 h
    obtain ⟨vs, h2, h⟩ := Option.bind_eq_some_iff.1 h
    cases h
    rcases List.mem_cons.1 hx with rfl | hx
    · exact ⟨us, h1, fun z hz => List.mem_append_left _ hz⟩
    · obtain ⟨zs, h3, h4⟩ := allX_spec h2 x hx
      exact ⟨zs, h3, fun z hz => List.mem_append_right _ (h4 z hz)⟩
theorem bfsX_spec (hK : CalOk C K) (hns : noDS ops.toArray = true) {out : Ou} (hpan : out.1.isPan = true → ∀ o ∈ ops, ∀ d, o.dst = some d → out.2.1.t.get d = none) {b : Nat} : ∀ {g : Nat} {o : Option Ou} {front : List Xs}, bfsX C K ops b g o front = some out →
    (∀ q, o = some q → q = out) ∧ ∀ x ∈ front, XOk C w0 D N ro ops out x
  | 0, _, _, h => by cases h
  | g + 1, o, front, h => by
    simp only [bfsX] at h
    obtain ⟨ys, h1, h⟩ := Option.bind_eq_some_iff.1 h
    obtain ⟨o', h2, h⟩ := Option.bind_eq_some_iff.1 h
    have key : (∀ q, o' = some q → q = out) ∧ ∀ x ∈ ddX ys, XOk C w0 D N ro ops out x := by
      split at h
      · rename_i hd
        subst h
        refine ⟨fun q hq => (Option.some.inj hq).symm, fun x hx => ?_⟩
        rw [hd] at hx; cases hx
      · rename_i x r hd
        obtain ⟨h3, h4⟩ := bfsX_spec hK hns hpan h
        exact ⟨h3, fun z hz => h4 z (by rw [← hd]; exact hz)⟩
    obtain ⟨h5, h6⟩ := outsX_spec h2 key.1
    refine ⟨h5, fun x hx => ?_⟩
    obtain ⟨zs, h7, h8⟩ := allX_spec h1 x hx
    refine nxX_spec hK hns hpan h7 (fun y hy => ?_)
    have hm := h8 y hy
    cases y with
    | inl a => exact h6 a hm
    | inr z => exact ddX_spec key.2 z hm
theorem oneX_pan {b f i : Nat} {x : Xs} {q : Ou} (h : oneX C K ops b f x i = some (.inl q)) : ∀ o ∈ ops, ∀ d, o.dst = some d → q.2.1.t.get d = none := by
  unfold oneX at h
  obtain ⟨o, ho, h⟩ := Option.bind_eq_some_iff.1 h
  split at h
  · split at h
    · rename_i fm' s' hs
      cases hq : (!(x.al && !waitsAll ops.toArray x.rc i) || againE C s' x.LS) with
      | false => rw [hq] at h; cases h
      | true => rw [hq, cond_true] at h; cases h
    · obtain ⟨t', h3, h4⟩ := Option.bind_eq_some_iff.1 h
      cases h4
      exact eraE_none h3
    · cases h
  · obtain ⟨fm', h5, h⟩ := Option.bind_eq_some_iff.1 h
    cases hq : (!(x.al && !waitsAll ops.toArray x.rc i) || againE C x.s x.LS) with
    | false => rw [hq] at h; cases h
    | true => rw [hq, cond_true] at h; cases h
  · cases h
/-- A panic's frame tells nothing of what the region gives. -/
def PanOk (ops : List Oper) (q : Ou) : Prop := q.1.isPan = true → ∀ o ∈ ops, ∀ d, o.dst = some d → q.2.1.t.get d = none
theorem eachX_pan {b f : Nat} {x : Xs} : ∀ {rs : List Nat} {ys : List (Ou ⊕ Xs)}, eachX C K ops b f x rs = some ys → ∀ q, .inl q ∈ ys → PanOk ops q
  | [], ys, h, q, hq => by simp only [eachX, Option.some.injEq] at h; subst h; cases hq
  | j :: r, ys, h, q, hq => by
    simp only [eachX] at h
    obtain ⟨y, h1, h⟩ := Option.bind_eq_some_iff.1 h
    obtain ⟨zs, h2, h⟩ := Option.bind_eq_some_iff.1 h
    cases h
    rcases List.mem_cons.1 hq with rfl | hq
    · exact fun _ => oneX_pan h1
    · exact eachX_pan h2 q hq
theorem nxX_pan {b : Nat} {x : Xs} {ys : List (Ou ⊕ Xs)} (h : nxX C K ops b x = some ys) (q : Ou) (hq : .inl q ∈ ys) : PanOk ops q := by
  unfold nxX at h
  split at h
  · cases h
    have := List.mem_singleton.1 hq
    cases this
    intro hp; cases hp
  · split at h
    · cases h
    · split at h
      · obtain ⟨fm', h5, h6⟩ := Option.bind_eq_some_iff.1 h
        cases h6
        have := List.mem_singleton.1 hq
        cases this
      · obtain ⟨fm', h5, h6⟩ := Option.bind_eq_some_iff.1 h
        cases h6
        have := List.mem_singleton.1 hq
        cases this
      · exact eachX_pan h q hq
theorem allX_pan {b : Nat} : ∀ {xs : List Xs} {ys : List (Ou ⊕ Xs)}, allX C K ops b xs = some ys → ∀ q, .inl q ∈ ys → PanOk ops q
  | [], ys, h, q, hq => by simp only [allX, Option.some.injEq] at h; subst h; cases hq
  | y :: r, ys, h, q, hq => by
    simp only [allX] at h
    obtain ⟨us, h1, h⟩ := Option.bind_eq_some_iff.1 h
    obtain ⟨vs, h2, h⟩ := Option.bind_eq_some_iff.1 h
    cases h
    rcases List.mem_append.1 hq with hq | hq
    · exact nxX_pan h1 q hq
    · exact allX_pan h2 q hq
theorem outsX_from : ∀ {ys : List (Ou ⊕ Xs)} {o : Option Ou} {q : Ou}, outsX o ys = some (some q) → o = some q ∨ .inl q ∈ ys
  | [], o, q, h => by simp only [outsX, Option.some.injEq] at h; exact .inl h
  | .inl a :: r, none, q, h => by
    simp only [outsX] at h
    rcases outsX_from h with h1 | h1
    · cases h1; exact .inr List.mem_cons_self
    · exact .inr (List.mem_cons_of_mem _ h1)
  | .inl a :: r, some b, q, h => by
    simp only [outsX] at h
    cases hb : beqOu a b with
    | false => rw [hb] at h; cases h
    | true =>
      rw [hb, cond_true] at h
      rcases outsX_from h with h1 | h1
      · exact .inl h1
      · exact .inr (List.mem_cons_of_mem _ h1)
  | .inr x :: r, o, q, h => by
    have h' : outsX o r = some (some q) := by cases o <;> exact h
    rcases outsX_from h' with h1 | h1
    · exact .inl h1
    · exact .inr (List.mem_cons_of_mem _ h1)
theorem bfsX_pan {b : Nat} : ∀ {g : Nat} {o : Option Ou} {front : List Xs} {out : Ou}, bfsX C K ops b g o front = some out → (∀ q, o = some q → PanOk ops q) → PanOk ops out
  | 0, _, _, _, h, _ => by cases h
  | g + 1, o, front, out, h, ho => by
    simp only [bfsX] at h
    obtain ⟨ys, h1, h⟩ := Option.bind_eq_some_iff.1 h
    obtain ⟨o', h2, h⟩ := Option.bind_eq_some_iff.1 h
    have ho' : ∀ q, o' = some q → PanOk ops q := fun q hq => by
      subst hq
      rcases outsX_from h2 with h3 | h3
      · exact ho q h3
      · exact allX_pan h1 q h3
    split at h
    · exact ho' out h
    · exact bfsX_pan h ho'
theorem tieE_pan {x : Xs} {out : Ou} (h : tieE C K ops x = some out) : PanOk ops out := by
  unfold tieE at h
  obtain ⟨o, h1, h2⟩ := Option.bind_eq_some_iff.1 h
  cases h2
  have hp : PanOk ops o := bfsX_pan (o := none) h1 (fun q hq => by cases hq)
  exact hp
theorem tieE_spec (hK : CalOk C K) (hns : noDS ops.toArray = true) {x : Xs} {out : Ou} (h : tieE C K ops x = some out) : XOk C w0 D N ro ops out x := by
  unfold tieE at h
  obtain ⟨o, h1, h2⟩ := Option.bind_eq_some_iff.1 h
  cases h2
  have hp := bfsX_pan (o := none) h1 (fun q hq => by cases hq)
  have h3 := (bfsX_spec (w0 := w0) (D := D) (N := N) (ro := ro) hK hns hp h1).2 _ (List.mem_singleton.2 rfl)
  intro LA ρ a w hf H hL hS
  have h4 := h3 LA ρ a w hf (H.hold _) hL hS
  have dr : ∀ (e : Exit) (a : Act) (w : World), PoE C w0 D ρ N o e a w → PoE C w0 D ρ N (o.1, o.2.1, o.2.2.dropR x.s.m ops.length) e a w := by
    rintro e a w ⟨τ, q1, q2, q3, q4⟩
    exact ⟨τ, q1, q2, q3, q4.dropR _ _⟩
  exact AnyR.monoQ dr (fun ⟨a, w, hq⟩ => ⟨a, w, dr _ a w hq⟩) _ _ _ _ _ h4
end

def drwE (C : Ct) (K : Cal) (ops : List Oper) : Nat → Bool → Lds → List Nat → Array Bool → Fm → St → Option (Ex × Fm × St)
  | 0, al, LS, rec, listed, fm, s => match Region.ready .any ops.toArray listed with
    | [] => some (.norm, fm, s)
    | _ :: _ => none
  | f + 1, al, LS, rec, listed, fm, s => match Region.ready .any ops.toArray listed with
    | [] => some (.norm, fm, s)
    | i0 :: rs => match pkE C ops listed fm s (i0 :: rs) with
      | some (i, o, v, none) => (fm.put o.dst v).bind fun fm' => drwE C K ops f al LS rec (listed.setIfInBounds i true) fm' s
      | some (i, o, v, some (ty, p)) => (fm.put o.dst v).bind fun fm' => drwE C K ops f true (bif al then (ty, p, v) :: LS else [(ty, p, v)]) (bif al then i :: rec else [i]) (listed.setIfInBounds i true) fm' s
      | none => (match rs with
        | [] => (ops[i0]?).bind fun o => (match wantE ops fm o with
          | some true => (match stpE C K false fm s o with
            | some (.go fm' s') => bif !(al && !waitsAll ops.toArray rec i0) || againE C s' LS then drwE C K ops f (al && !waitsAll ops.toArray rec i0) LS rec (listed.setIfInBounds i0 true) fm' s' else none
            | some (.pan ch s') => (eraE ops fm.t).bind fun t' => some (.pan ch, { fm with t := t' }, s')
            | none => none)
          | _ => none)
        | _ :: _ => tieE C K ops ⟨Nat.succ f, al, LS, rec, listed, fm, s⟩)

section
variable {C : Ct} {w0 : World} {D : Nat → Prop} {N : Nat} {ro : Option Nat} {K : Cal} {ops : List Oper}

theorem drwE_pan : ∀ {f : Nat} {al : Bool} {LS : Lds} {rec : List Nat} {listed : Array Bool} {fm : Fm} {s : St} {x : Ex} {fm' : Fm} {s' : St}, drwE C K ops f al LS rec listed fm s = some (x, fm', s') → x.isPan = true → ∀ o ∈ ops, ∀ d, o.dst = some d → fm'.t.get d = none
  | 0, al, LS, rec, listed, fm, s, x, fm', s', h, hp => by
    simp only [drwE] at h
    split at h
    · cases h; cases hp
    · cases h
  | f + 1, al, LS, rec, listed, fm, s, x, fm', s', h, hp => by
    simp only [drwE] at h
    split at h
    · cases h; cases hp
    · split at h
      · obtain ⟨fm1, _, h2⟩ := Option.bind_eq_some_iff.1 h; exact drwE_pan h2 hp
      · obtain ⟨fm1, _, h2⟩ := Option.bind_eq_some_iff.1 h; exact drwE_pan h2 hp
      · split at h
        · obtain ⟨o, _, h2⟩ := Option.bind_eq_some_iff.1 h
          split at h2
          · split at h2
            · rename_i fm1 s1 _
              cases hq : (!(al && !waitsAll ops.toArray rec _) || againE C s1 LS) with
              | false => rw [hq] at h2; cases h2
              | true => rw [hq, cond_true] at h2; exact drwE_pan h2 hp
            · obtain ⟨t', h3, h4⟩ := Option.bind_eq_some_iff.1 h2
              cases h4
              exact eraE_none h3
            · cases h2
          · cases h2
        · exact tieE_pan h hp

theorem drwE_spec (hK : CalOk C K) (hns : noDS ops.toArray = true) {out : Ex × Fm × St} : ∀ {f : Nat} {al : Bool} {LS LA : Lds} {rec : List Nat} {listed : Array Bool} {ρ : Env} {fm : Fm} {s : St} {a : Act} {w : World}, Fr ρ N fm a → Sr C w0 D ρ s w → LR ρ LS LA → (al = true → SL C.P LA w) →
    drwE C K ops f al LS rec listed fm s = some out → AnyR ro 0 C.P ops.toArray (PoE C w0 D ρ N out) (SL C.P LA) rec f al listed a w
  | 0, al, LS, LA, rec, listed, ρ, fm, s, a, w, h, H, hL, hS, hb => by
    simp only [drwE] at hb
    split at hb
    · rename_i hr
      cases hb
      exact ⟨hr, PoE.of rfl trivial h H⟩
    · cases hb
  | f + 1, al, LS, LA, rec, listed, ρ, fm, s, a, w, h, H, hL, hS, hb => by
    have hb0 := hb
    simp only [drwE] at hb
    split at hb
    · rename_i hr
      cases hb
      exact ⟨fun _ => PoE.of rfl trivial h H, (fun i hi => by rw [hr] at hi; cases hi)⟩
    · rename_i i0 rs hr
      have hblind : ∀ (i : Nat) (o : Oper), ops[i]? = some o → Blind (PoE C w0 D ρ N out) o.dst := fun i o ho => by
        refine blind_of (fun hp d hd => ?_)
        obtain ⟨x, fm', s'⟩ := out
        exact drwE_pan hb0 hp o (List.mem_of_getElem? ho) d hd
      split at hb
      · -- taken first, needs no memory
        rename_i i o v hpk
        obtain ⟨h1, h2, h3, h4⟩ := pkE_some hpk
        obtain ⟨fm', h5, h6⟩ := Option.bind_eq_some_iff.1 hb
        have ho' : ops.toArray[i]? = some o := by simpa using h3
        have key : ∃ u, conc ρ v = some u ∧ YieldsIf C.P ops.toArray (fun _ => True) o u a := by
          unfold qE at h4
          split at h4
          · rename_i hw
            cases h4
            exact ⟨undef, conc_undef ρ, .inr ⟨wantE_spec h hw, rfl⟩⟩
          · rename_i hw
            split at h4
            · rename_i v' hq
              cases h4
              obtain ⟨u, g1, g2⟩ := quiE_spec h hq
              exact ⟨u, g1, .inl ⟨wantE_spec h hw, fun w _ => g2 w⟩⟩
            · split at h4
              · obtain ⟨p, _, h7⟩ := Option.bind_eq_some_iff.1 h4
                obtain ⟨v', _, h8⟩ := Option.bind_eq_some_iff.1 h7
                cases h8
              · cases h4
          · cases h4
        obtain ⟨u, hu, hy⟩ := key
        refine AnyR.first (T := fun _ => True) ho' hns (hblind i o h3) f al listed a w (.inl fun _ => trivial) (Region.free_spec ho' h2) (by rw [hr]; exact h1) hy trivial hS ?_
        exact drwE_spec hK hns (h.put hu h5) H hL hS h6
      · -- a load taken first
        rename_i i o v ty p hpk
        obtain ⟨h1, h2, h3, h4⟩ := pkE_some hpk
        obtain ⟨fm', h5, h6⟩ := Option.bind_eq_some_iff.1 hb
        have ho' : ops.toArray[i]? = some o := by simpa using h3
        have key : ∃ u p', conc ρ v = some u ∧ conc ρ p = some p' ∧ Region.wanted o (yielded ops.toArray a.tmps) = true ∧ (Instr.loadAt ty p').run C.P w = .ok u w ∧ ∀ w', (Instr.loadAt ty p').run C.P w' = .ok u w' → (execOp a.eval o).run C.P w' = .ok (.value u) w' := by
          unfold qE at h4
          split at h4
          · cases h4
          · rename_i hw
            split at h4
            · cases h4
            · split at h4
              · rename_i ty' x hop
                obtain ⟨p0, hp0, h7⟩ := Option.bind_eq_some_iff.1 h4
                obtain ⟨v', hv', h8⟩ := Option.bind_eq_some_iff.1 h7
                cases h8
                obtain ⟨p', hp', hep⟩ := evE_spec h hp0
                obtain ⟨u, g1, g2⟩ := ldE_run H hp' hv'
                refine ⟨u, p', g1, hp', wantE_spec h hw, g2, fun w' hl => ?_⟩
                obtain ⟨dst, op, tyo, pp, af, g⟩ := o
                simp only at hop; subst hop
                simp only [execOp, hep]
                rw [Sem.run_bind, hl]; rfl
              · cases h4
          · cases h4
        obtain ⟨u, p', hu, hp', hw, hl, hx⟩ := key
        cases al with
        | true =>
          rw [cond_true, cond_true] at h6
          have hS2 : SL C.P ((ty, p', u) :: LA) w := fun x hx' => by
            rcases List.mem_cons.1 hx' with rfl | hx'
            · exact hl
            · exact hS rfl x hx'
          refine AnyR.weaken (S := SL C.P ((ty, p', u) :: LA)) (rec := i :: rec) (fun j hj => List.mem_cons_of_mem _ hj) (f + 1) true true listed a w (fun _ => ⟨rfl, fun w hw x hx => hw x (List.mem_cons_of_mem _ hx)⟩) ?_
          refine AnyR.first (T := SL C.P ((ty, p', u) :: LA)) ho' hns (hblind i o h3) f true listed a w (.inr ⟨List.mem_cons_self, rfl, fun _ h => h⟩) (Region.free_spec ho' h2) (by rw [hr]; exact h1) (.inl ⟨hw, fun w' hw' => hx w' (hw' _ List.mem_cons_self)⟩) hS2 (fun _ => hS2) ?_
          exact drwE_spec (LS := (ty, p, v) :: LS) hK hns (h.put hu h5) H ⟨rfl, hp', hu, hL⟩ (fun _ => hS2) h6
        | false =>
          rw [cond_false, cond_false] at h6
          have hS2 : SL C.P [(ty, p', u)] w := fun x hx' => by
            rcases List.mem_cons.1 hx' with rfl | hx'
            · exact hl
            · cases hx'
          have H2 : AnyR ro 0 C.P ops.toArray (PoE C w0 D ρ N out) (SL C.P [(ty, p', u)]) [i] (f + 1) true listed a w := by
            refine AnyR.first (T := SL C.P [(ty, p', u)]) ho' hns (hblind i o h3) f true listed a w (.inr ⟨List.mem_cons_self, rfl, fun _ h => h⟩) (Region.free_spec ho' h2) (by rw [hr]; exact h1) (.inl ⟨hw, fun w' hw' => hx w' (hw' _ List.mem_cons_self)⟩) hS2 (fun _ => hS2) ?_
            exact drwE_spec (LS := [(ty, p, v)]) hK hns (h.put hu h5) H ⟨rfl, hp', hu, trivial⟩ (fun _ => hS2) h6
          have H3 : AnyR ro 0 C.P ops.toArray (PoE C w0 D ρ N out) (SL C.P LA) [] (f + 1) false listed a w := AnyR.weaken (fun j hj => by cases hj) (f + 1) true false listed a w (fun hh => by cases hh) H2
          exact anyR_false H3
      · split at hb
        · obtain ⟨o, ho, hb⟩ := Option.bind_eq_some_iff.1 hb
          have ho' : ops.toArray[i0]? = some o := by simpa using ho
          have one : ∀ {Q' : Post}, wpOpIn (Wk.Fr ro) 0 C.P ops.toArray Q' i0 (fun a' w' => ((al && !waitsAll ops.toArray rec i0) = true → SL C.P LA w') ∧ AnyR ro 0 C.P ops.toArray Q' (SL C.P LA) rec f (al && !waitsAll ops.toArray rec i0) (listed.setIfInBounds i0 true) a' w') a w → AnyR ro 0 C.P ops.toArray Q' (SL C.P LA) rec (f + 1) al listed a w := fun hh =>
            ⟨(fun h0 => by rw [hr] at h0; cases h0), (fun j hj => by
              rw [hr] at hj
              have : j = i0 := by simpa using hj
              subst this; exact hh)⟩
          split at hb
          · rename_i hw
            have hw' := wantE_spec h hw
            refine one ?_
            unfold wpOpIn
            simp only [ho', hw', if_true]
            split at hb
            · rename_i fm' s' hs
              cases hq : (!(al && !waitsAll ops.toArray rec i0) || againE C s' LS) with
              | false => rw [hq] at hb; cases hb
              | true =>
                rw [hq, cond_true] at hb
                refine stpE_spec hK (by intro hh; cases hh) h H hs (fun τ a' w' h' H' => ?_)
                have hS' : (al && !waitsAll ops.toArray rec i0) = true → SL C.P LA w' := fun hal => by
                  rw [hal] at hq
                  exact againE_spec H' (hL.mono τ) (by simpa using hq)
                exact ⟨hS', AnyR.monoQ (fun e a w => PoE.more) (fun ⟨a, w, hq⟩ => ⟨a, w, hq.more⟩) _ _ _ _ _ (drwE_spec hK hns h' H' (hL.mono τ) hS' hb)⟩
            · rename_i ch s' hs
              obtain ⟨t', h3, h4⟩ := Option.bind_eq_some_iff.1 hb
              cases h4
              refine stpE_spec hK (by intro hh; cases hh) h H hs (fun τ w' ch' hc H' => ?_)
              refine PoE.pan hc ?_ H'
              have hx := (h.mono τ).x
              exact ⟨hx.nn, hx.size, fun i v hi => hx.kn i v (eraE_sub h3 i v hi), hx.ds⟩
            · cases hb
          · cases hb
        · exact tieE_spec hK hns hb LA ρ a w h H hL hS
end
end Go.Ev

/- Code, reckoned. -/
namespace Go.Ev
open Go.Wk
set_option linter.unusedVariables false
set_option linter.unusedSimpArgs false

/-! ### Loops -/
def Unr (F : Fence) (P : Program) (c : Code) (Q : Post) : Nat → Act → World → Prop
  | 0, _, _ => False
  | n + 1, a, w => c.wpIn F 0 P (Exit.then (Unr F P c Q n) Q) a w
theorem wpIn_unr {F : Fence} {P : Program} {c : Code} {Q : Post} {n : Nat} {a : Act} {w : World} (h : Unr F P c Q n a w) : (Code.loop c).wpIn F 0 P Q a w := by
  refine wpIn_loop (fun a w => ∃ n, Unr F P c Q n a w) (fun a w => leastOf (fun n => Unr F P c Q n a w)) ⟨n, h⟩ ?_
  intro a w hI
  have hs := leastOf_spec hI
  generalize hm : leastOf (fun n => Unr F P c Q n a w) = m at hs ⊢
  obtain ⟨h1, h2⟩ := hs
  cases m with
  | zero => exact h1.elim
  | succ m =>
    refine wpIn_mono h1 (fun e a' w' hq => ?_)
    cases e with
    | normal => exact ⟨⟨m, hq⟩, Nat.lt_of_le_of_lt ((leastOf_spec (p := fun n => Unr F P c Q n a' w') ⟨m, hq⟩).2 m hq) (Nat.lt_succ_self m)⟩
    | _ => exact hq
def lopE : Nat → (Fm → St → Option (Ex × Fm × St)) → Fm → St → Option (Ex × Fm × St)
  | 0, _, _, _ => none
  | n + 1, b, fm, s => (b fm s).bind fun r => match r.1 with
    | .norm => lopE n b r.2.1 r.2.2
    | _ => some r

def blkE (id : Nat) (r : Ex × Fm × St) : Ex × Fm × St := match r.1 with
  | .exit j => bif Nat.beq j id then (.norm, r.2) else r
  | _ => r
def arrE (fm : Fm) : List Value := (List.range fm.N).map fun i => (fm.t.get i).getD undef
def jmpE (fm : Fm) (s : St) : Option Code → Option (Ex × Fm × St)
  | none => some (.norm, fm, s)
  | some .ret => some (.ret, fm, s)
  | some (.exit j) => some (.exit j, fm, s)
  | _ => none
def rngE (K : Cal) (ps : Array Tmp) (asg body : Code) (fm : Fm) (s : St) : Value → Option (Ex × Fm × St)
  | .func (.func k) l m => (s.new (.deferred (some []))).bind fun s1 => (s1.new (.loop { state := .ready, pending := none, fn := 0, tmps := ⟨arrE fm⟩, params := ps, assign := asg, body := body, defers := BB + s.n })).bind fun s2 =>
    (K.fn k (l.toList ++ [.func (.yield (BB + s1.n)) ⟨[]⟩ ⟨[]⟩] ++ m.toList) s2).bind fun r => match r.1 with
      | .ret _ => (match r.2.h.get s1.n with
        | some (.loop lp) => bif (match lp.state with | .busy => true | _ => false) then none else (r.2.upd s1.n (some (.loop { lp with state := .exhausted }))).bind fun s4 => jmpE { fm with ds := ⟨.collected (BB + s.n), ⟨[]⟩⟩ :: fm.ds } s4 lp.pending
        | _ => none)
      | .pan ch => some (.pan ch, { fm with ds := ⟨.collected (BB + s.n), ⟨[]⟩⟩ :: fm.ds }, r.2)
  | _ => none
def codE (C : Ct) (K : Cal) (dok : Bool) (LF : Nat) : Code → Fm → St → Option (Ex × Fm × St)
  | .skip, fm, s => some (.norm, fm, s)
  | .label _, fm, s => some (.norm, fm, s)
  | .region _ ops draw, fm, s => bif draw then (bif noDS ops then drwE C K ops.toList ops.toList.length false [] [] (Array.replicate ops.toList.length false) fm s else none) else opsE C K dok ops.toList ops.toList fm s
  | .seq x y, fm, s => (codE C K dok LF x fm s).bind fun r => match r.1 with
    | .norm => codE C K dok LF y r.2.1 r.2.2
    | _ => some r
  | .cond c x y, fm, s => match evE fm.t c with
    | some (.bool true) => codE C K dok LF x fm s
    | some (.bool false) => codE C K dok LF y fm s
    | _ => none
  | .block id b, fm, s => (codE C K dok LF b fm s).bind fun r => some (blkE id r)
  | .loop b, fm, s => lopE LF (codE C K dok LF b) fm s
  | .exit id, fm, s => some (.exit id, fm, s)
  | .ret, fm, s => some (.ret, fm, s)
  | .rangeFunc g ps asg body, fm, s => bif dok then (evE fm.t g).bind (rngE K ps asg body fm s) else none
  | _, _, _ => none

section
variable {C : Ct} {w0 : World} {D : Nat → Prop} {N : Nat} {ro : Option Nat} {K : Cal} {dok : Bool} {LF : Nat}

theorem PoE.then {ρ : Env} {r out : Ex × Fm × St} {e : Exit} {a : Act} {w : World} {k : Act → World → Prop} (h : PoE C w0 D ρ N r e a w)
    (hn : r.1 = .norm → ∀ τ a w, Fr (ρ ++ τ) N r.2.1 a → Sr C w0 D (ρ ++ τ) r.2.2 w → k a w) (ho : r.1 ≠ .norm → out = r) : Exit.then k (PoE C w0 D ρ N out) e a w := by
  have h0 := h
  obtain ⟨τ, h1, h2, h3, h4⟩ := h
  obtain ⟨x, fm, s⟩ := r
  cases x with
  | norm =>
    cases e with
    | normal => exact hn rfl τ a w (h3 rfl) h4
    | _ => exact h1.elim
  | exit j => rw [ho (by simp)]; cases e <;> first | exact h0 | exact h1.elim
  | goto j => rw [ho (by simp)]; cases e <;> first | exact h0 | exact h1.elim
  | ret => rw [ho (by simp)]; cases e <;> first | exact h0 | exact h1.elim
  | pan ch => rw [ho (by simp)]; cases e <;> first | exact h0 | exact h1.elim
theorem PoE.block {ρ : Env} {r : Ex × Fm × St} {e : Exit} {a : Act} {w : World} {id : Nat} (h : PoE C w0 D ρ N r e a w) : Exit.inBlock id (PoE C w0 D ρ N (blkE id r)) e a w := by
  have h0 := h
  obtain ⟨τ, h1, h2, h3, h4⟩ := h
  obtain ⟨x, fm, s⟩ := r
  cases x with
  | exit j =>
    cases e with
    | exit j' =>
      have hj : j = j' := h1
      subst hj
      simp only [blkE, Exit.inBlock]
      by_cases hid : j = id
      · subst hid
        rw [if_pos rfl, Nat.beq_refl]
        exact ⟨τ, trivial, (fun hp => by cases hp), (fun _ => h3 rfl), h4⟩
      · have hb : Nat.beq j id = false := by
          cases hk : Nat.beq j id with
          | false => rfl
          | true => exact absurd (Nat.eq_of_beq_eq_true hk) hid
        rw [if_neg hid, hb]
        exact h0
    | _ => exact h1.elim
  | norm => cases e <;> first | exact h0 | exact h1.elim
  | goto j => cases e <;> first | exact h0 | exact h1.elim
  | ret => cases e <;> first | exact h0 | exact h1.elim
  | pan ch => cases e <;> first | exact h0 | exact h1.elim

theorem arr_conc {ρ : Env} {fm : Fm} {a : Act} (h : Fr ρ N fm a) : concA ρ ⟨arrE fm⟩ = some a.tmps := by
  refine concA_mk.2 ?_
  have key : ∀ (k : Nat), k ≤ N → concs ρ ((List.range k).map fun i => (fm.t.get i).getD undef) = some (a.tmps.toList.take k) := by
    intro k
    induction k with
    | zero => intro _; simp [concs_nil]
    | succ k ih =>
      intro hk
      rw [List.range_succ, List.map_append]
      have hlt : k < a.tmps.toList.length := by simpa using (show k < a.tmps.size by rw [h.size]; omega)
      rw [List.take_succ_eq_append_getElem hlt]
      refine concs_app (ih (by omega)) (concs_one ?_)
      have hg : a.tmps.getD k undef = a.tmps.toList[k] := by
        have hlt' : k < a.tmps.size := by rw [h.size]; omega
        simp [Array.getD_eq_getD_getElem?, Array.getElem?_eq_getElem hlt']
      rw [← hg]
      show conc ρ ((fm.t.get k).getD undef) = some _
      cases hq : fm.t.get k with
      | none => rw [Option.getD_none, h.un k hq]; exact conc_undef ρ
      | some v =>
        obtain ⟨u, h1, h2⟩ := h.kn k v hq
        rw [Option.getD_some, h2]; exact h1
  unfold arrE
  rw [h.nn]
  have := key N (Nat.le_refl _)
  rwa [List.take_of_length_le (by have := h.size; simp [this])] at this

theorem concO_loop {ρ : Env} {L : Loc} {lp : Loop} {o : Obj} (h : concO C ρ L (.loop lp) = some o) : ∃ t d, concA ρ lp.tmps = some t ∧ cad ρ lp.defers = some d ∧ o = .loop { lp with tmps := t, defers := d, fn := L.cap } := by
  have h' : (match concA ρ lp.tmps, cad ρ lp.defers with | some t', some d' => some (Obj.loop { lp with tmps := t', defers := d', fn := L.cap }) | _, _ => none) = some o := h
  split at h'
  · rename_i t d h1 h2
    exact ⟨t, d, h1, h2, (Option.some.inj h').symm⟩
  · cases h'
theorem concO_mkloop {ρ : Env} {L : Loc} {lp : Loop} {t : Array Value} {d : Nat} (h1 : concA ρ lp.tmps = some t) (h2 : cad ρ lp.defers = some d) : concO C ρ L (.loop lp) = some (.loop { lp with tmps := t, defers := d, fn := L.cap }) := by
  show (match concA ρ lp.tmps, cad ρ lp.defers with | some t', some d' => some (Obj.loop { lp with tmps := t', defers := d', fn := L.cap }) | _, _ => none) = _
  rw [h1, h2]

theorem rngE_spec (hK : CalOk C K) {ρ : Env} {fm : Fm} {s : St} {a : Act} {w : World} {g : Operand} {ps : Array Tmp} {asg body : Code} {v : Value} {out : Ex × Fm × St} (h : Fr ρ N fm a) (H : Sr C w0 D ρ s w) (hg : evE fm.t g = some v) (hb : rngE K ps asg body fm s v = some out) :
    (Code.rangeFunc g ps asg body).wpIn (Wk.Fr none) 0 C.P (PoE C w0 D ρ N out) a w := by
  obtain ⟨v', hv, he⟩ := evE_spec h hg
  unfold rngE at hb
  split at hb
  · rename_i k l m
    simp only [conc, cfn] at hv
    split at hv
    · rename_i fn' l' m' hfn hl hm
      cases hfn; cases hv
      obtain ⟨s1, hs1, hb⟩ := Option.bind_eq_some_iff.1 hb
      obtain ⟨s2, hs2, hb⟩ := Option.bind_eq_some_iff.1 hb
      obtain ⟨r, hr, hb⟩ := Option.bind_eq_some_iff.1 hb
      refine wpIn_rangeFunc (fun fn _ => ?_)
      let w1 := w.alloc (.deferred (some []))
      let ρ1 := ρ ++ [(s.n, (⟨w.heap.size, 0, []⟩ : Loc))]
      have H1 : Sr C w0 D ρ1 s1 w1 := H.alloc (o' := .deferred (some [])) (cap := 0) (sp := []) rfl hs1
      have hd : cad ρ1 (BB + s.n) = some w.heap.size := by
        unfold cad
        rw [BB_ble, BB_sub, cond_true, lcE_new _ H.un]; rfl
      let ρ2 := ρ1 ++ [(s1.n, (⟨w1.heap.size, fn, []⟩ : Loc))]
      let rc : Loop := { state := .ready, pending := none, fn := fn, tmps := a.tmps, params := ps, assign := asg, body := body, defers := w.heap.size }
      have H2 : Sr C w0 D ρ2 s2 (w1.alloc (.loop rc)) := by
        refine H1.alloc (o' := .loop rc) (cap := fn) (sp := []) ?_ hs2
        exact concO_mkloop (L := ⟨w1.heap.size, fn, []⟩) (concA_mono _ (concA_mono _ (arr_conc h))) (cad_mono _ hd)
      have hl2 : cad ρ2 (BB + s1.n) = some w1.heap.size := by
        unfold cad
        rw [BB_ble, BB_sub, cond_true, lcE_new _ H1.un]; rfl
      have hgetl : lcE ρ2 s1.n = some ⟨w1.heap.size, fn, []⟩ := lcE_new _ H1.un
      have hargs : concs ρ2 (l.toList ++ [.func (.yield (BB + s1.n)) ⟨[]⟩ ⟨[]⟩] ++ m.toList) = some (l'.toList ++ [Value.func (.yield w1.heap.size) ⟨[]⟩ ⟨[]⟩] ++ m'.toList) := by
        refine concs_app (concs_app (concs_mono _ (concs_mono _ (concA_iff.1 hl))) (concs_one ?_)) (concs_mono _ (concs_mono _ (concA_iff.1 hm)))
        exact conc_func (fn' := .yield w1.heap.size) (by simp only [cfn, hl2, Option.map_some]) (concs_nil _) (concs_nil _)
      obtain ⟨e, s3⟩ := r
      obtain ⟨⟨fnn, hfn1, hfn2⟩, hcall⟩ := hK.fn _ _ _ _ _ hr
      have hC := hcall w0 D ρ2 (w1.alloc (.loop rc)) _ H2 hargs
      refine ⟨w1.heap.size, [⟨.collected w.heap.size, #[]⟩], w1.alloc (.loop rc), ⟨.fn (.func k) m', l' ++ #[.func (.yield w1.heap.size) #[] #[]]⟩, w1.alloc (.loop rc), k, (l'.toList ++ [Value.func (.yield w1.heap.size) ⟨[]⟩ ⟨[]⟩] ++ m'.toList).toArray, w1.alloc (.loop rc), ?_, ?_, ?_, ?_, ?_, ?_⟩
      · show (Instr.enterLoop fn a.tmps ps asg body none).run C.P w = _
        simp only [Instr.enterLoop, Sem.run_bind, run_newObj_alloc, Result.andThen_ok, run_pure']
        rfl
      · simp only [resolve, rangeCall, he, Deferred.ofValue, run_pure']
        simp [Act.eval]
      · intro f' _; trivial
      · show (callFunc k (l' ++ #[Value.func (.yield w1.heap.size) #[] #[]] ++ m')).run C.P _ = _
        have e1 : l' ++ #[Value.func (.yield w1.heap.size) #[] #[]] ++ m' = (l'.toList ++ [Value.func (.yield w1.heap.size) ⟨[]⟩ ⟨[]⟩] ++ m'.toList).toArray := by apply Array.ext'; simp
        rw [e1]
        exact callFunc_enter hfn1 hfn2 _ _
      · intro hh; simp [Fence.wide] at hh
      · have h6 : CallsIn Fence.wide (0 - 1) C.P k (l'.toList ++ [Value.func (.yield w1.heap.size) ⟨[]⟩ ⟨[]⟩] ++ m'.toList).toArray (w1.alloc (.loop rc)) (fun e' w' => ∃ τ, ErR (ρ2 ++ τ) e e' ∧ Sr C w0 D (ρ2 ++ τ) s3 w') := callsIn_wide.2 hC
        have h7 : CallsIn (Wk.Fr none) (0 - 1) C.P k (l'.toList ++ [Value.func (.yield w1.heap.size) ⟨[]⟩ ⟨[]⟩] ++ m'.toList).toArray (w1.alloc (.loop rc)) (fun e' w' => ∃ τ, ErR (ρ2 ++ τ) e e' ∧ Sr C w0 D (ρ2 ++ τ) s3 w') := h6
        refine CallsIn.mono h7 ?_
        rintro e' w3 ⟨τ, g1, g2⟩
        have hassoc : ρ2 ++ τ = ρ ++ ([(s.n, (⟨w.heap.size, 0, []⟩ : Loc))] ++ [(s1.n, (⟨w1.heap.size, fn, []⟩ : Loc))] ++ τ) := by simp [ρ2, ρ1]
        have hfr : ∀ {s4 : St} {w4 : World}, Fr (ρ2 ++ τ) N { fm with ds := ⟨.collected (BB + s.n), ⟨[]⟩⟩ :: fm.ds } { a with defers := [⟨.collected w.heap.size, #[]⟩] ++ a.defers } := fun {s4 w4} => by
          have hm := h.mono ([(s.n, (⟨w.heap.size, 0, []⟩ : Loc))] ++ [(s1.n, (⟨w1.heap.size, fn, []⟩ : Loc))] ++ τ)
          rw [← hassoc] at hm
          refine ⟨hm.nn, hm.size, hm.kn, hm.un, ?_⟩
          have hd2 : cad (ρ2 ++ τ) (BB + s.n) = some w.heap.size := cad_mono _ (cad_mono _ hd)
          have hm2 := hm.ds
          simp only [concDs, concD, hd2, concA, concs, Option.map_some, hm2]
          rfl
        cases e with
        | ret vv =>
          simp only at hb
          split at hb
          · rename_i lp hlp
            cases hst : (match lp.state with | .busy => true | _ => false : Bool) with
            | true => rw [hst] at hb; cases hb
            | false =>
              rw [hst, cond_false] at hb
              obtain ⟨s4, hs4, hb⟩ := Option.bind_eq_some_iff.1 hb
              obtain ⟨L3, o', q1, q2, q3⟩ := g2.holds _ _ hlp
              have hL3 : lcE (ρ2 ++ τ) s1.n = some ⟨w1.heap.size, fn, []⟩ := by
                exact lcE_app _ hgetl
              rw [hL3] at q1; cases q1
              obtain ⟨t', d', q4, q5, rfl⟩ := concO_loop q2
              have hg' := run_getObj (P := C.P) q3 (by intro c e f hh; cases hh)
              have hset := run_setObj (P := C.P) q3 (by intro c e f hh; cases hh) (.loop { lp with tmps := t', defers := d', fn := fn, state := .exhausted })
              have hlt := (Array.getElem?_eq_some_iff.1 q3).1
              have H4 : Sr C w0 D (ρ2 ++ τ) s4 { w3 with heap := w3.heap.setIfInBounds w1.heap.size (.loop { lp with tmps := t', defers := d', fn := fn, state := .exhausted }) } := by
                refine g2.write hlp hL3 (concO_mkloop (L := ⟨w1.heap.size, fn, []⟩) (lp := { lp with state := .exhausted }) q4 q5) hs4 (by simp [hlt]) (fun z _ hz => ?_) (by simp) rfl rfl rfl
                show (w3.heap.setIfInBounds w1.heap.size _)[z]? = _
                rw [Array.getElem?_setIfInBounds_ne (Ne.symm hz)]
              cases e' with
              | returned u =>
                generalize hw5 : ({ w3 with heap := w3.heap.setIfInBounds w1.heap.size (.loop { lp with tmps := t', defers := d', fn := fn, state := .exhausted }) } : World) = w5 at H4 hset
                refine ⟨lp.pending, w5, ?_, ?_⟩
                · have hnb : (lp.state == LoopState.busy) = false := by
                    cases hs : lp.state <;> rw [hs] at hst <;> first | rfl | cases hst
                  simp only [Instr.endLoop, Instr.getLoop, Sem.run_bind, hg', Result.andThen_ok, run_pure', hnb]
                  simp only [Bool.false_eq_true, if_false, Sem.run_bind, run_pure', Result.andThen_ok, hset]
                · unfold jmpE at hb
                  split at hb
                  · rename_i hp
                    cases hb
                    rw [hp]
                    exact PoE.more (τ := [(s.n, (⟨w.heap.size, 0, []⟩ : Loc))] ++ [(s1.n, (⟨w1.heap.size, fn, []⟩ : Loc))] ++ τ) (by rw [← hassoc]; exact PoE.of rfl trivial (hfr (s4 := s4) (w4 := w3)) H4)
                  · rename_i hp
                    cases hb
                    rw [hp]
                    exact wpIn_ret (PoE.more (τ := [(s.n, (⟨w.heap.size, 0, []⟩ : Loc))] ++ [(s1.n, (⟨w1.heap.size, fn, []⟩ : Loc))] ++ τ) (by rw [← hassoc]; exact PoE.of rfl trivial (hfr (s4 := s4) (w4 := w3)) H4))
                  · rename_i j hp
                    cases hb
                    rw [hp]
                    exact wpIn_exit (PoE.more (τ := [(s.n, (⟨w.heap.size, 0, []⟩ : Loc))] ++ [(s1.n, (⟨w1.heap.size, fn, []⟩ : Loc))] ++ τ) (by rw [← hassoc]; exact PoE.of rfl rfl (hfr (s4 := s4) (w4 := w3)) H4))
                  · cases hb
              | panicked ch => exact g1.elim
              | outgrown => exact g1.elim
          · cases hb
        | pan ch =>
          simp only [Option.some.injEq] at hb
          subst hb
          cases e' with
          | returned u => exact g1.elim
          | panicked ch' =>
            exact PoE.more (τ := [(s.n, (⟨w.heap.size, 0, []⟩ : Loc))] ++ [(s1.n, (⟨w1.heap.size, fn, []⟩ : Loc))] ++ τ) (by rw [← hassoc]; exact PoE.pan (τ := []) (by rw [List.append_nil]; exact g1) (by rw [List.append_nil]; exact (hfr (s4 := s3) (w4 := w3)).x) (by rw [List.append_nil]; exact g2))
          | outgrown => exact g1.elim
    · cases hv
  · cases hb

theorem codE_spec (hK : CalOk C K) (hro : dok = true → ro = none) : ∀ {c : Code} {ρ : Env} {fm : Fm} {s : St} {a : Act} {w : World} {out : Ex × Fm × St}, Fr ρ N fm a → Sr C w0 D ρ s w → codE C K dok LF c fm s = some out → c.wpIn (Wk.Fr ro) 0 C.P (PoE C w0 D ρ N out) a w := by
  intro c
  induction c with
  | skip => intro ρ fm s a w out h H hb; simp only [codE, Option.some.injEq] at hb; subst hb; exact wpIn_skip (PoE.of rfl trivial h H)
  | label l => intro ρ fm s a w out h H hb; simp only [codE, Option.some.injEq] at hb; subst hb; exact wpIn_label (PoE.of rfl trivial h H)
  | exit id => intro ρ fm s a w out h H hb; simp only [codE, Option.some.injEq] at hb; subst hb; exact wpIn_exit (PoE.of rfl rfl h H)
  | ret => intro ρ fm s a w out h H hb; simp only [codE, Option.some.injEq] at hb; subst hb; exact wpIn_ret (PoE.of rfl trivial h H)
  | region id ops draw =>
    intro ρ fm s a w out h H hb
    obtain ⟨ops⟩ := ops
    simp only [codE] at hb
    cases draw with
    | false =>
      rw [cond_false] at hb
      exact wpIn_region_lit (opsE_spec hK hro h H hb)
    | true =>
      rw [cond_true] at hb
      cases hns : noDS ⟨ops⟩ with
      | false => rw [hns] at hb; cases hb
      | true =>
        rw [hns, cond_true] at hb
        refine wpIn_region_any C.mixed ?_
        have h1 := drwE_spec (ro := ro) (LS := []) (LA := []) (rec := []) hK hns h H.drew (show LR ρ [] [] from trivial) (by intro hh; cases hh) hb
        have h2 := AnyR.sound _ _ _ _ _ h1
        simpa using h2
  | seq x y ihx ihy =>
    intro ρ fm s a w out h H hb
    simp only [codE] at hb
    obtain ⟨r, hr, hb⟩ := Option.bind_eq_some_iff.1 hb
    refine wpIn_seq (wpIn_mono (ihx h H hr) (fun e a w hp => hp.then (fun hn τ a w h' H' => ?_) (fun hn => ?_)))
    · obtain ⟨x', fm', s'⟩ := r
      simp only at hn; subst hn
      exact wpIn_mono (ihy h' H' hb) (fun e a w hq => hq.more)
    · obtain ⟨x', fm', s'⟩ := r
      cases x' <;> first | exact absurd rfl hn | (cases hb; rfl)
  | cond c x y ihx ihy =>
    intro ρ fm s a w out h H hb
    simp only [codE] at hb
    split at hb
    · rename_i hc
      obtain ⟨u, hu, he⟩ := evE_spec h hc
      simp only [conc, Option.some.injEq] at hu; subst hu
      exact wpIn_cond_true he (ihx h H hb)
    · rename_i hc
      obtain ⟨u, hu, he⟩ := evE_spec h hc
      simp only [conc, Option.some.injEq] at hu; subst hu
      exact wpIn_cond_false he (ihy h H hb)
    · cases hb
  | block id b ih =>
    intro ρ fm s a w out h H hb
    simp only [codE] at hb
    obtain ⟨r, hr, hb⟩ := Option.bind_eq_some_iff.1 hb
    cases hb
    exact wpIn_block (wpIn_mono (ih h H hr) (fun e a w hp => hp.block))
  | loop b ih =>
    intro ρ fm s a w out h H hb
    simp only [codE] at hb
    have key : ∀ (n : Nat) {ρ : Env} {fm : Fm} {s : St} {a : Act} {w : World}, Fr ρ N fm a → Sr C w0 D ρ s w → lopE n (codE C K dok LF b) fm s = some out → Unr (Wk.Fr ro) C.P b (PoE C w0 D ρ N out) n a w := by
      intro n
      induction n with
      | zero => intro ρ fm s a w h H hb; cases hb
      | succ n ihn =>
        intro ρ fm s a w h H hb
        simp only [lopE] at hb
        obtain ⟨r, hr, hb⟩ := Option.bind_eq_some_iff.1 hb
        refine wpIn_mono (ih h H hr) (fun e a w hp => hp.then (fun hn τ a w h' H' => ?_) (fun hn => ?_))
        · obtain ⟨x', fm', s'⟩ := r
          simp only at hn; subst hn
          have h5 := ihn h' H' hb
          have mono : ∀ (n : Nat) (a : Act) (w : World), Unr (Wk.Fr ro) C.P b (PoE C w0 D (ρ ++ τ) N out) n a w → Unr (Wk.Fr ro) C.P b (PoE C w0 D ρ N out) n a w := by
            intro n
            induction n with
            | zero => intro a w hh; exact hh
            | succ n ih2 =>
              intro a w hh
              refine wpIn_mono hh (fun e a w hq => ?_)
              cases e with
              | normal => exact ih2 a w hq
              | _ => exact PoE.more hq
          exact mono n a w h5
        · obtain ⟨x', fm', s'⟩ := r
          cases x' <;> first | exact absurd rfl hn | (cases hb; rfl)
    exact wpIn_unr (key LF h H hb)
  | rangeFunc g ps asg body _ _ =>
    intro ρ fm s a w out h H hb
    simp only [codE] at hb
    cases hd : dok with
    | false => rw [hd] at hb; cases hb
    | true =>
      rw [hd, cond_true] at hb
      have hr := hro hd
      subst hr
      obtain ⟨v, hv, hb⟩ := Option.bind_eq_some_iff.1 hb
      exact rngE_spec hK h H hv hb
  | _ => intro ρ fm s a w out h H hb; cases hb
end
end Go.Ev

/- Functions, reckoned: how they begin and leave; rounds; the knot. -/
namespace Go.Ev
open Go.Wk
set_option linter.unusedVariables false
set_option linter.unusedSimpArgs false

section
variable {C : Ct} {w0 : World} {D : Nat → Prop} {N : Nat} {K : Cal} {LF : Nat}

/-! ### Results -/
def resL (C : Ct) (full : Bool) (s : St) (t : Tr Value) : List ResultVar → Option (List Value)
  | [] => some []
  | .tmp i :: r => match (match t.get i with | some v => some v | none => bif full then some undef else none), resL C full s t r with
    | some v, some vs => some (v :: vs)
    | _, _ => none
  | .cell i ty :: r => match (t.get i).bind (ldE C s ty), resL C full s t r with
    | some v, some vs => some (v :: vs)
    | _, _ => none
def resE (C : Ct) (full : Bool) (s : St) (t : Tr Value) (fn : Func) : Option Value := match resL C full s t fn.results.toList with
  | some [v] => some v
  | some vs => some (.tuple ⟨vs⟩)
  | none => none
def resOne (tmps : Array Value) : ResultVar → Sem Value
  | .tmp t => pure (tmps.getD t undef)
  | .cell a t => do loadVar t (← asAddr (tmps.getD a undef))
/-- What a frame that leaves must know: all slots that are no result's stay out. -/
def FrK (ρ : Env) (dflt : Bool) (fm : Fm) (a : Act) : Prop := (∀ i v, fm.t.get i = some v → ∃ u, conc ρ v = some u ∧ a.tmps.getD i undef = u) ∧ (dflt = true → ∀ i, fm.t.get i = none → a.tmps.getD i undef = undef)
theorem resL_run {ρ : Env} {full : Bool} {fm : Fm} {s : St} {a : Act} {w : World} (hk : FrK ρ full fm a) (H : Sr C w0 D ρ s w) : ∀ {rs : List ResultVar} {vs : List Value}, resL C full s fm.t rs = some vs → ∃ us, concs ρ vs = some us ∧ (rs.mapM (resOne a.tmps)).run C.P w = .ok us w
  | [], vs, h => by simp only [resL, Option.some.injEq] at h; subst h; exact ⟨[], concs_nil ρ, rfl⟩
  | .tmp i :: r, vs, h => by
    simp only [resL] at h
    split at h
    · rename_i v vs' h0 h1
      cases h
      obtain ⟨us, h2, h3⟩ := resL_run hk H h1
      have key : conc ρ v = some (a.tmps.getD i undef) := by
        split at h0
        · rename_i v' hq
          cases h0
          obtain ⟨u, g1, g2⟩ := hk.1 i v hq; rw [g2]; exact g1
        · rename_i hq
          cases hf : full with
          | false => rw [hf] at h0; cases h0
          | true => rw [hf] at h0; cases h0; rw [hk.2 hf i hq]; exact conc_undef ρ
      refine ⟨_, concs_cons.2 ⟨_, us, key, h2, rfl⟩, ?_⟩
      rw [List.mapM_cons]
      simp only [resOne, Sem.run_bind, run_pure', Result.andThen_ok, h3]
    · cases h
  | .cell i ty :: r, vs, h => by
    simp only [resL] at h
    split at h
    · rename_i v vs' h0 h1
      cases h
      obtain ⟨us, h2, h3⟩ := resL_run hk H h1
      obtain ⟨p, hp, hl⟩ := Option.bind_eq_some_iff.1 h0
      obtain ⟨p', g1, g2⟩ := hk.1 i p hp
      obtain ⟨u, q1, q2⟩ := ldE_run H g1 hl
      refine ⟨_, concs_cons.2 ⟨u, us, q1, h2, rfl⟩, ?_⟩
      rw [List.mapM_cons]
      have hload : (resOne a.tmps (.cell i ty)).run C.P w = .ok u w := by
        simp only [resOne, g2]
        unfold ldE at hl
        split at hl
        · simp only [conc, cA, Option.map_eq_some_iff] at g1
          obtain ⟨_, ⟨b', _, rfl⟩, rfl⟩ := g1
          exact q2
        · cases hl
      rw [Sem.run_bind, hload]
      simp only [Sem.run_bind, run_pure', Result.andThen_ok, h3]
    · cases h
theorem resE_run {ρ : Env} {full : Bool} {fm : Fm} {s : St} {a : Act} {w : World} {fn : Func} {v : Value} (hk : FrK ρ full fm a) (H : Sr C w0 D ρ s w) (h : resE C full s fm.t fn = some v) : ∃ u, conc ρ v = some u ∧ (results fn a.tmps).run C.P w = .ok u w := by
  unfold resE at h
  have hdef : results fn a.tmps = (do
      let vs ← fn.results.mapM (resOne a.tmps)
      pure (if h : vs.size = 1 then vs[0] else .tuple vs)) := by
    unfold results
    congr 1
  have hm : ∀ {us : List Value}, (fn.results.toList.mapM (resOne a.tmps)).run C.P w = .ok us w → (fn.results.mapM (resOne a.tmps)).run C.P w = .ok us.toArray w := fun {us} hh => by
    rw [Array.mapM_eq_mapM_toList]
    show ((fn.results.toList.mapM (resOne a.tmps)) >>= fun x => pure x.toArray : Sem (Array Value)).run C.P w = _
    rw [Sem.run_bind, hh]; rfl
  split at h
  · rename_i v' h1
    cases h
    obtain ⟨us, h2, h3⟩ := resL_run hk H h1
    obtain ⟨u, t, g1, g2, rfl⟩ := concs_cons.1 h2
    rw [concs_nil] at g2; cases g2
    refine ⟨u, g1, ?_⟩
    rw [hdef, Sem.run_bind, hm h3]
    rfl
  · rename_i vs hne h1
    cases h
    obtain ⟨us, h2, h3⟩ := resL_run hk H h1
    refine ⟨.tuple us.toArray, conc_tuple h2, ?_⟩
    rw [hdef, Sem.run_bind, hm h3, Result.andThen_ok]
    have hl : ¬ us.toArray.size = 1 := fun hh => by
      have h5 : vs.length = 1 := by rw [← concs_len h2]; simpa using hh
      match vs, h5 with
      | [x], _ => exact hne x rfl
    simp only [run_pure']
    rw [dif_neg hl]
  · cases h

/-! ### Leaving -/
inductive Md where
  | ret
  | pan (ch : List PanicEntry)
def MdR (ρ : Env) : Md → FrameMode → Prop
  | .ret, .returning => True
  | .pan ch, .panicking ch' => concCh ρ ch = some ch'
  | _, _ => False
theorem MdR.mono {ρ : Env} (τ : Env) {m : Md} {u : FrameMode} (h : MdR ρ m u) : MdR (ρ ++ τ) m u := by
  cases m <;> cases u <;> first | exact h | exact concCh_mono τ h
def setM : Md → Option Md
  | .ret => some .ret
  | .pan [] => some (.pan [])
  | .pan (e :: older) => bif e.recovered then (match older with
    | [] => some .ret
    | _ => none) else some (.pan (e :: older))
def raiM (m : Md) (ch : List PanicEntry) : Md := match m with
  | .ret => .pan ch
  | .pan old => .pan (ch ++ old)
theorem concCh_cons {ρ : Env} {e : PanicEntry} {r us : List PanicEntry} (h : concCh ρ (e :: r) = some us) : ∃ v t, conc ρ e.v = some v ∧ concCh ρ r = some t ∧ us = { e with v := v } :: t := by
  simp only [concCh] at h
  split at h
  · rename_i v t h1 h2; exact ⟨v, t, h1, h2, (Option.some.inj h).symm⟩
  · cases h
theorem concCh_app {ρ : Env} : ∀ {l m l' m' : List PanicEntry}, concCh ρ l = some l' → concCh ρ m = some m' → concCh ρ (l ++ m) = some (l' ++ m')
  | [], m, l', m', h, h' => by simp only [concCh, Option.some.injEq] at h; subst h; exact h'
  | e :: r, m, l', m', h, h' => by
    obtain ⟨v, t, h1, h2, rfl⟩ := concCh_cons h
    simp only [List.cons_append, concCh, h1, concCh_app h2 h']
theorem setM_spec {ρ : Env} {m m' : Md} {u : FrameMode} (h : MdR ρ m u) (hs : setM m = some m') : MdR ρ m' (settle u) := by
  cases m with
  | ret => cases hs; cases u <;> first | exact h.elim | exact trivial
  | pan ch =>
    cases u with
    | panicking ch' =>
      cases ch with
      | nil =>
        cases hs
        have h1 : concCh ρ [] = some ch' := h
        simp only [concCh, Option.some.injEq] at h1; subst h1
        exact h
      | cons e older =>
        obtain ⟨v, t, h1, h2, rfl⟩ := concCh_cons h
        simp only [setM] at hs
        cases hr : e.recovered with
        | true =>
          rw [hr, cond_true] at hs
          cases older with
          | nil =>
            cases hs
            simp only [concCh, Option.some.injEq] at h2; subst h2
            obtain ⟨ev, er, eg⟩ := e
            simp only at hr; subst hr
            show MdR ρ .ret (settle (.panicking [⟨v, true, eg⟩]))
            simp [settle, MdR]
          | cons e2 r2 => cases hs
        | false =>
          rw [hr, cond_false] at hs
          cases hs
          obtain ⟨ev, er, eg⟩ := e
          simp only at hr; subst hr
          show MdR ρ _ (settle (.panicking (⟨v, false, eg⟩ :: t)))
          simp only [settle]
          exact h
    | _ => exact h.elim
theorem raiM_spec {ρ : Env} {m : Md} {u : FrameMode} {ch ch' : List PanicEntry} (h : MdR ρ m u) (hc : concCh ρ ch = some ch') : MdR ρ (raiM m ch) (raised u ch') := by
  cases m with
  | ret => cases u <;> first | exact h.elim | exact hc
  | pan old => cases u <;> first | exact h.elim | exact concCh_app hc h

/-- A deferred call, as it is reckoned. -/
def DclOk (C : Ct) (dc : FuncId → List Value → Md → St → Option (Er × Md × St)) : Prop :=
  ∀ f args m s r m' s', dc f args m s = some (r, m', s') → (∃ fn, C.ft.get f = some fn ∧ fn.body.isSome = true) ∧ ∀ w0 D ρ w us u, Sr C w0 D ρ s w → concs ρ args = some us → MdR ρ m u →
    CallsDIn (Wk.Fr none) 0 C.P f us.toArray u w (fun e u' w' => ∃ τ, ErR (ρ ++ τ) r e ∧ MdR (ρ ++ τ) m' u' ∧ Sr C w0 D (ρ ++ τ) s' w')
def lvE (C : Ct) (dc : FuncId → List Value → Md → St → Option (Er × Md × St)) (full : Bool) (fn : Func) (t : Tr Value) : List Deferred → Md → St → Option (Er × St)
  | [], .ret, s => (resE C full s t fn).bind fun v => some (.ret v, s)
  | [], .pan ch, s => some (.pan ch, s)
  | ⟨.collected r, _⟩ :: ds, m, s => bif Nat.ble BB r then (match s.h.get (r - BB) with
    | some (.deferred (some [])) => (s.upd (r - BB) (some (.deferred none))).bind fun s' => lvE C dc full fn t ds m s'
    | _ => none) else none
  | ⟨.fn (.func k) cap, args⟩ :: ds, m, s => (dc k (args.toList ++ cap.toList) m s).bind fun q => match q.1 with
    | .ret _ => (setM q.2.1).bind fun m' => lvE C dc full fn t ds m' q.2.2
    | .pan ch => lvE C dc full fn t ds (raiM q.2.1 ch) q.2.2
  | _, _, _ => none
theorem leavesM_mono {F : Fence} {n : Nat} {P : Program} {fn : Func} {tmps : Array Value} {R R' : Ending → World → Prop} (hR : ∀ e w, R e w → R' e w) : ∀ {ds : List Deferred} {u : FrameMode} {w : World}, LeavesInM F n P fn tmps R ds u w → LeavesInM F n P fn tmps R' ds u w
  | [], u, w, h => by
    cases u with
    | run => exact h.elim
    | returning => obtain ⟨v, h1, h2⟩ := h; exact ⟨v, h1, hR _ _ h2⟩
    | panicking ch => exact hR _ _ h
  | d :: ds, u, w, h => by
    refine ⟨h.1, ?_⟩
    rcases h.2 with ⟨r, w', h1, h2, h3⟩ | ⟨hn, fv, cap, f, args, h1, h2, h3, h4⟩
    · exact .inl ⟨r, w', h1, h2, leavesM_mono hR h3⟩
    · exact .inr ⟨hn, fv, cap, f, args, h1, h2, h3, CallsDIn.mono h4 (fun e u' w' he => by
        cases e with
        | returned v => exact leavesM_mono hR he
        | panicked ch => exact leavesM_mono hR he
        | outgrown => exact hR _ _ he)⟩
theorem lvE_spec {dc : FuncId → List Value → Md → St → Option (Er × Md × St)} (hdc : DclOk C dc) {full : Bool} {fn : Func} {r : Er} {s' : St} : ∀ {ds : List Deferred} {ρ : Env} {fm : Fm} {m : Md} {s : St} {a : Act} {w : World} {ds' : List Deferred} {u : FrameMode}, FrK ρ full fm a → Sr C w0 D ρ s w → concDs ρ ds = some ds' → MdR ρ m u → lvE C dc full fn fm.t ds m s = some (r, s') →
    LeavesInM (Wk.Fr none) 0 C.P fn a.tmps (fun e w' => ∃ τ, ErR (ρ ++ τ) r e ∧ Sr C w0 D (ρ ++ τ) s' w') ds' u w := by
  intro ds
  induction ds with
  | nil =>
    intro ρ fm m s a w ds' u hk H hd hm hb
    simp only [concDs, Option.some.injEq] at hd; subst hd
    cases m with
    | ret =>
      cases u with
      | returning =>
        simp only [lvE] at hb
        obtain ⟨v, hv, hb⟩ := Option.bind_eq_some_iff.1 hb
        cases hb
        obtain ⟨u, h1, h2⟩ := resE_run hk H hv
        exact ⟨u, h2, [], by rw [List.append_nil]; exact h1, by rw [List.append_nil]; exact H⟩
      | _ => exact hm.elim
    | pan ch =>
      cases u with
      | panicking ch' =>
        simp only [lvE, Option.some.injEq, Prod.mk.injEq] at hb
        obtain ⟨rfl, rfl⟩ := hb
        exact ⟨[], by rw [List.append_nil]; exact hm, by rw [List.append_nil]; exact H⟩
      | _ => exact hm.elim
  | cons d ds ih =>
    intro ρ fm m s a w ds' u hk H hd hm hb
    simp only [concDs] at hd
    split at hd
    · rename_i d' ds2 hd1 hd2
      cases hd
      have hu : u ≠ .run := fun hh => by subst hh; cases m <;> exact hm.elim
      refine ⟨hu, ?_⟩
      obtain ⟨tg, args⟩ := d
      have mono : ∀ {τ : Env} {ds3 : List Deferred} {u3 : FrameMode} {w3 : World}, LeavesInM (Wk.Fr none) 0 C.P fn a.tmps (fun e w' => ∃ σ, ErR ((ρ ++ τ) ++ σ) r e ∧ Sr C w0 D ((ρ ++ τ) ++ σ) s' w') ds3 u3 w3 → LeavesInM (Wk.Fr none) 0 C.P fn a.tmps (fun e w' => ∃ τ, ErR (ρ ++ τ) r e ∧ Sr C w0 D (ρ ++ τ) s' w') ds3 u3 w3 := by
        intro τ ds3 u3 w3 hh
        refine leavesM_mono ?_ hh
        rintro e w' ⟨σ, g1, g2⟩
        rw [List.append_assoc] at g1 g2
        exact ⟨τ ++ σ, g1, g2⟩
      cases tg with
      | collected q =>
        simp only [concD] at hd1
        split at hd1
        · rename_i q' args' hq hargs
          cases hd1
          simp only [lvE] at hb
          cases hbb : Nat.ble BB q with
          | false => rw [hbb] at hb; cases hb
          | true =>
            rw [hbb, cond_true] at hb
            obtain ⟨L, hL, rfl⟩ := cad_own hbb hq
            generalize q - BB = kk at hb hL
            split at hb
            · rename_i hkk
              obtain ⟨s1, hs1, hb⟩ := Option.bind_eq_some_iff.1 hb
              obtain ⟨L2, o', q1, q2, q3⟩ := H.holds _ _ hkk
              rw [hL] at q1; cases q1
              have ho : o' = .deferred (some []) := by
                have h9 : (concDs ρ []).map (fun ds' => Obj.deferred (some ds')) = some o' := q2
                simp only [concDs, Option.map_some, Option.some.injEq] at h9
                exact h9.symm
              subst ho
              have hg := run_getObj (P := C.P) q3 (by intro c e f hh; cases hh)
              have hset := run_setObj (P := C.P) q3 (by intro c e f hh; cases hh) (.deferred none)
              have hlt := (Array.getElem?_eq_some_iff.1 q3).1
              have H1 : Sr C w0 D ρ s1 { w with heap := w.heap.setIfInBounds L.ad (.deferred none) } := by
                refine H.write hkk hL (o' := .deferred none) rfl hs1 (by simp [hlt]) (fun z _ hz => ?_) (by simp) rfl rfl rfl
                show (w.heap.setIfInBounds L.ad _)[z]? = _
                rw [Array.getElem?_setIfInBounds_ne (Ne.symm hz)]
              refine .inl ⟨L.ad, _, rfl, ?_, ih hk H1 hd2 hm hb⟩
              simp only [Instr.takeDeferred, Sem.run_bind, hg, Result.andThen_ok, hset, run_pure']
            · cases hb
        · cases hd1
      | fn f cap =>
        simp only [concD] at hd1
        split at hd1
        · rename_i f' cap' args' hf hcap hargs
          cases hd1
          cases f with
          | func k =>
            simp only [cfn, Option.some.injEq] at hf; subst hf
            simp only [lvE] at hb
            obtain ⟨q, hq, hb⟩ := Option.bind_eq_some_iff.1 hb
            obtain ⟨e, m1, s1⟩ := q
            obtain ⟨⟨fnn, hfn1, hfn2⟩, hcall⟩ := hdc _ _ _ _ _ _ _ hq
            have hall := concs_app (concA_iff.1 hargs) (concA_iff.1 hcap)
            have hC := hcall w0 D ρ w _ u H hall hm
            refine .inr ⟨fun hh => by simp [Fence.wide] at hh, .func k, cap', k, (args'.toList ++ cap'.toList).toArray, rfl, ?_, (fun _ _ => trivial), ?_⟩
            · show (callFunc k (args' ++ cap')).run C.P w = _
              have e1 : args' ++ cap' = (args'.toList ++ cap'.toList).toArray := by apply Array.ext'; simp
              rw [e1]; exact callFunc_enter hfn1 hfn2 _ _
            · refine CallsDIn.mono hC ?_
              rintro e' u' w' ⟨τ, g1, g2, g3⟩
              have hk' : FrK (ρ ++ τ) full fm a := ⟨fun i v hi => let ⟨x, h1, h2⟩ := hk.1 i v hi; ⟨x, conc_mono τ h1, h2⟩, hk.2⟩
              cases e with
              | ret vv =>
                cases e' with
                | returned uu =>
                  simp only at hb
                  obtain ⟨m2, hm2, hb⟩ := Option.bind_eq_some_iff.1 hb
                  exact mono (ih hk' g3 (concDs_mono τ hd2) (setM_spec g2 hm2) hb)
                | _ => exact g1.elim
              | pan ch =>
                cases e' with
                | panicked ch' =>
                  simp only at hb
                  exact mono (ih hk' g3 (concDs_mono τ hd2) (raiM_spec g2 g1) hb)
                | _ => exact g1.elim
          | _ => cases hb
        · cases hd1
      | _ => cases hd1
    · cases hd
end
end Go.Ev
