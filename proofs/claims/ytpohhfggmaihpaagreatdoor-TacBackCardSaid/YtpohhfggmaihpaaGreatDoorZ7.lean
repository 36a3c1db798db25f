/-
  A statement's operations, in their order and in whatever order.
  A statement's operations in whatever order.
  A region that draws its order, reckoned; code without ranges over functions.
-/
import Derived.Test.YtpohhfggmaihpaaGreatDoorZ6
import Derived.OrdersIn
import Derived.OrdersHeld

/- A statement's operations, in their order and in whatever order. -/
namespace Go.Ev
open Go.Wk
set_option linter.unusedVariables false
set_option linter.unusedSimpArgs false

/-! ### How code ends -/
inductive Ex where
  | norm
  | exit (id : Nat)
  | goto (l : Nat)
  | ret
  | pan (ch : List PanicEntry)
inductive Er where
  | ret (v : Value)
  | pan (ch : List PanicEntry)
def concCh (ρ : Env) : List PanicEntry → Option (List PanicEntry)
  | [] => some []
  | e :: r => match conc ρ e.v, concCh ρ r with
    | some v, some r' => some ({ e with v := v } :: r')
    | _, _ => none
theorem concCh_mono {ρ : Env} (τ : Env) : ∀ {l us : List PanicEntry}, concCh ρ l = some us → concCh (ρ ++ τ) l = some us
  | [], _, h => by simpa [concCh] using h
  | e :: r, us, h => by
    simp only [concCh] at h ⊢
    split at h
    · rename_i h1 h2
      rw [conc_mono τ h1, concCh_mono τ h2]; exact h
    · cases h
def ExR (ρ : Env) : Ex → Exit → Prop
  | .norm, .normal => True
  | .exit i, .exit j => i = j
  | .goto i, .goto j => i = j
  | .ret, .ret => True
  | .pan ch, .panic ch' => concCh ρ ch = some ch'
  | _, _ => False
def ErR (ρ : Env) : Er → Ending → Prop
  | .ret v, .returned u => conc ρ v = some u
  | .pan ch, .panicked ch' => concCh ρ ch = some ch'
  | _, _ => False
def Ex.isPan : Ex → Bool
  | .pan _ => true
  | _ => false
/-- What is known of a frame that panics. -/
structure FrX (ρ : Env) (N : Nat) (fm : Fm) (a : Act) : Prop where
  nn : fm.N = N
  size : a.tmps.size = N
  kn : ∀ i v, fm.t.get i = some v → ∃ u, conc ρ v = some u ∧ a.tmps.getD i undef = u
  ds : concDs ρ fm.ds = some a.defers
theorem Fr.x {ρ : Env} {N : Nat} {fm : Fm} {a : Act} (h : Fr ρ N fm a) : FrX ρ N fm a := ⟨h.nn, h.size, h.kn, h.ds⟩
def PoE (C : Ct) (w0 : World) (D : Nat → Prop) (ρ : Env) (N : Nat) (out : Ex × Fm × St) : Exit → Act → World → Prop := fun e a w =>
  ∃ τ, ExR (ρ ++ τ) out.1 e ∧ (out.1.isPan = true → FrX (ρ ++ τ) N out.2.1 a) ∧ (out.1.isPan = false → Fr (ρ ++ τ) N out.2.1 a) ∧ Sr C w0 D (ρ ++ τ) out.2.2 w
theorem PoE.more {C : Ct} {w0 : World} {D : Nat → Prop} {ρ τ : Env} {N : Nat} {out : Ex × Fm × St} {e : Exit} {a : Act} {w : World} (h : PoE C w0 D (ρ ++ τ) N out e a w) : PoE C w0 D ρ N out e a w := by
  obtain ⟨σ, h1, h2, h3, h4⟩ := h
  rw [List.append_assoc] at h1 h2 h3 h4
  exact ⟨τ ++ σ, h1, h2, h3, h4⟩

theorem PoE.of {C : Ct} {w0 : World} {D : Nat → Prop} {ρ : Env} {N : Nat} {x : Ex} {fm : Fm} {s : St} {e : Exit} {a : Act} {w : World} (hx : x.isPan = false) (he : ExR ρ x e) (h : Fr ρ N fm a) (H : Sr C w0 D ρ s w) : PoE C w0 D ρ N (x, fm, s) e a w :=
  ⟨[], by rw [List.append_nil]; exact he, (fun hp => by rw [hx] at hp; cases hp), (fun _ => by rw [List.append_nil]; exact h), by rw [List.append_nil]; exact H⟩
theorem PoE.pan {C : Ct} {w0 : World} {D : Nat → Prop} {ρ τ : Env} {N : Nat} {ch ch' : List PanicEntry} {fm : Fm} {s : St} {a : Act} {w : World} (he : concCh (ρ ++ τ) ch = some ch') (h : FrX (ρ ++ τ) N fm a) (H : Sr C w0 D (ρ ++ τ) s w) : PoE C w0 D ρ N (.pan ch, fm, s) (.panic ch') a w :=
  ⟨τ, he, (fun _ => h), (fun hp => by cases hp), H⟩

/-- Functions and rounds, as they are reckoned. -/
structure Cal where
  fn : FuncId → List Value → St → Option (Er × St)
  yl : Nat → List Value → St → Option (Er × St)
structure CalOk (C : Ct) (K : Cal) : Prop where
  fn : ∀ f args s r s', K.fn f args s = some (r, s') → (∃ fn, C.ft.get f = some fn ∧ fn.body.isSome = true) ∧ ∀ w0 D ρ w us, Sr C w0 D ρ s w → concs ρ args = some us → Calls C.P f us.toArray w (fun e w' => ∃ τ, ErR (ρ ++ τ) r e ∧ Sr C w0 D (ρ ++ τ) s' w')
  yl : ∀ l args s r s', K.yl l args s = some (r, s') → ∀ w0 D ρ w l' us, Sr C w0 D ρ s w → cad ρ l = some l' → concs ρ args = some us →
    ∃ f tmps assign body, (Instr.yield l' us.toArray).run C.P w = .ok (.round l' f tmps assign body) w ∧ RoundIn (Wk.Fr none) 0 C.P l' f tmps assign body w (fun e w' => ∃ τ, ErR (ρ ++ τ) r e ∧ Sr C w0 D (ρ ++ τ) s' w')

/-! ### One step -/
def wantE (ops : List Oper) (fm : Fm) (o : Oper) : Option Bool := match o.guard with
  | none => some true
  | some (j, want) => match (ops[j]?).bind (·.dst) with
    | some t => bif Nat.blt t fm.N then (match fm.t.get t with
      | some (.bool b) => some (b == want)
      | some (.tuple _) => some false
      | _ => none) else none
    | none => none
theorem wantE_spec {ρ : Env} {N : Nat} {fm : Fm} {a : Act} {ops : List Oper} {o : Oper} {b : Bool} (h : Fr ρ N fm a) (hw : wantE ops fm o = some b) : Region.wanted o (yielded ops.toArray a.tmps) = b := by
  unfold wantE at hw
  cases hg : o.guard with
  | none => rw [hg] at hw; cases hw; simp [Region.wanted, hg]
  | some q =>
    obtain ⟨j, want⟩ := q
    rw [hg] at hw
    simp only at hw
    split at hw
    · rename_i t ht
      cases hb : Nat.blt t fm.N with
      | false => rw [hb] at hw; cases hw
      | true =>
        rw [hb, cond_true] at hw
        have hlt : t < a.tmps.size := by rw [h.size, ← h.nn]; exact Nat.lt_of_lt_of_le (Nat.lt_succ_self t) (Nat.le_of_ble_eq_true hb)
        have ht' : ((ops.toArray)[j]?).bind (·.dst) = some t := by simpa using ht
        split at hw
        · rename_i c hc
          cases hw
          obtain ⟨u, hu, hau⟩ := h.kn _ _ hc
          simp only [conc, Option.some.injEq] at hu; subst hu
          have hv : a.tmps[t]? = some (.bool c) := by
            rw [Array.getD_eq_getD_getElem?, Array.getElem?_eq_getElem hlt, Option.getD_some] at hau
            rw [Array.getElem?_eq_getElem hlt, hau]
          simp only [Region.wanted, hg, yielded, ht', Option.bind_some, hv]
          cases c <;> cases want <;> rfl
        · rename_i l hc
          cases hw
          obtain ⟨u, hu, hau⟩ := h.kn _ _ hc
          simp only [conc, Option.map_eq_some_iff] at hu
          obtain ⟨l', _, rfl⟩ := hu
          have hv : a.tmps[t]? = some (.tuple l') := by
            rw [Array.getD_eq_getD_getElem?, Array.getElem?_eq_getElem hlt, Option.getD_some] at hau
            rw [Array.getElem?_eq_getElem hlt, hau]
          simp only [Region.wanted, hg, yielded, ht', Option.bind_some, hv]
          rfl
        · cases hw
    · cases hw
theorem conc_undef (ρ : Env) : conc ρ undef = some undef := conc_tuple (l := []) (l' := []) (concs_nil ρ)

/-- What one step leads to. -/
inductive Sp where
  | go (fm : Fm) (s : St)
  | pan (ch : List PanicEntry) (s : St)
def goE (s : St) : Option Fm → Option Sp
  | some fm => some (.go fm s)
  | none => none
def erE (fm : Fm) (d : Option Nat) : Option (Er × St) → Option Sp
  | some (.ret v, s) => goE s (fm.put d v)
  | some (.pan ch, s) => some (.pan ch s)
  | none => none
def stpE (C : Ct) (K : Cal) (dok : Bool) (fm : Fm) (s : St) (o : Oper) : Option Sp := match evO' C fm.t s o with
  | some (.val v s') => goE s' (fm.put o.dst v)
  | some (.skip s') => goE s' (fm.put o.dst undef)
  | some (.ent f args) => erE fm o.dst (K.fn f args s)
  | some (.rnd l args) => bif dok then erE fm o.dst (K.yl l args s) else none
  | some (.dfr d) => bif dok then goE s (Fm.put { fm with ds := d :: fm.ds } o.dst undef) else none
  | some (.pan v) => some (.pan [{ v := v, recovered := false }] s)
  | none => none
theorem goE_some {s : St} {q : Option Fm} {r : Sp} (h : goE s q = some r) : ∃ fm, q = some fm ∧ r = .go fm s := by
  unfold goE at h
  split at h
  · cases h; exact ⟨_, rfl, rfl⟩
  · cases h
/-- What must hold behind a step. -/
def SpR (C : Ct) (w0 : World) (D : Nat → Prop) (ρ : Env) (N : Nat) (K : Act → World → Prop) (Q : Post) (a : Act) : Sp → Prop
  | .go fm s => ∀ τ a' w', Fr (ρ ++ τ) N fm a' → Sr C w0 D (ρ ++ τ) s w' → K a' w'
  | .pan ch s => ∀ τ w' ch', concCh (ρ ++ τ) ch = some ch' → Sr C w0 D (ρ ++ τ) s w' → Q (.panic ch') a w'

section
variable {C : Ct} {w0 : World} {D : Nat → Prop} {ρ : Env} {s s' : St} {w : World} {N : Nat} {fm : Fm} {a : Act} {ro : Option Nat}

theorem stpE_spec {K : Cal} (hK : CalOk C K) {dok : Bool} {o : Oper} {r : Sp} {Kn : Act → World → Prop} {Q : Post} (hro : dok = true → ro = none) (h : Fr ρ N fm a) (H : Sr C w0 D ρ s w) (hb : stpE C K dok fm s o = some r)
    (hr : SpR C w0 D ρ N Kn Q a r) : o.wpIn (Wk.Fr ro) 0 C.P a w Kn Q := by
  refine ⟨fun _ _ => trivial, ?_⟩
  have er : ∀ {q : Option (Er × St)}, erE fm o.dst q = some r → ∃ e s1, q = some (e, s1) ∧ ∀ τ e' w', ErR (ρ ++ τ) e e' → Sr C w0 D (ρ ++ τ) s1 w' → (match e' with | .returned v => Kn (a.put o.dst v) w' | .panicked chain => Q (.panic chain) a w' | .outgrown => LetsOut Q) := by
    intro q hq
    unfold erE at hq
    split at hq
    · rename_i v s1
      obtain ⟨fm', h1, rfl⟩ := goE_some hq
      refine ⟨_, _, rfl, fun τ e' w' he hs => ?_⟩
      cases e' with
      | returned u => exact hr τ _ w' ((h.mono τ).put he h1) hs
      | _ => exact he.elim
    · rename_i ch s1
      cases hq
      refine ⟨_, _, rfl, fun τ e' w' he hs => ?_⟩
      cases e' with
      | panicked ch' => exact hr τ w' ch' he hs
      | _ => exact he.elim
    · cases hq
  unfold stpE at hb
  split at hb
  · rename_i v s1 hv
    have hop := evO'_spec h H hv
    obtain ⟨τ, u, w', h1, h2, h3⟩ := hop
    obtain ⟨fm', h4, rfl⟩ := goE_some hb
    have hnd : ∀ c, o.op ≠ .defer c := fun c hc => by
      obtain ⟨dst, op, ty, p, af, g⟩ := o
      simp only at hc; subst hc
      simp only [execOp] at h1
      rw [Sem.run_bind] at h1
      generalize (resolve a.eval c ty).run C.P w = q at h1
      cases q with
      | ok x y => simp at h1
      | halt x y => simp at h1
    rw [Oper.semAt_eq _ _ _ hnd, h1]
    exact hr τ _ w' ((h.mono τ).put h2 h4) h3
  · rename_i s1 hv
    have hop := evO'_spec h H hv
    obtain ⟨w', h1, h3⟩ := hop
    obtain ⟨fm', h4, rfl⟩ := goE_some hb
    have hnd : ∀ c, o.op ≠ .defer c := fun c hc => by
      obtain ⟨dst, op, ty, p, af, g⟩ := o
      simp only at hc; subst hc
      simp only [execOp] at h1
      rw [Sem.run_bind] at h1
      generalize (resolve a.eval c ty).run C.P w = q at h1
      cases q with
      | ok x y => simp at h1
      | halt x y => simp at h1
    rw [Oper.semAt_eq _ _ _ hnd, h1]
    exact hr [] _ w' (by rw [List.append_nil]; exact h.put (conc_undef ρ) h4) (by rw [List.append_nil]; exact h3)
  · rename_i f args hv
    have hop := evO'_spec h H hv
    obtain ⟨us, h1, h2⟩ := hop
    obtain ⟨e, s1, h3, h4⟩ := er hb
    obtain ⟨⟨fn, hfn, hbody⟩, hc⟩ := hK.fn f args s e s1 h3
    have h5 := h2 (by rw [hfn]; rfl) (fun fn' hfn' => by rw [hfn] at hfn'; cases hfn'; exact hbody)
    have hnd : ∀ c, o.op ≠ .defer c := fun c hc => by
      obtain ⟨dst, op, ty, p, af, g⟩ := o
      simp only at hc; subst hc
      simp only [execOp] at h5
      rw [Sem.run_bind] at h5
      generalize (resolve a.eval c ty).run C.P w = q at h5
      cases q with
      | ok x y => simp at h5
      | halt x y => simp at h5
    rw [Oper.semAt_eq _ _ _ hnd, h5, Oper.uponIn_enter]
    refine ⟨fun h => by simp [Fence.wide] at h, ?_⟩
    have h6 : CallsIn Fence.wide (0 - 1) C.P f us.toArray w (fun e' w' => ∃ τ, ErR (ρ ++ τ) e e' ∧ Sr C w0 D (ρ ++ τ) s1 w') := callsIn_wide.2 (hc w0 D ρ w us H h1)
    have h7 : CallsIn (Wk.Fr ro) (0 - 1) C.P f us.toArray w (fun e' w' => ∃ τ, ErR (ρ ++ τ) e e' ∧ Sr C w0 D (ρ ++ τ) s1 w') := h6
    refine CallsIn.mono h7 ?_
    rintro e' w' ⟨τ, g1, g2⟩
    cases e' <;> exact h4 τ _ w' g1 g2
  · rename_i l args hv
    cases hd : dok with
    | false => rw [hd] at hb; cases hb
    | true =>
      rw [hd, cond_true] at hb
      have hro' := hro hd
      subst hro'
      have hop := evO'_spec h H hv
      obtain ⟨l', us, h1, h2, h3⟩ := hop
      obtain ⟨e, s1, h4, h5⟩ := er hb
      obtain ⟨f, tmps, asg, body, h6, h7⟩ := hK.yl l args s e s1 h4 w0 D ρ w l' us H h1 h2
      have h8 : (execOp a.eval o).run C.P w = .ok (.round l' f tmps asg body) w := by rw [h3]; exact h6
      have hnd : ∀ c, o.op ≠ .defer c := fun c hc => by
        obtain ⟨dst, op, ty, p, af, g⟩ := o
        simp only at hc; subst hc
        simp only [execOp] at h8
        rw [Sem.run_bind] at h8
        generalize (resolve a.eval c ty).run C.P w = q at h8
        cases q with
        | ok x y => simp at h8
        | halt x y => simp at h8
      rw [Oper.semAt_eq _ _ _ hnd, h8, Oper.uponIn_round]
      refine ⟨fun h => by simp [Fence.wide] at h, ?_⟩
      refine RoundIn.mono h7 ?_
      rintro e' w' ⟨τ, g1, g2⟩
      cases e' <;> exact h5 τ _ w' g1 g2
  · rename_i d hv
    cases hd : dok with
    | false => rw [hd] at hb; cases hb
    | true =>
      rw [hd, cond_true] at hb
      have hro' := hro hd
      subst hro'
      have hop := evO'_spec h H hv
      obtain ⟨d', h1, ⟨c, hc⟩, h2⟩ := hop
      obtain ⟨fm', h4, rfl⟩ := goE_some hb
      have : (o.semAt (Wk.Fr none).round a.eval) = execOp a.eval o := Oper.semAt_none _ _
      rw [this, h2, Oper.uponIn_defer]
      refine hr [] _ w ?_ (by rw [List.append_nil]; exact H)
      rw [List.append_nil]
      refine Fr.put (fm := { fm with ds := d :: fm.ds }) (a := { a with defers := d' :: a.defers }) ⟨h.nn, h.size, h.kn, h.un, ?_⟩ (conc_undef ρ) h4
      simp only [concDs, h1, h.ds]
  · rename_i v hv
    cases hb
    have hop := evO'_spec h H hv
    obtain ⟨u, h1, ⟨x, hx⟩, h2⟩ := hop
    have hnd : ∀ c, o.op ≠ .defer c := fun c hc => by rw [hx] at hc; cases hc
    rw [Oper.semAt_eq _ _ _ hnd, h2, Oper.uponIn_panic]
    exact hr [] w _ (by rw [List.append_nil]; simp only [concCh, h1]) (by rw [List.append_nil]; exact H)
  · cases hb

/-! ### In their order -/
theorem wpListIn_mono {F : Fence} {n : Nat} {P : Program} {ops : Array Oper} {Q Q' : Post} (hq : ∀ e a w, Q e a w → Q' e a w) (hl : LetsOut Q → LetsOut Q') : ∀ {l : List Oper} {a : Act} {w : World}, wpListIn F n P ops Q l a w → wpListIn F n P ops Q' l a w
  | [], a, w, h => hq _ _ _ h
  | o :: rest, a, w, h => by
    simp only [wpListIn] at h ⊢
    split
    · rename_i hw
      rw [if_pos hw] at h
      refine ⟨h.1, ?_⟩
      have h2 := h.2
      generalize (o.semAt F.round a.eval).run P w = r at h2 ⊢
      cases r with
      | ok x w' =>
        cases x <;> simp only [Oper.uponIn] at h2 ⊢ <;>
          first
            | exact wpListIn_mono hq hl h2
            | exact ⟨h2.1, CallsIn.mono h2.2 (fun e w'' he => by cases e <;> first | exact wpListIn_mono hq hl he | exact hq _ _ _ he | exact hl he)⟩
            | exact ⟨h2.1, RowsIn.mono h2.2 (fun _ _ he => wpListIn_mono hq hl he)⟩
            | exact ⟨h2.1, RoundIn.mono h2.2 (fun e w'' he => by cases e <;> first | exact wpListIn_mono hq hl he | exact hq _ _ _ he | exact hl he)⟩
            | exact h2
      | halt x w' => cases x <;> simp only [Oper.uponIn] at h2 ⊢ <;> first | exact hq _ _ _ h2 | exact h2
    · rename_i hw
      rw [if_neg hw] at h
      exact ⟨h.1, wpListIn_mono hq hl h.2⟩
def opsE (C : Ct) (K : Cal) (dok : Bool) (ops : List Oper) : List Oper → Fm → St → Option (Ex × Fm × St)
  | [], fm, s => some (.norm, fm, s)
  | o :: rest, fm, s => match wantE ops fm o with
    | some true => (match stpE C K dok fm s o with
      | some (.go fm' s') => opsE C K dok ops rest fm' s'
      | some (.pan ch s') => some (.pan ch, fm, s')
      | none => none)
    | some false => (match fm.put o.dst undef with
      | some fm' => opsE C K dok ops rest fm' s
      | none => none)
    | none => none
theorem opsE_spec {K : Cal} (hK : CalOk C K) {dok : Bool} (hro : dok = true → ro = none) {ops : List Oper} {out : Ex × Fm × St} : ∀ {rest : List Oper} {ρ : Env} {fm : Fm} {s : St} {a : Act} {w : World}, Fr ρ N fm a → Sr C w0 D ρ s w → opsE C K dok ops rest fm s = some out →
    wpListIn (Wk.Fr ro) 0 C.P ops.toArray (PoE C w0 D ρ N out) rest a w
  | [], ρ, fm, s, a, w, h, H, hb => by
    simp only [opsE, Option.some.injEq] at hb; subst hb
    exact PoE.of rfl trivial h H
  | o :: rest, ρ, fm, s, a, w, h, H, hb => by
    simp only [opsE] at hb
    simp only [wpListIn]
    split at hb
    · rename_i hw
      rw [wantE_spec h hw, if_pos rfl]
      split at hb
      · rename_i fm' s' hs
        refine stpE_spec hK hro h H hs (fun τ a' w' h' H' => ?_)
        have ih := opsE_spec hK hro h' H' hb
        exact wpListIn_mono (fun e a w => PoE.more) (fun ⟨a, w, hq⟩ => ⟨a, w, hq.more⟩) ih
      · rename_i ch s' hs
        cases hb
        refine stpE_spec hK hro h H hs (fun τ w' ch' hc H' => ?_)
        exact PoE.pan hc (h.mono τ).x H'
      · cases hb
    · rename_i hw
      rw [wantE_spec h hw]
      split at hb
      · rename_i fm' hp
        exact ⟨fun _ _ => trivial, opsE_spec hK hro (h.put (conc_undef ρ) hp) H hb⟩
      · cases hb
    · cases hb
end
end Go.Ev

/- A statement's operations in whatever order. -/
namespace Go.Ev
open Go.Wk
set_option linter.unusedVariables false
set_option linter.unusedSimpArgs false

section
variable {ro : Option Nat} {n : Nat} {P : Program} {ops : Array Oper} {Q : Post} {S : World → Prop}

/-- Does j wait, by its own word, for all that were taken first? -/
def waitsAll (ops : Array Oper) (rec : List Nat) (j : Nat) : Bool := match ops[j]? with
  | some o => rec.all fun k => Nat.beq k j || o.after.any fun e => Region.binds .any e && Nat.beq e.on k
  | none => false
theorem waitsAll_not {rec : List Nat} {i j : Nat} {oj : Oper} (hj : ops[j]? = some oj) (hij : i ≠ j) (hnot : ∀ e ∈ oj.after, Region.binds .any e = true → e.on ≠ i) (hi : i ∈ rec) : waitsAll ops rec j = false := by
  cases h : waitsAll ops rec j with
  | false => rfl
  | true =>
    unfold waitsAll at h
    simp only [hj, List.all_eq_true, Bool.or_eq_true] at h
    rcases h i hi with h1 | h1
    · exact absurd (Nat.eq_of_beq_eq_true h1) hij
    · obtain ⟨e, he, hb⟩ := Array.any_eq_true'.1 h1
      simp only [Bool.and_eq_true] at hb
      exact absurd (Nat.eq_of_beq_eq_true hb.2) (hnot e he hb.1)
theorem waitsAll_sub {rec rec' : List Nat} (hs : ∀ i ∈ rec, i ∈ rec') {j : Nat} (h : waitsAll ops rec j = false) : waitsAll ops rec' j = false := by
  cases h' : waitsAll ops rec' j with
  | false => rfl
  | true =>
    unfold waitsAll at h h'
    split at h'
    · rename_i o ho
      rw [ho] at h
      simp only [List.all_eq_true] at h'
      have : (rec.all fun k => Nat.beq k j || o.after.any fun e => Region.binds .any e && Nat.beq e.on k) = true := List.all_eq_true.2 (fun k hk => h' k (hs k hk))
      simp only at h
      rw [this] at h; cases h
    · cases h'

/-- Whatever order is drawn from here on; what was taken first stays as it was (al), till one comes that waits for all of those. -/
def AnyR (ro : Option Nat) (n : Nat) (P : Program) (ops : Array Oper) (Q : Post) (S : World → Prop) (rec : List Nat) : Nat → Bool → Array Bool → Act → World → Prop
  | 0, al, listed, a, w => Region.ready .any ops listed = [] ∧ Q .normal a w
  | fuel + 1, al, listed, a, w =>
    (Region.ready .any ops listed = [] → Q .normal a w) ∧
    ∀ i ∈ Region.ready .any ops listed, wpOpIn (Wk.Fr ro) n P ops Q i (fun a' w' => ((al && !waitsAll ops rec i) = true → S w') ∧ AnyR ro n P ops Q S rec fuel (al && !waitsAll ops rec i) (listed.setIfInBounds i true) a' w') a w

theorem AnyR.sound {rec : List Nat} : ∀ (fuel : Nat) (al : Bool) (listed : Array Bool) (a : Act) (w : World), AnyR ro n P ops Q S rec fuel al listed a w → wpAnyIn (Wk.Fr ro) n P .any ops Q fuel listed a w
  | 0, _, _, _, _, h => h
  | fuel + 1, _, _, _, _, h => ⟨h.1, fun i hi => wpOpIn_mono (fun a' w' h' => AnyR.sound fuel _ _ a' w' h'.2) (h.2 i hi)⟩
theorem AnyR.weaken {S' : World → Prop} {rec rec' : List Nat} (hs : ∀ i ∈ rec', i ∈ rec) : ∀ (fuel : Nat) (al al' : Bool) (listed : Array Bool) (a : Act) (w : World), (al' = true → al = true ∧ ∀ w, S w → S' w) → AnyR ro n P ops Q S rec fuel al listed a w → AnyR ro n P ops Q S' rec' fuel al' listed a w
  | 0, _, _, _, _, _, _, h => h
  | fuel + 1, al, al', _, _, _, ha, h => ⟨h.1, fun i hi => wpOpIn_mono (fun a' w' h' => by
      have key : (al' && !waitsAll ops rec' i) = true → (al && !waitsAll ops rec i) = true ∧ ∀ w, S w → S' w := fun hw => by
        simp only [Bool.and_eq_true, Bool.not_eq_true'] at hw ⊢
        exact ⟨⟨(ha hw.1).1, waitsAll_sub hs hw.2⟩, (ha hw.1).2⟩
      exact ⟨fun hw => (key hw).2 _ (h'.1 (key hw).1), AnyR.weaken hs fuel _ _ _ a' w' key h'.2⟩) (h.2 i hi)⟩
theorem wpOpIn_monoQ {Q' : Post} (hq : ∀ e a w, Q e a w → Q' e a w) (hl : LetsOut Q → LetsOut Q') {i : Nat} {K : Act → World → Prop} {a : Act} {w : World} (h : wpOpIn (Wk.Fr ro) n P ops Q i K a w) : wpOpIn (Wk.Fr ro) n P ops Q' i K a w := by
  unfold wpOpIn at h ⊢
  cases ho : ops[i]? with
  | none => rw [ho] at h; exact h
  | some o =>
    rw [ho] at h
    simp only at h ⊢
    split
    · rename_i hw
      rw [if_pos hw] at h
      refine ⟨h.1, ?_⟩
      have h2 := h.2
      generalize (o.semAt (Wk.Fr ro).round a.eval).run P w = r at h2 ⊢
      cases r with
      | ok x w' =>
        cases x <;> simp only [Oper.uponIn] at h2 ⊢ <;>
          first
            | exact h2
            | exact ⟨h2.1, CallsIn.mono h2.2 (fun e w'' he => by cases e <;> first | exact he | exact hq _ _ _ he | exact hl he)⟩
            | exact ⟨h2.1, RoundIn.mono h2.2 (fun e w'' he => by cases e <;> first | exact he | exact hq _ _ _ he | exact hl he)⟩
      | halt x w' => cases x <;> simp only [Oper.uponIn] at h2 ⊢ <;> first | exact hq _ _ _ h2 | exact h2
    · rename_i hw
      rw [if_neg hw] at h
      exact h
theorem AnyR.monoQ {Q' : Post} {rec : List Nat} (hq : ∀ e a w, Q e a w → Q' e a w) (hl : LetsOut Q → LetsOut Q') : ∀ (fuel : Nat) (al : Bool) (listed : Array Bool) (a : Act) (w : World), AnyR ro n P ops Q S rec fuel al listed a w → AnyR ro n P ops Q' S rec fuel al listed a w
  | 0, _, _, _, _, h => ⟨h.1, hq _ _ _ h.2⟩
  | fuel + 1, _, _, _, _, h => ⟨fun h0 => hq _ _ _ (h.1 h0), fun i hi => wpOpIn_monoQ hq hl (wpOpIn_mono (fun a' w' h' => ⟨h'.1, AnyR.monoQ hq hl fuel _ _ a' w' h'.2⟩) (h.2 i hi))⟩

/-- A panic does not care for what d holds. -/
def Blind (Q : Post) (d : Option Nat) : Prop := ∀ c v a w, Q (.panic c) (a.put d v) w → Q (.panic c) a w

theorem opIn_putB {T : World → Prop} {i j : Nat} {oi oj : Oper} {v : Value} (hj : ops[j]? = some oj) (hap : oi.apart ops oj = true) (hsi : ∀ cs b, oi.op ≠ .select cs b) (hsj : ∀ cs b, oj.op ≠ .select cs b) (hdj : ∀ c, oj.op ≠ .defer c)
    (hQ : Blind Q oi.dst) {K : Act → World → Prop} {a : Act} {w : World} (hy : YieldsIf P ops T oi v a) (h : wpOpIn (Wk.Fr ro) n P ops Q j K (a.put oi.dst v) w) :
    wpOpIn (Wk.Fr ro) n P ops Q j (fun a' w' => YieldsIf P ops T oi v a' ∧ K (a'.put oi.dst v) w') a w := by
  obtain ⟨h1, h2, h3⟩ := Oper.apart_spec hap
  have keep : ∀ u, YieldsIf P ops T oi v (a.put oj.dst u) := fun u => hy.of_same (execOp_put oi hsi a oj.dst u h3) (wanted_put oi a oj.dst u h3)
  have comm : ∀ u, (a.put oi.dst v).put oj.dst u = (a.put oj.dst u).put oi.dst v := fun u => Act.put_comm a v u h2
  unfold wpOpIn at h ⊢
  simp only [hj] at h ⊢
  rw [wanted_put oj a oi.dst v h1] at h
  split
  · rename_i hw
    rw [if_pos hw] at h
    refine ⟨fun _ _ => trivial, ?_⟩
    have h' := h.2
    rw [Oper.semAt_eq _ _ _ hdj] at h' ⊢
    rw [execOp_put oj hsj a oi.dst v h1] at h'
    generalize (execOp a.eval oj).run P w = r at h' ⊢
    cases r with
    | halt x w' => cases x <;> simp only [Oper.uponIn] at h' ⊢; exact hQ _ _ _ _ h'
    | ok x w' =>
      cases x <;> simp only [Oper.uponIn] at h' ⊢
      case value u => exact ⟨keep u, by rw [← comm]; exact h'⟩
      case skip => exact ⟨keep _, by rw [← comm]; exact h'⟩
      case defer d =>
        refine ⟨?_, ?_⟩
        · have hd : YieldsIf P ops T oi v { a with defers := d :: a.defers } := hy.of_same rfl rfl
          exact hd.of_same (execOp_put oi hsi _ oj.dst undef h3) (wanted_put oi _ oj.dst undef h3)
        · rw [← Act.put_comm _ v undef h2, ← Act.put_defers]; exact h'
      case enter f args =>
        refine ⟨h'.1, CallsIn.mono h'.2 fun e w'' he => ?_⟩
        cases e with
        | returned u => exact ⟨keep u, by rw [← comm]; exact he⟩
        | panicked c => exact hQ _ _ _ _ he
        | outgrown => exact he
      case row row args => exact ⟨h'.1, RowsIn.mono h'.2 fun u w'' he => ⟨keep u, by rw [← comm]; exact he⟩⟩
      case round l f tmps av body =>
        refine ⟨h'.1, RoundIn.mono h'.2 fun e w'' he => ?_⟩
        cases e with
        | returned u => exact ⟨keep u, by rw [← comm]; exact he⟩
        | panicked c => exact hQ _ _ _ _ he
        | outgrown => exact he
  · rename_i hw
    rw [if_neg hw] at h
    exact ⟨fun _ _ => trivial, keep _, by rw [← comm]; exact h.2⟩
theorem yieldsIf_stepB {T : World → Prop} {i : Nat} {oi : Oper} {v : Value} {a : Act} {w : World} (hi : ops[i]? = some oi) (hd : ∀ c, oi.op ≠ .defer c) (hy : YieldsIf P ops T oi v a) (hT : T w) {K : Act → World → Prop} (h : K (a.put oi.dst v) w) :
    wpOpIn (Wk.Fr ro) n P ops Q i K a w := by
  unfold wpOpIn
  simp only [hi]
  rcases hy with ⟨hw, hv⟩ | ⟨hw, rfl⟩
  · rw [if_pos hw]
    refine ⟨fun _ _ => trivial, ?_⟩
    rw [Oper.semAt_eq _ _ _ hd, hv w hT]
    exact h
  · rw [if_neg (by simp [hw])]
    exact ⟨fun _ _ => trivial, h⟩

theorem AnyR.first {T : World → Prop} {rec : List Nat} {i : Nat} {oi : Oper} {v : Value} (hi : ops[i]? = some oi) (hns : noDS ops = true) (hQ : Blind Q oi.dst) :
    ∀ (fuel : Nat) (al : Bool) (listed : Array Bool) (a : Act) (w : World),
      ((∀ w, T w) ∨ (i ∈ rec ∧ al = true ∧ ∀ w, S w → T w)) →
      (∀ j oj, ops[j]? = some oj → j ≠ i → listed.getD j true = false → (∀ e ∈ oj.after, Region.binds .any e = true → e.on ≠ i) → oi.apart ops oj = true) →
      i ∈ Region.ready .any ops listed → YieldsIf P ops T oi v a → T w → (al = true → S w) →
      AnyR ro n P ops Q S rec fuel al (listed.setIfInBounds i true) (a.put oi.dst v) w → AnyR ro n P ops Q S rec (fuel + 1) al listed a w := by
  have hdi := (noDS_spec hns i oi hi).2
  intro fuel
  induction fuel with
  | zero =>
    intro al listed a w hT hfree hr hy hTw hSw H
    refine ⟨fun h => (by rw [h] at hr; cases hr), fun j hj => ?_⟩
    by_cases hji : j = i
    · subst hji
      refine yieldsIf_stepB hi hdi hy hTw ⟨fun hal => hSw (by simp only [Bool.and_eq_true] at hal; exact hal.1), H⟩
    · have := ready_mono hj hji
      rw [H.1] at this
      cases this
  | succ fuel ih =>
    intro al listed a w hT hfree hr hy hTw hSw H
    refine ⟨fun h => (by rw [h] at hr; cases hr), fun j hj => ?_⟩
    by_cases hji : j = i
    · subst hji
      refine yieldsIf_stepB hi hdi hy hTw ⟨fun hal => hSw (by simp only [Bool.and_eq_true] at hal; exact hal.1), ?_⟩
      exact AnyR.weaken (fun i hi => hi) _ _ _ _ _ _ (fun hal => ⟨by simp only [Bool.and_eq_true] at hal; exact hal.1, fun _ h => h⟩) H
    · have h1 := H.2 j (ready_mono hj hji)
      obtain ⟨hjun, oj, hoj, hall⟩ := mem_ready.1 hj
      have hnot : ∀ e ∈ oj.after, Region.binds .any e = true → e.on ≠ i := fun e he hb heq => by
        have h1 := hall e he hb
        have h0 := (mem_ready.1 hr).1
        rw [heq] at h1
        rcases Nat.lt_or_ge i listed.size with h' | h'
        · simp [h'] at h0 h1; rw [h0] at h1; cases h1
        · simp [Array.getElem?_eq_none h'] at h1
      obtain ⟨hs1, hd1⟩ := noDS_spec hns j oj hoj
      have h2 := opIn_putB (i := i) hoj (hfree j oj hoj hji hjun hnot) (noDS_spec hns i oi hi).1 hs1 hd1 hQ hy h1
      have hfree' : ∀ k ok, ops[k]? = some ok → k ≠ i → (listed.setIfInBounds j true).getD k true = false →
          (∀ e ∈ ok.after, Region.binds .any e = true → e.on ≠ i) → oi.apart ops ok = true := fun k ok hk hki hun hno => by
        refine hfree k ok hk hki ?_ hno
        by_cases hjk : j = k
        · subst hjk; exact hjun
        · rw [getD_set_ne true hjk] at hun; exact hun
      refine wpOpIn_mono (fun a' w' h3 => ⟨h3.2.1, ?_⟩) h2
      have hT' : (∀ w, T w) ∨ (i ∈ rec ∧ (al && !waitsAll ops rec j) = true ∧ ∀ w, S w → T w) := by
        rcases hT with h | ⟨h4, h5, h6⟩
        · exact .inl h
        · refine .inr ⟨h4, ?_, h6⟩
          rw [h5, waitsAll_not hoj (Ne.symm hji) hnot h4]; rfl
      refine ih _ (listed.setIfInBounds j true) a' w' hT' hfree' (ready_mono hr (Ne.symm hji)) h3.1 ?_ h3.2.1 ?_
      · rcases hT' with h | ⟨_, h5, h6⟩
        · exact h w'
        · exact h6 w' (h3.2.1 h5)
      · rw [Array.setIfInBounds_comm _ _ hji]
        exact h3.2.2
end
end Go.Ev

/- A region that draws its order, reckoned; code without ranges over functions. -/
namespace Go.Ev
open Go.Wk
set_option linter.unusedVariables false
set_option linter.unusedSimpArgs false

/-! ### Equal coded values -/
mutual
def beqV : Nat → Value → Value → Bool
  | 0, _, _ => false
  | f + 1, .bool a, .bool b => a == b
  | f + 1, .int j a, .int k b => decide (j = k) && decide (a = b)
  | f + 1, .string a, .string b => eqB a.data.toList b.data.toList
  | f + 1, .pointer a, .pointer b => decide (a = b)
  | f + 1, .slice a n c, .slice b m d => decide (a = b) && Nat.beq n m && Nat.beq c d
  | f + 1, .map a, .map b => decide (a = b)
  | f + 1, .nilFunc, .nilFunc => true
  | f + 1, .func (.func a) l m, .func (.func b) l' m' => Nat.beq a b && beqL f l.toList l'.toList && beqL f m.toList m'.toList
  | f + 1, .nilIface, .nilIface => true
  | f + 1, .iface t v, .iface u w => Nat.beq t u && beqV f v w
  | f + 1, .agg l, .agg m => beqL f l.toList m.toList
  | f + 1, .tuple l, .tuple m => beqL f l.toList m.toList
  | _, _, _ => false
def beqL : Nat → List Value → List Value → Bool
  | 0, _, _ => false
  | f + 1, [], [] => true
  | f + 1, v :: r, w :: t => beqV f v w && beqL f r t
  | _, _, _ => false
end
mutual
theorem beqV_eq : ∀ (f : Nat) (a b : Value), beqV f a b = true → a = b
  | 0, a, b, h => by simp [beqV] at h
  | f + 1, a, b, h => by
    unfold beqV at h
    split at h
    · cases ‹_ = 0›
    · simp at h; rw [h]
    · simp at h; rw [h.1, h.2]
    · rename_i a b _
      rw [eqB_beq, beq_toListBytes, ByteArray.toList_eq, ByteArray.toList_eq] at h
      simp only [beq_iff_eq] at h
      rw [bytes_eq h, bytes_eq (a := b) rfl]
    · simp at h; rw [h]
    · simp only [Bool.and_eq_true, decide_eq_true_eq] at h
      rw [h.1.1, Nat.eq_of_beq_eq_true h.1.2, Nat.eq_of_beq_eq_true h.2]
    · simp at h; rw [h]
    · rfl
    · simp only [Bool.and_eq_true] at h
      have e1 := beqL_eq _ _ _ h.1.2
      have e2 := beqL_eq _ _ _ h.2
      rw [Nat.eq_of_beq_eq_true h.1.1, Array.toList_inj.1 e1, Array.toList_inj.1 e2]
    · rfl
    · simp only [Bool.and_eq_true] at h
      rw [Nat.eq_of_beq_eq_true h.1, beqV_eq _ _ _ h.2]
    · rw [Array.toList_inj.1 (beqL_eq _ _ _ h)]
    · rw [Array.toList_inj.1 (beqL_eq _ _ _ h)]
    · cases h
theorem beqL_eq : ∀ (f : Nat) (a b : List Value), beqL f a b = true → a = b
  | 0, a, b, h => by simp [beqL] at h
  | f + 1, a, b, h => by
    unfold beqL at h
    split at h
    · cases ‹_ = 0›
    · rfl
    · simp only [Bool.and_eq_true] at h
      rw [beqV_eq _ _ _ h.1, beqL_eq _ _ _ h.2]
    · cases h
end

/-! ### Loads that were taken first -/
abbrev Lds := List (TypeId × Value × Value)
def SL (P : Program) (LA : Lds) : World → Prop := fun w => ∀ x ∈ LA, (Instr.loadAt x.1 x.2.1).run P w = .ok x.2.2 w
def LR (ρ : Env) : Lds → Lds → Prop
  | [], [] => True
  | (t, p, v) :: r, (t', p', v') :: r' => t = t' ∧ conc ρ p = some p' ∧ conc ρ v = some v' ∧ LR ρ r r'
  | _, _ => False
theorem LR.mono {ρ : Env} (τ : Env) : ∀ {l l' : Lds}, LR ρ l l' → LR (ρ ++ τ) l l'
  | [], [], _ => trivial
  | (t, p, v) :: r, (t', p', v') :: r', h => ⟨h.1, conc_mono τ h.2.1, conc_mono τ h.2.2.1, LR.mono τ h.2.2.2⟩
  | [], _ :: _, h => h.elim
  | _ :: _, [], h => h.elim
def againE (C : Ct) (s : St) (l : Lds) : Bool := l.all fun x => match ldE C s x.1 x.2.1 with
  | some v => beqV 200 v x.2.2
  | none => false
theorem againE_spec {C : Ct} {w0 : World} {D : Nat → Prop} {ρ : Env} {s : St} {w : World} (H : Sr C w0 D ρ s w) : ∀ {l l' : Lds}, LR ρ l l' → againE C s l = true → SL C.P l' w
  | [], [], _, _ => fun x hx => by cases hx
  | (t, p, v) :: r, (t', p', v') :: r', hl, h => by
    obtain ⟨rfl, h1, h2, h3⟩ := hl
    unfold againE at h
    simp only [List.all_cons, Bool.and_eq_true] at h
    have ih := againE_spec H h3 (by unfold againE; exact h.2)
    intro x hx
    rcases List.mem_cons.1 hx with rfl | hx
    · have h4 := h.1
      split at h4
      · rename_i u hu
        have := beqV_eq _ _ _ h4
        subst this
        obtain ⟨u', g1, g2⟩ := ldE_run H h1 hu
        rw [h2] at g1; cases g1
        exact g2
      · cases h4
    · exact ih x hx
  | [], _ :: _, hl, _ => hl.elim
  | _ :: _, [], hl, _ => hl.elim

/-! ### A region that draws -/
def eraE : List Oper → Tr Value → Option (Tr Value)
  | [], t => some t
  | o :: r, t => match o.dst with
    | none => eraE r t
    | some d => bif Nat.blt (Nat.succ d) TOP then eraE r (t.set d none) else none
theorem eraE_sub : ∀ {l : List Oper} {t t' : Tr Value}, eraE l t = some t' → ∀ i v, t'.get i = some v → t.get i = some v
  | [], t, t', h, i, v, hi => by simp only [eraE, Option.some.injEq] at h; subst h; exact hi
  | o :: r, t, t', h, i, v, hi => by
    simp only [eraE] at h
    split at h
    · exact eraE_sub h i v hi
    · rename_i d hd
      cases hb : Nat.blt (Nat.succ d) TOP with
      | false => rw [hb] at h; cases h
      | true =>
        rw [hb, cond_true] at h
        have := eraE_sub h i v hi
        rw [Tr.get_set _ hb] at this
        split at this
        · cases this
        · exact this
theorem eraE_none : ∀ {l : List Oper} {t t' : Tr Value}, eraE l t = some t' → ∀ o ∈ l, ∀ d, o.dst = some d → t'.get d = none
  | [], _, _, _, x, hx, _, _ => by cases hx
  | o :: r, t, t', h, x, hx, d, hd => by
    have hsub : ∀ {t1 : Tr Value}, eraE r t1 = some t' → t1.get d = none → t'.get d = none := fun h1 h2 => by
      cases hq : t'.get d with
      | none => rfl
      | some v => rw [eraE_sub h1 d v hq] at h2; cases h2
    simp only [eraE] at h
    split at h
    · rename_i hod
      rcases List.mem_cons.1 hx with rfl | hx
      · rw [hod] at hd; cases hd
      · exact eraE_none h x hx d hd
    · rename_i d' hod
      cases hb : Nat.blt (Nat.succ d') TOP with
      | false => rw [hb] at h; cases h
      | true =>
        rw [hb, cond_true] at h
        rcases List.mem_cons.1 hx with rfl | hx
        · rw [hod] at hd; cases hd
          exact hsub h (by rw [Tr.get_set _ hb, if_pos rfl])
        · exact eraE_none h x hx d hd

/-- What may be taken first: its value, and whether it is a load (type, address). -/
def qE (C : Ct) (ops : List Oper) (fm : Fm) (s : St) (o : Oper) : Option (Value × Option (TypeId × Value)) := match wantE ops fm o with
  | some false => some (undef, none)
  | some true => (match quiE C fm.t o with
    | some v => some (v, none)
    | none => (match o.op with
      | .load ty x => (evE fm.t x).bind fun p => (ldE C s ty p).bind fun v => some (v, some (ty, p))
      | _ => none))
  | none => none
def pkE (C : Ct) (ops : List Oper) (listed : Array Bool) (fm : Fm) (s : St) : List Nat → Option (Nat × Oper × Value × Option (TypeId × Value))
  | [] => none
  | i :: r => match (bif Region.free .any ops.toArray listed i then (ops[i]?).bind fun o => (qE C ops fm s o).bind fun q => some (i, o, q.1, q.2) else none) with
    | some x => some x
    | none => pkE C ops listed fm s r
theorem pkE_some {C : Ct} {ops : List Oper} {listed : Array Bool} {fm : Fm} {s : St} : ∀ {l : List Nat} {i : Nat} {o : Oper} {v : Value} {q : Option (TypeId × Value)}, pkE C ops listed fm s l = some (i, o, v, q) →
    i ∈ l ∧ Region.free .any ops.toArray listed i = true ∧ ops[i]? = some o ∧ qE C ops fm s o = some (v, q)
  | [], _, _, _, _, h => by simp [pkE] at h
  | i :: r, j, o, v, q, h => by
    simp only [pkE] at h
    split at h
    · rename_i x hx
      cases h
      cases hf : Region.free .any ops.toArray listed i with
      | false => rw [hf] at hx; cases hx
      | true =>
        rw [hf, cond_true] at hx
        obtain ⟨o', h1, h2⟩ := Option.bind_eq_some_iff.1 hx
        obtain ⟨q', h3, h4⟩ := Option.bind_eq_some_iff.1 h2
        cases h4
        exact ⟨List.mem_cons_self, hf, h1, h3⟩
    · obtain ⟨h1, h2⟩ := pkE_some h
      exact ⟨List.mem_cons_of_mem _ h1, h2⟩
/-! ### States held against each other -/
def beqO' {α : Type} (p : α → α → Bool) : Option α → Option α → Bool
  | none, none => true
  | some a, some b => p a b
  | _, _ => false
theorem beqO'_eq {α : Type} {p : α → α → Bool} (hp : ∀ a b, p a b = true → a = b) : ∀ {a b : Option α}, beqO' p a b = true → a = b
  | none, none, _ => rfl
  | some a, some b, h => by rw [hp a b h]
  | none, some _, h => by cases h
  | some _, none, h => by cases h
def beqT {α : Type} (p : α → α → Bool) : Tr α → Tr α → Bool
  | .e, .e => true
  | .n l v r, .n l' v' r' => beqO' p v v' && (beqT p l l' && beqT p r r')
  | _, _ => false
theorem beqT_eq {α : Type} {p : α → α → Bool} (hp : ∀ a b, p a b = true → a = b) : ∀ {a b : Tr α}, beqT p a b = true → a = b
  | .e, .e, _ => rfl
  | .n l v r, .n l' v' r', h => by
    simp only [beqT, Bool.and_eq_true] at h
    rw [beqO'_eq hp h.1, beqT_eq hp h.2.1, beqT_eq hp h.2.2]
  | .e, .n _ _ _, h => by cases h
  | .n _ _ _, .e, h => by cases h
def beqLs {α : Type} (p : α → α → Bool) : List α → List α → Bool
  | [], [] => true
  | a :: r, b :: t => p a b && beqLs p r t
  | _, _ => false
theorem beqLs_eq {α : Type} {p : α → α → Bool} (hp : ∀ a b, p a b = true → a = b) : ∀ {a b : List α}, beqLs p a b = true → a = b
  | [], [], _ => rfl
  | a :: r, b :: t, h => by
    simp only [beqLs, Bool.and_eq_true] at h
    rw [hp a b h.1, beqLs_eq hp h.2]
  | [], _ :: _, h => by cases h
  | _ :: _, [], h => by cases h
def VF : Nat := 100000
theorem beqVF (a b : Value) (h : beqV VF a b = true) : a = b := beqV_eq VF a b h
def beqLF (a b : List Value) : Bool := beqLs (beqV VF) a b
theorem beqLF_eq {a b : List Value} (h : beqLF a b = true) : a = b := beqLs_eq beqVF h
def beqME (a b : MapEntry) : Bool := beqV VF a.key b.key && (beqV VF a.val b.val && Nat.beq a.born b.born)
theorem beqME_eq (a b : MapEntry) (h : beqME a b = true) : a = b := by
  obtain ⟨k, v, n⟩ := a
  obtain ⟨k', v', n'⟩ := b
  simp only [beqME, Bool.and_eq_true] at h
  rw [beqVF _ _ h.1, beqVF _ _ h.2.1, Nat.eq_of_beq_eq_true h.2.2]
def beqDf : Deferred → Deferred → Bool
  | ⟨.fn (.func f) m, l⟩, ⟨.fn (.func f') m', l'⟩ => Nat.beq f f' && (beqLF m.toList m'.toList && beqLF l.toList l'.toList)
  | ⟨.collected r, l⟩, ⟨.collected r', l'⟩ => Nat.beq r r' && beqLF l.toList l'.toList
  | _, _ => false
theorem beqDf_eq (a b : Deferred) (h : beqDf a b = true) : a = b := by
  unfold beqDf at h
  split at h
  · simp only [Bool.and_eq_true] at h
    rw [Nat.eq_of_beq_eq_true h.1, Array.toList_inj.1 (beqLF_eq h.2.1), Array.toList_inj.1 (beqLF_eq h.2.2)]
  · simp only [Bool.and_eq_true] at h
    rw [Nat.eq_of_beq_eq_true h.1, Array.toList_inj.1 (beqLF_eq h.2)]
  · cases h
def beqOb : Obj → Obj → Bool
  | .cells l e fz, .cells l' e' fz' => Nat.beq e e' && (Nat.beq fz.1 fz'.1 && (Nat.beq fz.2 fz'.2 && beqLF l.toList l'.toList))
  | .map es c, .map es' c' => Nat.beq c c' && beqLs beqME es.toList es'.toList
  | .deferred none, .deferred none => true
  | .deferred (some l), .deferred (some l') => beqLs beqDf l l'
  | _, _ => false
theorem beqOb_eq (a b : Obj) (h : beqOb a b = true) : a = b := by
  unfold beqOb at h
  split at h
  · rename_i l e fz l' e' fz'
    simp only [Bool.and_eq_true] at h
    obtain ⟨x, y⟩ := fz
    obtain ⟨x', y'⟩ := fz'
    have h1 := Nat.eq_of_beq_eq_true h.2.1
    have h2 := Nat.eq_of_beq_eq_true h.2.2.1
    dsimp only at h1 h2
    rw [Nat.eq_of_beq_eq_true h.1, h1, h2, Array.toList_inj.1 (beqLF_eq h.2.2.2)]
  · simp only [Bool.and_eq_true] at h
    rw [Nat.eq_of_beq_eq_true h.1, Array.toList_inj.1 (beqLs_eq beqME_eq h.2)]
  · rfl
  · rw [beqLs_eq beqDf_eq h]
  · cases h
def beqS (a b : St) : Bool := Nat.beq a.n b.n && (Nat.beq a.m b.m && (beqLs Nat.beq a.rs b.rs && beqT beqOb a.h b.h))
theorem beqS_eq {a b : St} (h : beqS a b = true) : a = b := by
  obtain ⟨n, m, rs, t⟩ := a
  obtain ⟨n', m', rs', t'⟩ := b
  simp only [beqS, Bool.and_eq_true] at h
  rw [Nat.eq_of_beq_eq_true h.1, Nat.eq_of_beq_eq_true h.2.1, beqLs_eq (fun a b => Nat.eq_of_beq_eq_true) h.2.2.1, beqT_eq beqOb_eq h.2.2.2]
def beqF (a b : Fm) : Bool := Nat.beq a.N b.N && (beqT (beqV VF) a.t b.t && beqLs beqDf a.ds b.ds)
theorem beqF_eq {a b : Fm} (h : beqF a b = true) : a = b := by
  obtain ⟨n, t, ds⟩ := a
  obtain ⟨n', t', ds'⟩ := b
  simp only [beqF, Bool.and_eq_true] at h
  rw [Nat.eq_of_beq_eq_true h.1, beqT_eq beqVF h.2.1, beqLs_eq beqDf_eq h.2.2]
def beqB : Bool → Bool → Bool
  | true, true => true
  | false, false => true
  | _, _ => false
theorem beqB_eq (a b : Bool) (h : beqB a b = true) : a = b := by cases a <;> cases b <;> first | rfl | cases h
def beqPE (a b : PanicEntry) : Bool := beqV VF a.v b.v && (beqB a.recovered b.recovered && beqB a.goexit b.goexit)
theorem beqPE_eq (a b : PanicEntry) (h : beqPE a b = true) : a = b := by
  obtain ⟨v, r, g⟩ := a
  obtain ⟨v', r', g'⟩ := b
  simp only [beqPE, Bool.and_eq_true] at h
  rw [beqVF _ _ h.1, beqB_eq _ _ h.2.1, beqB_eq _ _ h.2.2]
def beqEx : Ex → Ex → Bool
  | .norm, .norm => true
  | .pan a, .pan b => beqLs beqPE a b
  | _, _ => false
theorem beqEx_eq {a b : Ex} (h : beqEx a b = true) : a = b := by
  unfold beqEx at h
  split at h
  · rfl
  · rw [beqLs_eq beqPE_eq h]
  · cases h
abbrev Ou := Ex × Fm × St
def beqOu (a b : Ou) : Bool := beqEx a.1 b.1 && (beqF a.2.1 b.2.1 && beqS a.2.2 b.2.2)
theorem beqOu_eq {a b : Ou} (h : beqOu a b = true) : a = b := by
  obtain ⟨x, f, s⟩ := a
  obtain ⟨x', f', s'⟩ := b
  simp only [beqOu, Bool.and_eq_true] at h
  have h1 := beqEx_eq h.1
  have h2 := beqF_eq h.2.1
  have h3 := beqS_eq h.2.2
  try dsimp only at h1 h2 h3
  rw [h1, h2, h3]
def beqLd (a b : TypeId × Value × Value) : Bool := Nat.beq a.1 b.1 && (beqV VF a.2.1 b.2.1 && beqV VF a.2.2 b.2.2)
theorem beqLd_eq (a b : TypeId × Value × Value) (h : beqLd a b = true) : a = b := by
  obtain ⟨t, p, v⟩ := a
  obtain ⟨t', p', v'⟩ := b
  simp only [beqLd, Bool.and_eq_true] at h
  have h1 : t = t' := Nat.eq_of_beq_eq_true h.1
  have h2 := beqVF _ _ h.2.1
  have h3 := beqVF _ _ h.2.2
  try dsimp only at h2 h3
  rw [h1, h2, h3]

/-! ### Where more than one is ready: every choice -/
/-- How far a region is. -/
structure Xs where
  f : Nat
  al : Bool
  LS : Lds
  rc : List Nat
  listed : Array Bool
  fm : Fm
  s : St
def beqX (a b : Xs) : Bool := beqLs beqB a.listed.toList b.listed.toList && (Nat.beq a.f b.f && (beqB a.al b.al && (beqLs Nat.beq a.rc b.rc && (beqLs beqLd a.LS b.LS && (beqF a.fm b.fm && beqS a.s b.s)))))
theorem beqX_eq {a b : Xs} (h : beqX a b = true) : a = b := by
  obtain ⟨f, al, LS, rec, listed, fm, s⟩ := a
  obtain ⟨f', al', LS', rec', listed', fm', s'⟩ := b
  simp only [beqX, Bool.and_eq_true] at h
  obtain ⟨h1, h2, h3, h4, h5, h6, h7⟩ := h
  rw [Array.toList_inj.1 (beqLs_eq beqB_eq h1), Nat.eq_of_beq_eq_true h2, beqB_eq _ _ h3, beqLs_eq (fun a b => Nat.eq_of_beq_eq_true) h4, beqLs_eq beqLd_eq h5, beqF_eq h6, beqS_eq h7]
def fixP (r : Nat) : Sp → Sp
  | .go fm s => .go fm (s.fixR r)
  | .pan ch s => .pan ch (s.fixR r)
def stpR (C : Ct) (K : Cal) (b i : Nat) (fm : Fm) (s : St) (o : Oper) : Option Sp := (s.takeR (Nat.add b i)).bind fun s1 => (stpE C K false fm s1 o).bind fun r => some (fixP (Nat.add b i) r)
/-- One operation of those ready. -/
def oneX (C : Ct) (K : Cal) (ops : List Oper) (b f : Nat) (x : Xs) (i : Nat) : Option (Ou ⊕ Xs) := (ops[i]?).bind fun o => match wantE ops x.fm o with
  | some true => (match stpR C K b i x.fm x.s o with
    | some (.go fm' s') => bif !(x.al && !waitsAll ops.toArray x.rc i) || againE C s' x.LS then some (.inr ⟨f, x.al && !waitsAll ops.toArray x.rc i, x.LS, x.rc, x.listed.setIfInBounds i true, fm', s'⟩) else none
    | some (.pan ch s') => (eraE ops x.fm.t).bind fun t' => some (.inl (.pan ch, { x.fm with t := t' }, s'))
    | none => none)
  | some false => (x.fm.put o.dst undef).bind fun fm' => bif !(x.al && !waitsAll ops.toArray x.rc i) || againE C x.s x.LS then some (.inr ⟨f, x.al && !waitsAll ops.toArray x.rc i, x.LS, x.rc, x.listed.setIfInBounds i true, fm', x.s⟩) else none
  | none => none
def eachX (C : Ct) (K : Cal) (ops : List Oper) (b f : Nat) (x : Xs) : List Nat → Option (List (Ou ⊕ Xs))
  | [] => some []
  | i :: r => (oneX C K ops b f x i).bind fun y => (eachX C K ops b f x r).bind fun ys => some (y :: ys)
def nxX (C : Ct) (K : Cal) (ops : List Oper) (b : Nat) (x : Xs) : Option (List (Ou ⊕ Xs)) := match Region.ready .any ops.toArray x.listed with
  | [] => some [.inl (.norm, x.fm, x.s)]
  | i0 :: rs => match x.f with
    | 0 => none
    | f + 1 => match pkE C ops x.listed x.fm x.s (i0 :: rs) with
      | some (i, o, v, none) => (x.fm.put o.dst v).bind fun fm' => some [.inr ⟨f, x.al, x.LS, x.rc, x.listed.setIfInBounds i true, fm', x.s⟩]
      | some (i, o, v, some (ty, p)) => (x.fm.put o.dst v).bind fun fm' => some [.inr ⟨f, true, (bif x.al then (ty, p, v) :: x.LS else [(ty, p, v)]), (bif x.al then i :: x.rc else [i]), x.listed.setIfInBounds i true, fm', x.s⟩]
      | none => eachX C K ops b f x (i0 :: rs)
def allX (C : Ct) (K : Cal) (ops : List Oper) (b : Nat) : List Xs → Option (List (Ou ⊕ Xs))
  | [] => some []
  | x :: r => (nxX C K ops b x).bind fun ys => (allX C K ops b r).bind fun zs => some (ys ++ zs)
/-- What has come out, if it is always the same. -/
def outsX : Option Ou → List (Ou ⊕ Xs) → Option (Option Ou)
  | o, [] => some o
  | none, .inl a :: r => outsX (some a) r
  | some b, .inl a :: r => bif beqOu a b then outsX (some b) r else none
  | o, .inr _ :: r => outsX o r
/-- Those that go on, each once. -/
def ddX : List (Ou ⊕ Xs) → List Xs
  | [] => []
  | .inl _ :: r => ddX r
  | .inr x :: r => bif (ddX r).any (beqX x) then ddX r else x :: ddX r
def bfsX (C : Ct) (K : Cal) (ops : List Oper) (b : Nat) : Nat → Option Ou → List Xs → Option Ou
  | 0, _, _ => none
  | g + 1, o, front => (allX C K ops b front).bind fun ys => (outsX o ys).bind fun o' => match ddX ys with
    | [] => o'
    | x :: r => bfsX C K ops b g o' (x :: r)
def tieE (C : Ct) (K : Cal) (ops : List Oper) (x : Xs) : Option Ou := (bfsX C K ops x.s.m (Nat.succ (Nat.succ x.f)) none [{ x with s := x.s.hold ops.length }]).bind fun o => some (o.1, o.2.1, o.2.2.dropR x.s.m ops.length)

section
variable {C : Ct} {w0 : World} {D : Nat → Prop} {N : Nat} {ro : Option Nat} {K : Cal} {ops : List Oper}

theorem outsX_spec {out : Ou} : ∀ {ys : List (Ou ⊕ Xs)} {o o' : Option Ou}, outsX o ys = some o' → (∀ q, o' = some q → q = out) → (∀ q, o = some q → q = out) ∧ ∀ a, .inl a ∈ ys → a = out
  | [], o, o', h, hq => by
    simp only [outsX, Option.some.injEq] at h; subst h
    exact ⟨hq, fun a ha => by cases ha⟩
  | .inl a :: r, none, o', h, hq => by
    simp only [outsX] at h
    obtain ⟨h1, h2⟩ := outsX_spec h hq
    refine ⟨(fun q hh => by cases hh), fun a' ha => ?_⟩
    rcases List.mem_cons.1 ha with h3 | h3
    · cases h3; exact h1 a rfl
    · exact h2 a' h3
  | .inl a :: r, some b, o', h, hq => by
    simp only [outsX] at h
    cases hb : beqOu a b with
    | false => rw [hb] at h; cases h
    | true =>
      rw [hb, cond_true] at h
      obtain ⟨h1, h2⟩ := outsX_spec h hq
      refine ⟨h1, fun a' ha => ?_⟩
      rcases List.mem_cons.1 ha with h3 | h3
      · cases h3; rw [beqOu_eq hb]; exact h1 b rfl
      · exact h2 a' h3
  | .inr x :: r, o, o', h, hq => by
    have h' : outsX o r = some o' := by cases o <;> exact h
    obtain ⟨h1, h2⟩ := outsX_spec h' hq
    refine ⟨h1, fun a' ha => ?_⟩
    rcases List.mem_cons.1 ha with h3 | h3
    · cases h3
    · exact h2 a' h3
theorem ddX_spec {p : Xs → Prop} : ∀ {ys : List (Ou ⊕ Xs)}, (∀ x ∈ ddX ys, p x) → ∀ x, .inr x ∈ ys → p x
  | [], _, x, h => by cases h
  | .inl a :: r, hp, x, h => by
    rcases List.mem_cons.1 h with h | h
    · cases h
    · exact ddX_spec (ys := r) hp x h
  | .inr y :: r, hp, x, h => by
    simp only [ddX] at hp
    cases hb : (ddX r).any (beqX y) with
    | true =>
      rw [hb, cond_true] at hp
      rcases List.mem_cons.1 h with h | h
      · cases h
        obtain ⟨z, h1, h2⟩ := List.any_eq_true.1 hb
        rw [beqX_eq h2]; exact hp z h1
      · exact ddX_spec hp x h
    | false =>
      rw [hb, cond_false] at hp
      rcases List.mem_cons.1 h with h | h
      · cases h; exact hp _ List.mem_cons_self
      · exact ddX_spec (fun z hz => hp z (List.mem_cons_of_mem _ hz)) x h

theorem blind_of {out : Ex × Fm × St} {ρ : Env} {d : Option Nat} (h : out.1.isPan = true → ∀ i, d = some i → out.2.1.t.get i = none) : Blind (PoE C w0 D ρ N out) d := by
  intro c v a w hq
  obtain ⟨τ, h1, h2, h3, h4⟩ := hq
  have hp : out.1.isPan = true := by
    cases hx : out.1 with
    | pan ch => rfl
    | _ => rw [hx] at h1; exact h1.elim
  refine ⟨τ, h1, fun _ => ?_, (fun hn => by rw [hp] at hn; cases hn), h4⟩
  have hX := h2 hp
  cases d with
  | none => exact hX
  | some d =>
    have hnone := h hp d rfl
    refine ⟨hX.nn, by have := hX.size; simpa [Act.put] using this, fun i u hi => ?_, by have := hX.ds; simpa [Act.put] using this⟩
    obtain ⟨u', g1, g2⟩ := hX.kn i u hi
    refine ⟨u', g1, ?_⟩
    have hne : i ≠ d := fun he => by rw [he, hnone] at hi; cases hi
    rw [← g2]
    simp only [Act.put, Array.getD_eq_getD_getElem?]
    rw [Array.getElem?_setIfInBounds_ne (Ne.symm hne)]

theorem anyR_false {P : Program} {n : Nat} {ops : Array Oper} {Q : Post} {S : World → Prop} {rec rec' : List Nat} : ∀ {fuel : Nat} {listed : Array Bool} {a : Act} {w : World}, AnyR ro n P ops Q S rec fuel false listed a w → AnyR ro n P ops Q S rec' fuel false listed a w
  | 0, _, _, _, h => h
  | fuel + 1, _, _, _, h => ⟨h.1, fun i hi => wpOpIn_mono (fun a' w' h' => ⟨(fun hh => by cases hh), anyR_false h'.2⟩) (h.2 i hi)⟩
/-- From here on every order comes out so. -/
def XOk (C : Ct) (w0 : World) (D : Nat → Prop) (N : Nat) (ro : Option Nat) (ops : List Oper) (out : Ou) (x : Xs) : Prop :=
  ∀ (LA : Lds) (ρ : Env) (a : Act) (w : World), Fr ρ N x.fm a → Sr C w0 D ρ x.s w → LR ρ x.LS LA → (x.al = true → SL C.P LA w) → AnyR ro 0 C.P ops.toArray (PoE C w0 D ρ N out) (SL C.P LA) x.rc x.f x.al x.listed a w

theorem stpR_spec (hK : CalOk C K) {ρ : Env} {fm : Fm} {s : St} {a : Act} {w : World} {b i : Nat} {o : Oper} {r : Sp} {Kn : Act → World → Prop} {Q : Post} (h : Fr ρ N fm a) (H : Sr C w0 D ρ s w) (hb : stpR C K b i fm s o = some r)
    (hr : SpR C w0 D ρ N Kn Q a r) : o.wpIn (Wk.Fr ro) 0 C.P a w Kn Q := by
  unfold stpR at hb
  obtain ⟨s1, h1, hb⟩ := Option.bind_eq_some_iff.1 hb
  obtain ⟨r1, h2, h3⟩ := Option.bind_eq_some_iff.1 hb
  cases h3
  refine stpE_spec hK (by intro hh; cases hh) h (H.takeR h1) h2 ?_
  cases r1 with
  | go fm' s' => exact fun τ a' w' hf hs => hr τ a' w' hf (hs.fixR _)
  | pan ch s' => exact fun τ w' ch' hc hs => hr τ w' ch' hc (hs.fixR _)
def YOk (C : Ct) (w0 : World) (D : Nat → Prop) (N : Nat) (ro : Option Nat) (ops : List Oper) (out : Ou) : Ou ⊕ Xs → Prop
  | .inl a => a = out
  | .inr x => XOk C w0 D N ro ops out x
theorem oneX_spec (hK : CalOk C K) {out : Ou} {b f i : Nat} {x : Xs} {y : Ou ⊕ Xs} {LA : Lds} {ρ : Env} {a : Act} {w : World} (h : Fr ρ N x.fm a) (H : Sr C w0 D ρ x.s w) (hL : LR ρ x.LS LA) (hS : x.al = true → SL C.P LA w)
    (hy : oneX C K ops b f x i = some y) (hok : YOk C w0 D N ro ops out y) :
    wpOpIn (Wk.Fr ro) 0 C.P ops.toArray (PoE C w0 D ρ N out) i (fun a' w' => ((x.al && !waitsAll ops.toArray x.rc i) = true → SL C.P LA w') ∧ AnyR ro 0 C.P ops.toArray (PoE C w0 D ρ N out) (SL C.P LA) x.rc f (x.al && !waitsAll ops.toArray x.rc i) (x.listed.setIfInBounds i true) a' w') a w := by
  unfold oneX at hy
  obtain ⟨o, ho, hy⟩ := Option.bind_eq_some_iff.1 hy
  have ho' : ops.toArray[i]? = some o := by simpa using ho
  split at hy
  · rename_i hw
    have hw' := wantE_spec h hw
    unfold wpOpIn
    simp only [ho', hw', if_true]
    split at hy
    · rename_i fm' s' hs
      cases hq : (!(x.al && !waitsAll ops.toArray x.rc i) || againE C s' x.LS) with
      | false => rw [hq] at hy; cases hy
      | true =>
        rw [hq, cond_true] at hy
        cases hy
        refine stpR_spec hK h H hs (fun τ a' w' h' H' => ?_)
        have hS' : (x.al && !waitsAll ops.toArray x.rc i) = true → SL C.P LA w' := fun hal => by
          rw [hal] at hq
          exact againE_spec H' (hL.mono τ) (by simpa using hq)
        exact ⟨hS', AnyR.monoQ (fun e a w => PoE.more) (fun ⟨a, w, hq⟩ => ⟨a, w, hq.more⟩) _ _ _ _ _ (hok LA _ a' w' h' H' (hL.mono τ) hS')⟩
    · rename_i ch s' hs
      obtain ⟨t', h3, h4⟩ := Option.bind_eq_some_iff.1 hy
      cases h4
      have hout : (Ex.pan ch, { x.fm with t := t' }, s') = out := hok
      refine stpR_spec hK h H hs (fun τ w' ch' hc H' => ?_)
      rw [← hout]
      refine PoE.pan hc ?_ H'
      have hx := (h.mono τ).x
      exact ⟨hx.nn, hx.size, fun i v hi => hx.kn i v (eraE_sub h3 i v hi), hx.ds⟩
    · cases hy
  · rename_i hw
    have hw' := wantE_spec h hw
    obtain ⟨fm', h5, hy⟩ := Option.bind_eq_some_iff.1 hy
    unfold wpOpIn
    simp only [ho', hw', Bool.false_eq_true, if_false]
    cases hq : (!(x.al && !waitsAll ops.toArray x.rc i) || againE C x.s x.LS) with
    | false => rw [hq] at hy; cases hy
    | true =>
      rw [hq, cond_true] at hy
      cases hy
      have hS' : (x.al && !waitsAll ops.toArray x.rc i) = true → SL C.P LA w := fun hal => hS (by simp only [Bool.and_eq_true] at hal; exact hal.1)
      exact ⟨fun _ _ => trivial, hS', hok LA ρ _ w (h.put (conc_undef ρ) h5) H hL hS'⟩
  · cases hy
theorem eachX_spec {b f : Nat} {x : Xs} : ∀ {rs : List Nat} {ys : List (Ou ⊕ Xs)}, eachX C K ops b f x rs = some ys → ∀ i ∈ rs, ∃ y ∈ ys, oneX C K ops b f x i = some y
  | [], _, _, i, hi => by cases hi
  | j :: r, ys, h, i, hi => by
    simp only [eachX] at h
    obtain ⟨y, h1, h⟩ := Option.bind_eq_some_iff.1 h
    obtain ⟨zs, h2, h⟩ := Option.bind_eq_some_iff.1 h
    cases h
    rcases List.mem_cons.1 hi with rfl | hi
    · exact ⟨y, List.mem_cons_self, h1⟩
    · obtain ⟨z, h3, h4⟩ := eachX_spec h2 i hi
      exact ⟨z, List.mem_cons_of_mem _ h3, h4⟩
/-- What is taken first, whatever else. -/
theorem pk_spec (hns : noDS ops.toArray = true) {out : Ou} (hpan : out.1.isPan = true → ∀ o ∈ ops, ∀ d, o.dst = some d → out.2.1.t.get d = none)
    {f i i0 : Nat} {al : Bool} {LS LA : Lds} {rec rs : List Nat} {listed : Array Bool} {ρ : Env} {fm fm' : Fm} {s : St} {a : Act} {w : World} {o : Oper} {v : Value} {q : Option (TypeId × Value)} (h : Fr ρ N fm a) (H : Sr C w0 D ρ s w) (hL : LR ρ LS LA) (hS : al = true → SL C.P LA w)
    (hr : Region.ready .any ops.toArray listed = i0 :: rs) (hpk : pkE C ops listed fm s (i0 :: rs) = some (i, o, v, q)) (h5 : fm.put o.dst v = some fm')
    (hok : match q with
      | none => XOk C w0 D N ro ops out ⟨f, al, LS, rec, listed.setIfInBounds i true, fm', s⟩
      | some (ty, p) => XOk C w0 D N ro ops out ⟨f, true, (bif al then (ty, p, v) :: LS else [(ty, p, v)]), (bif al then i :: rec else [i]), listed.setIfInBounds i true, fm', s⟩) :
    AnyR ro 0 C.P ops.toArray (PoE C w0 D ρ N out) (SL C.P LA) rec (f + 1) al listed a w := by
  have hblind : ∀ (i : Nat) (o : Oper), ops[i]? = some o → Blind (PoE C w0 D ρ N out) o.dst := fun i o ho => blind_of (fun hp d hd => hpan hp o (List.mem_of_getElem? ho) d hd)
  obtain ⟨h1, h2, h3, h4⟩ := pkE_some hpk
  have ho' : ops.toArray[i]? = some o := by simpa using h3
  cases q with
  | none =>
    have key : ∃ u, conc ρ v = some u ∧ YieldsIf C.P ops.toArray (fun _ => True) o u a := by
      unfold qE at h4
      split at h4
      · rename_i hw
        cases h4
        exact ⟨undef, conc_undef ρ, .inr ⟨wantE_spec h hw, rfl⟩⟩
      · rename_i hw
        split at h4
        · rename_i v' hq
          cases h4
          obtain ⟨u, g1, g2⟩ := quiE_spec h hq
          exact ⟨u, g1, .inl ⟨wantE_spec h hw, fun w _ => g2 w⟩⟩
        · split at h4
          · obtain ⟨p, _, h7⟩ := Option.bind_eq_some_iff.1 h4
            obtain ⟨v', _, h8⟩ := Option.bind_eq_some_iff.1 h7
            cases h8
          · cases h4
      · cases h4
    obtain ⟨u, hu, hy⟩ := key
    refine AnyR.first (T := fun _ => True) ho' hns (hblind i o h3) f al listed a w (.inl fun _ => trivial) (Region.free_spec ho' h2) (by rw [hr]; exact h1) hy trivial hS ?_
    exact hok LA ρ _ w (h.put hu h5) H hL hS
  | some tp =>
    obtain ⟨ty, p⟩ := tp
    dsimp only at hok
    have key : ∃ u p', conc ρ v = some u ∧ conc ρ p = some p' ∧ Region.wanted o (yielded ops.toArray a.tmps) = true ∧ (Instr.loadAt ty p').run C.P w = .ok u w ∧ ∀ w', (Instr.loadAt ty p').run C.P w' = .ok u w' → (execOp a.eval o).run C.P w' = .ok (.value u) w' := by
      unfold qE at h4
      split at h4
      · cases h4
      · rename_i hw
        split at h4
        · cases h4
        · split at h4
          · rename_i ty' x hop
            obtain ⟨p0, hp0, h7⟩ := Option.bind_eq_some_iff.1 h4
            obtain ⟨v', hv', h8⟩ := Option.bind_eq_some_iff.1 h7
            cases h8
            obtain ⟨p', hp', hep⟩ := evE_spec h hp0
            obtain ⟨u, g1, g2⟩ := ldE_run H hp' hv'
            refine ⟨u, p', g1, hp', wantE_spec h hw, g2, fun w' hl => ?_⟩
            obtain ⟨dst, op, tyo, pp, af, g⟩ := o
            simp only at hop; subst hop
            simp only [execOp, hep]
            rw [Sem.run_bind, hl]; rfl
          · cases h4
      · cases h4
    obtain ⟨u, p', hu, hp', hw, hl, hx⟩ := key
    cases al with
    | true =>
      rw [cond_true, cond_true] at hok
      have hS2 : SL C.P ((ty, p', u) :: LA) w := fun x hx' => by
        rcases List.mem_cons.1 hx' with rfl | hx'
        · exact hl
        · exact hS rfl x hx'
      refine AnyR.weaken (S := SL C.P ((ty, p', u) :: LA)) (rec := i :: rec) (fun j hj => List.mem_cons_of_mem _ hj) (f + 1) true true listed a w (fun _ => ⟨rfl, fun w hw x hx => hw x (List.mem_cons_of_mem _ hx)⟩) ?_
      refine AnyR.first (T := SL C.P ((ty, p', u) :: LA)) ho' hns (hblind i o h3) f true listed a w (.inr ⟨List.mem_cons_self, rfl, fun _ h => h⟩) (Region.free_spec ho' h2) (by rw [hr]; exact h1) (.inl ⟨hw, fun w' hw' => hx w' (hw' _ List.mem_cons_self)⟩) hS2 (fun _ => hS2) ?_
      exact hok _ ρ _ w (h.put hu h5) H ⟨rfl, hp', hu, hL⟩ (fun _ => hS2)
    | false =>
      rw [cond_false, cond_false] at hok
      have hS2 : SL C.P [(ty, p', u)] w := fun x hx' => by
        rcases List.mem_cons.1 hx' with rfl | hx'
        · exact hl
        · cases hx'
      have H2 : AnyR ro 0 C.P ops.toArray (PoE C w0 D ρ N out) (SL C.P [(ty, p', u)]) [i] (f + 1) true listed a w := by
        refine AnyR.first (T := SL C.P [(ty, p', u)]) ho' hns (hblind i o h3) f true listed a w (.inr ⟨List.mem_cons_self, rfl, fun _ h => h⟩) (Region.free_spec ho' h2) (by rw [hr]; exact h1) (.inl ⟨hw, fun w' hw' => hx w' (hw' _ List.mem_cons_self)⟩) hS2 (fun _ => hS2) ?_
        exact hok _ ρ _ w (h.put hu h5) H ⟨rfl, hp', hu, trivial⟩ (fun _ => hS2)
      have H3 : AnyR ro 0 C.P ops.toArray (PoE C w0 D ρ N out) (SL C.P LA) [] (f + 1) false listed a w := AnyR.weaken (fun j hj => by cases hj) (f + 1) true false listed a w (fun hh => by cases hh) H2
      exact anyR_false H3
theorem nxX_spec (hK : CalOk C K) (hns : noDS ops.toArray = true) {out : Ou} (hpan : out.1.isPan = true → ∀ o ∈ ops, ∀ d, o.dst = some d → out.2.1.t.get d = none) {b : Nat} {x : Xs} {ys : List (Ou ⊕ Xs)} (hb : nxX C K ops b x = some ys) (hok : ∀ y ∈ ys, YOk C w0 D N ro ops out y) : XOk C w0 D N ro ops out x := by
  intro LA ρ a w h H hL hS
  obtain ⟨f, al, LS, rec, listed, fm, s⟩ := x
  dsimp only at h H hL hS ⊢
  unfold nxX at hb
  dsimp only at hb
  split at hb
  · rename_i hr
    cases hb
    have hout : (Ex.norm, fm, s) = out := hok _ (List.mem_singleton.2 rfl)
    have hp : PoE C w0 D ρ N out .normal a w := by rw [← hout]; exact PoE.of rfl trivial h H
    cases f with
    | zero => exact ⟨hr, hp⟩
    | succ f => exact ⟨fun _ => hp, (fun i hi => by rw [hr] at hi; cases hi)⟩
  · rename_i i0 rs hr
    cases f with
    | zero => cases hb
    | succ f =>
      dsimp only at hb
      split at hb
      · rename_i i o v hpk
        obtain ⟨fm', h5, h6⟩ := Option.bind_eq_some_iff.1 hb
        cases h6
        exact pk_spec hns hpan h H hL hS hr hpk h5 (hok _ (List.mem_singleton.2 rfl))
      · rename_i i o v ty p hpk
        obtain ⟨fm', h5, h6⟩ := Option.bind_eq_some_iff.1 hb
        cases h6
        exact pk_spec hns hpan h H hL hS hr hpk h5 (hok _ (List.mem_singleton.2 rfl))
      · refine ⟨(fun h0 => by rw [hr] at h0; cases h0), fun i hi => ?_⟩
        rw [hr] at hi
        obtain ⟨y, h1, h2⟩ := eachX_spec hb i hi
        exact oneX_spec hK h H hL hS h2 (hok y h1)
theorem allX_spec {b : Nat} : ∀ {xs : List Xs} {ys : List (Ou ⊕ Xs)}, allX C K ops b xs = some ys → ∀ x ∈ xs, ∃ zs, nxX C K ops b x = some zs ∧ ∀ z ∈ zs, z ∈ ys
  | [], _, _, x, hx => by cases hx
  | y :: r, ys, h, x, hx => by
    simp only [allX] at h
    obtain ⟨us, h1, h⟩ := Option.bind_eq_some_iff.1 h
    obtain ⟨vs, h2, h⟩ := Option.bind_eq_some_iff.1 h
    cases h
    rcases List.mem_cons.1 hx with rfl | hx
    · exact ⟨us, h1, fun z hz => List.mem_append_left _ hz⟩
    · obtain ⟨zs, h3, h4⟩ := allX_spec h2 x hx
      exact ⟨zs, h3, fun z hz => List.mem_append_right _ (h4 z hz)⟩
theorem bfsX_spec (hK : CalOk C K) (hns : noDS ops.toArray = true) {out : Ou} (hpan : out.1.isPan = true → ∀ o ∈ ops, ∀ d, o.dst = some d → out.2.1.t.get d = none) {b : Nat} : ∀ {g : Nat} {o : Option Ou} {front : List Xs}, bfsX C K ops b g o front = some out →
    (∀ q, o = some q → q = out) ∧ ∀ x ∈ front, XOk C w0 D N ro ops out x
  | 0, _, _, h => by cases h
  | g + 1, o, front, h => by
    simp only [bfsX] at h
    obtain ⟨ys, h1, h⟩ := Option.bind_eq_some_iff.1 h
    obtain ⟨o', h2, h⟩ := Option.bind_eq_some_iff.1 h
    have key : (∀ q, o' = some q → q = out) ∧ ∀ x ∈ ddX ys, XOk C w0 D N ro ops out x := by
      split at h
      · rename_i hd
        subst h
        refine ⟨fun q hq => (Option.some.inj hq).symm, fun x hx => ?_⟩
        rw [hd] at hx; cases hx
      · rename_i x r hd
        obtain ⟨h3, h4⟩ := bfsX_spec hK hns hpan h
        exact ⟨h3, fun z hz => h4 z (by rw [← hd]; exact hz)⟩
    obtain ⟨h5, h6⟩ := outsX_spec h2 key.1
    refine ⟨h5, fun x hx => ?_⟩
    obtain ⟨zs, h7, h8⟩ := allX_spec h1 x hx
    refine nxX_spec hK hns hpan h7 (fun y hy => ?_)
    have hm := h8 y hy
    cases y with
    | inl a => exact h6 a hm
    | inr z => exact ddX_spec key.2 z hm
theorem oneX_pan {b f i : Nat} {x : Xs} {q : Ou} (h : oneX C K ops b f x i = some (.inl q)) : ∀ o ∈ ops, ∀ d, o.dst = some d → q.2.1.t.get d = none := by
  unfold oneX at h
  obtain ⟨o, ho, h⟩ := Option.bind_eq_some_iff.1 h
  split at h
  · split at h
    · rename_i fm' s' hs
      cases hq : (!(x.al && !waitsAll ops.toArray x.rc i) || againE C s' x.LS) with
      | false => rw [hq] at h; cases h
      | true => rw [hq, cond_true] at h; cases h
    · obtain ⟨t', h3, h4⟩ := Option.bind_eq_some_iff.1 h
      cases h4
      exact eraE_none h3
    · cases h
  · obtain ⟨fm', h5, h⟩ := Option.bind_eq_some_iff.1 h
    cases hq : (!(x.al && !waitsAll ops.toArray x.rc i) || againE C x.s x.LS) with
    | false => rw [hq] at h; cases h
    | true => rw [hq, cond_true] at h; cases h
  · cases h
/-- A panic's frame tells nothing of what the region gives. -/
def PanOk (ops : List Oper) (q : Ou) : Prop := q.1.isPan = true → ∀ o ∈ ops, ∀ d, o.dst = some d → q.2.1.t.get d = none
theorem eachX_pan {b f : Nat} {x : Xs} : ∀ {rs : List Nat} {ys : List (Ou ⊕ Xs)}, eachX C K ops b f x rs = some ys → ∀ q, .inl q ∈ ys → PanOk ops q
  | [], ys, h, q, hq => by simp only [eachX, Option.some.injEq] at h; subst h; cases hq
  | j :: r, ys, h, q, hq => by
    simp only [eachX] at h
    obtain ⟨y, h1, h⟩ := Option.bind_eq_some_iff.1 h
    obtain ⟨zs, h2, h⟩ := Option.bind_eq_some_iff.1 h
    cases h
    rcases List.mem_cons.1 hq with rfl | hq
    · exact fun _ => oneX_pan h1
    · exact eachX_pan h2 q hq
theorem nxX_pan {b : Nat} {x : Xs} {ys : List (Ou ⊕ Xs)} (h : nxX C K ops b x = some ys) (q : Ou) (hq : .inl q ∈ ys) : PanOk ops q := by
  unfold nxX at h
  split at h
  · cases h
    have := List.mem_singleton.1 hq
    cases this
    intro hp; cases hp
  · split at h
    · cases h
    · split at h
      · obtain ⟨fm', h5, h6⟩ := Option.bind_eq_some_iff.1 h
        cases h6
        have := List.mem_singleton.1 hq
        cases this
      · obtain ⟨fm', h5, h6⟩ := Option.bind_eq_some_iff.1 h
        cases h6
        have := List.mem_singleton.1 hq
        cases this
      · exact eachX_pan h q hq
theorem allX_pan {b : Nat} : ∀ {xs : List Xs} {ys : List (Ou ⊕ Xs)}, allX C K ops b xs = some ys → ∀ q, .inl q ∈ ys → PanOk ops q
  | [], ys, h, q, hq => by simp only [allX, Option.some.injEq] at h; subst h; cases hq
  | y :: r, ys, h, q, hq => by
    simp only [allX] at h
    obtain ⟨us, h1, h⟩ := Option.bind_eq_some_iff.1 h
    obtain ⟨vs, h2, h⟩ := Option.bind_eq_some_iff.1 h
    cases h
    rcases List.mem_append.1 hq with hq | hq
    · exact nxX_pan h1 q hq
    · exact allX_pan h2 q hq
theorem outsX_from : ∀ {ys : List (Ou ⊕ Xs)} {o : Option Ou} {q : Ou}, outsX o ys = some (some q) → o = some q ∨ .inl q ∈ ys
  | [], o, q, h => by simp only [outsX, Option.some.injEq] at h; exact .inl h
  | .inl a :: r, none, q, h => by
    simp only [outsX] at h
    rcases outsX_from h with h1 | h1
    · cases h1; exact .inr List.mem_cons_self
    · exact .inr (List.mem_cons_of_mem _ h1)
  | .inl a :: r, some b, q, h => by
    simp only [outsX] at h
    cases hb : beqOu a b with
    | false => rw [hb] at h; cases h
    | true =>
      rw [hb, cond_true] at h
      rcases outsX_from h with h1 | h1
      · exact .inl h1
      · exact .inr (List.mem_cons_of_mem _ h1)
  | .inr x :: r, o, q, h => by
    have h' : outsX o r = some (some q) := by cases o <;> exact h
    rcases outsX_from h' with h1 | h1
    · exact .inl h1
    · exact .inr (List.mem_cons_of_mem _ h1)
theorem bfsX_pan {b : Nat} : ∀ {g : Nat} {o : Option Ou} {front : List Xs} {out : Ou}, bfsX C K ops b g o front = some out → (∀ q, o = some q → PanOk ops q) → PanOk ops out
  | 0, _, _, _, h, _ => by cases h
  | g + 1, o, front, out, h, ho => by
    simp only [bfsX] at h
    obtain ⟨ys, h1, h⟩ := Option.bind_eq_some_iff.1 h
    obtain ⟨o', h2, h⟩ := Option.bind_eq_some_iff.1 h
    have ho' : ∀ q, o' = some q → PanOk ops q := fun q hq => by
      subst hq
      rcases outsX_from h2 with h3 | h3
      · exact ho q h3
      · exact allX_pan h1 q h3
    split at h
    · exact ho' out h
    · exact bfsX_pan h ho'
theorem tieE_pan {x : Xs} {out : Ou} (h : tieE C K ops x = some out) : PanOk ops out := by
  unfold tieE at h
  obtain ⟨o, h1, h2⟩ := Option.bind_eq_some_iff.1 h
  cases h2
  have hp : PanOk ops o := bfsX_pan (o := none) h1 (fun q hq => by cases hq)
  exact hp
theorem tieE_spec (hK : CalOk C K) (hns : noDS ops.toArray = true) {x : Xs} {out : Ou} (h : tieE C K ops x = some out) : XOk C w0 D N ro ops out x := by
  unfold tieE at h
  obtain ⟨o, h1, h2⟩ := Option.bind_eq_some_iff.1 h
  cases h2
  have hp := bfsX_pan (o := none) h1 (fun q hq => by cases hq)
  have h3 := (bfsX_spec (w0 := w0) (D := D) (N := N) (ro := ro) hK hns hp h1).2 _ (List.mem_singleton.2 rfl)
  intro LA ρ a w hf H hL hS
  have h4 := h3 LA ρ a w hf (H.hold _) hL hS
  have dr : ∀ (e : Exit) (a : Act) (w : World), PoE C w0 D ρ N o e a w → PoE C w0 D ρ N (o.1, o.2.1, o.2.2.dropR x.s.m ops.length) e a w := by
    rintro e a w ⟨τ, q1, q2, q3, q4⟩
    exact ⟨τ, q1, q2, q3, q4.dropR _ _⟩
  exact AnyR.monoQ dr (fun ⟨a, w, hq⟩ => ⟨a, w, dr _ a w hq⟩) _ _ _ _ _ h4
end

def drwE (C : Ct) (K : Cal) (ops : List Oper) : Nat → Bool → Lds → List Nat → Array Bool → Fm → St → Option (Ex × Fm × St)
  | 0, al, LS, rec, listed, fm, s => match Region.ready .any ops.toArray listed with
    | [] => some (.norm, fm, s)
    | _ :: _ => none
  | f + 1, al, LS, rec, listed, fm, s => match Region.ready .any ops.toArray listed with
    | [] => some (.norm, fm, s)
    | i0 :: rs => match pkE C ops listed fm s (i0 :: rs) with
      | some (i, o, v, none) => (fm.put o.dst v).bind fun fm' => drwE C K ops f al LS rec (listed.setIfInBounds i true) fm' s
      | some (i, o, v, some (ty, p)) => (fm.put o.dst v).bind fun fm' => drwE C K ops f true (bif al then (ty, p, v) :: LS else [(ty, p, v)]) (bif al then i :: rec else [i]) (listed.setIfInBounds i true) fm' s
      | none => (match rs with
        | [] => (ops[i0]?).bind fun o => (match wantE ops fm o with
          | some true => (match stpE C K false fm s o with
            | some (.go fm' s') => bif !(al && !waitsAll ops.toArray rec i0) || againE C s' LS then drwE C K ops f (al && !waitsAll ops.toArray rec i0) LS rec (listed.setIfInBounds i0 true) fm' s' else none
            | some (.pan ch s') => (eraE ops fm.t).bind fun t' => some (.pan ch, { fm with t := t' }, s')
            | none => none)
          | _ => none)
        | _ :: _ => tieE C K ops ⟨Nat.succ f, al, LS, rec, listed, fm, s⟩)

section
variable {C : Ct} {w0 : World} {D : Nat → Prop} {N : Nat} {ro : Option Nat} {K : Cal} {ops : List Oper}

theorem drwE_pan : ∀ {f : Nat} {al : Bool} {LS : Lds} {rec : List Nat} {listed : Array Bool} {fm : Fm} {s : St} {x : Ex} {fm' : Fm} {s' : St}, drwE C K ops f al LS rec listed fm s = some (x, fm', s') → x.isPan = true → ∀ o ∈ ops, ∀ d, o.dst = some d → fm'.t.get d = none
  | 0, al, LS, rec, listed, fm, s, x, fm', s', h, hp => by
    simp only [drwE] at h
    split at h
    · cases h; cases hp
    · cases h
  | f + 1, al, LS, rec, listed, fm, s, x, fm', s', h, hp => by
    simp only [drwE] at h
    split at h
    · cases h; cases hp
    · split at h
      · obtain ⟨fm1, _, h2⟩ := Option.bind_eq_some_iff.1 h; exact drwE_pan h2 hp
      · obtain ⟨fm1, _, h2⟩ := Option.bind_eq_some_iff.1 h; exact drwE_pan h2 hp
      · split at h
        · obtain ⟨o, _, h2⟩ := Option.bind_eq_some_iff.1 h
          split at h2
          · split at h2
            · rename_i fm1 s1 _
              cases hq : (!(al && !waitsAll ops.toArray rec _) || againE C s1 LS) with
              | false => rw [hq] at h2; cases h2
              | true => rw [hq, cond_true] at h2; exact drwE_pan h2 hp
            · obtain ⟨t', h3, h4⟩ := Option.bind_eq_some_iff.1 h2
              cases h4
              exact eraE_none h3
            · cases h2
          · cases h2
        · exact tieE_pan h hp

theorem drwE_spec (hK : CalOk C K) (hns : noDS ops.toArray = true) {out : Ex × Fm × St} : ∀ {f : Nat} {al : Bool} {LS LA : Lds} {rec : List Nat} {listed : Array Bool} {ρ : Env} {fm : Fm} {s : St} {a : Act} {w : World}, Fr ρ N fm a → Sr C w0 D ρ s w → LR ρ LS LA → (al = true → SL C.P LA w) →
    drwE C K ops f al LS rec listed fm s = some out → AnyR ro 0 C.P ops.toArray (PoE C w0 D ρ N out) (SL C.P LA) rec f al listed a w
  | 0, al, LS, LA, rec, listed, ρ, fm, s, a, w, h, H, hL, hS, hb => by
    simp only [drwE] at hb
    split at hb
    · rename_i hr
      cases hb
      exact ⟨hr, PoE.of rfl trivial h H⟩
    · cases hb
  | f + 1, al, LS, LA, rec, listed, ρ, fm, s, a, w, h, H, hL, hS, hb => by
    have hb0 := hb
    simp only [drwE] at hb
    split at hb
    · rename_i hr
      cases hb
      exact ⟨fun _ => PoE.of rfl trivial h H, (fun i hi => by rw [hr] at hi; cases hi)⟩
    · rename_i i0 rs hr
      have hblind : ∀ (i : Nat) (o : Oper), ops[i]? = some o → Blind (PoE C w0 D ρ N out) o.dst := fun i o ho => by
        refine blind_of (fun hp d hd => ?_)
        obtain ⟨x, fm', s'⟩ := out
        exact drwE_pan hb0 hp o (List.mem_of_getElem? ho) d hd
      split at hb
      · -- taken first, needs no memory
        rename_i i o v hpk
        obtain ⟨h1, h2, h3, h4⟩ := pkE_some hpk
        obtain ⟨fm', h5, h6⟩ := Option.bind_eq_some_iff.1 hb
        have ho' : ops.toArray[i]? = some o := by simpa using h3
        have key : ∃ u, conc ρ v = some u ∧ YieldsIf C.P ops.toArray (fun _ => True) o u a := by
          unfold qE at h4
          split at h4
          · rename_i hw
            cases h4
            exact ⟨undef, conc_undef ρ, .inr ⟨wantE_spec h hw, rfl⟩⟩
          · rename_i hw
            split at h4
            · rename_i v' hq
              cases h4
              obtain ⟨u, g1, g2⟩ := quiE_spec h hq
              exact ⟨u, g1, .inl ⟨wantE_spec h hw, fun w _ => g2 w⟩⟩
            · split at h4
              · obtain ⟨p, _, h7⟩ := Option.bind_eq_some_iff.1 h4
                obtain ⟨v', _, h8⟩ := Option.bind_eq_some_iff.1 h7
                cases h8
              · cases h4
          · cases h4
        obtain ⟨u, hu, hy⟩ := key
        refine AnyR.first (T := fun _ => True) ho' hns (hblind i o h3) f al listed a w (.inl fun _ => trivial) (Region.free_spec ho' h2) (by rw [hr]; exact h1) hy trivial hS ?_
        exact drwE_spec hK hns (h.put hu h5) H hL hS h6
      · -- a load taken first
        rename_i i o v ty p hpk
        obtain ⟨h1, h2, h3, h4⟩ := pkE_some hpk
        obtain ⟨fm', h5, h6⟩ := Option.bind_eq_some_iff.1 hb
        have ho' : ops.toArray[i]? = some o := by simpa using h3
        have key : ∃ u p', conc ρ v = some u ∧ conc ρ p = some p' ∧ Region.wanted o (yielded ops.toArray a.tmps) = true ∧ (Instr.loadAt ty p').run C.P w = .ok u w ∧ ∀ w', (Instr.loadAt ty p').run C.P w' = .ok u w' → (execOp a.eval o).run C.P w' = .ok (.value u) w' := by
          unfold qE at h4
          split at h4
          · cases h4
          · rename_i hw
            split at h4
            · cases h4
            · split at h4
              · rename_i ty' x hop
                obtain ⟨p0, hp0, h7⟩ := Option.bind_eq_some_iff.1 h4
                obtain ⟨v', hv', h8⟩ := Option.bind_eq_some_iff.1 h7
                cases h8
                obtain ⟨p', hp', hep⟩ := evE_spec h hp0
                obtain ⟨u, g1, g2⟩ := ldE_run H hp' hv'
                refine ⟨u, p', g1, hp', wantE_spec h hw, g2, fun w' hl => ?_⟩
                obtain ⟨dst, op, tyo, pp, af, g⟩ := o
                simp only at hop; subst hop
                simp only [execOp, hep]
                rw [Sem.run_bind, hl]; rfl
              · cases h4
          · cases h4
        obtain ⟨u, p', hu, hp', hw, hl, hx⟩ := key
        cases al with
        | true =>
          rw [cond_true, cond_true] at h6
          have hS2 : SL C.P ((ty, p', u) :: LA) w := fun x hx' => by
            rcases List.mem_cons.1 hx' with rfl | hx'
            · exact hl
            · exact hS rfl x hx'
          refine AnyR.weaken (S := SL C.P ((ty, p', u) :: LA)) (rec := i :: rec) (fun j hj => List.mem_cons_of_mem _ hj) (f + 1) true true listed a w (fun _ => ⟨rfl, fun w hw x hx => hw x (List.mem_cons_of_mem _ hx)⟩) ?_
          refine AnyR.first (T := SL C.P ((ty, p', u) :: LA)) ho' hns (hblind i o h3) f true listed a w (.inr ⟨List.mem_cons_self, rfl, fun _ h => h⟩) (Region.free_spec ho' h2) (by rw [hr]; exact h1) (.inl ⟨hw, fun w' hw' => hx w' (hw' _ List.mem_cons_self)⟩) hS2 (fun _ => hS2) ?_
          exact drwE_spec (LS := (ty, p, v) :: LS) hK hns (h.put hu h5) H ⟨rfl, hp', hu, hL⟩ (fun _ => hS2) h6
        | false =>
          rw [cond_false, cond_false] at h6
          have hS2 : SL C.P [(ty, p', u)] w := fun x hx' => by
            rcases List.mem_cons.1 hx' with rfl | hx'
            · exact hl
            · cases hx'
          have H2 : AnyR ro 0 C.P ops.toArray (PoE C w0 D ρ N out) (SL C.P [(ty, p', u)]) [i] (f + 1) true listed a w := by
            refine AnyR.first (T := SL C.P [(ty, p', u)]) ho' hns (hblind i o h3) f true listed a w (.inr ⟨List.mem_cons_self, rfl, fun _ h => h⟩) (Region.free_spec ho' h2) (by rw [hr]; exact h1) (.inl ⟨hw, fun w' hw' => hx w' (hw' _ List.mem_cons_self)⟩) hS2 (fun _ => hS2) ?_
            exact drwE_spec (LS := [(ty, p, v)]) hK hns (h.put hu h5) H ⟨rfl, hp', hu, trivial⟩ (fun _ => hS2) h6
          have H3 : AnyR ro 0 C.P ops.toArray (PoE C w0 D ρ N out) (SL C.P LA) [] (f + 1) false listed a w := AnyR.weaken (fun j hj => by cases hj) (f + 1) true false listed a w (fun hh => by cases hh) H2
          exact anyR_false H3
      · split at hb
        · obtain ⟨o, ho, hb⟩ := Option.bind_eq_some_iff.1 hb
          have ho' : ops.toArray[i0]? = some o := by simpa using ho
          have one : ∀ {Q' : Post}, wpOpIn (Wk.Fr ro) 0 C.P ops.toArray Q' i0 (fun a' w' => ((al && !waitsAll ops.toArray rec i0) = true → SL C.P LA w') ∧ AnyR ro 0 C.P ops.toArray Q' (SL C.P LA) rec f (al && !waitsAll ops.toArray rec i0) (listed.setIfInBounds i0 true) a' w') a w → AnyR ro 0 C.P ops.toArray Q' (SL C.P LA) rec (f + 1) al listed a w := fun hh =>
            ⟨(fun h0 => by rw [hr] at h0; cases h0), (fun j hj => by
              rw [hr] at hj
              have : j = i0 := by simpa using hj
              subst this; exact hh)⟩
          split at hb
          · rename_i hw
            have hw' := wantE_spec h hw
            refine one ?_
            unfold wpOpIn
            simp only [ho', hw', if_true]
            split at hb
            · rename_i fm' s' hs
              cases hq : (!(al && !waitsAll ops.toArray rec i0) || againE C s' LS) with
              | false => rw [hq] at hb; cases hb
              | true =>
                rw [hq, cond_true] at hb
                refine stpE_spec hK (by intro hh; cases hh) h H hs (fun τ a' w' h' H' => ?_)
                have hS' : (al && !waitsAll ops.toArray rec i0) = true → SL C.P LA w' := fun hal => by
                  rw [hal] at hq
                  exact againE_spec H' (hL.mono τ) (by simpa using hq)
                exact ⟨hS', AnyR.monoQ (fun e a w => PoE.more) (fun ⟨a, w, hq⟩ => ⟨a, w, hq.more⟩) _ _ _ _ _ (drwE_spec hK hns h' H' (hL.mono τ) hS' hb)⟩
            · rename_i ch s' hs
              obtain ⟨t', h3, h4⟩ := Option.bind_eq_some_iff.1 hb
              cases h4
              refine stpE_spec hK (by intro hh; cases hh) h H hs (fun τ w' ch' hc H' => ?_)
              refine PoE.pan hc ?_ H'
              have hx := (h.mono τ).x
              exact ⟨hx.nn, hx.size, fun i v hi => hx.kn i v (eraE_sub h3 i v hi), hx.ds⟩
            · cases hb
          · cases hb
        · exact tieE_spec hK hns hb LA ρ a w h H hL hS
end
end Go.Ev
