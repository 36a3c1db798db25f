/-
  A statement's operations, in their order and in whatever order.
-/
import Derived.Test.YthiehhglnaiohaaGreatDoorE12
import Derived.OrdersIn
import Derived.OrdersHeld
namespace Go.Ev
open Go.Wk
set_option linter.unusedVariables false
set_option linter.unusedSimpArgs false

/-! ### How code ends -/
inductive Ex where
  | norm
  | exit (id : Nat)
  | goto (l : Nat)
  | ret
  | pan (ch : List PanicEntry)
inductive Er where
  | ret (v : Value)
  | pan (ch : List PanicEntry)
def concCh (ρ : Env) : List PanicEntry → Option (List PanicEntry)
  | [] => some []
  | e :: r => match conc ρ e.v, concCh ρ r with
    | some v, some r' => some ({ e with v := v } :: r')
    | _, _ => none
theorem concCh_mono {ρ : Env} (τ : Env) : ∀ {l us : List PanicEntry}, concCh ρ l = some us → concCh (ρ ++ τ) l = some us
  | [], _, h => by simpa [concCh] using h
  | e :: r, us, h => by
    simp only [concCh] at h ⊢
    split at h
    · rename_i h1 h2
      rw [conc_mono τ h1, concCh_mono τ h2]; exact h
    · cases h
def ExR (ρ : Env) : Ex → Exit → Prop
  | .norm, .normal => True
  | .exit i, .exit j => i = j
  | .goto i, .goto j => i = j
  | .ret, .ret => True
  | .pan ch, .panic ch' => concCh ρ ch = some ch'
  | _, _ => False
def ErR (ρ : Env) : Er → Ending → Prop
  | .ret v, .returned u => conc ρ v = some u
  | .pan ch, .panicked ch' => concCh ρ ch = some ch'
  | _, _ => False
def Ex.isPan : Ex → Bool
  | .pan _ => true
  | _ => false
/-- What is known of a frame that panics. -/
structure FrX (ρ : Env) (N : Nat) (fm : Fm) (a : Act) : Prop where
  nn : fm.N = N
  size : a.tmps.size = N
  kn : ∀ i v, fm.t.get i = some v → ∃ u, conc ρ v = some u ∧ a.tmps.getD i undef = u
  ds : concDs ρ fm.ds = some a.defers
theorem Fr.x {ρ : Env} {N : Nat} {fm : Fm} {a : Act} (h : Fr ρ N fm a) : FrX ρ N fm a := ⟨h.nn, h.size, h.kn, h.ds⟩
def PoE (C : Ct) (w0 : World) (D : Nat → Prop) (ρ : Env) (N : Nat) (out : Ex × Fm × St) : Exit → Act → World → Prop := fun e a w =>
  ∃ τ, ExR (ρ ++ τ) out.1 e ∧ (out.1.isPan = true → FrX (ρ ++ τ) N out.2.1 a) ∧ (out.1.isPan = false → Fr (ρ ++ τ) N out.2.1 a) ∧ Sr C w0 D (ρ ++ τ) out.2.2 w
theorem PoE.more {C : Ct} {w0 : World} {D : Nat → Prop} {ρ τ : Env} {N : Nat} {out : Ex × Fm × St} {e : Exit} {a : Act} {w : World} (h : PoE C w0 D (ρ ++ τ) N out e a w) : PoE C w0 D ρ N out e a w := by
  obtain ⟨σ, h1, h2, h3, h4⟩ := h
  rw [List.append_assoc] at h1 h2 h3 h4
  exact ⟨τ ++ σ, h1, h2, h3, h4⟩

theorem PoE.of {C : Ct} {w0 : World} {D : Nat → Prop} {ρ : Env} {N : Nat} {x : Ex} {fm : Fm} {s : St} {e : Exit} {a : Act} {w : World} (hx : x.isPan = false) (he : ExR ρ x e) (h : Fr ρ N fm a) (H : Sr C w0 D ρ s w) : PoE C w0 D ρ N (x, fm, s) e a w :=
  ⟨[], by rw [List.append_nil]; exact he, (fun hp => by rw [hx] at hp; cases hp), (fun _ => by rw [List.append_nil]; exact h), by rw [List.append_nil]; exact H⟩
theorem PoE.pan {C : Ct} {w0 : World} {D : Nat → Prop} {ρ τ : Env} {N : Nat} {ch ch' : List PanicEntry} {fm : Fm} {s : St} {a : Act} {w : World} (he : concCh (ρ ++ τ) ch = some ch') (h : FrX (ρ ++ τ) N fm a) (H : Sr C w0 D (ρ ++ τ) s w) : PoE C w0 D ρ N (.pan ch, fm, s) (.panic ch') a w :=
  ⟨τ, he, (fun _ => h), (fun hp => by cases hp), H⟩

/-- Functions and rounds, as they are reckoned. -/
structure Cal where
  fn : FuncId → List Value → St → Option (Er × St)
  yl : Nat → List Value → St → Option (Er × St)
structure CalOk (C : Ct) (K : Cal) : Prop where
  fn : ∀ f args s r s', K.fn f args s = some (r, s') → (∃ fn, C.ft.get f = some fn ∧ fn.body.isSome = true) ∧ ∀ w0 D ρ w us, Sr C w0 D ρ s w → concs ρ args = some us → Calls C.P f us.toArray w (fun e w' => ∃ τ, ErR (ρ ++ τ) r e ∧ Sr C w0 D (ρ ++ τ) s' w')
  yl : ∀ l args s r s', K.yl l args s = some (r, s') → ∀ w0 D ρ w l' us, Sr C w0 D ρ s w → cad ρ l = some l' → concs ρ args = some us →
    ∃ f tmps assign body, (Instr.yield l' us.toArray).run C.P w = .ok (.round l' f tmps assign body) w ∧ RoundIn (Wk.Fr none) 0 C.P l' f tmps assign body w (fun e w' => ∃ τ, ErR (ρ ++ τ) r e ∧ Sr C w0 D (ρ ++ τ) s' w')

/-! ### One step -/
def wantE (ops : List Oper) (fm : Fm) (o : Oper) : Option Bool := match o.guard with
  | none => some true
  | some (j, want) => match (ops[j]?).bind (·.dst) with
    | some t => bif Nat.blt t fm.N then (match fm.t.get t with
      | some (.bool b) => some (b == want)
      | some (.tuple _) => some false
      | _ => none) else none
    | none => none
theorem wantE_spec {ρ : Env} {N : Nat} {fm : Fm} {a : Act} {ops : List Oper} {o : Oper} {b : Bool} (h : Fr ρ N fm a) (hw : wantE ops fm o = some b) : Region.wanted o (yielded ops.toArray a.tmps) = b := by
  unfold wantE at hw
  cases hg : o.guard with
  | none => rw [hg] at hw; cases hw; simp [Region.wanted, hg]
  | some q =>
    obtain ⟨j, want⟩ := q
    rw [hg] at hw
    simp only at hw
    split at hw
    · rename_i t ht
      cases hb : Nat.blt t fm.N with
      | false => rw [hb] at hw; cases hw
      | true =>
        rw [hb, cond_true] at hw
        have hlt : t < a.tmps.size := by rw [h.size, ← h.nn]; exact Nat.lt_of_lt_of_le (Nat.lt_succ_self t) (Nat.le_of_ble_eq_true hb)
        have ht' : ((ops.toArray)[j]?).bind (·.dst) = some t := by simpa using ht
        split at hw
        · rename_i c hc
          cases hw
          obtain ⟨u, hu, hau⟩ := h.kn _ _ hc
          simp only [conc, Option.some.injEq] at hu; subst hu
          have hv : a.tmps[t]? = some (.bool c) := by
            rw [Array.getD_eq_getD_getElem?, Array.getElem?_eq_getElem hlt, Option.getD_some] at hau
            rw [Array.getElem?_eq_getElem hlt, hau]
          simp only [Region.wanted, hg, yielded, ht', Option.bind_some, hv]
          cases c <;> cases want <;> rfl
        · rename_i l hc
          cases hw
          obtain ⟨u, hu, hau⟩ := h.kn _ _ hc
          simp only [conc, Option.map_eq_some_iff] at hu
          obtain ⟨l', _, rfl⟩ := hu
          have hv : a.tmps[t]? = some (.tuple l') := by
            rw [Array.getD_eq_getD_getElem?, Array.getElem?_eq_getElem hlt, Option.getD_some] at hau
            rw [Array.getElem?_eq_getElem hlt, hau]
          simp only [Region.wanted, hg, yielded, ht', Option.bind_some, hv]
          rfl
        · cases hw
    · cases hw
theorem conc_undef (ρ : Env) : conc ρ undef = some undef := conc_tuple (l := []) (l' := []) (concs_nil ρ)

/-- What one step leads to. -/
inductive Sp where
  | go (fm : Fm) (s : St)
  | pan (ch : List PanicEntry) (s : St)
def goE (s : St) : Option Fm → Option Sp
  | some fm => some (.go fm s)
  | none => none
def erE (fm : Fm) (d : Option Nat) : Option (Er × St) → Option Sp
  | some (.ret v, s) => goE s (fm.put d v)
  | some (.pan ch, s) => some (.pan ch s)
  | none => none
def stpE (C : Ct) (K : Cal) (dok : Bool) (fm : Fm) (s : St) (o : Oper) : Option Sp := match evO' C fm.t s o with
  | some (.val v s') => goE s' (fm.put o.dst v)
  | some (.skip s') => goE s' (fm.put o.dst undef)
  | some (.ent f args) => erE fm o.dst (K.fn f args s)
  | some (.rnd l args) => bif dok then erE fm o.dst (K.yl l args s) else none
  | some (.dfr d) => bif dok then goE s (Fm.put { fm with ds := d :: fm.ds } o.dst undef) else none
  | some (.pan v) => some (.pan [{ v := v, recovered := false }] s)
  | none => none
theorem goE_some {s : St} {q : Option Fm} {r : Sp} (h : goE s q = some r) : ∃ fm, q = some fm ∧ r = .go fm s := by
  unfold goE at h
  split at h
  · cases h; exact ⟨_, rfl, rfl⟩
  · cases h
/-- What must hold behind a step. -/
def SpR (C : Ct) (w0 : World) (D : Nat → Prop) (ρ : Env) (N : Nat) (K : Act → World → Prop) (Q : Post) (a : Act) : Sp → Prop
  | .go fm s => ∀ τ a' w', Fr (ρ ++ τ) N fm a' → Sr C w0 D (ρ ++ τ) s w' → K a' w'
  | .pan ch s => ∀ τ w' ch', concCh (ρ ++ τ) ch = some ch' → Sr C w0 D (ρ ++ τ) s w' → Q (.panic ch') a w'

section
variable {C : Ct} {w0 : World} {D : Nat → Prop} {ρ : Env} {s s' : St} {w : World} {N : Nat} {fm : Fm} {a : Act} {ro : Option Nat}

theorem stpE_spec {K : Cal} (hK : CalOk C K) {dok : Bool} {o : Oper} {r : Sp} {Kn : Act → World → Prop} {Q : Post} (hro : dok = true → ro = none) (h : Fr ρ N fm a) (H : Sr C w0 D ρ s w) (hb : stpE C K dok fm s o = some r)
    (hr : SpR C w0 D ρ N Kn Q a r) : o.wpIn (Wk.Fr ro) 0 C.P a w Kn Q := by
  refine ⟨fun _ _ => trivial, ?_⟩
  have er : ∀ {q : Option (Er × St)}, erE fm o.dst q = some r → ∃ e s1, q = some (e, s1) ∧ ∀ τ e' w', ErR (ρ ++ τ) e e' → Sr C w0 D (ρ ++ τ) s1 w' → (match e' with | .returned v => Kn (a.put o.dst v) w' | .panicked chain => Q (.panic chain) a w' | .outgrown => LetsOut Q) := by
    intro q hq
    unfold erE at hq
    split at hq
    · rename_i v s1
      obtain ⟨fm', h1, rfl⟩ := goE_some hq
      refine ⟨_, _, rfl, fun τ e' w' he hs => ?_⟩
      cases e' with
      | returned u => exact hr τ _ w' ((h.mono τ).put he h1) hs
      | _ => exact he.elim
    · rename_i ch s1
      cases hq
      refine ⟨_, _, rfl, fun τ e' w' he hs => ?_⟩
      cases e' with
      | panicked ch' => exact hr τ w' ch' he hs
      | _ => exact he.elim
    · cases hq
  unfold stpE at hb
  split at hb
  · rename_i v s1 hv
    have hop := evO'_spec h H hv
    obtain ⟨τ, u, w', h1, h2, h3⟩ := hop
    obtain ⟨fm', h4, rfl⟩ := goE_some hb
    have hnd : ∀ c, o.op ≠ .defer c := fun c hc => by
      obtain ⟨dst, op, ty, p, af, g⟩ := o
      simp only at hc; subst hc
      simp only [execOp] at h1
      rw [Sem.run_bind] at h1
      generalize (resolve a.eval c ty).run C.P w = q at h1
      cases q with
      | ok x y => simp at h1
      | halt x y => simp at h1
    rw [Oper.semAt_eq _ _ _ hnd, h1]
    exact hr τ _ w' ((h.mono τ).put h2 h4) h3
  · rename_i s1 hv
    have hop := evO'_spec h H hv
    obtain ⟨w', h1, h3⟩ := hop
    obtain ⟨fm', h4, rfl⟩ := goE_some hb
    have hnd : ∀ c, o.op ≠ .defer c := fun c hc => by
      obtain ⟨dst, op, ty, p, af, g⟩ := o
      simp only at hc; subst hc
      simp only [execOp] at h1
      rw [Sem.run_bind] at h1
      generalize (resolve a.eval c ty).run C.P w = q at h1
      cases q with
      | ok x y => simp at h1
      | halt x y => simp at h1
    rw [Oper.semAt_eq _ _ _ hnd, h1]
    exact hr [] _ w' (by rw [List.append_nil]; exact h.put (conc_undef ρ) h4) (by rw [List.append_nil]; exact h3)
  · rename_i f args hv
    have hop := evO'_spec h H hv
    obtain ⟨us, h1, h2⟩ := hop
    obtain ⟨e, s1, h3, h4⟩ := er hb
    obtain ⟨⟨fn, hfn, hbody⟩, hc⟩ := hK.fn f args s e s1 h3
    have h5 := h2 (by rw [hfn]; rfl) (fun fn' hfn' => by rw [hfn] at hfn'; cases hfn'; exact hbody)
    have hnd : ∀ c, o.op ≠ .defer c := fun c hc => by
      obtain ⟨dst, op, ty, p, af, g⟩ := o
      simp only at hc; subst hc
      simp only [execOp] at h5
      rw [Sem.run_bind] at h5
      generalize (resolve a.eval c ty).run C.P w = q at h5
      cases q with
      | ok x y => simp at h5
      | halt x y => simp at h5
    rw [Oper.semAt_eq _ _ _ hnd, h5, Oper.uponIn_enter]
    refine ⟨fun h => by simp [Fence.wide] at h, ?_⟩
    have h6 : CallsIn Fence.wide (0 - 1) C.P f us.toArray w (fun e' w' => ∃ τ, ErR (ρ ++ τ) e e' ∧ Sr C w0 D (ρ ++ τ) s1 w') := callsIn_wide.2 (hc w0 D ρ w us H h1)
    have h7 : CallsIn (Wk.Fr ro) (0 - 1) C.P f us.toArray w (fun e' w' => ∃ τ, ErR (ρ ++ τ) e e' ∧ Sr C w0 D (ρ ++ τ) s1 w') := h6
    refine CallsIn.mono h7 ?_
    rintro e' w' ⟨τ, g1, g2⟩
    cases e' <;> exact h4 τ _ w' g1 g2
  · rename_i l args hv
    cases hd : dok with
    | false => rw [hd] at hb; cases hb
    | true =>
      rw [hd, cond_true] at hb
      have hro' := hro hd
      subst hro'
      have hop := evO'_spec h H hv
      obtain ⟨l', us, h1, h2, h3⟩ := hop
      obtain ⟨e, s1, h4, h5⟩ := er hb
      obtain ⟨f, tmps, asg, body, h6, h7⟩ := hK.yl l args s e s1 h4 w0 D ρ w l' us H h1 h2
      have h8 : (execOp a.eval o).run C.P w = .ok (.round l' f tmps asg body) w := by rw [h3]; exact h6
      have hnd : ∀ c, o.op ≠ .defer c := fun c hc => by
        obtain ⟨dst, op, ty, p, af, g⟩ := o
        simp only at hc; subst hc
        simp only [execOp] at h8
        rw [Sem.run_bind] at h8
        generalize (resolve a.eval c ty).run C.P w = q at h8
        cases q with
        | ok x y => simp at h8
        | halt x y => simp at h8
      rw [Oper.semAt_eq _ _ _ hnd, h8, Oper.uponIn_round]
      refine ⟨fun h => by simp [Fence.wide] at h, ?_⟩
      refine RoundIn.mono h7 ?_
      rintro e' w' ⟨τ, g1, g2⟩
      cases e' <;> exact h5 τ _ w' g1 g2
  · rename_i d hv
    cases hd : dok with
    | false => rw [hd] at hb; cases hb
    | true =>
      rw [hd, cond_true] at hb
      have hro' := hro hd
      subst hro'
      have hop := evO'_spec h H hv
      obtain ⟨d', h1, ⟨c, hc⟩, h2⟩ := hop
      obtain ⟨fm', h4, rfl⟩ := goE_some hb
      have : (o.semAt (Wk.Fr none).round a.eval) = execOp a.eval o := Oper.semAt_none _ _
      rw [this, h2, Oper.uponIn_defer]
      refine hr [] _ w ?_ (by rw [List.append_nil]; exact H)
      rw [List.append_nil]
      refine Fr.put (fm := { fm with ds := d :: fm.ds }) (a := { a with defers := d' :: a.defers }) ⟨h.nn, h.size, h.kn, h.un, ?_⟩ (conc_undef ρ) h4
      simp only [concDs, h1, h.ds]
  · rename_i v hv
    cases hb
    have hop := evO'_spec h H hv
    obtain ⟨u, h1, ⟨x, hx⟩, h2⟩ := hop
    have hnd : ∀ c, o.op ≠ .defer c := fun c hc => by rw [hx] at hc; cases hc
    rw [Oper.semAt_eq _ _ _ hnd, h2, Oper.uponIn_panic]
    exact hr [] w _ (by rw [List.append_nil]; simp only [concCh, h1]) (by rw [List.append_nil]; exact H)
  · cases hb

/-! ### In their order -/
theorem wpListIn_mono {F : Fence} {n : Nat} {P : Program} {ops : Array Oper} {Q Q' : Post} (hq : ∀ e a w, Q e a w → Q' e a w) (hl : LetsOut Q → LetsOut Q') : ∀ {l : List Oper} {a : Act} {w : World}, wpListIn F n P ops Q l a w → wpListIn F n P ops Q' l a w
  | [], a, w, h => hq _ _ _ h
  | o :: rest, a, w, h => by
    simp only [wpListIn] at h ⊢
    split
    · rename_i hw
      rw [if_pos hw] at h
      refine ⟨h.1, ?_⟩
      have h2 := h.2
      generalize (o.semAt F.round a.eval).run P w = r at h2 ⊢
      cases r with
      | ok x w' =>
        cases x <;> simp only [Oper.uponIn] at h2 ⊢ <;>
          first
            | exact wpListIn_mono hq hl h2
            | exact ⟨h2.1, CallsIn.mono h2.2 (fun e w'' he => by cases e <;> first | exact wpListIn_mono hq hl he | exact hq _ _ _ he | exact hl he)⟩
            | exact ⟨h2.1, RowsIn.mono h2.2 (fun _ _ he => wpListIn_mono hq hl he)⟩
            | exact ⟨h2.1, RoundIn.mono h2.2 (fun e w'' he => by cases e <;> first | exact wpListIn_mono hq hl he | exact hq _ _ _ he | exact hl he)⟩
            | exact h2
      | halt x w' => cases x <;> simp only [Oper.uponIn] at h2 ⊢ <;> first | exact hq _ _ _ h2 | exact h2
    · rename_i hw
      rw [if_neg hw] at h
      exact ⟨h.1, wpListIn_mono hq hl h.2⟩
def opsE (C : Ct) (K : Cal) (dok : Bool) (ops : List Oper) : List Oper → Fm → St → Option (Ex × Fm × St)
  | [], fm, s => some (.norm, fm, s)
  | o :: rest, fm, s => match wantE ops fm o with
    | some true => (match stpE C K dok fm s o with
      | some (.go fm' s') => opsE C K dok ops rest fm' s'
      | some (.pan ch s') => some (.pan ch, fm, s')
      | none => none)
    | some false => (match fm.put o.dst undef with
      | some fm' => opsE C K dok ops rest fm' s
      | none => none)
    | none => none
theorem opsE_spec {K : Cal} (hK : CalOk C K) {dok : Bool} (hro : dok = true → ro = none) {ops : List Oper} {out : Ex × Fm × St} : ∀ {rest : List Oper} {ρ : Env} {fm : Fm} {s : St} {a : Act} {w : World}, Fr ρ N fm a → Sr C w0 D ρ s w → opsE C K dok ops rest fm s = some out →
    wpListIn (Wk.Fr ro) 0 C.P ops.toArray (PoE C w0 D ρ N out) rest a w
  | [], ρ, fm, s, a, w, h, H, hb => by
    simp only [opsE, Option.some.injEq] at hb; subst hb
    exact PoE.of rfl trivial h H
  | o :: rest, ρ, fm, s, a, w, h, H, hb => by
    simp only [opsE] at hb
    simp only [wpListIn]
    split at hb
    · rename_i hw
      rw [wantE_spec h hw, if_pos rfl]
      split at hb
      · rename_i fm' s' hs
        refine stpE_spec hK hro h H hs (fun τ a' w' h' H' => ?_)
        have ih := opsE_spec hK hro h' H' hb
        exact wpListIn_mono (fun e a w => PoE.more) (fun ⟨a, w, hq⟩ => ⟨a, w, hq.more⟩) ih
      · rename_i ch s' hs
        cases hb
        refine stpE_spec hK hro h H hs (fun τ w' ch' hc H' => ?_)
        exact PoE.pan hc (h.mono τ).x H'
      · cases hb
    · rename_i hw
      rw [wantE_spec h hw]
      split at hb
      · rename_i fm' hp
        exact ⟨fun _ _ => trivial, opsE_spec hK hro (h.put (conc_undef ρ) hp) H hb⟩
      · cases hb
    · cases hb
end
end Go.Ev
