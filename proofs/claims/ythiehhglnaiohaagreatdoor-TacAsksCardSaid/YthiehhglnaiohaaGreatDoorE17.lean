/-
  Functions, reckoned: how they begin and leave; rounds; the knot.
-/
import Derived.Test.YthiehhglnaiohaaGreatDoorE16
namespace Go.Ev
open Go.Wk
set_option linter.unusedVariables false
set_option linter.unusedSimpArgs false

section
variable {C : Ct} {w0 : World} {D : Nat → Prop} {N : Nat} {K : Cal} {LF : Nat}

/-! ### Results -/
def resL (C : Ct) (full : Bool) (s : St) (t : Tr Value) : List ResultVar → Option (List Value)
  | [] => some []
  | .tmp i :: r => match (match t.get i with | some v => some v | none => bif full then some undef else none), resL C full s t r with
    | some v, some vs => some (v :: vs)
    | _, _ => none
  | .cell i ty :: r => match (t.get i).bind (ldE C s ty), resL C full s t r with
    | some v, some vs => some (v :: vs)
    | _, _ => none
def resE (C : Ct) (full : Bool) (s : St) (t : Tr Value) (fn : Func) : Option Value := match resL C full s t fn.results.toList with
  | some [v] => some v
  | some vs => some (.tuple ⟨vs⟩)
  | none => none
def resOne (tmps : Array Value) : ResultVar → Sem Value
  | .tmp t => pure (tmps.getD t undef)
  | .cell a t => do loadVar t (← asAddr (tmps.getD a undef))
/-- What a frame that leaves must know: all slots that are no result's stay out. -/
def FrK (ρ : Env) (dflt : Bool) (fm : Fm) (a : Act) : Prop := (∀ i v, fm.t.get i = some v → ∃ u, conc ρ v = some u ∧ a.tmps.getD i undef = u) ∧ (dflt = true → ∀ i, fm.t.get i = none → a.tmps.getD i undef = undef)
theorem resL_run {ρ : Env} {full : Bool} {fm : Fm} {s : St} {a : Act} {w : World} (hk : FrK ρ full fm a) (H : Sr C w0 D ρ s w) : ∀ {rs : List ResultVar} {vs : List Value}, resL C full s fm.t rs = some vs → ∃ us, concs ρ vs = some us ∧ (rs.mapM (resOne a.tmps)).run C.P w = .ok us w
  | [], vs, h => by simp only [resL, Option.some.injEq] at h; subst h; exact ⟨[], concs_nil ρ, rfl⟩
  | .tmp i :: r, vs, h => by
    simp only [resL] at h
    split at h
    · rename_i v vs' h0 h1
      cases h
      obtain ⟨us, h2, h3⟩ := resL_run hk H h1
      have key : conc ρ v = some (a.tmps.getD i undef) := by
        split at h0
        · rename_i v' hq
          cases h0
          obtain ⟨u, g1, g2⟩ := hk.1 i v hq; rw [g2]; exact g1
        · rename_i hq
          cases hf : full with
          | false => rw [hf] at h0; cases h0
          | true => rw [hf] at h0; cases h0; rw [hk.2 hf i hq]; exact conc_undef ρ
      refine ⟨_, concs_cons.2 ⟨_, us, key, h2, rfl⟩, ?_⟩
      rw [List.mapM_cons]
      simp only [resOne, Sem.run_bind, run_pure', Result.andThen_ok, h3]
    · cases h
  | .cell i ty :: r, vs, h => by
    simp only [resL] at h
    split at h
    · rename_i v vs' h0 h1
      cases h
      obtain ⟨us, h2, h3⟩ := resL_run hk H h1
      obtain ⟨p, hp, hl⟩ := Option.bind_eq_some_iff.1 h0
      obtain ⟨p', g1, g2⟩ := hk.1 i p hp
      obtain ⟨u, q1, q2⟩ := ldE_run H g1 hl
      refine ⟨_, concs_cons.2 ⟨u, us, q1, h2, rfl⟩, ?_⟩
      rw [List.mapM_cons]
      have hload : (resOne a.tmps (.cell i ty)).run C.P w = .ok u w := by
        simp only [resOne, g2]
        unfold ldE at hl
        split at hl
        · simp only [conc, cA, Option.map_eq_some_iff] at g1
          obtain ⟨_, ⟨b', _, rfl⟩, rfl⟩ := g1
          exact q2
        · cases hl
      rw [Sem.run_bind, hload]
      simp only [Sem.run_bind, run_pure', Result.andThen_ok, h3]
    · cases h
theorem resE_run {ρ : Env} {full : Bool} {fm : Fm} {s : St} {a : Act} {w : World} {fn : Func} {v : Value} (hk : FrK ρ full fm a) (H : Sr C w0 D ρ s w) (h : resE C full s fm.t fn = some v) : ∃ u, conc ρ v = some u ∧ (results fn a.tmps).run C.P w = .ok u w := by
  unfold resE at h
  have hdef : results fn a.tmps = (do
      let vs ← fn.results.mapM (resOne a.tmps)
      pure (if h : vs.size = 1 then vs[0] else .tuple vs)) := by
    unfold results
    congr 1
  have hm : ∀ {us : List Value}, (fn.results.toList.mapM (resOne a.tmps)).run C.P w = .ok us w → (fn.results.mapM (resOne a.tmps)).run C.P w = .ok us.toArray w := fun {us} hh => by
    rw [Array.mapM_eq_mapM_toList]
    show ((fn.results.toList.mapM (resOne a.tmps)) >>= fun x => pure x.toArray : Sem (Array Value)).run C.P w = _
    rw [Sem.run_bind, hh]; rfl
  split at h
  · rename_i v' h1
    cases h
    obtain ⟨us, h2, h3⟩ := resL_run hk H h1
    obtain ⟨u, t, g1, g2, rfl⟩ := concs_cons.1 h2
    rw [concs_nil] at g2; cases g2
    refine ⟨u, g1, ?_⟩
    rw [hdef, Sem.run_bind, hm h3]
    rfl
  · rename_i vs hne h1
    cases h
    obtain ⟨us, h2, h3⟩ := resL_run hk H h1
    refine ⟨.tuple us.toArray, conc_tuple h2, ?_⟩
    rw [hdef, Sem.run_bind, hm h3, Result.andThen_ok]
    have hl : ¬ us.toArray.size = 1 := fun hh => by
      have h5 : vs.length = 1 := by rw [← concs_len h2]; simpa using hh
      match vs, h5 with
      | [x], _ => exact hne x rfl
    simp only [run_pure']
    rw [dif_neg hl]
  · cases h

/-! ### Leaving -/
inductive Md where
  | ret
  | pan (ch : List PanicEntry)
def MdR (ρ : Env) : Md → FrameMode → Prop
  | .ret, .returning => True
  | .pan ch, .panicking ch' => concCh ρ ch = some ch'
  | _, _ => False
theorem MdR.mono {ρ : Env} (τ : Env) {m : Md} {u : FrameMode} (h : MdR ρ m u) : MdR (ρ ++ τ) m u := by
  cases m <;> cases u <;> first | exact h | exact concCh_mono τ h
def setM : Md → Option Md
  | .ret => some .ret
  | .pan [] => some (.pan [])
  | .pan (e :: older) => bif e.recovered then (match older with
    | [] => some .ret
    | _ => none) else some (.pan (e :: older))
def raiM (m : Md) (ch : List PanicEntry) : Md := match m with
  | .ret => .pan ch
  | .pan old => .pan (ch ++ old)
theorem concCh_cons {ρ : Env} {e : PanicEntry} {r us : List PanicEntry} (h : concCh ρ (e :: r) = some us) : ∃ v t, conc ρ e.v = some v ∧ concCh ρ r = some t ∧ us = { e with v := v } :: t := by
  simp only [concCh] at h
  split at h
  · rename_i v t h1 h2; exact ⟨v, t, h1, h2, (Option.some.inj h).symm⟩
  · cases h
theorem concCh_app {ρ : Env} : ∀ {l m l' m' : List PanicEntry}, concCh ρ l = some l' → concCh ρ m = some m' → concCh ρ (l ++ m) = some (l' ++ m')
  | [], m, l', m', h, h' => by simp only [concCh, Option.some.injEq] at h; subst h; exact h'
  | e :: r, m, l', m', h, h' => by
    obtain ⟨v, t, h1, h2, rfl⟩ := concCh_cons h
    simp only [List.cons_append, concCh, h1, concCh_app h2 h']
theorem setM_spec {ρ : Env} {m m' : Md} {u : FrameMode} (h : MdR ρ m u) (hs : setM m = some m') : MdR ρ m' (settle u) := by
  cases m with
  | ret => cases hs; cases u <;> first | exact h.elim | exact trivial
  | pan ch =>
    cases u with
    | panicking ch' =>
      cases ch with
      | nil =>
        cases hs
        have h1 : concCh ρ [] = some ch' := h
        simp only [concCh, Option.some.injEq] at h1; subst h1
        exact h
      | cons e older =>
        obtain ⟨v, t, h1, h2, rfl⟩ := concCh_cons h
        simp only [setM] at hs
        cases hr : e.recovered with
        | true =>
          rw [hr, cond_true] at hs
          cases older with
          | nil =>
            cases hs
            simp only [concCh, Option.some.injEq] at h2; subst h2
            obtain ⟨ev, er, eg⟩ := e
            simp only at hr; subst hr
            show MdR ρ .ret (settle (.panicking [⟨v, true, eg⟩]))
            simp [settle, MdR]
          | cons e2 r2 => cases hs
        | false =>
          rw [hr, cond_false] at hs
          cases hs
          obtain ⟨ev, er, eg⟩ := e
          simp only at hr; subst hr
          show MdR ρ _ (settle (.panicking (⟨v, false, eg⟩ :: t)))
          simp only [settle]
          exact h
    | _ => exact h.elim
theorem raiM_spec {ρ : Env} {m : Md} {u : FrameMode} {ch ch' : List PanicEntry} (h : MdR ρ m u) (hc : concCh ρ ch = some ch') : MdR ρ (raiM m ch) (raised u ch') := by
  cases m with
  | ret => cases u <;> first | exact h.elim | exact hc
  | pan old => cases u <;> first | exact h.elim | exact concCh_app hc h

/-- A deferred call, as it is reckoned. -/
def DclOk (C : Ct) (dc : FuncId → List Value → Md → St → Option (Er × Md × St)) : Prop :=
  ∀ f args m s r m' s', dc f args m s = some (r, m', s') → (∃ fn, C.ft.get f = some fn ∧ fn.body.isSome = true) ∧ ∀ w0 D ρ w us u, Sr C w0 D ρ s w → concs ρ args = some us → MdR ρ m u →
    CallsDIn (Wk.Fr none) 0 C.P f us.toArray u w (fun e u' w' => ∃ τ, ErR (ρ ++ τ) r e ∧ MdR (ρ ++ τ) m' u' ∧ Sr C w0 D (ρ ++ τ) s' w')
def lvE (C : Ct) (dc : FuncId → List Value → Md → St → Option (Er × Md × St)) (full : Bool) (fn : Func) (t : Tr Value) : List Deferred → Md → St → Option (Er × St)
  | [], .ret, s => (resE C full s t fn).bind fun v => some (.ret v, s)
  | [], .pan ch, s => some (.pan ch, s)
  | ⟨.collected r, _⟩ :: ds, m, s => bif Nat.ble BB r then (match s.h.get (r - BB) with
    | some (.deferred (some [])) => (s.upd (r - BB) (some (.deferred none))).bind fun s' => lvE C dc full fn t ds m s'
    | _ => none) else none
  | ⟨.fn (.func k) cap, args⟩ :: ds, m, s => (dc k (args.toList ++ cap.toList) m s).bind fun q => match q.1 with
    | .ret _ => (setM q.2.1).bind fun m' => lvE C dc full fn t ds m' q.2.2
    | .pan ch => lvE C dc full fn t ds (raiM q.2.1 ch) q.2.2
  | _, _, _ => none
theorem leavesM_mono {F : Fence} {n : Nat} {P : Program} {fn : Func} {tmps : Array Value} {R R' : Ending → World → Prop} (hR : ∀ e w, R e w → R' e w) : ∀ {ds : List Deferred} {u : FrameMode} {w : World}, LeavesInM F n P fn tmps R ds u w → LeavesInM F n P fn tmps R' ds u w
  | [], u, w, h => by
    cases u with
    | run => exact h.elim
    | returning => obtain ⟨v, h1, h2⟩ := h; exact ⟨v, h1, hR _ _ h2⟩
    | panicking ch => exact hR _ _ h
  | d :: ds, u, w, h => by
    refine ⟨h.1, ?_⟩
    rcases h.2 with ⟨r, w', h1, h2, h3⟩ | ⟨hn, fv, cap, f, args, h1, h2, h3, h4⟩
    · exact .inl ⟨r, w', h1, h2, leavesM_mono hR h3⟩
    · exact .inr ⟨hn, fv, cap, f, args, h1, h2, h3, CallsDIn.mono h4 (fun e u' w' he => by
        cases e with
        | returned v => exact leavesM_mono hR he
        | panicked ch => exact leavesM_mono hR he
        | outgrown => exact hR _ _ he)⟩
theorem lvE_spec {dc : FuncId → List Value → Md → St → Option (Er × Md × St)} (hdc : DclOk C dc) {full : Bool} {fn : Func} {r : Er} {s' : St} : ∀ {ds : List Deferred} {ρ : Env} {fm : Fm} {m : Md} {s : St} {a : Act} {w : World} {ds' : List Deferred} {u : FrameMode}, FrK ρ full fm a → Sr C w0 D ρ s w → concDs ρ ds = some ds' → MdR ρ m u → lvE C dc full fn fm.t ds m s = some (r, s') →
    LeavesInM (Wk.Fr none) 0 C.P fn a.tmps (fun e w' => ∃ τ, ErR (ρ ++ τ) r e ∧ Sr C w0 D (ρ ++ τ) s' w') ds' u w := by
  intro ds
  induction ds with
  | nil =>
    intro ρ fm m s a w ds' u hk H hd hm hb
    simp only [concDs, Option.some.injEq] at hd; subst hd
    cases m with
    | ret =>
      cases u with
      | returning =>
        simp only [lvE] at hb
        obtain ⟨v, hv, hb⟩ := Option.bind_eq_some_iff.1 hb
        cases hb
        obtain ⟨u, h1, h2⟩ := resE_run hk H hv
        exact ⟨u, h2, [], by rw [List.append_nil]; exact h1, by rw [List.append_nil]; exact H⟩
      | _ => exact hm.elim
    | pan ch =>
      cases u with
      | panicking ch' =>
        simp only [lvE, Option.some.injEq, Prod.mk.injEq] at hb
        obtain ⟨rfl, rfl⟩ := hb
        exact ⟨[], by rw [List.append_nil]; exact hm, by rw [List.append_nil]; exact H⟩
      | _ => exact hm.elim
  | cons d ds ih =>
    intro ρ fm m s a w ds' u hk H hd hm hb
    simp only [concDs] at hd
    split at hd
    · rename_i d' ds2 hd1 hd2
      cases hd
      have hu : u ≠ .run := fun hh => by subst hh; cases m <;> exact hm.elim
      refine ⟨hu, ?_⟩
      obtain ⟨tg, args⟩ := d
      have mono : ∀ {τ : Env} {ds3 : List Deferred} {u3 : FrameMode} {w3 : World}, LeavesInM (Wk.Fr none) 0 C.P fn a.tmps (fun e w' => ∃ σ, ErR ((ρ ++ τ) ++ σ) r e ∧ Sr C w0 D ((ρ ++ τ) ++ σ) s' w') ds3 u3 w3 → LeavesInM (Wk.Fr none) 0 C.P fn a.tmps (fun e w' => ∃ τ, ErR (ρ ++ τ) r e ∧ Sr C w0 D (ρ ++ τ) s' w') ds3 u3 w3 := by
        intro τ ds3 u3 w3 hh
        refine leavesM_mono ?_ hh
        rintro e w' ⟨σ, g1, g2⟩
        rw [List.append_assoc] at g1 g2
        exact ⟨τ ++ σ, g1, g2⟩
      cases tg with
      | collected q =>
        simp only [concD] at hd1
        split at hd1
        · rename_i q' args' hq hargs
          cases hd1
          simp only [lvE] at hb
          cases hbb : Nat.ble BB q with
          | false => rw [hbb] at hb; cases hb
          | true =>
            rw [hbb, cond_true] at hb
            obtain ⟨L, hL, rfl⟩ := cad_own hbb hq
            generalize q - BB = kk at hb hL
            split at hb
            · rename_i hkk
              obtain ⟨s1, hs1, hb⟩ := Option.bind_eq_some_iff.1 hb
              obtain ⟨L2, o', q1, q2, q3⟩ := H.holds _ _ hkk
              rw [hL] at q1; cases q1
              have ho : o' = .deferred (some []) := by
                have h9 : (concDs ρ []).map (fun ds' => Obj.deferred (some ds')) = some o' := q2
                simp only [concDs, Option.map_some, Option.some.injEq] at h9
                exact h9.symm
              subst ho
              have hg := run_getObj (P := C.P) q3 (by intro c e f hh; cases hh)
              have hset := run_setObj (P := C.P) q3 (by intro c e f hh; cases hh) (.deferred none)
              have hlt := (Array.getElem?_eq_some_iff.1 q3).1
              have H1 : Sr C w0 D ρ s1 { w with heap := w.heap.setIfInBounds L.ad (.deferred none) } := by
                refine H.write hkk hL (o' := .deferred none) rfl hs1 (by simp [hlt]) (fun z _ hz => ?_) (by simp) rfl rfl rfl
                show (w.heap.setIfInBounds L.ad _)[z]? = _
                rw [Array.getElem?_setIfInBounds_ne (Ne.symm hz)]
              refine .inl ⟨L.ad, _, rfl, ?_, ih hk H1 hd2 hm hb⟩
              simp only [Instr.takeDeferred, Sem.run_bind, hg, Result.andThen_ok, hset, run_pure']
            · cases hb
        · cases hd1
      | fn f cap =>
        simp only [concD] at hd1
        split at hd1
        · rename_i f' cap' args' hf hcap hargs
          cases hd1
          cases f with
          | func k =>
            simp only [cfn, Option.some.injEq] at hf; subst hf
            simp only [lvE] at hb
            obtain ⟨q, hq, hb⟩ := Option.bind_eq_some_iff.1 hb
            obtain ⟨e, m1, s1⟩ := q
            obtain ⟨⟨fnn, hfn1, hfn2⟩, hcall⟩ := hdc _ _ _ _ _ _ _ hq
            have hall := concs_app (concA_iff.1 hargs) (concA_iff.1 hcap)
            have hC := hcall w0 D ρ w _ u H hall hm
            refine .inr ⟨fun hh => by simp [Fence.wide] at hh, .func k, cap', k, (args'.toList ++ cap'.toList).toArray, rfl, ?_, (fun _ _ => trivial), ?_⟩
            · show (callFunc k (args' ++ cap')).run C.P w = _
              have e1 : args' ++ cap' = (args'.toList ++ cap'.toList).toArray := by apply Array.ext'; simp
              rw [e1]; exact callFunc_enter hfn1 hfn2 _ _
            · refine CallsDIn.mono hC ?_
              rintro e' u' w' ⟨τ, g1, g2, g3⟩
              have hk' : FrK (ρ ++ τ) full fm a := ⟨fun i v hi => let ⟨x, h1, h2⟩ := hk.1 i v hi; ⟨x, conc_mono τ h1, h2⟩, hk.2⟩
              cases e with
              | ret vv =>
                cases e' with
                | returned uu =>
                  simp only at hb
                  obtain ⟨m2, hm2, hb⟩ := Option.bind_eq_some_iff.1 hb
                  exact mono (ih hk' g3 (concDs_mono τ hd2) (setM_spec g2 hm2) hb)
                | _ => exact g1.elim
              | pan ch =>
                cases e' with
                | panicked ch' =>
                  simp only at hb
                  exact mono (ih hk' g3 (concDs_mono τ hd2) (raiM_spec g2 g1) hb)
                | _ => exact g1.elim
          | _ => cases hb
        · cases hd1
      | _ => cases hd1
    · cases hd
end
end Go.Ev
