/-
  Functions, deferred calls, rounds; the knot.
-/
import Derived.Test.YthiehhglnaiohaaGreatDoorE17
namespace Go.Ev
open Go.Wk
set_option linter.unusedVariables false
set_option linter.unusedSimpArgs false

def iniE : List Value → Nat → Tr Value → Option (Tr Value)
  | [], _, t => some t
  | v :: r, i, t => bif Nat.blt (Nat.succ i) TOP then iniE r (Nat.succ i) (t.set i (some v)) else none
theorem iniE_spec : ∀ {l : List Value} {i : Nat} {t t' : Tr Value}, iniE l i t = some t' → ∀ j, t'.get j = if i ≤ j ∧ j < i + l.length then l[j - i]? else t.get j
  | [], i, t, t', h, j => by
    simp only [iniE, Option.some.injEq] at h; subst h
    rw [if_neg (by intro hh; simp only [List.length_nil, Nat.add_zero] at hh; omega)]
  | v :: r, i, t, t', h, j => by
    simp only [iniE] at h
    cases hb : Nat.blt (Nat.succ i) TOP with
    | false => rw [hb] at h; cases h
    | true =>
      rw [hb, cond_true] at h
      rw [iniE_spec h j, Tr.get_set _ hb]
      simp only [List.length_cons]
      by_cases h1 : j = i
      · subst h1
        rw [if_neg (by omega), if_pos rfl, if_pos (by omega), Nat.sub_self]; rfl
      · by_cases h2 : i ≤ j ∧ j < i + (r.length + 1)
        · rw [if_pos (by omega), if_pos h2, show j - i = (j - Nat.succ i) + 1 from by omega, List.getElem?_cons_succ]
        · rw [if_neg (by omega), if_neg h1, if_neg h2]

section
variable {C : Ct} {w0 : World} {D : Nat → Prop} {K : Cal} {LF : Nat}

/-- A frame whose slots are a row's. -/
theorem Fr.ini {ρ : Env} {l us : List Value} {t : Tr Value} {tmps : Array Value} {N : Nat} (hl : concs ρ l = some us) (hi : iniE l 0 .e = some t) (hs : tmps.size = N) (hle : us.length ≤ N) (ht : ∀ i, tmps.getD i undef = (us[i]?).getD undef) : Fr ρ N ⟨N, t, []⟩ { tmps := tmps, defers := [] } := by
  have hg : ∀ j, t.get j = l[j]? := fun j => by
    rw [iniE_spec hi j]
    by_cases hj : j < l.length
    · rw [if_pos (by omega), Nat.sub_zero]
    · rw [if_neg (by omega), List.getElem?_eq_none (by omega)]; rfl
  refine ⟨rfl, hs, fun i v hv => ?_, fun i hn => ?_, rfl⟩
  · simp only at hv
    rw [hg] at hv
    obtain ⟨u, h1, h2⟩ := concs_get hl hv
    refine ⟨u, h2, ?_⟩
    show tmps.getD i undef = u
    rw [ht, h1]; rfl
  · simp only at hn
    rw [hg] at hn
    show tmps.getD i undef = undef
    rw [ht, List.getElem?_eq_none (by rw [concs_len hl]; exact List.getElem?_eq_none_iff.1 hn)]; rfl
theorem Fr.enter {ρ : Env} {l us : List Value} {t : Tr Value} {N : Nat} (hl : concs ρ l = some us) (hi : iniE l 0 .e = some t) (hle : l.length ≤ N) : Fr ρ N ⟨N, t, []⟩ { tmps := us.toArray ++ Array.replicate (N - us.toArray.size) undef, defers := [] } := by
  have hll := concs_len hl
  refine Fr.ini hl hi (by simp; omega) (by omega) (fun i => ?_)
  simp only [Array.getD_eq_getD_getElem?]
  by_cases h1 : i < us.length
  · rw [Array.getElem?_append_left (by simpa using h1)]; simp
  · rw [Array.getElem?_append_right (by simpa using h1), List.getElem?_eq_none (by omega)]
    simp only [Array.getElem?_replicate]
    split <;> rfl

abbrev Dcl := FuncId → List Value → Md → St → Option (Er × Md × St)
def fnE (C : Ct) (K : Cal) (dc : Dcl) (LF : Nat) (f : FuncId) (args : List Value) (s : St) : Option (Er × St) := (C.ft.get f).bind fun fn => fn.body.bind fun c => bif Nat.ble args.length fn.ntmps then (iniE args 0 .e).bind fun t => (codE C K true LF c ⟨fn.ntmps, t, []⟩ s).bind fun r => (match r.1 with
    | .norm => lvE C dc true fn r.2.1.t r.2.1.ds .ret r.2.2
    | .ret => lvE C dc true fn r.2.1.t r.2.1.ds .ret r.2.2
    | .pan ch => lvE C dc false fn r.2.1.t r.2.1.ds (.pan ch) r.2.2
    | _ => none) else none
theorem fnE_spec (hK : CalOk C K) {dc : Dcl} (hdc : DclOk C dc) {f : FuncId} {args : List Value} {s s' : St} {r : Er} (hb : fnE C K dc LF f args s = some (r, s')) :
    (∃ fn, C.ft.get f = some fn ∧ fn.body.isSome = true) ∧ ∀ w0 D ρ w us, Sr C w0 D ρ s w → concs ρ args = some us → Calls C.P f us.toArray w (fun e w' => ∃ τ, ErR (ρ ++ τ) r e ∧ Sr C w0 D (ρ ++ τ) s' w') := by
  unfold fnE at hb
  obtain ⟨fn, hfn, hb⟩ := Option.bind_eq_some_iff.1 hb
  obtain ⟨c, hc, hb⟩ := Option.bind_eq_some_iff.1 hb
  cases hle : Nat.ble args.length fn.ntmps with
  | false => rw [hle] at hb; cases hb
  | true =>
    rw [hle, cond_true] at hb
    obtain ⟨t, ht, hb⟩ := Option.bind_eq_some_iff.1 hb
    obtain ⟨q, hq, hb⟩ := Option.bind_eq_some_iff.1 hb
    refine ⟨⟨fn, hfn, by rw [hc]; rfl⟩, fun w0 D ρ w us H hus => ?_⟩
    refine callsIn_wide.1 (callsIn_of_wp_marks (F := Fence.wide) (n := 0) (C.okF f fn hfn).1 hc trivial ?_)
    have hfr := Fr.enter hus ht (Nat.le_of_ble_eq_true hle)
    have hcode := codE_spec (ro := none) (dok := true) hK (fun _ => rfl) hfr H hq
    obtain ⟨x, fm, s1⟩ := q
    refine wpIn_mono hcode (fun e a w1 hp => ?_)
    obtain ⟨τ, h1, h2, h3, h4⟩ := hp
    have post : ∀ {m : Md} {u : FrameMode} {full : Bool}, FrK (ρ ++ τ) full fm a → concDs (ρ ++ τ) fm.ds = some a.defers → MdR (ρ ++ τ) m u → lvE C dc full fn fm.t fm.ds m s1 = some (r, s') → LeavesInM Fence.wide 0 C.P fn a.tmps (fun e w' => ∃ τ, ErR (ρ ++ τ) r e ∧ Sr C w0 D (ρ ++ τ) s' w') a.defers u w1 := by
      intro m u full hk hd hm hl
      refine leavesM_mono ?_ (lvE_spec hdc hk h4 hd hm hl)
      rintro e w' ⟨σ, g1, g2⟩
      rw [List.append_assoc] at g1 g2
      exact ⟨τ ++ σ, g1, g2⟩
    cases x with
    | norm =>
      cases e with
      | normal => have hf := h3 rfl; exact post ⟨hf.kn, fun _ => hf.un⟩ hf.ds (m := .ret) trivial hb
      | _ => exact h1.elim
    | ret =>
      cases e with
      | ret => have hf := h3 rfl; exact post ⟨hf.kn, fun _ => hf.un⟩ hf.ds (m := .ret) trivial hb
      | _ => exact h1.elim
    | pan ch =>
      cases e with
      | panic ch' => have hf := h2 rfl; exact post ⟨hf.kn, (fun hh => by cases hh)⟩ hf.ds (m := .pan ch) h1 hb
      | _ => exact h1.elim
    | exit j => cases hb
    | goto j => cases hb

/-! ### Deferred calls -/
def recM : Md → Value × Md
  | .pan (⟨v, false, false⟩ :: older) => (v, .pan (⟨v, true, false⟩ :: older))
  | m => (.nilIface, m)
def outD (C : Ct) (fn : Func) (m : Md) (r : Ex × Fm × St) : Option (Er × Md × St) := match r.2.1.ds with
  | [] => (match r.1 with
    | .norm => (resE C true r.2.2 r.2.1.t fn).bind fun v => some (.ret v, m, r.2.2)
    | .ret => (resE C true r.2.2 r.2.1.t fn).bind fun v => some (.ret v, m, r.2.2)
    | .pan ch => some (.pan ch, m, r.2.2)
    | _ => none)
  | _ => none
def recO : Code → Option (Nat × Code)
  | .seq (.region _ ⟨[⟨some d, .call ⟨.builtin .recover, ⟨[]⟩, _⟩, _, _, _, none⟩]⟩ false) rest => some (d, rest)
  | _ => none
def dclE (C : Ct) (K : Cal) (LF : Nat) : Dcl := fun f args m s => (C.ft.get f).bind fun fn => fn.body.bind fun c => bif Nat.ble args.length fn.ntmps then (iniE args 0 .e).bind fun t => (match recO c with
    | some (d, rest) => (Fm.put ⟨fn.ntmps, t, []⟩ (some d) (recM m).1).bind fun fm => (codE C K true LF rest fm s).bind (outD C fn (recM m).2)
    | none => (codE C K true LF c ⟨fn.ntmps, t, []⟩ s).bind (outD C fn m)) else none
theorem outD_spec {fn : Func} {m m' : Md} {x : Ex × Fm × St} {r : Er} {s' : St} {ρ : Env} {N : Nat} {e : Exit} {a : Act} {w : World} (hp : PoE C w0 D ρ N x e a w) (ho : outD C fn m x = some (r, m', s')) :
    m' = m ∧ ∃ τ, a.defers = [] ∧ Sr C w0 D (ρ ++ τ) s' w ∧ ((∃ v u, r = .ret v ∧ (e = .normal ∨ e = .ret) ∧ conc (ρ ++ τ) v = some u ∧ (results fn a.tmps).run C.P w = .ok u w) ∨ (∃ ch ch', r = .pan ch ∧ e = .panic ch' ∧ concCh (ρ ++ τ) ch = some ch')) := by
  obtain ⟨τ, h1, h2, h3, h4⟩ := hp
  obtain ⟨y, fm, s1⟩ := x
  obtain ⟨N', t, ds⟩ := fm
  cases ds with
  | cons d ds => cases ho
  | nil =>
    have hds : ∀ {us : List Deferred}, concDs (ρ ++ τ) [] = some us → us = [] := fun hd => by simpa [concDs] using hd.symm
    cases y with
    | norm =>
      cases e with
      | normal =>
        simp only [outD] at ho
        obtain ⟨v, hv, ho⟩ := Option.bind_eq_some_iff.1 ho
        cases ho
        have hf := h3 rfl
        obtain ⟨u, g1, g2⟩ := resE_run (fm := ⟨N', t, []⟩) ⟨hf.kn, fun _ => hf.un⟩ h4 hv
        exact ⟨rfl, τ, hds hf.ds, h4, .inl ⟨v, u, rfl, .inl rfl, g1, g2⟩⟩
      | _ => exact h1.elim
    | ret =>
      cases e with
      | ret =>
        simp only [outD] at ho
        obtain ⟨v, hv, ho⟩ := Option.bind_eq_some_iff.1 ho
        cases ho
        have hf := h3 rfl
        obtain ⟨u, g1, g2⟩ := resE_run (fm := ⟨N', t, []⟩) ⟨hf.kn, fun _ => hf.un⟩ h4 hv
        exact ⟨rfl, τ, hds hf.ds, h4, .inl ⟨v, u, rfl, .inr rfl, g1, g2⟩⟩
      | _ => exact h1.elim
    | pan ch =>
      cases e with
      | panic ch' =>
        simp only [outD] at ho
        cases ho
        have hf := h2 rfl
        exact ⟨rfl, τ, hds hf.ds, h4, .inr ⟨_, ch', rfl, rfl, h1⟩⟩
      | _ => exact h1.elim
    | _ => cases ho
theorem dclE_spec (hK : CalOk C K) : DclOk C (dclE C K LF) := by
  intro f args m s r m' s' hb
  unfold dclE at hb
  obtain ⟨fn, hfn, hb⟩ := Option.bind_eq_some_iff.1 hb
  obtain ⟨c, hc, hb⟩ := Option.bind_eq_some_iff.1 hb
  cases hle : Nat.ble args.length fn.ntmps with
  | false => rw [hle] at hb; cases hb
  | true =>
    rw [hle, cond_true] at hb
    obtain ⟨t, ht, hb⟩ := Option.bind_eq_some_iff.1 hb
    refine ⟨⟨fn, hfn, by rw [hc]; rfl⟩, fun w0 D ρ w us u H hus hm => ?_⟩
    have hfr := Fr.enter hus ht (Nat.le_of_ble_eq_true hle)
    split at hb
    · rename_i d rest hrec
      obtain ⟨fm, hfm, hb4⟩ := Option.bind_eq_some_iff.1 hb
      obtain ⟨q, hq, hob⟩ := Option.bind_eq_some_iff.1 hb4
      clear hb hb4
      unfold recO at hrec
      split at hrec
      · rename_i hq1 ats tyy pp af hq2
        cases hrec
        refine callsDIn_of_wpSIn (F := Wk.Fr none) (n := 0) (C.okF f fn hfn).1 hc trivial (fun c₀ cs hmode => ?_)
        refine wpSIn_seq (wpSIn_region ?_)
        have hrecv : ∀ (a : Act), (execOp a.eval ⟨some d, .call ⟨.builtin .recover, ⟨[]⟩, ats⟩, tyy, pp, af, none⟩).run C.P w = .ok .recover w := fun a => rfl
        have key : ∃ u0 c1, conc ρ (recM m).1 = some u0 ∧ MdR ρ (recM m).2 c1.mode ∧ c1 = { c₀ with mode := c1.mode } ∧ ((recoverD (c₀ :: cs) = some (u0, c1 :: cs)) ∨ (recoverD (c₀ :: cs) = none ∧ u0 = .nilIface ∧ c1 = c₀)) := by
          have hm' : MdR ρ m c₀.mode := by rw [hmode]; exact hm
          have plain : ∀ {m0 : Md}, m0 = m → recM m = (.nilIface, m) → recoverD (c₀ :: cs) = none → _ := fun _ h5 h6 => (⟨.nilIface, c₀, by rw [h5]; simp [conc], by rw [h5]; exact hm', rfl, .inr ⟨h6, rfl, rfl⟩⟩ : ∃ u0 c1, conc ρ (recM m).1 = some u0 ∧ MdR ρ (recM m).2 c1.mode ∧ c1 = { c₀ with mode := c1.mode } ∧ ((recoverD (c₀ :: cs) = some (u0, c1 :: cs)) ∨ (recoverD (c₀ :: cs) = none ∧ u0 = .nilIface ∧ c1 = c₀)))
          cases m with
          | ret =>
            refine plain rfl rfl ?_
            cases hu : c₀.mode with
            | returning => simp [recoverD, hu]
            | run => rw [hu] at hm'; exact hm'.elim
            | panicking ch => rw [hu] at hm'; exact hm'.elim
          | pan ch =>
            cases hu : c₀.mode with
            | returning => rw [hu] at hm'; exact hm'.elim
            | run => rw [hu] at hm'; exact hm'.elim
            | panicking ch' =>
              have hm2 : concCh ρ ch = some ch' := by rw [hu] at hm'; exact hm'
              cases ch with
              | nil =>
                refine plain rfl rfl ?_
                simp only [concCh, Option.some.injEq] at hm2; subst hm2
                simp [recoverD, hu]
              | cons e older =>
                obtain ⟨v', t', g1, g2, rfl⟩ := concCh_cons hm2
                obtain ⟨ev, er, eg⟩ := e
                cases er with
                | true => refine plain rfl rfl ?_; simp [recoverD, hu]
                | false =>
                  cases eg with
                  | true => refine plain rfl rfl ?_; simp [recoverD, hu]
                  | false =>
                    refine ⟨v', { c₀ with mode := .panicking (⟨v', true, false⟩ :: t') }, g1, ?_, rfl, .inl ?_⟩
                    · show concCh ρ (⟨ev, true, false⟩ :: older) = some (⟨v', true, false⟩ :: t')
                      simp only [concCh, g2]
                      simp only at g1
                      rw [g1]
                    · simp [recoverD, hu]
        obtain ⟨u0, c1, g1, g2, g3, g4⟩ := key
        have rest_ok : rest.wpSIn (Wk.Fr none) 0 C.P (bodyPostS C.P fn c₀ cs (fun e u' w' => ∃ τ, ErR (ρ ++ τ) r e ∧ MdR (ρ ++ τ) m' u' ∧ Sr C w0 D (ρ ++ τ) s' w')) (Act.put { tmps := us.toArray ++ Array.replicate (fn.ntmps - us.toArray.size) undef, defers := [] } (some d) u0) (c1 :: cs) w := by
          refine wpSIn_of_wpIn rfl (wpIn_mono (codE_spec (ro := none) (dok := true) hK (fun _ => rfl) (hfr.put g1 hfm) H hq) (fun e a w1 hp => ?_))
          obtain ⟨hmm, τ, hd, hs, hor⟩ := outD_spec hp hob
          subst hmm
          rcases hor with ⟨v, uu, rfl, he, hv, hr⟩ | ⟨ch, ch', rfl, rfl, hch⟩
          · rcases he with rfl | rfl <;> exact ⟨hd, c1.mode, by rw [← g3], uu, hr, τ, hv, g2.mono τ, hs⟩
          · exact ⟨hd, c1.mode, by rw [← g3], τ, hch, g2.mono τ, hs⟩
        show wpOpsSIn (Wk.Fr none) 0 C.P _ _ [0] _ _ _
        unfold wpOpsSIn
        simp only [List.getElem?_toArray, List.getElem?_cons_zero]
        refine ⟨fun _ _ => trivial, ?_⟩
        simp only [Region.wanted, if_true, hrecv]
        rcases g4 with g4 | ⟨g4, rfl, rfl⟩
        · rw [g4]
          exact rest_ok
        · rw [g4]
          exact rest_ok
      · cases hrec
    · obtain ⟨q, hq, hob⟩ := Option.bind_eq_some_iff.1 hb
      refine CallsDIn.mono (callsDIn_of_wp (F := Wk.Fr none) (n := 0) (u := u) (R := fun e w' => ∃ τ, ErR (ρ ++ τ) r e ∧ m' = m ∧ Sr C w0 D (ρ ++ τ) s' w') (C.okF f fn hfn).1 hc trivial ?_) ?_
      · refine wpIn_mono (codE_spec (ro := none) (dok := true) hK (fun _ => rfl) hfr H hq) (fun e a w1 hp => ?_)
        obtain ⟨hmm, τ, hd, hs, hor⟩ := outD_spec hp hob
        rcases hor with ⟨v, uu, rfl, he, hv, hr⟩ | ⟨ch, ch', rfl, rfl, hch⟩
        · rcases he with rfl | rfl <;> exact ⟨hd, uu, hr, τ, hv, hmm, hs⟩
        · exact ⟨hd, τ, hch, hmm, hs⟩
      · rintro e u' w' ⟨rfl, τ, h1, rfl, h3⟩
        exact ⟨τ, h1, hm.mono τ, h3⟩
end
end Go.Ev
