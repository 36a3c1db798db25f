/-
  Code, reckoned.
-/
import Derived.Test.YthiehhglnaiohaaGreatDoorE15
import Derived.RangeFuncLeaves
import Derived.RecoverIn
namespace Go.Ev
open Go.Wk
set_option linter.unusedVariables false
set_option linter.unusedSimpArgs false

/-! ### Loops -/
def Unr (F : Fence) (P : Program) (c : Code) (Q : Post) : Nat → Act → World → Prop
  | 0, _, _ => False
  | n + 1, a, w => c.wpIn F 0 P (Exit.then (Unr F P c Q n) Q) a w
theorem wpIn_unr {F : Fence} {P : Program} {c : Code} {Q : Post} {n : Nat} {a : Act} {w : World} (h : Unr F P c Q n a w) : (Code.loop c).wpIn F 0 P Q a w := by
  refine wpIn_loop (fun a w => ∃ n, Unr F P c Q n a w) (fun a w => leastOf (fun n => Unr F P c Q n a w)) ⟨n, h⟩ ?_
  intro a w hI
  have hs := leastOf_spec hI
  generalize hm : leastOf (fun n => Unr F P c Q n a w) = m at hs ⊢
  obtain ⟨h1, h2⟩ := hs
  cases m with
  | zero => exact h1.elim
  | succ m =>
    refine wpIn_mono h1 (fun e a' w' hq => ?_)
    cases e with
    | normal => exact ⟨⟨m, hq⟩, Nat.lt_of_le_of_lt ((leastOf_spec (p := fun n => Unr F P c Q n a' w') ⟨m, hq⟩).2 m hq) (Nat.lt_succ_self m)⟩
    | _ => exact hq
def lopE : Nat → (Fm → St → Option (Ex × Fm × St)) → Fm → St → Option (Ex × Fm × St)
  | 0, _, _, _ => none
  | n + 1, b, fm, s => (b fm s).bind fun r => match r.1 with
    | .norm => lopE n b r.2.1 r.2.2
    | _ => some r

def blkE (id : Nat) (r : Ex × Fm × St) : Ex × Fm × St := match r.1 with
  | .exit j => bif Nat.beq j id then (.norm, r.2) else r
  | _ => r
def arrE (fm : Fm) : List Value := (List.range fm.N).map fun i => (fm.t.get i).getD undef
def jmpE (fm : Fm) (s : St) : Option Code → Option (Ex × Fm × St)
  | none => some (.norm, fm, s)
  | some .ret => some (.ret, fm, s)
  | some (.exit j) => some (.exit j, fm, s)
  | _ => none
def rngE (K : Cal) (ps : Array Tmp) (asg body : Code) (fm : Fm) (s : St) : Value → Option (Ex × Fm × St)
  | .func (.func k) l m => (s.new (.deferred (some []))).bind fun s1 => (s1.new (.loop { state := .ready, pending := none, fn := 0, tmps := ⟨arrE fm⟩, params := ps, assign := asg, body := body, defers := BB + s.n })).bind fun s2 =>
    (K.fn k (l.toList ++ [.func (.yield (BB + s1.n)) ⟨[]⟩ ⟨[]⟩] ++ m.toList) s2).bind fun r => match r.1 with
      | .ret _ => (match r.2.h.get s1.n with
        | some (.loop lp) => bif (match lp.state with | .busy => true | _ => false) then none else (r.2.upd s1.n (some (.loop { lp with state := .exhausted }))).bind fun s4 => jmpE { fm with ds := ⟨.collected (BB + s.n), ⟨[]⟩⟩ :: fm.ds } s4 lp.pending
        | _ => none)
      | .pan ch => some (.pan ch, { fm with ds := ⟨.collected (BB + s.n), ⟨[]⟩⟩ :: fm.ds }, r.2)
  | _ => none
def codE (C : Ct) (K : Cal) (dok : Bool) (LF : Nat) : Code → Fm → St → Option (Ex × Fm × St)
  | .skip, fm, s => some (.norm, fm, s)
  | .label _, fm, s => some (.norm, fm, s)
  | .region _ ops draw, fm, s => bif draw then (bif noDS ops then drwE C K ops.toList ops.toList.length false [] [] (Array.replicate ops.toList.length false) fm s else none) else opsE C K dok ops.toList ops.toList fm s
  | .seq x y, fm, s => (codE C K dok LF x fm s).bind fun r => match r.1 with
    | .norm => codE C K dok LF y r.2.1 r.2.2
    | _ => some r
  | .cond c x y, fm, s => match evE fm.t c with
    | some (.bool true) => codE C K dok LF x fm s
    | some (.bool false) => codE C K dok LF y fm s
    | _ => none
  | .block id b, fm, s => (codE C K dok LF b fm s).bind fun r => some (blkE id r)
  | .loop b, fm, s => lopE LF (codE C K dok LF b) fm s
  | .exit id, fm, s => some (.exit id, fm, s)
  | .ret, fm, s => some (.ret, fm, s)
  | .rangeFunc g ps asg body, fm, s => bif dok then (evE fm.t g).bind (rngE K ps asg body fm s) else none
  | _, _, _ => none

section
variable {C : Ct} {w0 : World} {D : Nat → Prop} {N : Nat} {ro : Option Nat} {K : Cal} {dok : Bool} {LF : Nat}

theorem PoE.then {ρ : Env} {r out : Ex × Fm × St} {e : Exit} {a : Act} {w : World} {k : Act → World → Prop} (h : PoE C w0 D ρ N r e a w)
    (hn : r.1 = .norm → ∀ τ a w, Fr (ρ ++ τ) N r.2.1 a → Sr C w0 D (ρ ++ τ) r.2.2 w → k a w) (ho : r.1 ≠ .norm → out = r) : Exit.then k (PoE C w0 D ρ N out) e a w := by
  have h0 := h
  obtain ⟨τ, h1, h2, h3, h4⟩ := h
  obtain ⟨x, fm, s⟩ := r
  cases x with
  | norm =>
    cases e with
    | normal => exact hn rfl τ a w (h3 rfl) h4
    | _ => exact h1.elim
  | exit j => rw [ho (by simp)]; cases e <;> first | exact h0 | exact h1.elim
  | goto j => rw [ho (by simp)]; cases e <;> first | exact h0 | exact h1.elim
  | ret => rw [ho (by simp)]; cases e <;> first | exact h0 | exact h1.elim
  | pan ch => rw [ho (by simp)]; cases e <;> first | exact h0 | exact h1.elim
theorem PoE.block {ρ : Env} {r : Ex × Fm × St} {e : Exit} {a : Act} {w : World} {id : Nat} (h : PoE C w0 D ρ N r e a w) : Exit.inBlock id (PoE C w0 D ρ N (blkE id r)) e a w := by
  have h0 := h
  obtain ⟨τ, h1, h2, h3, h4⟩ := h
  obtain ⟨x, fm, s⟩ := r
  cases x with
  | exit j =>
    cases e with
    | exit j' =>
      have hj : j = j' := h1
      subst hj
      simp only [blkE, Exit.inBlock]
      by_cases hid : j = id
      · subst hid
        rw [if_pos rfl, Nat.beq_refl]
        exact ⟨τ, trivial, (fun hp => by cases hp), (fun _ => h3 rfl), h4⟩
      · have hb : Nat.beq j id = false := by
          cases hk : Nat.beq j id with
          | false => rfl
          | true => exact absurd (Nat.eq_of_beq_eq_true hk) hid
        rw [if_neg hid, hb]
        exact h0
    | _ => exact h1.elim
  | norm => cases e <;> first | exact h0 | exact h1.elim
  | goto j => cases e <;> first | exact h0 | exact h1.elim
  | ret => cases e <;> first | exact h0 | exact h1.elim
  | pan ch => cases e <;> first | exact h0 | exact h1.elim

theorem arr_conc {ρ : Env} {fm : Fm} {a : Act} (h : Fr ρ N fm a) : concA ρ ⟨arrE fm⟩ = some a.tmps := by
  refine concA_mk.2 ?_
  have key : ∀ (k : Nat), k ≤ N → concs ρ ((List.range k).map fun i => (fm.t.get i).getD undef) = some (a.tmps.toList.take k) := by
    intro k
    induction k with
    | zero => intro _; simp [concs_nil]
    | succ k ih =>
      intro hk
      rw [List.range_succ, List.map_append]
      have hlt : k < a.tmps.toList.length := by simpa using (show k < a.tmps.size by rw [h.size]; omega)
      rw [List.take_succ_eq_append_getElem hlt]
      refine concs_app (ih (by omega)) (concs_one ?_)
      have hg : a.tmps.getD k undef = a.tmps.toList[k] := by
        have hlt' : k < a.tmps.size := by rw [h.size]; omega
        simp [Array.getD_eq_getD_getElem?, Array.getElem?_eq_getElem hlt']
      rw [← hg]
      show conc ρ ((fm.t.get k).getD undef) = some _
      cases hq : fm.t.get k with
      | none => rw [Option.getD_none, h.un k hq]; exact conc_undef ρ
      | some v =>
        obtain ⟨u, h1, h2⟩ := h.kn k v hq
        rw [Option.getD_some, h2]; exact h1
  unfold arrE
  rw [h.nn]
  have := key N (Nat.le_refl _)
  rwa [List.take_of_length_le (by have := h.size; simp [this])] at this

theorem concO_loop {ρ : Env} {L : Loc} {lp : Loop} {o : Obj} (h : concO C ρ L (.loop lp) = some o) : ∃ t d, concA ρ lp.tmps = some t ∧ cad ρ lp.defers = some d ∧ o = .loop { lp with tmps := t, defers := d, fn := L.cap } := by
  have h' : (match concA ρ lp.tmps, cad ρ lp.defers with | some t', some d' => some (Obj.loop { lp with tmps := t', defers := d', fn := L.cap }) | _, _ => none) = some o := h
  split at h'
  · rename_i t d h1 h2
    exact ⟨t, d, h1, h2, (Option.some.inj h').symm⟩
  · cases h'
theorem concO_mkloop {ρ : Env} {L : Loc} {lp : Loop} {t : Array Value} {d : Nat} (h1 : concA ρ lp.tmps = some t) (h2 : cad ρ lp.defers = some d) : concO C ρ L (.loop lp) = some (.loop { lp with tmps := t, defers := d, fn := L.cap }) := by
  show (match concA ρ lp.tmps, cad ρ lp.defers with | some t', some d' => some (Obj.loop { lp with tmps := t', defers := d', fn := L.cap }) | _, _ => none) = _
  rw [h1, h2]

theorem rngE_spec (hK : CalOk C K) {ρ : Env} {fm : Fm} {s : St} {a : Act} {w : World} {g : Operand} {ps : Array Tmp} {asg body : Code} {v : Value} {out : Ex × Fm × St} (h : Fr ρ N fm a) (H : Sr C w0 D ρ s w) (hg : evE fm.t g = some v) (hb : rngE K ps asg body fm s v = some out) :
    (Code.rangeFunc g ps asg body).wpIn (Wk.Fr none) 0 C.P (PoE C w0 D ρ N out) a w := by
  obtain ⟨v', hv, he⟩ := evE_spec h hg
  unfold rngE at hb
  split at hb
  · rename_i k l m
    simp only [conc, cfn] at hv
    split at hv
    · rename_i fn' l' m' hfn hl hm
      cases hfn; cases hv
      obtain ⟨s1, hs1, hb⟩ := Option.bind_eq_some_iff.1 hb
      obtain ⟨s2, hs2, hb⟩ := Option.bind_eq_some_iff.1 hb
      obtain ⟨r, hr, hb⟩ := Option.bind_eq_some_iff.1 hb
      refine wpIn_rangeFunc (fun fn _ => ?_)
      let w1 := w.alloc (.deferred (some []))
      let ρ1 := ρ ++ [⟨w.heap.size, 0, []⟩]
      have H1 : Sr C w0 D ρ1 s1 w1 := H.alloc (o' := .deferred (some [])) (cap := 0) (sp := []) rfl hs1
      have hd : cad ρ1 (BB + s.n) = some w.heap.size := by
        unfold cad
        rw [BB_ble, BB_sub, ← H.len]; simp [ρ1]
      let ρ2 := ρ1 ++ [⟨w1.heap.size, fn, []⟩]
      let rc : Loop := { state := .ready, pending := none, fn := fn, tmps := a.tmps, params := ps, assign := asg, body := body, defers := w.heap.size }
      have H2 : Sr C w0 D ρ2 s2 (w1.alloc (.loop rc)) := by
        refine H1.alloc (o' := .loop rc) (cap := fn) (sp := []) ?_ hs2
        exact concO_mkloop (L := ⟨w1.heap.size, fn, []⟩) (concA_mono _ (concA_mono _ (arr_conc h))) (cad_mono _ hd)
      have hl2 : cad ρ2 (BB + s1.n) = some w1.heap.size := by
        unfold cad
        rw [BB_ble, BB_sub, ← H1.len]; simp [ρ2]
      have hgetl : ρ2[s1.n]? = some ⟨w1.heap.size, fn, []⟩ := by rw [← H1.len]; simp [ρ2]
      have hargs : concs ρ2 (l.toList ++ [.func (.yield (BB + s1.n)) ⟨[]⟩ ⟨[]⟩] ++ m.toList) = some (l'.toList ++ [Value.func (.yield w1.heap.size) ⟨[]⟩ ⟨[]⟩] ++ m'.toList) := by
        refine concs_app (concs_app (concs_mono _ (concs_mono _ (concA_iff.1 hl))) (concs_one ?_)) (concs_mono _ (concs_mono _ (concA_iff.1 hm)))
        exact conc_func (fn' := .yield w1.heap.size) (by simp only [cfn, hl2, Option.map_some]) (concs_nil _) (concs_nil _)
      obtain ⟨e, s3⟩ := r
      obtain ⟨⟨fnn, hfn1, hfn2⟩, hcall⟩ := hK.fn _ _ _ _ _ hr
      have hC := hcall w0 D ρ2 (w1.alloc (.loop rc)) _ H2 hargs
      refine ⟨w1.heap.size, [⟨.collected w.heap.size, #[]⟩], w1.alloc (.loop rc), ⟨.fn (.func k) m', l' ++ #[.func (.yield w1.heap.size) #[] #[]]⟩, w1.alloc (.loop rc), k, (l'.toList ++ [Value.func (.yield w1.heap.size) ⟨[]⟩ ⟨[]⟩] ++ m'.toList).toArray, w1.alloc (.loop rc), ?_, ?_, ?_, ?_, ?_, ?_⟩
      · show (Instr.enterLoop fn a.tmps ps asg body none).run C.P w = _
        simp only [Instr.enterLoop, Sem.run_bind, run_newObj_alloc, Result.andThen_ok, run_pure']
        rfl
      · simp only [resolve, rangeCall, he, Deferred.ofValue, run_pure']
        simp [Act.eval]
      · intro f' _; trivial
      · show (callFunc k (l' ++ #[Value.func (.yield w1.heap.size) #[] #[]] ++ m')).run C.P _ = _
        have e1 : l' ++ #[Value.func (.yield w1.heap.size) #[] #[]] ++ m' = (l'.toList ++ [Value.func (.yield w1.heap.size) ⟨[]⟩ ⟨[]⟩] ++ m'.toList).toArray := by apply Array.ext'; simp
        rw [e1]
        exact callFunc_enter hfn1 hfn2 _ _
      · intro hh; simp [Fence.wide] at hh
      · have h6 : CallsIn Fence.wide (0 - 1) C.P k (l'.toList ++ [Value.func (.yield w1.heap.size) ⟨[]⟩ ⟨[]⟩] ++ m'.toList).toArray (w1.alloc (.loop rc)) (fun e' w' => ∃ τ, ErR (ρ2 ++ τ) e e' ∧ Sr C w0 D (ρ2 ++ τ) s3 w') := callsIn_wide.2 hC
        have h7 : CallsIn (Wk.Fr none) (0 - 1) C.P k (l'.toList ++ [Value.func (.yield w1.heap.size) ⟨[]⟩ ⟨[]⟩] ++ m'.toList).toArray (w1.alloc (.loop rc)) (fun e' w' => ∃ τ, ErR (ρ2 ++ τ) e e' ∧ Sr C w0 D (ρ2 ++ τ) s3 w') := h6
        refine CallsIn.mono h7 ?_
        rintro e' w3 ⟨τ, g1, g2⟩
        have hassoc : ρ2 ++ τ = ρ ++ ([⟨w.heap.size, 0, []⟩] ++ [⟨w1.heap.size, fn, []⟩] ++ τ) := by simp [ρ2, ρ1]
        have hfr : ∀ {s4 : St} {w4 : World}, Fr (ρ2 ++ τ) N { fm with ds := ⟨.collected (BB + s.n), ⟨[]⟩⟩ :: fm.ds } { a with defers := [⟨.collected w.heap.size, #[]⟩] ++ a.defers } := fun {s4 w4} => by
          have hm := h.mono ([⟨w.heap.size, 0, []⟩] ++ [⟨w1.heap.size, fn, []⟩] ++ τ)
          rw [← hassoc] at hm
          refine ⟨hm.nn, hm.size, hm.kn, hm.un, ?_⟩
          have hd2 : cad (ρ2 ++ τ) (BB + s.n) = some w.heap.size := cad_mono _ (cad_mono _ hd)
          have hm2 := hm.ds
          simp only [concDs, concD, hd2, concA, concs, Option.map_some, hm2]
          rfl
        cases e with
        | ret vv =>
          simp only at hb
          split at hb
          · rename_i lp hlp
            cases hst : (match lp.state with | .busy => true | _ => false : Bool) with
            | true => rw [hst] at hb; cases hb
            | false =>
              rw [hst, cond_false] at hb
              obtain ⟨s4, hs4, hb⟩ := Option.bind_eq_some_iff.1 hb
              obtain ⟨L3, o', q1, q2, q3⟩ := g2.holds _ _ hlp
              have hL3 : (ρ2 ++ τ)[s1.n]? = some ⟨w1.heap.size, fn, []⟩ := by
                rw [List.getElem?_append_left (List.getElem?_eq_some_iff.1 hgetl).1]; exact hgetl
              rw [hL3] at q1; cases q1
              obtain ⟨t', d', q4, q5, rfl⟩ := concO_loop q2
              have hg' := run_getObj (P := C.P) q3 (by intro c e f hh; cases hh)
              have hset := run_setObj (P := C.P) q3 (by intro c e f hh; cases hh) (.loop { lp with tmps := t', defers := d', fn := fn, state := .exhausted })
              have hlt := (Array.getElem?_eq_some_iff.1 q3).1
              have H4 : Sr C w0 D (ρ2 ++ τ) s4 { w3 with heap := w3.heap.setIfInBounds w1.heap.size (.loop { lp with tmps := t', defers := d', fn := fn, state := .exhausted }) } := by
                refine g2.write hlp hL3 (concO_mkloop (L := ⟨w1.heap.size, fn, []⟩) (lp := { lp with state := .exhausted }) q4 q5) hs4 (by simp [hlt]) (fun z _ hz => ?_) (by simp) rfl rfl rfl
                show (w3.heap.setIfInBounds w1.heap.size _)[z]? = _
                rw [Array.getElem?_setIfInBounds_ne (Ne.symm hz)]
              cases e' with
              | returned u =>
                generalize hw5 : ({ w3 with heap := w3.heap.setIfInBounds w1.heap.size (.loop { lp with tmps := t', defers := d', fn := fn, state := .exhausted }) } : World) = w5 at H4 hset
                refine ⟨lp.pending, w5, ?_, ?_⟩
                · have hnb : (lp.state == LoopState.busy) = false := by
                    cases hs : lp.state <;> rw [hs] at hst <;> first | rfl | cases hst
                  simp only [Instr.endLoop, Instr.getLoop, Sem.run_bind, hg', Result.andThen_ok, run_pure', hnb]
                  simp only [Bool.false_eq_true, if_false, Sem.run_bind, run_pure', Result.andThen_ok, hset]
                · unfold jmpE at hb
                  split at hb
                  · rename_i hp
                    cases hb
                    rw [hp]
                    exact PoE.more (τ := [⟨w.heap.size, 0, []⟩] ++ [⟨w1.heap.size, fn, []⟩] ++ τ) (by rw [← hassoc]; exact PoE.of rfl trivial (hfr (s4 := s4) (w4 := w3)) H4)
                  · rename_i hp
                    cases hb
                    rw [hp]
                    exact wpIn_ret (PoE.more (τ := [⟨w.heap.size, 0, []⟩] ++ [⟨w1.heap.size, fn, []⟩] ++ τ) (by rw [← hassoc]; exact PoE.of rfl trivial (hfr (s4 := s4) (w4 := w3)) H4))
                  · rename_i j hp
                    cases hb
                    rw [hp]
                    exact wpIn_exit (PoE.more (τ := [⟨w.heap.size, 0, []⟩] ++ [⟨w1.heap.size, fn, []⟩] ++ τ) (by rw [← hassoc]; exact PoE.of rfl rfl (hfr (s4 := s4) (w4 := w3)) H4))
                  · cases hb
              | panicked ch => exact g1.elim
              | outgrown => exact g1.elim
          · cases hb
        | pan ch =>
          simp only [Option.some.injEq] at hb
          subst hb
          cases e' with
          | returned u => exact g1.elim
          | panicked ch' =>
            exact PoE.more (τ := [⟨w.heap.size, 0, []⟩] ++ [⟨w1.heap.size, fn, []⟩] ++ τ) (by rw [← hassoc]; exact PoE.pan (τ := []) (by rw [List.append_nil]; exact g1) (by rw [List.append_nil]; exact (hfr (s4 := s3) (w4 := w3)).x) (by rw [List.append_nil]; exact g2))
          | outgrown => exact g1.elim
    · cases hv
  · cases hb

theorem codE_spec (hK : CalOk C K) (hro : dok = true → ro = none) : ∀ {c : Code} {ρ : Env} {fm : Fm} {s : St} {a : Act} {w : World} {out : Ex × Fm × St}, Fr ρ N fm a → Sr C w0 D ρ s w → codE C K dok LF c fm s = some out → c.wpIn (Wk.Fr ro) 0 C.P (PoE C w0 D ρ N out) a w := by
  intro c
  induction c with
  | skip => intro ρ fm s a w out h H hb; simp only [codE, Option.some.injEq] at hb; subst hb; exact wpIn_skip (PoE.of rfl trivial h H)
  | label l => intro ρ fm s a w out h H hb; simp only [codE, Option.some.injEq] at hb; subst hb; exact wpIn_label (PoE.of rfl trivial h H)
  | exit id => intro ρ fm s a w out h H hb; simp only [codE, Option.some.injEq] at hb; subst hb; exact wpIn_exit (PoE.of rfl rfl h H)
  | ret => intro ρ fm s a w out h H hb; simp only [codE, Option.some.injEq] at hb; subst hb; exact wpIn_ret (PoE.of rfl trivial h H)
  | region id ops draw =>
    intro ρ fm s a w out h H hb
    obtain ⟨ops⟩ := ops
    simp only [codE] at hb
    cases draw with
    | false =>
      rw [cond_false] at hb
      exact wpIn_region_lit (opsE_spec hK hro h H hb)
    | true =>
      rw [cond_true] at hb
      cases hns : noDS ⟨ops⟩ with
      | false => rw [hns] at hb; cases hb
      | true =>
        rw [hns, cond_true] at hb
        refine wpIn_region_any C.mixed ?_
        have h1 := drwE_spec (ro := ro) (LS := []) (LA := []) (rec := []) hK hns h H.drew (show LR ρ [] [] from trivial) (by intro hh; cases hh) hb
        have h2 := AnyR.sound _ _ _ _ _ h1
        simpa using h2
  | seq x y ihx ihy =>
    intro ρ fm s a w out h H hb
    simp only [codE] at hb
    obtain ⟨r, hr, hb⟩ := Option.bind_eq_some_iff.1 hb
    refine wpIn_seq (wpIn_mono (ihx h H hr) (fun e a w hp => hp.then (fun hn τ a w h' H' => ?_) (fun hn => ?_)))
    · obtain ⟨x', fm', s'⟩ := r
      simp only at hn; subst hn
      exact wpIn_mono (ihy h' H' hb) (fun e a w hq => hq.more)
    · obtain ⟨x', fm', s'⟩ := r
      cases x' <;> first | exact absurd rfl hn | (cases hb; rfl)
  | cond c x y ihx ihy =>
    intro ρ fm s a w out h H hb
    simp only [codE] at hb
    split at hb
    · rename_i hc
      obtain ⟨u, hu, he⟩ := evE_spec h hc
      simp only [conc, Option.some.injEq] at hu; subst hu
      exact wpIn_cond_true he (ihx h H hb)
    · rename_i hc
      obtain ⟨u, hu, he⟩ := evE_spec h hc
      simp only [conc, Option.some.injEq] at hu; subst hu
      exact wpIn_cond_false he (ihy h H hb)
    · cases hb
  | block id b ih =>
    intro ρ fm s a w out h H hb
    simp only [codE] at hb
    obtain ⟨r, hr, hb⟩ := Option.bind_eq_some_iff.1 hb
    cases hb
    exact wpIn_block (wpIn_mono (ih h H hr) (fun e a w hp => hp.block))
  | loop b ih =>
    intro ρ fm s a w out h H hb
    simp only [codE] at hb
    have key : ∀ (n : Nat) {ρ : Env} {fm : Fm} {s : St} {a : Act} {w : World}, Fr ρ N fm a → Sr C w0 D ρ s w → lopE n (codE C K dok LF b) fm s = some out → Unr (Wk.Fr ro) C.P b (PoE C w0 D ρ N out) n a w := by
      intro n
      induction n with
      | zero => intro ρ fm s a w h H hb; cases hb
      | succ n ihn =>
        intro ρ fm s a w h H hb
        simp only [lopE] at hb
        obtain ⟨r, hr, hb⟩ := Option.bind_eq_some_iff.1 hb
        refine wpIn_mono (ih h H hr) (fun e a w hp => hp.then (fun hn τ a w h' H' => ?_) (fun hn => ?_))
        · obtain ⟨x', fm', s'⟩ := r
          simp only at hn; subst hn
          have h5 := ihn h' H' hb
          have mono : ∀ (n : Nat) (a : Act) (w : World), Unr (Wk.Fr ro) C.P b (PoE C w0 D (ρ ++ τ) N out) n a w → Unr (Wk.Fr ro) C.P b (PoE C w0 D ρ N out) n a w := by
            intro n
            induction n with
            | zero => intro a w hh; exact hh
            | succ n ih2 =>
              intro a w hh
              refine wpIn_mono hh (fun e a w hq => ?_)
              cases e with
              | normal => exact ih2 a w hq
              | _ => exact PoE.more hq
          exact mono n a w h5
        · obtain ⟨x', fm', s'⟩ := r
          cases x' <;> first | exact absurd rfl hn | (cases hb; rfl)
    exact wpIn_unr (key LF h H hb)
  | rangeFunc g ps asg body _ _ =>
    intro ρ fm s a w out h H hb
    simp only [codE] at hb
    cases hd : dok with
    | false => rw [hd] at hb; cases hb
    | true =>
      rw [hd, cond_true] at hb
      have hr := hro hd
      subst hr
      obtain ⟨v, hv, hb⟩ := Option.bind_eq_some_iff.1 hb
      exact rngE_spec hK h H hv hb
  | _ => intro ρ fm s a w out h H hb; cases hb
end
end Go.Ev
